-- Made by this session's program gen.py over the translation.
import Derived.Test.YtlmegefdnkjcbaaPa0
import Derived.Test.YtlmegefdnkjcbaaPa3
import Derived.Test.YtlmegefdnkjcbaaPa9
namespace Go.Proofs.Ytlmegefdnkjcbaa.Pa
open Go.RowKit Go.Proofs.YtlmegefdnkjcbaaW.PrintWords Go.Proofs.YtlmegefdnkjcbaaW.PrintLast Go.Proofs.YtlmegefdnkjcbaaW.PrintMore
attribute [local go_sem] max2_int min2_int max_two min_two max_three min_three max_four min_four   -- for this text's walks alone
set_option linter.unusedVariables false
set_option linter.unusedSimpArgs false
set_option maxHeartbeats 8000000
set_option maxRecDepth 100000

/-! ### spec_cvTiles: function 57 -/
def spec_cvTiles.l0 : Nat → List (S54) → Int → List Int → Int → Option (List Int)
 | 0, _, _, _, _ => none
 | k + 1, x0, x1, x5, x6 => if x6 < 13 then ((spec_cvTile.f k x0 x1 x6).bind fun bt1008 => (if bt1008.2.2 = true then (if x5.length < 17592186044416 then (spec_cvTiles.l0 k x0 x1 (x5 ++ [x6]) (wrap64 (x6 + 1))) else (none)) else (spec_cvTiles.l0 k x0 x1 x5 (wrap64 (x6 + 1))))) else (some x5)
def spec_cvTiles.f (k : Nat) (l0 : List (S54)) (a1 : Int) : Option (List Int) := spec_cvTiles.l0 k l0 a1 ([] : List Int) 0
theorem spec_cvTiles.calls (k : Nat) (A0 : Option Addr) (c0 : Nat) (l0 : List (S54)) (a1 : Int) (r : List Int) (w : World) (hr0 : Kd.C k54 w A0 l0.length l0) (hc0 : l0.length ≤ c0) (h : spec_cvTiles.f k l0 a1 = some r) :
  Calls Try.prog 57 #[.slice A0 l0.length c0, .int .i64 a1] w fun e w' => ∃ v0_ : Value, e = .returned (v0_) ∧ Kd.R (Kd.int .i64) 3 w' w.heap.size (fun _ => True) v0_ r ∧ Below w.heap.size w w' := by
 have HR0 := Aside0.mk hr0
 have HC0 := Aside0.mk hc0
 clear hr0 hc0
 have HB := Aside0.mk (Below.refl w.heap.size w)
 have H := h
 clear h
 unfold spec_cvTiles.f at H
 have H' := Aside0.mk H
 clear H
 go_enter Try.func57, Try.ntmps57
 go_wp2
 go_loopg [5, 6] k (fun kq v5 v6 w' => ∃ (x5_1 : List Int) (x6_1 : Int), v6 = .int .i64 x6_1 ∧ Aside0 (spec_cvTiles.l0 kq l0 a1 x5_1 x6_1 = some r) ∧ Aside0 (kq ≤ k) ∧ Aside0 (Kd.R (Kd.int .i64) 3 w' w.heap.size (fun _ => True) v5 x5_1) ∧ Aside0 (Below w.heap.size w w'))
 case atStart => exact ⟨(([] : List Int)), (0), EQ1, H', ⟨Nat.le_refl _⟩, ⟨by first | exact Kd.R_nil _ _ _ _ _ | exact Kd.N_nil _ _ _ _ _ | exact Kd.V_nil _ _ _ _ _ | exact Kd.Q_nil _ _ _ _ _ | exact Kd.S_nil _ _ _ _ _⟩, ⟨BA⟩⟩
 case round =>
  clear H'
  obtain ⟨x5_1, x6_1, rfl, HA, HK1, HO_5, HB⟩ := hrel
  cases gk with
  | zero => exact absurd HA.out (by simp [spec_cvTiles.l0])
  | succ k1 =>
   have H := HA.out
   clear HA
   simp only [spec_cvTiles.l0] at H
   by_cases c3 : x6_1 < 13
   ·rw [if_pos c3] at H
    have c3b0 := decide_eq_true c3
    clear c3
    replace H := Option.bind_eq_some_iff.mp H
    obtain ⟨⟨t1008, t1009, t1010⟩, A40, H⟩ := H
    (try dsimp only at H)
    have A4 := Aside0.mk A40
    clear A40
    by_cases c5 : t1010 = true
    ·subst c5
     rw [if_pos rfl] at H
     obtain ⟨c6, H⟩ := ifs H
     have LMc6 := Aside0.mk c6
     clear c6
     obtain ⟨y1015, hy1015⟩ : ∃ y_ : List Int, y_ = (x5_1 ++ [x6_1]) := ⟨_, rfl⟩
     replace H : (spec_cvTiles.l0 k1 l0 a1 y1015 (wrap64 (x6_1 + 1))) = some r := by first | (rw [hy1015]; with_reducible exact H) | (have H2_ := (Option.bind_some _ _).symm.trans H; rw [hy1015]; with_reducible exact H2_) | (have H2_ := (Option.bind_some _ _).symm.trans H; with_reducible exact H2_) | with_reducible exact H | (rw [hy1015]; exact H) | exact H
     have Ny1015 := Aside0.mk hy1015
     clear hy1015
     have H' := Aside0.mk H
     clear H
     go_wp2_with (first | ((with_reducible refine gate_callee (f := 53) rfl ?_); refine gK (some 18) Try.func53 #[.slice A0 l0.length c0, .int .i64 a1, .int .i64 x6_1] rfl rfl rfl ?_; (with_reducible refine (spec_cvTile.calls k1 _ _ l0 a1 x6_1 t1008 t1009 true _ ?side1 ?side2 A4.out).mono ?_); (case side1 => exact cb (Kd.C_below HR0.out HB.out)); (case side2 => exact HC0.out); rintro e w7 ⟨v1011, v1013, rfl, ho0, ho1, hb⟩; refine ⟨_, rfl, ?_⟩; have HO1012 := Aside0.mk (Kd.R_lower (Kd.R_new' ho0 (Kd.R_lt (rb HO_5.out))) (below_size BA)); have HO1014 := Aside0.mk (Kd.R_lower (Kd.R_new' ho1 (Kd.R_lt (rb HO_5.out))) (below_size BA)); replace HO_5 := Aside0.mk (Kd.R_mono (Kd.R_told (Kd.R_told (Kd.R_old (rb HO_5.out) hb) (Kd.R_base ho0)) (Kd.R_base ho1)) (fun _ h_ => h_.1)); replace HB := bs hb; (try clear hb); (try clear ho0); (try clear ho1)) | ((with_reducible refine gate_builtin (b := .append) (xs := #[.tmp 23, .tmp 25]) rfl ?_); at_builtin; refine Kd.R_append (Kd.int .i64) (w0 := w) w.heap.size rfl (.tmp 23) (.tmp 25) 30 3 (.int .i64 0) 8 rfl Try.underlying30 info3 rfl (by decide) (by omega) u5 x5_1 x6_1 [.int .i64 x6_1] (fun k_ => some k_ ≠ (v1011 : Value).ownBlock ∧ some k_ ≠ (v1013 : Value).ownBlock) (fun _ => False) rfl rfl ?aP (fun _ hk => hk.elim) ?aF ?aO ?aB ?aS ?aL ?_; (case aP => exact rfl); (case aB => exact BA); (case aF => exact (fun k_ hk => ⟨Kd.fresh' (Kd.R_lt (rb HO1012.out)) k_ hk, Kd.fresh' (Kd.R_lt (rb HO1014.out)) k_ hk⟩)); (case aO => exact (rb (Kd.R_mono HO_5.out (fun _ hk => ⟨hk.1.2, hk.2⟩)))); (case aS => exact (below_size BA)); (case aL => have := LMc6.out; omega); intro v1016 w8 ho hb hg hat; rw [← Ny1015.out] at ho; have n0_ := Aside0.mk (Kd.R_after (ok := (fun k_ => some k_ ≠ (v1013 : Value).ownBlock)) (rb HO1012.out) hg hat); have n1_ := Aside0.mk (Kd.R_after (ok := (fun k_ => some k_ ≠ (v1011 : Value).ownBlock)) (rb HO1014.out) hg hat); have n2_ := Aside0.mk (hb); have n3_ := Aside0.mk (ho); clear HO1012; clear HO1014; clear HB; clear HO_5; have HO1012 := n0_; have HO1014 := n1_; have HB := n2_; have HO1017 := n3_; clear n0_ n1_ n2_ n3_; clear ho hb hg hat))
     go_roundg k1
     case measure => have := HK1.out; omega
     case rel => exact ⟨(y1015), (wrap64 (x6_1 + 1)), EQ1, H', ⟨by have := HK1.out; omega⟩, ⟨rb (Kd.R_mono HO1017.out (fun _ hk => trivial))⟩, ⟨BA⟩⟩
    ·replace c5 := Bool.eq_false_iff.mpr c5
     subst c5
     rw [if_neg (show ¬ (false = true) by decide)] at H
     have H' := Aside0.mk H
     clear H
     go_wp2_with (first | ((with_reducible refine gate_callee (f := 53) rfl ?_); refine gK (some 18) Try.func53 #[.slice A0 l0.length c0, .int .i64 a1, .int .i64 x6_1] rfl rfl rfl ?_; (with_reducible refine (spec_cvTile.calls k1 _ _ l0 a1 x6_1 t1008 t1009 false _ ?side1 ?side2 A4.out).mono ?_); (case side1 => exact cb (Kd.C_below HR0.out HB.out)); (case side2 => exact HC0.out); rintro e w9 ⟨v1011, v1013, rfl, ho0, ho1, hb⟩; refine ⟨_, rfl, ?_⟩; have HO1012 := Aside0.mk (Kd.R_lower (Kd.R_new' ho0 (Kd.R_lt (rb HO_5.out))) (below_size BA)); have HO1014 := Aside0.mk (Kd.R_lower (Kd.R_new' ho1 (Kd.R_lt (rb HO_5.out))) (below_size BA)); replace HO_5 := Aside0.mk (Kd.R_mono (Kd.R_told (Kd.R_told (Kd.R_old (rb HO_5.out) hb) (Kd.R_base ho0)) (Kd.R_base ho1)) (fun _ h_ => h_.1)); replace HB := bs hb; (try clear hb); (try clear ho0); (try clear ho1)))
     go_roundg k1
     case measure => have := HK1.out; omega
     case rel => exact ⟨(x5_1), (wrap64 (x6_1 + 1)), EQ1, H', ⟨by have := HK1.out; omega⟩, ⟨rb (Kd.R_mono HO_5.out (fun _ hk => trivial))⟩, ⟨BA⟩⟩
   ·rw [if_neg c3] at H
    have c3b0 := decide_eq_false c3
    clear c3
    obtain rfl := Option.some.inj H
    go_wp2
    go_ret
    exact ⟨_, EQ, rb HO_5.out, BA⟩

/-! ### impl_tilesAt: function 60 -/
def impl_tilesAt.l0 : Nat → List (S54) → Int → List Int → Int → Option (List Int)
 | 0, _, _, _, _ => none
 | k + 1, x0, x1, x5, x10 => if x10 < 13 then ((impl_tileAt.f k x0 x1 x10).bind fun bt1026 => (if bt1026.2.2.2 = true then (if x5.length < 17592186044416 then (impl_tilesAt.l0 k x0 x1 (x5 ++ [x10]) (wrap64 (x10 + 1))) else (none)) else (impl_tilesAt.l0 k x0 x1 x5 (wrap64 (x10 + 1))))) else (some x5)
def impl_tilesAt.f (k : Nat) (l0 : List (S54)) (a1 : Int) : Option (List Int) := impl_tilesAt.l0 k l0 a1 (([] : List Int)) 0
theorem impl_tilesAt.calls (k : Nat) (A0 : Option Addr) (c0 : Nat) (l0 : List (S54)) (a1 : Int) (r : List Int) (w : World) (hr0 : Kd.C k54 w A0 l0.length l0) (hc0 : l0.length ≤ c0) (h : impl_tilesAt.f k l0 a1 = some r) :
  Calls Try.prog 60 #[.slice A0 l0.length c0, .int .i64 a1] w fun e w' => ∃ v0_ : Value, e = .returned (v0_) ∧ Kd.R (Kd.int .i64) 3 w' w.heap.size (fun _ => True) v0_ r ∧ Below w.heap.size w w' := by
 have hu57 := Try.underlying57
 have HR0 := Aside0.mk hr0
 have HC0 := Aside0.mk hc0
 clear hr0 hc0
 have HB := Aside0.mk (Below.refl w.heap.size w)
 have H := h
 clear h
 unfold impl_tilesAt.f at H
 obtain ⟨y1023, hy1023⟩ : ∃ y_ : List Int, y_ = (([] : List Int)) := ⟨_, rfl⟩
 replace H : (impl_tilesAt.l0 k l0 a1 y1023 0) = some r := by first | (rw [hy1023]; with_reducible exact H) | (have H2_ := (Option.bind_some _ _).symm.trans H; rw [hy1023]; with_reducible exact H2_) | (have H2_ := (Option.bind_some _ _).symm.trans H; with_reducible exact H2_) | with_reducible exact H | (rw [hy1023]; exact H) | exact H
 have Ny1023 := Aside0.mk hy1023
 clear hy1023
 have H' := Aside0.mk H
 clear H
 go_enter Try.func60, Try.ntmps60
 go_wp2_with (first | ((with_reducible refine gate_dst (N := 9) rfl ?_); refine li 9 3 Ny1023.out ?_; intro v1024 w3 ho4 hb; have HO1025 := Aside0.mk (Kd.R_lower ho4 (below_size BA)); replace HB := bs hb; clear hb ho4))
 go_loopg [5, 10] k (fun kq v5 v10 w' => ∃ (x5_1 : List Int) (x10_1 : Int), v10 = .int .i64 x10_1 ∧ Aside0 (impl_tilesAt.l0 kq l0 a1 x5_1 x10_1 = some r) ∧ Aside0 (kq ≤ k) ∧ Aside0 (Kd.R (Kd.int .i64) 3 w' w.heap.size (fun _ => True) v5 x5_1) ∧ Aside0 (Below w.heap.size w w'))
 case atStart => exact ⟨(y1023), (0), EQ1, H', ⟨Nat.le_refl _⟩, ⟨rb HO1025.out⟩, ⟨BA⟩⟩
 case round =>
  clear H'
  obtain ⟨x5_1, x10_1, rfl, HA, HK1, HO_5, HB⟩ := hrel
  cases gk with
  | zero => exact absurd HA.out (by simp [impl_tilesAt.l0])
  | succ k1 =>
   have H := HA.out
   clear HA
   simp only [impl_tilesAt.l0] at H
   by_cases c5 : x10_1 < 13
   ·rw [if_pos c5] at H
    have c5b0 := decide_eq_true c5
    clear c5
    replace H := Option.bind_eq_some_iff.mp H
    obtain ⟨⟨t1026, t1029, t1032, t1033⟩, A60, H⟩ := H
    (try dsimp only at H)
    have A6 := Aside0.mk A60
    clear A60
    by_cases c7 : t1033 = true
    ·subst c7
     rw [if_pos rfl] at H
     obtain ⟨c8, H⟩ := ifs H
     have LMc8 := Aside0.mk c8
     clear c8
     obtain ⟨y1035, hy1035⟩ : ∃ y_ : List Int, y_ = (x5_1 ++ [x10_1]) := ⟨_, rfl⟩
     replace H : (impl_tilesAt.l0 k1 l0 a1 y1035 (wrap64 (x10_1 + 1))) = some r := by first | (rw [hy1035]; with_reducible exact H) | (have H2_ := (Option.bind_some _ _).symm.trans H; rw [hy1035]; with_reducible exact H2_) | (have H2_ := (Option.bind_some _ _).symm.trans H; with_reducible exact H2_) | with_reducible exact H | (rw [hy1035]; exact H) | exact H
     have Ny1035 := Aside0.mk hy1035
     clear hy1035
     have H' := Aside0.mk H
     clear H
     go_wp2_with (first | ((with_reducible refine gate_callee (f := 78) rfl ?_); refine gK (some 17) Try.func78 #[.slice A0 l0.length c0, .int .i64 a1, .int .i64 x10_1] rfl rfl rfl ?_; (with_reducible refine (impl_tileAt.calls k1 _ _ l0 a1 x10_1 t1026 t1029 t1032 true _ ?side1 ?side2 A6.out).mono ?_); (case side1 => exact cb (Kd.C_below HR0.out HB.out)); (case side2 => exact HC0.out); rintro e w9 ⟨v1027, v1030, rfl, ho0, ho1, hb⟩; refine ⟨_, rfl, ?_⟩; have HO1028 := Aside0.mk (Kd.R_lower (Kd.R_new' ho0 (Kd.R_lt (rb HO_5.out))) (below_size BA)); have HO1031 := Aside0.mk (Kd.R_lower (Kd.R_new' ho1 (Kd.R_lt (rb HO_5.out))) (below_size BA)); replace HO_5 := Aside0.mk (Kd.R_mono (Kd.R_told (Kd.R_told (Kd.R_old (rb HO_5.out) hb) (Kd.R_base ho0)) (Kd.R_base ho1)) (fun _ h_ => h_.1)); replace HB := bs hb; (try clear hb); (try clear ho0); (try clear ho1)) | ((with_reducible refine gd 7 rfl ?_); refine bx 7 #[.slice none 0 0, .slice none 0 0, .int .i64 0] 57 ?_; intro gb1034 hg w10 BK1034 GW1034 HB hb; replace HO_5 := Aside0.mk (Kd.R_below (rb HO_5.out) hb); replace HO1028 := Aside0.mk (Kd.R_below (rb HO1028.out) hb); replace HO1031 := Aside0.mk (Kd.R_below (rb HO1031.out) hb); have GE1034 := GW1034; clear hb hg; obtain ⟨Ao11, co11, eo11⟩ := Kd.R_slice HO1028.out; subst eo11; obtain ⟨hcz12_0, hcz12_1, hcz12_2⟩ := bc3 BK1034.out; have hfz12 := blk_frozen BK1034.out; obtain ⟨Ao13, co13, eo13⟩ := Kd.R_slice HO1031.out; subst eo13) | ((with_reducible refine gate_builtin (b := .append) (xs := #[.tmp 21, .tmp 23]) rfl ?_); at_builtin; refine Kd.R_append (Kd.int .i64) (w0 := w) w.heap.size rfl (.tmp 21) (.tmp 23) 30 3 (.int .i64 0) 8 rfl Try.underlying30 info3 rfl (by decide) (by omega) u5 x5_1 x10_1 [.int .i64 x10_1] (fun k_ => some k_ ≠ (.slice Ao11 t1026.length co11 : Value).ownBlock ∧ some k_ ≠ (.slice Ao13 t1029.length co13 : Value).ownBlock) (fun _ => False) rfl (by first | (go_simp; done) | (go_simp; rfl)) ?aP (fun _ hk => hk.elim) ?aF ?aO ?aB ?aS ?aL ?_; (case aP => exact rfl); (case aB => exact BA); (case aF => exact (fun k_ hk => ⟨Kd.fresh' (Kd.R_lt (rb (Kd.R_mono (Kd.R_far (p := ⟨gb1034, 2, none⟩) (Kd.R_far (p := ⟨gb1034, 1, none⟩) (Kd.R_far (p := ⟨gb1034, 0, none⟩) (Kd.R_types HO1028.out BK1034.out (by decide)) (fun _ hk => hk.2) (.slice Ao11 t1026.length co11)) (fun _ hk => hk.2) (.slice Ao13 t1029.length co13)) (fun _ hk => hk.2) (.int .i64 t1032)) (fun _ h_ => h_.1)))) k_ hk, Kd.fresh' (Kd.R_lt (rb (Kd.R_mono (Kd.R_far (p := ⟨gb1034, 2, none⟩) (Kd.R_far (p := ⟨gb1034, 1, none⟩) (Kd.R_far (p := ⟨gb1034, 0, none⟩) (Kd.R_types HO1031.out BK1034.out (by decide)) (fun _ hk => hk.2) (.slice Ao11 t1026.length co11)) (fun _ hk => hk.2) (.slice Ao13 t1029.length co13)) (fun _ hk => hk.2) (.int .i64 t1032)) (fun _ h_ => h_.1)))) k_ hk⟩)); (case aO => exact (rb (Kd.R_mono (Kd.R_far (p := ⟨gb1034, 2, none⟩) (Kd.R_far (p := ⟨gb1034, 1, none⟩) (Kd.R_far (p := ⟨gb1034, 0, none⟩) (Kd.R_types HO_5.out BK1034.out (by decide)) (fun _ hk => hk.2) (.slice Ao11 t1026.length co11)) (fun _ hk => hk.2) (.slice Ao13 t1029.length co13)) (fun _ hk => hk.2) (.int .i64 t1032)) (fun _ hk => ⟨hk.1.1.2, hk.1.2⟩)))); (case aS => exact (below_size BA)); (case aL => have := LMc8.out; omega); intro v1036 w14 ho hb hg hat; rw [← Ny1035.out] at ho; have n0_ := Aside0.mk (Kd.R_after (ok := (fun k_ => some k_ ≠ (.slice Ao13 t1029.length co13 : Value).ownBlock)) (rb (Kd.R_mono (Kd.R_far (p := ⟨gb1034, 2, none⟩) (Kd.R_far (p := ⟨gb1034, 1, none⟩) (Kd.R_far (p := ⟨gb1034, 0, none⟩) (Kd.R_types HO1028.out BK1034.out (by decide)) (fun _ hk => hk.2) (.slice Ao11 t1026.length co11)) (fun _ hk => hk.2) (.slice Ao13 t1029.length co13)) (fun _ hk => hk.2) (.int .i64 t1032)) (fun _ hk => ⟨hk.1.1, hk.1.2⟩))) hg hat); have n1_ := Aside0.mk (Kd.R_after (ok := (fun k_ => some k_ ≠ (.slice Ao11 t1026.length co11 : Value).ownBlock)) (rb (Kd.R_mono (Kd.R_far (p := ⟨gb1034, 2, none⟩) (Kd.R_far (p := ⟨gb1034, 1, none⟩) (Kd.R_far (p := ⟨gb1034, 0, none⟩) (Kd.R_types HO1031.out BK1034.out (by decide)) (fun _ hk => hk.2) (.slice Ao11 t1026.length co11)) (fun _ hk => hk.2) (.slice Ao13 t1029.length co13)) (fun _ hk => hk.2) (.int .i64 t1032)) (fun _ hk => ⟨hk.1.1, hk.1.2⟩))) hg hat); have n2_ := Aside0.mk (blk_grown (g := gb1034) (o := .cells #[.slice Ao11 t1026.length co11, .slice Ao13 t1029.length co13, .int .i64 t1032] 57 (0, 0)) (bq BK1034.out) hg (Kd.R_ne HO_5.out BK1034.out (by decide))); have n3_ := Aside0.mk (hb); have n4_ := Aside0.mk (ho); clear HO1028; clear HO1031; clear BK1034; clear HB; clear HO_5; have HO1028 := n0_; have HO1031 := n1_; have BK1034 := n2_; have HB := n3_; have HO1037 := n4_; clear n0_ n1_ n2_ n3_ n4_; clear ho hb hg hat))
     go_roundg k1
     case measure => have := HK1.out; omega
     case rel => exact ⟨(y1035), (wrap64 (x10_1 + 1)), EQ1, H', ⟨by have := HK1.out; omega⟩, ⟨rb (Kd.R_mono HO1037.out (fun _ hk => trivial))⟩, ⟨BA⟩⟩
    ·replace c7 := Bool.eq_false_iff.mpr c7
     subst c7
     rw [if_neg (show ¬ (false = true) by decide)] at H
     have H' := Aside0.mk H
     clear H
     go_wp2_with (first | ((with_reducible refine gate_callee (f := 78) rfl ?_); refine gK (some 17) Try.func78 #[.slice A0 l0.length c0, .int .i64 a1, .int .i64 x10_1] rfl rfl rfl ?_; (with_reducible refine (impl_tileAt.calls k1 _ _ l0 a1 x10_1 t1026 t1029 t1032 false _ ?side1 ?side2 A6.out).mono ?_); (case side1 => exact cb (Kd.C_below HR0.out HB.out)); (case side2 => exact HC0.out); rintro e w15 ⟨v1027, v1030, rfl, ho0, ho1, hb⟩; refine ⟨_, rfl, ?_⟩; have HO1028 := Aside0.mk (Kd.R_lower (Kd.R_new' ho0 (Kd.R_lt (rb HO_5.out))) (below_size BA)); have HO1031 := Aside0.mk (Kd.R_lower (Kd.R_new' ho1 (Kd.R_lt (rb HO_5.out))) (below_size BA)); replace HO_5 := Aside0.mk (Kd.R_mono (Kd.R_told (Kd.R_told (Kd.R_old (rb HO_5.out) hb) (Kd.R_base ho0)) (Kd.R_base ho1)) (fun _ h_ => h_.1)); replace HB := bs hb; (try clear hb); (try clear ho0); (try clear ho1)) | ((with_reducible refine gd 7 rfl ?_); refine bx 7 #[.slice none 0 0, .slice none 0 0, .int .i64 0] 57 ?_; intro gb1034 hg w16 BK1034 GW1034 HB hb; replace HO_5 := Aside0.mk (Kd.R_below (rb HO_5.out) hb); replace HO1028 := Aside0.mk (Kd.R_below (rb HO1028.out) hb); replace HO1031 := Aside0.mk (Kd.R_below (rb HO1031.out) hb); have GE1034 := GW1034; clear hb hg; obtain ⟨Ao17, co17, eo17⟩ := Kd.R_slice HO1028.out; subst eo17; obtain ⟨hcz18_0, hcz18_1, hcz18_2⟩ := bc3 BK1034.out; have hfz18 := blk_frozen BK1034.out; obtain ⟨Ao19, co19, eo19⟩ := Kd.R_slice HO1031.out; subst eo19))
     go_roundg k1
     case measure => have := HK1.out; omega
     case rel => exact ⟨(x5_1), (wrap64 (x10_1 + 1)), EQ1, H', ⟨by have := HK1.out; omega⟩, ⟨rb (Kd.R_mono (Kd.R_far (p := ⟨gb1034, 2, none⟩) (Kd.R_far (p := ⟨gb1034, 1, none⟩) (Kd.R_far (p := ⟨gb1034, 0, none⟩) (Kd.R_types HO_5.out BK1034.out (by decide)) (fun _ hk => hk.2) (.slice Ao17 t1026.length co17)) (fun _ hk => hk.2) (.slice Ao19 t1029.length co19)) (fun _ hk => hk.2) (.int .i64 t1032)) (fun _ hk => trivial))⟩, ⟨BA⟩⟩
   ·rw [if_neg c5] at H
    have c5b0 := decide_eq_false c5
    clear c5
    obtain rfl := Option.some.inj H
    go_wp2
    go_ret
    exact ⟨_, EQ, rb HO_5.out, BA⟩

end Go.Proofs.Ytlmegefdnkjcbaa.Pa
