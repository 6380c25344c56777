-- Made by this session's program gen.py over the translation.
import Derived.Test.YtlmegefdnkjcbaaPa0
import Derived.Test.YtlmegefdnkjcbaaPa1
import Derived.Test.YtlmegefdnkjcbaaPa3
import Derived.Test.YtlmegefdnkjcbaaPa4
import Derived.Test.YtlmegefdnkjcbaaPa9
import Derived.Test.YtlmegefdnkjcbaaPa10
import Derived.Test.YtlmegefdnkjcbaaPa13
import Derived.Test.YtlmegefdnkjcbaaPa14
namespace Go.Proofs.Ytlmegefdnkjcbaa.Pa
open Go.RowKit Go.Proofs.YtlmegefdnkjcbaaW.PrintWords Go.Proofs.YtlmegefdnkjcbaaW.PrintLast Go.Proofs.YtlmegefdnkjcbaaW.PrintMore
attribute [local go_sem] max2_int min2_int max_two min_two max_three min_three max_four min_four   -- for this text's walks alone
set_option linter.unusedVariables false
set_option linter.unusedSimpArgs false
set_option maxHeartbeats 8000000
set_option maxRecDepth 100000

/-! ### spec_TileInner: function 20 -/
def spec_TileInner.f (k : Nat) (l0 : List (S54)) (a1 : Int) (a2 : Int) : Option (List Int × Bool) := (spec_cvAt.f k l0 a1 a2).bind fun t892 => (if t892 = true then ((spec_cvTile.f k l0 a1 a2).bind fun bt893 => (some (bt893.2.1, true))) else (some (([] : List Int), false)))
theorem spec_TileInner.calls (k : Nat) (A0 : Option Addr) (c0 : Nat) (l0 : List (S54)) (a1 : Int) (a2 : Int) (r1 : List Int) (r2 : Bool) (w : World) (hr0 : Kd.C k54 w A0 l0.length l0) (hc0 : l0.length ≤ c0) (h : spec_TileInner.f k l0 a1 a2 = some (r1, r2)) :
  Calls Try.prog 20 #[.slice A0 l0.length c0, .int .i64 a1, .int .i64 a2] w fun e w' => ∃ v0_ : Value, e = .returned (.tuple #[v0_, .bool r2]) ∧ Kd.R (Kd.int .i64) 3 w' w.heap.size (fun _ => True) v0_ r1 ∧ Below w.heap.size w w' := by
 have HR0 := Aside0.mk hr0
 have HC0 := Aside0.mk hc0
 clear hr0 hc0
 have HB := Aside0.mk (Below.refl w.heap.size w)
 have H := h
 clear h
 unfold spec_TileInner.f at H
 obtain ⟨t892, A4, H⟩ := ob H
 (try dsimp only at H)
 by_cases c5 : t892 = true
 ·subst c5
  rw [if_pos rfl] at H
  replace H := Option.bind_eq_some_iff.mp H
  obtain ⟨⟨t893, t894, t895⟩, A60, H⟩ := H
  (try dsimp only at H)
  have A6 := Aside0.mk A60
  clear A60
  simp only [Option.some.injEq, Prod.mk.injEq] at H
  obtain ⟨rfl, rfl⟩ := H
  go_enter Try.func20, Try.ntmps20
  go_wp2_with (first | ((with_reducible refine gate_callee (f := 48) rfl ?_); refine gK (some 14) Try.func48 #[.slice A0 l0.length c0, .int .i64 a1, .int .i64 a2] rfl rfl rfl ?_; (with_reducible refine (spec_cvAt.calls k _ _ l0 a1 a2 true _ ?side1 ?side2 A4.out).mono ?_); (case side1 => exact cb HR0.out); (case side2 => exact HC0.out); rintro e w7 ⟨rfl, hb⟩; refine ⟨_, rfl, ?_⟩; replace HB := bs hb; (try clear hb)) | ((with_reducible refine gate_callee (f := 53) rfl ?_); refine gK (some 20) Try.func53 #[.slice A0 l0.length c0, .int .i64 a1, .int .i64 a2] rfl rfl rfl ?_; (with_reducible refine (spec_cvTile.calls k _ _ l0 a1 a2 t893 t894 t895 _ ?side1 ?side2 A6.out).mono ?_); (case side1 => exact cb (Kd.C_below HR0.out HB.out)); (case side2 => exact HC0.out); rintro e w8 ⟨v896, v898, rfl, ho0, ho1, hb⟩; refine ⟨_, rfl, ?_⟩; have HO897 := Aside0.mk (Kd.R_lower ho0 (below_size BA)); have HO899 := Aside0.mk (Kd.R_lower ho1 (below_size BA)); replace HB := bs hb; (try clear hb); (try clear ho0); (try clear ho1)))
  go_ret2
  exact ⟨_, EQ, rb (Kd.R_mono HO899.out (fun _ hk => trivial)), BA⟩
 ·replace c5 := Bool.eq_false_iff.mpr c5
  subst c5
  rw [if_neg (show ¬ (false = true) by decide)] at H
  simp only [Option.some.injEq, Prod.mk.injEq] at H
  obtain ⟨rfl, rfl⟩ := H
  go_enter Try.func20, Try.ntmps20
  go_wp2_with (first | ((with_reducible refine gate_callee (f := 48) rfl ?_); refine gK (some 14) Try.func48 #[.slice A0 l0.length c0, .int .i64 a1, .int .i64 a2] rfl rfl rfl ?_; (with_reducible refine (spec_cvAt.calls k _ _ l0 a1 a2 false _ ?side1 ?side2 A4.out).mono ?_); (case side1 => exact cb HR0.out); (case side2 => exact HC0.out); rintro e w9 ⟨rfl, hb⟩; refine ⟨_, rfl, ?_⟩; replace HB := bs hb; (try clear hb)))
  go_ret2
  exact ⟨_, EQ, by first | exact Kd.R_nil _ _ _ _ _ | exact Kd.N_nil _ _ _ _ _ | exact Kd.V_nil _ _ _ _ _ | exact Kd.Q_nil _ _ _ _ _ | exact Kd.S_nil _ _ _ _ _, BA⟩

/-! ### impl_TileInner: function 21 -/
def impl_TileInner.f (k : Nat) (l0 : List (S54)) (a1 : Int) (a2 : Int) : Option (List Int × Bool) := (impl_toldTile.f k l0 a1 a2).bind fun bt900 => (some (bt900.2.1, bt900.2.2.2))
theorem impl_TileInner.calls (k : Nat) (A0 : Option Addr) (c0 : Nat) (l0 : List (S54)) (a1 : Int) (a2 : Int) (r1 : List Int) (r2 : Bool) (w : World) (hr0 : Kd.C k54 w A0 l0.length l0) (hc0 : l0.length ≤ c0) (h : impl_TileInner.f k l0 a1 a2 = some (r1, r2)) :
  Calls Try.prog 21 #[.slice A0 l0.length c0, .int .i64 a1, .int .i64 a2] w fun e w' => ∃ v0_ : Value, e = .returned (.tuple #[v0_, .bool r2]) ∧ Kd.R (Kd.int .i64) 3 w' w.heap.size (fun _ => True) v0_ r1 ∧ Below w.heap.size w w' := by
 have hu57 := Try.underlying57
 have HR0 := Aside0.mk hr0
 have HC0 := Aside0.mk hc0
 clear hr0 hc0
 have HB := Aside0.mk (Below.refl w.heap.size w)
 have H := h
 clear h
 unfold impl_TileInner.f at H
 replace H := Option.bind_eq_some_iff.mp H
 obtain ⟨⟨t900, t903, t906, t907⟩, A40, H⟩ := H
 (try dsimp only at H)
 have A4 := Aside0.mk A40
 clear A40
 simp only [Option.some.injEq, Prod.mk.injEq] at H
 obtain ⟨rfl, rfl⟩ := H
 go_enter Try.func21, Try.ntmps21
 go_wp2_with (first | ((with_reducible refine gate_callee (f := 51) rfl ?_); refine gK (some 14) Try.func51 #[.slice A0 l0.length c0, .int .i64 a1, .int .i64 a2] rfl rfl rfl ?_; (with_reducible refine (impl_toldTile.calls k _ _ l0 a1 a2 t900 t903 t906 t907 _ ?side1 ?side2 A4.out).mono ?_); (case side1 => exact cb HR0.out); (case side2 => exact HC0.out); rintro e w5 ⟨v901, v904, rfl, ho0, ho1, hb⟩; refine ⟨_, rfl, ?_⟩; have HO902 := Aside0.mk (Kd.R_lower ho0 (below_size BA)); have HO905 := Aside0.mk (Kd.R_lower ho1 (below_size BA)); replace HB := bs hb; (try clear hb); (try clear ho0); (try clear ho1)) | ((with_reducible refine gd 8 rfl ?_); refine bx 8 #[.slice none 0 0, .slice none 0 0, .int .i64 0] 57 ?_; intro gb908 hg w6 BK908 GW908 HB hb; replace HO902 := Aside0.mk (Kd.R_below (rb HO902.out) hb); replace HO905 := Aside0.mk (Kd.R_below (rb HO905.out) hb); have GE908 := GW908; clear hb hg; obtain ⟨Ao7, co7, eo7⟩ := Kd.R_slice HO902.out; subst eo7; obtain ⟨hcz8_0, hcz8_1, hcz8_2⟩ := bc3 BK908.out; have hfz8 := blk_frozen BK908.out; obtain ⟨Ao9, co9, eo9⟩ := Kd.R_slice HO905.out; subst eo9))
 go_ret2
 exact ⟨_, EQ, rb (Kd.R_mono (Kd.R_far (p := ⟨gb908, 2, none⟩) (Kd.R_far (p := ⟨gb908, 1, none⟩) (Kd.R_far (p := ⟨gb908, 0, none⟩) (Kd.R_types HO905.out BK908.out (by decide)) (fun _ hk => hk.2) (.slice Ao7 t900.length co7)) (fun _ hk => hk.2) (.slice Ao9 t903.length co9)) (fun _ hk => hk.2) (.int .i64 t906)) (fun _ hk => trivial)), BA⟩

/-! ### laws_FnExactTileInner: function 4 -/
mutual
def laws_FnExactTileInner.j0 : Nat → List (S51) → Int → Int → List Int → Bool → List (S54) → List Int → Bool → Bool → Option (Bool)
 | 0, _, _, _, _, _, _, _, _, _ => none
 | k + 1, x0, x1, x2, x8, x9, x10, x11, x12, x48 => if x48 = true then (some false) else ((laws_toNodeS.f k x0).bind fun t937 => ((laws_eqNodeS.f k x10 t937).bind fun t940 => (if t940 = true then ((laws_markNodeS.f k x10 1).bind fun bt941 => (if bt941.1 < 0 then (laws_FnExactTileInner.j1 k x0 x1 x2 x8 x9 x11 true) else ((laws_eqIntS.f k x11 x8).bind fun t943 => (if t943 = true then (laws_FnExactTileInner.j1 k x0 x1 x2 x8 x9 x11 (x12 != x9)) else (laws_FnExactTileInner.j1 k x0 x1 x2 x8 x9 x11 true))))) else (some false))))
def laws_FnExactTileInner.j1 : Nat → List (S51) → Int → Int → List Int → Bool → List Int → Bool → Option (Bool)
 | 0, _, _, _, _, _, _, _ => none
 | k + 1, x0, x1, x2, x8, x9, x11, x69 => if x69 = true then (some false) else ((laws_markIntS.f k x11 1).bind fun bt944 => ((laws_heldIntS.f k bt944.2 1).bind fun t946 => (if t946 < 0 then (some false) else (if t946 = bt944.1 then ((laws_toNodeS.f k x0).bind fun t947 => ((impl_TileInner.f k t947 x1 x2).bind fun bt950 => ((laws_eqIntS.f k bt950.1 x8).bind fun t954 => (if t954 = true then (laws_FnExactTileInner.j2 k bt944.2 bt944.1 (bt950.2 != x9)) else (laws_FnExactTileInner.j2 k bt944.2 bt944.1 true))))) else (some false)))))
def laws_FnExactTileInner.j2 : Nat → List Int → Int → Bool → Option (Bool)
 | 0, _, _, _ => none
 | k + 1, x11, x14, x97 => if x97 = true then (some false) else ((laws_heldIntS.f k x11 1).bind fun t955 => (if t955 < 0 then (some false) else (if t955 = x14 then (some true) else (some false))))
end
def laws_FnExactTileInner.f (k : Nat) (l0 : List (S51)) (a1 : Int) (a2 : Int) : Option (Bool) := (laws_szNodeS.f k l0 1048576).bind fun t921 => (if t921 < 0 then (some true) else ((laws_toNodeS.f k l0).bind fun t922 => ((spec_TileInner.f k t922 a1 a2).bind fun bt925 => ((laws_toNodeS.f k l0).bind fun t929 => ((impl_TileInner.f k t929 a1 a2).bind fun bt932 => ((laws_eqIntS.f k bt932.1 bt925.1).bind fun t936 => (if t936 = true then (laws_FnExactTileInner.j0 k l0 a1 a2 bt925.1 bt925.2 t929 bt932.1 bt932.2 (bt932.2 != bt925.2)) else (laws_FnExactTileInner.j0 k l0 a1 a2 bt925.1 bt925.2 t929 bt932.1 bt932.2 true))))))))
theorem laws_FnExactTileInner.calls (k : Nat) (A0 : Option Addr) (c0 : Nat) (l0 : List (S51)) (a1 : Int) (a2 : Int) (r : Bool) (w : World) (hr0 : Kd.C k51 w A0 l0.length l0) (hc0 : l0.length ≤ c0) (h : laws_FnExactTileInner.f k l0 a1 a2 = some r) :
  Calls Try.prog 4 #[.slice A0 l0.length c0, .int .i64 a1, .int .i64 a2] w fun e w' => e = .returned (.bool r) ∧ Below w.heap.size w w' := by
 have HR0 := Aside0.mk hr0
 have HC0 := Aside0.mk hc0
 clear hr0 hc0
 have HB := Aside0.mk (Below.refl w.heap.size w)
 have H := h
 clear h
 unfold laws_FnExactTileInner.f at H
 obtain ⟨t921, A4, H⟩ := ob H
 (try dsimp only at H)
 by_cases c5 : t921 < 0
 ·rw [if_pos c5] at H
  have c5b0 := decide_eq_true c5
  clear c5
  obtain rfl := Option.some.inj H
  go_enter Try.func4, Try.ntmps4
  go_wp2_with (first | ((with_reducible refine gate_callee (f := 15) rfl ?_); refine gK (some 20) Try.func15 #[.slice A0 l0.length c0, .int .i64 1048576] rfl rfl rfl ?_; (with_reducible refine (laws_szNodeS.calls k _ _ l0 1048576 t921 _ ?side1 ?side2 A4.out).mono ?_); (case side1 => exact cb HR0.out); (case side2 => exact HC0.out); rintro e w6 ⟨rfl, hb⟩; refine ⟨_, rfl, ?_⟩; replace HB := bs hb; (try clear hb)))
  go_ret
  exact ⟨EQ, BA⟩
 ·rw [if_neg c5] at H
  have c5b0 := decide_eq_false c5
  clear c5
  obtain ⟨t922, A7, H⟩ := ob H
  (try dsimp only at H)
  replace H := Option.bind_eq_some_iff.mp H
  obtain ⟨⟨t925, t926⟩, A80, H⟩ := H
  (try dsimp only at H)
  have A8 := Aside0.mk A80
  clear A80
  obtain ⟨t929, A9, H⟩ := ob H
  (try dsimp only at H)
  replace H := Option.bind_eq_some_iff.mp H
  obtain ⟨⟨t932, t933⟩, A100, H⟩ := H
  (try dsimp only at H)
  have A10 := Aside0.mk A100
  clear A100
  have HC11 := Aside0.mk H
  clear H
  go_enter Try.func4, Try.ntmps4
  go_upto_region 8 with (first | ((with_reducible refine gate_callee (f := 15) rfl ?_); refine gK (some 20) Try.func15 #[.slice A0 l0.length c0, .int .i64 1048576] rfl rfl rfl ?_; (with_reducible refine (laws_szNodeS.calls k _ _ l0 1048576 t921 _ ?side1 ?side2 A4.out).mono ?_); (case side1 => exact cb HR0.out); (case side2 => exact HC0.out); rintro e w12 ⟨rfl, hb⟩; refine ⟨_, rfl, ?_⟩; replace HB := bs hb; (try clear hb)) | ((with_reducible refine gate_callee (f := 17) rfl ?_); refine gK (some 25) Try.func17 #[.slice A0 l0.length c0] rfl rfl rfl ?_; (with_reducible refine (laws_toNodeS.calls k _ _ l0 t922 _ ?side1 ?side2 A7.out).mono ?_); (case side1 => exact cb (Kd.C_below HR0.out HB.out)); (case side2 => exact HC0.out); rintro e w13 ⟨v923, rfl, ho0, hb⟩; refine ⟨_, rfl, ?_⟩; have HO924 := Aside0.mk (Kd.R_lower ho0 (below_size BA)); replace HB := bs hb; (try clear hb); (try clear ho0); obtain ⟨Ao14, co14, eo14⟩ := Kd.R_slice HO924.out; subst eo14) | ((with_reducible refine gate_callee (f := 20) rfl ?_); refine gK (some 28) Try.func20 #[.slice Ao14 t922.length co14, .int .i64 a1, .int .i64 a2] rfl rfl rfl ?_; (with_reducible refine (spec_TileInner.calls k _ _ t922 a1 a2 t925 t926 _ ?side1 ?side2 A8.out).mono ?_); (case side1 => exact cb (Kd.R_reads' HO924.out).2.2); (case side2 => exact (Kd.R_reads' HO924.out).2.1); rintro e w15 ⟨v927, rfl, ho0, hb⟩; refine ⟨_, rfl, ?_⟩; replace HO924 := Aside0.mk (Kd.R_below (rb HO924.out) hb); have HO928 := Aside0.mk (Kd.R_lower ho0 (below_size BA)); replace HB := bs hb; (try clear hb); (try clear ho0)) | ((with_reducible refine gate_callee (f := 17) rfl ?_); refine gK (some 32) Try.func17 #[.slice A0 l0.length c0] rfl rfl rfl ?_; (with_reducible refine (laws_toNodeS.calls k _ _ l0 t929 _ ?side1 ?side2 A9.out).mono ?_); (case side1 => exact cb (Kd.C_below HR0.out HB.out)); (case side2 => exact HC0.out); rintro e w16 ⟨v930, rfl, ho0, hb⟩; refine ⟨_, rfl, ?_⟩; replace HO928 := Aside0.mk (Kd.R_below (rb HO928.out) hb); have HO931 := Aside0.mk (Kd.R_lower (Kd.R_new' ho0 (Kd.R_lt (rb HO924.out))) (below_size BA)); replace HO924 := Aside0.mk (Kd.R_elder' (rb HO924.out) (Kd.R_base ho0) hb); replace HB := bs hb; (try clear hb); (try clear ho0); obtain ⟨Ao17, co17, eo17⟩ := Kd.R_slice HO931.out; subst eo17) | ((with_reducible refine gate_callee (f := 21) rfl ?_); refine gK (some 37) Try.func21 #[.slice Ao17 t929.length co17, .int .i64 a1, .int .i64 a2] rfl rfl rfl ?_; (with_reducible refine (impl_TileInner.calls k _ _ t929 a1 a2 t932 t933 _ ?side1 ?side2 A10.out).mono ?_); (case side1 => exact cb (Kd.R_reads' HO931.out).2.2); (case side2 => exact (Kd.R_reads' HO931.out).2.1); rintro e w18 ⟨v934, rfl, ho0, hb⟩; refine ⟨_, rfl, ?_⟩; replace HO924 := Aside0.mk (Kd.R_below (rb HO924.out) hb); replace HO931 := Aside0.mk (Kd.R_below (rb HO931.out) hb); have HO935 := Aside0.mk (Kd.R_lower (Kd.R_new' ho0 (Kd.R_lt (rb HO928.out))) (below_size BA)); replace HO928 := Aside0.mk (Kd.R_elder' (rb HO928.out) (Kd.R_base ho0) hb); replace HB := bs hb; (try clear hb); (try clear ho0)))
  (try simp only [Act.put, List.setIfInBounds_toArray, List.set_cons_zero, List.set_cons_succ])
  go_cut [48] (fun v48 wc => ∃ (kq : Nat) (x48_10 : Bool), v48 = .bool x48_10 ∧ Aside0 (laws_FnExactTileInner.j0 kq l0 a1 a2 t925 t926 t929 t932 t933 x48_10 = some r) ∧ Aside0 (kq ≤ k) ∧ Aside0 (Kd.R (Kd.int .i64) 3 wc w.heap.size (fun k_ => some k_ ≠ (v934 : Value).ownBlock) v927 t925) ∧ Aside0 (Kd.R k54 54 wc w.heap.size (fun _ => True) (.slice Ao17 t929.length co17) t929) ∧ Aside0 (Kd.R (Kd.int .i64) 3 wc w.heap.size (fun k_ => some k_ ≠ (v927 : Value).ownBlock) v934 t932) ∧ Aside0 (Below w.heap.size w wc))
  case first =>
   have H := HC11.out
   clear HC11
   obtain ⟨t936, A19, H⟩ := ob H
   (try dsimp only at H)
   by_cases c20 : t936 = true
   ·subst c20
    rw [if_pos rfl] at H
    have H' := Aside0.mk H
    clear H
    obtain ⟨Ao21, co21, eo21⟩ := Kd.R_slice HO935.out
    subst eo21
    obtain ⟨Ao22, co22, eo22⟩ := Kd.R_slice HO928.out
    subst eo22
    go_wp2_with (first | ((with_reducible refine gate_callee (f := 22) rfl ?_); refine gK (some 42) Try.func22 #[.slice Ao21 t932.length co21, .slice Ao22 t925.length co22] rfl rfl rfl ?_; (with_reducible refine (laws_eqIntS.calls k _ _ t932 _ _ t925 true _ ?side1 ?side2 ?side3 ?side4 A19.out).mono ?_); (case side1 => exact cb (Kd.R_reads' HO935.out).2.2); (case side2 => exact (Kd.R_reads' HO935.out).2.1); (case side3 => exact cb (Kd.R_reads' HO928.out).2.2); (case side4 => exact (Kd.R_reads' HO928.out).2.1); rintro e w' ⟨rfl, ⟨nd, rfl⟩⟩; refine ⟨_, rfl, ?_⟩))
    go_meet
    case rel => exact ⟨_, ((t933 != t926)), EQ1, H', ⟨by first | omega | exact Nat.le_refl _⟩, ⟨rb (Kd.R_mono HO928.out (fun _ hk => hk.2))⟩, ⟨rb (Kd.R_mono HO931.out (fun _ hk => trivial))⟩, ⟨rb (Kd.R_mono HO935.out (fun _ hk => hk.2))⟩, ⟨BA⟩⟩
   ·replace c20 := Bool.eq_false_iff.mpr c20
    subst c20
    rw [if_neg (show ¬ (false = true) by decide)] at H
    have H' := Aside0.mk H
    clear H
    obtain ⟨Ao23, co23, eo23⟩ := Kd.R_slice HO935.out
    subst eo23
    obtain ⟨Ao24, co24, eo24⟩ := Kd.R_slice HO928.out
    subst eo24
    go_wp2_with (first | ((with_reducible refine gate_callee (f := 22) rfl ?_); refine gK (some 42) Try.func22 #[.slice Ao23 t932.length co23, .slice Ao24 t925.length co24] rfl rfl rfl ?_; (with_reducible refine (laws_eqIntS.calls k _ _ t932 _ _ t925 false _ ?side1 ?side2 ?side3 ?side4 A19.out).mono ?_); (case side1 => exact cb (Kd.R_reads' HO935.out).2.2); (case side2 => exact (Kd.R_reads' HO935.out).2.1); (case side3 => exact cb (Kd.R_reads' HO928.out).2.2); (case side4 => exact (Kd.R_reads' HO928.out).2.1); rintro e w' ⟨rfl, ⟨nd, rfl⟩⟩; refine ⟨_, rfl, ?_⟩))
    go_meet
    case rel => exact ⟨_, (true), EQ1, H', ⟨by first | omega | exact Nat.le_refl _⟩, ⟨rb (Kd.R_mono HO928.out (fun _ hk => hk.2))⟩, ⟨rb (Kd.R_mono HO931.out (fun _ hk => trivial))⟩, ⟨rb (Kd.R_mono HO935.out (fun _ hk => hk.2))⟩, ⟨BA⟩⟩
  case rest =>
   clear HC11
   (try clear c5b0); (try clear c20)
   obtain ⟨kq, x48_10, rfl, HA, HJ10, HO_8, HO_10, HO_11, HB⟩ := hcut
   cases kq with
   | zero => exact absurd HA.out (by simp [laws_FnExactTileInner.j0])
   | succ kj10 =>
    have H := HA.out
    clear HA
    simp only [laws_FnExactTileInner.j0] at H
    by_cases c25 : x48_10 = true
    ·subst c25
     rw [if_pos rfl] at H
     obtain rfl := Option.some.inj H
     go_wp2
     go_ret
     exact ⟨EQ, BA⟩
    ·replace c25 := Bool.eq_false_iff.mpr c25
     subst c25
     rw [if_neg (show ¬ (false = true) by decide)] at H
     obtain ⟨t937, A26, H⟩ := ob H
     (try dsimp only at H)
     obtain ⟨t940, A27, H⟩ := ob H
     (try dsimp only at H)
     by_cases c28 : t940 = true
     ·subst c28
      rw [if_pos rfl] at H
      replace H := Option.bind_eq_some_iff.mp H
      obtain ⟨⟨t941, t942⟩, A290, H⟩ := H
      (try dsimp only at H)
      have A29 := Aside0.mk A290
      clear A290
      have HC30 := Aside0.mk H
      clear H
      go_upto_region 14 with (first | ((with_reducible refine gate_callee (f := 17) rfl ?_); refine gK (some 51) Try.func17 #[.slice A0 l0.length c0] rfl rfl rfl ?_; (with_reducible refine (laws_toNodeS.calls kj10 _ _ l0 t937 _ ?side1 ?side2 A26.out).mono ?_); (case side1 => exact cb (Kd.C_below HR0.out HB.out)); (case side2 => exact HC0.out); rintro e w31 ⟨v938, rfl, ho0, hb⟩; refine ⟨_, rfl, ?_⟩; replace HO_8 := Aside0.mk (Kd.R_below (rb HO_8.out) hb); replace HO_11 := Aside0.mk (Kd.R_below (rb HO_11.out) hb); have HO939 := Aside0.mk (Kd.R_lower (Kd.R_new' ho0 (Kd.R_lt (rb HO_10.out))) (below_size BA)); replace HO_10 := Aside0.mk (Kd.R_elder' (rb HO_10.out) (Kd.R_base ho0) hb); replace HB := bs hb; (try clear hb); (try clear ho0); obtain ⟨Ao32, co32, eo32⟩ := Kd.R_slice HO939.out; subst eo32) | ((with_reducible refine gate_callee (f := 19) rfl ?_); refine gK (some 52) Try.func19 #[.slice Ao17 t929.length co17, .slice Ao32 t937.length co32] rfl rfl rfl ?_; (with_reducible refine (laws_eqNodeS.calls kj10 _ _ t929 _ _ t937 true _ ?side1 ?side2 ?side3 ?side4 A27.out).mono ?_); (case side1 => exact cb (Kd.R_reads' HO_10.out).2.2); (case side2 => exact (Kd.R_reads' HO_10.out).2.1); (case side3 => exact cb (Kd.R_reads' HO939.out).2.2); (case side4 => exact (Kd.R_reads' HO939.out).2.1); rintro e w33 ⟨rfl, hb⟩; refine ⟨_, rfl, ?_⟩; replace HO_8 := Aside0.mk (Kd.R_below (rb HO_8.out) hb); replace HO_10 := Aside0.mk (Kd.R_below (rb HO_10.out) hb); replace HO_11 := Aside0.mk (Kd.R_below (rb HO_11.out) hb); replace HO939 := Aside0.mk (Kd.R_below (rb HO939.out) hb); replace HB := bs hb; (try clear hb)) | ((with_reducible refine gate_callee (f := 23) rfl ?_); refine gK (some 56) Try.func23 #[.slice Ao17 t929.length co17, .int .i64 1] rfl rfl rfl ?_; (with_reducible refine (laws_markNodeS.calls kj10 (fun k_ => some k_ = (.slice Ao17 t929.length co17 : Value).ownBlock) (.slice Ao17 t929.length co17) t929 1 t941 t942 w _ ?side1 ?side2 A29.out).mono ?_); (case side1 => repeat (first | (with_reducible first | exact HB.out | apply below_alloc | apply pw_below_drewN | apply below_drew1) | exact HB.out)); (case side2 => exact Kd.R_tight rfl HO_10.out); rintro e w34 ⟨rfl, hy0, hb, hkp⟩; refine ⟨_, rfl, ?_⟩; replace HO_8 := Aside0.mk (Kd.R_mono (ok' := fun k_ => some k_ ≠ (v934 : Value).ownBlock) (Kd.R_keptB ((Kd.R_apart' HO_8.out (Kd.R_typed HO_10.out) (by decide))) hkp (fun k_ hk_ hs_ => (hk_.2) hs_)) (fun k_ hk_ => hk_.1.1)); replace HO_11 := Aside0.mk (Kd.R_mono (ok' := fun k_ => some k_ ≠ (v927 : Value).ownBlock) (Kd.R_keptB ((Kd.R_apart' HO_11.out (Kd.R_typed HO_10.out) (by decide))) hkp (fun k_ hk_ hs_ => (hk_.2) hs_)) (fun k_ hk_ => hk_.1.1)); replace HO_10 := Aside0.mk (Kd.R_reok rfl hy0 (fun k_ e_ => HO_10.out.1 k_ e_)); replace HO939 := Aside0.mk (Kd.R_mono (ok' := fun k_ => some k_ ≠ (.slice Ao17 t929.length co17 : Value).ownBlock) (Kd.R_keptB (HO939.out) hkp (fun k_ hk_ hs_ => (hk_.2) hs_)) (fun k_ hk_ => hk_.1.2)); replace HB := Aside0.mk (hb); (try clear hb); (try clear hkp); (try clear hy0)))
      (try simp only [Act.put, List.setIfInBounds_toArray, List.set_cons_zero, List.set_cons_succ])
      go_cut [69] (fun v69 wc => ∃ (kq : Nat) (x69_29 : Bool), v69 = .bool x69_29 ∧ Aside0 (laws_FnExactTileInner.j1 kq l0 a1 a2 t925 t926 t932 x69_29 = some r) ∧ Aside0 (kq ≤ kj10) ∧ Aside0 (Kd.R (Kd.int .i64) 3 wc w.heap.size (fun k_ => some k_ ≠ (v934 : Value).ownBlock) v927 t925) ∧ Aside0 (Kd.R (Kd.int .i64) 3 wc w.heap.size (fun k_ => some k_ ≠ (v927 : Value).ownBlock) v934 t932) ∧ Aside0 (Below w.heap.size w wc))
      case first =>
       have H := HC30.out
       clear HC30
       by_cases c35 : t941 < 0
       ·rw [if_pos c35] at H
        have c35b0 := decide_eq_true c35
        clear c35
        (first | rw [c35b0] | (simp only [i64_w, i32_w]; rw [c35b0]) | skip)
        have H' := Aside0.mk H
        clear H
        go_wp2
        go_meet
        case rel => exact ⟨_, (true), EQ1, H', ⟨by have := HJ10.out; first | omega | exact Nat.le_refl _⟩, ⟨rb HO_8.out⟩, ⟨rb HO_11.out⟩, ⟨BA⟩⟩
       ·rw [if_neg c35] at H
        have c35b0 := decide_eq_false c35
        clear c35
        (first | rw [c35b0] | (simp only [i64_w, i32_w]; rw [c35b0]) | skip)
        obtain ⟨t943, A36, H⟩ := ob H
        (try dsimp only at H)
        by_cases c37 : t943 = true
        ·subst c37
         rw [if_pos rfl] at H
         have H' := Aside0.mk H
         clear H
         obtain ⟨Ao38, co38, eo38⟩ := Kd.R_slice HO_11.out
         subst eo38
         obtain ⟨Ao39, co39, eo39⟩ := Kd.R_slice HO_8.out
         subst eo39
         go_wp2_with (first | (go_at_call 22; (with_reducible refine (laws_eqIntS.calls kj10 _ _ t932 _ _ t925 true _ ?side1 ?side2 ?side3 ?side4 A36.out).mono ?_); (case side1 => exact cb (Kd.R_reads' HO_11.out).2.2); (case side2 => exact (Kd.R_reads' HO_11.out).2.1); (case side3 => exact cb (Kd.R_reads' HO_8.out).2.2); (case side4 => exact (Kd.R_reads' HO_8.out).2.1); rintro e w' ⟨rfl, ⟨nd, rfl⟩⟩))
         go_meet
         case rel => exact ⟨_, ((t933 != t926)), EQ1, H', ⟨by have := HJ10.out; first | omega | exact Nat.le_refl _⟩, ⟨rb HO_8.out⟩, ⟨rb HO_11.out⟩, ⟨BA⟩⟩
        ·replace c37 := Bool.eq_false_iff.mpr c37
         subst c37
         rw [if_neg (show ¬ (false = true) by decide)] at H
         have H' := Aside0.mk H
         clear H
         obtain ⟨Ao40, co40, eo40⟩ := Kd.R_slice HO_11.out
         subst eo40
         obtain ⟨Ao41, co41, eo41⟩ := Kd.R_slice HO_8.out
         subst eo41
         go_wp2_with (first | (go_at_call 22; (with_reducible refine (laws_eqIntS.calls kj10 _ _ t932 _ _ t925 false _ ?side1 ?side2 ?side3 ?side4 A36.out).mono ?_); (case side1 => exact cb (Kd.R_reads' HO_11.out).2.2); (case side2 => exact (Kd.R_reads' HO_11.out).2.1); (case side3 => exact cb (Kd.R_reads' HO_8.out).2.2); (case side4 => exact (Kd.R_reads' HO_8.out).2.1); rintro e w' ⟨rfl, ⟨nd, rfl⟩⟩))
         go_meet
         case rel => exact ⟨_, (true), EQ1, H', ⟨by have := HJ10.out; first | omega | exact Nat.le_refl _⟩, ⟨rb HO_8.out⟩, ⟨rb HO_11.out⟩, ⟨BA⟩⟩
      case rest =>
       clear HC30
       (try clear c5b0); (try clear c20); (try clear c25); (try clear c28); (try clear c35b0); (try clear c37)
       obtain ⟨kq, x69_29, rfl, HA, HJ29, HO_8, HO_11, HB⟩ := hcut
       cases kq with
       | zero => exact absurd HA.out (by simp [laws_FnExactTileInner.j1])
       | succ kj29 =>
        have H := HA.out
        clear HA
        simp only [laws_FnExactTileInner.j1] at H
        by_cases c42 : x69_29 = true
        ·subst c42
         rw [if_pos rfl] at H
         obtain rfl := Option.some.inj H
         go_wp2
         go_ret
         exact ⟨EQ, BA⟩
        ·replace c42 := Bool.eq_false_iff.mpr c42
         subst c42
         rw [if_neg (show ¬ (false = true) by decide)] at H
         replace H := Option.bind_eq_some_iff.mp H
         obtain ⟨⟨t944, t945⟩, A430, H⟩ := H
         (try dsimp only at H)
         have A43 := Aside0.mk A430
         clear A430
         obtain ⟨t946, A44, H⟩ := ob H
         (try dsimp only at H)
         by_cases c45 : t946 < 0
         ·rw [if_pos c45] at H
          have c45b0 := decide_eq_true c45
          clear c45
          obtain rfl := Option.some.inj H
          obtain ⟨Ao46, co46, eo46⟩ := Kd.R_slice HO_11.out
          subst eo46
          go_wp2_with (first | ((with_reducible refine gate_callee (f := 24) rfl ?_); refine gK (some 72) Try.func24 #[.slice Ao46 t932.length co46, .int .i64 1] rfl rfl rfl ?_; (with_reducible refine (laws_markIntS.calls kj29 (fun k_ => some k_ = (.slice Ao46 t932.length co46 : Value).ownBlock) (.slice Ao46 t932.length co46) t932 1 t944 t945 w _ ?side1 ?side2 A43.out).mono ?_); (case side1 => repeat (first | (with_reducible first | exact HB.out | apply below_alloc | apply pw_below_drewN | apply below_drew1) | exact HB.out)); (case side2 => exact Kd.R_tight rfl HO_11.out); rintro e w47 ⟨rfl, hy0, hb, hkp⟩; refine ⟨_, rfl, ?_⟩; replace HO_8 := Aside0.mk (Kd.R_mono (ok' := fun k_ => some k_ ≠ (.slice Ao46 t932.length co46 : Value).ownBlock) (Kd.R_keptB (HO_8.out) hkp (fun k_ hk_ hs_ => (hk_) hs_)) (fun k_ hk_ => hk_.1)); replace HO_11 := Aside0.mk (Kd.R_reok rfl hy0 (fun k_ e_ => HO_11.out.1 k_ e_)); replace HB := Aside0.mk (hb); (try clear hb); (try clear hkp); (try clear hy0)) | ((with_reducible refine gate_callee (f := 25) rfl ?_); refine goesL_ (some 75) rfl rfl Try.func25 (by kernel_rfl) rfl #[.slice Ao46 t945.length co46, .int .i64 1] rfl (by (try simp only [List.map_toArray, List.map_cons, List.map_nil]); first | done | (rw [show t945.length = t932.length from (Kd.R_reads' HO_11.out).1.symm] <;> rfl) | rfl | (simp only [List.length_drop, List.length_take]; rfl)) ?_; (with_reducible refine (laws_heldIntS.calls kj29 _ _ t945 1 t946 _ ?side1 ?side2 A44.out).mono ?_); (case side1 => exact cb (Kd.R_reads' HO_11.out).2.2); (case side2 => rw [show t945.length = t932.length from (Kd.R_reads' HO_11.out).1.symm]; exact (Kd.R_reads' HO_11.out).2.1); rintro e w' ⟨rfl, ⟨nd, rfl⟩⟩; refine ⟨_, rfl, ?_⟩))
          go_ret
          exact ⟨EQ, BA⟩
         ·rw [if_neg c45] at H
          have c45b0 := decide_eq_false c45
          clear c45
          by_cases c48 : t946 = t944
          ·rw [if_pos c48] at H
           have c48b0 := beq_iff_eq.mpr c48
           have c48b1 := bne_eq_false_iff_eq.mpr c48
           clear c48
           obtain ⟨t947, A49, H⟩ := ob H
           (try dsimp only at H)
           replace H := Option.bind_eq_some_iff.mp H
           obtain ⟨⟨t950, t951⟩, A500, H⟩ := H
           (try dsimp only at H)
           have A50 := Aside0.mk A500
           clear A500
           have HC51 := Aside0.mk H
           clear H
           obtain ⟨Ao52, co52, eo52⟩ := Kd.R_slice HO_11.out
           subst eo52
           go_upto_region 25 with (first | ((with_reducible refine gate_callee (f := 24) rfl ?_); refine gK (some 72) Try.func24 #[.slice Ao52 t932.length co52, .int .i64 1] rfl rfl rfl ?_; (with_reducible refine (laws_markIntS.calls kj29 (fun k_ => some k_ = (.slice Ao52 t932.length co52 : Value).ownBlock) (.slice Ao52 t932.length co52) t932 1 t944 t945 w _ ?side1 ?side2 A43.out).mono ?_); (case side1 => repeat (first | (with_reducible first | exact HB.out | apply below_alloc | apply pw_below_drewN | apply below_drew1) | exact HB.out)); (case side2 => exact Kd.R_tight rfl HO_11.out); rintro e w53 ⟨rfl, hy0, hb, hkp⟩; refine ⟨_, rfl, ?_⟩; replace HO_8 := Aside0.mk (Kd.R_mono (ok' := fun k_ => some k_ ≠ (.slice Ao52 t932.length co52 : Value).ownBlock) (Kd.R_keptB (HO_8.out) hkp (fun k_ hk_ hs_ => (hk_) hs_)) (fun k_ hk_ => hk_.1)); replace HO_11 := Aside0.mk (Kd.R_reok rfl hy0 (fun k_ e_ => HO_11.out.1 k_ e_)); replace HB := Aside0.mk (hb); (try clear hb); (try clear hkp); (try clear hy0)) | ((with_reducible refine gate_callee (f := 25) rfl ?_); refine goesL_ (some 75) rfl rfl Try.func25 (by kernel_rfl) rfl #[.slice Ao52 t945.length co52, .int .i64 1] rfl (by (try simp only [List.map_toArray, List.map_cons, List.map_nil]); first | done | (rw [show t945.length = t932.length from (Kd.R_reads' HO_11.out).1.symm] <;> rfl) | rfl | (simp only [List.length_drop, List.length_take]; rfl)) ?_; (with_reducible refine (laws_heldIntS.calls kj29 _ _ t945 1 t946 _ ?side1 ?side2 A44.out).mono ?_); (case side1 => exact cb (Kd.R_reads' HO_11.out).2.2); (case side2 => rw [show t945.length = t932.length from (Kd.R_reads' HO_11.out).1.symm]; exact (Kd.R_reads' HO_11.out).2.1); rintro e w' ⟨rfl, ⟨nd, rfl⟩⟩; refine ⟨_, rfl, ?_⟩) | ((with_reducible refine gate_callee (f := 17) rfl ?_); refine gK (some 83) Try.func17 #[.slice A0 l0.length c0] rfl rfl rfl ?_; (with_reducible refine (laws_toNodeS.calls kj29 _ _ l0 t947 _ ?side1 ?side2 A49.out).mono ?_); (case side1 => exact cb (Kd.C_below HR0.out BA)); (case side2 => exact HC0.out); rintro e w54 ⟨v948, rfl, ho0, hb⟩; refine ⟨_, rfl, ?_⟩; replace HO_8 := Aside0.mk (Kd.R_below (rb HO_8.out) hb); replace HO_11 := Aside0.mk (Kd.R_below (rb HO_11.out) hb); have HO949 := Aside0.mk (Kd.R_lower ho0 (below_size BA)); replace HB := bs hb; (try clear hb); (try clear ho0); obtain ⟨Ao55, co55, eo55⟩ := Kd.R_slice HO949.out; subst eo55) | ((with_reducible refine gate_callee (f := 21) rfl ?_); refine gK (some 86) Try.func21 #[.slice Ao55 t947.length co55, .int .i64 a1, .int .i64 a2] rfl rfl rfl ?_; (with_reducible refine (impl_TileInner.calls kj29 _ _ t947 a1 a2 t950 t951 _ ?side1 ?side2 A50.out).mono ?_); (case side1 => exact cb (Kd.R_reads' HO949.out).2.2); (case side2 => exact (Kd.R_reads' HO949.out).2.1); rintro e w56 ⟨v952, rfl, ho0, hb⟩; refine ⟨_, rfl, ?_⟩; replace HO949 := Aside0.mk (Kd.R_below (rb HO949.out) hb); have HO953 := Aside0.mk (Kd.R_lower (Kd.R_new' (Kd.R_new' ho0 (Kd.R_lt (rb HO_8.out))) (Kd.R_lt (rb HO_11.out))) (below_size BA)); replace HO_8 := Aside0.mk (Kd.R_elder' (rb HO_8.out) (Kd.R_base ho0) hb); replace HO_11 := Aside0.mk (Kd.R_elder' (rb HO_11.out) (Kd.R_base ho0) hb); replace HB := bs hb; (try clear hb); (try clear ho0)))
           (try simp only [Act.put, List.setIfInBounds_toArray, List.set_cons_zero, List.set_cons_succ])
           go_cut [97] (fun v97 wc => ∃ (kq : Nat) (x97_50 : Bool), v97 = .bool x97_50 ∧ Aside0 (laws_FnExactTileInner.j2 kq t945 t944 x97_50 = some r) ∧ Aside0 (kq ≤ kj29) ∧ Aside0 (Kd.R (Kd.int .i64) 3 wc w.heap.size (fun _ => True) (.slice Ao52 t932.length co52) t945) ∧ Aside0 (Below w.heap.size w wc))
           case first =>
            have H := HC51.out
            clear HC51
            obtain ⟨t954, A57, H⟩ := ob H
            (try dsimp only at H)
            by_cases c58 : t954 = true
            ·subst c58
             rw [if_pos rfl] at H
             have H' := Aside0.mk H
             clear H
             obtain ⟨Ao59, co59, eo59⟩ := Kd.R_slice HO953.out
             subst eo59
             obtain ⟨Ao60, co60, eo60⟩ := Kd.R_slice HO_8.out
             subst eo60
             go_wp2_with (first | ((with_reducible refine gate_callee (f := 22) rfl ?_); refine gK (some 91) Try.func22 #[.slice Ao59 t950.length co59, .slice Ao60 t925.length co60] rfl rfl rfl ?_; (with_reducible refine (laws_eqIntS.calls kj29 _ _ t950 _ _ t925 true _ ?side1 ?side2 ?side3 ?side4 A57.out).mono ?_); (case side1 => exact cb (Kd.R_reads' HO953.out).2.2); (case side2 => exact (Kd.R_reads' HO953.out).2.1); (case side3 => exact cb (Kd.R_reads' HO_8.out).2.2); (case side4 => exact (Kd.R_reads' HO_8.out).2.1); rintro e w' ⟨rfl, ⟨nd, rfl⟩⟩; refine ⟨_, rfl, ?_⟩))
             go_meet
             case rel => exact ⟨_, ((t951 != t926)), EQ1, H', ⟨by have := HJ10.out; have := HJ29.out; first | omega | exact Nat.le_refl _⟩, ⟨rb (Kd.R_mono HO_11.out (fun _ hk => trivial))⟩, ⟨BA⟩⟩
            ·replace c58 := Bool.eq_false_iff.mpr c58
             subst c58
             rw [if_neg (show ¬ (false = true) by decide)] at H
             have H' := Aside0.mk H
             clear H
             obtain ⟨Ao61, co61, eo61⟩ := Kd.R_slice HO953.out
             subst eo61
             obtain ⟨Ao62, co62, eo62⟩ := Kd.R_slice HO_8.out
             subst eo62
             go_wp2_with (first | ((with_reducible refine gate_callee (f := 22) rfl ?_); refine gK (some 91) Try.func22 #[.slice Ao61 t950.length co61, .slice Ao62 t925.length co62] rfl rfl rfl ?_; (with_reducible refine (laws_eqIntS.calls kj29 _ _ t950 _ _ t925 false _ ?side1 ?side2 ?side3 ?side4 A57.out).mono ?_); (case side1 => exact cb (Kd.R_reads' HO953.out).2.2); (case side2 => exact (Kd.R_reads' HO953.out).2.1); (case side3 => exact cb (Kd.R_reads' HO_8.out).2.2); (case side4 => exact (Kd.R_reads' HO_8.out).2.1); rintro e w' ⟨rfl, ⟨nd, rfl⟩⟩; refine ⟨_, rfl, ?_⟩))
             go_meet
             case rel => exact ⟨_, (true), EQ1, H', ⟨by have := HJ10.out; have := HJ29.out; first | omega | exact Nat.le_refl _⟩, ⟨rb (Kd.R_mono HO_11.out (fun _ hk => trivial))⟩, ⟨BA⟩⟩
           case rest =>
            clear HC51
            (try clear c5b0); (try clear c20); (try clear c25); (try clear c28); (try clear c35b0); (try clear c37); (try clear c42); (try clear c45b0); (try clear c48b0); (try clear c48b1); (try clear c58)
            obtain ⟨kq, x97_50, rfl, HA, HJ50, HO_11, HB⟩ := hcut
            have hl11_50 := (Kd.R_reads' HO_11.out).1
            rw [hl11_50] at HO_11
            (try simp only [hl11_50])
            cases kq with
            | zero => exact absurd HA.out (by simp [laws_FnExactTileInner.j2])
            | succ kj50 =>
             have H := HA.out
             clear HA
             simp only [laws_FnExactTileInner.j2] at H
             by_cases c63 : x97_50 = true
             ·subst c63
              rw [if_pos rfl] at H
              obtain rfl := Option.some.inj H
              go_wp2
              go_ret
              exact ⟨EQ, BA⟩
             ·replace c63 := Bool.eq_false_iff.mpr c63
              subst c63
              rw [if_neg (show ¬ (false = true) by decide)] at H
              obtain ⟨t955, A64, H⟩ := ob H
              (try dsimp only at H)
              by_cases c65 : t955 < 0
              ·rw [if_pos c65] at H
               have c65b0 := decide_eq_true c65
               clear c65
               obtain rfl := Option.some.inj H
               go_wp2_with (first | ((with_reducible refine gate_callee (f := 25) rfl ?_); refine gK (some 100) Try.func25 #[.slice Ao52 t945.length co52, .int .i64 1] rfl rfl rfl ?_; (with_reducible refine (laws_heldIntS.calls kj50 _ _ t945 1 t955 _ ?side1 ?side2 A64.out).mono ?_); (case side1 => exact cb (Kd.R_reads' HO_11.out).2.2); (case side2 => exact (Kd.R_reads' HO_11.out).2.1); rintro e w' ⟨rfl, ⟨nd, rfl⟩⟩; refine ⟨_, rfl, ?_⟩))
               go_ret
               exact ⟨EQ, BA⟩
              ·rw [if_neg c65] at H
               have c65b0 := decide_eq_false c65
               clear c65
               by_cases c66 : t955 = t944
               ·rw [if_pos c66] at H
                have c66b0 := beq_iff_eq.mpr c66
                have c66b1 := bne_eq_false_iff_eq.mpr c66
                clear c66
                obtain rfl := Option.some.inj H
                go_wp2_with (first | ((with_reducible refine gate_callee (f := 25) rfl ?_); refine gK (some 100) Try.func25 #[.slice Ao52 t945.length co52, .int .i64 1] rfl rfl rfl ?_; (with_reducible refine (laws_heldIntS.calls kj50 _ _ t945 1 t955 _ ?side1 ?side2 A64.out).mono ?_); (case side1 => exact cb (Kd.R_reads' HO_11.out).2.2); (case side2 => exact (Kd.R_reads' HO_11.out).2.1); rintro e w' ⟨rfl, ⟨nd, rfl⟩⟩; refine ⟨_, rfl, ?_⟩))
                go_ret
                exact ⟨EQ, BA⟩
               ·rw [if_neg c66] at H
                have c66b0 := beq_eq_false_iff_ne.mpr c66
                have c66b1 := bne_iff_ne.mpr c66
                obtain rfl := Option.some.inj H
                go_wp2_with (first | ((with_reducible refine gate_callee (f := 25) rfl ?_); refine gK (some 100) Try.func25 #[.slice Ao52 t945.length co52, .int .i64 1] rfl rfl rfl ?_; (with_reducible refine (laws_heldIntS.calls kj50 _ _ t945 1 t955 _ ?side1 ?side2 A64.out).mono ?_); (case side1 => exact cb (Kd.R_reads' HO_11.out).2.2); (case side2 => exact (Kd.R_reads' HO_11.out).2.1); rintro e w' ⟨rfl, ⟨nd, rfl⟩⟩; refine ⟨_, rfl, ?_⟩))
                go_ret
                exact ⟨EQ, BA⟩
          ·rw [if_neg c48] at H
           have c48b0 := beq_eq_false_iff_ne.mpr c48
           have c48b1 := bne_iff_ne.mpr c48
           obtain rfl := Option.some.inj H
           obtain ⟨Ao67, co67, eo67⟩ := Kd.R_slice HO_11.out
           subst eo67
           go_wp2_with (first | ((with_reducible refine gate_callee (f := 24) rfl ?_); refine gK (some 72) Try.func24 #[.slice Ao67 t932.length co67, .int .i64 1] rfl rfl rfl ?_; (with_reducible refine (laws_markIntS.calls kj29 (fun k_ => some k_ = (.slice Ao67 t932.length co67 : Value).ownBlock) (.slice Ao67 t932.length co67) t932 1 t944 t945 w _ ?side1 ?side2 A43.out).mono ?_); (case side1 => repeat (first | (with_reducible first | exact HB.out | apply below_alloc | apply pw_below_drewN | apply below_drew1) | exact HB.out)); (case side2 => exact Kd.R_tight rfl HO_11.out); rintro e w68 ⟨rfl, hy0, hb, hkp⟩; refine ⟨_, rfl, ?_⟩; replace HO_8 := Aside0.mk (Kd.R_mono (ok' := fun k_ => some k_ ≠ (.slice Ao67 t932.length co67 : Value).ownBlock) (Kd.R_keptB (HO_8.out) hkp (fun k_ hk_ hs_ => (hk_) hs_)) (fun k_ hk_ => hk_.1)); replace HO_11 := Aside0.mk (Kd.R_reok rfl hy0 (fun k_ e_ => HO_11.out.1 k_ e_)); replace HB := Aside0.mk (hb); (try clear hb); (try clear hkp); (try clear hy0)) | ((with_reducible refine gate_callee (f := 25) rfl ?_); refine goesL_ (some 75) rfl rfl Try.func25 (by kernel_rfl) rfl #[.slice Ao67 t945.length co67, .int .i64 1] rfl (by (try simp only [List.map_toArray, List.map_cons, List.map_nil]); first | done | (rw [show t945.length = t932.length from (Kd.R_reads' HO_11.out).1.symm] <;> rfl) | rfl | (simp only [List.length_drop, List.length_take]; rfl)) ?_; (with_reducible refine (laws_heldIntS.calls kj29 _ _ t945 1 t946 _ ?side1 ?side2 A44.out).mono ?_); (case side1 => exact cb (Kd.R_reads' HO_11.out).2.2); (case side2 => rw [show t945.length = t932.length from (Kd.R_reads' HO_11.out).1.symm]; exact (Kd.R_reads' HO_11.out).2.1); rintro e w' ⟨rfl, ⟨nd, rfl⟩⟩; refine ⟨_, rfl, ?_⟩))
           go_ret
           exact ⟨EQ, BA⟩
     ·replace c28 := Bool.eq_false_iff.mpr c28
      subst c28
      rw [if_neg (show ¬ (false = true) by decide)] at H
      obtain rfl := Option.some.inj H
      go_wp2_with (first | ((with_reducible refine gate_callee (f := 17) rfl ?_); refine gK (some 51) Try.func17 #[.slice A0 l0.length c0] rfl rfl rfl ?_; (with_reducible refine (laws_toNodeS.calls kj10 _ _ l0 t937 _ ?side1 ?side2 A26.out).mono ?_); (case side1 => exact cb (Kd.C_below HR0.out HB.out)); (case side2 => exact HC0.out); rintro e w69 ⟨v938, rfl, ho0, hb⟩; refine ⟨_, rfl, ?_⟩; replace HO_8 := Aside0.mk (Kd.R_below (rb HO_8.out) hb); replace HO_11 := Aside0.mk (Kd.R_below (rb HO_11.out) hb); have HO939 := Aside0.mk (Kd.R_lower (Kd.R_new' ho0 (Kd.R_lt (rb HO_10.out))) (below_size BA)); replace HO_10 := Aside0.mk (Kd.R_elder' (rb HO_10.out) (Kd.R_base ho0) hb); replace HB := bs hb; (try clear hb); (try clear ho0); obtain ⟨Ao70, co70, eo70⟩ := Kd.R_slice HO939.out; subst eo70) | ((with_reducible refine gate_callee (f := 19) rfl ?_); refine gK (some 52) Try.func19 #[.slice Ao17 t929.length co17, .slice Ao70 t937.length co70] rfl rfl rfl ?_; (with_reducible refine (laws_eqNodeS.calls kj10 _ _ t929 _ _ t937 false _ ?side1 ?side2 ?side3 ?side4 A27.out).mono ?_); (case side1 => exact cb (Kd.R_reads' HO_10.out).2.2); (case side2 => exact (Kd.R_reads' HO_10.out).2.1); (case side3 => exact cb (Kd.R_reads' HO939.out).2.2); (case side4 => exact (Kd.R_reads' HO939.out).2.1); rintro e w71 ⟨rfl, hb⟩; refine ⟨_, rfl, ?_⟩; replace HO_8 := Aside0.mk (Kd.R_below (rb HO_8.out) hb); replace HO_10 := Aside0.mk (Kd.R_below (rb HO_10.out) hb); replace HO_11 := Aside0.mk (Kd.R_below (rb HO_11.out) hb); replace HO939 := Aside0.mk (Kd.R_below (rb HO939.out) hb); replace HB := bs hb; (try clear hb)))
      go_ret
      exact ⟨EQ, BA⟩

end Go.Proofs.Ytlmegefdnkjcbaa.Pa
