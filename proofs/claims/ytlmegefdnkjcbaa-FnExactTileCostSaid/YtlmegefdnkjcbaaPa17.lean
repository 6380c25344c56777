-- Made by this session's program gen.py over the translation.
import Derived.Test.YtlmegefdnkjcbaaPa0
import Derived.Test.YtlmegefdnkjcbaaPa1
import Derived.Test.YtlmegefdnkjcbaaPa4
import Derived.Test.YtlmegefdnkjcbaaPa9
import Derived.Test.YtlmegefdnkjcbaaPa12
import Derived.Test.YtlmegefdnkjcbaaPa14
namespace Go.Proofs.Ytlmegefdnkjcbaa.Pa
open Go.RowKit Go.Proofs.YtlmegefdnkjcbaaW.PrintWords Go.Proofs.YtlmegefdnkjcbaaW.PrintLast Go.Proofs.YtlmegefdnkjcbaaW.PrintMore
attribute [local go_sem] max2_int min2_int max_two min_two max_three min_three max_four min_four   -- for this text's walks alone
set_option linter.unusedVariables false
set_option linter.unusedSimpArgs false
set_option maxHeartbeats 8000000
set_option maxRecDepth 100000

/-! ### spec_TileCost: function 16 -/
def spec_TileCost.f (k : Nat) (l0 : List (S54)) (a1 : Int) (a2 : Int) : Option (Int × Bool) := (spec_cvAt.f k l0 a1 a2).bind fun t375 => (if t375 = true then ((spec_cvCost.f l0 a1 a2).bind fun t376 => (some (t376, true))) else (some (0, false)))
theorem spec_TileCost.calls (k : Nat) (A0 : Option Addr) (c0 : Nat) (l0 : List (S54)) (a1 : Int) (a2 : Int) (r1 : Int) (r2 : Bool) (w : World) (hr0 : Kd.C k54 w A0 l0.length l0) (hc0 : l0.length ≤ c0) (h : spec_TileCost.f k l0 a1 a2 = some (r1, r2)) :
  Calls Try.prog 16 #[.slice A0 l0.length c0, .int .i64 a1, .int .i64 a2] w fun e w' => e = .returned (.tuple #[.int .i64 r1, .bool r2]) ∧ Below w.heap.size w w' := by
 have HR0 := Aside0.mk hr0
 have HC0 := Aside0.mk hc0
 clear hr0 hc0
 have HB := Aside0.mk (Below.refl w.heap.size w)
 have H := h
 clear h
 unfold spec_TileCost.f at H
 obtain ⟨t375, A4, H⟩ := ob H
 (try dsimp only at H)
 by_cases c5 : t375 = true
 ·subst c5
  rw [if_pos rfl] at H
  obtain ⟨t376, A6, H⟩ := ob H
  (try dsimp only at H)
  simp only [Option.some.injEq, Prod.mk.injEq] at H
  obtain ⟨rfl, rfl⟩ := H
  go_enter Try.func16, Try.ntmps16
  go_wp2_with (first | ((with_reducible refine gate_callee (f := 48) rfl ?_); refine gK (some 11) Try.func48 #[.slice A0 l0.length c0, .int .i64 a1, .int .i64 a2] rfl rfl rfl ?_; (with_reducible refine (spec_cvAt.calls k _ _ l0 a1 a2 true _ ?side1 ?side2 A4.out).mono ?_); (case side1 => exact cb HR0.out); (case side2 => exact HC0.out); rintro e w7 ⟨rfl, hb⟩; refine ⟨_, rfl, ?_⟩; replace HB := bs hb; (try clear hb)) | ((with_reducible refine gate_callee (f := 49) rfl ?_); refine gK (some 16) Try.func49 #[.slice A0 l0.length c0, .int .i64 a1, .int .i64 a2] rfl rfl rfl ?_; (with_reducible refine (spec_cvCost.calls _ _ l0 a1 a2 t376 _ ?side1 ?side2 A6.out).mono ?_); (case side1 => exact cb (Kd.C_below HR0.out HB.out)); (case side2 => exact HC0.out); rintro e w' ⟨rfl, ⟨nd, rfl⟩⟩; refine ⟨_, rfl, ?_⟩))
  go_ret2
  exact ⟨EQ, BA⟩
 ·replace c5 := Bool.eq_false_iff.mpr c5
  subst c5
  rw [if_neg (show ¬ (false = true) by decide)] at H
  simp only [Option.some.injEq, Prod.mk.injEq] at H
  obtain ⟨rfl, rfl⟩ := H
  go_enter Try.func16, Try.ntmps16
  go_wp2_with (first | ((with_reducible refine gate_callee (f := 48) rfl ?_); refine gK (some 11) Try.func48 #[.slice A0 l0.length c0, .int .i64 a1, .int .i64 a2] rfl rfl rfl ?_; (with_reducible refine (spec_cvAt.calls k _ _ l0 a1 a2 false _ ?side1 ?side2 A4.out).mono ?_); (case side1 => exact cb HR0.out); (case side2 => exact HC0.out); rintro e w8 ⟨rfl, hb⟩; refine ⟨_, rfl, ?_⟩; replace HB := bs hb; (try clear hb)))
  go_ret2
  exact ⟨EQ, BA⟩

/-! ### impl_TileCost: function 18 -/
def impl_TileCost.f (k : Nat) (l0 : List (S54)) (a1 : Int) (a2 : Int) : Option (Int × Bool) := (impl_toldTile.f k l0 a1 a2).bind fun bt863 => (some (bt863.2.2.1, bt863.2.2.2))
theorem impl_TileCost.calls (k : Nat) (A0 : Option Addr) (c0 : Nat) (l0 : List (S54)) (a1 : Int) (a2 : Int) (r1 : Int) (r2 : Bool) (w : World) (hr0 : Kd.C k54 w A0 l0.length l0) (hc0 : l0.length ≤ c0) (h : impl_TileCost.f k l0 a1 a2 = some (r1, r2)) :
  Calls Try.prog 18 #[.slice A0 l0.length c0, .int .i64 a1, .int .i64 a2] w fun e w' => e = .returned (.tuple #[.int .i64 r1, .bool r2]) ∧ Below w.heap.size w w' := by
 have hu57 := Try.underlying57
 have HR0 := Aside0.mk hr0
 have HC0 := Aside0.mk hc0
 clear hr0 hc0
 have HB := Aside0.mk (Below.refl w.heap.size w)
 have H := h
 clear h
 unfold impl_TileCost.f at H
 replace H := Option.bind_eq_some_iff.mp H
 obtain ⟨⟨t863, t866, t869, t870⟩, A40, H⟩ := H
 (try dsimp only at H)
 have A4 := Aside0.mk A40
 clear A40
 simp only [Option.some.injEq, Prod.mk.injEq] at H
 obtain ⟨rfl, rfl⟩ := H
 go_enter Try.func18, Try.ntmps18
 go_wp2_with (first | ((with_reducible refine gate_callee (f := 51) rfl ?_); refine gK (some 14) Try.func51 #[.slice A0 l0.length c0, .int .i64 a1, .int .i64 a2] rfl rfl rfl ?_; (with_reducible refine (impl_toldTile.calls k _ _ l0 a1 a2 t863 t866 t869 t870 _ ?side1 ?side2 A4.out).mono ?_); (case side1 => exact cb HR0.out); (case side2 => exact HC0.out); rintro e w5 ⟨v864, v867, rfl, ho0, ho1, hb⟩; refine ⟨_, rfl, ?_⟩; have HO865 := Aside0.mk (Kd.R_lower ho0 (below_size BA)); have HO868 := Aside0.mk (Kd.R_lower ho1 (below_size BA)); replace HB := bs hb; (try clear hb); (try clear ho0); (try clear ho1)) | ((with_reducible refine gd 8 rfl ?_); refine bx 8 #[.slice none 0 0, .slice none 0 0, .int .i64 0] 57 ?_; intro gb871 hg w6 BK871 GW871 HB hb; replace HO865 := Aside0.mk (Kd.R_below (rb HO865.out) hb); replace HO868 := Aside0.mk (Kd.R_below (rb HO868.out) hb); have GE871 := GW871; clear hb hg; obtain ⟨Ao7, co7, eo7⟩ := Kd.R_slice HO865.out; subst eo7; obtain ⟨hcz8_0, hcz8_1, hcz8_2⟩ := bc3 BK871.out; have hfz8 := blk_frozen BK871.out; obtain ⟨Ao9, co9, eo9⟩ := Kd.R_slice HO868.out; subst eo9))
 go_ret2
 exact ⟨EQ, BA⟩

/-! ### laws_FnExactTileCost: function 3 -/
def laws_FnExactTileCost.j0 : Nat → List (S51) → List (S54) → Bool → Option (Bool)
 | 0, _, _, _ => none
 | k + 1, x0, x10, x42 => if x42 = true then (some false) else ((laws_toNodeS.f k x0).bind fun t888 => ((laws_eqNodeS.f k x10 t888).bind fun t891 => (if t891 = true then (some true) else (some false))))
def laws_FnExactTileCost.f (k : Nat) (l0 : List (S51)) (a1 : Int) (a2 : Int) : Option (Bool) := (laws_szNodeS.f k l0 1048576).bind fun t877 => (if t877 < 0 then (some true) else ((laws_toNodeS.f k l0).bind fun t878 => ((spec_TileCost.f k t878 a1 a2).bind fun bt881 => ((laws_toNodeS.f k l0).bind fun t883 => ((impl_TileCost.f k t883 a1 a2).bind fun bt886 => (if bt886.1 = bt881.1 then (laws_FnExactTileCost.j0 k l0 t883 (bt886.2 != bt881.2)) else (laws_FnExactTileCost.j0 k l0 t883 true)))))))
theorem laws_FnExactTileCost.calls (k : Nat) (A0 : Option Addr) (c0 : Nat) (l0 : List (S51)) (a1 : Int) (a2 : Int) (r : Bool) (w : World) (hr0 : Kd.C k51 w A0 l0.length l0) (hc0 : l0.length ≤ c0) (h : laws_FnExactTileCost.f k l0 a1 a2 = some r) :
  Calls Try.prog 3 #[.slice A0 l0.length c0, .int .i64 a1, .int .i64 a2] w fun e w' => e = .returned (.bool r) ∧ Below w.heap.size w w' := by
 have HR0 := Aside0.mk hr0
 have HC0 := Aside0.mk hc0
 clear hr0 hc0
 have HB := Aside0.mk (Below.refl w.heap.size w)
 have H := h
 clear h
 unfold laws_FnExactTileCost.f at H
 obtain ⟨t877, A4, H⟩ := ob H
 (try dsimp only at H)
 by_cases c5 : t877 < 0
 ·rw [if_pos c5] at H
  have c5b0 := decide_eq_true c5
  clear c5
  obtain rfl := Option.some.inj H
  go_enter Try.func3, Try.ntmps3
  go_wp2_with (first | ((with_reducible refine gate_callee (f := 15) rfl ?_); refine gK (some 15) Try.func15 #[.slice A0 l0.length c0, .int .i64 1048576] rfl rfl rfl ?_; (with_reducible refine (laws_szNodeS.calls k _ _ l0 1048576 t877 _ ?side1 ?side2 A4.out).mono ?_); (case side1 => exact cb HR0.out); (case side2 => exact HC0.out); rintro e w6 ⟨rfl, hb⟩; refine ⟨_, rfl, ?_⟩; replace HB := bs hb; (try clear hb)))
  go_ret
  exact ⟨EQ, BA⟩
 ·rw [if_neg c5] at H
  have c5b0 := decide_eq_false c5
  clear c5
  obtain ⟨t878, A7, H⟩ := ob H
  (try dsimp only at H)
  replace H := Option.bind_eq_some_iff.mp H
  obtain ⟨⟨t881, t882⟩, A80, H⟩ := H
  (try dsimp only at H)
  have A8 := Aside0.mk A80
  clear A80
  obtain ⟨t883, A9, H⟩ := ob H
  (try dsimp only at H)
  replace H := Option.bind_eq_some_iff.mp H
  obtain ⟨⟨t886, t887⟩, A100, H⟩ := H
  (try dsimp only at H)
  have A10 := Aside0.mk A100
  clear A100
  have HC11 := Aside0.mk H
  clear H
  go_enter Try.func3, Try.ntmps3
  go_upto_region 8 with (first | ((with_reducible refine gate_callee (f := 15) rfl ?_); refine gK (some 15) Try.func15 #[.slice A0 l0.length c0, .int .i64 1048576] rfl rfl rfl ?_; (with_reducible refine (laws_szNodeS.calls k _ _ l0 1048576 t877 _ ?side1 ?side2 A4.out).mono ?_); (case side1 => exact cb HR0.out); (case side2 => exact HC0.out); rintro e w12 ⟨rfl, hb⟩; refine ⟨_, rfl, ?_⟩; replace HB := bs hb; (try clear hb)) | ((with_reducible refine gate_callee (f := 17) rfl ?_); refine gK (some 20) Try.func17 #[.slice A0 l0.length c0] rfl rfl rfl ?_; (with_reducible refine (laws_toNodeS.calls k _ _ l0 t878 _ ?side1 ?side2 A7.out).mono ?_); (case side1 => exact cb (Kd.C_below HR0.out HB.out)); (case side2 => exact HC0.out); rintro e w13 ⟨v879, rfl, ho0, hb⟩; refine ⟨_, rfl, ?_⟩; have HO880 := Aside0.mk (Kd.R_lower ho0 (below_size BA)); replace HB := bs hb; (try clear hb); (try clear ho0); obtain ⟨Ao14, co14, eo14⟩ := Kd.R_slice HO880.out; subst eo14) | ((with_reducible refine gate_callee (f := 16) rfl ?_); refine gK (some 23) Try.func16 #[.slice Ao14 t878.length co14, .int .i64 a1, .int .i64 a2] rfl rfl rfl ?_; (with_reducible refine (spec_TileCost.calls k _ _ t878 a1 a2 t881 t882 _ ?side1 ?side2 A8.out).mono ?_); (case side1 => exact cb (Kd.R_reads' HO880.out).2.2); (case side2 => exact (Kd.R_reads' HO880.out).2.1); rintro e w15 ⟨rfl, hb⟩; refine ⟨_, rfl, ?_⟩; replace HO880 := Aside0.mk (Kd.R_below (rb HO880.out) hb); replace HB := bs hb; (try clear hb)) | ((with_reducible refine gate_callee (f := 17) rfl ?_); refine gK (some 27) Try.func17 #[.slice A0 l0.length c0] rfl rfl rfl ?_; (with_reducible refine (laws_toNodeS.calls k _ _ l0 t883 _ ?side1 ?side2 A9.out).mono ?_); (case side1 => exact cb (Kd.C_below HR0.out HB.out)); (case side2 => exact HC0.out); rintro e w16 ⟨v884, rfl, ho0, hb⟩; refine ⟨_, rfl, ?_⟩; have HO885 := Aside0.mk (Kd.R_lower (Kd.R_new' ho0 (Kd.R_lt (rb HO880.out))) (below_size BA)); replace HO880 := Aside0.mk (Kd.R_elder' (rb HO880.out) (Kd.R_base ho0) hb); replace HB := bs hb; (try clear hb); (try clear ho0); obtain ⟨Ao17, co17, eo17⟩ := Kd.R_slice HO885.out; subst eo17) | ((with_reducible refine gate_callee (f := 18) rfl ?_); refine gK (some 32) Try.func18 #[.slice Ao17 t883.length co17, .int .i64 a1, .int .i64 a2] rfl rfl rfl ?_; (with_reducible refine (impl_TileCost.calls k _ _ t883 a1 a2 t886 t887 _ ?side1 ?side2 A10.out).mono ?_); (case side1 => exact cb (Kd.R_reads' HO885.out).2.2); (case side2 => exact (Kd.R_reads' HO885.out).2.1); rintro e w18 ⟨rfl, hb⟩; refine ⟨_, rfl, ?_⟩; replace HO880 := Aside0.mk (Kd.R_below (rb HO880.out) hb); replace HO885 := Aside0.mk (Kd.R_below (rb HO885.out) hb); replace HB := bs hb; (try clear hb)))
  (try simp only [Act.put, List.setIfInBounds_toArray, List.set_cons_zero, List.set_cons_succ])
  go_cut [42] (fun v42 wc => ∃ (kq : Nat) (x42_10 : Bool), v42 = .bool x42_10 ∧ Aside0 (laws_FnExactTileCost.j0 kq l0 t883 x42_10 = some r) ∧ Aside0 (kq ≤ k) ∧ Aside0 (Kd.R k54 54 wc w.heap.size (fun _ => True) (.slice Ao17 t883.length co17) t883) ∧ Aside0 (Below w.heap.size w wc))
  case first =>
   have H := HC11.out
   clear HC11
   by_cases c19 : t886 = t881
   ·rw [if_pos c19] at H
    have c19b0 := beq_iff_eq.mpr c19
    have c19b1 := bne_eq_false_iff_eq.mpr c19
    clear c19
    (first | rw [c19b0] | (simp only [i64_w, i32_w]; rw [c19b0]) | skip)
    have H' := Aside0.mk H
    clear H
    go_wp2
    go_meet
    case rel => exact ⟨_, ((t887 != t882)), EQ1, H', ⟨by first | omega | exact Nat.le_refl _⟩, ⟨rb (Kd.R_mono HO885.out (fun _ hk => trivial))⟩, ⟨BA⟩⟩
   ·rw [if_neg c19] at H
    have c19b0 := beq_eq_false_iff_ne.mpr c19
    have c19b1 := bne_iff_ne.mpr c19
    (first | rw [c19b0] | (simp only [i64_w, i32_w]; rw [c19b0]) | skip)
    have H' := Aside0.mk H
    clear H
    go_wp2
    go_meet
    case rel => exact ⟨_, (true), EQ1, H', ⟨by first | omega | exact Nat.le_refl _⟩, ⟨rb (Kd.R_mono HO885.out (fun _ hk => trivial))⟩, ⟨BA⟩⟩
  case rest =>
   clear HC11
   (try clear c5b0); (try clear c19b0); (try clear c19b1)
   obtain ⟨kq, x42_10, rfl, HA, HJ10, HO_10, HB⟩ := hcut
   cases kq with
   | zero => exact absurd HA.out (by simp [laws_FnExactTileCost.j0])
   | succ kj10 =>
    have H := HA.out
    clear HA
    simp only [laws_FnExactTileCost.j0] at H
    by_cases c20 : x42_10 = true
    ·subst c20
     rw [if_pos rfl] at H
     obtain rfl := Option.some.inj H
     go_wp2
     go_ret
     exact ⟨EQ, BA⟩
    ·replace c20 := Bool.eq_false_iff.mpr c20
     subst c20
     rw [if_neg (show ¬ (false = true) by decide)] at H
     obtain ⟨t888, A21, H⟩ := ob H
     (try dsimp only at H)
     obtain ⟨t891, A22, H⟩ := ob H
     (try dsimp only at H)
     by_cases c23 : t891 = true
     ·subst c23
      rw [if_pos rfl] at H
      obtain rfl := Option.some.inj H
      go_wp2_with (first | ((with_reducible refine gate_callee (f := 17) rfl ?_); refine gK (some 45) Try.func17 #[.slice A0 l0.length c0] rfl rfl rfl ?_; (with_reducible refine (laws_toNodeS.calls kj10 _ _ l0 t888 _ ?side1 ?side2 A21.out).mono ?_); (case side1 => exact cb (Kd.C_below HR0.out HB.out)); (case side2 => exact HC0.out); rintro e w24 ⟨v889, rfl, ho0, hb⟩; refine ⟨_, rfl, ?_⟩; have HO890 := Aside0.mk (Kd.R_lower (Kd.R_new' ho0 (Kd.R_lt (rb HO_10.out))) (below_size BA)); replace HO_10 := Aside0.mk (Kd.R_elder' (rb HO_10.out) (Kd.R_base ho0) hb); replace HB := bs hb; (try clear hb); (try clear ho0); obtain ⟨Ao25, co25, eo25⟩ := Kd.R_slice HO890.out; subst eo25) | ((with_reducible refine gate_callee (f := 19) rfl ?_); refine gK (some 46) Try.func19 #[.slice Ao17 t883.length co17, .slice Ao25 t888.length co25] rfl rfl rfl ?_; (with_reducible refine (laws_eqNodeS.calls kj10 _ _ t883 _ _ t888 true _ ?side1 ?side2 ?side3 ?side4 A22.out).mono ?_); (case side1 => exact cb (Kd.R_reads' HO_10.out).2.2); (case side2 => exact (Kd.R_reads' HO_10.out).2.1); (case side3 => exact cb (Kd.R_reads' HO890.out).2.2); (case side4 => exact (Kd.R_reads' HO890.out).2.1); rintro e w26 ⟨rfl, hb⟩; refine ⟨_, rfl, ?_⟩; replace HO_10 := Aside0.mk (Kd.R_below (rb HO_10.out) hb); replace HO890 := Aside0.mk (Kd.R_below (rb HO890.out) hb); replace HB := bs hb; (try clear hb)))
      go_ret
      exact ⟨EQ, BA⟩
     ·replace c23 := Bool.eq_false_iff.mpr c23
      subst c23
      rw [if_neg (show ¬ (false = true) by decide)] at H
      obtain rfl := Option.some.inj H
      go_wp2_with (first | ((with_reducible refine gate_callee (f := 17) rfl ?_); refine gK (some 45) Try.func17 #[.slice A0 l0.length c0] rfl rfl rfl ?_; (with_reducible refine (laws_toNodeS.calls kj10 _ _ l0 t888 _ ?side1 ?side2 A21.out).mono ?_); (case side1 => exact cb (Kd.C_below HR0.out HB.out)); (case side2 => exact HC0.out); rintro e w27 ⟨v889, rfl, ho0, hb⟩; refine ⟨_, rfl, ?_⟩; have HO890 := Aside0.mk (Kd.R_lower (Kd.R_new' ho0 (Kd.R_lt (rb HO_10.out))) (below_size BA)); replace HO_10 := Aside0.mk (Kd.R_elder' (rb HO_10.out) (Kd.R_base ho0) hb); replace HB := bs hb; (try clear hb); (try clear ho0); obtain ⟨Ao28, co28, eo28⟩ := Kd.R_slice HO890.out; subst eo28) | ((with_reducible refine gate_callee (f := 19) rfl ?_); refine gK (some 46) Try.func19 #[.slice Ao17 t883.length co17, .slice Ao28 t888.length co28] rfl rfl rfl ?_; (with_reducible refine (laws_eqNodeS.calls kj10 _ _ t883 _ _ t888 false _ ?side1 ?side2 ?side3 ?side4 A22.out).mono ?_); (case side1 => exact cb (Kd.R_reads' HO_10.out).2.2); (case side2 => exact (Kd.R_reads' HO_10.out).2.1); (case side3 => exact cb (Kd.R_reads' HO890.out).2.2); (case side4 => exact (Kd.R_reads' HO890.out).2.1); rintro e w29 ⟨rfl, hb⟩; refine ⟨_, rfl, ?_⟩; replace HO_10 := Aside0.mk (Kd.R_below (rb HO_10.out) hb); replace HO890 := Aside0.mk (Kd.R_below (rb HO890.out) hb); replace HB := bs hb; (try clear hb)))
      go_ret
      exact ⟨EQ, BA⟩

end Go.Proofs.Ytlmegefdnkjcbaa.Pa
