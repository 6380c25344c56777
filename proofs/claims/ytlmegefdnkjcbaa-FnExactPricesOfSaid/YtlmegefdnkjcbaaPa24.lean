-- Made by this session's program gen.py over the translation.
import Derived.Test.YtlmegefdnkjcbaaPa10
import Derived.Test.YtlmegefdnkjcbaaPa13
import Derived.Test.YtlmegefdnkjcbaaPa23
namespace Go.Proofs.Ytlmegefdnkjcbaa.Pa
open Go.RowKit Go.Proofs.YtlmegefdnkjcbaaW.PrintWords Go.Proofs.YtlmegefdnkjcbaaW.PrintLast Go.Proofs.YtlmegefdnkjcbaaW.PrintMore
attribute [local go_sem] max2_int min2_int max_two min_two max_three min_three max_four min_four   -- for this text's walks alone
set_option linter.unusedVariables false
set_option linter.unusedSimpArgs false
set_option maxHeartbeats 8000000
set_option maxRecDepth 100000

/-! ### laws_FnExactPricesOf: function 9 -/
mutual
def laws_FnExactPricesOf.j0 : Nat → List (S51) → List Int → Bool → List (S54) → List Int → Bool → Bool → Option (Bool)
 | 0, _, _, _, _, _, _, _ => none
 | k + 1, x0, x4, x5, x6, x7, x8, x40 => if x40 = true then (some false) else ((laws_toNodeS.f k x0).bind fun t8 => ((laws_eqNodeS.f k x6 t8).bind fun t1 => (if t1 = true then ((laws_markNodeS.f k x6 1).bind fun bt2 => (if bt2.1 < 0 then (laws_FnExactPricesOf.j1 k x0 x4 x5 x7 true) else ((laws_eqIntS.f k x7 x4).bind fun t64 => (if t64 = true then (laws_FnExactPricesOf.j1 k x0 x4 x5 x7 (x8 != x5)) else (laws_FnExactPricesOf.j1 k x0 x4 x5 x7 true))))) else (some false))))
def laws_FnExactPricesOf.j1 : Nat → List (S51) → List Int → Bool → List Int → Bool → Option (Bool)
 | 0, _, _, _, _, _ => none
 | k + 1, x0, x4, x5, x7, x61 => if x61 = true then (some false) else ((laws_markIntS.f k x7 1).bind fun bt5 => ((laws_heldIntS.f k bt5.2 1).bind fun t67 => (if t67 < 0 then (some false) else (if t67 = bt5.1 then ((laws_toNodeS.f k x0).bind fun t68 => ((impl_PricesOf.f k t68).bind fun bt1 => ((laws_eqIntS.f k bt1.1 x4).bind fun t75 => (if t75 = true then (laws_FnExactPricesOf.j2 k bt5.2 bt5.1 (bt1.2 != x5)) else (laws_FnExactPricesOf.j2 k bt5.2 bt5.1 true))))) else (some false)))))
def laws_FnExactPricesOf.j2 : Nat → List Int → Int → Bool → Option (Bool)
 | 0, _, _, _ => none
 | k + 1, x7, x10, x87 => if x87 = true then (some false) else ((laws_heldIntS.f k x7 1).bind fun t76 => (if t76 < 0 then (some false) else (if t76 = x10 then (some true) else (some false))))
end
def laws_FnExactPricesOf.f (k : Nat) (l0 : List (S51)) : Option (Bool) := (laws_szNodeS.f k l0 1048576).bind fun t2 => (if t2 < 0 then (some true) else ((laws_toNodeS.f k l0).bind fun t3 => ((spec_PricesOf.f k t3).bind fun bt6 => ((laws_toNodeS.f k l0).bind fun t0 => ((impl_PricesOf.f k t0).bind fun bt3 => ((laws_eqIntS.f k bt3.1 bt6.1).bind fun t57 => (if t57 = true then (laws_FnExactPricesOf.j0 k l0 bt6.1 bt6.2 t0 bt3.1 bt3.2 (bt3.2 != bt6.2)) else (laws_FnExactPricesOf.j0 k l0 bt6.1 bt6.2 t0 bt3.1 bt3.2 true))))))))
theorem laws_FnExactPricesOf.calls (k : Nat) (A0 : Option Addr) (c0 : Nat) (l0 : List (S51)) (r : Bool) (w : World) (hr0 : Kd.C k51 w A0 l0.length l0) (hc0 : l0.length ≤ c0) (h : laws_FnExactPricesOf.f k l0 = some r) :
  Calls Try.prog 9 #[.slice A0 l0.length c0] w fun e w' => e = .returned (.bool r) ∧ Below w.heap.size w w' := by
 have HR0 := Aside0.mk hr0
 have HC0 := Aside0.mk hc0
 clear hr0 hc0
 have HB := Aside0.mk (Below.refl w.heap.size w)
 have H := h
 clear h
 unfold laws_FnExactPricesOf.f at H
 obtain ⟨t2, A2, H⟩ := ob H
 (try dsimp only at H)
 by_cases c3 : t2 < 0
 ·rw [if_pos c3] at H
  have c3b0 := decide_eq_true c3
  clear c3
  obtain rfl := Option.some.inj H
  go_enter Try.func9, Try.ntmps9
  go_wp2_with (first | ((with_reducible refine gate_callee (f := 15) rfl ?_); refine gK (some 16) Try.func15 #[.slice A0 l0.length c0, .int .i64 1048576] rfl rfl rfl ?_; (with_reducible refine (laws_szNodeS.calls k _ _ l0 1048576 t2 _ ?side1 ?side2 A2.out).mono ?_); (case side1 => exact cb HR0.out); (case side2 => exact HC0.out); rintro e w4 ⟨rfl, hb⟩; refine ⟨_, rfl, ?_⟩; replace HB := bs hb; (try clear hb)))
  go_ret
  exact ⟨EQ, BA⟩
 ·rw [if_neg c3] at H
  have c3b0 := decide_eq_false c3
  clear c3
  obtain ⟨t3, A5, H⟩ := ob H
  (try dsimp only at H)
  replace H := Option.bind_eq_some_iff.mp H
  obtain ⟨⟨t6, t7⟩, A60, H⟩ := H
  (try dsimp only at H)
  have A6 := Aside0.mk A60
  clear A60
  obtain ⟨t0, A7, H⟩ := ob H
  (try dsimp only at H)
  replace H := Option.bind_eq_some_iff.mp H
  obtain ⟨⟨t53, t4⟩, A80, H⟩ := H
  (try dsimp only at H)
  have A8 := Aside0.mk A80
  clear A80
  have HC9 := Aside0.mk H
  clear H
  go_enter Try.func9, Try.ntmps9
  go_upto_region 8 with (first | ((with_reducible refine gate_callee (f := 15) rfl ?_); refine gK (some 16) Try.func15 #[.slice A0 l0.length c0, .int .i64 1048576] rfl rfl rfl ?_; (with_reducible refine (laws_szNodeS.calls k _ _ l0 1048576 t2 _ ?side1 ?side2 A2.out).mono ?_); (case side1 => exact cb HR0.out); (case side2 => exact HC0.out); rintro e w10 ⟨rfl, hb⟩; refine ⟨_, rfl, ?_⟩; replace HB := bs hb; (try clear hb)) | ((with_reducible refine gate_callee (f := 17) rfl ?_); refine gK (some 21) Try.func17 #[.slice A0 l0.length c0] rfl rfl rfl ?_; (with_reducible refine (laws_toNodeS.calls k _ _ l0 t3 _ ?side1 ?side2 A5.out).mono ?_); (case side1 => exact cb (Kd.C_below HR0.out HB.out)); (case side2 => exact HC0.out); rintro e w11 ⟨v4, rfl, ho0, hb⟩; refine ⟨_, rfl, ?_⟩; have HO5 := Aside0.mk (Kd.R_lower ho0 (below_size BA)); replace HB := bs hb; (try clear hb); (try clear ho0); obtain ⟨Ao12, co12, eo12⟩ := Kd.R_slice HO5.out; subst eo12) | ((with_reducible refine gate_callee (f := 35) rfl ?_); refine gK (some 22) Try.func35 #[.slice Ao12 t3.length co12] rfl rfl rfl ?_; (with_reducible refine (spec_PricesOf.calls k _ _ t3 t6 t7 _ ?side1 ?side2 A6.out).mono ?_); (case side1 => exact cb (Kd.R_reads' HO5.out).2.2); (case side2 => exact (Kd.R_reads' HO5.out).2.1); rintro e w13 ⟨v8, rfl, ho0, hb⟩; refine ⟨_, rfl, ?_⟩; replace HO5 := Aside0.mk (Kd.R_below (rb HO5.out) hb); have HO9 := Aside0.mk (Kd.R_lower ho0 (below_size BA)); replace HB := bs hb; (try clear hb); (try clear ho0)) | ((with_reducible refine gate_callee (f := 17) rfl ?_); refine gK (some 26) Try.func17 #[.slice A0 l0.length c0] rfl rfl rfl ?_; (with_reducible refine (laws_toNodeS.calls k _ _ l0 t0 _ ?side1 ?side2 A7.out).mono ?_); (case side1 => exact cb (Kd.C_below HR0.out HB.out)); (case side2 => exact HC0.out); rintro e w14 ⟨v1, rfl, ho0, hb⟩; refine ⟨_, rfl, ?_⟩; replace HO9 := Aside0.mk (Kd.R_below (rb HO9.out) hb); have HO2 := Aside0.mk (Kd.R_lower (Kd.R_new' ho0 (Kd.R_lt (rb HO5.out))) (below_size BA)); replace HO5 := Aside0.mk (Kd.R_elder' (rb HO5.out) (Kd.R_base ho0) hb); replace HB := bs hb; (try clear hb); (try clear ho0); obtain ⟨Ao15, co15, eo15⟩ := Kd.R_slice HO2.out; subst eo15) | ((with_reducible refine gate_callee (f := 36) rfl ?_); refine gK (some 29) Try.func36 #[.slice Ao15 t0.length co15] rfl rfl rfl ?_; (with_reducible refine (impl_PricesOf.calls k _ _ t0 t53 t4 _ ?side1 ?side2 A8.out).mono ?_); (case side1 => exact cb (Kd.R_reads' HO2.out).2.2); (case side2 => exact (Kd.R_reads' HO2.out).2.1); rintro e w16 ⟨v5, rfl, ho0, hb⟩; refine ⟨_, rfl, ?_⟩; replace HO5 := Aside0.mk (Kd.R_below (rb HO5.out) hb); replace HO2 := Aside0.mk (Kd.R_below (rb HO2.out) hb); have HO6 := Aside0.mk (Kd.R_lower (Kd.R_new' ho0 (Kd.R_lt (rb HO9.out))) (below_size BA)); replace HO9 := Aside0.mk (Kd.R_elder' (rb HO9.out) (Kd.R_base ho0) hb); replace HB := bs hb; (try clear hb); (try clear ho0)))
  (try simp only [Act.put, List.setIfInBounds_toArray, List.set_cons_zero, List.set_cons_succ])
  go_cut [40] (fun v40 wc => ∃ (kq : Nat) (x40_8 : Bool), v40 = .bool x40_8 ∧ Aside0 (laws_FnExactPricesOf.j0 kq l0 t6 t7 t0 t53 t4 x40_8 = some r) ∧ Aside0 (kq ≤ k) ∧ Aside0 (Kd.R (Kd.int .i64) 3 wc w.heap.size (fun k_ => some k_ ≠ (v5 : Value).ownBlock) v8 t6) ∧ Aside0 (Kd.R k54 54 wc w.heap.size (fun _ => True) (.slice Ao15 t0.length co15) t0) ∧ Aside0 (Kd.R (Kd.int .i64) 3 wc w.heap.size (fun k_ => some k_ ≠ (v8 : Value).ownBlock) v5 t53) ∧ Aside0 (Below w.heap.size w wc))
  case first =>
   have H := HC9.out
   clear HC9
   obtain ⟨t57, A17, H⟩ := ob H
   (try dsimp only at H)
   by_cases c18 : t57 = true
   ·subst c18
    rw [if_pos rfl] at H
    have H' := Aside0.mk H
    clear H
    obtain ⟨Ao19, co19, eo19⟩ := Kd.R_slice HO6.out
    subst eo19
    obtain ⟨Ao20, co20, eo20⟩ := Kd.R_slice HO9.out
    subst eo20
    go_wp2_with (first | ((with_reducible refine gate_callee (f := 22) rfl ?_); refine gK (some 34) Try.func22 #[.slice Ao19 t53.length co19, .slice Ao20 t6.length co20] rfl rfl rfl ?_; (with_reducible refine (laws_eqIntS.calls k _ _ t53 _ _ t6 true _ ?side1 ?side2 ?side3 ?side4 A17.out).mono ?_); (case side1 => exact cb (Kd.R_reads' HO6.out).2.2); (case side2 => exact (Kd.R_reads' HO6.out).2.1); (case side3 => exact cb (Kd.R_reads' HO9.out).2.2); (case side4 => exact (Kd.R_reads' HO9.out).2.1); rintro e w' ⟨rfl, ⟨nd, rfl⟩⟩; refine ⟨_, rfl, ?_⟩))
    go_meet
    case rel => exact ⟨_, ((t4 != t7)), EQ1, H', ⟨by first | omega | exact Nat.le_refl _⟩, ⟨rb (Kd.R_mono HO9.out (fun _ hk => hk.2))⟩, ⟨rb (Kd.R_mono HO2.out (fun _ hk => trivial))⟩, ⟨rb (Kd.R_mono HO6.out (fun _ hk => hk.2))⟩, ⟨BA⟩⟩
   ·replace c18 := Bool.eq_false_iff.mpr c18
    subst c18
    rw [if_neg (show ¬ (false = true) by decide)] at H
    have H' := Aside0.mk H
    clear H
    obtain ⟨Ao21, co21, eo21⟩ := Kd.R_slice HO6.out
    subst eo21
    obtain ⟨Ao22, co22, eo22⟩ := Kd.R_slice HO9.out
    subst eo22
    go_wp2_with (first | ((with_reducible refine gate_callee (f := 22) rfl ?_); refine gK (some 34) Try.func22 #[.slice Ao21 t53.length co21, .slice Ao22 t6.length co22] rfl rfl rfl ?_; (with_reducible refine (laws_eqIntS.calls k _ _ t53 _ _ t6 false _ ?side1 ?side2 ?side3 ?side4 A17.out).mono ?_); (case side1 => exact cb (Kd.R_reads' HO6.out).2.2); (case side2 => exact (Kd.R_reads' HO6.out).2.1); (case side3 => exact cb (Kd.R_reads' HO9.out).2.2); (case side4 => exact (Kd.R_reads' HO9.out).2.1); rintro e w' ⟨rfl, ⟨nd, rfl⟩⟩; refine ⟨_, rfl, ?_⟩))
    go_meet
    case rel => exact ⟨_, (true), EQ1, H', ⟨by first | omega | exact Nat.le_refl _⟩, ⟨rb (Kd.R_mono HO9.out (fun _ hk => hk.2))⟩, ⟨rb (Kd.R_mono HO2.out (fun _ hk => trivial))⟩, ⟨rb (Kd.R_mono HO6.out (fun _ hk => hk.2))⟩, ⟨BA⟩⟩
  case rest =>
   clear HC9
   obtain ⟨kq, x40_8, rfl, HA, HJ8, HO_4, HO_6, HO_7, HB⟩ := hcut
   cases kq with
   | zero => exact absurd HA.out (by simp [laws_FnExactPricesOf.j0])
   | succ kj8 =>
    have H := HA.out
    clear HA
    simp only [laws_FnExactPricesOf.j0] at H
    by_cases c23 : x40_8 = true
    ·subst c23
     rw [if_pos rfl] at H
     obtain rfl := Option.some.inj H
     go_wp2
     go_ret
     exact ⟨EQ, BA⟩
    ·replace c23 := Bool.eq_false_iff.mpr c23
     subst c23
     rw [if_neg (show ¬ (false = true) by decide)] at H
     obtain ⟨t8, A24, H⟩ := ob H
     (try dsimp only at H)
     obtain ⟨t1, A25, H⟩ := ob H
     (try dsimp only at H)
     by_cases c26 : t1 = true
     ·subst c26
      rw [if_pos rfl] at H
      replace H := Option.bind_eq_some_iff.mp H
      obtain ⟨⟨t62, t63⟩, A70, H⟩ := H
      (try dsimp only at H)
      have A27 := Aside0.mk A70
      clear A70
      have HC28 := Aside0.mk H
      clear H
      go_upto_region 14 with (first | ((with_reducible refine gate_callee (f := 17) rfl ?_); refine gK (some 43) Try.func17 #[.slice A0 l0.length c0] rfl rfl rfl ?_; (with_reducible refine (laws_toNodeS.calls kj8 _ _ l0 t8 _ ?side1 ?side2 A24.out).mono ?_); (case side1 => exact cb (Kd.C_below HR0.out HB.out)); (case side2 => exact HC0.out); rintro e w29 ⟨v9, rfl, ho0, hb⟩; refine ⟨_, rfl, ?_⟩; replace HO_4 := Aside0.mk (Kd.R_below (rb HO_4.out) hb); replace HO_7 := Aside0.mk (Kd.R_below (rb HO_7.out) hb); have HO0 := Aside0.mk (Kd.R_lower (Kd.R_new' ho0 (Kd.R_lt (rb HO_6.out))) (below_size BA)); replace HO_6 := Aside0.mk (Kd.R_elder' (rb HO_6.out) (Kd.R_base ho0) hb); replace HB := bs hb; (try clear hb); (try clear ho0); obtain ⟨Ao30, co30, eo30⟩ := Kd.R_slice HO0.out; subst eo30) | ((with_reducible refine gate_callee (f := 19) rfl ?_); refine gK (some 44) Try.func19 #[.slice Ao15 t0.length co15, .slice Ao30 t8.length co30] rfl rfl rfl ?_; (with_reducible refine (laws_eqNodeS.calls kj8 _ _ t0 _ _ t8 true _ ?side1 ?side2 ?side3 ?side4 A25.out).mono ?_); (case side1 => exact cb (Kd.R_reads' HO_6.out).2.2); (case side2 => exact (Kd.R_reads' HO_6.out).2.1); (case side3 => exact cb (Kd.R_reads' HO0.out).2.2); (case side4 => exact (Kd.R_reads' HO0.out).2.1); rintro e w31 ⟨rfl, hb⟩; refine ⟨_, rfl, ?_⟩; replace HO_4 := Aside0.mk (Kd.R_below (rb HO_4.out) hb); replace HO_6 := Aside0.mk (Kd.R_below (rb HO_6.out) hb); replace HO_7 := Aside0.mk (Kd.R_below (rb HO_7.out) hb); replace HO0 := Aside0.mk (Kd.R_below (rb HO0.out) hb); replace HB := bs hb; (try clear hb)) | ((with_reducible refine gate_callee (f := 23) rfl ?_); refine gK (some 48) Try.func23 #[.slice Ao15 t0.length co15, .int .i64 1] rfl rfl rfl ?_; (with_reducible refine (laws_markNodeS.calls kj8 (fun k_ => some k_ = (.slice Ao15 t0.length co15 : Value).ownBlock) (.slice Ao15 t0.length co15) t0 1 t62 t63 w _ ?side1 ?side2 A27.out).mono ?_); (case side1 => repeat (first | (with_reducible first | exact HB.out | apply below_alloc | apply pw_below_drewN | apply below_drew1) | exact HB.out)); (case side2 => exact Kd.R_tight rfl HO_6.out); rintro e w32 ⟨rfl, hy0, hb, hkp⟩; refine ⟨_, rfl, ?_⟩; replace HO_4 := Aside0.mk (Kd.R_mono (ok' := fun k_ => some k_ ≠ (v5 : Value).ownBlock) (Kd.R_keptB ((Kd.R_apart' HO_4.out (Kd.R_typed HO_6.out) (by decide))) hkp (fun k_ hk_ hs_ => (hk_.2) hs_)) (fun k_ hk_ => hk_.1.1)); replace HO_7 := Aside0.mk (Kd.R_mono (ok' := fun k_ => some k_ ≠ (v8 : Value).ownBlock) (Kd.R_keptB ((Kd.R_apart' HO_7.out (Kd.R_typed HO_6.out) (by decide))) hkp (fun k_ hk_ hs_ => (hk_.2) hs_)) (fun k_ hk_ => hk_.1.1)); replace HO_6 := Aside0.mk (Kd.R_reok rfl hy0 (fun k_ e_ => HO_6.out.1 k_ e_)); replace HO0 := Aside0.mk (Kd.R_mono (ok' := fun k_ => some k_ ≠ (.slice Ao15 t0.length co15 : Value).ownBlock) (Kd.R_keptB (HO0.out) hkp (fun k_ hk_ hs_ => (hk_.2) hs_)) (fun k_ hk_ => hk_.1.2)); replace HB := Aside0.mk (hb); (try clear hb); (try clear hkp); (try clear hy0)))
      (try simp only [Act.put, List.setIfInBounds_toArray, List.set_cons_zero, List.set_cons_succ])
      go_cut [61] (fun v61 wc => ∃ (kq : Nat) (x61_27 : Bool), v61 = .bool x61_27 ∧ Aside0 (laws_FnExactPricesOf.j1 kq l0 t6 t7 t53 x61_27 = some r) ∧ Aside0 (kq ≤ kj8) ∧ Aside0 (Kd.R (Kd.int .i64) 3 wc w.heap.size (fun k_ => some k_ ≠ (v5 : Value).ownBlock) v8 t6) ∧ Aside0 (Kd.R (Kd.int .i64) 3 wc w.heap.size (fun k_ => some k_ ≠ (v8 : Value).ownBlock) v5 t53) ∧ Aside0 (Below w.heap.size w wc))
      case first =>
       have H := HC28.out
       clear HC28
       by_cases c33 : t62 < 0
       ·rw [if_pos c33] at H
        have c33b0 := decide_eq_true c33
        clear c33
        (first | rw [c33b0] | (simp only [i64_w, i32_w]; rw [c33b0]) | skip)
        have H' := Aside0.mk H
        clear H
        go_wp2
        go_meet
        case rel => exact ⟨_, (true), EQ1, H', ⟨by have := HJ8.out; first | omega | exact Nat.le_refl _⟩, ⟨rb HO_4.out⟩, ⟨rb HO_7.out⟩, ⟨BA⟩⟩
       ·rw [if_neg c33] at H
        have c33b0 := decide_eq_false c33
        clear c33
        (first | rw [c33b0] | (simp only [i64_w, i32_w]; rw [c33b0]) | skip)
        obtain ⟨t64, A34, H⟩ := ob H
        (try dsimp only at H)
        by_cases c35 : t64 = true
        ·subst c35
         rw [if_pos rfl] at H
         have H' := Aside0.mk H
         clear H
         obtain ⟨Ao36, co36, eo36⟩ := Kd.R_slice HO_7.out
         subst eo36
         obtain ⟨Ao37, co37, eo37⟩ := Kd.R_slice HO_4.out
         subst eo37
         go_wp2_with (first | (go_at_call 22; (with_reducible refine (laws_eqIntS.calls kj8 _ _ t53 _ _ t6 true _ ?side1 ?side2 ?side3 ?side4 A34.out).mono ?_); (case side1 => exact cb (Kd.R_reads' HO_7.out).2.2); (case side2 => exact (Kd.R_reads' HO_7.out).2.1); (case side3 => exact cb (Kd.R_reads' HO_4.out).2.2); (case side4 => exact (Kd.R_reads' HO_4.out).2.1); rintro e w' ⟨rfl, ⟨nd, rfl⟩⟩))
         go_meet
         case rel => exact ⟨_, ((t4 != t7)), EQ1, H', ⟨by have := HJ8.out; first | omega | exact Nat.le_refl _⟩, ⟨rb HO_4.out⟩, ⟨rb HO_7.out⟩, ⟨BA⟩⟩
        ·replace c35 := Bool.eq_false_iff.mpr c35
         subst c35
         rw [if_neg (show ¬ (false = true) by decide)] at H
         have H' := Aside0.mk H
         clear H
         obtain ⟨Ao38, co38, eo38⟩ := Kd.R_slice HO_7.out
         subst eo38
         obtain ⟨Ao39, co39, eo39⟩ := Kd.R_slice HO_4.out
         subst eo39
         go_wp2_with (first | (go_at_call 22; (with_reducible refine (laws_eqIntS.calls kj8 _ _ t53 _ _ t6 false _ ?side1 ?side2 ?side3 ?side4 A34.out).mono ?_); (case side1 => exact cb (Kd.R_reads' HO_7.out).2.2); (case side2 => exact (Kd.R_reads' HO_7.out).2.1); (case side3 => exact cb (Kd.R_reads' HO_4.out).2.2); (case side4 => exact (Kd.R_reads' HO_4.out).2.1); rintro e w' ⟨rfl, ⟨nd, rfl⟩⟩))
         go_meet
         case rel => exact ⟨_, (true), EQ1, H', ⟨by have := HJ8.out; first | omega | exact Nat.le_refl _⟩, ⟨rb HO_4.out⟩, ⟨rb HO_7.out⟩, ⟨BA⟩⟩
      case rest =>
       clear HC28
       obtain ⟨kq, x61_27, rfl, HA, HJ27, HO_4, HO_7, HB⟩ := hcut
       cases kq with
       | zero => exact absurd HA.out (by simp [laws_FnExactPricesOf.j1])
       | succ kj27 =>
        have H := HA.out
        clear HA
        simp only [laws_FnExactPricesOf.j1] at H
        by_cases c40 : x61_27 = true
        ·subst c40
         rw [if_pos rfl] at H
         obtain rfl := Option.some.inj H
         go_wp2
         go_ret
         exact ⟨EQ, BA⟩
        ·replace c40 := Bool.eq_false_iff.mpr c40
         subst c40
         rw [if_neg (show ¬ (false = true) by decide)] at H
         replace H := Option.bind_eq_some_iff.mp H
         obtain ⟨⟨t5, t66⟩, A10, H⟩ := H
         (try dsimp only at H)
         have A41 := Aside0.mk A10
         clear A10
         obtain ⟨t67, A42, H⟩ := ob H
         (try dsimp only at H)
         by_cases c43 : t67 < 0
         ·rw [if_pos c43] at H
          have c43b0 := decide_eq_true c43
          clear c43
          obtain rfl := Option.some.inj H
          obtain ⟨Ao44, co44, eo44⟩ := Kd.R_slice HO_7.out
          subst eo44
          go_wp2_with (first | ((with_reducible refine gate_callee (f := 24) rfl ?_); refine gK (some 64) Try.func24 #[.slice Ao44 t53.length co44, .int .i64 1] rfl rfl rfl ?_; (with_reducible refine (laws_markIntS.calls kj27 (fun k_ => some k_ = (.slice Ao44 t53.length co44 : Value).ownBlock) (.slice Ao44 t53.length co44) t53 1 t5 t66 w _ ?side1 ?side2 A41.out).mono ?_); (case side1 => repeat (first | (with_reducible first | exact HB.out | apply below_alloc | apply pw_below_drewN | apply below_drew1) | exact HB.out)); (case side2 => exact Kd.R_tight rfl HO_7.out); rintro e w45 ⟨rfl, hy0, hb, hkp⟩; refine ⟨_, rfl, ?_⟩; replace HO_4 := Aside0.mk (Kd.R_mono (ok' := fun k_ => some k_ ≠ (.slice Ao44 t53.length co44 : Value).ownBlock) (Kd.R_keptB (HO_4.out) hkp (fun k_ hk_ hs_ => (hk_) hs_)) (fun k_ hk_ => hk_.1)); replace HO_7 := Aside0.mk (Kd.R_reok rfl hy0 (fun k_ e_ => HO_7.out.1 k_ e_)); replace HB := Aside0.mk (hb); (try clear hb); (try clear hkp); (try clear hy0)) | ((with_reducible refine gate_callee (f := 25) rfl ?_); refine goesL_ (some 67) rfl rfl Try.func25 (by kernel_rfl) rfl #[.slice Ao44 t66.length co44, .int .i64 1] rfl (by (try simp only [List.map_toArray, List.map_cons, List.map_nil]); first | done | (rw [show t66.length = t53.length from (Kd.R_reads' HO_7.out).1.symm] <;> rfl) | rfl | (simp only [List.length_drop, List.length_take]; rfl)) ?_; (with_reducible refine (laws_heldIntS.calls kj27 _ _ t66 1 t67 _ ?side1 ?side2 A42.out).mono ?_); (case side1 => exact cb (Kd.R_reads' HO_7.out).2.2); (case side2 => rw [show t66.length = t53.length from (Kd.R_reads' HO_7.out).1.symm]; exact (Kd.R_reads' HO_7.out).2.1); rintro e w' ⟨rfl, ⟨nd, rfl⟩⟩; refine ⟨_, rfl, ?_⟩))
          go_ret
          exact ⟨EQ, BA⟩
         ·rw [if_neg c43] at H
          have c43b0 := decide_eq_false c43
          clear c43
          by_cases c46 : t67 = t5
          ·rw [if_pos c46] at H
           have c46b0 := beq_iff_eq.mpr c46
           have c46b1 := bne_eq_false_iff_eq.mpr c46
           clear c46
           obtain ⟨t68, A47, H⟩ := ob H
           (try dsimp only at H)
           replace H := Option.bind_eq_some_iff.mp H
           obtain ⟨⟨t71, t72⟩, A480, H⟩ := H
           (try dsimp only at H)
           have A48 := Aside0.mk A480
           clear A480
           have HC49 := Aside0.mk H
           clear H
           obtain ⟨Ao50, co50, eo50⟩ := Kd.R_slice HO_7.out
           subst eo50
           go_upto_region 25 with (first | ((with_reducible refine gate_callee (f := 24) rfl ?_); refine gK (some 64) Try.func24 #[.slice Ao50 t53.length co50, .int .i64 1] rfl rfl rfl ?_; (with_reducible refine (laws_markIntS.calls kj27 (fun k_ => some k_ = (.slice Ao50 t53.length co50 : Value).ownBlock) (.slice Ao50 t53.length co50) t53 1 t5 t66 w _ ?side1 ?side2 A41.out).mono ?_); (case side1 => repeat (first | (with_reducible first | exact HB.out | apply below_alloc | apply pw_below_drewN | apply below_drew1) | exact HB.out)); (case side2 => exact Kd.R_tight rfl HO_7.out); rintro e w51 ⟨rfl, hy0, hb, hkp⟩; refine ⟨_, rfl, ?_⟩; replace HO_4 := Aside0.mk (Kd.R_mono (ok' := fun k_ => some k_ ≠ (.slice Ao50 t53.length co50 : Value).ownBlock) (Kd.R_keptB (HO_4.out) hkp (fun k_ hk_ hs_ => (hk_) hs_)) (fun k_ hk_ => hk_.1)); replace HO_7 := Aside0.mk (Kd.R_reok rfl hy0 (fun k_ e_ => HO_7.out.1 k_ e_)); replace HB := Aside0.mk (hb); (try clear hb); (try clear hkp); (try clear hy0)) | ((with_reducible refine gate_callee (f := 25) rfl ?_); refine goesL_ (some 67) rfl rfl Try.func25 (by kernel_rfl) rfl #[.slice Ao50 t66.length co50, .int .i64 1] rfl (by (try simp only [List.map_toArray, List.map_cons, List.map_nil]); first | done | (rw [show t66.length = t53.length from (Kd.R_reads' HO_7.out).1.symm] <;> rfl) | rfl | (simp only [List.length_drop, List.length_take]; rfl)) ?_; (with_reducible refine (laws_heldIntS.calls kj27 _ _ t66 1 t67 _ ?side1 ?side2 A42.out).mono ?_); (case side1 => exact cb (Kd.R_reads' HO_7.out).2.2); (case side2 => rw [show t66.length = t53.length from (Kd.R_reads' HO_7.out).1.symm]; exact (Kd.R_reads' HO_7.out).2.1); rintro e w' ⟨rfl, ⟨nd, rfl⟩⟩; refine ⟨_, rfl, ?_⟩) | ((with_reducible refine gate_callee (f := 17) rfl ?_); refine gK (some 75) Try.func17 #[.slice A0 l0.length c0] rfl rfl rfl ?_; (with_reducible refine (laws_toNodeS.calls kj27 _ _ l0 t68 _ ?side1 ?side2 A47.out).mono ?_); (case side1 => exact cb (Kd.C_below HR0.out BA)); (case side2 => exact HC0.out); rintro e w52 ⟨v69, rfl, ho0, hb⟩; refine ⟨_, rfl, ?_⟩; replace HO_4 := Aside0.mk (Kd.R_below (rb HO_4.out) hb); replace HO_7 := Aside0.mk (Kd.R_below (rb HO_7.out) hb); have HO70 := Aside0.mk (Kd.R_lower ho0 (below_size BA)); replace HB := bs hb; (try clear hb); (try clear ho0); obtain ⟨Ao53, co53, eo53⟩ := Kd.R_slice HO70.out; subst eo53) | ((with_reducible refine gate_callee (f := 36) rfl ?_); refine gK (some 76) Try.func36 #[.slice Ao53 t68.length co53] rfl rfl rfl ?_; (with_reducible refine (impl_PricesOf.calls kj27 _ _ t68 t71 t72 _ ?side1 ?side2 A48.out).mono ?_); (case side1 => exact cb (Kd.R_reads' HO70.out).2.2); (case side2 => exact (Kd.R_reads' HO70.out).2.1); rintro e w54 ⟨v3, rfl, ho0, hb⟩; refine ⟨_, rfl, ?_⟩; replace HO70 := Aside0.mk (Kd.R_below (rb HO70.out) hb); have HO4 := Aside0.mk (Kd.R_lower (Kd.R_new' (Kd.R_new' ho0 (Kd.R_lt (rb HO_4.out))) (Kd.R_lt (rb HO_7.out))) (below_size BA)); replace HO_4 := Aside0.mk (Kd.R_elder' (rb HO_4.out) (Kd.R_base ho0) hb); replace HO_7 := Aside0.mk (Kd.R_elder' (rb HO_7.out) (Kd.R_base ho0) hb); replace HB := bs hb; (try clear hb); (try clear ho0)))
           (try simp only [Act.put, List.setIfInBounds_toArray, List.set_cons_zero, List.set_cons_succ])
           go_cut [87] (fun v87 wc => ∃ (kq : Nat) (x87_48 : Bool), v87 = .bool x87_48 ∧ Aside0 (laws_FnExactPricesOf.j2 kq t66 t5 x87_48 = some r) ∧ Aside0 (kq ≤ kj27) ∧ Aside0 (Kd.R (Kd.int .i64) 3 wc w.heap.size (fun _ => True) (.slice Ao50 t53.length co50) t66) ∧ Aside0 (Below w.heap.size w wc))
           case first =>
            have H := HC49.out
            clear HC49
            obtain ⟨t75, A55, H⟩ := ob H
            (try dsimp only at H)
            by_cases c56 : t75 = true
            ·subst c56
             rw [if_pos rfl] at H
             have H' := Aside0.mk H
             clear H
             obtain ⟨Ao57, co57, eo57⟩ := Kd.R_slice HO4.out
             subst eo57
             obtain ⟨Ao58, co58, eo58⟩ := Kd.R_slice HO_4.out
             subst eo58
             go_wp2_with (first | ((with_reducible refine gate_callee (f := 22) rfl ?_); refine gK (some 81) Try.func22 #[.slice Ao57 t71.length co57, .slice Ao58 t6.length co58] rfl rfl rfl ?_; (with_reducible refine (laws_eqIntS.calls kj27 _ _ t71 _ _ t6 true _ ?side1 ?side2 ?side3 ?side4 A55.out).mono ?_); (case side1 => exact cb (Kd.R_reads' HO4.out).2.2); (case side2 => exact (Kd.R_reads' HO4.out).2.1); (case side3 => exact cb (Kd.R_reads' HO_4.out).2.2); (case side4 => exact (Kd.R_reads' HO_4.out).2.1); rintro e w' ⟨rfl, ⟨nd, rfl⟩⟩; refine ⟨_, rfl, ?_⟩))
             go_meet
             case rel => exact ⟨_, ((t72 != t7)), EQ1, H', ⟨by have := HJ8.out; have := HJ27.out; first | omega | exact Nat.le_refl _⟩, ⟨rb (Kd.R_mono HO_7.out (fun _ hk => trivial))⟩, ⟨BA⟩⟩
            ·replace c56 := Bool.eq_false_iff.mpr c56
             subst c56
             rw [if_neg (show ¬ (false = true) by decide)] at H
             have H' := Aside0.mk H
             clear H
             obtain ⟨Ao59, co59, eo59⟩ := Kd.R_slice HO4.out
             subst eo59
             obtain ⟨Ao60, co60, eo60⟩ := Kd.R_slice HO_4.out
             subst eo60
             go_wp2_with (first | ((with_reducible refine gate_callee (f := 22) rfl ?_); refine gK (some 81) Try.func22 #[.slice Ao59 t71.length co59, .slice Ao60 t6.length co60] rfl rfl rfl ?_; (with_reducible refine (laws_eqIntS.calls kj27 _ _ t71 _ _ t6 false _ ?side1 ?side2 ?side3 ?side4 A55.out).mono ?_); (case side1 => exact cb (Kd.R_reads' HO4.out).2.2); (case side2 => exact (Kd.R_reads' HO4.out).2.1); (case side3 => exact cb (Kd.R_reads' HO_4.out).2.2); (case side4 => exact (Kd.R_reads' HO_4.out).2.1); rintro e w' ⟨rfl, ⟨nd, rfl⟩⟩; refine ⟨_, rfl, ?_⟩))
             go_meet
             case rel => exact ⟨_, (true), EQ1, H', ⟨by have := HJ8.out; have := HJ27.out; first | omega | exact Nat.le_refl _⟩, ⟨rb (Kd.R_mono HO_7.out (fun _ hk => trivial))⟩, ⟨BA⟩⟩
           case rest =>
            clear HC49
            obtain ⟨kq, x87_48, rfl, HA, HJ48, HO_7, HB⟩ := hcut
            have hl7_48 := (Kd.R_reads' HO_7.out).1
            rw [hl7_48] at HO_7
            (try simp only [hl7_48])
            cases kq with
            | zero => exact absurd HA.out (by simp [laws_FnExactPricesOf.j2])
            | succ kj48 =>
             have H := HA.out
             clear HA
             simp only [laws_FnExactPricesOf.j2] at H
             by_cases c61 : x87_48 = true
             ·subst c61
              rw [if_pos rfl] at H
              obtain rfl := Option.some.inj H
              go_wp2
              go_ret
              exact ⟨EQ, BA⟩
             ·replace c61 := Bool.eq_false_iff.mpr c61
              subst c61
              rw [if_neg (show ¬ (false = true) by decide)] at H
              obtain ⟨t76, A62, H⟩ := ob H
              (try dsimp only at H)
              by_cases c63 : t76 < 0
              ·rw [if_pos c63] at H
               have c63b0 := decide_eq_true c63
               clear c63
               obtain rfl := Option.some.inj H
               go_wp2_with (first | ((with_reducible refine gate_callee (f := 25) rfl ?_); refine gK (some 90) Try.func25 #[.slice Ao50 t66.length co50, .int .i64 1] rfl rfl rfl ?_; (with_reducible refine (laws_heldIntS.calls kj48 _ _ t66 1 t76 _ ?side1 ?side2 A62.out).mono ?_); (case side1 => exact cb (Kd.R_reads' HO_7.out).2.2); (case side2 => exact (Kd.R_reads' HO_7.out).2.1); rintro e w' ⟨rfl, ⟨nd, rfl⟩⟩; refine ⟨_, rfl, ?_⟩))
               go_ret
               exact ⟨EQ, BA⟩
              ·rw [if_neg c63] at H
               have c63b0 := decide_eq_false c63
               clear c63
               by_cases c64 : t76 = t5
               ·rw [if_pos c64] at H
                have c64b0 := beq_iff_eq.mpr c64
                have c64b1 := bne_eq_false_iff_eq.mpr c64
                clear c64
                obtain rfl := Option.some.inj H
                go_wp2_with (first | ((with_reducible refine gate_callee (f := 25) rfl ?_); refine gK (some 90) Try.func25 #[.slice Ao50 t66.length co50, .int .i64 1] rfl rfl rfl ?_; (with_reducible refine (laws_heldIntS.calls kj48 _ _ t66 1 t76 _ ?side1 ?side2 A62.out).mono ?_); (case side1 => exact cb (Kd.R_reads' HO_7.out).2.2); (case side2 => exact (Kd.R_reads' HO_7.out).2.1); rintro e w' ⟨rfl, ⟨nd, rfl⟩⟩; refine ⟨_, rfl, ?_⟩))
                go_ret
                exact ⟨EQ, BA⟩
               ·rw [if_neg c64] at H
                have c64b0 := beq_eq_false_iff_ne.mpr c64
                have c64b1 := bne_iff_ne.mpr c64
                obtain rfl := Option.some.inj H
                go_wp2_with (first | ((with_reducible refine gate_callee (f := 25) rfl ?_); refine gK (some 90) Try.func25 #[.slice Ao50 t66.length co50, .int .i64 1] rfl rfl rfl ?_; (with_reducible refine (laws_heldIntS.calls kj48 _ _ t66 1 t76 _ ?side1 ?side2 A62.out).mono ?_); (case side1 => exact cb (Kd.R_reads' HO_7.out).2.2); (case side2 => exact (Kd.R_reads' HO_7.out).2.1); rintro e w' ⟨rfl, ⟨nd, rfl⟩⟩; refine ⟨_, rfl, ?_⟩))
                go_ret
                exact ⟨EQ, BA⟩
          ·rw [if_neg c46] at H
           have c46b0 := beq_eq_false_iff_ne.mpr c46
           have c46b1 := bne_iff_ne.mpr c46
           obtain rfl := Option.some.inj H
           obtain ⟨Ao65, co65, eo65⟩ := Kd.R_slice HO_7.out
           subst eo65
           go_wp2_with (first | ((with_reducible refine gate_callee (f := 24) rfl ?_); refine gK (some 64) Try.func24 #[.slice Ao65 t53.length co65, .int .i64 1] rfl rfl rfl ?_; (with_reducible refine (laws_markIntS.calls kj27 (fun k_ => some k_ = (.slice Ao65 t53.length co65 : Value).ownBlock) (.slice Ao65 t53.length co65) t53 1 t5 t66 w _ ?side1 ?side2 A41.out).mono ?_); (case side1 => repeat (first | (with_reducible first | exact HB.out | apply below_alloc | apply pw_below_drewN | apply below_drew1) | exact HB.out)); (case side2 => exact Kd.R_tight rfl HO_7.out); rintro e w66 ⟨rfl, hy0, hb, hkp⟩; refine ⟨_, rfl, ?_⟩; replace HO_4 := Aside0.mk (Kd.R_mono (ok' := fun k_ => some k_ ≠ (.slice Ao65 t53.length co65 : Value).ownBlock) (Kd.R_keptB (HO_4.out) hkp (fun k_ hk_ hs_ => (hk_) hs_)) (fun k_ hk_ => hk_.1)); replace HO_7 := Aside0.mk (Kd.R_reok rfl hy0 (fun k_ e_ => HO_7.out.1 k_ e_)); replace HB := Aside0.mk (hb); (try clear hb); (try clear hkp); (try clear hy0)) | ((with_reducible refine gate_callee (f := 25) rfl ?_); refine goesL_ (some 67) rfl rfl Try.func25 (by kernel_rfl) rfl #[.slice Ao65 t66.length co65, .int .i64 1] rfl (by (try simp only [List.map_toArray, List.map_cons, List.map_nil]); first | done | (rw [show t66.length = t53.length from (Kd.R_reads' HO_7.out).1.symm] <;> rfl) | rfl | (simp only [List.length_drop, List.length_take]; rfl)) ?_; (with_reducible refine (laws_heldIntS.calls kj27 _ _ t66 1 t67 _ ?side1 ?side2 A42.out).mono ?_); (case side1 => exact cb (Kd.R_reads' HO_7.out).2.2); (case side2 => rw [show t66.length = t53.length from (Kd.R_reads' HO_7.out).1.symm]; exact (Kd.R_reads' HO_7.out).2.1); rintro e w' ⟨rfl, ⟨nd, rfl⟩⟩; refine ⟨_, rfl, ?_⟩))
           go_ret
           exact ⟨EQ, BA⟩
     ·replace c26 := Bool.eq_false_iff.mpr c26
      subst c26
      rw [if_neg (show ¬ (false = true) by decide)] at H
      obtain rfl := Option.some.inj H
      go_wp2_with (first | ((with_reducible refine gate_callee (f := 17) rfl ?_); refine gK (some 43) Try.func17 #[.slice A0 l0.length c0] rfl rfl rfl ?_; (with_reducible refine (laws_toNodeS.calls kj8 _ _ l0 t8 _ ?side1 ?side2 A24.out).mono ?_); (case side1 => exact cb (Kd.C_below HR0.out HB.out)); (case side2 => exact HC0.out); rintro e w67 ⟨v9, rfl, ho0, hb⟩; refine ⟨_, rfl, ?_⟩; replace HO_4 := Aside0.mk (Kd.R_below (rb HO_4.out) hb); replace HO_7 := Aside0.mk (Kd.R_below (rb HO_7.out) hb); have HO0 := Aside0.mk (Kd.R_lower (Kd.R_new' ho0 (Kd.R_lt (rb HO_6.out))) (below_size BA)); replace HO_6 := Aside0.mk (Kd.R_elder' (rb HO_6.out) (Kd.R_base ho0) hb); replace HB := bs hb; (try clear hb); (try clear ho0); obtain ⟨Ao68, co68, eo68⟩ := Kd.R_slice HO0.out; subst eo68) | ((with_reducible refine gate_callee (f := 19) rfl ?_); refine gK (some 44) Try.func19 #[.slice Ao15 t0.length co15, .slice Ao68 t8.length co68] rfl rfl rfl ?_; (with_reducible refine (laws_eqNodeS.calls kj8 _ _ t0 _ _ t8 false _ ?side1 ?side2 ?side3 ?side4 A25.out).mono ?_); (case side1 => exact cb (Kd.R_reads' HO_6.out).2.2); (case side2 => exact (Kd.R_reads' HO_6.out).2.1); (case side3 => exact cb (Kd.R_reads' HO0.out).2.2); (case side4 => exact (Kd.R_reads' HO0.out).2.1); rintro e w69 ⟨rfl, hb⟩; refine ⟨_, rfl, ?_⟩; replace HO_4 := Aside0.mk (Kd.R_below (rb HO_4.out) hb); replace HO_6 := Aside0.mk (Kd.R_below (rb HO_6.out) hb); replace HO_7 := Aside0.mk (Kd.R_below (rb HO_7.out) hb); replace HO0 := Aside0.mk (Kd.R_below (rb HO0.out) hb); replace HB := bs hb; (try clear hb)))
      go_ret
      exact ⟨EQ, BA⟩

end Go.Proofs.Ytlmegefdnkjcbaa.Pa
