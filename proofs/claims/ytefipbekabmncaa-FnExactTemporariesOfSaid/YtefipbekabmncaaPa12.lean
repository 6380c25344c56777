-- Made by this session's program gen.py over the translation.
import Derived.Test.YtefipbekabmncaaPa0
import Derived.Test.YtefipbekabmncaaPa2
import Derived.Test.YtefipbekabmncaaPa3
import Derived.Test.YtefipbekabmncaaPa5
namespace Go.Proofs.Ytefipbekabmncaa.Pa
open Go.RowKit Go.Proofs.YtefipbekabmncaaW.PrintWords Go.Proofs.YtefipbekabmncaaW.PrintLast Go.Proofs.YtefipbekabmncaaW.PrintMore
attribute [local go_sem] max2_int min2_int max_two min_two max_three min_three max_four min_four   -- for this text's walks alone
set_option linter.unusedVariables false
set_option linter.unusedSimpArgs false

/-! ### spec_ruSide: function 53 -/
def spec_ruSide.f (k : Nat) (a0 : ByteArray) : Option (Bool) := (spec_l1HasS.f k (([(⟨#[97, 110, 121]⟩ : ByteArray), (⟨#[99, 111, 110, 115, 116]⟩ : ByteArray), (⟨#[111, 100, 100]⟩ : ByteArray), (⟨#[112, 111, 119, 101, 114]⟩ : ByteArray), (⟨#[115, 109, 97, 108, 108]⟩ : ByteArray)] : List ByteArray)) a0).bind fun t105 => (some t105)
theorem spec_ruSide.mono : ∀ a0 k, LeO (spec_ruSide.f k a0) (spec_ruSide.f (k + 1) a0) := by
  intro a0 k
  unfold spec_ruSide.f
  repeat' first | (with_reducible first | exact spec_l1HasS.mono _ _ _ | exact LeO.refl _ | exact LeO.none _ | refine LeO.ite ?_ ?_ | refine LeO.bind ?_ (fun _ => ?_)) | exact LeO.none _ | refine LeO.ite ?_ ?_ | refine LeO.bind ?_ (fun _ => ?_)
set_option maxHeartbeats 8000000 in
set_option maxRecDepth 100000 in
theorem spec_ruSide.calls (k : Nat) (a0 : ByteArray) (r : Bool) (w : World) (h : spec_ruSide.f k a0 = some r) :
    Calls Try.prog 53 #[.string a0] w fun e w' => e = .returned (.bool r) ∧ Below w.heap.size w w' := by
  have HB := Aside0.mk (Below.refl w.heap.size w)
  have H : ((spec_l1HasS.f k (([(⟨#[97, 110, 121]⟩ : ByteArray), (⟨#[99, 111, 110, 115, 116]⟩ : ByteArray), (⟨#[111, 100, 100]⟩ : ByteArray), (⟨#[112, 111, 119, 101, 114]⟩ : ByteArray), (⟨#[115, 109, 97, 108, 108]⟩ : ByteArray)] : List ByteArray)) a0).bind fun t105 => (some t105)) = some r := h
  clear h
  obtain ⟨y102, hy102⟩ : ∃ y_ : List ByteArray, y_ = (([(⟨#[97, 110, 121]⟩ : ByteArray), (⟨#[99, 111, 110, 115, 116]⟩ : ByteArray), (⟨#[111, 100, 100]⟩ : ByteArray), (⟨#[112, 111, 119, 101, 114]⟩ : ByteArray), (⟨#[115, 109, 97, 108, 108]⟩ : ByteArray)] : List ByteArray)) := ⟨_, rfl⟩
  replace H : ((spec_l1HasS.f k y102 a0).bind fun t105 => (some t105)) = some r := by first | (rw [hy102]; with_reducible exact H) | (have H2_ := (Option.bind_some _ _).symm.trans H; rw [hy102]; with_reducible exact H2_) | (have H2_ := (Option.bind_some _ _).symm.trans H; with_reducible exact H2_) | with_reducible exact H | (rw [hy102]; exact H) | exact H
  have Ny102 := Aside0.mk hy102
  clear hy102
  replace H := Option.bind_eq_some_iff.mp H
  obtain ⟨t105, A20, H⟩ := H
  replace H : (some t105) = some r := H
  have A2 := Aside0.mk A20
  clear A20
  obtain rfl := Option.some.inj H
  go_enter Try.func53, Try.ntmps53
  go_wp2_with (first | ((with_reducible refine gate_dst (N := 3) rfl ?_); refine Kd.R_lit Kd.string _ 9 ?hg (N := 3) ?hd (xs := ([(⟨#[97, 110, 121]⟩ : ByteArray), (⟨#[99, 111, 110, 115, 116]⟩ : ByteArray), (⟨#[111, 100, 100]⟩ : ByteArray), (⟨#[112, 111, 119, 101, 114]⟩ : ByteArray), (⟨#[115, 109, 97, 108, 108]⟩ : ByteArray)] : List ByteArray)) (inner := [.string (⟨#[97, 110, 121]⟩ : ByteArray), .string (⟨#[99, 111, 110, 115, 116]⟩ : ByteArray), .string (⟨#[111, 100, 100]⟩ : ByteArray), .string (⟨#[112, 111, 119, 101, 114]⟩ : ByteArray), .string (⟨#[115, 109, 97, 108, 108]⟩ : ByteArray)]) (ok := fun _ => True) (okp := fun _ => True) ?hr ?hp (fun _ hk => hk) trivial (Below.refl _ _) (Nat.le_refl _) (by simp) ?_; (case hd => rfl); (case hg => rfl); (case hr => first | (go_simp; done) | (go_simp; rfl)); (case hp => exact (Reps.one (show Kd.M Kd.string _ _ _ (⟨#[97, 110, 121]⟩ : ByteArray) [.string (⟨#[97, 110, 121]⟩ : ByteArray)] from rfl) (Reps.one (show Kd.M Kd.string _ _ _ (⟨#[99, 111, 110, 115, 116]⟩ : ByteArray) [.string (⟨#[99, 111, 110, 115, 116]⟩ : ByteArray)] from rfl) (Reps.one (show Kd.M Kd.string _ _ _ (⟨#[111, 100, 100]⟩ : ByteArray) [.string (⟨#[111, 100, 100]⟩ : ByteArray)] from rfl) (Reps.one (show Kd.M Kd.string _ _ _ (⟨#[112, 111, 119, 101, 114]⟩ : ByteArray) [.string (⟨#[112, 111, 119, 101, 114]⟩ : ByteArray)] from rfl) (Reps.one (show Kd.M Kd.string _ _ _ (⟨#[115, 109, 97, 108, 108]⟩ : ByteArray) [.string (⟨#[115, 109, 97, 108, 108]⟩ : ByteArray)] from rfl) (Reps.none _ _))))))); intro v103 w3 ho4 hb hg_ hnew_; clear hg_ hnew_; (first | rw [← Ny102.out] at ho4 | (simp only [Int.reduceToNat] at ho4; rw [← Ny102.out] at ho4)); have HO104 := Aside0.mk (Kd.R_lower ho4 (below_size BA)); replace HB := Aside0.mk (below_step BA hb); clear hb ho4; obtain ⟨Ao5, co5, eo5⟩ := Kd.R_slice HO104.out; subst eo5) | ((with_reducible refine gate_callee (f := 108) rfl ?_); refine gK (some 5) Try.func108 #[.slice Ao5 y102.length co5, .string a0] rfl rfl rfl ?_; (with_reducible refine (spec_l1HasS.calls k _ _ y102 a0 t105 _ ?side1 ?side2 A2.out).mono ?_); (case side1 => exact cb (Kd.R_reads' HO104.out).2.2); (case side2 => exact (Kd.R_reads' HO104.out).2.1); rintro e w' ⟨rfl, ⟨nd, rfl⟩⟩; refine ⟨_, rfl, ?_⟩))
  go_ret
  exact ⟨EQ, BA⟩

/-! ### spec_ruFits: function 55 -/
def spec_ruFits.f (a0 : ByteArray) (a1 : Int) : Option (Bool) := if a0.toList = ([111, 100, 100] : List UInt8) then (some ((Int.tmod a1 2) == 1)) else (if a0.toList = ([112, 111, 119, 101, 114] : List UInt8) then (if a1 > 0 then (some ((Go.bits .and .i64 a1 (wrap64 (a1 - 1))) == 0)) else (some false)) else (if a0.toList = ([115, 109, 97, 108, 108] : List UInt8) then ((spec_l1In.f a1 1 5).bind fun t107 => (some t107)) else (some true)))
set_option maxHeartbeats 8000000 in
set_option maxRecDepth 100000 in
theorem spec_ruFits.calls (a0 : ByteArray) (a1 : Int) (r : Bool) (w : World) (h : spec_ruFits.f a0 a1 = some r) :
    Calls Try.prog 55 #[.string a0, .int .i64 a1] w fun e w' => e = .returned (.bool r) ∧ Drawn0 w w' := by
  have H : (if a0.toList = ([111, 100, 100] : List UInt8) then (some ((Int.tmod a1 2) == 1)) else (if a0.toList = ([112, 111, 119, 101, 114] : List UInt8) then (if a1 > 0 then (some ((Go.bits .and .i64 a1 (wrap64 (a1 - 1))) == 0)) else (some false)) else (if a0.toList = ([115, 109, 97, 108, 108] : List UInt8) then ((spec_l1In.f a1 1 5).bind fun t107 => (some t107)) else (some true)))) = some r := h
  clear h
  by_cases c3 : a0.toList = ([111, 100, 100] : List UInt8)
  · rw [if_pos c3] at H
    have c3b0 := beq_iff_eq.mpr c3
    have c3b1 := bne_eq_false_iff_eq.mpr c3
    clear c3
    obtain rfl := Option.some.inj H
    go_enter Try.func55, Try.ntmps55
    go_wp2
    go_ret
    exact ⟨EQ1, DA⟩
  · rw [if_neg c3] at H
    have c3b0 := beq_eq_false_iff_ne.mpr c3
    have c3b1 := bne_iff_ne.mpr c3
    by_cases c4 : a0.toList = ([112, 111, 119, 101, 114] : List UInt8)
    · rw [if_pos c4] at H
      have c4b0 := beq_iff_eq.mpr c4
      have c4b1 := bne_eq_false_iff_eq.mpr c4
      clear c4
      by_cases c5 : a1 > 0
      · rw [if_pos c5] at H
        have c5b0 := decide_eq_true c5
        clear c5
        obtain rfl := Option.some.inj H
        go_enter Try.func55, Try.ntmps55
        go_wp2
        go_ret
        exact ⟨EQ1, DA⟩
      · rw [if_neg c5] at H
        have c5b0 := decide_eq_false c5
        clear c5
        obtain rfl := Option.some.inj H
        go_enter Try.func55, Try.ntmps55
        go_wp2
        go_ret
        exact ⟨EQ1, DA⟩
    · rw [if_neg c4] at H
      have c4b0 := beq_eq_false_iff_ne.mpr c4
      have c4b1 := bne_iff_ne.mpr c4
      by_cases c6 : a0.toList = ([115, 109, 97, 108, 108] : List UInt8)
      · rw [if_pos c6] at H
        have c6b0 := beq_iff_eq.mpr c6
        have c6b1 := bne_eq_false_iff_eq.mpr c6
        clear c6
        replace H := Option.bind_eq_some_iff.mp H
        obtain ⟨t107, A70, H⟩ := H
        replace H : (some t107) = some r := H
        have A7 := Aside0.mk A70
        clear A70
        obtain rfl := Option.some.inj H
        go_enter Try.func55, Try.ntmps55
        go_wp2_with (first | ((with_reducible refine gate_callee (f := 95) rfl ?_); refine gK (some 25) Try.func95 #[.int .i64 a1, .int .i64 1, .int .i64 5] rfl rfl rfl ?_; (with_reducible refine (spec_l1In.calls a1 1 5 t107 _ A7.out).mono ?_); rintro e w' ⟨rfl, ⟨nd, rfl⟩⟩; refine ⟨_, rfl, ?_⟩))
        go_ret
        exact ⟨EQ1, DA⟩
      · rw [if_neg c6] at H
        have c6b0 := beq_eq_false_iff_ne.mpr c6
        have c6b1 := bne_iff_ne.mpr c6
        obtain rfl := Option.some.inj H
        go_enter Try.func55, Try.ntmps55
        go_wp2
        go_ret
        exact ⟨EQ1, DA⟩

/-! ### spec_FitsSide: function 14 -/
def spec_FitsSide.f (k : Nat) (a0 : ByteArray) (a1 : Int) : Option (Bool × Bool) := (spec_ruSide.f k a0).bind fun t108 => (if t108 = true then ((spec_exWord.f a1).bind fun t109 => (if t109 = true then ((spec_ruFits.f a0 a1).bind fun t110 => (some (t110, true))) else (some (false, false)))) else (some (false, false)))
theorem spec_FitsSide.mono : ∀ a0 a1 k, LeO (spec_FitsSide.f k a0 a1) (spec_FitsSide.f (k + 1) a0 a1) := by
  intro a0 a1 k
  unfold spec_FitsSide.f
  repeat' first | (with_reducible first | exact spec_ruSide.mono _ _ | exact LeO.refl _ | exact LeO.none _ | refine LeO.ite ?_ ?_ | refine LeO.bind ?_ (fun _ => ?_)) | exact LeO.none _ | refine LeO.ite ?_ ?_ | refine LeO.bind ?_ (fun _ => ?_)
set_option maxHeartbeats 8000000 in
set_option maxRecDepth 100000 in
theorem spec_FitsSide.calls (k : Nat) (a0 : ByteArray) (a1 : Int) (r1 : Bool) (r2 : Bool) (w : World) (h : spec_FitsSide.f k a0 a1 = some (r1, r2)) :
    Calls Try.prog 14 #[.string a0, .int .i64 a1] w fun e w' => e = .returned (.tuple #[.bool r1, .bool r2]) ∧ Below w.heap.size w w' := by
  have HB := Aside0.mk (Below.refl w.heap.size w)
  have H : ((spec_ruSide.f k a0).bind fun t108 => (if t108 = true then ((spec_exWord.f a1).bind fun t109 => (if t109 = true then ((spec_ruFits.f a0 a1).bind fun t110 => (some (t110, true))) else (some (false, false)))) else (some (false, false)))) = some (r1, r2) := h
  clear h
  replace H := Option.bind_eq_some_iff.mp H
  obtain ⟨t108, A30, H⟩ := H
  replace H : (if t108 = true then ((spec_exWord.f a1).bind fun t109 => (if t109 = true then ((spec_ruFits.f a0 a1).bind fun t110 => (some (t110, true))) else (some (false, false)))) else (some (false, false))) = some (r1, r2) := H
  have A3 := Aside0.mk A30
  clear A30
  by_cases c4 : t108 = true
  · subst c4
    have H1 : ((spec_exWord.f a1).bind fun t109 => (if t109 = true then ((spec_ruFits.f a0 a1).bind fun t110 => (some (t110, true))) else (some (false, false)))) = some (r1, r2) := by rw [if_pos rfl] at H; exact H
    clear H
    have H := H1
    clear H1
    replace H := Option.bind_eq_some_iff.mp H
    obtain ⟨t109, A50, H⟩ := H
    replace H : (if t109 = true then ((spec_ruFits.f a0 a1).bind fun t110 => (some (t110, true))) else (some (false, false))) = some (r1, r2) := H
    have A5 := Aside0.mk A50
    clear A50
    by_cases c6 : t109 = true
    · subst c6
      have H1 : ((spec_ruFits.f a0 a1).bind fun t110 => (some (t110, true))) = some (r1, r2) := by rw [if_pos rfl] at H; exact H
      clear H
      have H := H1
      clear H1
      replace H := Option.bind_eq_some_iff.mp H
      obtain ⟨t110, A70, H⟩ := H
      replace H : (some (t110, true)) = some (r1, r2) := H
      have A7 := Aside0.mk A70
      clear A70
      simp only [Option.some.injEq, Prod.mk.injEq] at H
      obtain ⟨rfl, rfl⟩ := H
      go_enter Try.func14, Try.ntmps14
      go_wp2_with (first | ((with_reducible refine gate_callee (f := 53) rfl ?_); refine gK (some 7) Try.func53 #[.string a0] rfl rfl rfl ?_; (with_reducible refine (spec_ruSide.calls k a0 true _ A3.out).mono ?_); rintro e w8 ⟨rfl, hb⟩; refine ⟨_, rfl, ?_⟩; replace HB := Aside0.mk (below_step BA hb); (try clear hb)) | (go_at_call 54; (with_reducible refine (spec_exWord.calls a1 true _ A5.out).mono ?_); rintro e w' ⟨rfl, ⟨nd, rfl⟩⟩) | ((with_reducible refine gate_callee (f := 55) rfl ?_); refine gK (some 16) Try.func55 #[.string a0, .int .i64 a1] rfl rfl rfl ?_; (with_reducible refine (spec_ruFits.calls a0 a1 t110 _ A7.out).mono ?_); rintro e w' ⟨rfl, ⟨nd, rfl⟩⟩; refine ⟨_, rfl, ?_⟩))
      go_ret2
      exact ⟨EQ, BA⟩
    · replace c6 := Bool.eq_false_iff.mpr c6
      subst c6
      have H1 : (some (false, false)) = some (r1, r2) := by rw [if_neg (show ¬ (false = true) by decide)] at H; exact H
      clear H
      have H := H1
      clear H1
      simp only [Option.some.injEq, Prod.mk.injEq] at H
      obtain ⟨rfl, rfl⟩ := H
      go_enter Try.func14, Try.ntmps14
      go_wp2_with (first | ((with_reducible refine gate_callee (f := 53) rfl ?_); refine gK (some 7) Try.func53 #[.string a0] rfl rfl rfl ?_; (with_reducible refine (spec_ruSide.calls k a0 true _ A3.out).mono ?_); rintro e w9 ⟨rfl, hb⟩; refine ⟨_, rfl, ?_⟩; replace HB := Aside0.mk (below_step BA hb); (try clear hb)) | (go_at_call 54; (with_reducible refine (spec_exWord.calls a1 false _ A5.out).mono ?_); rintro e w' ⟨rfl, ⟨nd, rfl⟩⟩))
      go_ret2
      exact ⟨EQ, BA⟩
  · replace c4 := Bool.eq_false_iff.mpr c4
    subst c4
    have H1 : (some (false, false)) = some (r1, r2) := by rw [if_neg (show ¬ (false = true) by decide)] at H; exact H
    clear H
    have H := H1
    clear H1
    simp only [Option.some.injEq, Prod.mk.injEq] at H
    obtain ⟨rfl, rfl⟩ := H
    go_enter Try.func14, Try.ntmps14
    go_wp2_with (first | ((with_reducible refine gate_callee (f := 53) rfl ?_); refine gK (some 7) Try.func53 #[.string a0] rfl rfl rfl ?_; (with_reducible refine (spec_ruSide.calls k a0 false _ A3.out).mono ?_); rintro e w10 ⟨rfl, hb⟩; refine ⟨_, rfl, ?_⟩; replace HB := Aside0.mk (below_step BA hb); (try clear hb)))
    go_ret2
    exact ⟨EQ, BA⟩

/-! ### impl_isSide: function 56 -/
def impl_isSide.f (k : Nat) (a0 : ByteArray) : Option (Bool) := (slices_Contains_string_string.f k (([(⟨#[97, 110, 121]⟩ : ByteArray), (⟨#[99, 111, 110, 115, 116]⟩ : ByteArray), (⟨#[111, 100, 100]⟩ : ByteArray), (⟨#[112, 111, 119, 101, 114]⟩ : ByteArray), (⟨#[115, 109, 97, 108, 108]⟩ : ByteArray)] : List ByteArray)) a0).bind fun t116 => (some t116)
theorem impl_isSide.mono : ∀ a0 k, LeO (impl_isSide.f k a0) (impl_isSide.f (k + 1) a0) := by
  intro a0 k
  unfold impl_isSide.f
  repeat' first | (with_reducible first | exact slices_Contains_string_string.mono _ _ _ | exact LeO.refl _ | exact LeO.none _ | refine LeO.ite ?_ ?_ | refine LeO.bind ?_ (fun _ => ?_)) | exact LeO.none _ | refine LeO.ite ?_ ?_ | refine LeO.bind ?_ (fun _ => ?_)
set_option maxHeartbeats 8000000 in
set_option maxRecDepth 100000 in
theorem impl_isSide.calls (k : Nat) (a0 : ByteArray) (r : Bool) (w : World) (h : impl_isSide.f k a0 = some r) :
    Calls Try.prog 56 #[.string a0] w fun e w' => e = .returned (.bool r) ∧ Below w.heap.size w w' := by
  have HB := Aside0.mk (Below.refl w.heap.size w)
  have H : ((slices_Contains_string_string.f k (([(⟨#[97, 110, 121]⟩ : ByteArray), (⟨#[99, 111, 110, 115, 116]⟩ : ByteArray), (⟨#[111, 100, 100]⟩ : ByteArray), (⟨#[112, 111, 119, 101, 114]⟩ : ByteArray), (⟨#[115, 109, 97, 108, 108]⟩ : ByteArray)] : List ByteArray)) a0).bind fun t116 => (some t116)) = some r := h
  clear h
  obtain ⟨y113, hy113⟩ : ∃ y_ : List ByteArray, y_ = (([(⟨#[97, 110, 121]⟩ : ByteArray), (⟨#[99, 111, 110, 115, 116]⟩ : ByteArray), (⟨#[111, 100, 100]⟩ : ByteArray), (⟨#[112, 111, 119, 101, 114]⟩ : ByteArray), (⟨#[115, 109, 97, 108, 108]⟩ : ByteArray)] : List ByteArray)) := ⟨_, rfl⟩
  replace H : ((slices_Contains_string_string.f k y113 a0).bind fun t116 => (some t116)) = some r := by first | (rw [hy113]; with_reducible exact H) | (have H2_ := (Option.bind_some _ _).symm.trans H; rw [hy113]; with_reducible exact H2_) | (have H2_ := (Option.bind_some _ _).symm.trans H; with_reducible exact H2_) | with_reducible exact H | (rw [hy113]; exact H) | exact H
  have Ny113 := Aside0.mk hy113
  clear hy113
  replace H := Option.bind_eq_some_iff.mp H
  obtain ⟨t116, A20, H⟩ := H
  replace H : (some t116) = some r := H
  have A2 := Aside0.mk A20
  clear A20
  obtain rfl := Option.some.inj H
  go_enter Try.func56, Try.ntmps56
  go_wp2_with (first | ((with_reducible refine gate_dst (N := 3) rfl ?_); refine Kd.R_lit Kd.string _ 9 ?hg (N := 3) ?hd (xs := ([(⟨#[97, 110, 121]⟩ : ByteArray), (⟨#[99, 111, 110, 115, 116]⟩ : ByteArray), (⟨#[111, 100, 100]⟩ : ByteArray), (⟨#[112, 111, 119, 101, 114]⟩ : ByteArray), (⟨#[115, 109, 97, 108, 108]⟩ : ByteArray)] : List ByteArray)) (inner := [.string (⟨#[97, 110, 121]⟩ : ByteArray), .string (⟨#[99, 111, 110, 115, 116]⟩ : ByteArray), .string (⟨#[111, 100, 100]⟩ : ByteArray), .string (⟨#[112, 111, 119, 101, 114]⟩ : ByteArray), .string (⟨#[115, 109, 97, 108, 108]⟩ : ByteArray)]) (ok := fun _ => True) (okp := fun _ => True) ?hr ?hp (fun _ hk => hk) trivial (Below.refl _ _) (Nat.le_refl _) (by simp) ?_; (case hd => rfl); (case hg => rfl); (case hr => first | (go_simp; done) | (go_simp; rfl)); (case hp => exact (Reps.one (show Kd.M Kd.string _ _ _ (⟨#[97, 110, 121]⟩ : ByteArray) [.string (⟨#[97, 110, 121]⟩ : ByteArray)] from rfl) (Reps.one (show Kd.M Kd.string _ _ _ (⟨#[99, 111, 110, 115, 116]⟩ : ByteArray) [.string (⟨#[99, 111, 110, 115, 116]⟩ : ByteArray)] from rfl) (Reps.one (show Kd.M Kd.string _ _ _ (⟨#[111, 100, 100]⟩ : ByteArray) [.string (⟨#[111, 100, 100]⟩ : ByteArray)] from rfl) (Reps.one (show Kd.M Kd.string _ _ _ (⟨#[112, 111, 119, 101, 114]⟩ : ByteArray) [.string (⟨#[112, 111, 119, 101, 114]⟩ : ByteArray)] from rfl) (Reps.one (show Kd.M Kd.string _ _ _ (⟨#[115, 109, 97, 108, 108]⟩ : ByteArray) [.string (⟨#[115, 109, 97, 108, 108]⟩ : ByteArray)] from rfl) (Reps.none _ _))))))); intro v114 w3 ho4 hb hg_ hnew_; clear hg_ hnew_; (first | rw [← Ny113.out] at ho4 | (simp only [Int.reduceToNat] at ho4; rw [← Ny113.out] at ho4)); have HO115 := Aside0.mk (Kd.R_lower ho4 (below_size BA)); replace HB := Aside0.mk (below_step BA hb); clear hb ho4; obtain ⟨Ao5, co5, eo5⟩ := Kd.R_slice HO115.out; subst eo5) | ((with_reducible refine gate_callee (f := 109) rfl ?_); refine gK (some 5) Try.func109 #[.slice Ao5 y113.length co5, .string a0] rfl rfl rfl ?_; (with_reducible refine (slices_Contains_string_string.calls k _ _ y113 a0 t116 _ ?side1 ?side2 A2.out).mono ?_); (case side1 => exact cb (Kd.R_reads' HO115.out).2.2); (case side2 => exact (Kd.R_reads' HO115.out).2.1); rintro e w' ⟨rfl, ⟨nd, rfl⟩⟩; refine ⟨_, rfl, ?_⟩))
  go_ret
  exact ⟨EQ, BA⟩

/-! ### impl_tells: function 58 -/
def impl_tells.f (a0 : ByteArray) (a1 : Int) : Option (Bool) := if a0.toList = ([111, 100, 100] : List UInt8) then (some ((Int.tmod a1 2) == 1)) else (if a0.toList = ([112, 111, 119, 101, 114] : List UInt8) then (if a1 > 0 then (some ((Go.bits .and .i64 a1 (wrap64 (a1 - 1))) == 0)) else (some false)) else (if a0.toList = ([115, 109, 97, 108, 108] : List UInt8) then ((impl_within.f a1 1 5).bind fun t118 => (some t118)) else (some true)))
set_option maxHeartbeats 8000000 in
set_option maxRecDepth 100000 in
theorem impl_tells.calls (a0 : ByteArray) (a1 : Int) (r : Bool) (w : World) (h : impl_tells.f a0 a1 = some r) :
    Calls Try.prog 58 #[.string a0, .int .i64 a1] w fun e w' => e = .returned (.bool r) ∧ Drawn0 w w' := by
  have H : (if a0.toList = ([111, 100, 100] : List UInt8) then (some ((Int.tmod a1 2) == 1)) else (if a0.toList = ([112, 111, 119, 101, 114] : List UInt8) then (if a1 > 0 then (some ((Go.bits .and .i64 a1 (wrap64 (a1 - 1))) == 0)) else (some false)) else (if a0.toList = ([115, 109, 97, 108, 108] : List UInt8) then ((impl_within.f a1 1 5).bind fun t118 => (some t118)) else (some true)))) = some r := h
  clear h
  by_cases c3 : a0.toList = ([111, 100, 100] : List UInt8)
  · rw [if_pos c3] at H
    have c3b0 := beq_iff_eq.mpr c3
    have c3b1 := bne_eq_false_iff_eq.mpr c3
    clear c3
    obtain rfl := Option.some.inj H
    go_enter Try.func58, Try.ntmps58
    go_wp2
    go_ret
    exact ⟨EQ1, DA⟩
  · rw [if_neg c3] at H
    have c3b0 := beq_eq_false_iff_ne.mpr c3
    have c3b1 := bne_iff_ne.mpr c3
    by_cases c4 : a0.toList = ([112, 111, 119, 101, 114] : List UInt8)
    · rw [if_pos c4] at H
      have c4b0 := beq_iff_eq.mpr c4
      have c4b1 := bne_eq_false_iff_eq.mpr c4
      clear c4
      by_cases c5 : a1 > 0
      · rw [if_pos c5] at H
        have c5b0 := decide_eq_true c5
        clear c5
        obtain rfl := Option.some.inj H
        go_enter Try.func58, Try.ntmps58
        go_wp2
        go_ret
        exact ⟨EQ1, DA⟩
      · rw [if_neg c5] at H
        have c5b0 := decide_eq_false c5
        clear c5
        obtain rfl := Option.some.inj H
        go_enter Try.func58, Try.ntmps58
        go_wp2
        go_ret
        exact ⟨EQ1, DA⟩
    · rw [if_neg c4] at H
      have c4b0 := beq_eq_false_iff_ne.mpr c4
      have c4b1 := bne_iff_ne.mpr c4
      by_cases c6 : a0.toList = ([115, 109, 97, 108, 108] : List UInt8)
      · rw [if_pos c6] at H
        have c6b0 := beq_iff_eq.mpr c6
        have c6b1 := bne_eq_false_iff_eq.mpr c6
        clear c6
        replace H := Option.bind_eq_some_iff.mp H
        obtain ⟨t118, A70, H⟩ := H
        replace H : (some t118) = some r := H
        have A7 := Aside0.mk A70
        clear A70
        obtain rfl := Option.some.inj H
        go_enter Try.func58, Try.ntmps58
        go_wp2_with (first | ((with_reducible refine gate_callee (f := 73) rfl ?_); refine gK (some 25) Try.func73 #[.int .i64 a1, .int .i64 1, .int .i64 5] rfl rfl rfl ?_; (with_reducible refine (impl_within.calls a1 1 5 t118 _ A7.out).mono ?_); rintro e w' ⟨rfl, ⟨nd, rfl⟩⟩; refine ⟨_, rfl, ?_⟩))
        go_ret
        exact ⟨EQ1, DA⟩
      · rw [if_neg c6] at H
        have c6b0 := beq_eq_false_iff_ne.mpr c6
        have c6b1 := bne_iff_ne.mpr c6
        obtain rfl := Option.some.inj H
        go_enter Try.func58, Try.ntmps58
        go_wp2
        go_ret
        exact ⟨EQ1, DA⟩

/-! ### impl_FitsSide: function 15 -/
def impl_FitsSide.f (k : Nat) (a0 : ByteArray) (a1 : Int) : Option (Bool × Bool) := (impl_isSide.f k a0).bind fun t119 => (if t119 = true then ((impl_isWord.f a1).bind fun t120 => (if t120 = true then ((impl_tells.f a0 a1).bind fun t121 => (some (t121, true))) else (some (false, false)))) else (some (false, false)))
theorem impl_FitsSide.mono : ∀ a0 a1 k, LeO (impl_FitsSide.f k a0 a1) (impl_FitsSide.f (k + 1) a0 a1) := by
  intro a0 a1 k
  unfold impl_FitsSide.f
  repeat' first | (with_reducible first | exact impl_isSide.mono _ _ | exact LeO.refl _ | exact LeO.none _ | refine LeO.ite ?_ ?_ | refine LeO.bind ?_ (fun _ => ?_)) | exact LeO.none _ | refine LeO.ite ?_ ?_ | refine LeO.bind ?_ (fun _ => ?_)
set_option maxHeartbeats 8000000 in
set_option maxRecDepth 100000 in
theorem impl_FitsSide.calls (k : Nat) (a0 : ByteArray) (a1 : Int) (r1 : Bool) (r2 : Bool) (w : World) (h : impl_FitsSide.f k a0 a1 = some (r1, r2)) :
    Calls Try.prog 15 #[.string a0, .int .i64 a1] w fun e w' => e = .returned (.tuple #[.bool r1, .bool r2]) ∧ Below w.heap.size w w' := by
  have HB := Aside0.mk (Below.refl w.heap.size w)
  have H : ((impl_isSide.f k a0).bind fun t119 => (if t119 = true then ((impl_isWord.f a1).bind fun t120 => (if t120 = true then ((impl_tells.f a0 a1).bind fun t121 => (some (t121, true))) else (some (false, false)))) else (some (false, false)))) = some (r1, r2) := h
  clear h
  replace H := Option.bind_eq_some_iff.mp H
  obtain ⟨t119, A30, H⟩ := H
  replace H : (if t119 = true then ((impl_isWord.f a1).bind fun t120 => (if t120 = true then ((impl_tells.f a0 a1).bind fun t121 => (some (t121, true))) else (some (false, false)))) else (some (false, false))) = some (r1, r2) := H
  have A3 := Aside0.mk A30
  clear A30
  by_cases c4 : t119 = true
  · subst c4
    have H1 : ((impl_isWord.f a1).bind fun t120 => (if t120 = true then ((impl_tells.f a0 a1).bind fun t121 => (some (t121, true))) else (some (false, false)))) = some (r1, r2) := by rw [if_pos rfl] at H; exact H
    clear H
    have H := H1
    clear H1
    replace H := Option.bind_eq_some_iff.mp H
    obtain ⟨t120, A50, H⟩ := H
    replace H : (if t120 = true then ((impl_tells.f a0 a1).bind fun t121 => (some (t121, true))) else (some (false, false))) = some (r1, r2) := H
    have A5 := Aside0.mk A50
    clear A50
    by_cases c6 : t120 = true
    · subst c6
      have H1 : ((impl_tells.f a0 a1).bind fun t121 => (some (t121, true))) = some (r1, r2) := by rw [if_pos rfl] at H; exact H
      clear H
      have H := H1
      clear H1
      replace H := Option.bind_eq_some_iff.mp H
      obtain ⟨t121, A70, H⟩ := H
      replace H : (some (t121, true)) = some (r1, r2) := H
      have A7 := Aside0.mk A70
      clear A70
      simp only [Option.some.injEq, Prod.mk.injEq] at H
      obtain ⟨rfl, rfl⟩ := H
      go_enter Try.func15, Try.ntmps15
      go_wp2_with (first | ((with_reducible refine gate_callee (f := 56) rfl ?_); refine gK (some 7) Try.func56 #[.string a0] rfl rfl rfl ?_; (with_reducible refine (impl_isSide.calls k a0 true _ A3.out).mono ?_); rintro e w8 ⟨rfl, hb⟩; refine ⟨_, rfl, ?_⟩; replace HB := Aside0.mk (below_step BA hb); (try clear hb)) | (go_at_call 57; (with_reducible refine (impl_isWord.calls a1 true _ A5.out).mono ?_); rintro e w' ⟨rfl, ⟨nd, rfl⟩⟩) | ((with_reducible refine gate_callee (f := 58) rfl ?_); refine gK (some 16) Try.func58 #[.string a0, .int .i64 a1] rfl rfl rfl ?_; (with_reducible refine (impl_tells.calls a0 a1 t121 _ A7.out).mono ?_); rintro e w' ⟨rfl, ⟨nd, rfl⟩⟩; refine ⟨_, rfl, ?_⟩))
      go_ret2
      exact ⟨EQ, BA⟩
    · replace c6 := Bool.eq_false_iff.mpr c6
      subst c6
      have H1 : (some (false, false)) = some (r1, r2) := by rw [if_neg (show ¬ (false = true) by decide)] at H; exact H
      clear H
      have H := H1
      clear H1
      simp only [Option.some.injEq, Prod.mk.injEq] at H
      obtain ⟨rfl, rfl⟩ := H
      go_enter Try.func15, Try.ntmps15
      go_wp2_with (first | ((with_reducible refine gate_callee (f := 56) rfl ?_); refine gK (some 7) Try.func56 #[.string a0] rfl rfl rfl ?_; (with_reducible refine (impl_isSide.calls k a0 true _ A3.out).mono ?_); rintro e w9 ⟨rfl, hb⟩; refine ⟨_, rfl, ?_⟩; replace HB := Aside0.mk (below_step BA hb); (try clear hb)) | (go_at_call 57; (with_reducible refine (impl_isWord.calls a1 false _ A5.out).mono ?_); rintro e w' ⟨rfl, ⟨nd, rfl⟩⟩))
      go_ret2
      exact ⟨EQ, BA⟩
  · replace c4 := Bool.eq_false_iff.mpr c4
    subst c4
    have H1 : (some (false, false)) = some (r1, r2) := by rw [if_neg (show ¬ (false = true) by decide)] at H; exact H
    clear H
    have H := H1
    clear H1
    simp only [Option.some.injEq, Prod.mk.injEq] at H
    obtain ⟨rfl, rfl⟩ := H
    go_enter Try.func15, Try.ntmps15
    go_wp2_with (first | ((with_reducible refine gate_callee (f := 56) rfl ?_); refine gK (some 7) Try.func56 #[.string a0] rfl rfl rfl ?_; (with_reducible refine (impl_isSide.calls k a0 false _ A3.out).mono ?_); rintro e w10 ⟨rfl, hb⟩; refine ⟨_, rfl, ?_⟩; replace HB := Aside0.mk (below_step BA hb); (try clear hb)))
    go_ret2
    exact ⟨EQ, BA⟩

/-! ### laws_FnExactFitsSide: function 3 -/
def laws_FnExactFitsSide.f (k : Nat) (a0 : ByteArray) (a1 : Int) : Option (Bool) := if (a0.size : Int) > 1048576 then (some true) else ((spec_FitsSide.f k a0 a1).bind fun bt122 => ((impl_FitsSide.f k a0 a1).bind fun bt124 => (if (bt124.1 != bt122.1) = true then (some false) else (if (bt124.2 != bt122.2) = true then (some false) else (some true)))))
theorem laws_FnExactFitsSide.mono : ∀ a0 a1 k, LeO (laws_FnExactFitsSide.f k a0 a1) (laws_FnExactFitsSide.f (k + 1) a0 a1) := by
  intro a0 a1 k
  unfold laws_FnExactFitsSide.f
  repeat' first | (with_reducible first | exact impl_FitsSide.mono _ _ _ | exact spec_FitsSide.mono _ _ _ | exact LeO.refl _ | exact LeO.none _ | refine LeO.ite ?_ ?_ | refine LeO.bind ?_ (fun _ => ?_)) | exact LeO.none _ | refine LeO.ite ?_ ?_ | refine LeO.bind ?_ (fun _ => ?_)
set_option maxHeartbeats 8000000 in
set_option maxRecDepth 100000 in
theorem laws_FnExactFitsSide.calls (k : Nat) (a0 : ByteArray) (a1 : Int) (r : Bool) (w : World) (h : laws_FnExactFitsSide.f k a0 a1 = some r) :
    Calls Try.prog 3 #[.string a0, .int .i64 a1] w fun e w' => e = .returned (.bool r) ∧ Below w.heap.size w w' := by
  have HB := Aside0.mk (Below.refl w.heap.size w)
  have H : (if (a0.size : Int) > 1048576 then (some true) else ((spec_FitsSide.f k a0 a1).bind fun bt122 => ((impl_FitsSide.f k a0 a1).bind fun bt124 => (if (bt124.1 != bt122.1) = true then (some false) else (if (bt124.2 != bt122.2) = true then (some false) else (some true)))))) = some r := h
  clear h
  by_cases c3 : (a0.size : Int) > 1048576
  · rw [if_pos c3] at H
    have c3b0 := decide_eq_true c3
    have c3b1 : decide (1048576 < a0.size) = true := decide_eq_true (by omega)
    clear c3
    obtain rfl := Option.some.inj H
    go_enter Try.func3, Try.ntmps3
    go_wp2
    go_ret
    exact ⟨EQ, BA⟩
  · rw [if_neg c3] at H
    have c3b0 := decide_eq_false c3
    have c3b1 : decide (1048576 < a0.size) = false := decide_eq_false (by omega)
    clear c3
    replace H := Option.bind_eq_some_iff.mp H
    obtain ⟨⟨t122, t123⟩, A40, H⟩ := H
    replace H : ((impl_FitsSide.f k a0 a1).bind fun bt124 => (if (bt124.1 != t122) = true then (some false) else (if (bt124.2 != t123) = true then (some false) else (some true)))) = some r := H
    have A4 := Aside0.mk A40
    clear A40
    replace H := Option.bind_eq_some_iff.mp H
    obtain ⟨⟨t124, t125⟩, A50, H⟩ := H
    replace H : (if (t124 != t122) = true then (some false) else (if (t125 != t123) = true then (some false) else (some true))) = some r := H
    have A5 := Aside0.mk A50
    clear A50
    by_cases c6 : (t124 != t122) = true
    · rw [if_pos c6] at H
      have c6b0 : (t124 != t122) = true := c6
      (try (have c6b1 : decide (t124 = t122) = false := by simpa using c6))
      (try (have c6b2 : (t124 == t122) = false := by simpa using c6))
      (try (have c6b3 : ¬ (t124 = t122) := by simpa using c6))
      clear c6
      obtain rfl := Option.some.inj H
      go_enter Try.func3, Try.ntmps3
      go_wp2_with (first | ((with_reducible refine gate_callee (f := 14) rfl ?_); refine gK (some 15) Try.func14 #[.string a0, .int .i64 a1] rfl rfl rfl ?_; (with_reducible refine (spec_FitsSide.calls k a0 a1 t122 t123 _ A4.out).mono ?_); rintro e w7 ⟨rfl, hb⟩; refine ⟨_, rfl, ?_⟩; replace HB := Aside0.mk (below_step BA hb); (try clear hb)) | ((with_reducible refine gate_callee (f := 15) rfl ?_); refine gK (some 21) Try.func15 #[.string a0, .int .i64 a1] rfl rfl rfl ?_; (with_reducible refine (impl_FitsSide.calls k a0 a1 t124 t125 _ A5.out).mono ?_); rintro e w8 ⟨rfl, hb⟩; refine ⟨_, rfl, ?_⟩; replace HB := Aside0.mk (below_step BA hb); (try clear hb)))
      go_ret
      exact ⟨EQ, BA⟩
    · rw [if_neg c6] at H
      have c6b0 : (t124 != t122) = false := by simpa using c6
      (try (have c6b1 : decide (t124 = t122) = true := by simpa using c6))
      (try (have c6b2 : (t124 == t122) = true := by simpa using c6))
      clear c6
      by_cases c9 : (t125 != t123) = true
      · rw [if_pos c9] at H
        have c9b0 : (t125 != t123) = true := c9
        (try (have c9b1 : decide (t125 = t123) = false := by simpa using c9))
        (try (have c9b2 : (t125 == t123) = false := by simpa using c9))
        (try (have c9b3 : ¬ (t125 = t123) := by simpa using c9))
        clear c9
        obtain rfl := Option.some.inj H
        go_enter Try.func3, Try.ntmps3
        go_wp2_with (first | ((with_reducible refine gate_callee (f := 14) rfl ?_); refine gK (some 15) Try.func14 #[.string a0, .int .i64 a1] rfl rfl rfl ?_; (with_reducible refine (spec_FitsSide.calls k a0 a1 t122 t123 _ A4.out).mono ?_); rintro e w10 ⟨rfl, hb⟩; refine ⟨_, rfl, ?_⟩; replace HB := Aside0.mk (below_step BA hb); (try clear hb)) | ((with_reducible refine gate_callee (f := 15) rfl ?_); refine gK (some 21) Try.func15 #[.string a0, .int .i64 a1] rfl rfl rfl ?_; (with_reducible refine (impl_FitsSide.calls k a0 a1 t124 t125 _ A5.out).mono ?_); rintro e w11 ⟨rfl, hb⟩; refine ⟨_, rfl, ?_⟩; replace HB := Aside0.mk (below_step BA hb); (try clear hb)))
        go_ret
        exact ⟨EQ, BA⟩
      · rw [if_neg c9] at H
        have c9b0 : (t125 != t123) = false := by simpa using c9
        (try (have c9b1 : decide (t125 = t123) = true := by simpa using c9))
        (try (have c9b2 : (t125 == t123) = true := by simpa using c9))
        clear c9
        obtain rfl := Option.some.inj H
        go_enter Try.func3, Try.ntmps3
        go_wp2_with (first | ((with_reducible refine gate_callee (f := 14) rfl ?_); refine gK (some 15) Try.func14 #[.string a0, .int .i64 a1] rfl rfl rfl ?_; (with_reducible refine (spec_FitsSide.calls k a0 a1 t122 t123 _ A4.out).mono ?_); rintro e w12 ⟨rfl, hb⟩; refine ⟨_, rfl, ?_⟩; replace HB := Aside0.mk (below_step BA hb); (try clear hb)) | ((with_reducible refine gate_callee (f := 15) rfl ?_); refine gK (some 21) Try.func15 #[.string a0, .int .i64 a1] rfl rfl rfl ?_; (with_reducible refine (impl_FitsSide.calls k a0 a1 t124 t125 _ A5.out).mono ?_); rintro e w13 ⟨rfl, hb⟩; refine ⟨_, rfl, ?_⟩; replace HB := Aside0.mk (below_step BA hb); (try clear hb)))
        go_ret
        exact ⟨EQ, BA⟩

end Go.Proofs.Ytefipbekabmncaa.Pa
