-- Made by this session's program gen.py over the translation.
import Derived.Test.YtefipbekabmncaaPa0
import Derived.Test.YtefipbekabmncaaPa2
import Derived.Test.YtefipbekabmncaaPa4
import Derived.Test.YtefipbekabmncaaPa5
namespace Go.Proofs.Ytefipbekabmncaa.Pa
open Go.RowKit Go.Proofs.YtefipbekabmncaaW.PrintWords Go.Proofs.YtefipbekabmncaaW.PrintLast Go.Proofs.YtefipbekabmncaaW.PrintMore
attribute [local go_sem] max2_int min2_int max_two min_two max_three min_three max_four min_four   -- for this text's walks alone
set_option linter.unusedVariables false
set_option linter.unusedSimpArgs false

/-! ### laws_szStringS: function 68 -/
def laws_szStringS.l0 : Nat → List ByteArray → Int → Int → Option (Int)
  | 0, _, _, _ => none
  | k + 1, x0, x1, x5 => if x5 < (x0.length : Int) then (if 0 ≤ x5 then (if (wrap64 (x1 - ((rdOf ByteArray.empty x0 x5).size : Int))) < 0 then (some (-1)) else (laws_szStringS.l0 k x0 (wrap64 (x1 - ((rdOf ByteArray.empty x0 x5).size : Int))) (wrap64 (x5 + 1)))) else (none)) else (some x1)
def laws_szStringS.f (k : Nat) (l0 : List ByteArray) (a1 : Int) : Option (Int) := if (wrap64 (a1 - (l0.length : Int))) < 0 then (some (-1)) else (laws_szStringS.l0 k l0 (wrap64 (a1 - (l0.length : Int))) 0)
theorem laws_szStringS.mono_l : ∀ k, (∀ y0 y1 y2, LeO (laws_szStringS.l0 k y0 y1 y2) (laws_szStringS.l0 (k + 1) y0 y1 y2))
  | 0 => fun _ _ _ r h => by simp [laws_szStringS.l0] at h
  | k + 1 => by
    have ih0 := laws_szStringS.mono_l k
    · intro y0 y1 y2
      unfold laws_szStringS.l0
      repeat' first | (with_reducible first | exact ih0 _ _ _ | exact LeO.refl _ | exact LeO.none _ | refine LeO.ite ?_ ?_ | refine LeO.bind ?_ (fun _ => ?_)) | exact LeO.none _ | refine LeO.ite ?_ ?_ | refine LeO.bind ?_ (fun _ => ?_)
theorem laws_szStringS.mono : ∀ a0 a1 k, LeO (laws_szStringS.f k a0 a1) (laws_szStringS.f (k + 1) a0 a1) := by
  intro a0 a1 k
  have ih0 := laws_szStringS.mono_l k
  unfold laws_szStringS.f
  repeat' first | (with_reducible first | exact ih0 _ _ _ | exact LeO.refl _ | exact LeO.none _ | refine LeO.ite ?_ ?_ | refine LeO.bind ?_ (fun _ => ?_)) | exact LeO.none _ | refine LeO.ite ?_ ?_ | refine LeO.bind ?_ (fun _ => ?_)
set_option maxHeartbeats 8000000 in
set_option maxRecDepth 100000 in
theorem laws_szStringS.calls (k : Nat) (A0 : Option Addr) (c0 : Nat) (l0 : List ByteArray) (a1 : Int) (r : Int) (w : World) (hr0 : Kd.C Kd.string w A0 l0.length l0) (hc0 : l0.length ≤ c0) (h : laws_szStringS.f k l0 a1 = some r) :
    Calls Try.prog 68 #[.slice A0 l0.length c0, .int .i64 a1] w fun e w' => e = .returned (.int .i64 r) ∧ Drawn0 w w' := by
  have HR0 := Aside0.mk hr0
  have HC0 := Aside0.mk hc0
  clear hr0 hc0
  have H : (if (wrap64 (a1 - (l0.length : Int))) < 0 then (some (-1)) else (laws_szStringS.l0 k l0 (wrap64 (a1 - (l0.length : Int))) 0)) = some r := h
  clear h
  by_cases c3 : (wrap64 (a1 - (l0.length : Int))) < 0
  · rw [if_pos c3] at H
    have c3b0 := decide_eq_true c3
    clear c3
    obtain rfl := Option.some.inj H
    go_enter Try.func68, Try.ntmps68
    go_wp2
    go_ret
    exact ⟨EQ1, DA⟩
  · rw [if_neg c3] at H
    have c3b0 := decide_eq_false c3
    clear c3
    have H' := Aside0.mk H
    clear H
    go_enter Try.func68, Try.ntmps68
    go_wp2
    go_loopg [1, 5] k (fun kq v1 v5 w' => ∃ (x1_1 : Int) (x5_1 : Int), v1 = .int .i64 x1_1 ∧ v5 = .int .i64 x5_1 ∧ Aside0 (laws_szStringS.l0 kq l0 x1_1 x5_1 = some r) ∧ Aside0 (kq ≤ k) ∧ Drawn0 w w')
    case atStart => exact ⟨(wrap64 (a1 - (l0.length : Int))), (0), EQ1, EQ1, H', ⟨Nat.le_refl _⟩, DA⟩
    case round =>
      clear H'
      (try clear p2); (try clear c3); (try clear c3b0)
      obtain ⟨x1_1, x5_1, rfl, rfl, HA, HK1, ⟨m1, rfl⟩⟩ := hrel
      cases gk with
      | zero => exact absurd HA.out (by simp [laws_szStringS.l0])
      | succ k1 =>
        have H := HA.out
        clear HA
        simp only [laws_szStringS.l0] at H
        by_cases c4 : x5_1 < (l0.length : Int)
        · rw [if_pos c4] at H
          have c4b0 := decide_eq_true c4
          clear c4
          by_cases c5 : 0 ≤ x5_1
          · rw [if_pos c5] at H
            have c5b0 := decide_eq_true c5
            clear c5
            by_cases c6 : (wrap64 (x1_1 - ((rdOf ByteArray.empty l0 x5_1).size : Int))) < 0
            · rw [if_pos c6] at H
              have c6b0 := decide_eq_true c6
              clear c6
              obtain rfl := Option.some.inj H
              have p248 : 0 ≤ (x5_1 : Int) := DT
              have q248 : x5_1 < (l0.length : Int) := DT
              obtain ⟨ad248, e248, hx248_0⟩ := Kd.at_string HR0.out x5_1 p248 q248
              cases e248
              replace p248 := eq_true p248
              replace q248 := eq_true q248
              go_wp2
              go_ret
              exact ⟨EQ1, DA⟩
            · rw [if_neg c6] at H
              have c6b0 := decide_eq_false c6
              clear c6
              have H' := Aside0.mk H
              clear H
              have p248 : 0 ≤ (x5_1 : Int) := DT
              have q248 : x5_1 < (l0.length : Int) := DT
              obtain ⟨ad248, e248, hx248_0⟩ := Kd.at_string HR0.out x5_1 p248 q248
              cases e248
              replace p248 := eq_true p248
              replace q248 := eq_true q248
              go_wp2
              go_roundg k1
              case measure => have := HK1.out; omega
              case rel => exact ⟨(wrap64 (x1_1 - ((rdOf ByteArray.empty l0 x5_1).size : Int))), (wrap64 (x5_1 + 1)), EQ1, EQ1, H', ⟨by have := HK1.out; omega⟩, DA⟩
          · rw [if_neg c5] at H
            exact absurd H (by simp)
        · rw [if_neg c4] at H
          have c4b0 := decide_eq_false c4
          clear c4
          obtain rfl := Option.some.inj H
          go_wp2
          go_ret
          exact ⟨EQ1, DA⟩

/-! ### laws_szIntS: function 69 -/
def laws_szIntS.f (l0 : List Int) (a1 : Int) : Option (Int) := if (wrap64 (a1 - (l0.length : Int))) < 0 then (some (-1)) else (some (wrap64 (a1 - (l0.length : Int))))
set_option maxHeartbeats 8000000 in
set_option maxRecDepth 100000 in
theorem laws_szIntS.calls (A0 : Option Addr) (c0 : Nat) (l0 : List Int) (a1 : Int) (r : Int) (w : World) (hr0 : Kd.C (Kd.int .i64) w A0 l0.length l0) (hc0 : l0.length ≤ c0) (h : laws_szIntS.f l0 a1 = some r) :
    Calls Try.prog 69 #[.slice A0 l0.length c0, .int .i64 a1] w fun e w' => e = .returned (.int .i64 r) ∧ Drawn0 w w' := by
  have HR0 := Aside0.mk hr0
  have HC0 := Aside0.mk hc0
  clear hr0 hc0
  have H : (if (wrap64 (a1 - (l0.length : Int))) < 0 then (some (-1)) else (some (wrap64 (a1 - (l0.length : Int))))) = some r := h
  clear h
  by_cases c3 : (wrap64 (a1 - (l0.length : Int))) < 0
  · rw [if_pos c3] at H
    have c3b0 := decide_eq_true c3
    clear c3
    obtain rfl := Option.some.inj H
    go_enter Try.func69, Try.ntmps69
    go_wp2
    go_ret
    exact ⟨EQ1, DA⟩
  · rw [if_neg c3] at H
    have c3b0 := decide_eq_false c3
    clear c3
    obtain rfl := Option.some.inj H
    go_enter Try.func69, Try.ntmps69
    go_wp2
    go_ret
    exact ⟨EQ1, DA⟩

/-! ### laws_szChoice: function 21 -/
def laws_szChoice.f (k : Nat) (l0_0 : List ByteArray) (l0_1 : List Int) (a1 : Int) : Option (Int) := (laws_szStringS.f k l0_0 a1).bind fun t250 => (if t250 < 0 then (some (-1)) else ((laws_szIntS.f l0_1 t250).bind fun t251 => (if t251 < 0 then (some (-1)) else (some t251))))
theorem laws_szChoice.mono : ∀ a0 a1 a2 k, LeO (laws_szChoice.f k a0 a1 a2) (laws_szChoice.f (k + 1) a0 a1 a2) := by
  intro a0 a1 a2 k
  unfold laws_szChoice.f
  repeat' first | (with_reducible first | exact laws_szStringS.mono _ _ _ | exact LeO.refl _ | exact LeO.none _ | refine LeO.ite ?_ ?_ | refine LeO.bind ?_ (fun _ => ?_)) | exact LeO.none _ | refine LeO.ite ?_ ?_ | refine LeO.bind ?_ (fun _ => ?_)
set_option maxHeartbeats 8000000 in
set_option maxRecDepth 100000 in
theorem laws_szChoice.calls (k : Nat) (A0_0 : Option Addr) (c0_0 : Nat) (l0_0 : List ByteArray) (A0_1 : Option Addr) (c0_1 : Nat) (l0_1 : List Int) (a1 : Int) (r : Int) (w : World) (hr0_0 : Kd.C Kd.string w A0_0 l0_0.length l0_0) (hc0_0 : l0_0.length ≤ c0_0) (hr0_1 : Kd.C (Kd.int .i64) w A0_1 l0_1.length l0_1) (hc0_1 : l0_1.length ≤ c0_1) (h : laws_szChoice.f k l0_0 l0_1 a1 = some r) :
    Calls Try.prog 21 #[.agg #[.slice A0_0 l0_0.length c0_0, .slice A0_1 l0_1.length c0_1], .int .i64 a1] w fun e w' => e = .returned (.int .i64 r) ∧ Below w.heap.size w w' := by
  have hu36 := Try.underlying36
  have HR0_0 := Aside0.mk hr0_0
  have HC0_0 := Aside0.mk hc0_0
  clear hr0_0 hc0_0
  have HR0_1 := Aside0.mk hr0_1
  have HC0_1 := Aside0.mk hc0_1
  clear hr0_1 hc0_1
  have HB := Aside0.mk (Below.refl w.heap.size w)
  have H : ((laws_szStringS.f k l0_0 a1).bind fun t250 => (if t250 < 0 then (some (-1)) else ((laws_szIntS.f l0_1 t250).bind fun t251 => (if t251 < 0 then (some (-1)) else (some t251))))) = some r := h
  clear h
  replace H := Option.bind_eq_some_iff.mp H
  obtain ⟨t250, A30, H⟩ := H
  replace H : (if t250 < 0 then (some (-1)) else ((laws_szIntS.f l0_1 t250).bind fun t251 => (if t251 < 0 then (some (-1)) else (some t251)))) = some r := H
  have A3 := Aside0.mk A30
  clear A30
  by_cases c4 : t250 < 0
  · rw [if_pos c4] at H
    have c4b0 := decide_eq_true c4
    clear c4
    obtain rfl := Option.some.inj H
    go_enter Try.func21, Try.ntmps21
    go_wp2_with (first | ((with_reducible refine gate_dst (N := 2) rfl ?_); refine box_event ?hg (N := 2) ?hd (cs := #[.slice A0_0 l0_0.length c0_0, .slice A0_1 l0_1.length c0_1]) (t := 36) ?hr ?_; (case hd => rfl); (case hg => rfl); (case hr => first | (go_simp; done) | (go_simp; rfl)); intro gb249 hg w5 hbox hb; have BK249 := Aside0.mk (hbox); have GW249 := Aside0.mk ((by rw [hg]; exact (below_size BA) : w.heap.size ≤ gb249)); have GE249 := Aside0.mk ((by rw [hg]; exact (below_size BA) : w.heap.size ≤ gb249)); replace HB := Aside0.mk (below_step BA hb); clear hb hbox hg; have hcz6_0 := bcv BK249.out 0 (.slice A0_0 l0_0.length c0_0); have hcz6_1 := bcv BK249.out 1 (.slice A0_1 l0_1.length c0_1); have hfz6 := blk_frozen BK249.out) | ((with_reducible refine gate_callee (f := 68) rfl ?_); refine gK (some 8) Try.func68 #[.slice A0_0 l0_0.length c0_0, .int .i64 a1] rfl rfl rfl ?_; (with_reducible refine (laws_szStringS.calls k _ _ l0_0 a1 t250 _ ?side1 ?side2 A3.out).mono ?_); (case side1 => exact cb (Kd.C_below HR0_0.out HB.out)); (case side2 => exact HC0_0.out); rintro e w' ⟨rfl, ⟨nd, rfl⟩⟩; refine ⟨_, rfl, ?_⟩))
    go_ret
    exact ⟨EQ, BA⟩
  · rw [if_neg c4] at H
    have c4b0 := decide_eq_false c4
    clear c4
    replace H := Option.bind_eq_some_iff.mp H
    obtain ⟨t251, A70, H⟩ := H
    replace H : (if t251 < 0 then (some (-1)) else (some t251)) = some r := H
    have A7 := Aside0.mk A70
    clear A70
    by_cases c8 : t251 < 0
    · rw [if_pos c8] at H
      have c8b0 := decide_eq_true c8
      clear c8
      obtain rfl := Option.some.inj H
      go_enter Try.func21, Try.ntmps21
      go_wp2_with (first | ((with_reducible refine gate_dst (N := 2) rfl ?_); refine box_event ?hg (N := 2) ?hd (cs := #[.slice A0_0 l0_0.length c0_0, .slice A0_1 l0_1.length c0_1]) (t := 36) ?hr ?_; (case hd => rfl); (case hg => rfl); (case hr => first | (go_simp; done) | (go_simp; rfl)); intro gb249 hg w9 hbox hb; have BK249 := Aside0.mk (hbox); have GW249 := Aside0.mk ((by rw [hg]; exact (below_size BA) : w.heap.size ≤ gb249)); have GE249 := Aside0.mk ((by rw [hg]; exact (below_size BA) : w.heap.size ≤ gb249)); replace HB := Aside0.mk (below_step BA hb); clear hb hbox hg; have hcz10_0 := bcv BK249.out 0 (.slice A0_0 l0_0.length c0_0); have hcz10_1 := bcv BK249.out 1 (.slice A0_1 l0_1.length c0_1); have hfz10 := blk_frozen BK249.out) | ((with_reducible refine gate_callee (f := 68) rfl ?_); refine gK (some 8) Try.func68 #[.slice A0_0 l0_0.length c0_0, .int .i64 a1] rfl rfl rfl ?_; (with_reducible refine (laws_szStringS.calls k _ _ l0_0 a1 t250 _ ?side1 ?side2 A3.out).mono ?_); (case side1 => exact cb (Kd.C_below HR0_0.out HB.out)); (case side2 => exact HC0_0.out); rintro e w' ⟨rfl, ⟨nd, rfl⟩⟩; refine ⟨_, rfl, ?_⟩) | ((with_reducible refine gate_callee (f := 69) rfl ?_); refine gK (some 14) Try.func69 #[.slice A0_1 l0_1.length c0_1, .int .i64 t250] rfl rfl rfl ?_; (with_reducible refine (laws_szIntS.calls _ _ l0_1 t250 t251 _ ?side1 ?side2 A7.out).mono ?_); (case side1 => exact cb (Kd.C_below HR0_1.out BA)); (case side2 => exact HC0_1.out); rintro e w' ⟨rfl, ⟨nd, rfl⟩⟩; refine ⟨_, rfl, ?_⟩))
      go_ret
      exact ⟨EQ, BA⟩
    · rw [if_neg c8] at H
      have c8b0 := decide_eq_false c8
      clear c8
      obtain rfl := Option.some.inj H
      go_enter Try.func21, Try.ntmps21
      go_wp2_with (first | ((with_reducible refine gate_dst (N := 2) rfl ?_); refine box_event ?hg (N := 2) ?hd (cs := #[.slice A0_0 l0_0.length c0_0, .slice A0_1 l0_1.length c0_1]) (t := 36) ?hr ?_; (case hd => rfl); (case hg => rfl); (case hr => first | (go_simp; done) | (go_simp; rfl)); intro gb249 hg w11 hbox hb; have BK249 := Aside0.mk (hbox); have GW249 := Aside0.mk ((by rw [hg]; exact (below_size BA) : w.heap.size ≤ gb249)); have GE249 := Aside0.mk ((by rw [hg]; exact (below_size BA) : w.heap.size ≤ gb249)); replace HB := Aside0.mk (below_step BA hb); clear hb hbox hg; have hcz12_0 := bcv BK249.out 0 (.slice A0_0 l0_0.length c0_0); have hcz12_1 := bcv BK249.out 1 (.slice A0_1 l0_1.length c0_1); have hfz12 := blk_frozen BK249.out) | ((with_reducible refine gate_callee (f := 68) rfl ?_); refine gK (some 8) Try.func68 #[.slice A0_0 l0_0.length c0_0, .int .i64 a1] rfl rfl rfl ?_; (with_reducible refine (laws_szStringS.calls k _ _ l0_0 a1 t250 _ ?side1 ?side2 A3.out).mono ?_); (case side1 => exact cb (Kd.C_below HR0_0.out HB.out)); (case side2 => exact HC0_0.out); rintro e w' ⟨rfl, ⟨nd, rfl⟩⟩; refine ⟨_, rfl, ?_⟩) | ((with_reducible refine gate_callee (f := 69) rfl ?_); refine gK (some 14) Try.func69 #[.slice A0_1 l0_1.length c0_1, .int .i64 t250] rfl rfl rfl ?_; (with_reducible refine (laws_szIntS.calls _ _ l0_1 t250 t251 _ ?side1 ?side2 A7.out).mono ?_); (case side1 => exact cb (Kd.C_below HR0_1.out BA)); (case side2 => exact HC0_1.out); rintro e w' ⟨rfl, ⟨nd, rfl⟩⟩; refine ⟨_, rfl, ?_⟩))
      go_ret
      exact ⟨EQ, BA⟩

/-! ### spec_l1All: function 114 -/
def spec_l1All.l0 : Nat → Int → Int → List Int → Int → Int → Option (Bool)
  | 0, _, _, _, _, _ => none
  | k + 1, x1, x2, x9, x10, x11 => if x11 < x10 then (if 0 ≤ x11 then (if x11 < (x9.length : Int) then ((spec_l1In.f (rd x9 x11) x1 x2).bind fun t253 => (if t253 = true then (spec_l1All.l0 k x1 x2 x9 x10 (wrap64 (x11 + 1))) else (some false))) else (none)) else (none)) else (some true)
def spec_l1All.f (k : Nat) (l0 : List Int) (a1 : Int) (a2 : Int) : Option (Bool) := spec_l1All.l0 k a1 a2 l0 (l0.length : Int) 0
theorem spec_l1All.mono_l : ∀ k, (∀ y0 y1 y2 y3 y4, LeO (spec_l1All.l0 k y0 y1 y2 y3 y4) (spec_l1All.l0 (k + 1) y0 y1 y2 y3 y4))
  | 0 => fun _ _ _ _ _ r h => by simp [spec_l1All.l0] at h
  | k + 1 => by
    have ih0 := spec_l1All.mono_l k
    · intro y0 y1 y2 y3 y4
      unfold spec_l1All.l0
      repeat' first | (with_reducible first | exact ih0 _ _ _ _ _ | exact LeO.refl _ | exact LeO.none _ | refine LeO.ite ?_ ?_ | refine LeO.bind ?_ (fun _ => ?_)) | exact LeO.none _ | refine LeO.ite ?_ ?_ | refine LeO.bind ?_ (fun _ => ?_)
theorem spec_l1All.mono : ∀ a0 a1 a2 k, LeO (spec_l1All.f k a0 a1 a2) (spec_l1All.f (k + 1) a0 a1 a2) := by
  intro a0 a1 a2 k
  have ih0 := spec_l1All.mono_l k
  unfold spec_l1All.f
  repeat' first | (with_reducible first | exact ih0 _ _ _ _ _ | exact LeO.refl _ | exact LeO.none _ | refine LeO.ite ?_ ?_ | refine LeO.bind ?_ (fun _ => ?_)) | exact LeO.none _ | refine LeO.ite ?_ ?_ | refine LeO.bind ?_ (fun _ => ?_)
set_option maxHeartbeats 8000000 in
set_option maxRecDepth 100000 in
theorem spec_l1All.calls (k : Nat) (A0 : Option Addr) (c0 : Nat) (l0 : List Int) (a1 : Int) (a2 : Int) (r : Bool) (w : World) (hr0 : Kd.C (Kd.int .i64) w A0 l0.length l0) (hc0 : l0.length ≤ c0) (h : spec_l1All.f k l0 a1 a2 = some r) :
    Calls Try.prog 114 #[.slice A0 l0.length c0, .int .i64 a1, .int .i64 a2] w fun e w' => e = .returned (.bool r) ∧ Drawn0 w w' := by
  have HR0 := Aside0.mk hr0
  have HC0 := Aside0.mk hc0
  clear hr0 hc0
  have H : (spec_l1All.l0 k a1 a2 l0 (l0.length : Int) 0) = some r := h
  clear h
  have H' := Aside0.mk H
  clear H
  go_enter Try.func114, Try.ntmps114
  go_wp2
  go_loopg [11] k (fun kq v11 w' => ∃ (x11_1 : Int), v11 = .int .i64 x11_1 ∧ Aside0 (spec_l1All.l0 kq a1 a2 l0 (l0.length : Int) x11_1 = some r) ∧ Aside0 (kq ≤ k) ∧ Drawn0 w w')
  case atStart => exact ⟨(0), EQ1, H', ⟨Nat.le_refl _⟩, DA⟩
  case round =>
    clear H'
    (try clear c1); (try clear p2)
    obtain ⟨x11_1, rfl, HA, HK1, ⟨m1, rfl⟩⟩ := hrel
    cases gk with
    | zero => exact absurd HA.out (by simp [spec_l1All.l0])
    | succ k1 =>
      have H := HA.out
      clear HA
      simp only [spec_l1All.l0] at H
      by_cases c4 : x11_1 < (l0.length : Int)
      · rw [if_pos c4] at H
        have c4b0 := decide_eq_true c4
        clear c4
        by_cases c5 : 0 ≤ x11_1
        · rw [if_pos c5] at H
          have c5b0 := decide_eq_true c5
          clear c5
          by_cases c6 : x11_1 < (l0.length : Int)
          · rw [if_pos c6] at H
            have c6b0 := decide_eq_true c6
            clear c6
            replace H := Option.bind_eq_some_iff.mp H
            obtain ⟨t253, A70, H⟩ := H
            replace H : (if t253 = true then (spec_l1All.l0 k1 a1 a2 l0 (l0.length : Int) (wrap64 (x11_1 + 1))) else (some false)) = some r := H
            have A7 := Aside0.mk A70
            clear A70
            by_cases c8 : t253 = true
            · subst c8
              have H1 : (spec_l1All.l0 k1 a1 a2 l0 (l0.length : Int) (wrap64 (x11_1 + 1))) = some r := by rw [if_pos rfl] at H; exact H
              clear H
              have H := H1
              clear H1
              have H' := Aside0.mk H
              clear H
              have p252 : 0 ≤ (x11_1 : Int) := DT
              have q252 : x11_1 < (l0.length : Int) := DT
              obtain ⟨ad252, e252, hx252_0⟩ := Kd.at_int HR0.out x11_1 p252 q252
              cases e252
              replace p252 := eq_true p252
              replace q252 := eq_true q252
              go_wp2_with (first | ((with_reducible refine gate_callee (f := 95) rfl ?_); refine gK (some 18) Try.func95 #[.int .i64 (rd l0 x11_1), .int .i64 a1, .int .i64 a2] rfl rfl rfl ?_; (with_reducible refine (spec_l1In.calls (rd l0 x11_1) a1 a2 true _ A7.out).mono ?_); rintro e w' ⟨rfl, ⟨nd, rfl⟩⟩; refine ⟨_, rfl, ?_⟩))
              go_roundg k1
              case measure => have := HK1.out; omega
              case rel => exact ⟨(wrap64 (x11_1 + 1)), EQ1, H', ⟨by have := HK1.out; omega⟩, DA⟩
            · replace c8 := Bool.eq_false_iff.mpr c8
              subst c8
              have H1 : (some false) = some r := by rw [if_neg (show ¬ (false = true) by decide)] at H; exact H
              clear H
              have H := H1
              clear H1
              obtain rfl := Option.some.inj H
              have p252 : 0 ≤ (x11_1 : Int) := DT
              have q252 : x11_1 < (l0.length : Int) := DT
              obtain ⟨ad252, e252, hx252_0⟩ := Kd.at_int HR0.out x11_1 p252 q252
              cases e252
              replace p252 := eq_true p252
              replace q252 := eq_true q252
              go_wp2_with (first | ((with_reducible refine gate_callee (f := 95) rfl ?_); refine gK (some 18) Try.func95 #[.int .i64 (rd l0 x11_1), .int .i64 a1, .int .i64 a2] rfl rfl rfl ?_; (with_reducible refine (spec_l1In.calls (rd l0 x11_1) a1 a2 false _ A7.out).mono ?_); rintro e w' ⟨rfl, ⟨nd, rfl⟩⟩; refine ⟨_, rfl, ?_⟩))
              go_ret
              exact ⟨EQ1, DA⟩
          · rw [if_neg c6] at H
            exact absurd H (by simp)
        · rw [if_neg c5] at H
          exact absurd H (by simp)
      · rw [if_neg c4] at H
        have c4b0 := decide_eq_false c4
        clear c4
        obtain rfl := Option.some.inj H
        go_wp2
        go_ret
        exact ⟨EQ1, DA⟩

/-! ### spec_cdImm: function 116 -/
def spec_cdImm.f (k : Nat) (a0 : ByteArray) : Option (Bool) := (spec_l1HasS.f k (([(⟨#[115, 101, 116]⟩ : ByteArray), (⟨#[97, 100, 100, 105]⟩ : ByteArray), (⟨#[97, 110, 100, 105]⟩ : ByteArray), (⟨#[120, 111, 114, 105]⟩ : ByteArray), (⟨#[115, 104, 108, 105]⟩ : ByteArray), (⟨#[115, 104, 114, 105]⟩ : ByteArray), (⟨#[108, 101, 97]⟩ : ByteArray)] : List ByteArray)) a0).bind fun t257 => (some t257)
theorem spec_cdImm.mono : ∀ a0 k, LeO (spec_cdImm.f k a0) (spec_cdImm.f (k + 1) a0) := by
  intro a0 k
  unfold spec_cdImm.f
  repeat' first | (with_reducible first | exact spec_l1HasS.mono _ _ _ | exact LeO.refl _ | exact LeO.none _ | refine LeO.ite ?_ ?_ | refine LeO.bind ?_ (fun _ => ?_)) | exact LeO.none _ | refine LeO.ite ?_ ?_ | refine LeO.bind ?_ (fun _ => ?_)
set_option maxHeartbeats 8000000 in
set_option maxRecDepth 100000 in
theorem spec_cdImm.calls (k : Nat) (a0 : ByteArray) (r : Bool) (w : World) (h : spec_cdImm.f k a0 = some r) :
    Calls Try.prog 116 #[.string a0] w fun e w' => e = .returned (.bool r) ∧ Below w.heap.size w w' := by
  have HB := Aside0.mk (Below.refl w.heap.size w)
  have H : ((spec_l1HasS.f k (([(⟨#[115, 101, 116]⟩ : ByteArray), (⟨#[97, 100, 100, 105]⟩ : ByteArray), (⟨#[97, 110, 100, 105]⟩ : ByteArray), (⟨#[120, 111, 114, 105]⟩ : ByteArray), (⟨#[115, 104, 108, 105]⟩ : ByteArray), (⟨#[115, 104, 114, 105]⟩ : ByteArray), (⟨#[108, 101, 97]⟩ : ByteArray)] : List ByteArray)) a0).bind fun t257 => (some t257)) = some r := h
  clear h
  obtain ⟨y254, hy254⟩ : ∃ y_ : List ByteArray, y_ = (([(⟨#[115, 101, 116]⟩ : ByteArray), (⟨#[97, 100, 100, 105]⟩ : ByteArray), (⟨#[97, 110, 100, 105]⟩ : ByteArray), (⟨#[120, 111, 114, 105]⟩ : ByteArray), (⟨#[115, 104, 108, 105]⟩ : ByteArray), (⟨#[115, 104, 114, 105]⟩ : ByteArray), (⟨#[108, 101, 97]⟩ : ByteArray)] : List ByteArray)) := ⟨_, rfl⟩
  replace H : ((spec_l1HasS.f k y254 a0).bind fun t257 => (some t257)) = some r := by first | (rw [hy254]; with_reducible exact H) | (have H2_ := (Option.bind_some _ _).symm.trans H; rw [hy254]; with_reducible exact H2_) | (have H2_ := (Option.bind_some _ _).symm.trans H; with_reducible exact H2_) | with_reducible exact H | (rw [hy254]; exact H) | exact H
  have Ny254 := Aside0.mk hy254
  clear hy254
  replace H := Option.bind_eq_some_iff.mp H
  obtain ⟨t257, A20, H⟩ := H
  replace H : (some t257) = some r := H
  have A2 := Aside0.mk A20
  clear A20
  obtain rfl := Option.some.inj H
  go_enter Try.func116, Try.ntmps116
  go_wp2_with (first | ((with_reducible refine gate_dst (N := 3) rfl ?_); refine Kd.R_lit Kd.string _ 9 ?hg (N := 3) ?hd (xs := ([(⟨#[115, 101, 116]⟩ : ByteArray), (⟨#[97, 100, 100, 105]⟩ : ByteArray), (⟨#[97, 110, 100, 105]⟩ : ByteArray), (⟨#[120, 111, 114, 105]⟩ : ByteArray), (⟨#[115, 104, 108, 105]⟩ : ByteArray), (⟨#[115, 104, 114, 105]⟩ : ByteArray), (⟨#[108, 101, 97]⟩ : ByteArray)] : List ByteArray)) (inner := [.string (⟨#[115, 101, 116]⟩ : ByteArray), .string (⟨#[97, 100, 100, 105]⟩ : ByteArray), .string (⟨#[97, 110, 100, 105]⟩ : ByteArray), .string (⟨#[120, 111, 114, 105]⟩ : ByteArray), .string (⟨#[115, 104, 108, 105]⟩ : ByteArray), .string (⟨#[115, 104, 114, 105]⟩ : ByteArray), .string (⟨#[108, 101, 97]⟩ : ByteArray)]) (ok := fun _ => True) (okp := fun _ => True) ?hr ?hp (fun _ hk => hk) trivial (Below.refl _ _) (Nat.le_refl _) (by simp) ?_; (case hd => rfl); (case hg => rfl); (case hr => first | (go_simp; done) | (go_simp; rfl)); (case hp => exact (Reps.one (show Kd.M Kd.string _ _ _ (⟨#[115, 101, 116]⟩ : ByteArray) [.string (⟨#[115, 101, 116]⟩ : ByteArray)] from rfl) (Reps.one (show Kd.M Kd.string _ _ _ (⟨#[97, 100, 100, 105]⟩ : ByteArray) [.string (⟨#[97, 100, 100, 105]⟩ : ByteArray)] from rfl) (Reps.one (show Kd.M Kd.string _ _ _ (⟨#[97, 110, 100, 105]⟩ : ByteArray) [.string (⟨#[97, 110, 100, 105]⟩ : ByteArray)] from rfl) (Reps.one (show Kd.M Kd.string _ _ _ (⟨#[120, 111, 114, 105]⟩ : ByteArray) [.string (⟨#[120, 111, 114, 105]⟩ : ByteArray)] from rfl) (Reps.one (show Kd.M Kd.string _ _ _ (⟨#[115, 104, 108, 105]⟩ : ByteArray) [.string (⟨#[115, 104, 108, 105]⟩ : ByteArray)] from rfl) (Reps.one (show Kd.M Kd.string _ _ _ (⟨#[115, 104, 114, 105]⟩ : ByteArray) [.string (⟨#[115, 104, 114, 105]⟩ : ByteArray)] from rfl) (Reps.one (show Kd.M Kd.string _ _ _ (⟨#[108, 101, 97]⟩ : ByteArray) [.string (⟨#[108, 101, 97]⟩ : ByteArray)] from rfl) (Reps.none _ _))))))))); intro v255 w3 ho4 hb hg_ hnew_; clear hg_ hnew_; (first | rw [← Ny254.out] at ho4 | (simp only [Int.reduceToNat] at ho4; rw [← Ny254.out] at ho4)); have HO256 := Aside0.mk (Kd.R_lower ho4 (below_size BA)); replace HB := Aside0.mk (below_step BA hb); clear hb ho4; obtain ⟨Ao5, co5, eo5⟩ := Kd.R_slice HO256.out; subst eo5) | ((with_reducible refine gate_callee (f := 108) rfl ?_); refine gK (some 5) Try.func108 #[.slice Ao5 y254.length co5, .string a0] rfl rfl rfl ?_; (with_reducible refine (spec_l1HasS.calls k _ _ y254 a0 t257 _ ?side1 ?side2 A2.out).mono ?_); (case side1 => exact cb (Kd.R_reads' HO256.out).2.2); (case side2 => exact (Kd.R_reads' HO256.out).2.1); rintro e w' ⟨rfl, ⟨nd, rfl⟩⟩; refine ⟨_, rfl, ?_⟩))
  go_ret
  exact ⟨EQ, BA⟩

/-! ### spec_suGood: function 70 -/
mutual
def spec_suGood.j0 : Nat → Bool → List ByteArray → List Int → Option (Bool)
  | 0, _, _, _ => none
  | k + 1, x28, x260000, x260001 => if x28 = true then (some false) else (spec_suGood.l0 k x260000 (x260000.length : Int) 0 x260000 x260001)
def spec_suGood.l0 : Nat → List ByteArray → Int → Int → List ByteArray → List Int → Option (Bool)
  | 0, _, _, _, _, _ => none
  | k + 1, x30, x31, x32, x260000, x260001 => if x32 < x31 then (if 0 ≤ x32 then (if x32 < (x30.length : Int) then ((spec_cdShape.f k (rdOf ByteArray.empty x30 x32)).bind fun bt263 => (if bt263.1 = true then (if x32 ≤ (x260000.length : Int) then ((spec_l1HasS.f k (x260000.take (x32 : Int).toNat) (rdOf ByteArray.empty x30 x32)).bind fun t269 => (if t269 = true then (some false) else ((spec_cdImm.f k (rdOf ByteArray.empty x30 x32)).bind fun t270 => (if t270 = true then ((spec_l1All.f k x260001 bt263.2.2.2.1 bt263.2.2.2.2).bind fun t271 => (if t271 = true then (spec_suGood.l0 k x30 x31 (wrap64 (x32 + 1)) x260000 x260001) else (some false))) else (spec_suGood.l0 k x30 x31 (wrap64 (x32 + 1)) x260000 x260001))))) else (none)) else (some false))) else (none)) else (none)) else (spec_suGood.l1 k x260001 (x260001.length : Int) 0 x260000 x260001)
def spec_suGood.l1 : Nat → List Int → Int → Int → List ByteArray → List Int → Option (Bool)
  | 0, _, _, _, _, _ => none
  | k + 1, x69, x70, x71, x260000, x260001 => if x71 < x70 then (if 0 ≤ x71 then (if x71 < (x69.length : Int) then (if x71 ≤ (x260001.length : Int) then ((spec_l1Has.f k (x260001.take (x71 : Int).toNat) (rd x69 x71)).bind fun t274 => (if t274 = true then (some false) else (spec_suGood.l1 k x69 x70 (wrap64 (x71 + 1)) x260000 x260001))) else (none)) else (none)) else (none)) else (some true)
end
def spec_suGood.f (k : Nat) (l0_0 : List ByteArray) (l0_1 : List Int) : Option (Bool) := (spec_l1In.f (l0_0.length : Int) 1 4).bind fun t260 => (if t260 = true then (if (l0_1.length : Int) > 2 then (spec_suGood.j0 k true l0_0 l0_1) else ((spec_l1All.f k l0_1 0 63).bind fun t261 => (spec_suGood.j0 k (!t261) l0_0 l0_1))) else (spec_suGood.j0 k true l0_0 l0_1))
theorem spec_suGood.mono_l : ∀ k, (∀ y0 y1 y2, LeO (spec_suGood.j0 k y0 y1 y2) (spec_suGood.j0 (k + 1) y0 y1 y2)) ∧ (∀ y0 y1 y2 y3 y4, LeO (spec_suGood.l0 k y0 y1 y2 y3 y4) (spec_suGood.l0 (k + 1) y0 y1 y2 y3 y4)) ∧ (∀ y0 y1 y2 y3 y4, LeO (spec_suGood.l1 k y0 y1 y2 y3 y4) (spec_suGood.l1 (k + 1) y0 y1 y2 y3 y4))
  | 0 => ⟨fun _ _ _ r h => by simp [spec_suGood.j0] at h, fun _ _ _ _ _ r h => by simp [spec_suGood.l0] at h, fun _ _ _ _ _ r h => by simp [spec_suGood.l1] at h⟩
  | k + 1 => by
    obtain ⟨ih0, ih1, ih2⟩ := spec_suGood.mono_l k
    refine ⟨?_, ?_, ?_⟩
    · intro y0 y1 y2
      unfold spec_suGood.j0
      repeat' first | (with_reducible first | exact ih0 _ _ _ | exact ih1 _ _ _ _ _ | exact ih2 _ _ _ _ _ | exact spec_cdImm.mono _ _ | exact spec_cdShape.mono _ _ | exact spec_l1All.mono _ _ _ _ | exact spec_l1Has.mono _ _ _ | exact spec_l1HasS.mono _ _ _ | exact LeO.refl _ | exact LeO.none _ | refine LeO.ite ?_ ?_ | refine LeO.bind ?_ (fun _ => ?_)) | exact LeO.none _ | refine LeO.ite ?_ ?_ | refine LeO.bind ?_ (fun _ => ?_)
    · intro y0 y1 y2 y3 y4
      unfold spec_suGood.l0
      repeat' first | (with_reducible first | exact ih0 _ _ _ | exact ih1 _ _ _ _ _ | exact ih2 _ _ _ _ _ | exact spec_cdImm.mono _ _ | exact spec_cdShape.mono _ _ | exact spec_l1All.mono _ _ _ _ | exact spec_l1Has.mono _ _ _ | exact spec_l1HasS.mono _ _ _ | exact LeO.refl _ | exact LeO.none _ | refine LeO.ite ?_ ?_ | refine LeO.bind ?_ (fun _ => ?_)) | exact LeO.none _ | refine LeO.ite ?_ ?_ | refine LeO.bind ?_ (fun _ => ?_)
    · intro y0 y1 y2 y3 y4
      unfold spec_suGood.l1
      repeat' first | (with_reducible first | exact ih0 _ _ _ | exact ih1 _ _ _ _ _ | exact ih2 _ _ _ _ _ | exact spec_cdImm.mono _ _ | exact spec_cdShape.mono _ _ | exact spec_l1All.mono _ _ _ _ | exact spec_l1Has.mono _ _ _ | exact spec_l1HasS.mono _ _ _ | exact LeO.refl _ | exact LeO.none _ | refine LeO.ite ?_ ?_ | refine LeO.bind ?_ (fun _ => ?_)) | exact LeO.none _ | refine LeO.ite ?_ ?_ | refine LeO.bind ?_ (fun _ => ?_)
theorem spec_suGood.mono : ∀ a0 a1 k, LeO (spec_suGood.f k a0 a1) (spec_suGood.f (k + 1) a0 a1) := by
  intro a0 a1 k
  obtain ⟨ih0, ih1, ih2⟩ := spec_suGood.mono_l k
  unfold spec_suGood.f
  repeat' first | (with_reducible first | exact ih0 _ _ _ | exact ih1 _ _ _ _ _ | exact ih2 _ _ _ _ _ | exact spec_cdImm.mono _ _ | exact spec_cdShape.mono _ _ | exact spec_l1All.mono _ _ _ _ | exact spec_l1Has.mono _ _ _ | exact spec_l1HasS.mono _ _ _ | exact LeO.refl _ | exact LeO.none _ | refine LeO.ite ?_ ?_ | refine LeO.bind ?_ (fun _ => ?_)) | exact LeO.none _ | refine LeO.ite ?_ ?_ | refine LeO.bind ?_ (fun _ => ?_)
set_option maxHeartbeats 8000000 in
set_option maxRecDepth 100000 in
theorem spec_suGood.calls (k : Nat) (A0_0 : Option Addr) (c0_0 : Nat) (l0_0 : List ByteArray) (A0_1 : Option Addr) (c0_1 : Nat) (l0_1 : List Int) (r : Bool) (w : World) (hr0_0 : Kd.C Kd.string w A0_0 l0_0.length l0_0) (hc0_0 : l0_0.length ≤ c0_0) (hr0_1 : Kd.C (Kd.int .i64) w A0_1 l0_1.length l0_1) (hc0_1 : l0_1.length ≤ c0_1) (h : spec_suGood.f k l0_0 l0_1 = some r) :
    Calls Try.prog 70 #[.agg #[.slice A0_0 l0_0.length c0_0, .slice A0_1 l0_1.length c0_1]] w fun e w' => e = .returned (.bool r) ∧ Below w.heap.size w w' := by
  have hu39 := Try.underlying39
  have HR0_0 := Aside0.mk hr0_0
  have HC0_0 := Aside0.mk hc0_0
  clear hr0_0 hc0_0
  have HR0_1 := Aside0.mk hr0_1
  have HC0_1 := Aside0.mk hc0_1
  clear hr0_1 hc0_1
  have HB := Aside0.mk (Below.refl w.heap.size w)
  have H : ((spec_l1In.f (l0_0.length : Int) 1 4).bind fun t260 => (if t260 = true then (if (l0_1.length : Int) > 2 then (spec_suGood.j0 k true l0_0 l0_1) else ((spec_l1All.f k l0_1 0 63).bind fun t261 => (spec_suGood.j0 k (!t261) l0_0 l0_1))) else (spec_suGood.j0 k true l0_0 l0_1))) = some r := h
  clear h
  have HC2 := Aside0.mk H
  clear H
  go_enter Try.func70, Try.ntmps70
  go_upto_region 1 with (first | ((with_reducible refine gate_dst (N := 1) rfl ?_); (try (refine gate_guard (by rfl) ?_; dsimp only)); refine box_event ?hg (N := 1) ?hd (cs := #[.slice A0_0 l0_0.length c0_0, .slice A0_1 l0_1.length c0_1]) (t := 39) ?hr ?_; (case hd => rfl); (case hg => rfl); (case hr => first | (go_simp; done) | (go_simp; rfl)); intro gb259 hg w3 hbox hb; have BK259 := Aside0.mk (hbox); have GW259 := Aside0.mk ((by rw [hg]; exact (below_size BA) : w.heap.size ≤ gb259)); have GE259 := Aside0.mk ((by rw [hg]; exact (below_size BA) : w.heap.size ≤ gb259)); replace HB := Aside0.mk (below_step BA hb); clear hb hbox hg))
  (try simp only [Act.put, List.setIfInBounds_toArray, List.set_cons_zero, List.set_cons_succ])
  go_cut [28] (fun v28 wc => ∃ (kq : Nat) (x28_1 : Bool), v28 = .bool x28_1 ∧ Aside0 (spec_suGood.j0 kq x28_1 l0_0 l0_1 = some r) ∧ Aside0 (kq ≤ k) ∧ Aside0 (wc.heap[gb259]? = some (.cells #[(.slice A0_0 l0_0.length c0_0), (.slice A0_1 l0_1.length c0_1)] 39 (0, 0))) ∧ Aside0 (Below w.heap.size w wc))
  case first =>
    have H := HC2.out
    clear HC2
    replace H := Option.bind_eq_some_iff.mp H
    obtain ⟨t260, A40, H⟩ := H
    replace H : (if t260 = true then (if (l0_1.length : Int) > 2 then (spec_suGood.j0 k true l0_0 l0_1) else ((spec_l1All.f k l0_1 0 63).bind fun t261 => (spec_suGood.j0 k (!t261) l0_0 l0_1))) else (spec_suGood.j0 k true l0_0 l0_1)) = some r := H
    have A4 := Aside0.mk A40
    clear A40
    by_cases c5 : t260 = true
    · subst c5
      have H1 : (if (l0_1.length : Int) > 2 then (spec_suGood.j0 k true l0_0 l0_1) else ((spec_l1All.f k l0_1 0 63).bind fun t261 => (spec_suGood.j0 k (!t261) l0_0 l0_1))) = some r := by rw [if_pos rfl] at H; exact H
      clear H
      have H := H1
      clear H1
      by_cases c6 : (l0_1.length : Int) > 2
      · rw [if_pos c6] at H
        have c6b0 := decide_eq_true c6
        have c6b1 : decide (2 < l0_1.length) = true := decide_eq_true (by omega)
        clear c6
        (first | rw [c6b0] | (simp only [i64_w, i32_w]; rw [c6b0]) | skip)
        have H' := Aside0.mk H
        clear H
        have hcz7_0 := bcv BK259.out 0 (.slice A0_0 l0_0.length c0_0)
        have hcz7_1 := bcv BK259.out 1 (.slice A0_1 l0_1.length c0_1)
        have hfz7 := blk_frozen BK259.out
        have hfz7_1 := blk_frozen BK259.out 1
        go_wp2_with (first | ((with_reducible refine gate_callee (f := 95) rfl ?_); refine gK (some 15) Try.func95 #[.int .i64 (l0_0.length : Int), .int .i64 1, .int .i64 4] rfl rfl rfl ?_; (with_reducible refine (spec_l1In.calls (l0_0.length : Int) 1 4 true _ A4.out).mono ?_); rintro e w' ⟨rfl, ⟨nd, rfl⟩⟩; refine ⟨_, rfl, ?_⟩))
        go_meet
        case rel => exact ⟨_, (true), EQ1, H', ⟨by first | omega | exact Nat.le_refl _⟩, ⟨by (with_reducible repeat (first | refine blk_drewN ?_ _ | refine blk_drew ?_ | refine blk_alloc ?_ _)); exact BK259.out⟩, ⟨BA⟩⟩
      · rw [if_neg c6] at H
        have c6b0 := decide_eq_false c6
        have c6b1 : decide (2 < l0_1.length) = false := decide_eq_false (by omega)
        clear c6
        (first | rw [c6b0] | (simp only [i64_w, i32_w]; rw [c6b0]) | skip)
        replace H := Option.bind_eq_some_iff.mp H
        obtain ⟨t261, A80, H⟩ := H
        replace H : (spec_suGood.j0 k (!t261) l0_0 l0_1) = some r := H
        have A8 := Aside0.mk A80
        clear A80
        have H' := Aside0.mk H
        clear H
        have hcz9_0 := bcv BK259.out 0 (.slice A0_0 l0_0.length c0_0)
        have hcz9_1 := bcv BK259.out 1 (.slice A0_1 l0_1.length c0_1)
        have hfz9 := blk_frozen BK259.out
        have hfz9_1 := blk_frozen BK259.out 1
        go_wp2_with (first | ((with_reducible refine gate_callee (f := 95) rfl ?_); refine gK (some 15) Try.func95 #[.int .i64 (l0_0.length : Int), .int .i64 1, .int .i64 4] rfl rfl rfl ?_; (with_reducible refine (spec_l1In.calls (l0_0.length : Int) 1 4 true _ A4.out).mono ?_); rintro e w' ⟨rfl, ⟨nd, rfl⟩⟩; refine ⟨_, rfl, ?_⟩) | (go_at_call 114; (with_reducible refine (spec_l1All.calls k _ _ l0_1 0 63 t261 _ ?side1 ?side2 A8.out).mono ?_); (case side1 => exact cb (Kd.C_below HR0_1.out BA)); (case side2 => exact HC0_1.out); rintro e w' ⟨rfl, ⟨nd, rfl⟩⟩))
        go_meet
        case rel => exact ⟨_, (!t261), EQ1, H', ⟨by first | omega | exact Nat.le_refl _⟩, ⟨by (with_reducible repeat (first | refine blk_drewN ?_ _ | refine blk_drew ?_ | refine blk_alloc ?_ _)); exact BK259.out⟩, ⟨BA⟩⟩
    · replace c5 := Bool.eq_false_iff.mpr c5
      subst c5
      have H1 : (spec_suGood.j0 k true l0_0 l0_1) = some r := by rw [if_neg (show ¬ (false = true) by decide)] at H; exact H
      clear H
      have H := H1
      clear H1
      have H' := Aside0.mk H
      clear H
      have hcz10_0 := bcv BK259.out 0 (.slice A0_0 l0_0.length c0_0)
      have hcz10_1 := bcv BK259.out 1 (.slice A0_1 l0_1.length c0_1)
      have hfz10 := blk_frozen BK259.out
      have hfz10_1 := blk_frozen BK259.out 1
      go_wp2_with (first | ((with_reducible refine gate_callee (f := 95) rfl ?_); refine gK (some 15) Try.func95 #[.int .i64 (l0_0.length : Int), .int .i64 1, .int .i64 4] rfl rfl rfl ?_; (with_reducible refine (spec_l1In.calls (l0_0.length : Int) 1 4 false _ A4.out).mono ?_); rintro e w' ⟨rfl, ⟨nd, rfl⟩⟩; refine ⟨_, rfl, ?_⟩))
      go_meet
      case rel => exact ⟨_, (true), EQ1, H', ⟨by first | omega | exact Nat.le_refl _⟩, ⟨by (with_reducible repeat (first | refine blk_drewN ?_ _ | refine blk_drew ?_ | refine blk_alloc ?_ _)); exact BK259.out⟩, ⟨BA⟩⟩
  case rest =>
    clear HC2
    (try clear p2); (try clear c5); (try clear c6); (try clear c6b0); (try clear c6b1); (try clear c7); (try clear c9); (try clear hcz10_0); (try clear hcz10_1); (try clear hcz7_0); (try clear hcz7_1); (try clear hcz9_0); (try clear hcz9_1); (try clear hfz10_0); (try clear hfz10_1); (try clear hfz7_0); (try clear hfz7_1); (try clear hfz9_0); (try clear hfz9_1)
    obtain ⟨kq, x28_1, rfl, HA, HJ1, BK259, HB⟩ := hcut
    cases kq with
    | zero => exact absurd HA.out (by simp [spec_suGood.j0])
    | succ kj1 =>
      have H := HA.out
      clear HA
      simp only [spec_suGood.j0] at H
      by_cases c11 : x28_1 = true
      · subst c11
        have H1 : (some false) = some r := by rw [if_pos rfl] at H; exact H
        clear H
        have H := H1
        clear H1
        obtain rfl := Option.some.inj H
        go_wp2
        go_ret
        exact ⟨EQ, BA⟩
      · replace c11 := Bool.eq_false_iff.mpr c11
        subst c11
        have H1 : (spec_suGood.l0 kj1 l0_0 (l0_0.length : Int) 0 l0_0 l0_1) = some r := by rw [if_neg (show ¬ (false = true) by decide)] at H; exact H
        clear H
        have H := H1
        clear H1
        have H' := Aside0.mk H
        clear H
        have hcz12_0 := bcv BK259.out 0 (.slice A0_0 l0_0.length c0_0)
        have hcz12_1 := bcv BK259.out 1 (.slice A0_1 l0_1.length c0_1)
        have hfz12 := blk_frozen BK259.out
        have hfz12_1 := blk_frozen BK259.out 1
        go_wp2
        go_loopg [32] kj1 (fun kq v32 w' => ∃ (x32_2 : Int), v32 = .int .i64 x32_2 ∧ Aside0 (spec_suGood.l0 kq l0_0 (l0_0.length : Int) x32_2 l0_0 l0_1 = some r) ∧ Aside0 (kq ≤ kj1) ∧ Aside0 (w'.heap[gb259]? = some (.cells #[(.slice A0_0 l0_0.length c0_0), (.slice A0_1 l0_1.length c0_1)] 39 (0, 0))) ∧ Aside0 (Below w.heap.size w w'))
        case atStart => exact ⟨(0), EQ1, H', ⟨Nat.le_refl _⟩, ⟨by (with_reducible repeat (first | refine blk_drewN ?_ _ | refine blk_drew ?_ | refine blk_alloc ?_ _)); exact BK259.out⟩, ⟨BA⟩⟩
        case round =>
          clear H'
          (try clear c1); (try clear p2); (try clear c5); (try clear c6); (try clear c6b0); (try clear c6b1); (try clear c7); (try clear c9); (try clear c11); (try clear hcz10_0); (try clear hcz10_1); (try clear hcz12_0); (try clear hcz12_1); (try clear hcz7_0); (try clear hcz7_1); (try clear hcz9_0); (try clear hcz9_1); (try clear hfz10_0); (try clear hfz10_1); (try clear hfz12_0); (try clear hfz12_1); (try clear hfz7_0); (try clear hfz7_1); (try clear hfz9_0); (try clear hfz9_1); (try clear p2)
          obtain ⟨x32_2, rfl, HA, HK2, BK259, HB⟩ := hrel
          cases gk with
          | zero => exact absurd HA.out (by simp [spec_suGood.l0])
          | succ k2 =>
            have H := HA.out
            clear HA
            simp only [spec_suGood.l0] at H
            by_cases c13 : x32_2 < (l0_0.length : Int)
            · rw [if_pos c13] at H
              have c13b0 := decide_eq_true c13
              clear c13
              by_cases c14 : 0 ≤ x32_2
              · rw [if_pos c14] at H
                have c14b0 := decide_eq_true c14
                clear c14
                by_cases c15 : x32_2 < (l0_0.length : Int)
                · rw [if_pos c15] at H
                  have c15b0 := decide_eq_true c15
                  clear c15
                  replace H := Option.bind_eq_some_iff.mp H
                  obtain ⟨⟨t263, t264, t265, t266, t267⟩, A160, H⟩ := H
                  replace H : (if t263 = true then (if x32_2 ≤ (l0_0.length : Int) then ((spec_l1HasS.f k2 (l0_0.take (x32_2 : Int).toNat) (rdOf ByteArray.empty l0_0 x32_2)).bind fun t269 => (if t269 = true then (some false) else ((spec_cdImm.f k2 (rdOf ByteArray.empty l0_0 x32_2)).bind fun t270 => (if t270 = true then ((spec_l1All.f k2 l0_1 t266 t267).bind fun t271 => (if t271 = true then (spec_suGood.l0 k2 l0_0 (l0_0.length : Int) (wrap64 (x32_2 + 1)) l0_0 l0_1) else (some false))) else (spec_suGood.l0 k2 l0_0 (l0_0.length : Int) (wrap64 (x32_2 + 1)) l0_0 l0_1))))) else (none)) else (some false)) = some r := H
                  have A16 := Aside0.mk A160
                  clear A160
                  by_cases c17 : t263 = true
                  · subst c17
                    have H1 : (if x32_2 ≤ (l0_0.length : Int) then ((spec_l1HasS.f k2 (l0_0.take (x32_2 : Int).toNat) (rdOf ByteArray.empty l0_0 x32_2)).bind fun t269 => (if t269 = true then (some false) else ((spec_cdImm.f k2 (rdOf ByteArray.empty l0_0 x32_2)).bind fun t270 => (if t270 = true then ((spec_l1All.f k2 l0_1 t266 t267).bind fun t271 => (if t271 = true then (spec_suGood.l0 k2 l0_0 (l0_0.length : Int) (wrap64 (x32_2 + 1)) l0_0 l0_1) else (some false))) else (spec_suGood.l0 k2 l0_0 (l0_0.length : Int) (wrap64 (x32_2 + 1)) l0_0 l0_1))))) else (none)) = some r := by rw [if_pos rfl] at H; exact H
                    clear H
                    have H := H1
                    clear H1
                    have c18b0 := eq_true (DT : 0 ≤ x32_2)
                    by_cases c19 : x32_2 ≤ (l0_0.length : Int)
                    · rw [if_pos c19] at H
                      have c19b0 := eq_true c19
                      have c19b1 := decide_eq_true c19
                      clear c19
                      replace H := Option.bind_eq_some_iff.mp H
                      obtain ⟨t269, A200, H⟩ := H
                      replace H : (if t269 = true then (some false) else ((spec_cdImm.f k2 (rdOf ByteArray.empty l0_0 x32_2)).bind fun t270 => (if t270 = true then ((spec_l1All.f k2 l0_1 t266 t267).bind fun t271 => (if t271 = true then (spec_suGood.l0 k2 l0_0 (l0_0.length : Int) (wrap64 (x32_2 + 1)) l0_0 l0_1) else (some false))) else (spec_suGood.l0 k2 l0_0 (l0_0.length : Int) (wrap64 (x32_2 + 1)) l0_0 l0_1)))) = some r := H
                      have A20 := Aside0.mk A200
                      clear A200
                      by_cases c21 : t269 = true
                      · subst c21
                        have H1 : (some false) = some r := by rw [if_pos rfl] at H; exact H
                        clear H
                        have H := H1
                        clear H1
                        obtain rfl := Option.some.inj H
                        have p262 : 0 ≤ (x32_2 : Int) := DT
                        have q262 : x32_2 < (l0_0.length : Int) := DT
                        obtain ⟨ad262, e262, hx262_0⟩ := Kd.at_string HR0_0.out x32_2 p262 q262
                        cases e262
                        replace hx262_0 := (HB.out.cell (World.block_lt_of_cell? w _ hx262_0)).trans hx262_0
                        replace p262 := eq_true p262
                        replace q262 := eq_true q262
                        go_wp2_with (first | ((with_reducible refine gate_callee (f := 115) rfl ?_); refine gK (some 39) Try.func115 #[.string (rdOf ByteArray.empty l0_0 x32_2)] rfl rfl rfl ?_; (with_reducible refine (spec_cdShape.calls k2 (rdOf ByteArray.empty l0_0 x32_2) true t264 t265 t266 t267 _ A16.out).mono ?_); rintro e w' ⟨rfl, ⟨nd, rfl⟩⟩; refine ⟨_, rfl, ?_⟩; have hcz22_0 := bcv BK259.out 0 (.slice (some ad262) l0_0.length c0_0); have hcz22_1 := bcv BK259.out 1 (.slice A0_1 l0_1.length c0_1); have hfz22 := blk_frozen BK259.out; obtain ⟨i023, hi023, _, hsz23, _⟩ := info_parts info9; obtain ⟨hcut23, hA23, hC23⟩ := print_take_of (P := Try.prog) Value.string (⟨#[]⟩ : ByteArray) 33 9 .i64 Try.underlying33 hi023 hsz23 (some ad262) c0_0 l0_0 x32_2 DT DT HC0_0.out; have HR268 := Aside0.mk (Kd.C_of_reads (h1 := fun _ => rfl) (hA23 _ (Kd.reads_of_C HR0_0.out))); have HC268 := Aside0.mk hC23; clear hA23 hC23 hi023 hsz23) | (go_at_call 108; refine calls_of_args (args' := #[.slice (some ad262) (l0_0.take (x32_2 : Int).toNat).length c0_0, .string (rdOf ByteArray.empty l0_0 x32_2)]) (by first | (rw [show (l0_0.take (x32_2 : Int).toNat).length = x32_2.toNat from (by rw [List.length_take]; have h_ : (x32_2 : Int) ≤ (l0_0.length : Int) := DT; omega)] <;> rfl) | rfl) ?_; (with_reducible refine (spec_l1HasS.calls k2 _ _ (l0_0.take (x32_2 : Int).toNat) (rdOf ByteArray.empty l0_0 x32_2) true _ ?side1 ?side2 A20.out).mono ?_); (case side1 => exact cb (Kd.C_below HR268.out BA)); (case side2 => exact HC268.out); rintro e w' ⟨rfl, ⟨nd, rfl⟩⟩))
                        go_ret
                        exact ⟨EQ, BA⟩
                      · replace c21 := Bool.eq_false_iff.mpr c21
                        subst c21
                        have H1 : ((spec_cdImm.f k2 (rdOf ByteArray.empty l0_0 x32_2)).bind fun t270 => (if t270 = true then ((spec_l1All.f k2 l0_1 t266 t267).bind fun t271 => (if t271 = true then (spec_suGood.l0 k2 l0_0 (l0_0.length : Int) (wrap64 (x32_2 + 1)) l0_0 l0_1) else (some false))) else (spec_suGood.l0 k2 l0_0 (l0_0.length : Int) (wrap64 (x32_2 + 1)) l0_0 l0_1))) = some r := by rw [if_neg (show ¬ (false = true) by decide)] at H; exact H
                        clear H
                        have H := H1
                        clear H1
                        replace H := Option.bind_eq_some_iff.mp H
                        obtain ⟨t270, A240, H⟩ := H
                        replace H : (if t270 = true then ((spec_l1All.f k2 l0_1 t266 t267).bind fun t271 => (if t271 = true then (spec_suGood.l0 k2 l0_0 (l0_0.length : Int) (wrap64 (x32_2 + 1)) l0_0 l0_1) else (some false))) else (spec_suGood.l0 k2 l0_0 (l0_0.length : Int) (wrap64 (x32_2 + 1)) l0_0 l0_1)) = some r := H
                        have A24 := Aside0.mk A240
                        clear A240
                        by_cases c25 : t270 = true
                        · subst c25
                          have H1 : ((spec_l1All.f k2 l0_1 t266 t267).bind fun t271 => (if t271 = true then (spec_suGood.l0 k2 l0_0 (l0_0.length : Int) (wrap64 (x32_2 + 1)) l0_0 l0_1) else (some false))) = some r := by rw [if_pos rfl] at H; exact H
                          clear H
                          have H := H1
                          clear H1
                          replace H := Option.bind_eq_some_iff.mp H
                          obtain ⟨t271, A260, H⟩ := H
                          replace H : (if t271 = true then (spec_suGood.l0 k2 l0_0 (l0_0.length : Int) (wrap64 (x32_2 + 1)) l0_0 l0_1) else (some false)) = some r := H
                          have A26 := Aside0.mk A260
                          clear A260
                          by_cases c27 : t271 = true
                          · subst c27
                            have H1 : (spec_suGood.l0 k2 l0_0 (l0_0.length : Int) (wrap64 (x32_2 + 1)) l0_0 l0_1) = some r := by rw [if_pos rfl] at H; exact H
                            clear H
                            have H := H1
                            clear H1
                            have H' := Aside0.mk H
                            clear H
                            have p262 : 0 ≤ (x32_2 : Int) := DT
                            have q262 : x32_2 < (l0_0.length : Int) := DT
                            obtain ⟨ad262, e262, hx262_0⟩ := Kd.at_string HR0_0.out x32_2 p262 q262
                            cases e262
                            replace hx262_0 := (HB.out.cell (World.block_lt_of_cell? w _ hx262_0)).trans hx262_0
                            replace p262 := eq_true p262
                            replace q262 := eq_true q262
                            go_wp2_with (first | ((with_reducible refine gate_callee (f := 115) rfl ?_); refine gK (some 39) Try.func115 #[.string (rdOf ByteArray.empty l0_0 x32_2)] rfl rfl rfl ?_; (with_reducible refine (spec_cdShape.calls k2 (rdOf ByteArray.empty l0_0 x32_2) true t264 t265 t266 t267 _ A16.out).mono ?_); rintro e w' ⟨rfl, ⟨nd, rfl⟩⟩; refine ⟨_, rfl, ?_⟩; have hcz28_0 := bcv BK259.out 0 (.slice (some ad262) l0_0.length c0_0); have hcz28_1 := bcv BK259.out 1 (.slice A0_1 l0_1.length c0_1); have hfz28 := blk_frozen BK259.out; obtain ⟨i029, hi029, _, hsz29, _⟩ := info_parts info9; obtain ⟨hcut29, hA29, hC29⟩ := print_take_of (P := Try.prog) Value.string (⟨#[]⟩ : ByteArray) 33 9 .i64 Try.underlying33 hi029 hsz29 (some ad262) c0_0 l0_0 x32_2 DT DT HC0_0.out; have HR268 := Aside0.mk (Kd.C_of_reads (h1 := fun _ => rfl) (hA29 _ (Kd.reads_of_C HR0_0.out))); have HC268 := Aside0.mk hC29; clear hA29 hC29 hi029 hsz29) | (go_at_call 108; refine calls_of_args (args' := #[.slice (some ad262) (l0_0.take (x32_2 : Int).toNat).length c0_0, .string (rdOf ByteArray.empty l0_0 x32_2)]) (by first | (rw [show (l0_0.take (x32_2 : Int).toNat).length = x32_2.toNat from (by rw [List.length_take]; have h_ : (x32_2 : Int) ≤ (l0_0.length : Int) := DT; omega)] <;> rfl) | rfl) ?_; (with_reducible refine (spec_l1HasS.calls k2 _ _ (l0_0.take (x32_2 : Int).toNat) (rdOf ByteArray.empty l0_0 x32_2) false _ ?side1 ?side2 A20.out).mono ?_); (case side1 => exact cb (Kd.C_below HR268.out BA)); (case side2 => exact HC268.out); rintro e w' ⟨rfl, ⟨nd, rfl⟩⟩) | (go_at_call 116; (with_reducible refine (spec_cdImm.calls k2 (rdOf ByteArray.empty l0_0 x32_2) true _ A24.out).mono ?_); rintro e w30 ⟨rfl, hb⟩; replace BK259 := Aside0.mk (blk_below (bk BK259.out) hb); replace HB := Aside0.mk (below_step BA hb); (try clear hb); have hcz31_0 := bcv BK259.out 0 (.slice (some ad262) l0_0.length c0_0); have hcz31_1 := bcv BK259.out 1 (.slice A0_1 l0_1.length c0_1); have hfz31 := blk_frozen BK259.out) | (go_at_call 114; (with_reducible refine (spec_l1All.calls k2 _ _ l0_1 t266 t267 true _ ?side1 ?side2 A26.out).mono ?_); (case side1 => exact cb (Kd.C_below HR0_1.out HB.out)); (case side2 => exact HC0_1.out); rintro e w' ⟨rfl, ⟨nd, rfl⟩⟩))
                            go_roundg k2
                            case measure => have := HJ1.out; have := HK2.out; omega
                            case rel => exact ⟨(wrap64 (x32_2 + 1)), EQ1, H', ⟨by have := HJ1.out; have := HK2.out; omega⟩, ⟨by (with_reducible repeat (first | refine blk_drewN ?_ _ | refine blk_drew ?_ | refine blk_alloc ?_ _)); exact BK259.out⟩, ⟨BA⟩⟩
                          · replace c27 := Bool.eq_false_iff.mpr c27
                            subst c27
                            have H1 : (some false) = some r := by rw [if_neg (show ¬ (false = true) by decide)] at H; exact H
                            clear H
                            have H := H1
                            clear H1
                            obtain rfl := Option.some.inj H
                            have p262 : 0 ≤ (x32_2 : Int) := DT
                            have q262 : x32_2 < (l0_0.length : Int) := DT
                            obtain ⟨ad262, e262, hx262_0⟩ := Kd.at_string HR0_0.out x32_2 p262 q262
                            cases e262
                            replace hx262_0 := (HB.out.cell (World.block_lt_of_cell? w _ hx262_0)).trans hx262_0
                            replace p262 := eq_true p262
                            replace q262 := eq_true q262
                            go_wp2_with (first | ((with_reducible refine gate_callee (f := 115) rfl ?_); refine gK (some 39) Try.func115 #[.string (rdOf ByteArray.empty l0_0 x32_2)] rfl rfl rfl ?_; (with_reducible refine (spec_cdShape.calls k2 (rdOf ByteArray.empty l0_0 x32_2) true t264 t265 t266 t267 _ A16.out).mono ?_); rintro e w' ⟨rfl, ⟨nd, rfl⟩⟩; refine ⟨_, rfl, ?_⟩; have hcz32_0 := bcv BK259.out 0 (.slice (some ad262) l0_0.length c0_0); have hcz32_1 := bcv BK259.out 1 (.slice A0_1 l0_1.length c0_1); have hfz32 := blk_frozen BK259.out; obtain ⟨i033, hi033, _, hsz33, _⟩ := info_parts info9; obtain ⟨hcut33, hA33, hC33⟩ := print_take_of (P := Try.prog) Value.string (⟨#[]⟩ : ByteArray) 33 9 .i64 Try.underlying33 hi033 hsz33 (some ad262) c0_0 l0_0 x32_2 DT DT HC0_0.out; have HR268 := Aside0.mk (Kd.C_of_reads (h1 := fun _ => rfl) (hA33 _ (Kd.reads_of_C HR0_0.out))); have HC268 := Aside0.mk hC33; clear hA33 hC33 hi033 hsz33) | (go_at_call 108; refine calls_of_args (args' := #[.slice (some ad262) (l0_0.take (x32_2 : Int).toNat).length c0_0, .string (rdOf ByteArray.empty l0_0 x32_2)]) (by first | (rw [show (l0_0.take (x32_2 : Int).toNat).length = x32_2.toNat from (by rw [List.length_take]; have h_ : (x32_2 : Int) ≤ (l0_0.length : Int) := DT; omega)] <;> rfl) | rfl) ?_; (with_reducible refine (spec_l1HasS.calls k2 _ _ (l0_0.take (x32_2 : Int).toNat) (rdOf ByteArray.empty l0_0 x32_2) false _ ?side1 ?side2 A20.out).mono ?_); (case side1 => exact cb (Kd.C_below HR268.out BA)); (case side2 => exact HC268.out); rintro e w' ⟨rfl, ⟨nd, rfl⟩⟩) | (go_at_call 116; (with_reducible refine (spec_cdImm.calls k2 (rdOf ByteArray.empty l0_0 x32_2) true _ A24.out).mono ?_); rintro e w34 ⟨rfl, hb⟩; replace BK259 := Aside0.mk (blk_below (bk BK259.out) hb); replace HB := Aside0.mk (below_step BA hb); (try clear hb); have hcz35_0 := bcv BK259.out 0 (.slice (some ad262) l0_0.length c0_0); have hcz35_1 := bcv BK259.out 1 (.slice A0_1 l0_1.length c0_1); have hfz35 := blk_frozen BK259.out) | (go_at_call 114; (with_reducible refine (spec_l1All.calls k2 _ _ l0_1 t266 t267 false _ ?side1 ?side2 A26.out).mono ?_); (case side1 => exact cb (Kd.C_below HR0_1.out HB.out)); (case side2 => exact HC0_1.out); rintro e w' ⟨rfl, ⟨nd, rfl⟩⟩))
                            go_ret
                            exact ⟨EQ, BA⟩
                        · replace c25 := Bool.eq_false_iff.mpr c25
                          subst c25
                          have H1 : (spec_suGood.l0 k2 l0_0 (l0_0.length : Int) (wrap64 (x32_2 + 1)) l0_0 l0_1) = some r := by rw [if_neg (show ¬ (false = true) by decide)] at H; exact H
                          clear H
                          have H := H1
                          clear H1
                          have H' := Aside0.mk H
                          clear H
                          have p262 : 0 ≤ (x32_2 : Int) := DT
                          have q262 : x32_2 < (l0_0.length : Int) := DT
                          obtain ⟨ad262, e262, hx262_0⟩ := Kd.at_string HR0_0.out x32_2 p262 q262
                          cases e262
                          replace hx262_0 := (HB.out.cell (World.block_lt_of_cell? w _ hx262_0)).trans hx262_0
                          replace p262 := eq_true p262
                          replace q262 := eq_true q262
                          go_wp2_with (first | ((with_reducible refine gate_callee (f := 115) rfl ?_); refine gK (some 39) Try.func115 #[.string (rdOf ByteArray.empty l0_0 x32_2)] rfl rfl rfl ?_; (with_reducible refine (spec_cdShape.calls k2 (rdOf ByteArray.empty l0_0 x32_2) true t264 t265 t266 t267 _ A16.out).mono ?_); rintro e w' ⟨rfl, ⟨nd, rfl⟩⟩; refine ⟨_, rfl, ?_⟩; have hcz36_0 := bcv BK259.out 0 (.slice (some ad262) l0_0.length c0_0); have hcz36_1 := bcv BK259.out 1 (.slice A0_1 l0_1.length c0_1); have hfz36 := blk_frozen BK259.out; obtain ⟨i037, hi037, _, hsz37, _⟩ := info_parts info9; obtain ⟨hcut37, hA37, hC37⟩ := print_take_of (P := Try.prog) Value.string (⟨#[]⟩ : ByteArray) 33 9 .i64 Try.underlying33 hi037 hsz37 (some ad262) c0_0 l0_0 x32_2 DT DT HC0_0.out; have HR268 := Aside0.mk (Kd.C_of_reads (h1 := fun _ => rfl) (hA37 _ (Kd.reads_of_C HR0_0.out))); have HC268 := Aside0.mk hC37; clear hA37 hC37 hi037 hsz37) | (go_at_call 108; refine calls_of_args (args' := #[.slice (some ad262) (l0_0.take (x32_2 : Int).toNat).length c0_0, .string (rdOf ByteArray.empty l0_0 x32_2)]) (by first | (rw [show (l0_0.take (x32_2 : Int).toNat).length = x32_2.toNat from (by rw [List.length_take]; have h_ : (x32_2 : Int) ≤ (l0_0.length : Int) := DT; omega)] <;> rfl) | rfl) ?_; (with_reducible refine (spec_l1HasS.calls k2 _ _ (l0_0.take (x32_2 : Int).toNat) (rdOf ByteArray.empty l0_0 x32_2) false _ ?side1 ?side2 A20.out).mono ?_); (case side1 => exact cb (Kd.C_below HR268.out BA)); (case side2 => exact HC268.out); rintro e w' ⟨rfl, ⟨nd, rfl⟩⟩) | (go_at_call 116; (with_reducible refine (spec_cdImm.calls k2 (rdOf ByteArray.empty l0_0 x32_2) false _ A24.out).mono ?_); rintro e w38 ⟨rfl, hb⟩; replace BK259 := Aside0.mk (blk_below (bk BK259.out) hb); replace HB := Aside0.mk (below_step BA hb); (try clear hb)))
                          go_roundg k2
                          case measure => have := HJ1.out; have := HK2.out; omega
                          case rel => exact ⟨(wrap64 (x32_2 + 1)), EQ1, H', ⟨by have := HJ1.out; have := HK2.out; omega⟩, ⟨by (with_reducible repeat (first | refine blk_drewN ?_ _ | refine blk_drew ?_ | refine blk_alloc ?_ _)); exact BK259.out⟩, ⟨BA⟩⟩
                    · rw [if_neg c19] at H
                      exact absurd H (by simp)
                  · replace c17 := Bool.eq_false_iff.mpr c17
                    subst c17
                    have H1 : (some false) = some r := by rw [if_neg (show ¬ (false = true) by decide)] at H; exact H
                    clear H
                    have H := H1
                    clear H1
                    obtain rfl := Option.some.inj H
                    have p262 : 0 ≤ (x32_2 : Int) := DT
                    have q262 : x32_2 < (l0_0.length : Int) := DT
                    obtain ⟨ad262, e262, hx262_0⟩ := Kd.at_string HR0_0.out x32_2 p262 q262
                    cases e262
                    replace hx262_0 := (HB.out.cell (World.block_lt_of_cell? w _ hx262_0)).trans hx262_0
                    replace p262 := eq_true p262
                    replace q262 := eq_true q262
                    go_wp2_with (first | ((with_reducible refine gate_callee (f := 115) rfl ?_); refine gK (some 39) Try.func115 #[.string (rdOf ByteArray.empty l0_0 x32_2)] rfl rfl rfl ?_; (with_reducible refine (spec_cdShape.calls k2 (rdOf ByteArray.empty l0_0 x32_2) false t264 t265 t266 t267 _ A16.out).mono ?_); rintro e w' ⟨rfl, ⟨nd, rfl⟩⟩; refine ⟨_, rfl, ?_⟩))
                    go_ret
                    exact ⟨EQ, BA⟩
                · rw [if_neg c15] at H
                  exact absurd H (by simp)
              · rw [if_neg c14] at H
                exact absurd H (by simp)
            · rw [if_neg c13] at H
              have c13b0 := decide_eq_false c13
              clear c13
              have H' := Aside0.mk H
              clear H
              have hcz39_0 := bcv BK259.out 0 (.slice A0_0 l0_0.length c0_0)
              have hcz39_1 := bcv BK259.out 1 (.slice A0_1 l0_1.length c0_1)
              have hfz39 := blk_frozen BK259.out
              have hfz39_1 := blk_frozen BK259.out 1
              go_wp2
              go_loopg [71] k2 (fun kq v71 w' => ∃ (x71_3 : Int), v71 = .int .i64 x71_3 ∧ Aside0 (spec_suGood.l1 kq l0_1 (l0_1.length : Int) x71_3 l0_0 l0_1 = some r) ∧ Aside0 (kq ≤ k2) ∧ Aside0 (w'.heap[gb259]? = some (.cells #[(.slice A0_0 l0_0.length c0_0), (.slice A0_1 l0_1.length c0_1)] 39 (0, 0))) ∧ Aside0 (Below w.heap.size w w'))
              case atStart => exact ⟨(0), EQ1, H', ⟨Nat.le_refl _⟩, ⟨by (with_reducible repeat (first | refine blk_drewN ?_ _ | refine blk_drew ?_ | refine blk_alloc ?_ _)); exact BK259.out⟩, ⟨BA⟩⟩
              case round =>
                clear H'
                (try clear c1); (try clear c2); (try clear p2); (try clear q2); (try clear hx2); (try clear c5); (try clear c6); (try clear c6b0); (try clear c6b1); (try clear p6); (try clear c7); (try clear c9); (try clear c11); (try clear c13); (try clear c13b0); (try clear c14); (try clear c14b0); (try clear c15); (try clear c15b0); (try clear c17); (try clear c18); (try clear c18b0); (try clear c19); (try clear c19b0); (try clear c19b1); (try clear c21); (try clear c25); (try clear p26); (try clear q26); (try clear hx26); (try clear c27); (try clear hcz10_0); (try clear hcz10_1); (try clear hcz12_0); (try clear hcz12_1); (try clear hcz22_0); (try clear hcz22_1); (try clear hcz28_0); (try clear hcz28_1); (try clear hcz31_0); (try clear hcz31_1); (try clear hcz32_0); (try clear hcz32_1); (try clear hcz35_0); (try clear hcz35_1); (try clear hcz36_0); (try clear hcz36_1); (try clear hcz39_0); (try clear hcz39_1); (try clear hcz7_0); (try clear hcz7_1); (try clear hcz9_0); (try clear hcz9_1); (try clear hfz10_0); (try clear hfz10_1); (try clear hfz12_0); (try clear hfz12_1); (try clear hfz22_0); (try clear hfz22_1); (try clear hfz28_0); (try clear hfz28_1); (try clear hfz31_0); (try clear hfz31_1); (try clear hfz32_0); (try clear hfz32_1); (try clear hfz35_0); (try clear hfz35_1); (try clear hfz36_0); (try clear hfz36_1); (try clear hfz39_0); (try clear hfz39_1); (try clear hfz7_0); (try clear hfz7_1); (try clear hfz9_0); (try clear hfz9_1); (try clear hx262_0); (try clear p2); (try clear p262); (try clear q262)
                obtain ⟨x71_3, rfl, HA, HK3, BK259, HB⟩ := hrel
                cases gk with
                | zero => exact absurd HA.out (by simp [spec_suGood.l1])
                | succ k3 =>
                  have H := HA.out
                  clear HA
                  simp only [spec_suGood.l1] at H
                  by_cases c40 : x71_3 < (l0_1.length : Int)
                  · rw [if_pos c40] at H
                    have c40b0 := decide_eq_true c40
                    clear c40
                    by_cases c41 : 0 ≤ x71_3
                    · rw [if_pos c41] at H
                      have c41b0 := decide_eq_true c41
                      clear c41
                      by_cases c42 : x71_3 < (l0_1.length : Int)
                      · rw [if_pos c42] at H
                        have c42b0 := decide_eq_true c42
                        clear c42
                        have c43b0 := eq_true (DT : 0 ≤ x71_3)
                        by_cases c44 : x71_3 ≤ (l0_1.length : Int)
                        · rw [if_pos c44] at H
                          have c44b0 := eq_true c44
                          have c44b1 := decide_eq_true c44
                          clear c44
                          replace H := Option.bind_eq_some_iff.mp H
                          obtain ⟨t274, A450, H⟩ := H
                          replace H : (if t274 = true then (some false) else (spec_suGood.l1 k3 l0_1 (l0_1.length : Int) (wrap64 (x71_3 + 1)) l0_0 l0_1)) = some r := H
                          have A45 := Aside0.mk A450
                          clear A450
                          by_cases c46 : t274 = true
                          · subst c46
                            have H1 : (some false) = some r := by rw [if_pos rfl] at H; exact H
                            clear H
                            have H := H1
                            clear H1
                            obtain rfl := Option.some.inj H
                            have p272 : 0 ≤ (x71_3 : Int) := DT
                            have q272 : x71_3 < (l0_1.length : Int) := DT
                            obtain ⟨ad272, e272, hx272_0⟩ := Kd.at_int HR0_1.out x71_3 p272 q272
                            cases e272
                            replace hx272_0 := (HB.out.cell (World.block_lt_of_cell? w _ hx272_0)).trans hx272_0
                            replace p272 := eq_true p272
                            replace q272 := eq_true q272
                            have hcz47_0 := bcv BK259.out 0 (.slice A0_0 l0_0.length c0_0)
                            have hcz47_1 := bcv BK259.out 1 (.slice (some ad272) l0_1.length c0_1)
                            have hfz47 := blk_frozen BK259.out
                            have hfz47_1 := blk_frozen BK259.out 1
                            obtain ⟨i048, hi048, _, hsz48, _⟩ := info_parts info3
                            obtain ⟨hcut48, hA48, hC48⟩ := print_take_of (P := Try.prog) (Value.int .i64) 0 34 3 .i64 Try.underlying34 hi048 hsz48 (some ad272) c0_1 l0_1 x71_3 DT DT HC0_1.out
                            have HR273 := Aside0.mk (Kd.C_of_reads (h1 := fun _ => rfl) (hA48 _ (Kd.reads_of_C HR0_1.out)))
                            have HC273 := Aside0.mk hC48
                            clear hA48 hC48 hi048 hsz48
                            go_wp2_with (first | ((with_reducible refine gate_callee (f := 117) rfl ?_); refine goesL_ (some 81) rfl rfl Try.func117 (by kernel_rfl) rfl #[.slice (some ad272) (l0_1.take (x71_3 : Int).toNat).length c0_1, .int .i64 (rd l0_1 x71_3)] rfl (by (try simp only [List.map_toArray, List.map_cons, List.map_nil]); first | done | (rw [show (l0_1.take (x71_3 : Int).toNat).length = x71_3.toNat from (by rw [List.length_take]; have h_ : (x71_3 : Int) ≤ (l0_1.length : Int) := DT; omega)] <;> rfl) | rfl | (simp only [List.length_drop, List.length_take]; rfl)) ?_; (with_reducible refine (spec_l1Has.calls k3 _ _ (l0_1.take (x71_3 : Int).toNat) (rd l0_1 x71_3) true _ ?side1 ?side2 A45.out).mono ?_); (case side1 => exact cb (Kd.C_below HR273.out HB.out)); (case side2 => exact HC273.out); rintro e w' ⟨rfl, ⟨nd, rfl⟩⟩; refine ⟨_, rfl, ?_⟩))
                            go_ret
                            exact ⟨EQ, BA⟩
                          · replace c46 := Bool.eq_false_iff.mpr c46
                            subst c46
                            have H1 : (spec_suGood.l1 k3 l0_1 (l0_1.length : Int) (wrap64 (x71_3 + 1)) l0_0 l0_1) = some r := by rw [if_neg (show ¬ (false = true) by decide)] at H; exact H
                            clear H
                            have H := H1
                            clear H1
                            have H' := Aside0.mk H
                            clear H
                            have p272 : 0 ≤ (x71_3 : Int) := DT
                            have q272 : x71_3 < (l0_1.length : Int) := DT
                            obtain ⟨ad272, e272, hx272_0⟩ := Kd.at_int HR0_1.out x71_3 p272 q272
                            cases e272
                            replace hx272_0 := (HB.out.cell (World.block_lt_of_cell? w _ hx272_0)).trans hx272_0
                            replace p272 := eq_true p272
                            replace q272 := eq_true q272
                            have hcz49_0 := bcv BK259.out 0 (.slice A0_0 l0_0.length c0_0)
                            have hcz49_1 := bcv BK259.out 1 (.slice (some ad272) l0_1.length c0_1)
                            have hfz49 := blk_frozen BK259.out
                            have hfz49_1 := blk_frozen BK259.out 1
                            obtain ⟨i050, hi050, _, hsz50, _⟩ := info_parts info3
                            obtain ⟨hcut50, hA50, hC50⟩ := print_take_of (P := Try.prog) (Value.int .i64) 0 34 3 .i64 Try.underlying34 hi050 hsz50 (some ad272) c0_1 l0_1 x71_3 DT DT HC0_1.out
                            have HR273 := Aside0.mk (Kd.C_of_reads (h1 := fun _ => rfl) (hA50 _ (Kd.reads_of_C HR0_1.out)))
                            have HC273 := Aside0.mk hC50
                            clear hA50 hC50 hi050 hsz50
                            go_wp2_with (first | ((with_reducible refine gate_callee (f := 117) rfl ?_); refine goesL_ (some 81) rfl rfl Try.func117 (by kernel_rfl) rfl #[.slice (some ad272) (l0_1.take (x71_3 : Int).toNat).length c0_1, .int .i64 (rd l0_1 x71_3)] rfl (by (try simp only [List.map_toArray, List.map_cons, List.map_nil]); first | done | (rw [show (l0_1.take (x71_3 : Int).toNat).length = x71_3.toNat from (by rw [List.length_take]; have h_ : (x71_3 : Int) ≤ (l0_1.length : Int) := DT; omega)] <;> rfl) | rfl | (simp only [List.length_drop, List.length_take]; rfl)) ?_; (with_reducible refine (spec_l1Has.calls k3 _ _ (l0_1.take (x71_3 : Int).toNat) (rd l0_1 x71_3) false _ ?side1 ?side2 A45.out).mono ?_); (case side1 => exact cb (Kd.C_below HR273.out HB.out)); (case side2 => exact HC273.out); rintro e w' ⟨rfl, ⟨nd, rfl⟩⟩; refine ⟨_, rfl, ?_⟩))
                            go_roundg k3
                            case measure => have := HJ1.out; have := HK2.out; have := HK3.out; omega
                            case rel => exact ⟨(wrap64 (x71_3 + 1)), EQ1, H', ⟨by have := HJ1.out; have := HK2.out; have := HK3.out; omega⟩, ⟨by (with_reducible repeat (first | refine blk_drewN ?_ _ | refine blk_drew ?_ | refine blk_alloc ?_ _)); exact BK259.out⟩, ⟨BA⟩⟩
                        · rw [if_neg c44] at H
                          exact absurd H (by simp)
                      · rw [if_neg c42] at H
                        exact absurd H (by simp)
                    · rw [if_neg c41] at H
                      exact absurd H (by simp)
                  · rw [if_neg c40] at H
                    have c40b0 := decide_eq_false c40
                    clear c40
                    obtain rfl := Option.some.inj H
                    go_wp2
                    go_ret
                    exact ⟨EQ, BA⟩

/-! ### spec_IsChoice: function 22 -/
def spec_IsChoice.f (k : Nat) (l0_0 : List ByteArray) (l0_1 : List Int) : Option (Bool) := (spec_suGood.f k l0_0 l0_1).bind fun t276 => (some t276)
theorem spec_IsChoice.mono : ∀ a0 a1 k, LeO (spec_IsChoice.f k a0 a1) (spec_IsChoice.f (k + 1) a0 a1) := by
  intro a0 a1 k
  unfold spec_IsChoice.f
  repeat' first | (with_reducible first | exact spec_suGood.mono _ _ _ | exact LeO.refl _ | exact LeO.none _ | refine LeO.ite ?_ ?_ | refine LeO.bind ?_ (fun _ => ?_)) | exact LeO.none _ | refine LeO.ite ?_ ?_ | refine LeO.bind ?_ (fun _ => ?_)
set_option maxHeartbeats 8000000 in
set_option maxRecDepth 100000 in
theorem spec_IsChoice.calls (k : Nat) (A0_0 : Option Addr) (c0_0 : Nat) (l0_0 : List ByteArray) (A0_1 : Option Addr) (c0_1 : Nat) (l0_1 : List Int) (r : Bool) (w : World) (hr0_0 : Kd.C Kd.string w A0_0 l0_0.length l0_0) (hc0_0 : l0_0.length ≤ c0_0) (hr0_1 : Kd.C (Kd.int .i64) w A0_1 l0_1.length l0_1) (hc0_1 : l0_1.length ≤ c0_1) (h : spec_IsChoice.f k l0_0 l0_1 = some r) :
    Calls Try.prog 22 #[.agg #[.slice A0_0 l0_0.length c0_0, .slice A0_1 l0_1.length c0_1]] w fun e w' => e = .returned (.bool r) ∧ Below w.heap.size w w' := by
  have hu39 := Try.underlying39
  have HR0_0 := Aside0.mk hr0_0
  have HC0_0 := Aside0.mk hc0_0
  clear hr0_0 hc0_0
  have HR0_1 := Aside0.mk hr0_1
  have HC0_1 := Aside0.mk hc0_1
  clear hr0_1 hc0_1
  have HB := Aside0.mk (Below.refl w.heap.size w)
  have H : ((spec_suGood.f k l0_0 l0_1).bind fun t276 => (some t276)) = some r := h
  clear h
  replace H := Option.bind_eq_some_iff.mp H
  obtain ⟨t276, A20, H⟩ := H
  replace H : (some t276) = some r := H
  have A2 := Aside0.mk A20
  clear A20
  obtain rfl := Option.some.inj H
  go_enter Try.func22, Try.ntmps22
  go_wp2_with (first | ((with_reducible refine gate_dst (N := 1) rfl ?_); refine box_event ?hg (N := 1) ?hd (cs := #[.slice A0_0 l0_0.length c0_0, .slice A0_1 l0_1.length c0_1]) (t := 39) ?hr ?_; (case hd => rfl); (case hg => rfl); (case hr => first | (go_simp; done) | (go_simp; rfl)); intro gb275 hg w3 hbox hb; have BK275 := Aside0.mk (hbox); have GW275 := Aside0.mk ((by rw [hg]; exact (below_size BA) : w.heap.size ≤ gb275)); have GE275 := Aside0.mk ((by rw [hg]; exact (below_size BA) : w.heap.size ≤ gb275)); replace HB := Aside0.mk (below_step BA hb); clear hb hbox hg; have hcz4_0 := bcv BK275.out 0 (.slice A0_0 l0_0.length c0_0); have hcz4_1 := bcv BK275.out 1 (.slice A0_1 l0_1.length c0_1); have hfz4 := blk_frozen BK275.out) | ((with_reducible refine gate_callee (f := 70) rfl ?_); refine gK (some 4) Try.func70 #[.agg #[.slice A0_0 l0_0.length c0_0, .slice A0_1 l0_1.length c0_1]] rfl rfl rfl ?_; (with_reducible refine (spec_suGood.calls k _ _ l0_0 _ _ l0_1 t276 _ ?side1 ?side2 ?side3 ?side4 A2.out).mono ?_); (case side1 => exact cb (Kd.C_below HR0_0.out HB.out)); (case side2 => exact HC0_0.out); (case side3 => exact cb (Kd.C_below HR0_1.out HB.out)); (case side4 => exact HC0_1.out); rintro e w5 ⟨rfl, hb⟩; refine ⟨_, rfl, ?_⟩; replace BK275 := Aside0.mk (blk_below (bk BK275.out) hb); replace HB := Aside0.mk (below_step BA hb); (try clear hb)))
  go_ret
  exact ⟨EQ, BA⟩

/-! ### laws_toStringS: function 71 -/
def laws_toStringS.l0 : Nat → List ByteArray → List ByteArray → Int → Option (List ByteArray)
  | 0, _, _, _ => none
  | k + 1, x0, x3, x4 => if x4 < (x0.length : Int) then (if 0 ≤ x4 then (if x4 < (x3.length : Int) then (laws_toStringS.l0 k x0 (x3.set (x4 : Int).toNat (rdOf ByteArray.empty x0 x4)) (wrap64 (x4 + 1))) else (none)) else (none)) else (some x3)
def laws_toStringS.f (k : Nat) (l0 : List ByteArray) : Option (List ByteArray) := if 0 ≤ (l0.length : Int) then (if ((l0.length : Int) : Int).toNat ≤ 17592186044416 then (laws_toStringS.l0 k l0 (List.replicate ((l0.length : Int) : Int).toNat (⟨#[]⟩ : ByteArray)) 0) else (none)) else (none)
theorem laws_toStringS.mono_l : ∀ k, (∀ y0 y1 y2, LeO (laws_toStringS.l0 k y0 y1 y2) (laws_toStringS.l0 (k + 1) y0 y1 y2))
  | 0 => fun _ _ _ r h => by simp [laws_toStringS.l0] at h
  | k + 1 => by
    have ih0 := laws_toStringS.mono_l k
    · intro y0 y1 y2
      unfold laws_toStringS.l0
      repeat' first | (with_reducible first | exact ih0 _ _ _ | exact LeO.refl _ | exact LeO.none _ | refine LeO.ite ?_ ?_ | refine LeO.bind ?_ (fun _ => ?_)) | exact LeO.none _ | refine LeO.ite ?_ ?_ | refine LeO.bind ?_ (fun _ => ?_)
theorem laws_toStringS.mono : ∀ a0 k, LeO (laws_toStringS.f k a0) (laws_toStringS.f (k + 1) a0) := by
  intro a0 k
  have ih0 := laws_toStringS.mono_l k
  unfold laws_toStringS.f
  repeat' first | (with_reducible first | exact ih0 _ _ _ | exact LeO.refl _ | exact LeO.none _ | refine LeO.ite ?_ ?_ | refine LeO.bind ?_ (fun _ => ?_)) | exact LeO.none _ | refine LeO.ite ?_ ?_ | refine LeO.bind ?_ (fun _ => ?_)
set_option maxHeartbeats 8000000 in
set_option maxRecDepth 100000 in
theorem laws_toStringS.calls (k : Nat) (A0 : Option Addr) (c0 : Nat) (l0 : List ByteArray) (r : List ByteArray) (w : World) (hr0 : Kd.C Kd.string w A0 l0.length l0) (hc0 : l0.length ≤ c0) (h : laws_toStringS.f k l0 = some r) :
    Calls Try.prog 71 #[.slice A0 l0.length c0] w fun e w' => ∃ v0_ : Value, e = .returned (v0_) ∧ Kd.R Kd.string 9 w' w.heap.size (fun _ => True) v0_ r ∧ Below w.heap.size w w' := by
  have HR0 := Aside0.mk hr0
  have HC0 := Aside0.mk hc0
  clear hr0 hc0
  have HB := Aside0.mk (Below.refl w.heap.size w)
  have H : (if 0 ≤ (l0.length : Int) then (if ((l0.length : Int) : Int).toNat ≤ 17592186044416 then (laws_toStringS.l0 k l0 (List.replicate ((l0.length : Int) : Int).toNat (⟨#[]⟩ : ByteArray)) 0) else (none)) else (none)) = some r := h
  clear h
  by_cases c2 : 0 ≤ (l0.length : Int)
  · rw [if_pos c2] at H
    have c2b0 := eq_true c2
    have c2b1 := decide_eq_true c2
    clear c2
    by_cases c3 : ((l0.length : Int) : Int).toNat ≤ 17592186044416
    · rw [if_pos c3] at H
      have c3b0 := eq_true c3
      have c3b1 := decide_eq_true c3
      clear c3
      obtain ⟨y277, hy277⟩ : ∃ y_ : List ByteArray, y_ = (List.replicate ((l0.length : Int) : Int).toNat (⟨#[]⟩ : ByteArray)) := ⟨_, rfl⟩
      replace H : (laws_toStringS.l0 k l0 y277 0) = some r := by first | (rw [hy277]; with_reducible exact H) | (have H2_ := (Option.bind_some _ _).symm.trans H; rw [hy277]; with_reducible exact H2_) | (have H2_ := (Option.bind_some _ _).symm.trans H; with_reducible exact H2_) | with_reducible exact H | (rw [hy277]; exact H) | exact H
      have Ny277 := Aside0.mk hy277
      clear hy277
      have H' := Aside0.mk H
      clear H
      go_enter Try.func71, Try.ntmps71
      go_wp2_with (first | ((with_reducible refine gate_dst (N := 7) rfl ?_); refine Kd.R_make Kd.string _ 9 rfl (N := 7) rfl 33 _ _ rfl (l0.length : Int) rfl rfl Try.underlying33 (.string ⟨#[]⟩) 16 info9 rfl (by decide) (by omega) (⟨#[]⟩ : ByteArray) (ok := fun _ => True) (okp := fun _ => True) rfl (fun _ hk => hk) trivial DT (Nat.le_trans (Nat.mul_le_mul_right _ (DT : (l0.length : Int).toNat ≤ 17592186044416)) (by omega)) (Below.refl _ _) (Nat.le_refl _) ?_; intro v278 w4 ho5 hb hg_ hnew_; clear hg_ hnew_; (first | rw [← Ny277.out] at ho5 | (simp only [Int.reduceToNat] at ho5; rw [← Ny277.out] at ho5)); have HO279 := Aside0.mk (Kd.R_lower ho5 (below_size BA)); replace HB := Aside0.mk (below_step BA hb); clear hb ho5))
      go_loopg [4] k (fun kq v4 w' => ∃ (x3_1 : List ByteArray) (x4_1 : Int), v4 = .int .i64 x4_1 ∧ Aside0 (laws_toStringS.l0 kq l0 x3_1 x4_1 = some r) ∧ Aside0 (kq ≤ k) ∧ Aside0 (Kd.R Kd.string 9 w' w.heap.size (fun _ => True) v278 x3_1) ∧ Aside0 (Below w.heap.size w w'))
      case atStart => exact ⟨(y277), (0), EQ1, H', ⟨Nat.le_refl _⟩, ⟨by (with_reducible repeat (first | apply Kd.R_alloc | apply Kd.R_drewN | apply Kd.R_drew)); exact HO279.out⟩, ⟨BA⟩⟩
      case round =>
        clear H'
        (try clear c2); (try clear c2b0); (try clear c2b1); (try clear p2); (try clear c3); (try clear c3b0); (try clear c3b1)
        obtain ⟨x3_1, x4_1, rfl, HA, HK1, HO_3, HB⟩ := hrel
        cases gk with
        | zero => exact absurd HA.out (by simp [laws_toStringS.l0])
        | succ k1 =>
          have H := HA.out
          clear HA
          simp only [laws_toStringS.l0] at H
          by_cases c6 : x4_1 < (l0.length : Int)
          · rw [if_pos c6] at H
            have c6b0 := decide_eq_true c6
            clear c6
            by_cases c7 : 0 ≤ x4_1
            · rw [if_pos c7] at H
              have c7b0 := decide_eq_true c7
              clear c7
              by_cases c8 : x4_1 < (x3_1.length : Int)
              · rw [if_pos c8] at H
                have c8b0 := decide_eq_true c8
                clear c8
                obtain ⟨y281, hy281⟩ : ∃ y_ : List ByteArray, y_ = (x3_1.set (x4_1 : Int).toNat (rdOf ByteArray.empty l0 x4_1)) := ⟨_, rfl⟩
                replace H : (laws_toStringS.l0 k1 l0 y281 (wrap64 (x4_1 + 1))) = some r := by first | (rw [hy281]; with_reducible exact H) | (have H2_ := (Option.bind_some _ _).symm.trans H; rw [hy281]; with_reducible exact H2_) | (have H2_ := (Option.bind_some _ _).symm.trans H; with_reducible exact H2_) | with_reducible exact H | (rw [hy281]; exact H) | exact H
                have Ny281 := Aside0.mk hy281
                clear hy281
                have H' := Aside0.mk H
                clear H
                have p280 : 0 ≤ (x4_1 : Int) := DT
                have q280 : x4_1 < (l0.length : Int) := DT
                obtain ⟨ad280, e280, hx280_0⟩ := Kd.at_string HR0.out x4_1 p280 q280
                cases e280
                replace hx280_0 := (HB.out.cell (World.block_lt_of_cell? w _ hx280_0)).trans hx280_0
                replace p280 := eq_true p280
                replace q280 := eq_true q280
                have p9 : 0 ≤ (x4_1 : Int) := DT
                have q9 : (x4_1 : Int) < ((x3_1.length : Int) : Int) := DT
                obtain ⟨go9, co9, eo9, gb9, gl9, cl9, HG9⟩ := Kd.R_form HO_3.out (by omega)
                (first | cases eo9 | (injection eo9 with ea_ en_ ec_; (first | subst ea_ | (injection ea_ with ea_; subst ea_)); subst ec_; clear en_))
                have GB9 := Aside0.mk gb9
                have GG9 := Aside0.mk HG9
                clear gb9 gl9 HG9
                obtain ⟨hx9_0, hf9_0⟩ := Kd.R_celln (⟨#[]⟩ : ByteArray) HO_3.out (x4_1 : Int) p9 q9
                replace p9 := eq_true p9
                replace q9 := eq_true q9
                have HP10 := Kd.R_putg HO_3.out (x4_1 : Int) (rdOf ByteArray.empty l0 x4_1)
                go_wp2_with (first | ((with_reducible refine gate_store (t := 9) (p := 20) rfl ?_); refine store_event (t := 9) (p := 20) (v := ?vo_w11) (w1 := (wr.setCell ⟨go9, (x4_1 : Int).toNat, none⟩ (.string (rdOf ByteArray.empty l0 x4_1)))) ?hg ?ho ?hn ?hr ?_; (case ho => rfl); (case hg => rfl); (case hn => rfl); (case hr => first | (go_simp; done) | (go_simp; rfl)); intro w11 hw; have hg : wr.grownBy w11 (some go9) := (by rw [hw]; exact HP10.2); have hp_ : Kd.R Kd.string 9 w11 w.heap.size (fun _ => True) (.slice (some ⟨go9, 0, none⟩) x3_1.length co9) y281 := (by rw [hw, Ny281.out]; exact HP10.1); clear HP10; replace HO_3 := Aside0.mk (hp_); replace HB := Aside0.mk ((by rw [hw]; exact below_set (HB.out) GB9.out : Below w.heap.size w w11)); clear hg hw hp_))
                go_roundg k1
                case measure => have := HK1.out; omega
                case rel => exact ⟨(y281), (wrap64 (x4_1 + 1)), EQ1, H', ⟨by have := HK1.out; omega⟩, ⟨by (with_reducible repeat (first | apply Kd.R_alloc | apply Kd.R_drewN | apply Kd.R_drew)); exact HO_3.out⟩, ⟨BA⟩⟩
              · rw [if_neg c8] at H
                exact absurd H (by simp)
            · rw [if_neg c7] at H
              exact absurd H (by simp)
          · rw [if_neg c6] at H
            have c6b0 := decide_eq_false c6
            clear c6
            obtain rfl := Option.some.inj H
            go_wp2
            go_ret
            exact ⟨_, EQ, by (with_reducible repeat (first | apply Kd.R_alloc | apply Kd.R_drewN | apply Kd.R_drew)); exact HO_3.out, BA⟩
    · rw [if_neg c3] at H
      exact absurd H (by simp)
  · rw [if_neg c2] at H
    exact absurd H (by simp)

/-! ### laws_toIntS: function 72 -/
def laws_toIntS.l0 : Nat → List Int → List Int → Int → Option (List Int)
  | 0, _, _, _ => none
  | k + 1, x0, x3, x4 => if x4 < (x0.length : Int) then (if 0 ≤ x4 then (if x4 < (x3.length : Int) then (laws_toIntS.l0 k x0 (x3.set (x4 : Int).toNat (rd x0 x4)) (wrap64 (x4 + 1))) else (none)) else (none)) else (some x3)
def laws_toIntS.f (k : Nat) (l0 : List Int) : Option (List Int) := if 0 ≤ (l0.length : Int) then (if ((l0.length : Int) : Int).toNat ≤ 35184372088832 then (laws_toIntS.l0 k l0 (List.replicate ((l0.length : Int) : Int).toNat 0) 0) else (none)) else (none)
theorem laws_toIntS.mono_l : ∀ k, (∀ y0 y1 y2, LeO (laws_toIntS.l0 k y0 y1 y2) (laws_toIntS.l0 (k + 1) y0 y1 y2))
  | 0 => fun _ _ _ r h => by simp [laws_toIntS.l0] at h
  | k + 1 => by
    have ih0 := laws_toIntS.mono_l k
    · intro y0 y1 y2
      unfold laws_toIntS.l0
      repeat' first | (with_reducible first | exact ih0 _ _ _ | exact LeO.refl _ | exact LeO.none _ | refine LeO.ite ?_ ?_ | refine LeO.bind ?_ (fun _ => ?_)) | exact LeO.none _ | refine LeO.ite ?_ ?_ | refine LeO.bind ?_ (fun _ => ?_)
theorem laws_toIntS.mono : ∀ a0 k, LeO (laws_toIntS.f k a0) (laws_toIntS.f (k + 1) a0) := by
  intro a0 k
  have ih0 := laws_toIntS.mono_l k
  unfold laws_toIntS.f
  repeat' first | (with_reducible first | exact ih0 _ _ _ | exact LeO.refl _ | exact LeO.none _ | refine LeO.ite ?_ ?_ | refine LeO.bind ?_ (fun _ => ?_)) | exact LeO.none _ | refine LeO.ite ?_ ?_ | refine LeO.bind ?_ (fun _ => ?_)
set_option maxHeartbeats 8000000 in
set_option maxRecDepth 100000 in
theorem laws_toIntS.calls (k : Nat) (A0 : Option Addr) (c0 : Nat) (l0 : List Int) (r : List Int) (w : World) (hr0 : Kd.C (Kd.int .i64) w A0 l0.length l0) (hc0 : l0.length ≤ c0) (h : laws_toIntS.f k l0 = some r) :
    Calls Try.prog 72 #[.slice A0 l0.length c0] w fun e w' => ∃ v0_ : Value, e = .returned (v0_) ∧ Kd.R (Kd.int .i64) 3 w' w.heap.size (fun _ => True) v0_ r ∧ Below w.heap.size w w' := by
  have HR0 := Aside0.mk hr0
  have HC0 := Aside0.mk hc0
  clear hr0 hc0
  have HB := Aside0.mk (Below.refl w.heap.size w)
  have H : (if 0 ≤ (l0.length : Int) then (if ((l0.length : Int) : Int).toNat ≤ 35184372088832 then (laws_toIntS.l0 k l0 (List.replicate ((l0.length : Int) : Int).toNat 0) 0) else (none)) else (none)) = some r := h
  clear h
  by_cases c2 : 0 ≤ (l0.length : Int)
  · rw [if_pos c2] at H
    have c2b0 := eq_true c2
    have c2b1 := decide_eq_true c2
    clear c2
    by_cases c3 : ((l0.length : Int) : Int).toNat ≤ 35184372088832
    · rw [if_pos c3] at H
      have c3b0 := eq_true c3
      have c3b1 := decide_eq_true c3
      clear c3
      obtain ⟨y282, hy282⟩ : ∃ y_ : List Int, y_ = (List.replicate ((l0.length : Int) : Int).toNat 0) := ⟨_, rfl⟩
      replace H : (laws_toIntS.l0 k l0 y282 0) = some r := by first | (rw [hy282]; with_reducible exact H) | (have H2_ := (Option.bind_some _ _).symm.trans H; rw [hy282]; with_reducible exact H2_) | (have H2_ := (Option.bind_some _ _).symm.trans H; with_reducible exact H2_) | with_reducible exact H | (rw [hy282]; exact H) | exact H
      have Ny282 := Aside0.mk hy282
      clear hy282
      have H' := Aside0.mk H
      clear H
      go_enter Try.func72, Try.ntmps72
      go_wp2_with (first | ((with_reducible refine gate_dst (N := 7) rfl ?_); refine Kd.R_make (Kd.int .i64) _ 3 rfl (N := 7) rfl 34 _ _ rfl (l0.length : Int) rfl rfl Try.underlying34 (.int .i64 0) 8 info3 rfl (by decide) (by omega) 0 (ok := fun _ => True) (okp := fun _ => True) rfl (fun _ hk => hk) trivial DT (Nat.le_trans (Nat.mul_le_mul_right _ (DT : (l0.length : Int).toNat ≤ 35184372088832)) (by omega)) (Below.refl _ _) (Nat.le_refl _) ?_; intro v283 w4 ho5 hb hg_ hnew_; clear hg_ hnew_; (first | rw [← Ny282.out] at ho5 | (simp only [Int.reduceToNat] at ho5; rw [← Ny282.out] at ho5)); have HO284 := Aside0.mk (Kd.R_lower ho5 (below_size BA)); replace HB := Aside0.mk (below_step BA hb); clear hb ho5))
      go_loopg [4] k (fun kq v4 w' => ∃ (x3_1 : List Int) (x4_1 : Int), v4 = .int .i64 x4_1 ∧ Aside0 (laws_toIntS.l0 kq l0 x3_1 x4_1 = some r) ∧ Aside0 (kq ≤ k) ∧ Aside0 (Kd.R (Kd.int .i64) 3 w' w.heap.size (fun _ => True) v283 x3_1) ∧ Aside0 (Below w.heap.size w w'))
      case atStart => exact ⟨(y282), (0), EQ1, H', ⟨Nat.le_refl _⟩, ⟨by (with_reducible repeat (first | apply Kd.R_alloc | apply Kd.R_drewN | apply Kd.R_drew)); exact HO284.out⟩, ⟨BA⟩⟩
      case round =>
        clear H'
        (try clear c2); (try clear c2b0); (try clear c2b1); (try clear p2); (try clear c3); (try clear c3b0); (try clear c3b1)
        obtain ⟨x3_1, x4_1, rfl, HA, HK1, HO_3, HB⟩ := hrel
        cases gk with
        | zero => exact absurd HA.out (by simp [laws_toIntS.l0])
        | succ k1 =>
          have H := HA.out
          clear HA
          simp only [laws_toIntS.l0] at H
          by_cases c6 : x4_1 < (l0.length : Int)
          · rw [if_pos c6] at H
            have c6b0 := decide_eq_true c6
            clear c6
            by_cases c7 : 0 ≤ x4_1
            · rw [if_pos c7] at H
              have c7b0 := decide_eq_true c7
              clear c7
              by_cases c8 : x4_1 < (x3_1.length : Int)
              · rw [if_pos c8] at H
                have c8b0 := decide_eq_true c8
                clear c8
                obtain ⟨y286, hy286⟩ : ∃ y_ : List Int, y_ = (x3_1.set (x4_1 : Int).toNat (rd l0 x4_1)) := ⟨_, rfl⟩
                replace H : (laws_toIntS.l0 k1 l0 y286 (wrap64 (x4_1 + 1))) = some r := by first | (rw [hy286]; with_reducible exact H) | (have H2_ := (Option.bind_some _ _).symm.trans H; rw [hy286]; with_reducible exact H2_) | (have H2_ := (Option.bind_some _ _).symm.trans H; with_reducible exact H2_) | with_reducible exact H | (rw [hy286]; exact H) | exact H
                have Ny286 := Aside0.mk hy286
                clear hy286
                have H' := Aside0.mk H
                clear H
                have p285 : 0 ≤ (x4_1 : Int) := DT
                have q285 : x4_1 < (l0.length : Int) := DT
                obtain ⟨ad285, e285, hx285_0⟩ := Kd.at_int HR0.out x4_1 p285 q285
                cases e285
                replace hx285_0 := (HB.out.cell (World.block_lt_of_cell? w _ hx285_0)).trans hx285_0
                replace p285 := eq_true p285
                replace q285 := eq_true q285
                have p9 : 0 ≤ (x4_1 : Int) := DT
                have q9 : (x4_1 : Int) < ((x3_1.length : Int) : Int) := DT
                obtain ⟨go9, co9, eo9, gb9, gl9, cl9, HG9⟩ := Kd.R_form HO_3.out (by omega)
                (first | cases eo9 | (injection eo9 with ea_ en_ ec_; (first | subst ea_ | (injection ea_ with ea_; subst ea_)); subst ec_; clear en_))
                have GB9 := Aside0.mk gb9
                have GG9 := Aside0.mk HG9
                clear gb9 gl9 HG9
                obtain ⟨hx9_0, hf9_0⟩ := Kd.R_celln 0 HO_3.out (x4_1 : Int) p9 q9
                replace p9 := eq_true p9
                replace q9 := eq_true q9
                have HP10 := Kd.R_putg HO_3.out (x4_1 : Int) (rd l0 x4_1)
                go_wp2_with (first | ((with_reducible refine gate_store (t := 3) (p := 20) rfl ?_); refine store_event (t := 3) (p := 20) (v := ?vo_w11) (w1 := (wr.setCell ⟨go9, (x4_1 : Int).toNat, none⟩ (.int .i64 (rd l0 x4_1)))) ?hg ?ho ?hn ?hr ?_; (case ho => rfl); (case hg => rfl); (case hn => rfl); (case hr => first | (go_simp; done) | (go_simp; rfl)); intro w11 hw; have hg : wr.grownBy w11 (some go9) := (by rw [hw]; exact HP10.2); have hp_ : Kd.R (Kd.int .i64) 3 w11 w.heap.size (fun _ => True) (.slice (some ⟨go9, 0, none⟩) x3_1.length co9) y286 := (by rw [hw, Ny286.out]; exact HP10.1); clear HP10; replace HO_3 := Aside0.mk (hp_); replace HB := Aside0.mk ((by rw [hw]; exact below_set (HB.out) GB9.out : Below w.heap.size w w11)); clear hg hw hp_))
                go_roundg k1
                case measure => have := HK1.out; omega
                case rel => exact ⟨(y286), (wrap64 (x4_1 + 1)), EQ1, H', ⟨by have := HK1.out; omega⟩, ⟨by (with_reducible repeat (first | apply Kd.R_alloc | apply Kd.R_drewN | apply Kd.R_drew)); exact HO_3.out⟩, ⟨BA⟩⟩
              · rw [if_neg c8] at H
                exact absurd H (by simp)
            · rw [if_neg c7] at H
              exact absurd H (by simp)
          · rw [if_neg c6] at H
            have c6b0 := decide_eq_false c6
            clear c6
            obtain rfl := Option.some.inj H
            go_wp2
            go_ret
            exact ⟨_, EQ, by (with_reducible repeat (first | apply Kd.R_alloc | apply Kd.R_drewN | apply Kd.R_drew)); exact HO_3.out, BA⟩
    · rw [if_neg c3] at H
      exact absurd H (by simp)
  · rw [if_neg c2] at H
    exact absurd H (by simp)

/-! ### laws_toChoice: function 23 -/
def laws_toChoice.f (k : Nat) (l0_0 : List ByteArray) (l0_1 : List Int) : Option (List ByteArray × List Int) := (laws_toStringS.f k l0_0).bind fun t290 => ((laws_toIntS.f k l0_1).bind fun t293 => (some (t290, t293)))
theorem laws_toChoice.mono : ∀ a0 a1 k, LeO (laws_toChoice.f k a0 a1) (laws_toChoice.f (k + 1) a0 a1) := by
  intro a0 a1 k
  unfold laws_toChoice.f
  repeat' first | (with_reducible first | exact laws_toIntS.mono _ _ | exact laws_toStringS.mono _ _ | exact LeO.refl _ | exact LeO.none _ | refine LeO.ite ?_ ?_ | refine LeO.bind ?_ (fun _ => ?_)) | exact LeO.none _ | refine LeO.ite ?_ ?_ | refine LeO.bind ?_ (fun _ => ?_)
set_option maxHeartbeats 8000000 in
set_option maxRecDepth 100000 in
theorem laws_toChoice.calls (k : Nat) (A0_0 : Option Addr) (c0_0 : Nat) (l0_0 : List ByteArray) (A0_1 : Option Addr) (c0_1 : Nat) (l0_1 : List Int) (r1 : List ByteArray) (r2 : List Int) (w : World) (hr0_0 : Kd.C Kd.string w A0_0 l0_0.length l0_0) (hc0_0 : l0_0.length ≤ c0_0) (hr0_1 : Kd.C (Kd.int .i64) w A0_1 l0_1.length l0_1) (hc0_1 : l0_1.length ≤ c0_1) (h : laws_toChoice.f k l0_0 l0_1 = some (r1, r2)) :
    Calls Try.prog 23 #[.agg #[.slice A0_0 l0_0.length c0_0, .slice A0_1 l0_1.length c0_1]] w fun e w' => ∃ v0_ v1_ : Value, e = .returned (.agg #[v0_, v1_]) ∧ Kd.R Kd.string 9 w' w.heap.size (fun _ => True) v0_ r1 ∧ Kd.R (Kd.int .i64) 3 w' w.heap.size (fun _ => True) v1_ r2 ∧ Below w.heap.size w w' := by
  have hu36 := Try.underlying36
  have hu39 := Try.underlying39
  have HR0_0 := Aside0.mk hr0_0
  have HC0_0 := Aside0.mk hc0_0
  clear hr0_0 hc0_0
  have HR0_1 := Aside0.mk hr0_1
  have HC0_1 := Aside0.mk hc0_1
  clear hr0_1 hc0_1
  have HB := Aside0.mk (Below.refl w.heap.size w)
  have H : ((laws_toStringS.f k l0_0).bind fun t290 => ((laws_toIntS.f k l0_1).bind fun t293 => (some (t290, t293)))) = some (r1, r2) := h
  clear h
  replace H := Option.bind_eq_some_iff.mp H
  obtain ⟨t290, A20, H⟩ := H
  replace H : ((laws_toIntS.f k l0_1).bind fun t293 => (some (t290, t293))) = some (r1, r2) := H
  have A2 := Aside0.mk A20
  clear A20
  replace H := Option.bind_eq_some_iff.mp H
  obtain ⟨t293, A30, H⟩ := H
  replace H : (some (t290, t293)) = some (r1, r2) := H
  have A3 := Aside0.mk A30
  clear A30
  simp only [Option.some.injEq, Prod.mk.injEq] at H
  obtain ⟨rfl, rfl⟩ := H
  go_enter Try.func23, Try.ntmps23
  go_wp2_with (first | ((with_reducible refine gate_dst (N := 1) rfl ?_); refine box_event ?hg (N := 1) ?hd (cs := #[.slice A0_0 l0_0.length c0_0, .slice A0_1 l0_1.length c0_1]) (t := 36) ?hr ?_; (case hd => rfl); (case hg => rfl); (case hr => first | (go_simp; done) | (go_simp; rfl)); intro gb287 hg w4 hbox hb; have BK287 := Aside0.mk (hbox); have GW287 := Aside0.mk ((by rw [hg]; exact (below_size BA) : w.heap.size ≤ gb287)); have GE287 := Aside0.mk ((by rw [hg]; exact (below_size BA) : w.heap.size ≤ gb287)); replace HB := Aside0.mk (below_step BA hb); clear hb hbox hg) | ((with_reducible refine gate_dst (N := 2) rfl ?_); refine box_event ?hg (N := 2) ?hd (cs := #[.slice none 0 0, .slice none 0 0]) (t := 39) ?hr ?_; (case hd => rfl); (case hg => rfl); (case hr => first | (go_simp; done) | (go_simp; rfl)); intro gb288 hg w5 hbox hb; have BK288 := Aside0.mk (hbox); have GW288 := Aside0.mk ((by rw [hg]; exact (below_size BA) : w.heap.size ≤ gb288)); have GE288 := Aside0.mk ((by rw [hg]; exact (below_size BA) : w.heap.size ≤ gb288)); replace HB := Aside0.mk (below_step BA hb); have NB287_288 := Aside0.mk ((by rw [hg]; exact Nat.ne_of_lt (blk_lt (g := gb287) (o := .cells #[.slice A0_0 l0_0.length c0_0, .slice A0_1 l0_1.length c0_1] 36 (0, 0)) (bk BK287.out)) : gb287 ≠ gb288)); have NB288_287 := Aside0.mk ((by rw [hg]; exact Nat.ne_of_gt (blk_lt (g := gb287) (o := .cells #[.slice A0_0 l0_0.length c0_0, .slice A0_1 l0_1.length c0_1] 36 (0, 0)) (bk BK287.out)) : gb288 ≠ gb287)); replace BK287 := Aside0.mk (blk_below (bk BK287.out) hb); clear hb hbox hg) | ((with_reducible refine gate_dst (N := 3) rfl ?_); refine box_event ?hg (N := 3) ?hd (cs := #[.slice none 0 0, .slice none 0 0]) (t := 39) ?hr ?_; (case hd => rfl); (case hg => rfl); (case hr => first | (go_simp; done) | (go_simp; rfl)); intro gb289 hg w6 hbox hb; have BK289 := Aside0.mk (hbox); have GW289 := Aside0.mk ((by rw [hg]; exact (below_size BA) : w.heap.size ≤ gb289)); have GE289 := Aside0.mk ((by rw [hg]; exact (below_size BA) : w.heap.size ≤ gb289)); replace HB := Aside0.mk (below_step BA hb); have NB287_289 := Aside0.mk ((by rw [hg]; exact Nat.ne_of_lt (blk_lt (g := gb287) (o := .cells #[.slice A0_0 l0_0.length c0_0, .slice A0_1 l0_1.length c0_1] 36 (0, 0)) (bk BK287.out)) : gb287 ≠ gb289)); have NB289_287 := Aside0.mk ((by rw [hg]; exact Nat.ne_of_gt (blk_lt (g := gb287) (o := .cells #[.slice A0_0 l0_0.length c0_0, .slice A0_1 l0_1.length c0_1] 36 (0, 0)) (bk BK287.out)) : gb289 ≠ gb287)); replace BK287 := Aside0.mk (blk_below (bk BK287.out) hb); have NB288_289 := Aside0.mk ((by rw [hg]; exact Nat.ne_of_lt (blk_lt (g := gb288) (o := .cells #[.slice none 0 0, .slice none 0 0] 39 (0, 0)) (bk BK288.out)) : gb288 ≠ gb289)); have NB289_288 := Aside0.mk ((by rw [hg]; exact Nat.ne_of_gt (blk_lt (g := gb288) (o := .cells #[.slice none 0 0, .slice none 0 0] 39 (0, 0)) (bk BK288.out)) : gb289 ≠ gb288)); replace BK288 := Aside0.mk (blk_below (bk BK288.out) hb); clear hb hbox hg; have hnb7 := NB287_288.out; have hnc7 := NB288_287.out; have hnb8 := NB287_289.out; have hnc8 := NB289_287.out; have hcz9_0 := bcv BK287.out 0 (.slice A0_0 l0_0.length c0_0); have hcz9_1 := bcv BK287.out 1 (.slice A0_1 l0_1.length c0_1); have hfz9 := blk_frozen BK287.out) | ((with_reducible refine gate_callee (f := 71) rfl ?_); refine gK (some 6) Try.func71 #[.slice A0_0 l0_0.length c0_0] rfl rfl rfl ?_; (with_reducible refine (laws_toStringS.calls k _ _ l0_0 t290 _ ?side1 ?side2 A2.out).mono ?_); (case side1 => exact cb (Kd.C_below HR0_0.out HB.out)); (case side2 => exact HC0_0.out); rintro e w10 ⟨v291, rfl, ho0, hb⟩; refine ⟨_, rfl, ?_⟩; have HO292 := Aside0.mk (Kd.R_lower ho0 (below_size BA)); replace BK287 := Aside0.mk (blk_below (bk BK287.out) hb); replace BK288 := Aside0.mk (blk_below (bk BK288.out) hb); replace BK289 := Aside0.mk (blk_below (bk BK289.out) hb); replace HB := Aside0.mk (below_step BA hb); (try clear hb); (try clear ho0); obtain ⟨Ao11, co11, eo11⟩ := Kd.R_slice HO292.out; subst eo11; have hnb12 := NB289_288.out; have hnc12 := NB288_289.out; have hcz13_0 := bcv BK289.out 0 (.slice none 0 0); have hcz13_1 := bcv BK289.out 1 (.slice none 0 0); have hfz13 := blk_frozen BK289.out; have hcz14_0 := bcv BK287.out 0 (.slice A0_0 l0_0.length c0_0); have hcz14_1 := bcv BK287.out 1 (.slice A0_1 l0_1.length c0_1); have hfz14 := blk_frozen BK287.out) | ((with_reducible refine gate_callee (f := 72) rfl ?_); refine gK (some 10) Try.func72 #[.slice A0_1 l0_1.length c0_1] rfl rfl rfl ?_; (with_reducible refine (laws_toIntS.calls k _ _ l0_1 t293 _ ?side1 ?side2 A3.out).mono ?_); (case side1 => exact Kd.C_below HR0_1.out BA); (case side2 => exact HC0_1.out); rintro e w15 ⟨v294, rfl, ho0, hb⟩; refine ⟨_, rfl, ?_⟩; replace HO292 := Aside0.mk (Kd.R_below (by (with_reducible repeat (first | apply Kd.R_alloc | apply Kd.R_drewN | apply Kd.R_drew)); exact (Kd.R_mono (Kd.R_far (p := ⟨gb289, 0, none⟩) (Kd.R_types HO292.out BK289.out (by decide)) (fun _ hk => hk.2) (.slice Ao11 t290.length co11)) (fun _ h_ => h_.1))) hb); have HO295 := Aside0.mk (Kd.R_lower ho0 (below_size BA)); replace BK287 := Aside0.mk (blk_below (g := gb287) (o := .cells #[.slice A0_0 l0_0.length c0_0, .slice A0_1 l0_1.length c0_1] 36 (0, 0)) (by (with_reducible repeat (first | refine blk_drewN ?_ _ | refine blk_drew ?_ | refine blk_alloc ?_ _)); refine blk_far ?_ NB287_289.out _; (with_reducible repeat (first | refine blk_drewN ?_ _ | refine blk_drew ?_ | refine blk_alloc ?_ _)); exact BK287.out) hb); replace BK288 := Aside0.mk (blk_below (g := gb288) (o := .cells #[.slice none 0 0, .slice none 0 0] 39 (0, 0)) (by (with_reducible repeat (first | refine blk_drewN ?_ _ | refine blk_drew ?_ | refine blk_alloc ?_ _)); refine blk_far ?_ NB288_289.out _; (with_reducible repeat (first | refine blk_drewN ?_ _ | refine blk_drew ?_ | refine blk_alloc ?_ _)); exact BK288.out) hb); replace BK289 := Aside0.mk (blk_below (g := gb289) (o := .cells #[.slice Ao11 t290.length co11, .slice none 0 0] 39 (0, 0)) (by (with_reducible repeat (first | refine blk_drewN ?_ _ | refine blk_drew ?_ | refine blk_alloc ?_ _)); refine blk_put (cs := #[.slice none 0 0, .slice none 0 0]) ?_ 0 _ rfl; (with_reducible repeat (first | refine blk_drewN ?_ _ | refine blk_drew ?_ | refine blk_alloc ?_ _)); exact BK289.out) hb); replace HB := Aside0.mk (below_step BA hb); (try clear hb); (try clear ho0); obtain ⟨Ao16, co16, eo16⟩ := Kd.R_slice HO295.out; subst eo16; have hcz17_0 := bcv BK289.out 0 (.slice Ao11 t290.length co11); have hcz17_1 := bcv BK289.out 1 (.slice none 0 0); have hfz17 := blk_frozen BK289.out; have hcz18_0 := bcv BK288.out 0 (.slice none 0 0); have hcz18_1 := bcv BK288.out 1 (.slice none 0 0); have hfz18 := blk_frozen BK288.out))
  refine bodyPost_ret (results_cell_row rfl _ _ gb288 39 #[.slice Ao11 t290.length co11, .slice Ao16 t293.length co16] (0, 0) _ rfl (by (with_reducible repeat (first | refine blk_drewN ?_ _ | refine blk_drew ?_ | refine blk_alloc ?_ _)); refine blk_put (cs := #[.slice Ao11 t290.length co11, .slice none 0 0]) ?_ 1 _ rfl; (with_reducible repeat (first | refine blk_drewN ?_ _ | refine blk_drew ?_ | refine blk_alloc ?_ _)); refine blk_put (cs := #[.slice none 0 0, .slice none 0 0]) ?_ 0 _ rfl; (with_reducible repeat (first | refine blk_drewN ?_ _ | refine blk_drew ?_ | refine blk_alloc ?_ _)); refine blk_far ?_ NB288_289.out _; (with_reducible repeat (first | refine blk_drewN ?_ _ | refine blk_drew ?_ | refine blk_alloc ?_ _)); exact BK288.out) Try.underlying39 rfl (by kernel_rfl)) rfl ?_
  exact ⟨_, _, EQ, by (with_reducible repeat (first | apply Kd.R_alloc | apply Kd.R_drewN | apply Kd.R_drew)); exact Kd.R_mono (Kd.R_far (p := ⟨gb288, 1, none⟩) (Kd.R_far (p := ⟨gb288, 0, none⟩) (Kd.R_far (p := ⟨gb289, 1, none⟩) (Kd.R_types (Kd.R_types HO292.out BK289.out (by decide)) BK288.out (by decide)) (fun _ hk => hk.1.2) (.slice Ao16 t293.length co16)) (fun _ hk => hk.2) (.slice Ao11 t290.length co11)) (fun _ hk => hk.2) (.slice Ao16 t293.length co16)) (fun _ hk => trivial), by (with_reducible repeat (first | apply Kd.R_alloc | apply Kd.R_drewN | apply Kd.R_drew)); exact Kd.R_mono (Kd.R_far (p := ⟨gb288, 1, none⟩) (Kd.R_far (p := ⟨gb288, 0, none⟩) (Kd.R_far (p := ⟨gb289, 1, none⟩) (Kd.R_types (Kd.R_types HO295.out BK289.out (by decide)) BK288.out (by decide)) (fun _ hk => hk.1.2) (.slice Ao16 t293.length co16)) (fun _ hk => hk.2) (.slice Ao11 t290.length co11)) (fun _ hk => hk.2) (.slice Ao16 t293.length co16)) (fun _ hk => trivial), BA⟩

/-! ### impl_areDifferent_string: function 74 -/
def impl_areDifferent_string.l0 : Nat → List ByteArray → List ByteArray → Int → Int → Option (Bool)
  | 0, _, _, _, _ => none
  | k + 1, x0, x5, x6, x7 => if x7 < x6 then (if 0 ≤ x7 then (if x7 < (x5.length : Int) then (if x7 ≤ (x0.length : Int) then ((slices_Contains_string_string.f k (x0.take (x7 : Int).toNat) (rdOf ByteArray.empty x5 x7)).bind fun t298 => (if t298 = true then (some false) else (impl_areDifferent_string.l0 k x0 x5 x6 (wrap64 (x7 + 1))))) else (none)) else (none)) else (none)) else (some true)
def impl_areDifferent_string.f (k : Nat) (l0 : List ByteArray) : Option (Bool) := impl_areDifferent_string.l0 k l0 l0 (l0.length : Int) 0
theorem impl_areDifferent_string.mono_l : ∀ k, (∀ y0 y1 y2 y3, LeO (impl_areDifferent_string.l0 k y0 y1 y2 y3) (impl_areDifferent_string.l0 (k + 1) y0 y1 y2 y3))
  | 0 => fun _ _ _ _ r h => by simp [impl_areDifferent_string.l0] at h
  | k + 1 => by
    have ih0 := impl_areDifferent_string.mono_l k
    · intro y0 y1 y2 y3
      unfold impl_areDifferent_string.l0
      repeat' first | (with_reducible first | exact ih0 _ _ _ _ | exact slices_Contains_string_string.mono _ _ _ | exact LeO.refl _ | exact LeO.none _ | refine LeO.ite ?_ ?_ | refine LeO.bind ?_ (fun _ => ?_)) | exact LeO.none _ | refine LeO.ite ?_ ?_ | refine LeO.bind ?_ (fun _ => ?_)
theorem impl_areDifferent_string.mono : ∀ a0 k, LeO (impl_areDifferent_string.f k a0) (impl_areDifferent_string.f (k + 1) a0) := by
  intro a0 k
  have ih0 := impl_areDifferent_string.mono_l k
  unfold impl_areDifferent_string.f
  repeat' first | (with_reducible first | exact ih0 _ _ _ _ | exact slices_Contains_string_string.mono _ _ _ | exact LeO.refl _ | exact LeO.none _ | refine LeO.ite ?_ ?_ | refine LeO.bind ?_ (fun _ => ?_)) | exact LeO.none _ | refine LeO.ite ?_ ?_ | refine LeO.bind ?_ (fun _ => ?_)
set_option maxHeartbeats 8000000 in
set_option maxRecDepth 100000 in
theorem impl_areDifferent_string.calls (k : Nat) (A0 : Option Addr) (c0 : Nat) (l0 : List ByteArray) (r : Bool) (w : World) (hr0 : Kd.C Kd.string w A0 l0.length l0) (hc0 : l0.length ≤ c0) (h : impl_areDifferent_string.f k l0 = some r) :
    Calls Try.prog 74 #[.slice A0 l0.length c0] w fun e w' => e = .returned (.bool r) ∧ Drawn0 w w' := by
  have HR0 := Aside0.mk hr0
  have HC0 := Aside0.mk hc0
  clear hr0 hc0
  have H : (impl_areDifferent_string.l0 k l0 l0 (l0.length : Int) 0) = some r := h
  clear h
  have H' := Aside0.mk H
  clear H
  go_enter Try.func74, Try.ntmps74
  go_wp2
  go_loopg [7] k (fun kq v7 w' => ∃ (x7_1 : Int), v7 = .int .i64 x7_1 ∧ Aside0 (impl_areDifferent_string.l0 kq l0 l0 (l0.length : Int) x7_1 = some r) ∧ Aside0 (kq ≤ k) ∧ Drawn0 w w')
  case atStart => exact ⟨(0), EQ1, H', ⟨Nat.le_refl _⟩, DA⟩
  case round =>
    clear H'
    obtain ⟨x7_1, rfl, HA, HK1, ⟨m1, rfl⟩⟩ := hrel
    cases gk with
    | zero => exact absurd HA.out (by simp [impl_areDifferent_string.l0])
    | succ k1 =>
      have H := HA.out
      clear HA
      simp only [impl_areDifferent_string.l0] at H
      by_cases c2 : x7_1 < (l0.length : Int)
      · rw [if_pos c2] at H
        have c2b0 := decide_eq_true c2
        clear c2
        by_cases c3 : 0 ≤ x7_1
        · rw [if_pos c3] at H
          have c3b0 := decide_eq_true c3
          clear c3
          by_cases c4 : x7_1 < (l0.length : Int)
          · rw [if_pos c4] at H
            have c4b0 := decide_eq_true c4
            clear c4
            have c5b0 := eq_true (DT : 0 ≤ x7_1)
            by_cases c6 : x7_1 ≤ (l0.length : Int)
            · rw [if_pos c6] at H
              have c6b0 := eq_true c6
              have c6b1 := decide_eq_true c6
              clear c6
              replace H := Option.bind_eq_some_iff.mp H
              obtain ⟨t298, A70, H⟩ := H
              replace H : (if t298 = true then (some false) else (impl_areDifferent_string.l0 k1 l0 l0 (l0.length : Int) (wrap64 (x7_1 + 1)))) = some r := H
              have A7 := Aside0.mk A70
              clear A70
              by_cases c8 : t298 = true
              · subst c8
                have H1 : (some false) = some r := by rw [if_pos rfl] at H; exact H
                clear H
                have H := H1
                clear H1
                obtain rfl := Option.some.inj H
                have p296 : 0 ≤ (x7_1 : Int) := DT
                have q296 : x7_1 < (l0.length : Int) := DT
                obtain ⟨ad296, e296, hx296_0⟩ := Kd.at_string HR0.out x7_1 p296 q296
                cases e296
                replace p296 := eq_true p296
                replace q296 := eq_true q296
                obtain ⟨i09, hi09, _, hsz9, _⟩ := info_parts info9
                obtain ⟨hcut9, hA9, hC9⟩ := print_take_of (P := Try.prog) Value.string (⟨#[]⟩ : ByteArray) 33 9 .i64 Try.underlying33 hi09 hsz9 (some ad296) c0 l0 x7_1 DT DT HC0.out
                have HR297 := Aside0.mk (Kd.C_of_reads (h1 := fun _ => rfl) (hA9 _ (Kd.reads_of_C HR0.out)))
                have HC297 := Aside0.mk hC9
                clear hA9 hC9 hi09 hsz9
                go_wp2_with (first | ((with_reducible refine gate_callee (f := 109) rfl ?_); refine goesL_ (some 16) rfl rfl Try.func109 (by kernel_rfl) rfl #[.slice (some ad296) (l0.take (x7_1 : Int).toNat).length c0, .string (rdOf ByteArray.empty l0 x7_1)] rfl (by (try simp only [List.map_toArray, List.map_cons, List.map_nil]); first | done | (rw [show (l0.take (x7_1 : Int).toNat).length = x7_1.toNat from (by rw [List.length_take]; have h_ : (x7_1 : Int) ≤ (l0.length : Int) := DT; omega)] <;> rfl) | rfl | (simp only [List.length_drop, List.length_take]; rfl)) ?_; (with_reducible refine (slices_Contains_string_string.calls k1 _ _ (l0.take (x7_1 : Int).toNat) (rdOf ByteArray.empty l0 x7_1) true _ ?side1 ?side2 A7.out).mono ?_); (case side1 => exact cb HR297.out); (case side2 => exact HC297.out); rintro e w' ⟨rfl, ⟨nd, rfl⟩⟩; refine ⟨_, rfl, ?_⟩))
                go_ret
                exact ⟨EQ1, DA⟩
              · replace c8 := Bool.eq_false_iff.mpr c8
                subst c8
                have H1 : (impl_areDifferent_string.l0 k1 l0 l0 (l0.length : Int) (wrap64 (x7_1 + 1))) = some r := by rw [if_neg (show ¬ (false = true) by decide)] at H; exact H
                clear H
                have H := H1
                clear H1
                have H' := Aside0.mk H
                clear H
                have p296 : 0 ≤ (x7_1 : Int) := DT
                have q296 : x7_1 < (l0.length : Int) := DT
                obtain ⟨ad296, e296, hx296_0⟩ := Kd.at_string HR0.out x7_1 p296 q296
                cases e296
                replace p296 := eq_true p296
                replace q296 := eq_true q296
                obtain ⟨i010, hi010, _, hsz10, _⟩ := info_parts info9
                obtain ⟨hcut10, hA10, hC10⟩ := print_take_of (P := Try.prog) Value.string (⟨#[]⟩ : ByteArray) 33 9 .i64 Try.underlying33 hi010 hsz10 (some ad296) c0 l0 x7_1 DT DT HC0.out
                have HR297 := Aside0.mk (Kd.C_of_reads (h1 := fun _ => rfl) (hA10 _ (Kd.reads_of_C HR0.out)))
                have HC297 := Aside0.mk hC10
                clear hA10 hC10 hi010 hsz10
                go_wp2_with (first | ((with_reducible refine gate_callee (f := 109) rfl ?_); refine goesL_ (some 16) rfl rfl Try.func109 (by kernel_rfl) rfl #[.slice (some ad296) (l0.take (x7_1 : Int).toNat).length c0, .string (rdOf ByteArray.empty l0 x7_1)] rfl (by (try simp only [List.map_toArray, List.map_cons, List.map_nil]); first | done | (rw [show (l0.take (x7_1 : Int).toNat).length = x7_1.toNat from (by rw [List.length_take]; have h_ : (x7_1 : Int) ≤ (l0.length : Int) := DT; omega)] <;> rfl) | rfl | (simp only [List.length_drop, List.length_take]; rfl)) ?_; (with_reducible refine (slices_Contains_string_string.calls k1 _ _ (l0.take (x7_1 : Int).toNat) (rdOf ByteArray.empty l0 x7_1) false _ ?side1 ?side2 A7.out).mono ?_); (case side1 => exact cb HR297.out); (case side2 => exact HC297.out); rintro e w' ⟨rfl, ⟨nd, rfl⟩⟩; refine ⟨_, rfl, ?_⟩))
                go_roundg k1
                case measure => have := HK1.out; omega
                case rel => exact ⟨(wrap64 (x7_1 + 1)), EQ1, H', ⟨by have := HK1.out; omega⟩, DA⟩
            · rw [if_neg c6] at H
              exact absurd H (by simp)
          · rw [if_neg c4] at H
            exact absurd H (by simp)
        · rw [if_neg c3] at H
          exact absurd H (by simp)
      · rw [if_neg c2] at H
        have c2b0 := decide_eq_false c2
        clear c2
        obtain rfl := Option.some.inj H
        go_wp2
        go_ret
        exact ⟨EQ1, DA⟩

/-! ### impl_areDifferent_int: function 75 -/
def impl_areDifferent_int.l0 : Nat → List Int → List Int → Int → Int → Option (Bool)
  | 0, _, _, _, _ => none
  | k + 1, x0, x5, x6, x7 => if x7 < x6 then (if 0 ≤ x7 then (if x7 < (x5.length : Int) then (if x7 ≤ (x0.length : Int) then ((slices_Contains_int_int.f k (x0.take (x7 : Int).toNat) (rd x5 x7)).bind fun t303 => (if t303 = true then (some false) else (impl_areDifferent_int.l0 k x0 x5 x6 (wrap64 (x7 + 1))))) else (none)) else (none)) else (none)) else (some true)
def impl_areDifferent_int.f (k : Nat) (l0 : List Int) : Option (Bool) := impl_areDifferent_int.l0 k l0 l0 (l0.length : Int) 0
theorem impl_areDifferent_int.mono_l : ∀ k, (∀ y0 y1 y2 y3, LeO (impl_areDifferent_int.l0 k y0 y1 y2 y3) (impl_areDifferent_int.l0 (k + 1) y0 y1 y2 y3))
  | 0 => fun _ _ _ _ r h => by simp [impl_areDifferent_int.l0] at h
  | k + 1 => by
    have ih0 := impl_areDifferent_int.mono_l k
    · intro y0 y1 y2 y3
      unfold impl_areDifferent_int.l0
      repeat' first | (with_reducible first | exact ih0 _ _ _ _ | exact slices_Contains_int_int.mono _ _ _ | exact LeO.refl _ | exact LeO.none _ | refine LeO.ite ?_ ?_ | refine LeO.bind ?_ (fun _ => ?_)) | exact LeO.none _ | refine LeO.ite ?_ ?_ | refine LeO.bind ?_ (fun _ => ?_)
theorem impl_areDifferent_int.mono : ∀ a0 k, LeO (impl_areDifferent_int.f k a0) (impl_areDifferent_int.f (k + 1) a0) := by
  intro a0 k
  have ih0 := impl_areDifferent_int.mono_l k
  unfold impl_areDifferent_int.f
  repeat' first | (with_reducible first | exact ih0 _ _ _ _ | exact slices_Contains_int_int.mono _ _ _ | exact LeO.refl _ | exact LeO.none _ | refine LeO.ite ?_ ?_ | refine LeO.bind ?_ (fun _ => ?_)) | exact LeO.none _ | refine LeO.ite ?_ ?_ | refine LeO.bind ?_ (fun _ => ?_)
set_option maxHeartbeats 8000000 in
set_option maxRecDepth 100000 in
theorem impl_areDifferent_int.calls (k : Nat) (A0 : Option Addr) (c0 : Nat) (l0 : List Int) (r : Bool) (w : World) (hr0 : Kd.C (Kd.int .i64) w A0 l0.length l0) (hc0 : l0.length ≤ c0) (h : impl_areDifferent_int.f k l0 = some r) :
    Calls Try.prog 75 #[.slice A0 l0.length c0] w fun e w' => e = .returned (.bool r) ∧ Drawn0 w w' := by
  have HR0 := Aside0.mk hr0
  have HC0 := Aside0.mk hc0
  clear hr0 hc0
  have H : (impl_areDifferent_int.l0 k l0 l0 (l0.length : Int) 0) = some r := h
  clear h
  have H' := Aside0.mk H
  clear H
  go_enter Try.func75, Try.ntmps75
  go_wp2
  go_loopg [7] k (fun kq v7 w' => ∃ (x7_1 : Int), v7 = .int .i64 x7_1 ∧ Aside0 (impl_areDifferent_int.l0 kq l0 l0 (l0.length : Int) x7_1 = some r) ∧ Aside0 (kq ≤ k) ∧ Drawn0 w w')
  case atStart => exact ⟨(0), EQ1, H', ⟨Nat.le_refl _⟩, DA⟩
  case round =>
    clear H'
    obtain ⟨x7_1, rfl, HA, HK1, ⟨m1, rfl⟩⟩ := hrel
    cases gk with
    | zero => exact absurd HA.out (by simp [impl_areDifferent_int.l0])
    | succ k1 =>
      have H := HA.out
      clear HA
      simp only [impl_areDifferent_int.l0] at H
      by_cases c2 : x7_1 < (l0.length : Int)
      · rw [if_pos c2] at H
        have c2b0 := decide_eq_true c2
        clear c2
        by_cases c3 : 0 ≤ x7_1
        · rw [if_pos c3] at H
          have c3b0 := decide_eq_true c3
          clear c3
          by_cases c4 : x7_1 < (l0.length : Int)
          · rw [if_pos c4] at H
            have c4b0 := decide_eq_true c4
            clear c4
            have c5b0 := eq_true (DT : 0 ≤ x7_1)
            by_cases c6 : x7_1 ≤ (l0.length : Int)
            · rw [if_pos c6] at H
              have c6b0 := eq_true c6
              have c6b1 := decide_eq_true c6
              clear c6
              replace H := Option.bind_eq_some_iff.mp H
              obtain ⟨t303, A70, H⟩ := H
              replace H : (if t303 = true then (some false) else (impl_areDifferent_int.l0 k1 l0 l0 (l0.length : Int) (wrap64 (x7_1 + 1)))) = some r := H
              have A7 := Aside0.mk A70
              clear A70
              by_cases c8 : t303 = true
              · subst c8
                have H1 : (some false) = some r := by rw [if_pos rfl] at H; exact H
                clear H
                have H := H1
                clear H1
                obtain rfl := Option.some.inj H
                have p301 : 0 ≤ (x7_1 : Int) := DT
                have q301 : x7_1 < (l0.length : Int) := DT
                obtain ⟨ad301, e301, hx301_0⟩ := Kd.at_int HR0.out x7_1 p301 q301
                cases e301
                replace p301 := eq_true p301
                replace q301 := eq_true q301
                obtain ⟨i09, hi09, _, hsz9, _⟩ := info_parts info3
                obtain ⟨hcut9, hA9, hC9⟩ := print_take_of (P := Try.prog) (Value.int .i64) 0 34 3 .i64 Try.underlying34 hi09 hsz9 (some ad301) c0 l0 x7_1 DT DT HC0.out
                have HR302 := Aside0.mk (Kd.C_of_reads (h1 := fun _ => rfl) (hA9 _ (Kd.reads_of_C HR0.out)))
                have HC302 := Aside0.mk hC9
                clear hA9 hC9 hi09 hsz9
                go_wp2_with (first | ((with_reducible refine gate_callee (f := 91) rfl ?_); refine goesL_ (some 16) rfl rfl Try.func91 (by kernel_rfl) rfl #[.slice (some ad301) (l0.take (x7_1 : Int).toNat).length c0, .int .i64 (rd l0 x7_1)] rfl (by (try simp only [List.map_toArray, List.map_cons, List.map_nil]); first | done | (rw [show (l0.take (x7_1 : Int).toNat).length = x7_1.toNat from (by rw [List.length_take]; have h_ : (x7_1 : Int) ≤ (l0.length : Int) := DT; omega)] <;> rfl) | rfl | (simp only [List.length_drop, List.length_take]; rfl)) ?_; (with_reducible refine (slices_Contains_int_int.calls k1 _ _ (l0.take (x7_1 : Int).toNat) (rd l0 x7_1) true _ ?side1 ?side2 A7.out).mono ?_); (case side1 => exact cb HR302.out); (case side2 => exact HC302.out); rintro e w' ⟨rfl, ⟨nd, rfl⟩⟩; refine ⟨_, rfl, ?_⟩))
                go_ret
                exact ⟨EQ1, DA⟩
              · replace c8 := Bool.eq_false_iff.mpr c8
                subst c8
                have H1 : (impl_areDifferent_int.l0 k1 l0 l0 (l0.length : Int) (wrap64 (x7_1 + 1))) = some r := by rw [if_neg (show ¬ (false = true) by decide)] at H; exact H
                clear H
                have H := H1
                clear H1
                have H' := Aside0.mk H
                clear H
                have p301 : 0 ≤ (x7_1 : Int) := DT
                have q301 : x7_1 < (l0.length : Int) := DT
                obtain ⟨ad301, e301, hx301_0⟩ := Kd.at_int HR0.out x7_1 p301 q301
                cases e301
                replace p301 := eq_true p301
                replace q301 := eq_true q301
                obtain ⟨i010, hi010, _, hsz10, _⟩ := info_parts info3
                obtain ⟨hcut10, hA10, hC10⟩ := print_take_of (P := Try.prog) (Value.int .i64) 0 34 3 .i64 Try.underlying34 hi010 hsz10 (some ad301) c0 l0 x7_1 DT DT HC0.out
                have HR302 := Aside0.mk (Kd.C_of_reads (h1 := fun _ => rfl) (hA10 _ (Kd.reads_of_C HR0.out)))
                have HC302 := Aside0.mk hC10
                clear hA10 hC10 hi010 hsz10
                go_wp2_with (first | ((with_reducible refine gate_callee (f := 91) rfl ?_); refine goesL_ (some 16) rfl rfl Try.func91 (by kernel_rfl) rfl #[.slice (some ad301) (l0.take (x7_1 : Int).toNat).length c0, .int .i64 (rd l0 x7_1)] rfl (by (try simp only [List.map_toArray, List.map_cons, List.map_nil]); first | done | (rw [show (l0.take (x7_1 : Int).toNat).length = x7_1.toNat from (by rw [List.length_take]; have h_ : (x7_1 : Int) ≤ (l0.length : Int) := DT; omega)] <;> rfl) | rfl | (simp only [List.length_drop, List.length_take]; rfl)) ?_; (with_reducible refine (slices_Contains_int_int.calls k1 _ _ (l0.take (x7_1 : Int).toNat) (rd l0 x7_1) false _ ?side1 ?side2 A7.out).mono ?_); (case side1 => exact cb HR302.out); (case side2 => exact HC302.out); rintro e w' ⟨rfl, ⟨nd, rfl⟩⟩; refine ⟨_, rfl, ?_⟩))
                go_roundg k1
                case measure => have := HK1.out; omega
                case rel => exact ⟨(wrap64 (x7_1 + 1)), EQ1, H', ⟨by have := HK1.out; omega⟩, DA⟩
            · rw [if_neg c6] at H
              exact absurd H (by simp)
          · rw [if_neg c4] at H
            exact absurd H (by simp)
        · rw [if_neg c3] at H
          exact absurd H (by simp)
      · rw [if_neg c2] at H
        have c2b0 := decide_eq_false c2
        clear c2
        obtain rfl := Option.some.inj H
        go_wp2
        go_ret
        exact ⟨EQ1, DA⟩

/-! ### impl_IsChoice: function 24 -/
mutual
def impl_IsChoice.j0 : Nat → Bool → List ByteArray → List Int → Option (Bool)
  | 0, _, _, _ => none
  | k + 1, x31, x305000, x305001 => if x31 = true then (some false) else (impl_IsChoice.l0 k x305000 (x305000.length : Int) 0 x305000 x305001)
def impl_IsChoice.l0 : Nat → List ByteArray → Int → Int → List ByteArray → List Int → Option (Bool)
  | 0, _, _, _, _, _ => none
  | k + 1, x33, x34, x35, x305000, x305001 => if x35 < x34 then (if 0 ≤ x35 then (if x35 < (x33.length : Int) then ((impl_formOf.f (rdOf ByteArray.empty x33 x35)).bind fun bt309 => (if bt309.2.2.2.2.2.2 = true then (impl_IsChoice.l1 k x33 x34 x35 x305001 (x305001.length : Int) 0 x305000 x305001 bt309.1 bt309.2.1 bt309.2.2.1 bt309.2.2.2.1 bt309.2.2.2.2.1 bt309.2.2.2.2.2.1) else (some false))) else (none)) else (none)) else (some true)
def impl_IsChoice.l1 : Nat → List ByteArray → Int → Int → List Int → Int → Int → List ByteArray → List Int → Bool → Bool → Int → Int → Int → ByteArray → Option (Bool)
  | 0, _, _, _, _, _, _, _, _, _, _, _, _, _, _ => none
  | k + 1, x33, x34, x35, x47, x48, x49, x305000, x305001, x317000, x317001, x317002, x317003, x317004, x317005 => if x49 < x48 then (if 0 ≤ x49 then (if x49 < (x47.length : Int) then ((impl_isWord.f (rd x47 x49)).bind fun t318 => (if t318 = true then ((impl_form_imm.f x317000 x317001 x317002 x317003 x317004 x317005).bind fun t319 => (if t319 = true then ((impl_within.f (rd x47 x49) x317002 x317003).bind fun t320 => (if t320 = true then (impl_IsChoice.l1 k x33 x34 x35 x47 x48 (wrap64 (x49 + 1)) x305000 x305001 x317000 x317001 x317002 x317003 x317004 x317005) else (some false))) else (impl_IsChoice.l1 k x33 x34 x35 x47 x48 (wrap64 (x49 + 1)) x305000 x305001 x317000 x317001 x317002 x317003 x317004 x317005))) else (some false))) else (none)) else (none)) else (impl_IsChoice.l0 k x33 x34 (wrap64 (x35 + 1)) x305000 x305001)
end
def impl_IsChoice.f (k : Nat) (l0_0 : List ByteArray) (l0_1 : List Int) : Option (Bool) := (impl_within.f (l0_0.length : Int) 1 4).bind fun t305 => (if t305 = true then (if (l0_1.length : Int) > 2 then (impl_IsChoice.j0 k true l0_0 l0_1) else ((impl_areDifferent_string.f k l0_0).bind fun t306 => (if t306 = true then ((impl_areDifferent_int.f k l0_1).bind fun t307 => (impl_IsChoice.j0 k (!t307) l0_0 l0_1)) else (impl_IsChoice.j0 k true l0_0 l0_1)))) else (impl_IsChoice.j0 k true l0_0 l0_1))
theorem impl_IsChoice.mono_l : ∀ k, (∀ y0 y1 y2, LeO (impl_IsChoice.j0 k y0 y1 y2) (impl_IsChoice.j0 (k + 1) y0 y1 y2)) ∧ (∀ y0 y1 y2 y3 y4, LeO (impl_IsChoice.l0 k y0 y1 y2 y3 y4) (impl_IsChoice.l0 (k + 1) y0 y1 y2 y3 y4)) ∧ (∀ y0 y1 y2 y3 y4 y5 y6 y7 y8 y9 y10 y11 y12 y13, LeO (impl_IsChoice.l1 k y0 y1 y2 y3 y4 y5 y6 y7 y8 y9 y10 y11 y12 y13) (impl_IsChoice.l1 (k + 1) y0 y1 y2 y3 y4 y5 y6 y7 y8 y9 y10 y11 y12 y13))
  | 0 => ⟨fun _ _ _ r h => by simp [impl_IsChoice.j0] at h, fun _ _ _ _ _ r h => by simp [impl_IsChoice.l0] at h, fun _ _ _ _ _ _ _ _ _ _ _ _ _ _ r h => by simp [impl_IsChoice.l1] at h⟩
  | k + 1 => by
    obtain ⟨ih0, ih1, ih2⟩ := impl_IsChoice.mono_l k
    refine ⟨?_, ?_, ?_⟩
    · intro y0 y1 y2
      unfold impl_IsChoice.j0
      repeat' first | (with_reducible first | exact ih0 _ _ _ | exact ih1 _ _ _ _ _ | exact ih2 _ _ _ _ _ _ _ _ _ _ _ _ _ _ | exact impl_areDifferent_int.mono _ _ | exact impl_areDifferent_string.mono _ _ | exact LeO.refl _ | exact LeO.none _ | refine LeO.ite ?_ ?_ | refine LeO.bind ?_ (fun _ => ?_)) | exact LeO.none _ | refine LeO.ite ?_ ?_ | refine LeO.bind ?_ (fun _ => ?_)
    · intro y0 y1 y2 y3 y4
      unfold impl_IsChoice.l0
      repeat' first | (with_reducible first | exact ih0 _ _ _ | exact ih1 _ _ _ _ _ | exact ih2 _ _ _ _ _ _ _ _ _ _ _ _ _ _ | exact impl_areDifferent_int.mono _ _ | exact impl_areDifferent_string.mono _ _ | exact LeO.refl _ | exact LeO.none _ | refine LeO.ite ?_ ?_ | refine LeO.bind ?_ (fun _ => ?_)) | exact LeO.none _ | refine LeO.ite ?_ ?_ | refine LeO.bind ?_ (fun _ => ?_)
    · intro y0 y1 y2 y3 y4 y5 y6 y7 y8 y9 y10 y11 y12 y13
      unfold impl_IsChoice.l1
      repeat' first | (with_reducible first | exact ih0 _ _ _ | exact ih1 _ _ _ _ _ | exact ih2 _ _ _ _ _ _ _ _ _ _ _ _ _ _ | exact impl_areDifferent_int.mono _ _ | exact impl_areDifferent_string.mono _ _ | exact LeO.refl _ | exact LeO.none _ | refine LeO.ite ?_ ?_ | refine LeO.bind ?_ (fun _ => ?_)) | exact LeO.none _ | refine LeO.ite ?_ ?_ | refine LeO.bind ?_ (fun _ => ?_)
theorem impl_IsChoice.mono : ∀ a0 a1 k, LeO (impl_IsChoice.f k a0 a1) (impl_IsChoice.f (k + 1) a0 a1) := by
  intro a0 a1 k
  obtain ⟨ih0, ih1, ih2⟩ := impl_IsChoice.mono_l k
  unfold impl_IsChoice.f
  repeat' first | (with_reducible first | exact ih0 _ _ _ | exact ih1 _ _ _ _ _ | exact ih2 _ _ _ _ _ _ _ _ _ _ _ _ _ _ | exact impl_areDifferent_int.mono _ _ | exact impl_areDifferent_string.mono _ _ | exact LeO.refl _ | exact LeO.none _ | refine LeO.ite ?_ ?_ | refine LeO.bind ?_ (fun _ => ?_)) | exact LeO.none _ | refine LeO.ite ?_ ?_ | refine LeO.bind ?_ (fun _ => ?_)
set_option maxHeartbeats 8000000 in
set_option maxRecDepth 100000 in
theorem impl_IsChoice.calls (k : Nat) (A0_0 : Option Addr) (c0_0 : Nat) (l0_0 : List ByteArray) (A0_1 : Option Addr) (c0_1 : Nat) (l0_1 : List Int) (r : Bool) (w : World) (hr0_0 : Kd.C Kd.string w A0_0 l0_0.length l0_0) (hc0_0 : l0_0.length ≤ c0_0) (hr0_1 : Kd.C (Kd.int .i64) w A0_1 l0_1.length l0_1) (hc0_1 : l0_1.length ≤ c0_1) (h : impl_IsChoice.f k l0_0 l0_1 = some r) :
    Calls Try.prog 24 #[.agg #[.slice A0_0 l0_0.length c0_0, .slice A0_1 l0_1.length c0_1]] w fun e w' => e = .returned (.bool r) ∧ Below w.heap.size w w' := by
  have hu39 := Try.underlying39
  have hu94 := Try.underlying94
  have HR0_0 := Aside0.mk hr0_0
  have HC0_0 := Aside0.mk hc0_0
  clear hr0_0 hc0_0
  have HR0_1 := Aside0.mk hr0_1
  have HC0_1 := Aside0.mk hc0_1
  clear hr0_1 hc0_1
  have HB := Aside0.mk (Below.refl w.heap.size w)
  have H : ((impl_within.f (l0_0.length : Int) 1 4).bind fun t305 => (if t305 = true then (if (l0_1.length : Int) > 2 then (impl_IsChoice.j0 k true l0_0 l0_1) else ((impl_areDifferent_string.f k l0_0).bind fun t306 => (if t306 = true then ((impl_areDifferent_int.f k l0_1).bind fun t307 => (impl_IsChoice.j0 k (!t307) l0_0 l0_1)) else (impl_IsChoice.j0 k true l0_0 l0_1)))) else (impl_IsChoice.j0 k true l0_0 l0_1))) = some r := h
  clear h
  have HC2 := Aside0.mk H
  clear H
  go_enter Try.func24, Try.ntmps24
  go_upto_region 1 with (first | ((with_reducible refine gate_dst (N := 1) rfl ?_); (try (refine gate_guard (by rfl) ?_; dsimp only)); refine box_event ?hg (N := 1) ?hd (cs := #[.slice A0_0 l0_0.length c0_0, .slice A0_1 l0_1.length c0_1]) (t := 39) ?hr ?_; (case hd => rfl); (case hg => rfl); (case hr => first | (go_simp; done) | (go_simp; rfl)); intro gb304 hg w3 hbox hb; have BK304 := Aside0.mk (hbox); have GW304 := Aside0.mk ((by rw [hg]; exact (below_size BA) : w.heap.size ≤ gb304)); have GE304 := Aside0.mk ((by rw [hg]; exact (below_size BA) : w.heap.size ≤ gb304)); replace HB := Aside0.mk (below_step BA hb); clear hb hbox hg))
  (try simp only [Act.put, List.setIfInBounds_toArray, List.set_cons_zero, List.set_cons_succ])
  go_cut [31] (fun v31 wc => ∃ (kq : Nat) (x31_1 : Bool), v31 = .bool x31_1 ∧ Aside0 (impl_IsChoice.j0 kq x31_1 l0_0 l0_1 = some r) ∧ Aside0 (kq ≤ k) ∧ Aside0 (wc.heap[gb304]? = some (.cells #[(.slice A0_0 l0_0.length c0_0), (.slice A0_1 l0_1.length c0_1)] 39 (0, 0))) ∧ Aside0 (Below w.heap.size w wc))
  case first =>
    have H := HC2.out
    clear HC2
    replace H := Option.bind_eq_some_iff.mp H
    obtain ⟨t305, A40, H⟩ := H
    replace H : (if t305 = true then (if (l0_1.length : Int) > 2 then (impl_IsChoice.j0 k true l0_0 l0_1) else ((impl_areDifferent_string.f k l0_0).bind fun t306 => (if t306 = true then ((impl_areDifferent_int.f k l0_1).bind fun t307 => (impl_IsChoice.j0 k (!t307) l0_0 l0_1)) else (impl_IsChoice.j0 k true l0_0 l0_1)))) else (impl_IsChoice.j0 k true l0_0 l0_1)) = some r := H
    have A4 := Aside0.mk A40
    clear A40
    by_cases c5 : t305 = true
    · subst c5
      have H1 : (if (l0_1.length : Int) > 2 then (impl_IsChoice.j0 k true l0_0 l0_1) else ((impl_areDifferent_string.f k l0_0).bind fun t306 => (if t306 = true then ((impl_areDifferent_int.f k l0_1).bind fun t307 => (impl_IsChoice.j0 k (!t307) l0_0 l0_1)) else (impl_IsChoice.j0 k true l0_0 l0_1)))) = some r := by rw [if_pos rfl] at H; exact H
      clear H
      have H := H1
      clear H1
      by_cases c6 : (l0_1.length : Int) > 2
      · rw [if_pos c6] at H
        have c6b0 := decide_eq_true c6
        have c6b1 : decide (2 < l0_1.length) = true := decide_eq_true (by omega)
        clear c6
        (first | rw [c6b0] | (simp only [i64_w, i32_w]; rw [c6b0]) | skip)
        have H' := Aside0.mk H
        clear H
        have hcz7_0 := bcv BK304.out 0 (.slice A0_0 l0_0.length c0_0)
        have hcz7_1 := bcv BK304.out 1 (.slice A0_1 l0_1.length c0_1)
        have hfz7 := blk_frozen BK304.out
        have hfz7_1 := blk_frozen BK304.out 1
        go_wp2_with (first | ((with_reducible refine gate_callee (f := 73) rfl ?_); refine gK (some 12) Try.func73 #[.int .i64 (l0_0.length : Int), .int .i64 1, .int .i64 4] rfl rfl rfl ?_; (with_reducible refine (impl_within.calls (l0_0.length : Int) 1 4 true _ A4.out).mono ?_); rintro e w' ⟨rfl, ⟨nd, rfl⟩⟩; refine ⟨_, rfl, ?_⟩))
        go_meet
        case rel => exact ⟨_, (true), EQ1, H', ⟨by first | omega | exact Nat.le_refl _⟩, ⟨by (with_reducible repeat (first | refine blk_drewN ?_ _ | refine blk_drew ?_ | refine blk_alloc ?_ _)); exact BK304.out⟩, ⟨BA⟩⟩
      · rw [if_neg c6] at H
        have c6b0 := decide_eq_false c6
        have c6b1 : decide (2 < l0_1.length) = false := decide_eq_false (by omega)
        clear c6
        (first | rw [c6b0] | (simp only [i64_w, i32_w]; rw [c6b0]) | skip)
        replace H := Option.bind_eq_some_iff.mp H
        obtain ⟨t306, A80, H⟩ := H
        replace H : (if t306 = true then ((impl_areDifferent_int.f k l0_1).bind fun t307 => (impl_IsChoice.j0 k (!t307) l0_0 l0_1)) else (impl_IsChoice.j0 k true l0_0 l0_1)) = some r := H
        have A8 := Aside0.mk A80
        clear A80
        by_cases c9 : t306 = true
        · subst c9
          have H1 : ((impl_areDifferent_int.f k l0_1).bind fun t307 => (impl_IsChoice.j0 k (!t307) l0_0 l0_1)) = some r := by rw [if_pos rfl] at H; exact H
          clear H
          have H := H1
          clear H1
          replace H := Option.bind_eq_some_iff.mp H
          obtain ⟨t307, A100, H⟩ := H
          replace H : (impl_IsChoice.j0 k (!t307) l0_0 l0_1) = some r := H
          have A10 := Aside0.mk A100
          clear A100
          have H' := Aside0.mk H
          clear H
          have hcz11_0 := bcv BK304.out 0 (.slice A0_0 l0_0.length c0_0)
          have hcz11_1 := bcv BK304.out 1 (.slice A0_1 l0_1.length c0_1)
          have hfz11 := blk_frozen BK304.out
          have hfz11_1 := blk_frozen BK304.out 1
          go_wp2_with (first | ((with_reducible refine gate_callee (f := 73) rfl ?_); refine gK (some 12) Try.func73 #[.int .i64 (l0_0.length : Int), .int .i64 1, .int .i64 4] rfl rfl rfl ?_; (with_reducible refine (impl_within.calls (l0_0.length : Int) 1 4 true _ A4.out).mono ?_); rintro e w' ⟨rfl, ⟨nd, rfl⟩⟩; refine ⟨_, rfl, ?_⟩) | (go_at_call 74; (with_reducible refine (impl_areDifferent_string.calls k _ _ l0_0 true _ ?side1 ?side2 A8.out).mono ?_); (case side1 => exact cb (Kd.C_below HR0_0.out BA)); (case side2 => exact HC0_0.out); rintro e w' ⟨rfl, ⟨nd, rfl⟩⟩) | (go_at_call 75; (with_reducible refine (impl_areDifferent_int.calls k _ _ l0_1 t307 _ ?side1 ?side2 A10.out).mono ?_); (case side1 => exact cb (Kd.C_below HR0_1.out BA)); (case side2 => exact HC0_1.out); rintro e w' ⟨rfl, ⟨nd, rfl⟩⟩))
          go_meet
          case rel => exact ⟨_, (!t307), EQ1, H', ⟨by first | omega | exact Nat.le_refl _⟩, ⟨by (with_reducible repeat (first | refine blk_drewN ?_ _ | refine blk_drew ?_ | refine blk_alloc ?_ _)); exact BK304.out⟩, ⟨BA⟩⟩
        · replace c9 := Bool.eq_false_iff.mpr c9
          subst c9
          have H1 : (impl_IsChoice.j0 k true l0_0 l0_1) = some r := by rw [if_neg (show ¬ (false = true) by decide)] at H; exact H
          clear H
          have H := H1
          clear H1
          have H' := Aside0.mk H
          clear H
          have hcz12_0 := bcv BK304.out 0 (.slice A0_0 l0_0.length c0_0)
          have hcz12_1 := bcv BK304.out 1 (.slice A0_1 l0_1.length c0_1)
          have hfz12 := blk_frozen BK304.out
          have hfz12_1 := blk_frozen BK304.out 1
          go_wp2_with (first | ((with_reducible refine gate_callee (f := 73) rfl ?_); refine gK (some 12) Try.func73 #[.int .i64 (l0_0.length : Int), .int .i64 1, .int .i64 4] rfl rfl rfl ?_; (with_reducible refine (impl_within.calls (l0_0.length : Int) 1 4 true _ A4.out).mono ?_); rintro e w' ⟨rfl, ⟨nd, rfl⟩⟩; refine ⟨_, rfl, ?_⟩) | (go_at_call 74; (with_reducible refine (impl_areDifferent_string.calls k _ _ l0_0 false _ ?side1 ?side2 A8.out).mono ?_); (case side1 => exact cb (Kd.C_below HR0_0.out BA)); (case side2 => exact HC0_0.out); rintro e w' ⟨rfl, ⟨nd, rfl⟩⟩))
          go_meet
          case rel => exact ⟨_, (true), EQ1, H', ⟨by first | omega | exact Nat.le_refl _⟩, ⟨by (with_reducible repeat (first | refine blk_drewN ?_ _ | refine blk_drew ?_ | refine blk_alloc ?_ _)); exact BK304.out⟩, ⟨BA⟩⟩
    · replace c5 := Bool.eq_false_iff.mpr c5
      subst c5
      have H1 : (impl_IsChoice.j0 k true l0_0 l0_1) = some r := by rw [if_neg (show ¬ (false = true) by decide)] at H; exact H
      clear H
      have H := H1
      clear H1
      have H' := Aside0.mk H
      clear H
      have hcz13_0 := bcv BK304.out 0 (.slice A0_0 l0_0.length c0_0)
      have hcz13_1 := bcv BK304.out 1 (.slice A0_1 l0_1.length c0_1)
      have hfz13 := blk_frozen BK304.out
      have hfz13_1 := blk_frozen BK304.out 1
      go_wp2_with (first | ((with_reducible refine gate_callee (f := 73) rfl ?_); refine gK (some 12) Try.func73 #[.int .i64 (l0_0.length : Int), .int .i64 1, .int .i64 4] rfl rfl rfl ?_; (with_reducible refine (impl_within.calls (l0_0.length : Int) 1 4 false _ A4.out).mono ?_); rintro e w' ⟨rfl, ⟨nd, rfl⟩⟩; refine ⟨_, rfl, ?_⟩))
      go_meet
      case rel => exact ⟨_, (true), EQ1, H', ⟨by first | omega | exact Nat.le_refl _⟩, ⟨by (with_reducible repeat (first | refine blk_drewN ?_ _ | refine blk_drew ?_ | refine blk_alloc ?_ _)); exact BK304.out⟩, ⟨BA⟩⟩
  case rest =>
    clear HC2
    (try clear c2); (try clear p2); (try clear c5); (try clear c6); (try clear c6b0); (try clear c6b1); (try clear c7); (try clear c9); (try clear hcz11_0); (try clear hcz11_1); (try clear hcz12_0); (try clear hcz12_1); (try clear hcz13_0); (try clear hcz13_1); (try clear hcz7_0); (try clear hcz7_1); (try clear hfz11_0); (try clear hfz11_1); (try clear hfz12_0); (try clear hfz12_1); (try clear hfz13_0); (try clear hfz13_1); (try clear hfz7_0); (try clear hfz7_1)
    obtain ⟨kq, x31_1, rfl, HA, HJ1, BK304, HB⟩ := hcut
    cases kq with
    | zero => exact absurd HA.out (by simp [impl_IsChoice.j0])
    | succ kj1 =>
      have H := HA.out
      clear HA
      simp only [impl_IsChoice.j0] at H
      by_cases c14 : x31_1 = true
      · subst c14
        have H1 : (some false) = some r := by rw [if_pos rfl] at H; exact H
        clear H
        have H := H1
        clear H1
        obtain rfl := Option.some.inj H
        go_wp2
        go_ret
        exact ⟨EQ, BA⟩
      · replace c14 := Bool.eq_false_iff.mpr c14
        subst c14
        have H1 : (impl_IsChoice.l0 kj1 l0_0 (l0_0.length : Int) 0 l0_0 l0_1) = some r := by rw [if_neg (show ¬ (false = true) by decide)] at H; exact H
        clear H
        have H := H1
        clear H1
        have H' := Aside0.mk H
        clear H
        have hcz15_0 := bcv BK304.out 0 (.slice A0_0 l0_0.length c0_0)
        have hcz15_1 := bcv BK304.out 1 (.slice A0_1 l0_1.length c0_1)
        have hfz15 := blk_frozen BK304.out
        have hfz15_1 := blk_frozen BK304.out 1
        go_wp2
        go_loopg [35] kj1 (fun kq v35 w' => ∃ (x35_2 : Int), v35 = .int .i64 x35_2 ∧ Aside0 (impl_IsChoice.l0 kq l0_0 (l0_0.length : Int) x35_2 l0_0 l0_1 = some r) ∧ Aside0 (kq ≤ kj1) ∧ Aside0 (w'.heap[gb304]? = some (.cells #[(.slice A0_0 l0_0.length c0_0), (.slice A0_1 l0_1.length c0_1)] 39 (0, 0))) ∧ Aside0 (Below w.heap.size w w'))
        case atStart => exact ⟨(0), EQ1, H', ⟨Nat.le_refl _⟩, ⟨by (with_reducible repeat (first | refine blk_drewN ?_ _ | refine blk_drew ?_ | refine blk_alloc ?_ _)); exact BK304.out⟩, ⟨BA⟩⟩
        case round =>
          clear H'
          (try clear c1); (try clear c2); (try clear p2); (try clear c5); (try clear c6); (try clear c6b0); (try clear c6b1); (try clear c7); (try clear c9); (try clear c14); (try clear hcz11_0); (try clear hcz11_1); (try clear hcz12_0); (try clear hcz12_1); (try clear hcz13_0); (try clear hcz13_1); (try clear hcz15_0); (try clear hcz15_1); (try clear hcz7_0); (try clear hcz7_1); (try clear hfz11_0); (try clear hfz11_1); (try clear hfz12_0); (try clear hfz12_1); (try clear hfz13_0); (try clear hfz13_1); (try clear hfz15_0); (try clear hfz15_1); (try clear hfz7_0); (try clear hfz7_1); (try clear p2)
          obtain ⟨x35_2, rfl, HA, HK2, BK304, HB⟩ := hrel
          cases gk with
          | zero => exact absurd HA.out (by simp [impl_IsChoice.l0])
          | succ k2 =>
            have H := HA.out
            clear HA
            simp only [impl_IsChoice.l0] at H
            by_cases c16 : x35_2 < (l0_0.length : Int)
            · rw [if_pos c16] at H
              have c16b0 := decide_eq_true c16
              clear c16
              by_cases c17 : 0 ≤ x35_2
              · rw [if_pos c17] at H
                have c17b0 := decide_eq_true c17
                clear c17
                by_cases c18 : x35_2 < (l0_0.length : Int)
                · rw [if_pos c18] at H
                  have c18b0 := decide_eq_true c18
                  clear c18
                  replace H := Option.bind_eq_some_iff.mp H
                  obtain ⟨⟨t309, t310, t311, t312, t313, t314, t315⟩, A190, H⟩ := H
                  replace H : (if t315 = true then (impl_IsChoice.l1 k2 l0_0 (l0_0.length : Int) x35_2 l0_1 (l0_1.length : Int) 0 l0_0 l0_1 t309 t310 t311 t312 t313 t314) else (some false)) = some r := H
                  have A19 := Aside0.mk A190
                  clear A190
                  by_cases c20 : t315 = true
                  · subst c20
                    have H1 : (impl_IsChoice.l1 k2 l0_0 (l0_0.length : Int) x35_2 l0_1 (l0_1.length : Int) 0 l0_0 l0_1 t309 t310 t311 t312 t313 t314) = some r := by rw [if_pos rfl] at H; exact H
                    clear H
                    have H := H1
                    clear H1
                    have H' := Aside0.mk H
                    clear H
                    have p308 : 0 ≤ (x35_2 : Int) := DT
                    have q308 : x35_2 < (l0_0.length : Int) := DT
                    obtain ⟨ad308, e308, hx308_0⟩ := Kd.at_string HR0_0.out x35_2 p308 q308
                    cases e308
                    replace hx308_0 := (HB.out.cell (World.block_lt_of_cell? w _ hx308_0)).trans hx308_0
                    replace p308 := eq_true p308
                    replace q308 := eq_true q308
                    go_wp2_with (first | ((with_reducible refine gate_callee (f := 76) rfl ?_); refine gK (some 41) Try.func76 #[.string (rdOf ByteArray.empty l0_0 x35_2)] rfl rfl rfl ?_; (with_reducible refine (impl_formOf.calls (rdOf ByteArray.empty l0_0 x35_2) t309 t310 t311 t312 t313 t314 true _ A19.out).mono ?_); rintro e w21 ⟨rfl, hb⟩; refine ⟨_, rfl, ?_⟩; replace BK304 := Aside0.mk (blk_below (bk BK304.out) hb); replace HB := Aside0.mk (below_step BA hb); (try clear hb)) | ((with_reducible refine gate_dst (N := 5) rfl ?_); (try (refine gate_guard (by rfl) ?_; dsimp only)); refine box_event ?hg (N := 5) ?hd (cs := #[.bool false, .bool false, .int .i64 0, .int .i64 0, .int .i64 0, .string (⟨#[]⟩ : ByteArray)]) (t := 94) ?hr ?_; (case hd => rfl); (case hg => rfl); (case hr => first | (go_simp; done) | (go_simp; rfl)); intro gb316 hg w22 hbox hb; have BK316 := Aside0.mk (hbox); have GW316 := Aside0.mk ((by rw [hg]; exact (below_size BA) : w.heap.size ≤ gb316)); have GE316 := Aside0.mk ((by rw [hg]; exact (below_size BA) : w.heap.size ≤ gb316)); replace HB := Aside0.mk (below_step BA hb); have NB304_316 := Aside0.mk ((by rw [hg]; exact Nat.ne_of_lt (blk_lt (g := gb304) (o := .cells #[.slice (some ad308) l0_0.length c0_0, .slice A0_1 l0_1.length c0_1] 39 (0, 0)) (bk BK304.out)) : gb304 ≠ gb316)); have NB316_304 := Aside0.mk ((by rw [hg]; exact Nat.ne_of_gt (blk_lt (g := gb304) (o := .cells #[.slice (some ad308) l0_0.length c0_0, .slice A0_1 l0_1.length c0_1] 39 (0, 0)) (bk BK304.out)) : gb316 ≠ gb304)); replace BK304 := Aside0.mk (blk_below (bk BK304.out) hb); clear hb hbox hg; have hnb23 := NB316_304.out; have hnc23 := NB304_316.out; have hcz24_0 := bcv BK316.out 0 (.bool false); have hcz24_1 := bcv BK316.out 1 (.bool false); have hcz24_2 := bcv BK316.out 2 (.int .i64 0); have hcz24_3 := bcv BK316.out 3 (.int .i64 0); have hcz24_4 := bcv BK316.out 4 (.int .i64 0); have hcz24_5 := bcv BK316.out 5 (.string (⟨#[]⟩ : ByteArray)); have hfz24 := blk_frozen BK316.out; have hcz25_0 := bcv BK304.out 0 (.slice (some ad308) l0_0.length c0_0); have hcz25_1 := bcv BK304.out 1 (.slice A0_1 l0_1.length c0_1); have hfz25 := blk_frozen BK304.out))
                    go_loopg [49] k2 (fun kq v49 w' => ∃ (x49_3 : Int), v49 = .int .i64 x49_3 ∧ Aside0 (impl_IsChoice.l1 kq l0_0 (l0_0.length : Int) x35_2 l0_1 (l0_1.length : Int) x49_3 l0_0 l0_1 t309 t310 t311 t312 t313 t314 = some r) ∧ Aside0 (kq ≤ k2) ∧ Aside0 (w'.heap[gb304]? = some (.cells #[(.slice (some ad308) l0_0.length c0_0), (.slice A0_1 l0_1.length c0_1)] 39 (0, 0))) ∧ Aside0 (w'.heap[gb316]? = some (.cells #[.bool t309, .bool t310, .int .i64 t311, .int .i64 t312, .int .i64 t313, .string t314] 94 (0, 0))) ∧ Aside0 (Below w.heap.size w w'))
                    case atStart => exact ⟨(0), EQ1, H', ⟨Nat.le_refl _⟩, ⟨by (with_reducible repeat (first | refine blk_drewN ?_ _ | refine blk_drew ?_ | refine blk_alloc ?_ _)); refine blk_far ?_ NB304_316.out _; (with_reducible repeat (first | refine blk_drewN ?_ _ | refine blk_drew ?_ | refine blk_alloc ?_ _)); refine blk_far ?_ NB304_316.out _; (with_reducible repeat (first | refine blk_drewN ?_ _ | refine blk_drew ?_ | refine blk_alloc ?_ _)); refine blk_far ?_ NB304_316.out _; (with_reducible repeat (first | refine blk_drewN ?_ _ | refine blk_drew ?_ | refine blk_alloc ?_ _)); refine blk_far ?_ NB304_316.out _; (with_reducible repeat (first | refine blk_drewN ?_ _ | refine blk_drew ?_ | refine blk_alloc ?_ _)); refine blk_far ?_ NB304_316.out _; (with_reducible repeat (first | refine blk_drewN ?_ _ | refine blk_drew ?_ | refine blk_alloc ?_ _)); refine blk_far ?_ NB304_316.out _; (with_reducible repeat (first | refine blk_drewN ?_ _ | refine blk_drew ?_ | refine blk_alloc ?_ _)); exact BK304.out⟩, ⟨by (with_reducible repeat (first | refine blk_drewN ?_ _ | refine blk_drew ?_ | refine blk_alloc ?_ _)); refine blk_put (cs := #[.bool t309, .bool t310, .int .i64 t311, .int .i64 t312, .int .i64 t313, .string (⟨#[]⟩ : ByteArray)]) ?_ 5 _ rfl; (with_reducible repeat (first | refine blk_drewN ?_ _ | refine blk_drew ?_ | refine blk_alloc ?_ _)); refine blk_put (cs := #[.bool t309, .bool t310, .int .i64 t311, .int .i64 t312, .int .i64 0, .string (⟨#[]⟩ : ByteArray)]) ?_ 4 _ rfl; (with_reducible repeat (first | refine blk_drewN ?_ _ | refine blk_drew ?_ | refine blk_alloc ?_ _)); refine blk_put (cs := #[.bool t309, .bool t310, .int .i64 t311, .int .i64 0, .int .i64 0, .string (⟨#[]⟩ : ByteArray)]) ?_ 3 _ rfl; (with_reducible repeat (first | refine blk_drewN ?_ _ | refine blk_drew ?_ | refine blk_alloc ?_ _)); refine blk_put (cs := #[.bool t309, .bool t310, .int .i64 0, .int .i64 0, .int .i64 0, .string (⟨#[]⟩ : ByteArray)]) ?_ 2 _ rfl; (with_reducible repeat (first | refine blk_drewN ?_ _ | refine blk_drew ?_ | refine blk_alloc ?_ _)); refine blk_put (cs := #[.bool t309, .bool false, .int .i64 0, .int .i64 0, .int .i64 0, .string (⟨#[]⟩ : ByteArray)]) ?_ 1 _ rfl; (with_reducible repeat (first | refine blk_drewN ?_ _ | refine blk_drew ?_ | refine blk_alloc ?_ _)); refine blk_put (cs := #[.bool false, .bool false, .int .i64 0, .int .i64 0, .int .i64 0, .string (⟨#[]⟩ : ByteArray)]) ?_ 0 _ rfl; (with_reducible repeat (first | refine blk_drewN ?_ _ | refine blk_drew ?_ | refine blk_alloc ?_ _)); exact BK316.out⟩, ⟨BA⟩⟩
                    case round =>
                      clear H'
                      (try clear c1); (try clear c2); (try clear p2); (try clear p3); (try clear q3); (try clear hx3); (try clear c5); (try clear c6); (try clear c6b0); (try clear c6b1); (try clear c7); (try clear c9); (try clear c14); (try clear c16); (try clear c16b0); (try clear c17); (try clear c17b0); (try clear c18); (try clear c18b0); (try clear c20); (try clear c23); (try clear c24); (try clear hcz11_0); (try clear hcz11_1); (try clear hcz12_0); (try clear hcz12_1); (try clear hcz13_0); (try clear hcz13_1); (try clear hcz15_0); (try clear hcz15_1); (try clear hcz24_0); (try clear hcz24_1); (try clear hcz24_2); (try clear hcz24_3); (try clear hcz24_4); (try clear hcz24_5); (try clear hcz25_0); (try clear hcz25_1); (try clear hcz7_0); (try clear hcz7_1); (try clear hfz11_0); (try clear hfz11_1); (try clear hfz12_0); (try clear hfz12_1); (try clear hfz13_0); (try clear hfz13_1); (try clear hfz15_0); (try clear hfz15_1); (try clear hfz24_0); (try clear hfz24_1); (try clear hfz24_2); (try clear hfz24_3); (try clear hfz24_4); (try clear hfz24_5); (try clear hfz25_0); (try clear hfz25_1); (try clear hfz7_0); (try clear hfz7_1); (try clear hx308_0); (try clear p2); (try clear p308); (try clear q308)
                      obtain ⟨x49_3, rfl, HA, HK3, BK304, BK316, HB⟩ := hrel
                      cases gk with
                      | zero => exact absurd HA.out (by simp [impl_IsChoice.l1])
                      | succ k3 =>
                        have H := HA.out
                        clear HA
                        simp only [impl_IsChoice.l1] at H
                        by_cases c26 : x49_3 < (l0_1.length : Int)
                        · rw [if_pos c26] at H
                          have c26b0 := decide_eq_true c26
                          clear c26
                          by_cases c27 : 0 ≤ x49_3
                          · rw [if_pos c27] at H
                            have c27b0 := decide_eq_true c27
                            clear c27
                            by_cases c28 : x49_3 < (l0_1.length : Int)
                            · rw [if_pos c28] at H
                              have c28b0 := decide_eq_true c28
                              clear c28
                              replace H := Option.bind_eq_some_iff.mp H
                              obtain ⟨t318, A290, H⟩ := H
                              replace H : (if t318 = true then ((impl_form_imm.f t309 t310 t311 t312 t313 t314).bind fun t319 => (if t319 = true then ((impl_within.f (rd l0_1 x49_3) t311 t312).bind fun t320 => (if t320 = true then (impl_IsChoice.l1 k3 l0_0 (l0_0.length : Int) x35_2 l0_1 (l0_1.length : Int) (wrap64 (x49_3 + 1)) l0_0 l0_1 t309 t310 t311 t312 t313 t314) else (some false))) else (impl_IsChoice.l1 k3 l0_0 (l0_0.length : Int) x35_2 l0_1 (l0_1.length : Int) (wrap64 (x49_3 + 1)) l0_0 l0_1 t309 t310 t311 t312 t313 t314))) else (some false)) = some r := H
                              have A29 := Aside0.mk A290
                              clear A290
                              by_cases c30 : t318 = true
                              · subst c30
                                have H1 : ((impl_form_imm.f t309 t310 t311 t312 t313 t314).bind fun t319 => (if t319 = true then ((impl_within.f (rd l0_1 x49_3) t311 t312).bind fun t320 => (if t320 = true then (impl_IsChoice.l1 k3 l0_0 (l0_0.length : Int) x35_2 l0_1 (l0_1.length : Int) (wrap64 (x49_3 + 1)) l0_0 l0_1 t309 t310 t311 t312 t313 t314) else (some false))) else (impl_IsChoice.l1 k3 l0_0 (l0_0.length : Int) x35_2 l0_1 (l0_1.length : Int) (wrap64 (x49_3 + 1)) l0_0 l0_1 t309 t310 t311 t312 t313 t314))) = some r := by rw [if_pos rfl] at H; exact H
                                clear H
                                have H := H1
                                clear H1
                                replace H := Option.bind_eq_some_iff.mp H
                                obtain ⟨t319, A310, H⟩ := H
                                replace H : (if t319 = true then ((impl_within.f (rd l0_1 x49_3) t311 t312).bind fun t320 => (if t320 = true then (impl_IsChoice.l1 k3 l0_0 (l0_0.length : Int) x35_2 l0_1 (l0_1.length : Int) (wrap64 (x49_3 + 1)) l0_0 l0_1 t309 t310 t311 t312 t313 t314) else (some false))) else (impl_IsChoice.l1 k3 l0_0 (l0_0.length : Int) x35_2 l0_1 (l0_1.length : Int) (wrap64 (x49_3 + 1)) l0_0 l0_1 t309 t310 t311 t312 t313 t314)) = some r := H
                                have A31 := Aside0.mk A310
                                clear A310
                                by_cases c32 : t319 = true
                                · subst c32
                                  have H1 : ((impl_within.f (rd l0_1 x49_3) t311 t312).bind fun t320 => (if t320 = true then (impl_IsChoice.l1 k3 l0_0 (l0_0.length : Int) x35_2 l0_1 (l0_1.length : Int) (wrap64 (x49_3 + 1)) l0_0 l0_1 t309 t310 t311 t312 t313 t314) else (some false))) = some r := by rw [if_pos rfl] at H; exact H
                                  clear H
                                  have H := H1
                                  clear H1
                                  replace H := Option.bind_eq_some_iff.mp H
                                  obtain ⟨t320, A330, H⟩ := H
                                  replace H : (if t320 = true then (impl_IsChoice.l1 k3 l0_0 (l0_0.length : Int) x35_2 l0_1 (l0_1.length : Int) (wrap64 (x49_3 + 1)) l0_0 l0_1 t309 t310 t311 t312 t313 t314) else (some false)) = some r := H
                                  have A33 := Aside0.mk A330
                                  clear A330
                                  by_cases c34 : t320 = true
                                  · subst c34
                                    have H1 : (impl_IsChoice.l1 k3 l0_0 (l0_0.length : Int) x35_2 l0_1 (l0_1.length : Int) (wrap64 (x49_3 + 1)) l0_0 l0_1 t309 t310 t311 t312 t313 t314) = some r := by rw [if_pos rfl] at H; exact H
                                    clear H
                                    have H := H1
                                    clear H1
                                    have H' := Aside0.mk H
                                    clear H
                                    have p317 : 0 ≤ (x49_3 : Int) := DT
                                    have q317 : x49_3 < (l0_1.length : Int) := DT
                                    obtain ⟨ad317, e317, hx317_0⟩ := Kd.at_int HR0_1.out x49_3 p317 q317
                                    cases e317
                                    replace hx317_0 := (HB.out.cell (World.block_lt_of_cell? w _ hx317_0)).trans hx317_0
                                    replace p317 := eq_true p317
                                    replace q317 := eq_true q317
                                    go_wp2_with (first | ((with_reducible refine gate_callee (f := 57) rfl ?_); refine gK (some 54) Try.func57 #[.int .i64 (rd l0_1 x49_3)] rfl rfl rfl ?_; (with_reducible refine (impl_isWord.calls (rd l0_1 x49_3) true _ A29.out).mono ?_); rintro e w' ⟨rfl, ⟨nd, rfl⟩⟩; refine ⟨_, rfl, ?_⟩; have hnb35 := NB316_304.out; have hnc35 := NB304_316.out; have hcz36_0 := bcv BK316.out 0 (.bool t309); have hcz36_1 := bcv BK316.out 1 (.bool t310); have hcz36_2 := bcv BK316.out 2 (.int .i64 t311); have hcz36_3 := bcv BK316.out 3 (.int .i64 t312); have hcz36_4 := bcv BK316.out 4 (.int .i64 t313); have hcz36_5 := bcv BK316.out 5 (.string t314); have hfz36 := blk_frozen BK316.out) | (go_at_call 77; (with_reducible refine (impl_form_imm.calls t309 t310 t311 t312 t313 t314 true _ A31.out).mono ?_); rintro e w37 ⟨rfl, hb⟩; replace BK304 := Aside0.mk (blk_below (bk BK304.out) hb); replace BK316 := Aside0.mk (blk_below (bk BK316.out) hb); replace HB := Aside0.mk (below_step BA hb); (try clear hb); have hcz38_0 := bcv BK316.out 0 (.bool t309); have hcz38_1 := bcv BK316.out 1 (.bool t310); have hcz38_2 := bcv BK316.out 2 (.int .i64 t311); have hcz38_3 := bcv BK316.out 3 (.int .i64 t312); have hcz38_4 := bcv BK316.out 4 (.int .i64 t313); have hcz38_5 := bcv BK316.out 5 (.string t314); have hfz38 := blk_frozen BK316.out) | (go_at_call 73; (with_reducible refine (impl_within.calls (rd l0_1 x49_3) t311 t312 true _ A33.out).mono ?_); rintro e w' ⟨rfl, ⟨nd, rfl⟩⟩))
                                    go_roundg k3
                                    case measure => have := HJ1.out; have := HK2.out; have := HK3.out; omega
                                    case rel => exact ⟨(wrap64 (x49_3 + 1)), EQ1, H', ⟨by have := HJ1.out; have := HK2.out; have := HK3.out; omega⟩, ⟨by (with_reducible repeat (first | refine blk_drewN ?_ _ | refine blk_drew ?_ | refine blk_alloc ?_ _)); exact BK304.out⟩, ⟨by (with_reducible repeat (first | refine blk_drewN ?_ _ | refine blk_drew ?_ | refine blk_alloc ?_ _)); exact BK316.out⟩, ⟨BA⟩⟩
                                  · replace c34 := Bool.eq_false_iff.mpr c34
                                    subst c34
                                    have H1 : (some false) = some r := by rw [if_neg (show ¬ (false = true) by decide)] at H; exact H
                                    clear H
                                    have H := H1
                                    clear H1
                                    obtain rfl := Option.some.inj H
                                    have p317 : 0 ≤ (x49_3 : Int) := DT
                                    have q317 : x49_3 < (l0_1.length : Int) := DT
                                    obtain ⟨ad317, e317, hx317_0⟩ := Kd.at_int HR0_1.out x49_3 p317 q317
                                    cases e317
                                    replace hx317_0 := (HB.out.cell (World.block_lt_of_cell? w _ hx317_0)).trans hx317_0
                                    replace p317 := eq_true p317
                                    replace q317 := eq_true q317
                                    go_wp2_with (first | ((with_reducible refine gate_callee (f := 57) rfl ?_); refine gK (some 54) Try.func57 #[.int .i64 (rd l0_1 x49_3)] rfl rfl rfl ?_; (with_reducible refine (impl_isWord.calls (rd l0_1 x49_3) true _ A29.out).mono ?_); rintro e w' ⟨rfl, ⟨nd, rfl⟩⟩; refine ⟨_, rfl, ?_⟩; have hnb39 := NB316_304.out; have hnc39 := NB304_316.out; have hcz40_0 := bcv BK316.out 0 (.bool t309); have hcz40_1 := bcv BK316.out 1 (.bool t310); have hcz40_2 := bcv BK316.out 2 (.int .i64 t311); have hcz40_3 := bcv BK316.out 3 (.int .i64 t312); have hcz40_4 := bcv BK316.out 4 (.int .i64 t313); have hcz40_5 := bcv BK316.out 5 (.string t314); have hfz40 := blk_frozen BK316.out) | (go_at_call 77; (with_reducible refine (impl_form_imm.calls t309 t310 t311 t312 t313 t314 true _ A31.out).mono ?_); rintro e w41 ⟨rfl, hb⟩; replace BK304 := Aside0.mk (blk_below (bk BK304.out) hb); replace BK316 := Aside0.mk (blk_below (bk BK316.out) hb); replace HB := Aside0.mk (below_step BA hb); (try clear hb); have hcz42_0 := bcv BK316.out 0 (.bool t309); have hcz42_1 := bcv BK316.out 1 (.bool t310); have hcz42_2 := bcv BK316.out 2 (.int .i64 t311); have hcz42_3 := bcv BK316.out 3 (.int .i64 t312); have hcz42_4 := bcv BK316.out 4 (.int .i64 t313); have hcz42_5 := bcv BK316.out 5 (.string t314); have hfz42 := blk_frozen BK316.out) | (go_at_call 73; (with_reducible refine (impl_within.calls (rd l0_1 x49_3) t311 t312 false _ A33.out).mono ?_); rintro e w' ⟨rfl, ⟨nd, rfl⟩⟩))
                                    go_ret
                                    exact ⟨EQ, BA⟩
                                · replace c32 := Bool.eq_false_iff.mpr c32
                                  subst c32
                                  have H1 : (impl_IsChoice.l1 k3 l0_0 (l0_0.length : Int) x35_2 l0_1 (l0_1.length : Int) (wrap64 (x49_3 + 1)) l0_0 l0_1 t309 t310 t311 t312 t313 t314) = some r := by rw [if_neg (show ¬ (false = true) by decide)] at H; exact H
                                  clear H
                                  have H := H1
                                  clear H1
                                  have H' := Aside0.mk H
                                  clear H
                                  have p317 : 0 ≤ (x49_3 : Int) := DT
                                  have q317 : x49_3 < (l0_1.length : Int) := DT
                                  obtain ⟨ad317, e317, hx317_0⟩ := Kd.at_int HR0_1.out x49_3 p317 q317
                                  cases e317
                                  replace hx317_0 := (HB.out.cell (World.block_lt_of_cell? w _ hx317_0)).trans hx317_0
                                  replace p317 := eq_true p317
                                  replace q317 := eq_true q317
                                  go_wp2_with (first | ((with_reducible refine gate_callee (f := 57) rfl ?_); refine gK (some 54) Try.func57 #[.int .i64 (rd l0_1 x49_3)] rfl rfl rfl ?_; (with_reducible refine (impl_isWord.calls (rd l0_1 x49_3) true _ A29.out).mono ?_); rintro e w' ⟨rfl, ⟨nd, rfl⟩⟩; refine ⟨_, rfl, ?_⟩; have hnb43 := NB316_304.out; have hnc43 := NB304_316.out; have hcz44_0 := bcv BK316.out 0 (.bool t309); have hcz44_1 := bcv BK316.out 1 (.bool t310); have hcz44_2 := bcv BK316.out 2 (.int .i64 t311); have hcz44_3 := bcv BK316.out 3 (.int .i64 t312); have hcz44_4 := bcv BK316.out 4 (.int .i64 t313); have hcz44_5 := bcv BK316.out 5 (.string t314); have hfz44 := blk_frozen BK316.out) | (go_at_call 77; (with_reducible refine (impl_form_imm.calls t309 t310 t311 t312 t313 t314 false _ A31.out).mono ?_); rintro e w45 ⟨rfl, hb⟩; replace BK304 := Aside0.mk (blk_below (bk BK304.out) hb); replace BK316 := Aside0.mk (blk_below (bk BK316.out) hb); replace HB := Aside0.mk (below_step BA hb); (try clear hb)))
                                  go_roundg k3
                                  case measure => have := HJ1.out; have := HK2.out; have := HK3.out; omega
                                  case rel => exact ⟨(wrap64 (x49_3 + 1)), EQ1, H', ⟨by have := HJ1.out; have := HK2.out; have := HK3.out; omega⟩, ⟨by (with_reducible repeat (first | refine blk_drewN ?_ _ | refine blk_drew ?_ | refine blk_alloc ?_ _)); exact BK304.out⟩, ⟨by (with_reducible repeat (first | refine blk_drewN ?_ _ | refine blk_drew ?_ | refine blk_alloc ?_ _)); exact BK316.out⟩, ⟨BA⟩⟩
                              · replace c30 := Bool.eq_false_iff.mpr c30
                                subst c30
                                have H1 : (some false) = some r := by rw [if_neg (show ¬ (false = true) by decide)] at H; exact H
                                clear H
                                have H := H1
                                clear H1
                                obtain rfl := Option.some.inj H
                                have p317 : 0 ≤ (x49_3 : Int) := DT
                                have q317 : x49_3 < (l0_1.length : Int) := DT
                                obtain ⟨ad317, e317, hx317_0⟩ := Kd.at_int HR0_1.out x49_3 p317 q317
                                cases e317
                                replace hx317_0 := (HB.out.cell (World.block_lt_of_cell? w _ hx317_0)).trans hx317_0
                                replace p317 := eq_true p317
                                replace q317 := eq_true q317
                                go_wp2_with (first | ((with_reducible refine gate_callee (f := 57) rfl ?_); refine gK (some 54) Try.func57 #[.int .i64 (rd l0_1 x49_3)] rfl rfl rfl ?_; (with_reducible refine (impl_isWord.calls (rd l0_1 x49_3) false _ A29.out).mono ?_); rintro e w' ⟨rfl, ⟨nd, rfl⟩⟩; refine ⟨_, rfl, ?_⟩))
                                go_ret
                                exact ⟨EQ, BA⟩
                            · rw [if_neg c28] at H
                              exact absurd H (by simp)
                          · rw [if_neg c27] at H
                            exact absurd H (by simp)
                        · rw [if_neg c26] at H
                          have c26b0 := decide_eq_false c26
                          clear c26
                          have H' := Aside0.mk H
                          clear H
                          go_wp2
                          go_roundg k3
                          case measure => have := HJ1.out; have := HK2.out; have := HK3.out; omega
                          case rel => exact ⟨(wrap64 (x35_2 + 1)), EQ1, H', ⟨by have := HJ1.out; have := HK2.out; have := HK3.out; omega⟩, ⟨by (with_reducible repeat (first | refine blk_drewN ?_ _ | refine blk_drew ?_ | refine blk_alloc ?_ _)); exact BK304.out⟩, ⟨BA⟩⟩
                  · replace c20 := Bool.eq_false_iff.mpr c20
                    subst c20
                    have H1 : (some false) = some r := by rw [if_neg (show ¬ (false = true) by decide)] at H; exact H
                    clear H
                    have H := H1
                    clear H1
                    obtain rfl := Option.some.inj H
                    have p308 : 0 ≤ (x35_2 : Int) := DT
                    have q308 : x35_2 < (l0_0.length : Int) := DT
                    obtain ⟨ad308, e308, hx308_0⟩ := Kd.at_string HR0_0.out x35_2 p308 q308
                    cases e308
                    replace hx308_0 := (HB.out.cell (World.block_lt_of_cell? w _ hx308_0)).trans hx308_0
                    replace p308 := eq_true p308
                    replace q308 := eq_true q308
                    go_wp2_with (first | ((with_reducible refine gate_callee (f := 76) rfl ?_); refine gK (some 41) Try.func76 #[.string (rdOf ByteArray.empty l0_0 x35_2)] rfl rfl rfl ?_; (with_reducible refine (impl_formOf.calls (rdOf ByteArray.empty l0_0 x35_2) t309 t310 t311 t312 t313 t314 false _ A19.out).mono ?_); rintro e w46 ⟨rfl, hb⟩; refine ⟨_, rfl, ?_⟩; replace BK304 := Aside0.mk (blk_below (bk BK304.out) hb); replace HB := Aside0.mk (below_step BA hb); (try clear hb)) | ((with_reducible refine gate_dst (N := 5) rfl ?_); (try (refine gate_guard (by rfl) ?_; dsimp only)); refine box_event ?hg (N := 5) ?hd (cs := #[.bool false, .bool false, .int .i64 0, .int .i64 0, .int .i64 0, .string (⟨#[]⟩ : ByteArray)]) (t := 94) ?hr ?_; (case hd => rfl); (case hg => rfl); (case hr => first | (go_simp; done) | (go_simp; rfl)); intro gb316 hg w47 hbox hb; have BK316 := Aside0.mk (hbox); have GW316 := Aside0.mk ((by rw [hg]; exact (below_size BA) : w.heap.size ≤ gb316)); have GE316 := Aside0.mk ((by rw [hg]; exact (below_size BA) : w.heap.size ≤ gb316)); replace HB := Aside0.mk (below_step BA hb); have NB304_316 := Aside0.mk ((by rw [hg]; exact Nat.ne_of_lt (blk_lt (g := gb304) (o := .cells #[.slice (some ad308) l0_0.length c0_0, .slice A0_1 l0_1.length c0_1] 39 (0, 0)) (bk BK304.out)) : gb304 ≠ gb316)); have NB316_304 := Aside0.mk ((by rw [hg]; exact Nat.ne_of_gt (blk_lt (g := gb304) (o := .cells #[.slice (some ad308) l0_0.length c0_0, .slice A0_1 l0_1.length c0_1] 39 (0, 0)) (bk BK304.out)) : gb316 ≠ gb304)); replace BK304 := Aside0.mk (blk_below (bk BK304.out) hb); clear hb hbox hg; have hnb48 := NB316_304.out; have hnc48 := NB304_316.out; have hcz49_0 := bcv BK316.out 0 (.bool false); have hcz49_1 := bcv BK316.out 1 (.bool false); have hcz49_2 := bcv BK316.out 2 (.int .i64 0); have hcz49_3 := bcv BK316.out 3 (.int .i64 0); have hcz49_4 := bcv BK316.out 4 (.int .i64 0); have hcz49_5 := bcv BK316.out 5 (.string (⟨#[]⟩ : ByteArray)); have hfz49 := blk_frozen BK316.out))
                    go_ret
                    exact ⟨EQ, BA⟩
                · rw [if_neg c18] at H
                  exact absurd H (by simp)
              · rw [if_neg c17] at H
                exact absurd H (by simp)
            · rw [if_neg c16] at H
              have c16b0 := decide_eq_false c16
              clear c16
              obtain rfl := Option.some.inj H
              go_wp2
              go_ret
              exact ⟨EQ, BA⟩

/-! ### laws_eqIntS: function 42 -/
def laws_eqIntS.l0 : Nat → List Int → List Int → Int → Option (Bool)
  | 0, _, _, _ => none
  | k + 1, x0, x1, x5 => if x5 < (x0.length : Int) then (if 0 ≤ x5 then (if x5 < (x1.length : Int) then (if (rd x0 x5) = (rd x1 x5) then (laws_eqIntS.l0 k x0 x1 (wrap64 (x5 + 1))) else (some false)) else (none)) else (none)) else (some true)
def laws_eqIntS.f (k : Nat) (l0 : List Int) (l1 : List Int) : Option (Bool) := if (l0.length : Int) = (l1.length : Int) then (laws_eqIntS.l0 k l0 l1 0) else (some false)
theorem laws_eqIntS.mono_l : ∀ k, (∀ y0 y1 y2, LeO (laws_eqIntS.l0 k y0 y1 y2) (laws_eqIntS.l0 (k + 1) y0 y1 y2))
  | 0 => fun _ _ _ r h => by simp [laws_eqIntS.l0] at h
  | k + 1 => by
    have ih0 := laws_eqIntS.mono_l k
    · intro y0 y1 y2
      unfold laws_eqIntS.l0
      repeat' first | (with_reducible first | exact ih0 _ _ _ | exact LeO.refl _ | exact LeO.none _ | refine LeO.ite ?_ ?_ | refine LeO.bind ?_ (fun _ => ?_)) | exact LeO.none _ | refine LeO.ite ?_ ?_ | refine LeO.bind ?_ (fun _ => ?_)
theorem laws_eqIntS.mono : ∀ a0 a1 k, LeO (laws_eqIntS.f k a0 a1) (laws_eqIntS.f (k + 1) a0 a1) := by
  intro a0 a1 k
  have ih0 := laws_eqIntS.mono_l k
  unfold laws_eqIntS.f
  repeat' first | (with_reducible first | exact ih0 _ _ _ | exact LeO.refl _ | exact LeO.none _ | refine LeO.ite ?_ ?_ | refine LeO.bind ?_ (fun _ => ?_)) | exact LeO.none _ | refine LeO.ite ?_ ?_ | refine LeO.bind ?_ (fun _ => ?_)
set_option maxHeartbeats 8000000 in
set_option maxRecDepth 100000 in
theorem laws_eqIntS.calls (k : Nat) (A0 : Option Addr) (c0 : Nat) (l0 : List Int) (A1 : Option Addr) (c1 : Nat) (l1 : List Int) (r : Bool) (w : World) (hr0 : Kd.C (Kd.int .i64) w A0 l0.length l0) (hc0 : l0.length ≤ c0) (hr1 : Kd.C (Kd.int .i64) w A1 l1.length l1) (hc1 : l1.length ≤ c1) (h : laws_eqIntS.f k l0 l1 = some r) :
    Calls Try.prog 42 #[.slice A0 l0.length c0, .slice A1 l1.length c1] w fun e w' => e = .returned (.bool r) ∧ Drawn0 w w' := by
  have HR0 := Aside0.mk hr0
  have HC0 := Aside0.mk hc0
  clear hr0 hc0
  have HR1 := Aside0.mk hr1
  have HC1 := Aside0.mk hc1
  clear hr1 hc1
  have H : (if (l0.length : Int) = (l1.length : Int) then (laws_eqIntS.l0 k l0 l1 0) else (some false)) = some r := h
  clear h
  by_cases c3 : (l0.length : Int) = (l1.length : Int)
  · rw [if_pos c3] at H
    have c3b0 := beq_iff_eq.mpr c3
    have c3b1 := bne_eq_false_iff_eq.mpr c3
    have c3b2 : (l0.length == l1.length) = true := by first | simpa using c3 | (simp at c3 ⊢; omega)
    clear c3
    have H' := Aside0.mk H
    clear H
    go_enter Try.func42, Try.ntmps42
    go_wp2
    repeat (go_quiet (fail); try go_wp2)
    go_loopg [5] k (fun kq v5 w' => ∃ (x5_1 : Int), v5 = .int .i64 x5_1 ∧ Aside0 (laws_eqIntS.l0 kq l0 l1 x5_1 = some r) ∧ Aside0 (kq ≤ k) ∧ Drawn0 w w')
    case atStart => exact ⟨(0), EQ1, H', ⟨Nat.le_refl _⟩, DA⟩
    case round =>
      clear H'
      (try clear c1); (try clear p2); (try clear c3); (try clear c3b0); (try clear c3b1); (try clear c3b2)
      obtain ⟨x5_1, rfl, HA, HK1, ⟨m1, rfl⟩⟩ := hrel
      cases gk with
      | zero => exact absurd HA.out (by simp [laws_eqIntS.l0])
      | succ k1 =>
        have H := HA.out
        clear HA
        simp only [laws_eqIntS.l0] at H
        by_cases c4 : x5_1 < (l0.length : Int)
        · rw [if_pos c4] at H
          have c4b0 := decide_eq_true c4
          clear c4
          by_cases c5 : 0 ≤ x5_1
          · rw [if_pos c5] at H
            have c5b0 := decide_eq_true c5
            clear c5
            by_cases c6 : x5_1 < (l1.length : Int)
            · rw [if_pos c6] at H
              have c6b0 := decide_eq_true c6
              clear c6
              by_cases c7 : (rd l0 x5_1) = (rd l1 x5_1)
              · rw [if_pos c7] at H
                have c7b0 := beq_iff_eq.mpr c7
                have c7b1 := bne_eq_false_iff_eq.mpr c7
                clear c7
                have H' := Aside0.mk H
                clear H
                have p321 : 0 ≤ (x5_1 : Int) := DT
                have q321 : x5_1 < (l0.length : Int) := DT
                obtain ⟨ad321, e321, hx321_0⟩ := Kd.at_int HR0.out x5_1 p321 q321
                cases e321
                replace p321 := eq_true p321
                replace q321 := eq_true q321
                have p322 : 0 ≤ (x5_1 : Int) := DT
                have q322 : x5_1 < (l1.length : Int) := DT
                obtain ⟨ad322, e322, hx322_0⟩ := Kd.at_int HR1.out x5_1 p322 q322
                cases e322
                replace p322 := eq_true p322
                replace q322 := eq_true q322
                go_wp2
                repeat (go_quiet (fail); try go_wp2)
                go_roundg k1
                case measure => have := HK1.out; omega
                case rel => exact ⟨(wrap64 (x5_1 + 1)), EQ1, H', ⟨by have := HK1.out; omega⟩, DA⟩
              · rw [if_neg c7] at H
                have c7b0 := beq_eq_false_iff_ne.mpr c7
                have c7b1 := bne_iff_ne.mpr c7
                obtain rfl := Option.some.inj H
                have p321 : 0 ≤ (x5_1 : Int) := DT
                have q321 : x5_1 < (l0.length : Int) := DT
                obtain ⟨ad321, e321, hx321_0⟩ := Kd.at_int HR0.out x5_1 p321 q321
                cases e321
                replace p321 := eq_true p321
                replace q321 := eq_true q321
                have p322 : 0 ≤ (x5_1 : Int) := DT
                have q322 : x5_1 < (l1.length : Int) := DT
                obtain ⟨ad322, e322, hx322_0⟩ := Kd.at_int HR1.out x5_1 p322 q322
                cases e322
                replace p322 := eq_true p322
                replace q322 := eq_true q322
                go_wp2
                repeat (go_quiet (fail); try go_wp2)
                go_ret
                exact ⟨EQ1, DA⟩
            · rw [if_neg c6] at H
              exact absurd H (by simp)
          · rw [if_neg c5] at H
            exact absurd H (by simp)
        · rw [if_neg c4] at H
          have c4b0 := decide_eq_false c4
          clear c4
          obtain rfl := Option.some.inj H
          go_wp2
          repeat (go_quiet (fail); try go_wp2)
          go_ret
          exact ⟨EQ1, DA⟩
  · rw [if_neg c3] at H
    have c3b0 := beq_eq_false_iff_ne.mpr c3
    have c3b1 := bne_iff_ne.mpr c3
    have c3b2 : (l0.length == l1.length) = false := by first | simpa using c3 | (simp at c3 ⊢; omega)
    obtain rfl := Option.some.inj H
    go_enter Try.func42, Try.ntmps42
    go_wp2
    repeat (go_quiet (fail); try go_wp2)
    go_ret
    exact ⟨EQ1, DA⟩

/-! ### laws_eqStringS: function 78 -/
def laws_eqStringS.l0 : Nat → List ByteArray → List ByteArray → Int → Option (Bool)
  | 0, _, _, _ => none
  | k + 1, x0, x1, x5 => if x5 < (x0.length : Int) then (if 0 ≤ x5 then (if x5 < (x1.length : Int) then (if (rdOf ByteArray.empty x0 x5).toList = (rdOf ByteArray.empty x1 x5).toList then (laws_eqStringS.l0 k x0 x1 (wrap64 (x5 + 1))) else (some false)) else (none)) else (none)) else (some true)
def laws_eqStringS.f (k : Nat) (l0 : List ByteArray) (l1 : List ByteArray) : Option (Bool) := if (l0.length : Int) = (l1.length : Int) then (laws_eqStringS.l0 k l0 l1 0) else (some false)
theorem laws_eqStringS.mono_l : ∀ k, (∀ y0 y1 y2, LeO (laws_eqStringS.l0 k y0 y1 y2) (laws_eqStringS.l0 (k + 1) y0 y1 y2))
  | 0 => fun _ _ _ r h => by simp [laws_eqStringS.l0] at h
  | k + 1 => by
    have ih0 := laws_eqStringS.mono_l k
    · intro y0 y1 y2
      unfold laws_eqStringS.l0
      repeat' first | (with_reducible first | exact ih0 _ _ _ | exact LeO.refl _ | exact LeO.none _ | refine LeO.ite ?_ ?_ | refine LeO.bind ?_ (fun _ => ?_)) | exact LeO.none _ | refine LeO.ite ?_ ?_ | refine LeO.bind ?_ (fun _ => ?_)
theorem laws_eqStringS.mono : ∀ a0 a1 k, LeO (laws_eqStringS.f k a0 a1) (laws_eqStringS.f (k + 1) a0 a1) := by
  intro a0 a1 k
  have ih0 := laws_eqStringS.mono_l k
  unfold laws_eqStringS.f
  repeat' first | (with_reducible first | exact ih0 _ _ _ | exact LeO.refl _ | exact LeO.none _ | refine LeO.ite ?_ ?_ | refine LeO.bind ?_ (fun _ => ?_)) | exact LeO.none _ | refine LeO.ite ?_ ?_ | refine LeO.bind ?_ (fun _ => ?_)
set_option maxHeartbeats 8000000 in
set_option maxRecDepth 100000 in
theorem laws_eqStringS.calls (k : Nat) (A0 : Option Addr) (c0 : Nat) (l0 : List ByteArray) (A1 : Option Addr) (c1 : Nat) (l1 : List ByteArray) (r : Bool) (w : World) (hr0 : Kd.C Kd.string w A0 l0.length l0) (hc0 : l0.length ≤ c0) (hr1 : Kd.C Kd.string w A1 l1.length l1) (hc1 : l1.length ≤ c1) (h : laws_eqStringS.f k l0 l1 = some r) :
    Calls Try.prog 78 #[.slice A0 l0.length c0, .slice A1 l1.length c1] w fun e w' => e = .returned (.bool r) ∧ Drawn0 w w' := by
  have HR0 := Aside0.mk hr0
  have HC0 := Aside0.mk hc0
  clear hr0 hc0
  have HR1 := Aside0.mk hr1
  have HC1 := Aside0.mk hc1
  clear hr1 hc1
  have H : (if (l0.length : Int) = (l1.length : Int) then (laws_eqStringS.l0 k l0 l1 0) else (some false)) = some r := h
  clear h
  by_cases c3 : (l0.length : Int) = (l1.length : Int)
  · rw [if_pos c3] at H
    have c3b0 := beq_iff_eq.mpr c3
    have c3b1 := bne_eq_false_iff_eq.mpr c3
    have c3b2 : (l0.length == l1.length) = true := by first | simpa using c3 | (simp at c3 ⊢; omega)
    clear c3
    have H' := Aside0.mk H
    clear H
    go_enter Try.func78, Try.ntmps78
    go_wp2
    repeat (go_quiet (fail); try go_wp2)
    go_loopg [5] k (fun kq v5 w' => ∃ (x5_1 : Int), v5 = .int .i64 x5_1 ∧ Aside0 (laws_eqStringS.l0 kq l0 l1 x5_1 = some r) ∧ Aside0 (kq ≤ k) ∧ Drawn0 w w')
    case atStart => exact ⟨(0), EQ1, H', ⟨Nat.le_refl _⟩, DA⟩
    case round =>
      clear H'
      (try clear c1); (try clear p2); (try clear c3); (try clear c3b0); (try clear c3b1); (try clear c3b2)
      obtain ⟨x5_1, rfl, HA, HK1, ⟨m1, rfl⟩⟩ := hrel
      cases gk with
      | zero => exact absurd HA.out (by simp [laws_eqStringS.l0])
      | succ k1 =>
        have H := HA.out
        clear HA
        simp only [laws_eqStringS.l0] at H
        by_cases c4 : x5_1 < (l0.length : Int)
        · rw [if_pos c4] at H
          have c4b0 := decide_eq_true c4
          clear c4
          by_cases c5 : 0 ≤ x5_1
          · rw [if_pos c5] at H
            have c5b0 := decide_eq_true c5
            clear c5
            by_cases c6 : x5_1 < (l1.length : Int)
            · rw [if_pos c6] at H
              have c6b0 := decide_eq_true c6
              clear c6
              by_cases c7 : (rdOf ByteArray.empty l0 x5_1).toList = (rdOf ByteArray.empty l1 x5_1).toList
              · rw [if_pos c7] at H
                have c7b0 := beq_iff_eq.mpr c7
                have c7b1 := bne_eq_false_iff_eq.mpr c7
                clear c7
                have H' := Aside0.mk H
                clear H
                have p323 : 0 ≤ (x5_1 : Int) := DT
                have q323 : x5_1 < (l0.length : Int) := DT
                obtain ⟨ad323, e323, hx323_0⟩ := Kd.at_string HR0.out x5_1 p323 q323
                cases e323
                replace p323 := eq_true p323
                replace q323 := eq_true q323
                have p324 : 0 ≤ (x5_1 : Int) := DT
                have q324 : x5_1 < (l1.length : Int) := DT
                obtain ⟨ad324, e324, hx324_0⟩ := Kd.at_string HR1.out x5_1 p324 q324
                cases e324
                replace p324 := eq_true p324
                replace q324 := eq_true q324
                go_wp2
                repeat (go_quiet (fail); try go_wp2)
                go_roundg k1
                case measure => have := HK1.out; omega
                case rel => exact ⟨(wrap64 (x5_1 + 1)), EQ1, H', ⟨by have := HK1.out; omega⟩, DA⟩
              · rw [if_neg c7] at H
                have c7b0 := beq_eq_false_iff_ne.mpr c7
                have c7b1 := bne_iff_ne.mpr c7
                obtain rfl := Option.some.inj H
                have p323 : 0 ≤ (x5_1 : Int) := DT
                have q323 : x5_1 < (l0.length : Int) := DT
                obtain ⟨ad323, e323, hx323_0⟩ := Kd.at_string HR0.out x5_1 p323 q323
                cases e323
                replace p323 := eq_true p323
                replace q323 := eq_true q323
                have p324 : 0 ≤ (x5_1 : Int) := DT
                have q324 : x5_1 < (l1.length : Int) := DT
                obtain ⟨ad324, e324, hx324_0⟩ := Kd.at_string HR1.out x5_1 p324 q324
                cases e324
                replace p324 := eq_true p324
                replace q324 := eq_true q324
                go_wp2
                repeat (go_quiet (fail); try go_wp2)
                go_ret
                exact ⟨EQ1, DA⟩
            · rw [if_neg c6] at H
              exact absurd H (by simp)
          · rw [if_neg c5] at H
            exact absurd H (by simp)
        · rw [if_neg c4] at H
          have c4b0 := decide_eq_false c4
          clear c4
          obtain rfl := Option.some.inj H
          go_wp2
          repeat (go_quiet (fail); try go_wp2)
          go_ret
          exact ⟨EQ1, DA⟩
  · rw [if_neg c3] at H
    have c3b0 := beq_eq_false_iff_ne.mpr c3
    have c3b1 := bne_iff_ne.mpr c3
    have c3b2 : (l0.length == l1.length) = false := by first | simpa using c3 | (simp at c3 ⊢; omega)
    obtain rfl := Option.some.inj H
    go_enter Try.func78, Try.ntmps78
    go_wp2
    repeat (go_quiet (fail); try go_wp2)
    go_ret
    exact ⟨EQ1, DA⟩

/-! ### laws_eqChoice: function 25 -/
def laws_eqChoice.f (k : Nat) (l0_0 : List ByteArray) (l0_1 : List Int) (l1_0 : List ByteArray) (l1_1 : List Int) : Option (Bool) := (laws_eqStringS.f k l0_0 l1_0).bind fun t327 => (if t327 = true then ((laws_eqIntS.f k l0_1 l1_1).bind fun t328 => (if t328 = true then (some true) else (some false))) else (some false))
theorem laws_eqChoice.mono : ∀ a0 a1 a2 a3 k, LeO (laws_eqChoice.f k a0 a1 a2 a3) (laws_eqChoice.f (k + 1) a0 a1 a2 a3) := by
  intro a0 a1 a2 a3 k
  unfold laws_eqChoice.f
  repeat' first | (with_reducible first | exact laws_eqIntS.mono _ _ _ | exact laws_eqStringS.mono _ _ _ | exact LeO.refl _ | exact LeO.none _ | refine LeO.ite ?_ ?_ | refine LeO.bind ?_ (fun _ => ?_)) | exact LeO.none _ | refine LeO.ite ?_ ?_ | refine LeO.bind ?_ (fun _ => ?_)
set_option maxHeartbeats 8000000 in
set_option maxRecDepth 100000 in
theorem laws_eqChoice.calls (k : Nat) (A0_0 : Option Addr) (c0_0 : Nat) (l0_0 : List ByteArray) (A0_1 : Option Addr) (c0_1 : Nat) (l0_1 : List Int) (A1_0 : Option Addr) (c1_0 : Nat) (l1_0 : List ByteArray) (A1_1 : Option Addr) (c1_1 : Nat) (l1_1 : List Int) (r : Bool) (w : World) (hr0_0 : Kd.C Kd.string w A0_0 l0_0.length l0_0) (hc0_0 : l0_0.length ≤ c0_0) (hr0_1 : Kd.C (Kd.int .i64) w A0_1 l0_1.length l0_1) (hc0_1 : l0_1.length ≤ c0_1) (hr1_0 : Kd.C Kd.string w A1_0 l1_0.length l1_0) (hc1_0 : l1_0.length ≤ c1_0) (hr1_1 : Kd.C (Kd.int .i64) w A1_1 l1_1.length l1_1) (hc1_1 : l1_1.length ≤ c1_1) (h : laws_eqChoice.f k l0_0 l0_1 l1_0 l1_1 = some r) :
    Calls Try.prog 25 #[.agg #[.slice A0_0 l0_0.length c0_0, .slice A0_1 l0_1.length c0_1], .agg #[.slice A1_0 l1_0.length c1_0, .slice A1_1 l1_1.length c1_1]] w fun e w' => e = .returned (.bool r) ∧ Below w.heap.size w w' := by
  have hu39 := Try.underlying39
  have HR0_0 := Aside0.mk hr0_0
  have HC0_0 := Aside0.mk hc0_0
  clear hr0_0 hc0_0
  have HR0_1 := Aside0.mk hr0_1
  have HC0_1 := Aside0.mk hc0_1
  clear hr0_1 hc0_1
  have HR1_0 := Aside0.mk hr1_0
  have HC1_0 := Aside0.mk hc1_0
  clear hr1_0 hc1_0
  have HR1_1 := Aside0.mk hr1_1
  have HC1_1 := Aside0.mk hc1_1
  clear hr1_1 hc1_1
  have HB := Aside0.mk (Below.refl w.heap.size w)
  have H : ((laws_eqStringS.f k l0_0 l1_0).bind fun t327 => (if t327 = true then ((laws_eqIntS.f k l0_1 l1_1).bind fun t328 => (if t328 = true then (some true) else (some false))) else (some false))) = some r := h
  clear h
  replace H := Option.bind_eq_some_iff.mp H
  obtain ⟨t327, A30, H⟩ := H
  replace H : (if t327 = true then ((laws_eqIntS.f k l0_1 l1_1).bind fun t328 => (if t328 = true then (some true) else (some false))) else (some false)) = some r := H
  have A3 := Aside0.mk A30
  clear A30
  by_cases c4 : t327 = true
  · subst c4
    have H1 : ((laws_eqIntS.f k l0_1 l1_1).bind fun t328 => (if t328 = true then (some true) else (some false))) = some r := by rw [if_pos rfl] at H; exact H
    clear H
    have H := H1
    clear H1
    replace H := Option.bind_eq_some_iff.mp H
    obtain ⟨t328, A50, H⟩ := H
    replace H : (if t328 = true then (some true) else (some false)) = some r := H
    have A5 := Aside0.mk A50
    clear A50
    by_cases c6 : t328 = true
    · subst c6
      have H1 : (some true) = some r := by rw [if_pos rfl] at H; exact H
      clear H
      have H := H1
      clear H1
      obtain rfl := Option.some.inj H
      go_enter Try.func25, Try.ntmps25
      go_wp2_with (first | ((with_reducible refine gate_dst (N := 2) rfl ?_); refine box_event ?hg (N := 2) ?hd (cs := #[.slice A0_0 l0_0.length c0_0, .slice A0_1 l0_1.length c0_1]) (t := 39) ?hr ?_; (case hd => rfl); (case hg => rfl); (case hr => first | (go_simp; done) | (go_simp; rfl)); intro gb325 hg w7 hbox hb; have BK325 := Aside0.mk (hbox); have GW325 := Aside0.mk ((by rw [hg]; exact (below_size BA) : w.heap.size ≤ gb325)); have GE325 := Aside0.mk ((by rw [hg]; exact (below_size BA) : w.heap.size ≤ gb325)); replace HB := Aside0.mk (below_step BA hb); clear hb hbox hg) | ((with_reducible refine gate_dst (N := 3) rfl ?_); refine box_event ?hg (N := 3) ?hd (cs := #[.slice A1_0 l1_0.length c1_0, .slice A1_1 l1_1.length c1_1]) (t := 39) ?hr ?_; (case hd => rfl); (case hg => rfl); (case hr => first | (go_simp; done) | (go_simp; rfl)); intro gb326 hg w8 hbox hb; have BK326 := Aside0.mk (hbox); have GW326 := Aside0.mk ((by rw [hg]; exact (below_size BA) : w.heap.size ≤ gb326)); have GE326 := Aside0.mk ((by rw [hg]; exact (below_size BA) : w.heap.size ≤ gb326)); replace HB := Aside0.mk (below_step BA hb); have NB325_326 := Aside0.mk ((by rw [hg]; exact Nat.ne_of_lt (blk_lt (g := gb325) (o := .cells #[.slice A0_0 l0_0.length c0_0, .slice A0_1 l0_1.length c0_1] 39 (0, 0)) (bk BK325.out)) : gb325 ≠ gb326)); have NB326_325 := Aside0.mk ((by rw [hg]; exact Nat.ne_of_gt (blk_lt (g := gb325) (o := .cells #[.slice A0_0 l0_0.length c0_0, .slice A0_1 l0_1.length c0_1] 39 (0, 0)) (bk BK325.out)) : gb326 ≠ gb325)); replace BK325 := Aside0.mk (blk_below (bk BK325.out) hb); clear hb hbox hg; have hnb9 := NB325_326.out; have hnc9 := NB326_325.out; have hcz10_0 := bcv BK325.out 0 (.slice A0_0 l0_0.length c0_0); have hcz10_1 := bcv BK325.out 1 (.slice A0_1 l0_1.length c0_1); have hfz10 := blk_frozen BK325.out; have hcz11_0 := bcv BK326.out 0 (.slice A1_0 l1_0.length c1_0); have hcz11_1 := bcv BK326.out 1 (.slice A1_1 l1_1.length c1_1); have hfz11 := blk_frozen BK326.out) | ((with_reducible refine gate_callee (f := 78) rfl ?_); refine gK (some 9) Try.func78 #[.slice A0_0 l0_0.length c0_0, .slice A1_0 l1_0.length c1_0] rfl rfl rfl ?_; (with_reducible refine (laws_eqStringS.calls k _ _ l0_0 _ _ l1_0 true _ ?side1 ?side2 ?side3 ?side4 A3.out).mono ?_); (case side1 => exact cb (Kd.C_below HR0_0.out HB.out)); (case side2 => exact HC0_0.out); (case side3 => exact cb (Kd.C_below HR1_0.out HB.out)); (case side4 => exact HC1_0.out); rintro e w' ⟨rfl, ⟨nd, rfl⟩⟩; refine ⟨_, rfl, ?_⟩) | ((with_reducible refine gate_callee (f := 42) rfl ?_); refine gK (some 15) Try.func42 #[.slice A0_1 l0_1.length c0_1, .slice A1_1 l1_1.length c1_1] rfl rfl rfl ?_; (with_reducible refine (laws_eqIntS.calls k _ _ l0_1 _ _ l1_1 true _ ?side1 ?side2 ?side3 ?side4 A5.out).mono ?_); (case side1 => exact cb (Kd.C_below HR0_1.out BA)); (case side2 => exact HC0_1.out); (case side3 => exact cb (Kd.C_below HR1_1.out BA)); (case side4 => exact HC1_1.out); rintro e w' ⟨rfl, ⟨nd, rfl⟩⟩; refine ⟨_, rfl, ?_⟩))
      go_ret
      exact ⟨EQ, BA⟩
    · replace c6 := Bool.eq_false_iff.mpr c6
      subst c6
      have H1 : (some false) = some r := by rw [if_neg (show ¬ (false = true) by decide)] at H; exact H
      clear H
      have H := H1
      clear H1
      obtain rfl := Option.some.inj H
      go_enter Try.func25, Try.ntmps25
      go_wp2_with (first | ((with_reducible refine gate_dst (N := 2) rfl ?_); refine box_event ?hg (N := 2) ?hd (cs := #[.slice A0_0 l0_0.length c0_0, .slice A0_1 l0_1.length c0_1]) (t := 39) ?hr ?_; (case hd => rfl); (case hg => rfl); (case hr => first | (go_simp; done) | (go_simp; rfl)); intro gb325 hg w12 hbox hb; have BK325 := Aside0.mk (hbox); have GW325 := Aside0.mk ((by rw [hg]; exact (below_size BA) : w.heap.size ≤ gb325)); have GE325 := Aside0.mk ((by rw [hg]; exact (below_size BA) : w.heap.size ≤ gb325)); replace HB := Aside0.mk (below_step BA hb); clear hb hbox hg) | ((with_reducible refine gate_dst (N := 3) rfl ?_); refine box_event ?hg (N := 3) ?hd (cs := #[.slice A1_0 l1_0.length c1_0, .slice A1_1 l1_1.length c1_1]) (t := 39) ?hr ?_; (case hd => rfl); (case hg => rfl); (case hr => first | (go_simp; done) | (go_simp; rfl)); intro gb326 hg w13 hbox hb; have BK326 := Aside0.mk (hbox); have GW326 := Aside0.mk ((by rw [hg]; exact (below_size BA) : w.heap.size ≤ gb326)); have GE326 := Aside0.mk ((by rw [hg]; exact (below_size BA) : w.heap.size ≤ gb326)); replace HB := Aside0.mk (below_step BA hb); have NB325_326 := Aside0.mk ((by rw [hg]; exact Nat.ne_of_lt (blk_lt (g := gb325) (o := .cells #[.slice A0_0 l0_0.length c0_0, .slice A0_1 l0_1.length c0_1] 39 (0, 0)) (bk BK325.out)) : gb325 ≠ gb326)); have NB326_325 := Aside0.mk ((by rw [hg]; exact Nat.ne_of_gt (blk_lt (g := gb325) (o := .cells #[.slice A0_0 l0_0.length c0_0, .slice A0_1 l0_1.length c0_1] 39 (0, 0)) (bk BK325.out)) : gb326 ≠ gb325)); replace BK325 := Aside0.mk (blk_below (bk BK325.out) hb); clear hb hbox hg; have hnb14 := NB325_326.out; have hnc14 := NB326_325.out; have hcz15_0 := bcv BK325.out 0 (.slice A0_0 l0_0.length c0_0); have hcz15_1 := bcv BK325.out 1 (.slice A0_1 l0_1.length c0_1); have hfz15 := blk_frozen BK325.out; have hcz16_0 := bcv BK326.out 0 (.slice A1_0 l1_0.length c1_0); have hcz16_1 := bcv BK326.out 1 (.slice A1_1 l1_1.length c1_1); have hfz16 := blk_frozen BK326.out) | ((with_reducible refine gate_callee (f := 78) rfl ?_); refine gK (some 9) Try.func78 #[.slice A0_0 l0_0.length c0_0, .slice A1_0 l1_0.length c1_0] rfl rfl rfl ?_; (with_reducible refine (laws_eqStringS.calls k _ _ l0_0 _ _ l1_0 true _ ?side1 ?side2 ?side3 ?side4 A3.out).mono ?_); (case side1 => exact cb (Kd.C_below HR0_0.out HB.out)); (case side2 => exact HC0_0.out); (case side3 => exact cb (Kd.C_below HR1_0.out HB.out)); (case side4 => exact HC1_0.out); rintro e w' ⟨rfl, ⟨nd, rfl⟩⟩; refine ⟨_, rfl, ?_⟩) | ((with_reducible refine gate_callee (f := 42) rfl ?_); refine gK (some 15) Try.func42 #[.slice A0_1 l0_1.length c0_1, .slice A1_1 l1_1.length c1_1] rfl rfl rfl ?_; (with_reducible refine (laws_eqIntS.calls k _ _ l0_1 _ _ l1_1 false _ ?side1 ?side2 ?side3 ?side4 A5.out).mono ?_); (case side1 => exact cb (Kd.C_below HR0_1.out BA)); (case side2 => exact HC0_1.out); (case side3 => exact cb (Kd.C_below HR1_1.out BA)); (case side4 => exact HC1_1.out); rintro e w' ⟨rfl, ⟨nd, rfl⟩⟩; refine ⟨_, rfl, ?_⟩))
      go_ret
      exact ⟨EQ, BA⟩
  · replace c4 := Bool.eq_false_iff.mpr c4
    subst c4
    have H1 : (some false) = some r := by rw [if_neg (show ¬ (false = true) by decide)] at H; exact H
    clear H
    have H := H1
    clear H1
    obtain rfl := Option.some.inj H
    go_enter Try.func25, Try.ntmps25
    go_wp2_with (first | ((with_reducible refine gate_dst (N := 2) rfl ?_); refine box_event ?hg (N := 2) ?hd (cs := #[.slice A0_0 l0_0.length c0_0, .slice A0_1 l0_1.length c0_1]) (t := 39) ?hr ?_; (case hd => rfl); (case hg => rfl); (case hr => first | (go_simp; done) | (go_simp; rfl)); intro gb325 hg w17 hbox hb; have BK325 := Aside0.mk (hbox); have GW325 := Aside0.mk ((by rw [hg]; exact (below_size BA) : w.heap.size ≤ gb325)); have GE325 := Aside0.mk ((by rw [hg]; exact (below_size BA) : w.heap.size ≤ gb325)); replace HB := Aside0.mk (below_step BA hb); clear hb hbox hg) | ((with_reducible refine gate_dst (N := 3) rfl ?_); refine box_event ?hg (N := 3) ?hd (cs := #[.slice A1_0 l1_0.length c1_0, .slice A1_1 l1_1.length c1_1]) (t := 39) ?hr ?_; (case hd => rfl); (case hg => rfl); (case hr => first | (go_simp; done) | (go_simp; rfl)); intro gb326 hg w18 hbox hb; have BK326 := Aside0.mk (hbox); have GW326 := Aside0.mk ((by rw [hg]; exact (below_size BA) : w.heap.size ≤ gb326)); have GE326 := Aside0.mk ((by rw [hg]; exact (below_size BA) : w.heap.size ≤ gb326)); replace HB := Aside0.mk (below_step BA hb); have NB325_326 := Aside0.mk ((by rw [hg]; exact Nat.ne_of_lt (blk_lt (g := gb325) (o := .cells #[.slice A0_0 l0_0.length c0_0, .slice A0_1 l0_1.length c0_1] 39 (0, 0)) (bk BK325.out)) : gb325 ≠ gb326)); have NB326_325 := Aside0.mk ((by rw [hg]; exact Nat.ne_of_gt (blk_lt (g := gb325) (o := .cells #[.slice A0_0 l0_0.length c0_0, .slice A0_1 l0_1.length c0_1] 39 (0, 0)) (bk BK325.out)) : gb326 ≠ gb325)); replace BK325 := Aside0.mk (blk_below (bk BK325.out) hb); clear hb hbox hg; have hnb19 := NB325_326.out; have hnc19 := NB326_325.out; have hcz20_0 := bcv BK325.out 0 (.slice A0_0 l0_0.length c0_0); have hcz20_1 := bcv BK325.out 1 (.slice A0_1 l0_1.length c0_1); have hfz20 := blk_frozen BK325.out; have hcz21_0 := bcv BK326.out 0 (.slice A1_0 l1_0.length c1_0); have hcz21_1 := bcv BK326.out 1 (.slice A1_1 l1_1.length c1_1); have hfz21 := blk_frozen BK326.out) | ((with_reducible refine gate_callee (f := 78) rfl ?_); refine gK (some 9) Try.func78 #[.slice A0_0 l0_0.length c0_0, .slice A1_0 l1_0.length c1_0] rfl rfl rfl ?_; (with_reducible refine (laws_eqStringS.calls k _ _ l0_0 _ _ l1_0 false _ ?side1 ?side2 ?side3 ?side4 A3.out).mono ?_); (case side1 => exact cb (Kd.C_below HR0_0.out HB.out)); (case side2 => exact HC0_0.out); (case side3 => exact cb (Kd.C_below HR1_0.out HB.out)); (case side4 => exact HC1_0.out); rintro e w' ⟨rfl, ⟨nd, rfl⟩⟩; refine ⟨_, rfl, ?_⟩))
    go_ret
    exact ⟨EQ, BA⟩

/-! ### laws_FnExactIsChoice: function 5 -/
def laws_FnExactIsChoice.f (k : Nat) (l0_0 : List ByteArray) (l0_1 : List Int) : Option (Bool) := (laws_szChoice.f k l0_0 l0_1 1048576).bind fun t330 => (if t330 < 0 then (some true) else ((laws_toChoice.f k l0_0 l0_1).bind fun bt331 => ((spec_IsChoice.f k bt331.1 bt331.2).bind fun t337 => ((laws_toChoice.f k l0_0 l0_1).bind fun bt338 => ((impl_IsChoice.f k bt338.1 bt338.2).bind fun t345 => (if (t345 != t337) = true then (some false) else ((laws_toChoice.f k l0_0 l0_1).bind fun bt346 => ((laws_eqChoice.f k bt338.1 bt338.2 bt346.1 bt346.2).bind fun t352 => (if t352 = true then (some true) else (some false))))))))))
theorem laws_FnExactIsChoice.mono : ∀ a0 a1 k, LeO (laws_FnExactIsChoice.f k a0 a1) (laws_FnExactIsChoice.f (k + 1) a0 a1) := by
  intro a0 a1 k
  unfold laws_FnExactIsChoice.f
  repeat' first | (with_reducible first | exact impl_IsChoice.mono _ _ _ | exact laws_eqChoice.mono _ _ _ _ _ | exact laws_szChoice.mono _ _ _ _ | exact laws_toChoice.mono _ _ _ | exact spec_IsChoice.mono _ _ _ | exact LeO.refl _ | exact LeO.none _ | refine LeO.ite ?_ ?_ | refine LeO.bind ?_ (fun _ => ?_)) | exact LeO.none _ | refine LeO.ite ?_ ?_ | refine LeO.bind ?_ (fun _ => ?_)
set_option maxHeartbeats 8000000 in
set_option maxRecDepth 100000 in
theorem laws_FnExactIsChoice.calls (k : Nat) (A0_0 : Option Addr) (c0_0 : Nat) (l0_0 : List ByteArray) (A0_1 : Option Addr) (c0_1 : Nat) (l0_1 : List Int) (r : Bool) (w : World) (hr0_0 : Kd.C Kd.string w A0_0 l0_0.length l0_0) (hc0_0 : l0_0.length ≤ c0_0) (hr0_1 : Kd.C (Kd.int .i64) w A0_1 l0_1.length l0_1) (hc0_1 : l0_1.length ≤ c0_1) (h : laws_FnExactIsChoice.f k l0_0 l0_1 = some r) :
    Calls Try.prog 5 #[.agg #[.slice A0_0 l0_0.length c0_0, .slice A0_1 l0_1.length c0_1]] w fun e w' => e = .returned (.bool r) ∧ Below w.heap.size w w' := by
  have hu36 := Try.underlying36
  have hu39 := Try.underlying39
  have HR0_0 := Aside0.mk hr0_0
  have HC0_0 := Aside0.mk hc0_0
  clear hr0_0 hc0_0
  have HR0_1 := Aside0.mk hr0_1
  have HC0_1 := Aside0.mk hc0_1
  clear hr0_1 hc0_1
  have HB := Aside0.mk (Below.refl w.heap.size w)
  have H : ((laws_szChoice.f k l0_0 l0_1 1048576).bind fun t330 => (if t330 < 0 then (some true) else ((laws_toChoice.f k l0_0 l0_1).bind fun bt331 => ((spec_IsChoice.f k bt331.1 bt331.2).bind fun t337 => ((laws_toChoice.f k l0_0 l0_1).bind fun bt338 => ((impl_IsChoice.f k bt338.1 bt338.2).bind fun t345 => (if (t345 != t337) = true then (some false) else ((laws_toChoice.f k l0_0 l0_1).bind fun bt346 => ((laws_eqChoice.f k bt338.1 bt338.2 bt346.1 bt346.2).bind fun t352 => (if t352 = true then (some true) else (some false))))))))))) = some r := h
  clear h
  replace H := Option.bind_eq_some_iff.mp H
  obtain ⟨t330, A20, H⟩ := H
  replace H : (if t330 < 0 then (some true) else ((laws_toChoice.f k l0_0 l0_1).bind fun bt331 => ((spec_IsChoice.f k bt331.1 bt331.2).bind fun t337 => ((laws_toChoice.f k l0_0 l0_1).bind fun bt338 => ((impl_IsChoice.f k bt338.1 bt338.2).bind fun t345 => (if (t345 != t337) = true then (some false) else ((laws_toChoice.f k l0_0 l0_1).bind fun bt346 => ((laws_eqChoice.f k bt338.1 bt338.2 bt346.1 bt346.2).bind fun t352 => (if t352 = true then (some true) else (some false)))))))))) = some r := H
  have A2 := Aside0.mk A20
  clear A20
  by_cases c3 : t330 < 0
  · rw [if_pos c3] at H
    have c3b0 := decide_eq_true c3
    clear c3
    obtain rfl := Option.some.inj H
    go_enter Try.func5, Try.ntmps5
    go_wp2_with (first | ((with_reducible refine gate_dst (N := 1) rfl ?_); refine box_event ?hg (N := 1) ?hd (cs := #[.slice A0_0 l0_0.length c0_0, .slice A0_1 l0_1.length c0_1]) (t := 36) ?hr ?_; (case hd => rfl); (case hg => rfl); (case hr => first | (go_simp; done) | (go_simp; rfl)); intro gb329 hg w4 hbox hb; have BK329 := Aside0.mk (hbox); have GW329 := Aside0.mk ((by rw [hg]; exact (below_size BA) : w.heap.size ≤ gb329)); have GE329 := Aside0.mk ((by rw [hg]; exact (below_size BA) : w.heap.size ≤ gb329)); replace HB := Aside0.mk (below_step BA hb); clear hb hbox hg; have hcz5_0 := bcv BK329.out 0 (.slice A0_0 l0_0.length c0_0); have hcz5_1 := bcv BK329.out 1 (.slice A0_1 l0_1.length c0_1); have hfz5 := blk_frozen BK329.out) | ((with_reducible refine gate_callee (f := 21) rfl ?_); refine gK (some 9) Try.func21 #[.agg #[.slice A0_0 l0_0.length c0_0, .slice A0_1 l0_1.length c0_1], .int .i64 1048576] rfl rfl rfl ?_; (with_reducible refine (laws_szChoice.calls k _ _ l0_0 _ _ l0_1 1048576 t330 _ ?side1 ?side2 ?side3 ?side4 A2.out).mono ?_); (case side1 => exact cb (Kd.C_below HR0_0.out HB.out)); (case side2 => exact HC0_0.out); (case side3 => exact cb (Kd.C_below HR0_1.out HB.out)); (case side4 => exact HC0_1.out); rintro e w6 ⟨rfl, hb⟩; refine ⟨_, rfl, ?_⟩; replace BK329 := Aside0.mk (blk_below (bk BK329.out) hb); replace HB := Aside0.mk (below_step BA hb); (try clear hb)))
    go_ret
    exact ⟨EQ, BA⟩
  · rw [if_neg c3] at H
    have c3b0 := decide_eq_false c3
    clear c3
    replace H := Option.bind_eq_some_iff.mp H
    obtain ⟨⟨t331, t334⟩, A70, H⟩ := H
    replace H : ((spec_IsChoice.f k t331 t334).bind fun t337 => ((laws_toChoice.f k l0_0 l0_1).bind fun bt338 => ((impl_IsChoice.f k bt338.1 bt338.2).bind fun t345 => (if (t345 != t337) = true then (some false) else ((laws_toChoice.f k l0_0 l0_1).bind fun bt346 => ((laws_eqChoice.f k bt338.1 bt338.2 bt346.1 bt346.2).bind fun t352 => (if t352 = true then (some true) else (some false)))))))) = some r := H
    have A7 := Aside0.mk A70
    clear A70
    replace H := Option.bind_eq_some_iff.mp H
    obtain ⟨t337, A80, H⟩ := H
    replace H : ((laws_toChoice.f k l0_0 l0_1).bind fun bt338 => ((impl_IsChoice.f k bt338.1 bt338.2).bind fun t345 => (if (t345 != t337) = true then (some false) else ((laws_toChoice.f k l0_0 l0_1).bind fun bt346 => ((laws_eqChoice.f k bt338.1 bt338.2 bt346.1 bt346.2).bind fun t352 => (if t352 = true then (some true) else (some false))))))) = some r := H
    have A8 := Aside0.mk A80
    clear A80
    replace H := Option.bind_eq_some_iff.mp H
    obtain ⟨⟨t338, t341⟩, A90, H⟩ := H
    replace H : ((impl_IsChoice.f k t338 t341).bind fun t345 => (if (t345 != t337) = true then (some false) else ((laws_toChoice.f k l0_0 l0_1).bind fun bt346 => ((laws_eqChoice.f k t338 t341 bt346.1 bt346.2).bind fun t352 => (if t352 = true then (some true) else (some false)))))) = some r := H
    have A9 := Aside0.mk A90
    clear A90
    replace H := Option.bind_eq_some_iff.mp H
    obtain ⟨t345, A100, H⟩ := H
    replace H : (if (t345 != t337) = true then (some false) else ((laws_toChoice.f k l0_0 l0_1).bind fun bt346 => ((laws_eqChoice.f k t338 t341 bt346.1 bt346.2).bind fun t352 => (if t352 = true then (some true) else (some false))))) = some r := H
    have A10 := Aside0.mk A100
    clear A100
    by_cases c11 : (t345 != t337) = true
    · rw [if_pos c11] at H
      have c11b0 : (t345 != t337) = true := c11
      (try (have c11b1 : decide (t345 = t337) = false := by simpa using c11))
      (try (have c11b2 : (t345 == t337) = false := by simpa using c11))
      (try (have c11b3 : ¬ (t345 = t337) := by simpa using c11))
      clear c11
      obtain rfl := Option.some.inj H
      go_enter Try.func5, Try.ntmps5
      go_wp2_with (first | ((with_reducible refine gate_dst (N := 1) rfl ?_); refine box_event ?hg (N := 1) ?hd (cs := #[.slice A0_0 l0_0.length c0_0, .slice A0_1 l0_1.length c0_1]) (t := 36) ?hr ?_; (case hd => rfl); (case hg => rfl); (case hr => first | (go_simp; done) | (go_simp; rfl)); intro gb329 hg w12 hbox hb; have BK329 := Aside0.mk (hbox); have GW329 := Aside0.mk ((by rw [hg]; exact (below_size BA) : w.heap.size ≤ gb329)); have GE329 := Aside0.mk ((by rw [hg]; exact (below_size BA) : w.heap.size ≤ gb329)); replace HB := Aside0.mk (below_step BA hb); clear hb hbox hg; have hcz13_0 := bcv BK329.out 0 (.slice A0_0 l0_0.length c0_0); have hcz13_1 := bcv BK329.out 1 (.slice A0_1 l0_1.length c0_1); have hfz13 := blk_frozen BK329.out) | ((with_reducible refine gate_callee (f := 21) rfl ?_); refine gK (some 9) Try.func21 #[.agg #[.slice A0_0 l0_0.length c0_0, .slice A0_1 l0_1.length c0_1], .int .i64 1048576] rfl rfl rfl ?_; (with_reducible refine (laws_szChoice.calls k _ _ l0_0 _ _ l0_1 1048576 t330 _ ?side1 ?side2 ?side3 ?side4 A2.out).mono ?_); (case side1 => exact cb (Kd.C_below HR0_0.out HB.out)); (case side2 => exact HC0_0.out); (case side3 => exact cb (Kd.C_below HR0_1.out HB.out)); (case side4 => exact HC0_1.out); rintro e w14 ⟨rfl, hb⟩; refine ⟨_, rfl, ?_⟩; replace BK329 := Aside0.mk (blk_below (bk BK329.out) hb); replace HB := Aside0.mk (below_step BA hb); (try clear hb); have hcz15_0 := bcv BK329.out 0 (.slice A0_0 l0_0.length c0_0); have hcz15_1 := bcv BK329.out 1 (.slice A0_1 l0_1.length c0_1); have hfz15 := blk_frozen BK329.out) | ((with_reducible refine gate_callee (f := 23) rfl ?_); refine gK (some 13) Try.func23 #[.agg #[.slice A0_0 l0_0.length c0_0, .slice A0_1 l0_1.length c0_1]] rfl rfl rfl ?_; (with_reducible refine (laws_toChoice.calls k _ _ l0_0 _ _ l0_1 t331 t334 _ ?side1 ?side2 ?side3 ?side4 A7.out).mono ?_); (case side1 => exact cb (Kd.C_below HR0_0.out HB.out)); (case side2 => exact HC0_0.out); (case side3 => exact cb (Kd.C_below HR0_1.out HB.out)); (case side4 => exact HC0_1.out); rintro e w16 ⟨v332, v335, rfl, ho0, ho1, hb⟩; refine ⟨_, rfl, ?_⟩; have HO333 := Aside0.mk (Kd.R_lower ho0 (below_size BA)); have HO336 := Aside0.mk (Kd.R_lower ho1 (below_size BA)); replace BK329 := Aside0.mk (blk_below (bk BK329.out) hb); replace HB := Aside0.mk (below_step BA hb); (try clear hb); (try clear ho0); (try clear ho1); obtain ⟨Ao17, co17, eo17⟩ := Kd.R_slice HO333.out; subst eo17; obtain ⟨Ao18, co18, eo18⟩ := Kd.R_slice HO336.out; subst eo18) | ((with_reducible refine gate_callee (f := 22) rfl ?_); refine gK (some 14) Try.func22 #[.agg #[.slice Ao17 t331.length co17, .slice Ao18 t334.length co18]] rfl rfl rfl ?_; (with_reducible refine (spec_IsChoice.calls k _ _ t331 _ _ t334 t337 _ ?side1 ?side2 ?side3 ?side4 A8.out).mono ?_); (case side1 => exact cb (Kd.R_reads' HO333.out).2.2); (case side2 => exact (Kd.R_reads' HO333.out).2.1); (case side3 => exact cb (Kd.R_reads' HO336.out).2.2); (case side4 => exact (Kd.R_reads' HO336.out).2.1); rintro e w19 ⟨rfl, hb⟩; refine ⟨_, rfl, ?_⟩; replace HO333 := Aside0.mk (Kd.R_below (by (with_reducible repeat (first | apply Kd.R_alloc | apply Kd.R_drewN | apply Kd.R_drew)); exact HO333.out) hb); replace HO336 := Aside0.mk (Kd.R_below (by (with_reducible repeat (first | apply Kd.R_alloc | apply Kd.R_drewN | apply Kd.R_drew)); exact HO336.out) hb); replace BK329 := Aside0.mk (blk_below (bk BK329.out) hb); replace HB := Aside0.mk (below_step BA hb); (try clear hb); have hcz20_0 := bcv BK329.out 0 (.slice A0_0 l0_0.length c0_0); have hcz20_1 := bcv BK329.out 1 (.slice A0_1 l0_1.length c0_1); have hfz20 := blk_frozen BK329.out) | ((with_reducible refine gate_callee (f := 23) rfl ?_); refine gK (some 16) Try.func23 #[.agg #[.slice A0_0 l0_0.length c0_0, .slice A0_1 l0_1.length c0_1]] rfl rfl rfl ?_; (with_reducible refine (laws_toChoice.calls k _ _ l0_0 _ _ l0_1 t338 t341 _ ?side1 ?side2 ?side3 ?side4 A9.out).mono ?_); (case side1 => exact cb (Kd.C_below HR0_0.out HB.out)); (case side2 => exact HC0_0.out); (case side3 => exact cb (Kd.C_below HR0_1.out HB.out)); (case side4 => exact HC0_1.out); rintro e w21 ⟨v339, v342, rfl, ho0, ho1, hb⟩; refine ⟨_, rfl, ?_⟩; have HO340 := Aside0.mk (Kd.R_lower (Kd.R_new' ho0 (Kd.R_lt (by (with_reducible repeat (first | apply Kd.R_alloc | apply Kd.R_drewN | apply Kd.R_drew)); exact HO333.out))) (below_size BA)); replace HO333 := Aside0.mk (Kd.R_elder' (by (with_reducible repeat (first | apply Kd.R_alloc | apply Kd.R_drewN | apply Kd.R_drew)); exact HO333.out) (Kd.R_base ho0) hb); have HO343 := Aside0.mk (Kd.R_lower (Kd.R_new' ho1 (Kd.R_lt (by (with_reducible repeat (first | apply Kd.R_alloc | apply Kd.R_drewN | apply Kd.R_drew)); exact HO336.out))) (below_size BA)); replace HO336 := Aside0.mk (Kd.R_elder' (by (with_reducible repeat (first | apply Kd.R_alloc | apply Kd.R_drewN | apply Kd.R_drew)); exact HO336.out) (Kd.R_base ho1) hb); replace BK329 := Aside0.mk (blk_below (bk BK329.out) hb); replace HB := Aside0.mk (below_step BA hb); (try clear hb); (try clear ho0); (try clear ho1)) | ((with_reducible refine gate_dst (N := 5) rfl ?_); refine box_event ?hg (N := 5) ?hd (cs := #[.slice none 0 0, .slice none 0 0]) (t := 39) ?hr ?_; (case hd => rfl); (case hg => rfl); (case hr => first | (go_simp; done) | (go_simp; rfl)); intro gb344 hg w22 hbox hb; replace HO333 := Aside0.mk (Kd.R_below (by (with_reducible repeat (first | apply Kd.R_alloc | apply Kd.R_drewN | apply Kd.R_drew)); exact HO333.out) hb); replace HO336 := Aside0.mk (Kd.R_below (by (with_reducible repeat (first | apply Kd.R_alloc | apply Kd.R_drewN | apply Kd.R_drew)); exact HO336.out) hb); replace HO340 := Aside0.mk (Kd.R_below (by (with_reducible repeat (first | apply Kd.R_alloc | apply Kd.R_drewN | apply Kd.R_drew)); exact HO340.out) hb); replace HO343 := Aside0.mk (Kd.R_below (by (with_reducible repeat (first | apply Kd.R_alloc | apply Kd.R_drewN | apply Kd.R_drew)); exact HO343.out) hb); have BK344 := Aside0.mk (hbox); have GW344 := Aside0.mk ((by rw [hg]; exact (below_size BA) : w.heap.size ≤ gb344)); have GE344 := Aside0.mk ((by rw [hg]; exact (below_size BA) : w.heap.size ≤ gb344)); replace HB := Aside0.mk (below_step BA hb); have NB329_344 := Aside0.mk ((by rw [hg]; exact Nat.ne_of_lt (blk_lt (g := gb329) (o := .cells #[.slice A0_0 l0_0.length c0_0, .slice A0_1 l0_1.length c0_1] 36 (0, 0)) (bk BK329.out)) : gb329 ≠ gb344)); have NB344_329 := Aside0.mk ((by rw [hg]; exact Nat.ne_of_gt (blk_lt (g := gb329) (o := .cells #[.slice A0_0 l0_0.length c0_0, .slice A0_1 l0_1.length c0_1] 36 (0, 0)) (bk BK329.out)) : gb344 ≠ gb329)); replace BK329 := Aside0.mk (blk_below (bk BK329.out) hb); clear hb hbox hg; obtain ⟨Ao23, co23, eo23⟩ := Kd.R_slice HO340.out; subst eo23; have hnb24 := NB344_329.out; have hnc24 := NB329_344.out; have hcz25_0 := bcv BK344.out 0 (.slice none 0 0); have hcz25_1 := bcv BK344.out 1 (.slice none 0 0); have hfz25 := blk_frozen BK344.out; obtain ⟨Ao26, co26, eo26⟩ := Kd.R_slice HO343.out; subst eo26) | ((with_reducible refine gate_callee (f := 24) rfl ?_); refine gK (some 18) Try.func24 #[.agg #[.slice Ao23 t338.length co23, .slice Ao26 t341.length co26]] rfl rfl rfl ?_; (with_reducible refine (impl_IsChoice.calls k _ _ t338 _ _ t341 t345 _ ?side1 ?side2 ?side3 ?side4 A10.out).mono ?_); (case side1 => refine (Kd.R_reads' (e := 9) (base := w.heap.size) (ok := fun k_ => (True ∧ some k_ ≠ (.slice Ao17 t331.length co17 : Value).ownBlock)) (n := t338.length) (c := co23) ?_).2.2; exact (by (with_reducible repeat (first | apply Kd.R_alloc | apply Kd.R_drewN | apply Kd.R_drew)); exact (Kd.R_mono (Kd.R_far (p := ⟨gb344, 1, none⟩) (Kd.R_far (p := ⟨gb344, 0, none⟩) (Kd.R_types HO340.out BK344.out (by decide)) (fun _ hk => hk.2) (.slice Ao23 t338.length co23)) (fun _ hk => hk.2) (.slice Ao26 t341.length co26)) (fun _ h_ => h_.1)))); (case side2 => exact (Kd.R_reads' HO340.out).2.1); (case side3 => refine (Kd.R_reads' (e := 3) (base := w.heap.size) (ok := fun k_ => (True ∧ some k_ ≠ (.slice Ao18 t334.length co18 : Value).ownBlock)) (n := t341.length) (c := co26) ?_).2.2; exact (by (with_reducible repeat (first | apply Kd.R_alloc | apply Kd.R_drewN | apply Kd.R_drew)); exact (Kd.R_mono (Kd.R_far (p := ⟨gb344, 1, none⟩) (Kd.R_far (p := ⟨gb344, 0, none⟩) (Kd.R_types HO343.out BK344.out (by decide)) (fun _ hk => hk.2) (.slice Ao23 t338.length co23)) (fun _ hk => hk.2) (.slice Ao26 t341.length co26)) (fun _ h_ => h_.1)))); (case side4 => exact (Kd.R_reads' HO343.out).2.1); rintro e w27 ⟨rfl, hb⟩; refine ⟨_, rfl, ?_⟩; replace HO333 := Aside0.mk (Kd.R_below (by (with_reducible repeat (first | apply Kd.R_alloc | apply Kd.R_drewN | apply Kd.R_drew)); exact (Kd.R_mono (Kd.R_far (p := ⟨gb344, 1, none⟩) (Kd.R_far (p := ⟨gb344, 0, none⟩) (Kd.R_types HO333.out BK344.out (by decide)) (fun _ hk => hk.2) (.slice Ao23 t338.length co23)) (fun _ hk => hk.2) (.slice Ao26 t341.length co26)) (fun _ h_ => h_.1))) hb); replace HO336 := Aside0.mk (Kd.R_below (by (with_reducible repeat (first | apply Kd.R_alloc | apply Kd.R_drewN | apply Kd.R_drew)); exact (Kd.R_mono (Kd.R_far (p := ⟨gb344, 1, none⟩) (Kd.R_far (p := ⟨gb344, 0, none⟩) (Kd.R_types HO336.out BK344.out (by decide)) (fun _ hk => hk.2) (.slice Ao23 t338.length co23)) (fun _ hk => hk.2) (.slice Ao26 t341.length co26)) (fun _ h_ => h_.1))) hb); replace HO340 := Aside0.mk (Kd.R_below (by (with_reducible repeat (first | apply Kd.R_alloc | apply Kd.R_drewN | apply Kd.R_drew)); exact (Kd.R_mono (Kd.R_far (p := ⟨gb344, 1, none⟩) (Kd.R_far (p := ⟨gb344, 0, none⟩) (Kd.R_types HO340.out BK344.out (by decide)) (fun _ hk => hk.2) (.slice Ao23 t338.length co23)) (fun _ hk => hk.2) (.slice Ao26 t341.length co26)) (fun _ h_ => h_.1))) hb); replace HO343 := Aside0.mk (Kd.R_below (by (with_reducible repeat (first | apply Kd.R_alloc | apply Kd.R_drewN | apply Kd.R_drew)); exact (Kd.R_mono (Kd.R_far (p := ⟨gb344, 1, none⟩) (Kd.R_far (p := ⟨gb344, 0, none⟩) (Kd.R_types HO343.out BK344.out (by decide)) (fun _ hk => hk.2) (.slice Ao23 t338.length co23)) (fun _ hk => hk.2) (.slice Ao26 t341.length co26)) (fun _ h_ => h_.1))) hb); replace BK329 := Aside0.mk (blk_below (g := gb329) (o := .cells #[.slice A0_0 l0_0.length c0_0, .slice A0_1 l0_1.length c0_1] 36 (0, 0)) (by (with_reducible repeat (first | refine blk_drewN ?_ _ | refine blk_drew ?_ | refine blk_alloc ?_ _)); refine blk_far ?_ NB329_344.out _; (with_reducible repeat (first | refine blk_drewN ?_ _ | refine blk_drew ?_ | refine blk_alloc ?_ _)); refine blk_far ?_ NB329_344.out _; (with_reducible repeat (first | refine blk_drewN ?_ _ | refine blk_drew ?_ | refine blk_alloc ?_ _)); exact BK329.out) hb); replace BK344 := Aside0.mk (blk_below (g := gb344) (o := .cells #[.slice Ao23 t338.length co23, .slice Ao26 t341.length co26] 39 (0, 0)) (by (with_reducible repeat (first | refine blk_drewN ?_ _ | refine blk_drew ?_ | refine blk_alloc ?_ _)); refine blk_put (cs := #[.slice Ao23 t338.length co23, .slice none 0 0]) ?_ 1 _ rfl; (with_reducible repeat (first | refine blk_drewN ?_ _ | refine blk_drew ?_ | refine blk_alloc ?_ _)); refine blk_put (cs := #[.slice none 0 0, .slice none 0 0]) ?_ 0 _ rfl; (with_reducible repeat (first | refine blk_drewN ?_ _ | refine blk_drew ?_ | refine blk_alloc ?_ _)); exact BK344.out) hb); replace HB := Aside0.mk (below_step BA hb); (try clear hb)))
      go_ret
      exact ⟨EQ, BA⟩
    · rw [if_neg c11] at H
      have c11b0 : (t345 != t337) = false := by simpa using c11
      (try (have c11b1 : decide (t345 = t337) = true := by simpa using c11))
      (try (have c11b2 : (t345 == t337) = true := by simpa using c11))
      clear c11
      replace H := Option.bind_eq_some_iff.mp H
      obtain ⟨⟨t346, t349⟩, A280, H⟩ := H
      replace H : ((laws_eqChoice.f k t338 t341 t346 t349).bind fun t352 => (if t352 = true then (some true) else (some false))) = some r := H
      have A28 := Aside0.mk A280
      clear A280
      replace H := Option.bind_eq_some_iff.mp H
      obtain ⟨t352, A290, H⟩ := H
      replace H : (if t352 = true then (some true) else (some false)) = some r := H
      have A29 := Aside0.mk A290
      clear A290
      by_cases c30 : t352 = true
      · subst c30
        have H1 : (some true) = some r := by rw [if_pos rfl] at H; exact H
        clear H
        have H := H1
        clear H1
        obtain rfl := Option.some.inj H
        go_enter Try.func5, Try.ntmps5
        try go_wp2_with (first | ((with_reducible refine gate_dst (N := 1) rfl ?_); refine box_event ?hg (N := 1) ?hd (cs := #[.slice A0_0 l0_0.length c0_0, .slice A0_1 l0_1.length c0_1]) (t := 36) ?hr ?_; (case hd => rfl); (case hg => rfl); (case hr => first | (go_simp; done) | (go_simp; rfl)); intro gb329 hg w31 hbox hb; have BK329 := Aside0.mk (hbox); have GW329 := Aside0.mk ((by rw [hg]; exact (below_size BA) : w.heap.size ≤ gb329)); have GE329 := Aside0.mk ((by rw [hg]; exact (below_size BA) : w.heap.size ≤ gb329)); replace HB := Aside0.mk (below_step BA hb); clear hb hbox hg; have hcz32_0 := bcv BK329.out 0 (.slice A0_0 l0_0.length c0_0); have hcz32_1 := bcv BK329.out 1 (.slice A0_1 l0_1.length c0_1); have hfz32 := blk_frozen BK329.out) | ((with_reducible refine gate_callee (f := 21) rfl ?_); refine gK (some 9) Try.func21 #[.agg #[.slice A0_0 l0_0.length c0_0, .slice A0_1 l0_1.length c0_1], .int .i64 1048576] rfl rfl rfl ?_; (with_reducible refine (laws_szChoice.calls k _ _ l0_0 _ _ l0_1 1048576 t330 _ ?side1 ?side2 ?side3 ?side4 A2.out).mono ?_); (case side1 => exact cb (Kd.C_below HR0_0.out HB.out)); (case side2 => exact HC0_0.out); (case side3 => exact cb (Kd.C_below HR0_1.out HB.out)); (case side4 => exact HC0_1.out); rintro e w33 ⟨rfl, hb⟩; refine ⟨_, rfl, ?_⟩; replace BK329 := Aside0.mk (blk_below (bk BK329.out) hb); replace HB := Aside0.mk (below_step BA hb); (try clear hb); have hcz34_0 := bcv BK329.out 0 (.slice A0_0 l0_0.length c0_0); have hcz34_1 := bcv BK329.out 1 (.slice A0_1 l0_1.length c0_1); have hfz34 := blk_frozen BK329.out) | ((with_reducible refine gate_callee (f := 23) rfl ?_); refine gK (some 13) Try.func23 #[.agg #[.slice A0_0 l0_0.length c0_0, .slice A0_1 l0_1.length c0_1]] rfl rfl rfl ?_; (with_reducible refine (laws_toChoice.calls k _ _ l0_0 _ _ l0_1 t331 t334 _ ?side1 ?side2 ?side3 ?side4 A7.out).mono ?_); (case side1 => exact cb (Kd.C_below HR0_0.out HB.out)); (case side2 => exact HC0_0.out); (case side3 => exact cb (Kd.C_below HR0_1.out HB.out)); (case side4 => exact HC0_1.out); rintro e w35 ⟨v332, v335, rfl, ho0, ho1, hb⟩; refine ⟨_, rfl, ?_⟩; have HO333 := Aside0.mk (Kd.R_lower ho0 (below_size BA)); have HO336 := Aside0.mk (Kd.R_lower ho1 (below_size BA)); replace BK329 := Aside0.mk (blk_below (bk BK329.out) hb); replace HB := Aside0.mk (below_step BA hb); (try clear hb); (try clear ho0); (try clear ho1); obtain ⟨Ao36, co36, eo36⟩ := Kd.R_slice HO333.out; subst eo36; obtain ⟨Ao37, co37, eo37⟩ := Kd.R_slice HO336.out; subst eo37) | ((with_reducible refine gate_callee (f := 22) rfl ?_); refine gK (some 14) Try.func22 #[.agg #[.slice Ao36 t331.length co36, .slice Ao37 t334.length co37]] rfl rfl rfl ?_; (with_reducible refine (spec_IsChoice.calls k _ _ t331 _ _ t334 t337 _ ?side1 ?side2 ?side3 ?side4 A8.out).mono ?_); (case side1 => exact cb (Kd.R_reads' HO333.out).2.2); (case side2 => exact (Kd.R_reads' HO333.out).2.1); (case side3 => exact cb (Kd.R_reads' HO336.out).2.2); (case side4 => exact (Kd.R_reads' HO336.out).2.1); rintro e w38 ⟨rfl, hb⟩; refine ⟨_, rfl, ?_⟩; replace HO333 := Aside0.mk (Kd.R_below (by (with_reducible repeat (first | apply Kd.R_alloc | apply Kd.R_drewN | apply Kd.R_drew)); exact HO333.out) hb); replace HO336 := Aside0.mk (Kd.R_below (by (with_reducible repeat (first | apply Kd.R_alloc | apply Kd.R_drewN | apply Kd.R_drew)); exact HO336.out) hb); replace BK329 := Aside0.mk (blk_below (bk BK329.out) hb); replace HB := Aside0.mk (below_step BA hb); (try clear hb); have hcz39_0 := bcv BK329.out 0 (.slice A0_0 l0_0.length c0_0); have hcz39_1 := bcv BK329.out 1 (.slice A0_1 l0_1.length c0_1); have hfz39 := blk_frozen BK329.out) | ((with_reducible refine gate_callee (f := 23) rfl ?_); refine gK (some 16) Try.func23 #[.agg #[.slice A0_0 l0_0.length c0_0, .slice A0_1 l0_1.length c0_1]] rfl rfl rfl ?_; (with_reducible refine (laws_toChoice.calls k _ _ l0_0 _ _ l0_1 t338 t341 _ ?side1 ?side2 ?side3 ?side4 A9.out).mono ?_); (case side1 => exact cb (Kd.C_below HR0_0.out HB.out)); (case side2 => exact HC0_0.out); (case side3 => exact cb (Kd.C_below HR0_1.out HB.out)); (case side4 => exact HC0_1.out); rintro e w40 ⟨v339, v342, rfl, ho0, ho1, hb⟩; refine ⟨_, rfl, ?_⟩; have HO340 := Aside0.mk (Kd.R_lower (Kd.R_new' ho0 (Kd.R_lt (by (with_reducible repeat (first | apply Kd.R_alloc | apply Kd.R_drewN | apply Kd.R_drew)); exact HO333.out))) (below_size BA)); replace HO333 := Aside0.mk (Kd.R_elder' (by (with_reducible repeat (first | apply Kd.R_alloc | apply Kd.R_drewN | apply Kd.R_drew)); exact HO333.out) (Kd.R_base ho0) hb); have HO343 := Aside0.mk (Kd.R_lower (Kd.R_new' ho1 (Kd.R_lt (by (with_reducible repeat (first | apply Kd.R_alloc | apply Kd.R_drewN | apply Kd.R_drew)); exact HO336.out))) (below_size BA)); replace HO336 := Aside0.mk (Kd.R_elder' (by (with_reducible repeat (first | apply Kd.R_alloc | apply Kd.R_drewN | apply Kd.R_drew)); exact HO336.out) (Kd.R_base ho1) hb); replace BK329 := Aside0.mk (blk_below (bk BK329.out) hb); replace HB := Aside0.mk (below_step BA hb); (try clear hb); (try clear ho0); (try clear ho1)) | ((with_reducible refine gate_dst (N := 5) rfl ?_); refine box_event ?hg (N := 5) ?hd (cs := #[.slice none 0 0, .slice none 0 0]) (t := 39) ?hr ?_; (case hd => rfl); (case hg => rfl); (case hr => first | (go_simp; done) | (go_simp; rfl)); intro gb344 hg w41 hbox hb; replace HO333 := Aside0.mk (Kd.R_below (by (with_reducible repeat (first | apply Kd.R_alloc | apply Kd.R_drewN | apply Kd.R_drew)); exact HO333.out) hb); replace HO336 := Aside0.mk (Kd.R_below (by (with_reducible repeat (first | apply Kd.R_alloc | apply Kd.R_drewN | apply Kd.R_drew)); exact HO336.out) hb); replace HO340 := Aside0.mk (Kd.R_below (by (with_reducible repeat (first | apply Kd.R_alloc | apply Kd.R_drewN | apply Kd.R_drew)); exact HO340.out) hb); replace HO343 := Aside0.mk (Kd.R_below (by (with_reducible repeat (first | apply Kd.R_alloc | apply Kd.R_drewN | apply Kd.R_drew)); exact HO343.out) hb); have BK344 := Aside0.mk (hbox); have GW344 := Aside0.mk ((by rw [hg]; exact (below_size BA) : w.heap.size ≤ gb344)); have GE344 := Aside0.mk ((by rw [hg]; exact (below_size BA) : w.heap.size ≤ gb344)); replace HB := Aside0.mk (below_step BA hb); have NB329_344 := Aside0.mk ((by rw [hg]; exact Nat.ne_of_lt (blk_lt (g := gb329) (o := .cells #[.slice A0_0 l0_0.length c0_0, .slice A0_1 l0_1.length c0_1] 36 (0, 0)) (bk BK329.out)) : gb329 ≠ gb344)); have NB344_329 := Aside0.mk ((by rw [hg]; exact Nat.ne_of_gt (blk_lt (g := gb329) (o := .cells #[.slice A0_0 l0_0.length c0_0, .slice A0_1 l0_1.length c0_1] 36 (0, 0)) (bk BK329.out)) : gb344 ≠ gb329)); replace BK329 := Aside0.mk (blk_below (bk BK329.out) hb); clear hb hbox hg; obtain ⟨Ao42, co42, eo42⟩ := Kd.R_slice HO340.out; subst eo42; have hnb43 := NB344_329.out; have hnc43 := NB329_344.out; have hcz44_0 := bcv BK344.out 0 (.slice none 0 0); have hcz44_1 := bcv BK344.out 1 (.slice none 0 0); have hfz44 := blk_frozen BK344.out; obtain ⟨Ao45, co45, eo45⟩ := Kd.R_slice HO343.out; subst eo45) | ((with_reducible refine gate_callee (f := 24) rfl ?_); refine gK (some 18) Try.func24 #[.agg #[.slice Ao42 t338.length co42, .slice Ao45 t341.length co45]] rfl rfl rfl ?_; (with_reducible refine (impl_IsChoice.calls k _ _ t338 _ _ t341 t345 _ ?side1 ?side2 ?side3 ?side4 A10.out).mono ?_); (case side1 => refine (Kd.R_reads' (e := 9) (base := w.heap.size) (ok := fun k_ => (True ∧ some k_ ≠ (.slice Ao36 t331.length co36 : Value).ownBlock)) (n := t338.length) (c := co42) ?_).2.2; exact (by (with_reducible repeat (first | apply Kd.R_alloc | apply Kd.R_drewN | apply Kd.R_drew)); exact (Kd.R_mono (Kd.R_far (p := ⟨gb344, 1, none⟩) (Kd.R_far (p := ⟨gb344, 0, none⟩) (Kd.R_types HO340.out BK344.out (by decide)) (fun _ hk => hk.2) (.slice Ao42 t338.length co42)) (fun _ hk => hk.2) (.slice Ao45 t341.length co45)) (fun _ h_ => h_.1)))); (case side2 => exact (Kd.R_reads' HO340.out).2.1); (case side3 => refine (Kd.R_reads' (e := 3) (base := w.heap.size) (ok := fun k_ => (True ∧ some k_ ≠ (.slice Ao37 t334.length co37 : Value).ownBlock)) (n := t341.length) (c := co45) ?_).2.2; exact (by (with_reducible repeat (first | apply Kd.R_alloc | apply Kd.R_drewN | apply Kd.R_drew)); exact (Kd.R_mono (Kd.R_far (p := ⟨gb344, 1, none⟩) (Kd.R_far (p := ⟨gb344, 0, none⟩) (Kd.R_types HO343.out BK344.out (by decide)) (fun _ hk => hk.2) (.slice Ao42 t338.length co42)) (fun _ hk => hk.2) (.slice Ao45 t341.length co45)) (fun _ h_ => h_.1)))); (case side4 => exact (Kd.R_reads' HO343.out).2.1); rintro e w46 ⟨rfl, hb⟩; refine ⟨_, rfl, ?_⟩; replace HO333 := Aside0.mk (Kd.R_below (by (with_reducible repeat (first | apply Kd.R_alloc | apply Kd.R_drewN | apply Kd.R_drew)); exact (Kd.R_mono (Kd.R_far (p := ⟨gb344, 1, none⟩) (Kd.R_far (p := ⟨gb344, 0, none⟩) (Kd.R_types HO333.out BK344.out (by decide)) (fun _ hk => hk.2) (.slice Ao42 t338.length co42)) (fun _ hk => hk.2) (.slice Ao45 t341.length co45)) (fun _ h_ => h_.1))) hb); replace HO336 := Aside0.mk (Kd.R_below (by (with_reducible repeat (first | apply Kd.R_alloc | apply Kd.R_drewN | apply Kd.R_drew)); exact (Kd.R_mono (Kd.R_far (p := ⟨gb344, 1, none⟩) (Kd.R_far (p := ⟨gb344, 0, none⟩) (Kd.R_types HO336.out BK344.out (by decide)) (fun _ hk => hk.2) (.slice Ao42 t338.length co42)) (fun _ hk => hk.2) (.slice Ao45 t341.length co45)) (fun _ h_ => h_.1))) hb); replace HO340 := Aside0.mk (Kd.R_below (by (with_reducible repeat (first | apply Kd.R_alloc | apply Kd.R_drewN | apply Kd.R_drew)); exact (Kd.R_mono (Kd.R_far (p := ⟨gb344, 1, none⟩) (Kd.R_far (p := ⟨gb344, 0, none⟩) (Kd.R_types HO340.out BK344.out (by decide)) (fun _ hk => hk.2) (.slice Ao42 t338.length co42)) (fun _ hk => hk.2) (.slice Ao45 t341.length co45)) (fun _ h_ => h_.1))) hb); replace HO343 := Aside0.mk (Kd.R_below (by (with_reducible repeat (first | apply Kd.R_alloc | apply Kd.R_drewN | apply Kd.R_drew)); exact (Kd.R_mono (Kd.R_far (p := ⟨gb344, 1, none⟩) (Kd.R_far (p := ⟨gb344, 0, none⟩) (Kd.R_types HO343.out BK344.out (by decide)) (fun _ hk => hk.2) (.slice Ao42 t338.length co42)) (fun _ hk => hk.2) (.slice Ao45 t341.length co45)) (fun _ h_ => h_.1))) hb); replace BK329 := Aside0.mk (blk_below (g := gb329) (o := .cells #[.slice A0_0 l0_0.length c0_0, .slice A0_1 l0_1.length c0_1] 36 (0, 0)) (by (with_reducible repeat (first | refine blk_drewN ?_ _ | refine blk_drew ?_ | refine blk_alloc ?_ _)); refine blk_far ?_ NB329_344.out _; (with_reducible repeat (first | refine blk_drewN ?_ _ | refine blk_drew ?_ | refine blk_alloc ?_ _)); refine blk_far ?_ NB329_344.out _; (with_reducible repeat (first | refine blk_drewN ?_ _ | refine blk_drew ?_ | refine blk_alloc ?_ _)); exact BK329.out) hb); replace BK344 := Aside0.mk (blk_below (g := gb344) (o := .cells #[.slice Ao42 t338.length co42, .slice Ao45 t341.length co45] 39 (0, 0)) (by (with_reducible repeat (first | refine blk_drewN ?_ _ | refine blk_drew ?_ | refine blk_alloc ?_ _)); refine blk_put (cs := #[.slice Ao42 t338.length co42, .slice none 0 0]) ?_ 1 _ rfl; (with_reducible repeat (first | refine blk_drewN ?_ _ | refine blk_drew ?_ | refine blk_alloc ?_ _)); refine blk_put (cs := #[.slice none 0 0, .slice none 0 0]) ?_ 0 _ rfl; (with_reducible repeat (first | refine blk_drewN ?_ _ | refine blk_drew ?_ | refine blk_alloc ?_ _)); exact BK344.out) hb); replace HB := Aside0.mk (below_step BA hb); (try clear hb)))
        have n0_ := Aside0.mk (Kd.R_drew HO333.out)
        have n1_ := Aside0.mk (Kd.R_drew HO336.out)
        have n2_ := Aside0.mk (Kd.R_drew HO340.out)
        have n3_ := Aside0.mk (Kd.R_drew HO343.out)
        have n4_ := Aside0.mk (blk_drew BK329.out)
        have n5_ := Aside0.mk (blk_drew BK344.out)
        have n6_ := Aside0.mk (below_drew1 HB.out)
        clear HO333
        clear HO336
        clear HO340
        clear HO343
        clear BK329
        clear BK344
        clear HB
        have HO333 := n0_
        have HO336 := n1_
        have HO340 := n2_
        have HO343 := n3_
        have BK329 := n4_
        have BK344 := n5_
        have HB := n6_
        clear n0_ n1_ n2_ n3_ n4_ n5_ n6_
        refine start_ (n := 5) (S := fun w' => w'.cell? ⟨gb344, 0, none⟩ = some (.slice Ao42 t338.length co42) ∧ w'.cell? ⟨gb344, 1, none⟩ = some (.slice Ao45 t341.length co45) ∧ w'.cell? ⟨gb329, 0, none⟩ = some (.slice A0_0 l0_0.length c0_0) ∧ w'.cell? ⟨gb329, 1, none⟩ = some (.slice A0_1 l0_1.length c0_1)) (ds := []) #[false, false, false, false, false] (by kernel_rfl) rfl rfl ⟨(blk_cell BK344.out 0).trans rfl, (blk_cell BK344.out 1).trans rfl, (blk_cell BK329.out 0).trans rfl, (blk_cell BK329.out 1).trans rfl⟩ (fun hHeld => ?_)
        generalize w46.drew = w47 at HO333 HO336 HO340 HO343 BK329 BK344 HB hHeld ⊢
        refine take_ (i := 0) (N := some 22) (v := ?_) (a' := ?_) #[true, false, false, false, false] rfl rfl (by kernel_rfl) (fun _ _ _ h => h) (Or.inl ⟨by rfl, ?_⟩) hHeld ?_ ?_
        rotate_left
        · rintro w' ⟨s0, s1, s2, s3⟩
          go_simp
          with_reducible rfl
        rotate_left
        · simp only [Act.put, List.setIfInBounds_toArray, List.set_cons_zero, List.set_cons_succ, i64_w, i32_w]
          rfl
        refine take_ (i := 1) (N := some 23) (v := ?_) (a' := ?_) #[true, true, false, false, false] rfl rfl (by kernel_rfl) (fun _ _ _ h => h) (Or.inl ⟨by rfl, ?_⟩) hHeld ?_ ?_
        rotate_left
        · rintro w' ⟨s0, s1, s2, s3⟩
          go_simp
          with_reducible rfl
        rotate_left
        · simp only [Act.put, List.setIfInBounds_toArray, List.set_cons_zero, List.set_cons_succ, i64_w, i32_w]
          rfl
        refine one_ (i := 2) (N := some 24) #[true, true, true, false, false] rfl rfl (by kernel_rfl) (by decide) (fun K hK => ?_)
        refine goes_ Try.func23 (by kernel_rfl) rfl #[.agg #[.slice A0_0 l0_0.length c0_0, .slice A0_1 l0_1.length c0_1]] (by rfl) rfl rfl (by (try simp only [List.map_toArray, List.map_cons, List.map_nil]); first | done | rfl | (simp only [List.length_drop, List.length_take]; rfl)) ?_
        with_reducible refine (laws_toChoice.calls k _ _ l0_0 _ _ l0_1 t346 t349 _ ?side1 ?side2 ?side3 ?side4 A28.out).mono ?_
        (case side1 => exact cb (Kd.C_below HR0_0.out HB.out))
        (case side2 => exact HC0_0.out)
        (case side3 => exact cb (Kd.C_below HR0_1.out HB.out))
        (case side4 => exact HC0_1.out)
        rintro e w48 ⟨v347, v350, rfl, ho0, ho1, hb⟩
        refine ⟨_, rfl, ?_⟩
        have n0_ := Aside0.mk (Kd.R_elder' (by (with_reducible repeat (first | apply Kd.R_alloc | apply Kd.R_drewN | apply Kd.R_drew)); exact HO333.out) (Kd.R_base ho0) hb)
        have n1_ := Aside0.mk (Kd.R_elder' (by (with_reducible repeat (first | apply Kd.R_alloc | apply Kd.R_drewN | apply Kd.R_drew)); exact HO336.out) (Kd.R_base ho1) hb)
        have n2_ := Aside0.mk (Kd.R_elder' (by (with_reducible repeat (first | apply Kd.R_alloc | apply Kd.R_drewN | apply Kd.R_drew)); exact HO340.out) (Kd.R_base ho0) hb)
        have n3_ := Aside0.mk (Kd.R_elder' (by (with_reducible repeat (first | apply Kd.R_alloc | apply Kd.R_drewN | apply Kd.R_drew)); exact HO343.out) (Kd.R_base ho1) hb)
        have n4_ := Aside0.mk (Kd.R_lower (Kd.R_new' (Kd.R_new' ho0 (Kd.R_lt (by (with_reducible repeat (first | apply Kd.R_alloc | apply Kd.R_drewN | apply Kd.R_drew)); exact HO333.out))) (Kd.R_lt (by (with_reducible repeat (first | apply Kd.R_alloc | apply Kd.R_drewN | apply Kd.R_drew)); exact HO340.out))) (below_size BA))
        have n5_ := Aside0.mk (Kd.R_lower (Kd.R_new' (Kd.R_new' ho1 (Kd.R_lt (by (with_reducible repeat (first | apply Kd.R_alloc | apply Kd.R_drewN | apply Kd.R_drew)); exact HO336.out))) (Kd.R_lt (by (with_reducible repeat (first | apply Kd.R_alloc | apply Kd.R_drewN | apply Kd.R_drew)); exact HO343.out))) (below_size BA))
        have n6_ := Aside0.mk (blk_below (bk BK329.out) hb)
        have n7_ := Aside0.mk (blk_below (bk BK344.out) hb)
        have n8_ := Aside0.mk (below_step BA hb)
        clear HO333
        clear HO336
        clear HO340
        clear HO343
        clear BK329
        clear BK344
        clear HB
        have HO333 := n0_
        have HO336 := n1_
        have HO340 := n2_
        have HO343 := n3_
        have HO348 := n4_
        have HO351 := n5_
        have BK329 := n6_
        have BK344 := n7_
        have HB := n8_
        clear n0_ n1_ n2_ n3_ n4_ n5_ n6_ n7_ n8_
        (try clear hb)
        (try clear hb2)
        (try clear hk)
        (try clear hi)
        (try clear ho0)
        (try clear ho1)
        obtain ⟨Ao49, co49, eo49⟩ := Kd.R_slice HO348.out
        (first | subst eo49 | (injection eo49 with f1_ f2_ f3_; have f4_ := f1_.symm; have f5_ := f3_.symm; clear f1_ f2_ f3_; subst f4_; subst f5_))
        obtain ⟨Ao50, co50, eo50⟩ := Kd.R_slice HO351.out
        (first | subst eo50 | (injection eo50 with f1_ f2_ f3_; have f4_ := f1_.symm; have f5_ := f3_.symm; clear f1_ f2_ f3_; subst f4_; subst f5_))
        refine hK.out _ _ ⟨(blk_cell BK344.out 0).trans rfl, (blk_cell BK344.out 1).trans rfl, (blk_cell BK329.out 0).trans rfl, (blk_cell BK329.out 1).trans rfl⟩ (fun hHeld => ?_)
        clear hK K
        refine norm_ (a' := ?_) ?_ ?_
        rotate_left
        · show Act.put _ (some 24) _ = _
          simp only [Act.put, List.setIfInBounds_toArray, List.set_cons_zero, List.set_cons_succ, i64_w, i32_w]
          rfl
        refine one_ (i := 3) (N := some 25) #[true, true, true, true, false] rfl rfl (by kernel_rfl) (by decide) (fun K hK => ?_)
        refine goes_ Try.func25 (by kernel_rfl) rfl #[.agg #[.slice Ao42 t338.length co42, .slice Ao45 t341.length co45], .agg #[.slice Ao49 t346.length co49, .slice Ao50 t349.length co50]] (by rfl) rfl rfl (by (try simp only [List.map_toArray, List.map_cons, List.map_nil]); first | done | rfl | (simp only [List.length_drop, List.length_take]; rfl)) ?_
        with_reducible refine (laws_eqChoice.calls k _ _ t338 _ _ t341 _ _ t346 _ _ t349 true _ ?side1 ?side2 ?side3 ?side4 ?side5 ?side6 ?side7 ?side8 A29.out).mono ?_
        (case side1 => exact cb (Kd.R_reads' HO340.out).2.2)
        (case side2 => exact (Kd.R_reads' HO340.out).2.1)
        (case side3 => exact cb (Kd.R_reads' HO343.out).2.2)
        (case side4 => exact (Kd.R_reads' HO343.out).2.1)
        (case side5 => exact cb (Kd.R_reads' HO348.out).2.2)
        (case side6 => exact (Kd.R_reads' HO348.out).2.1)
        (case side7 => exact cb (Kd.R_reads' HO351.out).2.2)
        (case side8 => exact (Kd.R_reads' HO351.out).2.1)
        rintro e w51 ⟨rfl, hb⟩
        refine ⟨_, rfl, ?_⟩
        have n0_ := Aside0.mk (Kd.R_below (by (with_reducible repeat (first | apply Kd.R_alloc | apply Kd.R_drewN | apply Kd.R_drew)); exact HO333.out) hb)
        have n1_ := Aside0.mk (Kd.R_below (by (with_reducible repeat (first | apply Kd.R_alloc | apply Kd.R_drewN | apply Kd.R_drew)); exact HO336.out) hb)
        have n2_ := Aside0.mk (Kd.R_below (by (with_reducible repeat (first | apply Kd.R_alloc | apply Kd.R_drewN | apply Kd.R_drew)); exact HO340.out) hb)
        have n3_ := Aside0.mk (Kd.R_below (by (with_reducible repeat (first | apply Kd.R_alloc | apply Kd.R_drewN | apply Kd.R_drew)); exact HO343.out) hb)
        have n4_ := Aside0.mk (Kd.R_below (by (with_reducible repeat (first | apply Kd.R_alloc | apply Kd.R_drewN | apply Kd.R_drew)); exact HO348.out) hb)
        have n5_ := Aside0.mk (Kd.R_below (by (with_reducible repeat (first | apply Kd.R_alloc | apply Kd.R_drewN | apply Kd.R_drew)); exact HO351.out) hb)
        have n6_ := Aside0.mk (blk_below (bk BK329.out) hb)
        have n7_ := Aside0.mk (blk_below (bk BK344.out) hb)
        have n8_ := Aside0.mk (below_step BA hb)
        clear HO333
        clear HO336
        clear HO340
        clear HO343
        clear HO348
        clear HO351
        clear BK329
        clear BK344
        clear HB
        have HO333 := n0_
        have HO336 := n1_
        have HO340 := n2_
        have HO343 := n3_
        have HO348 := n4_
        have HO351 := n5_
        have BK329 := n6_
        have BK344 := n7_
        have HB := n8_
        clear n0_ n1_ n2_ n3_ n4_ n5_ n6_ n7_ n8_
        (try clear hb)
        (try clear hb2)
        (try clear hk)
        (try clear hi)
        refine hK.out _ _ ⟨(blk_cell BK344.out 0).trans rfl, (blk_cell BK344.out 1).trans rfl, (blk_cell BK329.out 0).trans rfl, (blk_cell BK329.out 1).trans rfl⟩ (fun hHeld => ?_)
        clear hK K
        refine norm_ (a' := ?_) ?_ ?_
        rotate_left
        · show Act.put _ (some 25) _ = _
          simp only [Act.put, List.setIfInBounds_toArray, List.set_cons_zero, List.set_cons_succ, i64_w, i32_w]
          rfl
        refine pure_ (i := 4) (N := some 26) (v := ?_) (a' := ?_) #[true, true, true, true, true] rfl rfl (by kernel_rfl) (fun _ _ _ h => h) (Or.inl ⟨by rfl, ?_⟩) ?_ ?_
        rotate_left
        · intro w'
          go_simp
          with_reducible rfl
        rotate_left
        · simp only [Act.put, List.setIfInBounds_toArray, List.set_cons_zero, List.set_cons_succ, i64_w, i32_w]
          rfl
        refine done_ (by kernel_rfl) ?_
        try go_wp2
        go_ret
        exact ⟨EQ, BA⟩
      · replace c30 := Bool.eq_false_iff.mpr c30
        subst c30
        have H1 : (some false) = some r := by rw [if_neg (show ¬ (false = true) by decide)] at H; exact H
        clear H
        have H := H1
        clear H1
        obtain rfl := Option.some.inj H
        go_enter Try.func5, Try.ntmps5
        try go_wp2_with (first | ((with_reducible refine gate_dst (N := 1) rfl ?_); refine box_event ?hg (N := 1) ?hd (cs := #[.slice A0_0 l0_0.length c0_0, .slice A0_1 l0_1.length c0_1]) (t := 36) ?hr ?_; (case hd => rfl); (case hg => rfl); (case hr => first | (go_simp; done) | (go_simp; rfl)); intro gb329 hg w52 hbox hb; have BK329 := Aside0.mk (hbox); have GW329 := Aside0.mk ((by rw [hg]; exact (below_size BA) : w.heap.size ≤ gb329)); have GE329 := Aside0.mk ((by rw [hg]; exact (below_size BA) : w.heap.size ≤ gb329)); replace HB := Aside0.mk (below_step BA hb); clear hb hbox hg; have hcz53_0 := bcv BK329.out 0 (.slice A0_0 l0_0.length c0_0); have hcz53_1 := bcv BK329.out 1 (.slice A0_1 l0_1.length c0_1); have hfz53 := blk_frozen BK329.out) | ((with_reducible refine gate_callee (f := 21) rfl ?_); refine gK (some 9) Try.func21 #[.agg #[.slice A0_0 l0_0.length c0_0, .slice A0_1 l0_1.length c0_1], .int .i64 1048576] rfl rfl rfl ?_; (with_reducible refine (laws_szChoice.calls k _ _ l0_0 _ _ l0_1 1048576 t330 _ ?side1 ?side2 ?side3 ?side4 A2.out).mono ?_); (case side1 => exact cb (Kd.C_below HR0_0.out HB.out)); (case side2 => exact HC0_0.out); (case side3 => exact cb (Kd.C_below HR0_1.out HB.out)); (case side4 => exact HC0_1.out); rintro e w54 ⟨rfl, hb⟩; refine ⟨_, rfl, ?_⟩; replace BK329 := Aside0.mk (blk_below (bk BK329.out) hb); replace HB := Aside0.mk (below_step BA hb); (try clear hb); have hcz55_0 := bcv BK329.out 0 (.slice A0_0 l0_0.length c0_0); have hcz55_1 := bcv BK329.out 1 (.slice A0_1 l0_1.length c0_1); have hfz55 := blk_frozen BK329.out) | ((with_reducible refine gate_callee (f := 23) rfl ?_); refine gK (some 13) Try.func23 #[.agg #[.slice A0_0 l0_0.length c0_0, .slice A0_1 l0_1.length c0_1]] rfl rfl rfl ?_; (with_reducible refine (laws_toChoice.calls k _ _ l0_0 _ _ l0_1 t331 t334 _ ?side1 ?side2 ?side3 ?side4 A7.out).mono ?_); (case side1 => exact cb (Kd.C_below HR0_0.out HB.out)); (case side2 => exact HC0_0.out); (case side3 => exact cb (Kd.C_below HR0_1.out HB.out)); (case side4 => exact HC0_1.out); rintro e w56 ⟨v332, v335, rfl, ho0, ho1, hb⟩; refine ⟨_, rfl, ?_⟩; have HO333 := Aside0.mk (Kd.R_lower ho0 (below_size BA)); have HO336 := Aside0.mk (Kd.R_lower ho1 (below_size BA)); replace BK329 := Aside0.mk (blk_below (bk BK329.out) hb); replace HB := Aside0.mk (below_step BA hb); (try clear hb); (try clear ho0); (try clear ho1); obtain ⟨Ao57, co57, eo57⟩ := Kd.R_slice HO333.out; subst eo57; obtain ⟨Ao58, co58, eo58⟩ := Kd.R_slice HO336.out; subst eo58) | ((with_reducible refine gate_callee (f := 22) rfl ?_); refine gK (some 14) Try.func22 #[.agg #[.slice Ao57 t331.length co57, .slice Ao58 t334.length co58]] rfl rfl rfl ?_; (with_reducible refine (spec_IsChoice.calls k _ _ t331 _ _ t334 t337 _ ?side1 ?side2 ?side3 ?side4 A8.out).mono ?_); (case side1 => exact cb (Kd.R_reads' HO333.out).2.2); (case side2 => exact (Kd.R_reads' HO333.out).2.1); (case side3 => exact cb (Kd.R_reads' HO336.out).2.2); (case side4 => exact (Kd.R_reads' HO336.out).2.1); rintro e w59 ⟨rfl, hb⟩; refine ⟨_, rfl, ?_⟩; replace HO333 := Aside0.mk (Kd.R_below (by (with_reducible repeat (first | apply Kd.R_alloc | apply Kd.R_drewN | apply Kd.R_drew)); exact HO333.out) hb); replace HO336 := Aside0.mk (Kd.R_below (by (with_reducible repeat (first | apply Kd.R_alloc | apply Kd.R_drewN | apply Kd.R_drew)); exact HO336.out) hb); replace BK329 := Aside0.mk (blk_below (bk BK329.out) hb); replace HB := Aside0.mk (below_step BA hb); (try clear hb); have hcz60_0 := bcv BK329.out 0 (.slice A0_0 l0_0.length c0_0); have hcz60_1 := bcv BK329.out 1 (.slice A0_1 l0_1.length c0_1); have hfz60 := blk_frozen BK329.out) | ((with_reducible refine gate_callee (f := 23) rfl ?_); refine gK (some 16) Try.func23 #[.agg #[.slice A0_0 l0_0.length c0_0, .slice A0_1 l0_1.length c0_1]] rfl rfl rfl ?_; (with_reducible refine (laws_toChoice.calls k _ _ l0_0 _ _ l0_1 t338 t341 _ ?side1 ?side2 ?side3 ?side4 A9.out).mono ?_); (case side1 => exact cb (Kd.C_below HR0_0.out HB.out)); (case side2 => exact HC0_0.out); (case side3 => exact cb (Kd.C_below HR0_1.out HB.out)); (case side4 => exact HC0_1.out); rintro e w61 ⟨v339, v342, rfl, ho0, ho1, hb⟩; refine ⟨_, rfl, ?_⟩; have HO340 := Aside0.mk (Kd.R_lower (Kd.R_new' ho0 (Kd.R_lt (by (with_reducible repeat (first | apply Kd.R_alloc | apply Kd.R_drewN | apply Kd.R_drew)); exact HO333.out))) (below_size BA)); replace HO333 := Aside0.mk (Kd.R_elder' (by (with_reducible repeat (first | apply Kd.R_alloc | apply Kd.R_drewN | apply Kd.R_drew)); exact HO333.out) (Kd.R_base ho0) hb); have HO343 := Aside0.mk (Kd.R_lower (Kd.R_new' ho1 (Kd.R_lt (by (with_reducible repeat (first | apply Kd.R_alloc | apply Kd.R_drewN | apply Kd.R_drew)); exact HO336.out))) (below_size BA)); replace HO336 := Aside0.mk (Kd.R_elder' (by (with_reducible repeat (first | apply Kd.R_alloc | apply Kd.R_drewN | apply Kd.R_drew)); exact HO336.out) (Kd.R_base ho1) hb); replace BK329 := Aside0.mk (blk_below (bk BK329.out) hb); replace HB := Aside0.mk (below_step BA hb); (try clear hb); (try clear ho0); (try clear ho1)) | ((with_reducible refine gate_dst (N := 5) rfl ?_); refine box_event ?hg (N := 5) ?hd (cs := #[.slice none 0 0, .slice none 0 0]) (t := 39) ?hr ?_; (case hd => rfl); (case hg => rfl); (case hr => first | (go_simp; done) | (go_simp; rfl)); intro gb344 hg w62 hbox hb; replace HO333 := Aside0.mk (Kd.R_below (by (with_reducible repeat (first | apply Kd.R_alloc | apply Kd.R_drewN | apply Kd.R_drew)); exact HO333.out) hb); replace HO336 := Aside0.mk (Kd.R_below (by (with_reducible repeat (first | apply Kd.R_alloc | apply Kd.R_drewN | apply Kd.R_drew)); exact HO336.out) hb); replace HO340 := Aside0.mk (Kd.R_below (by (with_reducible repeat (first | apply Kd.R_alloc | apply Kd.R_drewN | apply Kd.R_drew)); exact HO340.out) hb); replace HO343 := Aside0.mk (Kd.R_below (by (with_reducible repeat (first | apply Kd.R_alloc | apply Kd.R_drewN | apply Kd.R_drew)); exact HO343.out) hb); have BK344 := Aside0.mk (hbox); have GW344 := Aside0.mk ((by rw [hg]; exact (below_size BA) : w.heap.size ≤ gb344)); have GE344 := Aside0.mk ((by rw [hg]; exact (below_size BA) : w.heap.size ≤ gb344)); replace HB := Aside0.mk (below_step BA hb); have NB329_344 := Aside0.mk ((by rw [hg]; exact Nat.ne_of_lt (blk_lt (g := gb329) (o := .cells #[.slice A0_0 l0_0.length c0_0, .slice A0_1 l0_1.length c0_1] 36 (0, 0)) (bk BK329.out)) : gb329 ≠ gb344)); have NB344_329 := Aside0.mk ((by rw [hg]; exact Nat.ne_of_gt (blk_lt (g := gb329) (o := .cells #[.slice A0_0 l0_0.length c0_0, .slice A0_1 l0_1.length c0_1] 36 (0, 0)) (bk BK329.out)) : gb344 ≠ gb329)); replace BK329 := Aside0.mk (blk_below (bk BK329.out) hb); clear hb hbox hg; obtain ⟨Ao63, co63, eo63⟩ := Kd.R_slice HO340.out; subst eo63; have hnb64 := NB344_329.out; have hnc64 := NB329_344.out; have hcz65_0 := bcv BK344.out 0 (.slice none 0 0); have hcz65_1 := bcv BK344.out 1 (.slice none 0 0); have hfz65 := blk_frozen BK344.out; obtain ⟨Ao66, co66, eo66⟩ := Kd.R_slice HO343.out; subst eo66) | ((with_reducible refine gate_callee (f := 24) rfl ?_); refine gK (some 18) Try.func24 #[.agg #[.slice Ao63 t338.length co63, .slice Ao66 t341.length co66]] rfl rfl rfl ?_; (with_reducible refine (impl_IsChoice.calls k _ _ t338 _ _ t341 t345 _ ?side1 ?side2 ?side3 ?side4 A10.out).mono ?_); (case side1 => refine (Kd.R_reads' (e := 9) (base := w.heap.size) (ok := fun k_ => (True ∧ some k_ ≠ (.slice Ao57 t331.length co57 : Value).ownBlock)) (n := t338.length) (c := co63) ?_).2.2; exact (by (with_reducible repeat (first | apply Kd.R_alloc | apply Kd.R_drewN | apply Kd.R_drew)); exact (Kd.R_mono (Kd.R_far (p := ⟨gb344, 1, none⟩) (Kd.R_far (p := ⟨gb344, 0, none⟩) (Kd.R_types HO340.out BK344.out (by decide)) (fun _ hk => hk.2) (.slice Ao63 t338.length co63)) (fun _ hk => hk.2) (.slice Ao66 t341.length co66)) (fun _ h_ => h_.1)))); (case side2 => exact (Kd.R_reads' HO340.out).2.1); (case side3 => refine (Kd.R_reads' (e := 3) (base := w.heap.size) (ok := fun k_ => (True ∧ some k_ ≠ (.slice Ao58 t334.length co58 : Value).ownBlock)) (n := t341.length) (c := co66) ?_).2.2; exact (by (with_reducible repeat (first | apply Kd.R_alloc | apply Kd.R_drewN | apply Kd.R_drew)); exact (Kd.R_mono (Kd.R_far (p := ⟨gb344, 1, none⟩) (Kd.R_far (p := ⟨gb344, 0, none⟩) (Kd.R_types HO343.out BK344.out (by decide)) (fun _ hk => hk.2) (.slice Ao63 t338.length co63)) (fun _ hk => hk.2) (.slice Ao66 t341.length co66)) (fun _ h_ => h_.1)))); (case side4 => exact (Kd.R_reads' HO343.out).2.1); rintro e w67 ⟨rfl, hb⟩; refine ⟨_, rfl, ?_⟩; replace HO333 := Aside0.mk (Kd.R_below (by (with_reducible repeat (first | apply Kd.R_alloc | apply Kd.R_drewN | apply Kd.R_drew)); exact (Kd.R_mono (Kd.R_far (p := ⟨gb344, 1, none⟩) (Kd.R_far (p := ⟨gb344, 0, none⟩) (Kd.R_types HO333.out BK344.out (by decide)) (fun _ hk => hk.2) (.slice Ao63 t338.length co63)) (fun _ hk => hk.2) (.slice Ao66 t341.length co66)) (fun _ h_ => h_.1))) hb); replace HO336 := Aside0.mk (Kd.R_below (by (with_reducible repeat (first | apply Kd.R_alloc | apply Kd.R_drewN | apply Kd.R_drew)); exact (Kd.R_mono (Kd.R_far (p := ⟨gb344, 1, none⟩) (Kd.R_far (p := ⟨gb344, 0, none⟩) (Kd.R_types HO336.out BK344.out (by decide)) (fun _ hk => hk.2) (.slice Ao63 t338.length co63)) (fun _ hk => hk.2) (.slice Ao66 t341.length co66)) (fun _ h_ => h_.1))) hb); replace HO340 := Aside0.mk (Kd.R_below (by (with_reducible repeat (first | apply Kd.R_alloc | apply Kd.R_drewN | apply Kd.R_drew)); exact (Kd.R_mono (Kd.R_far (p := ⟨gb344, 1, none⟩) (Kd.R_far (p := ⟨gb344, 0, none⟩) (Kd.R_types HO340.out BK344.out (by decide)) (fun _ hk => hk.2) (.slice Ao63 t338.length co63)) (fun _ hk => hk.2) (.slice Ao66 t341.length co66)) (fun _ h_ => h_.1))) hb); replace HO343 := Aside0.mk (Kd.R_below (by (with_reducible repeat (first | apply Kd.R_alloc | apply Kd.R_drewN | apply Kd.R_drew)); exact (Kd.R_mono (Kd.R_far (p := ⟨gb344, 1, none⟩) (Kd.R_far (p := ⟨gb344, 0, none⟩) (Kd.R_types HO343.out BK344.out (by decide)) (fun _ hk => hk.2) (.slice Ao63 t338.length co63)) (fun _ hk => hk.2) (.slice Ao66 t341.length co66)) (fun _ h_ => h_.1))) hb); replace BK329 := Aside0.mk (blk_below (g := gb329) (o := .cells #[.slice A0_0 l0_0.length c0_0, .slice A0_1 l0_1.length c0_1] 36 (0, 0)) (by (with_reducible repeat (first | refine blk_drewN ?_ _ | refine blk_drew ?_ | refine blk_alloc ?_ _)); refine blk_far ?_ NB329_344.out _; (with_reducible repeat (first | refine blk_drewN ?_ _ | refine blk_drew ?_ | refine blk_alloc ?_ _)); refine blk_far ?_ NB329_344.out _; (with_reducible repeat (first | refine blk_drewN ?_ _ | refine blk_drew ?_ | refine blk_alloc ?_ _)); exact BK329.out) hb); replace BK344 := Aside0.mk (blk_below (g := gb344) (o := .cells #[.slice Ao63 t338.length co63, .slice Ao66 t341.length co66] 39 (0, 0)) (by (with_reducible repeat (first | refine blk_drewN ?_ _ | refine blk_drew ?_ | refine blk_alloc ?_ _)); refine blk_put (cs := #[.slice Ao63 t338.length co63, .slice none 0 0]) ?_ 1 _ rfl; (with_reducible repeat (first | refine blk_drewN ?_ _ | refine blk_drew ?_ | refine blk_alloc ?_ _)); refine blk_put (cs := #[.slice none 0 0, .slice none 0 0]) ?_ 0 _ rfl; (with_reducible repeat (first | refine blk_drewN ?_ _ | refine blk_drew ?_ | refine blk_alloc ?_ _)); exact BK344.out) hb); replace HB := Aside0.mk (below_step BA hb); (try clear hb)))
        have n0_ := Aside0.mk (Kd.R_drew HO333.out)
        have n1_ := Aside0.mk (Kd.R_drew HO336.out)
        have n2_ := Aside0.mk (Kd.R_drew HO340.out)
        have n3_ := Aside0.mk (Kd.R_drew HO343.out)
        have n4_ := Aside0.mk (blk_drew BK329.out)
        have n5_ := Aside0.mk (blk_drew BK344.out)
        have n6_ := Aside0.mk (below_drew1 HB.out)
        clear HO333
        clear HO336
        clear HO340
        clear HO343
        clear BK329
        clear BK344
        clear HB
        have HO333 := n0_
        have HO336 := n1_
        have HO340 := n2_
        have HO343 := n3_
        have BK329 := n4_
        have BK344 := n5_
        have HB := n6_
        clear n0_ n1_ n2_ n3_ n4_ n5_ n6_
        refine start_ (n := 5) (S := fun w' => w'.cell? ⟨gb344, 0, none⟩ = some (.slice Ao63 t338.length co63) ∧ w'.cell? ⟨gb344, 1, none⟩ = some (.slice Ao66 t341.length co66) ∧ w'.cell? ⟨gb329, 0, none⟩ = some (.slice A0_0 l0_0.length c0_0) ∧ w'.cell? ⟨gb329, 1, none⟩ = some (.slice A0_1 l0_1.length c0_1)) (ds := []) #[false, false, false, false, false] (by kernel_rfl) rfl rfl ⟨(blk_cell BK344.out 0).trans rfl, (blk_cell BK344.out 1).trans rfl, (blk_cell BK329.out 0).trans rfl, (blk_cell BK329.out 1).trans rfl⟩ (fun hHeld => ?_)
        generalize w67.drew = w68 at HO333 HO336 HO340 HO343 BK329 BK344 HB hHeld ⊢
        refine take_ (i := 0) (N := some 22) (v := ?_) (a' := ?_) #[true, false, false, false, false] rfl rfl (by kernel_rfl) (fun _ _ _ h => h) (Or.inl ⟨by rfl, ?_⟩) hHeld ?_ ?_
        rotate_left
        · rintro w' ⟨s0, s1, s2, s3⟩
          go_simp
          with_reducible rfl
        rotate_left
        · simp only [Act.put, List.setIfInBounds_toArray, List.set_cons_zero, List.set_cons_succ, i64_w, i32_w]
          rfl
        refine take_ (i := 1) (N := some 23) (v := ?_) (a' := ?_) #[true, true, false, false, false] rfl rfl (by kernel_rfl) (fun _ _ _ h => h) (Or.inl ⟨by rfl, ?_⟩) hHeld ?_ ?_
        rotate_left
        · rintro w' ⟨s0, s1, s2, s3⟩
          go_simp
          with_reducible rfl
        rotate_left
        · simp only [Act.put, List.setIfInBounds_toArray, List.set_cons_zero, List.set_cons_succ, i64_w, i32_w]
          rfl
        refine one_ (i := 2) (N := some 24) #[true, true, true, false, false] rfl rfl (by kernel_rfl) (by decide) (fun K hK => ?_)
        refine goes_ Try.func23 (by kernel_rfl) rfl #[.agg #[.slice A0_0 l0_0.length c0_0, .slice A0_1 l0_1.length c0_1]] (by rfl) rfl rfl (by (try simp only [List.map_toArray, List.map_cons, List.map_nil]); first | done | rfl | (simp only [List.length_drop, List.length_take]; rfl)) ?_
        with_reducible refine (laws_toChoice.calls k _ _ l0_0 _ _ l0_1 t346 t349 _ ?side1 ?side2 ?side3 ?side4 A28.out).mono ?_
        (case side1 => exact cb (Kd.C_below HR0_0.out HB.out))
        (case side2 => exact HC0_0.out)
        (case side3 => exact cb (Kd.C_below HR0_1.out HB.out))
        (case side4 => exact HC0_1.out)
        rintro e w69 ⟨v347, v350, rfl, ho0, ho1, hb⟩
        refine ⟨_, rfl, ?_⟩
        have n0_ := Aside0.mk (Kd.R_elder' (by (with_reducible repeat (first | apply Kd.R_alloc | apply Kd.R_drewN | apply Kd.R_drew)); exact HO333.out) (Kd.R_base ho0) hb)
        have n1_ := Aside0.mk (Kd.R_elder' (by (with_reducible repeat (first | apply Kd.R_alloc | apply Kd.R_drewN | apply Kd.R_drew)); exact HO336.out) (Kd.R_base ho1) hb)
        have n2_ := Aside0.mk (Kd.R_elder' (by (with_reducible repeat (first | apply Kd.R_alloc | apply Kd.R_drewN | apply Kd.R_drew)); exact HO340.out) (Kd.R_base ho0) hb)
        have n3_ := Aside0.mk (Kd.R_elder' (by (with_reducible repeat (first | apply Kd.R_alloc | apply Kd.R_drewN | apply Kd.R_drew)); exact HO343.out) (Kd.R_base ho1) hb)
        have n4_ := Aside0.mk (Kd.R_lower (Kd.R_new' (Kd.R_new' ho0 (Kd.R_lt (by (with_reducible repeat (first | apply Kd.R_alloc | apply Kd.R_drewN | apply Kd.R_drew)); exact HO333.out))) (Kd.R_lt (by (with_reducible repeat (first | apply Kd.R_alloc | apply Kd.R_drewN | apply Kd.R_drew)); exact HO340.out))) (below_size BA))
        have n5_ := Aside0.mk (Kd.R_lower (Kd.R_new' (Kd.R_new' ho1 (Kd.R_lt (by (with_reducible repeat (first | apply Kd.R_alloc | apply Kd.R_drewN | apply Kd.R_drew)); exact HO336.out))) (Kd.R_lt (by (with_reducible repeat (first | apply Kd.R_alloc | apply Kd.R_drewN | apply Kd.R_drew)); exact HO343.out))) (below_size BA))
        have n6_ := Aside0.mk (blk_below (bk BK329.out) hb)
        have n7_ := Aside0.mk (blk_below (bk BK344.out) hb)
        have n8_ := Aside0.mk (below_step BA hb)
        clear HO333
        clear HO336
        clear HO340
        clear HO343
        clear BK329
        clear BK344
        clear HB
        have HO333 := n0_
        have HO336 := n1_
        have HO340 := n2_
        have HO343 := n3_
        have HO348 := n4_
        have HO351 := n5_
        have BK329 := n6_
        have BK344 := n7_
        have HB := n8_
        clear n0_ n1_ n2_ n3_ n4_ n5_ n6_ n7_ n8_
        (try clear hb)
        (try clear hb2)
        (try clear hk)
        (try clear hi)
        (try clear ho0)
        (try clear ho1)
        obtain ⟨Ao70, co70, eo70⟩ := Kd.R_slice HO348.out
        (first | subst eo70 | (injection eo70 with f1_ f2_ f3_; have f4_ := f1_.symm; have f5_ := f3_.symm; clear f1_ f2_ f3_; subst f4_; subst f5_))
        obtain ⟨Ao71, co71, eo71⟩ := Kd.R_slice HO351.out
        (first | subst eo71 | (injection eo71 with f1_ f2_ f3_; have f4_ := f1_.symm; have f5_ := f3_.symm; clear f1_ f2_ f3_; subst f4_; subst f5_))
        refine hK.out _ _ ⟨(blk_cell BK344.out 0).trans rfl, (blk_cell BK344.out 1).trans rfl, (blk_cell BK329.out 0).trans rfl, (blk_cell BK329.out 1).trans rfl⟩ (fun hHeld => ?_)
        clear hK K
        refine norm_ (a' := ?_) ?_ ?_
        rotate_left
        · show Act.put _ (some 24) _ = _
          simp only [Act.put, List.setIfInBounds_toArray, List.set_cons_zero, List.set_cons_succ, i64_w, i32_w]
          rfl
        refine one_ (i := 3) (N := some 25) #[true, true, true, true, false] rfl rfl (by kernel_rfl) (by decide) (fun K hK => ?_)
        refine goes_ Try.func25 (by kernel_rfl) rfl #[.agg #[.slice Ao63 t338.length co63, .slice Ao66 t341.length co66], .agg #[.slice Ao70 t346.length co70, .slice Ao71 t349.length co71]] (by rfl) rfl rfl (by (try simp only [List.map_toArray, List.map_cons, List.map_nil]); first | done | rfl | (simp only [List.length_drop, List.length_take]; rfl)) ?_
        with_reducible refine (laws_eqChoice.calls k _ _ t338 _ _ t341 _ _ t346 _ _ t349 false _ ?side1 ?side2 ?side3 ?side4 ?side5 ?side6 ?side7 ?side8 A29.out).mono ?_
        (case side1 => exact cb (Kd.R_reads' HO340.out).2.2)
        (case side2 => exact (Kd.R_reads' HO340.out).2.1)
        (case side3 => exact cb (Kd.R_reads' HO343.out).2.2)
        (case side4 => exact (Kd.R_reads' HO343.out).2.1)
        (case side5 => exact cb (Kd.R_reads' HO348.out).2.2)
        (case side6 => exact (Kd.R_reads' HO348.out).2.1)
        (case side7 => exact cb (Kd.R_reads' HO351.out).2.2)
        (case side8 => exact (Kd.R_reads' HO351.out).2.1)
        rintro e w72 ⟨rfl, hb⟩
        refine ⟨_, rfl, ?_⟩
        have n0_ := Aside0.mk (Kd.R_below (by (with_reducible repeat (first | apply Kd.R_alloc | apply Kd.R_drewN | apply Kd.R_drew)); exact HO333.out) hb)
        have n1_ := Aside0.mk (Kd.R_below (by (with_reducible repeat (first | apply Kd.R_alloc | apply Kd.R_drewN | apply Kd.R_drew)); exact HO336.out) hb)
        have n2_ := Aside0.mk (Kd.R_below (by (with_reducible repeat (first | apply Kd.R_alloc | apply Kd.R_drewN | apply Kd.R_drew)); exact HO340.out) hb)
        have n3_ := Aside0.mk (Kd.R_below (by (with_reducible repeat (first | apply Kd.R_alloc | apply Kd.R_drewN | apply Kd.R_drew)); exact HO343.out) hb)
        have n4_ := Aside0.mk (Kd.R_below (by (with_reducible repeat (first | apply Kd.R_alloc | apply Kd.R_drewN | apply Kd.R_drew)); exact HO348.out) hb)
        have n5_ := Aside0.mk (Kd.R_below (by (with_reducible repeat (first | apply Kd.R_alloc | apply Kd.R_drewN | apply Kd.R_drew)); exact HO351.out) hb)
        have n6_ := Aside0.mk (blk_below (bk BK329.out) hb)
        have n7_ := Aside0.mk (blk_below (bk BK344.out) hb)
        have n8_ := Aside0.mk (below_step BA hb)
        clear HO333
        clear HO336
        clear HO340
        clear HO343
        clear HO348
        clear HO351
        clear BK329
        clear BK344
        clear HB
        have HO333 := n0_
        have HO336 := n1_
        have HO340 := n2_
        have HO343 := n3_
        have HO348 := n4_
        have HO351 := n5_
        have BK329 := n6_
        have BK344 := n7_
        have HB := n8_
        clear n0_ n1_ n2_ n3_ n4_ n5_ n6_ n7_ n8_
        (try clear hb)
        (try clear hb2)
        (try clear hk)
        (try clear hi)
        refine hK.out _ _ ⟨(blk_cell BK344.out 0).trans rfl, (blk_cell BK344.out 1).trans rfl, (blk_cell BK329.out 0).trans rfl, (blk_cell BK329.out 1).trans rfl⟩ (fun hHeld => ?_)
        clear hK K
        refine norm_ (a' := ?_) ?_ ?_
        rotate_left
        · show Act.put _ (some 25) _ = _
          simp only [Act.put, List.setIfInBounds_toArray, List.set_cons_zero, List.set_cons_succ, i64_w, i32_w]
          rfl
        refine pure_ (i := 4) (N := some 26) (v := ?_) (a' := ?_) #[true, true, true, true, true] rfl rfl (by kernel_rfl) (fun _ _ _ h => h) (Or.inl ⟨by rfl, ?_⟩) ?_ ?_
        rotate_left
        · intro w'
          go_simp
          with_reducible rfl
        rotate_left
        · simp only [Act.put, List.setIfInBounds_toArray, List.set_cons_zero, List.set_cons_succ, i64_w, i32_w]
          rfl
        refine done_ (by kernel_rfl) ?_
        try go_wp2
        go_ret
        exact ⟨EQ, BA⟩

end Go.Proofs.Ytefipbekabmncaa.Pa
