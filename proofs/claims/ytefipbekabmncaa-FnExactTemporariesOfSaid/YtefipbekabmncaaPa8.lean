-- Made by this session's program gen.py over the translation.
import Derived.Test.YtefipbekabmncaaPa0
import Derived.Test.YtefipbekabmncaaPa2
import Derived.Test.YtefipbekabmncaaPa4
import Derived.Test.YtefipbekabmncaaPa6
namespace Go.Proofs.Ytefipbekabmncaa.Pa
open Go.RowKit Go.Proofs.YtefipbekabmncaaW.PrintWords Go.Proofs.YtefipbekabmncaaW.PrintLast Go.Proofs.YtefipbekabmncaaW.PrintMore
attribute [local go_sem] max2_int min2_int max_two min_two max_three min_three max_four min_four   -- for this text's walks alone
set_option linter.unusedVariables false
set_option linter.unusedSimpArgs false

/-! ### laws_szInstr: function 59 -/
def laws_szInstr.f (a0_0 : ByteArray) (a0_1 : Int) (a0_2 : Int) (a0_3 : Int) (a0_4 : Int) (a1 : Int) : Option (Int) := if (wrap64 (a1 - (a0_0.size : Int))) < 0 then (some (-1)) else (some (wrap64 (a1 - (a0_0.size : Int))))
set_option maxHeartbeats 8000000 in
set_option maxRecDepth 100000 in
theorem laws_szInstr.calls (a0_0 : ByteArray) (a0_1 : Int) (a0_2 : Int) (a0_3 : Int) (a0_4 : Int) (a1 : Int) (r : Int) (w : World) (h : laws_szInstr.f a0_0 a0_1 a0_2 a0_3 a0_4 a1 = some r) :
    Calls Try.prog 59 #[.agg #[.string a0_0, .int .i64 a0_1, .int .i64 a0_2, .int .i64 a0_3, .int .i64 a0_4], .int .i64 a1] w fun e w' => e = .returned (.int .i64 r) ∧ Below w.heap.size w w' := by
  have hu78 := Try.underlying78
  have HB := Aside0.mk (Below.refl w.heap.size w)
  have H : (if (wrap64 (a1 - (a0_0.size : Int))) < 0 then (some (-1)) else (some (wrap64 (a1 - (a0_0.size : Int))))) = some r := h
  clear h
  by_cases c3 : (wrap64 (a1 - (a0_0.size : Int))) < 0
  · rw [if_pos c3] at H
    have c3b0 := decide_eq_true c3
    clear c3
    obtain rfl := Option.some.inj H
    go_enter Try.func59, Try.ntmps59
    go_wp2_with (first | ((with_reducible refine gate_dst (N := 2) rfl ?_); refine box_event ?hg (N := 2) ?hd (cs := #[.string a0_0, .int .i64 a0_1, .int .i64 a0_2, .int .i64 a0_3, .int .i64 a0_4]) (t := 78) ?hr ?_; (case hd => rfl); (case hg => rfl); (case hr => first | (go_simp; done) | (go_simp; rfl)); intro gb126 hg w4 hbox hb; have BK126 := Aside0.mk (hbox); have GW126 := Aside0.mk ((by rw [hg]; exact (below_size BA) : w.heap.size ≤ gb126)); have GE126 := Aside0.mk ((by rw [hg]; exact (below_size BA) : w.heap.size ≤ gb126)); replace HB := Aside0.mk (below_step BA hb); clear hb hbox hg; have hcz5_0 := bcv BK126.out 0 (.string a0_0); have hcz5_1 := bcv BK126.out 1 (.int .i64 a0_1); have hcz5_2 := bcv BK126.out 2 (.int .i64 a0_2); have hcz5_3 := bcv BK126.out 3 (.int .i64 a0_3); have hcz5_4 := bcv BK126.out 4 (.int .i64 a0_4); have hfz5 := blk_frozen BK126.out))
    go_ret
    exact ⟨EQ, BA⟩
  · rw [if_neg c3] at H
    have c3b0 := decide_eq_false c3
    clear c3
    obtain rfl := Option.some.inj H
    go_enter Try.func59, Try.ntmps59
    go_wp2_with (first | ((with_reducible refine gate_dst (N := 2) rfl ?_); refine box_event ?hg (N := 2) ?hd (cs := #[.string a0_0, .int .i64 a0_1, .int .i64 a0_2, .int .i64 a0_3, .int .i64 a0_4]) (t := 78) ?hr ?_; (case hd => rfl); (case hg => rfl); (case hr => first | (go_simp; done) | (go_simp; rfl)); intro gb126 hg w6 hbox hb; have BK126 := Aside0.mk (hbox); have GW126 := Aside0.mk ((by rw [hg]; exact (below_size BA) : w.heap.size ≤ gb126)); have GE126 := Aside0.mk ((by rw [hg]; exact (below_size BA) : w.heap.size ≤ gb126)); replace HB := Aside0.mk (below_step BA hb); clear hb hbox hg; have hcz7_0 := bcv BK126.out 0 (.string a0_0); have hcz7_1 := bcv BK126.out 1 (.int .i64 a0_1); have hcz7_2 := bcv BK126.out 2 (.int .i64 a0_2); have hcz7_3 := bcv BK126.out 3 (.int .i64 a0_3); have hcz7_4 := bcv BK126.out 4 (.int .i64 a0_4); have hfz7 := blk_frozen BK126.out))
    go_ret
    exact ⟨EQ, BA⟩

/-! ### laws_szInstrS: function 16 -/
def laws_szInstrS.l0 : Nat → List (S78) → Int → Int → Option (Int)
  | 0, _, _, _ => none
  | k + 1, x0, x1, x5 => if x5 < (x0.length : Int) then (if 0 ≤ x5 then ((laws_szInstr.f ((rd_T78 x0 x5).f0) ((rd_T78 x0 x5).f1) ((rd_T78 x0 x5).f2) ((rd_T78 x0 x5).f3) ((rd_T78 x0 x5).f4) x1).bind fun t128 => (if t128 < 0 then (some (-1)) else (laws_szInstrS.l0 k x0 t128 (wrap64 (x5 + 1))))) else (none)) else (some x1)
def laws_szInstrS.f (k : Nat) (l0 : List (S78)) (a1 : Int) : Option (Int) := if (wrap64 (a1 - (l0.length : Int))) < 0 then (some (-1)) else (laws_szInstrS.l0 k l0 (wrap64 (a1 - (l0.length : Int))) 0)
theorem laws_szInstrS.mono_l : ∀ k, (∀ y0 y1 y2, LeO (laws_szInstrS.l0 k y0 y1 y2) (laws_szInstrS.l0 (k + 1) y0 y1 y2))
  | 0 => fun _ _ _ r h => by simp [laws_szInstrS.l0] at h
  | k + 1 => by
    have ih0 := laws_szInstrS.mono_l k
    · intro y0 y1 y2
      unfold laws_szInstrS.l0
      repeat' first | (with_reducible first | exact ih0 _ _ _ | exact LeO.refl _ | exact LeO.none _ | refine LeO.ite ?_ ?_ | refine LeO.bind ?_ (fun _ => ?_)) | exact LeO.none _ | refine LeO.ite ?_ ?_ | refine LeO.bind ?_ (fun _ => ?_)
theorem laws_szInstrS.mono : ∀ a0 a1 k, LeO (laws_szInstrS.f k a0 a1) (laws_szInstrS.f (k + 1) a0 a1) := by
  intro a0 a1 k
  have ih0 := laws_szInstrS.mono_l k
  unfold laws_szInstrS.f
  repeat' first | (with_reducible first | exact ih0 _ _ _ | exact LeO.refl _ | exact LeO.none _ | refine LeO.ite ?_ ?_ | refine LeO.bind ?_ (fun _ => ?_)) | exact LeO.none _ | refine LeO.ite ?_ ?_ | refine LeO.bind ?_ (fun _ => ?_)
set_option maxHeartbeats 8000000 in
set_option maxRecDepth 100000 in
theorem laws_szInstrS.calls (k : Nat) (A0 : Option Addr) (c0 : Nat) (l0 : List (S78)) (a1 : Int) (r : Int) (w : World) (hr0 : Kd.C k78 w A0 l0.length l0) (hc0 : l0.length ≤ c0) (h : laws_szInstrS.f k l0 a1 = some r) :
    Calls Try.prog 16 #[.slice A0 l0.length c0, .int .i64 a1] w fun e w' => e = .returned (.int .i64 r) ∧ Below w.heap.size w w' := by
  have hu78 := Try.underlying78
  have HR0 := Aside0.mk hr0
  have HC0 := Aside0.mk hc0
  clear hr0 hc0
  have HB := Aside0.mk (Below.refl w.heap.size w)
  have H : (if (wrap64 (a1 - (l0.length : Int))) < 0 then (some (-1)) else (laws_szInstrS.l0 k l0 (wrap64 (a1 - (l0.length : Int))) 0)) = some r := h
  clear h
  by_cases c3 : (wrap64 (a1 - (l0.length : Int))) < 0
  · rw [if_pos c3] at H
    have c3b0 := decide_eq_true c3
    clear c3
    obtain rfl := Option.some.inj H
    go_enter Try.func16, Try.ntmps16
    go_wp2
    go_ret
    exact ⟨EQ, BA⟩
  · rw [if_neg c3] at H
    have c3b0 := decide_eq_false c3
    clear c3
    have H' := Aside0.mk H
    clear H
    go_enter Try.func16, Try.ntmps16
    go_wp2
    go_loopg [1, 5] k (fun kq v1 v5 w' => ∃ (x1_1 : Int) (x5_1 : Int), v1 = .int .i64 x1_1 ∧ v5 = .int .i64 x5_1 ∧ Aside0 (laws_szInstrS.l0 kq l0 x1_1 x5_1 = some r) ∧ Aside0 (kq ≤ k) ∧ Aside0 (Below w.heap.size w w'))
    case atStart => exact ⟨(wrap64 (a1 - (l0.length : Int))), (0), EQ1, EQ1, H', ⟨Nat.le_refl _⟩, ⟨BA⟩⟩
    case round =>
      clear H'
      (try clear c1); (try clear p2); (try clear c3); (try clear c3b0)
      obtain ⟨x1_1, x5_1, rfl, rfl, HA, HK1, HB⟩ := hrel
      cases gk with
      | zero => exact absurd HA.out (by simp [laws_szInstrS.l0])
      | succ k1 =>
        have H := HA.out
        clear HA
        simp only [laws_szInstrS.l0] at H
        by_cases c4 : x5_1 < (l0.length : Int)
        · rw [if_pos c4] at H
          have c4b0 := decide_eq_true c4
          clear c4
          by_cases c5 : 0 ≤ x5_1
          · rw [if_pos c5] at H
            have c5b0 := decide_eq_true c5
            clear c5
            replace H := Option.bind_eq_some_iff.mp H
            obtain ⟨t128, A60, H⟩ := H
            replace H : (if t128 < 0 then (some (-1)) else (laws_szInstrS.l0 k1 l0 t128 (wrap64 (x5_1 + 1)))) = some r := H
            have A6 := Aside0.mk A60
            clear A60
            by_cases c7 : t128 < 0
            · rw [if_pos c7] at H
              have c7b0 := decide_eq_true c7
              clear c7
              obtain rfl := Option.some.inj H
              have p127 : 0 ≤ (x5_1 : Int) := DT
              have q127 : x5_1 < (l0.length : Int) := DT
              obtain ⟨ad127, e127, hx127_0, hx127_1, hx127_2, hx127_3, hx127_4⟩ := at_T78 HR0.out x5_1 p127 q127
              cases e127
              replace hx127_0 := (HB.out.cell (World.block_lt_of_cell? w _ hx127_0)).trans hx127_0
              replace hx127_1 := (HB.out.cell (World.block_lt_of_cell? w _ hx127_1)).trans hx127_1
              replace hx127_2 := (HB.out.cell (World.block_lt_of_cell? w _ hx127_2)).trans hx127_2
              replace hx127_3 := (HB.out.cell (World.block_lt_of_cell? w _ hx127_3)).trans hx127_3
              replace hx127_4 := (HB.out.cell (World.block_lt_of_cell? w _ hx127_4)).trans hx127_4
              replace p127 := eq_true p127
              replace q127 := eq_true q127
              go_wp2_with (first | ((with_reducible refine gate_callee (f := 59) rfl ?_); refine gK (some 23) Try.func59 #[.agg #[.string ((rd_T78 l0 x5_1).f0), .int .i64 ((rd_T78 l0 x5_1).f1), .int .i64 ((rd_T78 l0 x5_1).f2), .int .i64 ((rd_T78 l0 x5_1).f3), .int .i64 ((rd_T78 l0 x5_1).f4)], .int .i64 x1_1] rfl rfl rfl ?_; (with_reducible refine (laws_szInstr.calls ((rd_T78 l0 x5_1).f0) ((rd_T78 l0 x5_1).f1) ((rd_T78 l0 x5_1).f2) ((rd_T78 l0 x5_1).f3) ((rd_T78 l0 x5_1).f4) x1_1 t128 _ A6.out).mono ?_); rintro e w8 ⟨rfl, hb⟩; refine ⟨_, rfl, ?_⟩; replace HB := Aside0.mk (below_step BA hb); (try clear hb)))
              go_ret
              exact ⟨EQ, BA⟩
            · rw [if_neg c7] at H
              have c7b0 := decide_eq_false c7
              clear c7
              have H' := Aside0.mk H
              clear H
              have p127 : 0 ≤ (x5_1 : Int) := DT
              have q127 : x5_1 < (l0.length : Int) := DT
              obtain ⟨ad127, e127, hx127_0, hx127_1, hx127_2, hx127_3, hx127_4⟩ := at_T78 HR0.out x5_1 p127 q127
              cases e127
              replace hx127_0 := (HB.out.cell (World.block_lt_of_cell? w _ hx127_0)).trans hx127_0
              replace hx127_1 := (HB.out.cell (World.block_lt_of_cell? w _ hx127_1)).trans hx127_1
              replace hx127_2 := (HB.out.cell (World.block_lt_of_cell? w _ hx127_2)).trans hx127_2
              replace hx127_3 := (HB.out.cell (World.block_lt_of_cell? w _ hx127_3)).trans hx127_3
              replace hx127_4 := (HB.out.cell (World.block_lt_of_cell? w _ hx127_4)).trans hx127_4
              replace p127 := eq_true p127
              replace q127 := eq_true q127
              go_wp2_with (first | ((with_reducible refine gate_callee (f := 59) rfl ?_); refine gK (some 23) Try.func59 #[.agg #[.string ((rd_T78 l0 x5_1).f0), .int .i64 ((rd_T78 l0 x5_1).f1), .int .i64 ((rd_T78 l0 x5_1).f2), .int .i64 ((rd_T78 l0 x5_1).f3), .int .i64 ((rd_T78 l0 x5_1).f4)], .int .i64 x1_1] rfl rfl rfl ?_; (with_reducible refine (laws_szInstr.calls ((rd_T78 l0 x5_1).f0) ((rd_T78 l0 x5_1).f1) ((rd_T78 l0 x5_1).f2) ((rd_T78 l0 x5_1).f3) ((rd_T78 l0 x5_1).f4) x1_1 t128 _ A6.out).mono ?_); rintro e w9 ⟨rfl, hb⟩; refine ⟨_, rfl, ?_⟩; replace HB := Aside0.mk (below_step BA hb); (try clear hb)))
              go_roundg k1
              case measure => have := HK1.out; omega
              case rel => exact ⟨(t128), (wrap64 (x5_1 + 1)), EQ1, EQ1, H', ⟨by have := HK1.out; omega⟩, ⟨BA⟩⟩
          · rw [if_neg c5] at H
            exact absurd H (by simp)
        · rw [if_neg c4] at H
          have c4b0 := decide_eq_false c4
          clear c4
          obtain rfl := Option.some.inj H
          go_wp2
          go_ret
          exact ⟨EQ, BA⟩

/-! ### spec_cdReg: function 138 -/
def spec_cdReg.f (a0 : Int) : Option (Bool) := (spec_l1In.f a0 0 5).bind fun t129 => (some t129)
set_option maxHeartbeats 8000000 in
set_option maxRecDepth 100000 in
theorem spec_cdReg.calls (a0 : Int) (r : Bool) (w : World) (h : spec_cdReg.f a0 = some r) :
    Calls Try.prog 138 #[.int .i64 a0] w fun e w' => e = .returned (.bool r) ∧ Drawn0 w w' := by
  have H : ((spec_l1In.f a0 0 5).bind fun t129 => (some t129)) = some r := h
  clear h
  replace H := Option.bind_eq_some_iff.mp H
  obtain ⟨t129, A20, H⟩ := H
  replace H : (some t129) = some r := H
  have A2 := Aside0.mk A20
  clear A20
  obtain rfl := Option.some.inj H
  go_enter Try.func138, Try.ntmps138
  go_wp2_with (first | ((with_reducible refine gate_callee (f := 95) rfl ?_); refine gK (some 4) Try.func95 #[.int .i64 a0, .int .i64 0, .int .i64 5] rfl rfl rfl ?_; (with_reducible refine (spec_l1In.calls a0 0 5 t129 _ A2.out).mono ?_); rintro e w' ⟨rfl, ⟨nd, rfl⟩⟩; refine ⟨_, rfl, ?_⟩))
  go_ret
  exact ⟨EQ1, DA⟩

/-! ### spec_cdGood: function 110 -/
def spec_cdGood.f (k : Nat) (a0_0 : ByteArray) (a0_1 : Int) (a0_2 : Int) (a0_3 : Int) (a0_4 : Int) : Option (Bool) := (spec_cdShape.f k a0_0).bind fun bt131 => (if bt131.1 = true then ((spec_cdReg.f a0_1).bind fun t136 => (if t136 = true then ((spec_cdReg.f a0_2).bind fun t137 => (if t137 = true then ((spec_cdReg.f a0_3).bind fun t138 => (if t138 = true then ((spec_l1In.f a0_4 bt131.2.2.2.1 bt131.2.2.2.2).bind fun t139 => (if t139 = true then (if bt131.2.1 = true then (if bt131.2.2.1 = true then (some true) else (some (a0_3 == 0))) else (if a0_2 = 0 then (if bt131.2.2.1 = true then (some true) else (some (a0_3 == 0))) else (some false))) else (some false))) else (some false))) else (some false))) else (some false))) else (some false))
theorem spec_cdGood.mono : ∀ a0 a1 a2 a3 a4 k, LeO (spec_cdGood.f k a0 a1 a2 a3 a4) (spec_cdGood.f (k + 1) a0 a1 a2 a3 a4) := by
  intro a0 a1 a2 a3 a4 k
  unfold spec_cdGood.f
  repeat' first | (with_reducible first | exact spec_cdShape.mono _ _ | exact LeO.refl _ | exact LeO.none _ | refine LeO.ite ?_ ?_ | refine LeO.bind ?_ (fun _ => ?_)) | exact LeO.none _ | refine LeO.ite ?_ ?_ | refine LeO.bind ?_ (fun _ => ?_)
set_option maxHeartbeats 8000000 in
set_option maxRecDepth 100000 in
theorem spec_cdGood.calls (k : Nat) (a0_0 : ByteArray) (a0_1 : Int) (a0_2 : Int) (a0_3 : Int) (a0_4 : Int) (r : Bool) (w : World) (h : spec_cdGood.f k a0_0 a0_1 a0_2 a0_3 a0_4 = some r) :
    Calls Try.prog 110 #[.agg #[.string a0_0, .int .i64 a0_1, .int .i64 a0_2, .int .i64 a0_3, .int .i64 a0_4]] w fun e w' => e = .returned (.bool r) ∧ Below w.heap.size w w' := by
  have hu80 := Try.underlying80
  have HB := Aside0.mk (Below.refl w.heap.size w)
  have H : ((spec_cdShape.f k a0_0).bind fun bt131 => (if bt131.1 = true then ((spec_cdReg.f a0_1).bind fun t136 => (if t136 = true then ((spec_cdReg.f a0_2).bind fun t137 => (if t137 = true then ((spec_cdReg.f a0_3).bind fun t138 => (if t138 = true then ((spec_l1In.f a0_4 bt131.2.2.2.1 bt131.2.2.2.2).bind fun t139 => (if t139 = true then (if bt131.2.1 = true then (if bt131.2.2.1 = true then (some true) else (some (a0_3 == 0))) else (if a0_2 = 0 then (if bt131.2.2.1 = true then (some true) else (some (a0_3 == 0))) else (some false))) else (some false))) else (some false))) else (some false))) else (some false))) else (some false))) = some r := h
  clear h
  replace H := Option.bind_eq_some_iff.mp H
  obtain ⟨⟨t131, t132, t133, t134, t135⟩, A20, H⟩ := H
  replace H : (if t131 = true then ((spec_cdReg.f a0_1).bind fun t136 => (if t136 = true then ((spec_cdReg.f a0_2).bind fun t137 => (if t137 = true then ((spec_cdReg.f a0_3).bind fun t138 => (if t138 = true then ((spec_l1In.f a0_4 t134 t135).bind fun t139 => (if t139 = true then (if t132 = true then (if t133 = true then (some true) else (some (a0_3 == 0))) else (if a0_2 = 0 then (if t133 = true then (some true) else (some (a0_3 == 0))) else (some false))) else (some false))) else (some false))) else (some false))) else (some false))) else (some false)) = some r := H
  have A2 := Aside0.mk A20
  clear A20
  by_cases c3 : t131 = true
  · subst c3
    have H1 : ((spec_cdReg.f a0_1).bind fun t136 => (if t136 = true then ((spec_cdReg.f a0_2).bind fun t137 => (if t137 = true then ((spec_cdReg.f a0_3).bind fun t138 => (if t138 = true then ((spec_l1In.f a0_4 t134 t135).bind fun t139 => (if t139 = true then (if t132 = true then (if t133 = true then (some true) else (some (a0_3 == 0))) else (if a0_2 = 0 then (if t133 = true then (some true) else (some (a0_3 == 0))) else (some false))) else (some false))) else (some false))) else (some false))) else (some false))) = some r := by rw [if_pos rfl] at H; exact H
    clear H
    have H := H1
    clear H1
    replace H := Option.bind_eq_some_iff.mp H
    obtain ⟨t136, A40, H⟩ := H
    replace H : (if t136 = true then ((spec_cdReg.f a0_2).bind fun t137 => (if t137 = true then ((spec_cdReg.f a0_3).bind fun t138 => (if t138 = true then ((spec_l1In.f a0_4 t134 t135).bind fun t139 => (if t139 = true then (if t132 = true then (if t133 = true then (some true) else (some (a0_3 == 0))) else (if a0_2 = 0 then (if t133 = true then (some true) else (some (a0_3 == 0))) else (some false))) else (some false))) else (some false))) else (some false))) else (some false)) = some r := H
    have A4 := Aside0.mk A40
    clear A40
    by_cases c5 : t136 = true
    · subst c5
      have H1 : ((spec_cdReg.f a0_2).bind fun t137 => (if t137 = true then ((spec_cdReg.f a0_3).bind fun t138 => (if t138 = true then ((spec_l1In.f a0_4 t134 t135).bind fun t139 => (if t139 = true then (if t132 = true then (if t133 = true then (some true) else (some (a0_3 == 0))) else (if a0_2 = 0 then (if t133 = true then (some true) else (some (a0_3 == 0))) else (some false))) else (some false))) else (some false))) else (some false))) = some r := by rw [if_pos rfl] at H; exact H
      clear H
      have H := H1
      clear H1
      replace H := Option.bind_eq_some_iff.mp H
      obtain ⟨t137, A60, H⟩ := H
      replace H : (if t137 = true then ((spec_cdReg.f a0_3).bind fun t138 => (if t138 = true then ((spec_l1In.f a0_4 t134 t135).bind fun t139 => (if t139 = true then (if t132 = true then (if t133 = true then (some true) else (some (a0_3 == 0))) else (if a0_2 = 0 then (if t133 = true then (some true) else (some (a0_3 == 0))) else (some false))) else (some false))) else (some false))) else (some false)) = some r := H
      have A6 := Aside0.mk A60
      clear A60
      by_cases c7 : t137 = true
      · subst c7
        have H1 : ((spec_cdReg.f a0_3).bind fun t138 => (if t138 = true then ((spec_l1In.f a0_4 t134 t135).bind fun t139 => (if t139 = true then (if t132 = true then (if t133 = true then (some true) else (some (a0_3 == 0))) else (if a0_2 = 0 then (if t133 = true then (some true) else (some (a0_3 == 0))) else (some false))) else (some false))) else (some false))) = some r := by rw [if_pos rfl] at H; exact H
        clear H
        have H := H1
        clear H1
        replace H := Option.bind_eq_some_iff.mp H
        obtain ⟨t138, A80, H⟩ := H
        replace H : (if t138 = true then ((spec_l1In.f a0_4 t134 t135).bind fun t139 => (if t139 = true then (if t132 = true then (if t133 = true then (some true) else (some (a0_3 == 0))) else (if a0_2 = 0 then (if t133 = true then (some true) else (some (a0_3 == 0))) else (some false))) else (some false))) else (some false)) = some r := H
        have A8 := Aside0.mk A80
        clear A80
        by_cases c9 : t138 = true
        · subst c9
          have H1 : ((spec_l1In.f a0_4 t134 t135).bind fun t139 => (if t139 = true then (if t132 = true then (if t133 = true then (some true) else (some (a0_3 == 0))) else (if a0_2 = 0 then (if t133 = true then (some true) else (some (a0_3 == 0))) else (some false))) else (some false))) = some r := by rw [if_pos rfl] at H; exact H
          clear H
          have H := H1
          clear H1
          replace H := Option.bind_eq_some_iff.mp H
          obtain ⟨t139, A100, H⟩ := H
          replace H : (if t139 = true then (if t132 = true then (if t133 = true then (some true) else (some (a0_3 == 0))) else (if a0_2 = 0 then (if t133 = true then (some true) else (some (a0_3 == 0))) else (some false))) else (some false)) = some r := H
          have A10 := Aside0.mk A100
          clear A100
          by_cases c11 : t139 = true
          · subst c11
            have H1 : (if t132 = true then (if t133 = true then (some true) else (some (a0_3 == 0))) else (if a0_2 = 0 then (if t133 = true then (some true) else (some (a0_3 == 0))) else (some false))) = some r := by rw [if_pos rfl] at H; exact H
            clear H
            have H := H1
            clear H1
            by_cases c12 : t132 = true
            · subst c12
              have H1 : (if t133 = true then (some true) else (some (a0_3 == 0))) = some r := by rw [if_pos rfl] at H; exact H
              clear H
              have H := H1
              clear H1
              by_cases c13 : t133 = true
              · subst c13
                have H1 : (some true) = some r := by rw [if_pos rfl] at H; exact H
                clear H
                have H := H1
                clear H1
                obtain rfl := Option.some.inj H
                go_enter Try.func110, Try.ntmps110
                go_wp2_with (first | ((with_reducible refine gate_dst (N := 1) rfl ?_); refine box_event ?hg (N := 1) ?hd (cs := #[.string a0_0, .int .i64 a0_1, .int .i64 a0_2, .int .i64 a0_3, .int .i64 a0_4]) (t := 80) ?hr ?_; (case hd => rfl); (case hg => rfl); (case hr => first | (go_simp; done) | (go_simp; rfl)); intro gb130 hg w14 hbox hb; have BK130 := Aside0.mk (hbox); have GW130 := Aside0.mk ((by rw [hg]; exact (below_size BA) : w.heap.size ≤ gb130)); have GE130 := Aside0.mk ((by rw [hg]; exact (below_size BA) : w.heap.size ≤ gb130)); replace HB := Aside0.mk (below_step BA hb); clear hb hbox hg; have hcz15_0 := bcv BK130.out 0 (.string a0_0); have hcz15_1 := bcv BK130.out 1 (.int .i64 a0_1); have hcz15_2 := bcv BK130.out 2 (.int .i64 a0_2); have hcz15_3 := bcv BK130.out 3 (.int .i64 a0_3); have hcz15_4 := bcv BK130.out 4 (.int .i64 a0_4); have hfz15 := blk_frozen BK130.out) | ((with_reducible refine gate_callee (f := 115) rfl ?_); refine gK (some 11) Try.func115 #[.string a0_0] rfl rfl rfl ?_; (with_reducible refine (spec_cdShape.calls k a0_0 true true true t134 t135 _ A2.out).mono ?_); rintro e w' ⟨rfl, ⟨nd, rfl⟩⟩; refine ⟨_, rfl, ?_⟩) | (go_at_call 138; (with_reducible refine (spec_cdReg.calls a0_1 true _ A4.out).mono ?_); rintro e w' ⟨rfl, ⟨nd, rfl⟩⟩) | (go_at_call 138; (with_reducible refine (spec_cdReg.calls a0_2 true _ A6.out).mono ?_); rintro e w' ⟨rfl, ⟨nd, rfl⟩⟩) | (go_at_call 138; (with_reducible refine (spec_cdReg.calls a0_3 true _ A8.out).mono ?_); rintro e w' ⟨rfl, ⟨nd, rfl⟩⟩) | (go_at_call 95; (with_reducible refine (spec_l1In.calls a0_4 t134 t135 true _ A10.out).mono ?_); rintro e w' ⟨rfl, ⟨nd, rfl⟩⟩))
                go_ret
                exact ⟨EQ, BA⟩
              · replace c13 := Bool.eq_false_iff.mpr c13
                subst c13
                have H1 : (some (a0_3 == 0)) = some r := by rw [if_neg (show ¬ (false = true) by decide)] at H; exact H
                clear H
                have H := H1
                clear H1
                obtain rfl := Option.some.inj H
                go_enter Try.func110, Try.ntmps110
                go_wp2_with (first | ((with_reducible refine gate_dst (N := 1) rfl ?_); refine box_event ?hg (N := 1) ?hd (cs := #[.string a0_0, .int .i64 a0_1, .int .i64 a0_2, .int .i64 a0_3, .int .i64 a0_4]) (t := 80) ?hr ?_; (case hd => rfl); (case hg => rfl); (case hr => first | (go_simp; done) | (go_simp; rfl)); intro gb130 hg w16 hbox hb; have BK130 := Aside0.mk (hbox); have GW130 := Aside0.mk ((by rw [hg]; exact (below_size BA) : w.heap.size ≤ gb130)); have GE130 := Aside0.mk ((by rw [hg]; exact (below_size BA) : w.heap.size ≤ gb130)); replace HB := Aside0.mk (below_step BA hb); clear hb hbox hg; have hcz17_0 := bcv BK130.out 0 (.string a0_0); have hcz17_1 := bcv BK130.out 1 (.int .i64 a0_1); have hcz17_2 := bcv BK130.out 2 (.int .i64 a0_2); have hcz17_3 := bcv BK130.out 3 (.int .i64 a0_3); have hcz17_4 := bcv BK130.out 4 (.int .i64 a0_4); have hfz17 := blk_frozen BK130.out) | ((with_reducible refine gate_callee (f := 115) rfl ?_); refine gK (some 11) Try.func115 #[.string a0_0] rfl rfl rfl ?_; (with_reducible refine (spec_cdShape.calls k a0_0 true true false t134 t135 _ A2.out).mono ?_); rintro e w' ⟨rfl, ⟨nd, rfl⟩⟩; refine ⟨_, rfl, ?_⟩) | (go_at_call 138; (with_reducible refine (spec_cdReg.calls a0_1 true _ A4.out).mono ?_); rintro e w' ⟨rfl, ⟨nd, rfl⟩⟩) | (go_at_call 138; (with_reducible refine (spec_cdReg.calls a0_2 true _ A6.out).mono ?_); rintro e w' ⟨rfl, ⟨nd, rfl⟩⟩) | (go_at_call 138; (with_reducible refine (spec_cdReg.calls a0_3 true _ A8.out).mono ?_); rintro e w' ⟨rfl, ⟨nd, rfl⟩⟩) | (go_at_call 95; (with_reducible refine (spec_l1In.calls a0_4 t134 t135 true _ A10.out).mono ?_); rintro e w' ⟨rfl, ⟨nd, rfl⟩⟩))
                go_ret
                exact ⟨EQ, BA⟩
            · replace c12 := Bool.eq_false_iff.mpr c12
              subst c12
              have H1 : (if a0_2 = 0 then (if t133 = true then (some true) else (some (a0_3 == 0))) else (some false)) = some r := by rw [if_neg (show ¬ (false = true) by decide)] at H; exact H
              clear H
              have H := H1
              clear H1
              by_cases c18 : a0_2 = 0
              · rw [if_pos c18] at H
                have c18b0 := beq_iff_eq.mpr c18
                have c18b1 := bne_eq_false_iff_eq.mpr c18
                clear c18
                by_cases c19 : t133 = true
                · subst c19
                  have H1 : (some true) = some r := by rw [if_pos rfl] at H; exact H
                  clear H
                  have H := H1
                  clear H1
                  obtain rfl := Option.some.inj H
                  go_enter Try.func110, Try.ntmps110
                  go_wp2_with (first | ((with_reducible refine gate_dst (N := 1) rfl ?_); refine box_event ?hg (N := 1) ?hd (cs := #[.string a0_0, .int .i64 a0_1, .int .i64 a0_2, .int .i64 a0_3, .int .i64 a0_4]) (t := 80) ?hr ?_; (case hd => rfl); (case hg => rfl); (case hr => first | (go_simp; done) | (go_simp; rfl)); intro gb130 hg w20 hbox hb; have BK130 := Aside0.mk (hbox); have GW130 := Aside0.mk ((by rw [hg]; exact (below_size BA) : w.heap.size ≤ gb130)); have GE130 := Aside0.mk ((by rw [hg]; exact (below_size BA) : w.heap.size ≤ gb130)); replace HB := Aside0.mk (below_step BA hb); clear hb hbox hg; have hcz21_0 := bcv BK130.out 0 (.string a0_0); have hcz21_1 := bcv BK130.out 1 (.int .i64 a0_1); have hcz21_2 := bcv BK130.out 2 (.int .i64 a0_2); have hcz21_3 := bcv BK130.out 3 (.int .i64 a0_3); have hcz21_4 := bcv BK130.out 4 (.int .i64 a0_4); have hfz21 := blk_frozen BK130.out) | ((with_reducible refine gate_callee (f := 115) rfl ?_); refine gK (some 11) Try.func115 #[.string a0_0] rfl rfl rfl ?_; (with_reducible refine (spec_cdShape.calls k a0_0 true false true t134 t135 _ A2.out).mono ?_); rintro e w' ⟨rfl, ⟨nd, rfl⟩⟩; refine ⟨_, rfl, ?_⟩) | (go_at_call 138; (with_reducible refine (spec_cdReg.calls a0_1 true _ A4.out).mono ?_); rintro e w' ⟨rfl, ⟨nd, rfl⟩⟩) | (go_at_call 138; (with_reducible refine (spec_cdReg.calls a0_2 true _ A6.out).mono ?_); rintro e w' ⟨rfl, ⟨nd, rfl⟩⟩) | (go_at_call 138; (with_reducible refine (spec_cdReg.calls a0_3 true _ A8.out).mono ?_); rintro e w' ⟨rfl, ⟨nd, rfl⟩⟩) | (go_at_call 95; (with_reducible refine (spec_l1In.calls a0_4 t134 t135 true _ A10.out).mono ?_); rintro e w' ⟨rfl, ⟨nd, rfl⟩⟩))
                  go_ret
                  exact ⟨EQ, BA⟩
                · replace c19 := Bool.eq_false_iff.mpr c19
                  subst c19
                  have H1 : (some (a0_3 == 0)) = some r := by rw [if_neg (show ¬ (false = true) by decide)] at H; exact H
                  clear H
                  have H := H1
                  clear H1
                  obtain rfl := Option.some.inj H
                  go_enter Try.func110, Try.ntmps110
                  go_wp2_with (first | ((with_reducible refine gate_dst (N := 1) rfl ?_); refine box_event ?hg (N := 1) ?hd (cs := #[.string a0_0, .int .i64 a0_1, .int .i64 a0_2, .int .i64 a0_3, .int .i64 a0_4]) (t := 80) ?hr ?_; (case hd => rfl); (case hg => rfl); (case hr => first | (go_simp; done) | (go_simp; rfl)); intro gb130 hg w22 hbox hb; have BK130 := Aside0.mk (hbox); have GW130 := Aside0.mk ((by rw [hg]; exact (below_size BA) : w.heap.size ≤ gb130)); have GE130 := Aside0.mk ((by rw [hg]; exact (below_size BA) : w.heap.size ≤ gb130)); replace HB := Aside0.mk (below_step BA hb); clear hb hbox hg; have hcz23_0 := bcv BK130.out 0 (.string a0_0); have hcz23_1 := bcv BK130.out 1 (.int .i64 a0_1); have hcz23_2 := bcv BK130.out 2 (.int .i64 a0_2); have hcz23_3 := bcv BK130.out 3 (.int .i64 a0_3); have hcz23_4 := bcv BK130.out 4 (.int .i64 a0_4); have hfz23 := blk_frozen BK130.out) | ((with_reducible refine gate_callee (f := 115) rfl ?_); refine gK (some 11) Try.func115 #[.string a0_0] rfl rfl rfl ?_; (with_reducible refine (spec_cdShape.calls k a0_0 true false false t134 t135 _ A2.out).mono ?_); rintro e w' ⟨rfl, ⟨nd, rfl⟩⟩; refine ⟨_, rfl, ?_⟩) | (go_at_call 138; (with_reducible refine (spec_cdReg.calls a0_1 true _ A4.out).mono ?_); rintro e w' ⟨rfl, ⟨nd, rfl⟩⟩) | (go_at_call 138; (with_reducible refine (spec_cdReg.calls a0_2 true _ A6.out).mono ?_); rintro e w' ⟨rfl, ⟨nd, rfl⟩⟩) | (go_at_call 138; (with_reducible refine (spec_cdReg.calls a0_3 true _ A8.out).mono ?_); rintro e w' ⟨rfl, ⟨nd, rfl⟩⟩) | (go_at_call 95; (with_reducible refine (spec_l1In.calls a0_4 t134 t135 true _ A10.out).mono ?_); rintro e w' ⟨rfl, ⟨nd, rfl⟩⟩))
                  go_ret
                  exact ⟨EQ, BA⟩
              · rw [if_neg c18] at H
                have c18b0 := beq_eq_false_iff_ne.mpr c18
                have c18b1 := bne_iff_ne.mpr c18
                obtain rfl := Option.some.inj H
                go_enter Try.func110, Try.ntmps110
                go_wp2_with (first | ((with_reducible refine gate_dst (N := 1) rfl ?_); refine box_event ?hg (N := 1) ?hd (cs := #[.string a0_0, .int .i64 a0_1, .int .i64 a0_2, .int .i64 a0_3, .int .i64 a0_4]) (t := 80) ?hr ?_; (case hd => rfl); (case hg => rfl); (case hr => first | (go_simp; done) | (go_simp; rfl)); intro gb130 hg w24 hbox hb; have BK130 := Aside0.mk (hbox); have GW130 := Aside0.mk ((by rw [hg]; exact (below_size BA) : w.heap.size ≤ gb130)); have GE130 := Aside0.mk ((by rw [hg]; exact (below_size BA) : w.heap.size ≤ gb130)); replace HB := Aside0.mk (below_step BA hb); clear hb hbox hg; have hcz25_0 := bcv BK130.out 0 (.string a0_0); have hcz25_1 := bcv BK130.out 1 (.int .i64 a0_1); have hcz25_2 := bcv BK130.out 2 (.int .i64 a0_2); have hcz25_3 := bcv BK130.out 3 (.int .i64 a0_3); have hcz25_4 := bcv BK130.out 4 (.int .i64 a0_4); have hfz25 := blk_frozen BK130.out) | ((with_reducible refine gate_callee (f := 115) rfl ?_); refine gK (some 11) Try.func115 #[.string a0_0] rfl rfl rfl ?_; (with_reducible refine (spec_cdShape.calls k a0_0 true false t133 t134 t135 _ A2.out).mono ?_); rintro e w' ⟨rfl, ⟨nd, rfl⟩⟩; refine ⟨_, rfl, ?_⟩) | (go_at_call 138; (with_reducible refine (spec_cdReg.calls a0_1 true _ A4.out).mono ?_); rintro e w' ⟨rfl, ⟨nd, rfl⟩⟩) | (go_at_call 138; (with_reducible refine (spec_cdReg.calls a0_2 true _ A6.out).mono ?_); rintro e w' ⟨rfl, ⟨nd, rfl⟩⟩) | (go_at_call 138; (with_reducible refine (spec_cdReg.calls a0_3 true _ A8.out).mono ?_); rintro e w' ⟨rfl, ⟨nd, rfl⟩⟩) | (go_at_call 95; (with_reducible refine (spec_l1In.calls a0_4 t134 t135 true _ A10.out).mono ?_); rintro e w' ⟨rfl, ⟨nd, rfl⟩⟩))
                go_ret
                exact ⟨EQ, BA⟩
          · replace c11 := Bool.eq_false_iff.mpr c11
            subst c11
            have H1 : (some false) = some r := by rw [if_neg (show ¬ (false = true) by decide)] at H; exact H
            clear H
            have H := H1
            clear H1
            obtain rfl := Option.some.inj H
            go_enter Try.func110, Try.ntmps110
            go_wp2_with (first | ((with_reducible refine gate_dst (N := 1) rfl ?_); refine box_event ?hg (N := 1) ?hd (cs := #[.string a0_0, .int .i64 a0_1, .int .i64 a0_2, .int .i64 a0_3, .int .i64 a0_4]) (t := 80) ?hr ?_; (case hd => rfl); (case hg => rfl); (case hr => first | (go_simp; done) | (go_simp; rfl)); intro gb130 hg w26 hbox hb; have BK130 := Aside0.mk (hbox); have GW130 := Aside0.mk ((by rw [hg]; exact (below_size BA) : w.heap.size ≤ gb130)); have GE130 := Aside0.mk ((by rw [hg]; exact (below_size BA) : w.heap.size ≤ gb130)); replace HB := Aside0.mk (below_step BA hb); clear hb hbox hg; have hcz27_0 := bcv BK130.out 0 (.string a0_0); have hcz27_1 := bcv BK130.out 1 (.int .i64 a0_1); have hcz27_2 := bcv BK130.out 2 (.int .i64 a0_2); have hcz27_3 := bcv BK130.out 3 (.int .i64 a0_3); have hcz27_4 := bcv BK130.out 4 (.int .i64 a0_4); have hfz27 := blk_frozen BK130.out) | ((with_reducible refine gate_callee (f := 115) rfl ?_); refine gK (some 11) Try.func115 #[.string a0_0] rfl rfl rfl ?_; (with_reducible refine (spec_cdShape.calls k a0_0 true t132 t133 t134 t135 _ A2.out).mono ?_); rintro e w' ⟨rfl, ⟨nd, rfl⟩⟩; refine ⟨_, rfl, ?_⟩) | (go_at_call 138; (with_reducible refine (spec_cdReg.calls a0_1 true _ A4.out).mono ?_); rintro e w' ⟨rfl, ⟨nd, rfl⟩⟩) | (go_at_call 138; (with_reducible refine (spec_cdReg.calls a0_2 true _ A6.out).mono ?_); rintro e w' ⟨rfl, ⟨nd, rfl⟩⟩) | (go_at_call 138; (with_reducible refine (spec_cdReg.calls a0_3 true _ A8.out).mono ?_); rintro e w' ⟨rfl, ⟨nd, rfl⟩⟩) | (go_at_call 95; (with_reducible refine (spec_l1In.calls a0_4 t134 t135 false _ A10.out).mono ?_); rintro e w' ⟨rfl, ⟨nd, rfl⟩⟩))
            go_ret
            exact ⟨EQ, BA⟩
        · replace c9 := Bool.eq_false_iff.mpr c9
          subst c9
          have H1 : (some false) = some r := by rw [if_neg (show ¬ (false = true) by decide)] at H; exact H
          clear H
          have H := H1
          clear H1
          obtain rfl := Option.some.inj H
          go_enter Try.func110, Try.ntmps110
          go_wp2_with (first | ((with_reducible refine gate_dst (N := 1) rfl ?_); refine box_event ?hg (N := 1) ?hd (cs := #[.string a0_0, .int .i64 a0_1, .int .i64 a0_2, .int .i64 a0_3, .int .i64 a0_4]) (t := 80) ?hr ?_; (case hd => rfl); (case hg => rfl); (case hr => first | (go_simp; done) | (go_simp; rfl)); intro gb130 hg w28 hbox hb; have BK130 := Aside0.mk (hbox); have GW130 := Aside0.mk ((by rw [hg]; exact (below_size BA) : w.heap.size ≤ gb130)); have GE130 := Aside0.mk ((by rw [hg]; exact (below_size BA) : w.heap.size ≤ gb130)); replace HB := Aside0.mk (below_step BA hb); clear hb hbox hg; have hcz29_0 := bcv BK130.out 0 (.string a0_0); have hcz29_1 := bcv BK130.out 1 (.int .i64 a0_1); have hcz29_2 := bcv BK130.out 2 (.int .i64 a0_2); have hcz29_3 := bcv BK130.out 3 (.int .i64 a0_3); have hcz29_4 := bcv BK130.out 4 (.int .i64 a0_4); have hfz29 := blk_frozen BK130.out) | ((with_reducible refine gate_callee (f := 115) rfl ?_); refine gK (some 11) Try.func115 #[.string a0_0] rfl rfl rfl ?_; (with_reducible refine (spec_cdShape.calls k a0_0 true t132 t133 t134 t135 _ A2.out).mono ?_); rintro e w' ⟨rfl, ⟨nd, rfl⟩⟩; refine ⟨_, rfl, ?_⟩) | (go_at_call 138; (with_reducible refine (spec_cdReg.calls a0_1 true _ A4.out).mono ?_); rintro e w' ⟨rfl, ⟨nd, rfl⟩⟩) | (go_at_call 138; (with_reducible refine (spec_cdReg.calls a0_2 true _ A6.out).mono ?_); rintro e w' ⟨rfl, ⟨nd, rfl⟩⟩) | (go_at_call 138; (with_reducible refine (spec_cdReg.calls a0_3 false _ A8.out).mono ?_); rintro e w' ⟨rfl, ⟨nd, rfl⟩⟩))
          go_ret
          exact ⟨EQ, BA⟩
      · replace c7 := Bool.eq_false_iff.mpr c7
        subst c7
        have H1 : (some false) = some r := by rw [if_neg (show ¬ (false = true) by decide)] at H; exact H
        clear H
        have H := H1
        clear H1
        obtain rfl := Option.some.inj H
        go_enter Try.func110, Try.ntmps110
        go_wp2_with (first | ((with_reducible refine gate_dst (N := 1) rfl ?_); refine box_event ?hg (N := 1) ?hd (cs := #[.string a0_0, .int .i64 a0_1, .int .i64 a0_2, .int .i64 a0_3, .int .i64 a0_4]) (t := 80) ?hr ?_; (case hd => rfl); (case hg => rfl); (case hr => first | (go_simp; done) | (go_simp; rfl)); intro gb130 hg w30 hbox hb; have BK130 := Aside0.mk (hbox); have GW130 := Aside0.mk ((by rw [hg]; exact (below_size BA) : w.heap.size ≤ gb130)); have GE130 := Aside0.mk ((by rw [hg]; exact (below_size BA) : w.heap.size ≤ gb130)); replace HB := Aside0.mk (below_step BA hb); clear hb hbox hg; have hcz31_0 := bcv BK130.out 0 (.string a0_0); have hcz31_1 := bcv BK130.out 1 (.int .i64 a0_1); have hcz31_2 := bcv BK130.out 2 (.int .i64 a0_2); have hcz31_3 := bcv BK130.out 3 (.int .i64 a0_3); have hcz31_4 := bcv BK130.out 4 (.int .i64 a0_4); have hfz31 := blk_frozen BK130.out) | ((with_reducible refine gate_callee (f := 115) rfl ?_); refine gK (some 11) Try.func115 #[.string a0_0] rfl rfl rfl ?_; (with_reducible refine (spec_cdShape.calls k a0_0 true t132 t133 t134 t135 _ A2.out).mono ?_); rintro e w' ⟨rfl, ⟨nd, rfl⟩⟩; refine ⟨_, rfl, ?_⟩) | (go_at_call 138; (with_reducible refine (spec_cdReg.calls a0_1 true _ A4.out).mono ?_); rintro e w' ⟨rfl, ⟨nd, rfl⟩⟩) | (go_at_call 138; (with_reducible refine (spec_cdReg.calls a0_2 false _ A6.out).mono ?_); rintro e w' ⟨rfl, ⟨nd, rfl⟩⟩))
        go_ret
        exact ⟨EQ, BA⟩
    · replace c5 := Bool.eq_false_iff.mpr c5
      subst c5
      have H1 : (some false) = some r := by rw [if_neg (show ¬ (false = true) by decide)] at H; exact H
      clear H
      have H := H1
      clear H1
      obtain rfl := Option.some.inj H
      go_enter Try.func110, Try.ntmps110
      go_wp2_with (first | ((with_reducible refine gate_dst (N := 1) rfl ?_); refine box_event ?hg (N := 1) ?hd (cs := #[.string a0_0, .int .i64 a0_1, .int .i64 a0_2, .int .i64 a0_3, .int .i64 a0_4]) (t := 80) ?hr ?_; (case hd => rfl); (case hg => rfl); (case hr => first | (go_simp; done) | (go_simp; rfl)); intro gb130 hg w32 hbox hb; have BK130 := Aside0.mk (hbox); have GW130 := Aside0.mk ((by rw [hg]; exact (below_size BA) : w.heap.size ≤ gb130)); have GE130 := Aside0.mk ((by rw [hg]; exact (below_size BA) : w.heap.size ≤ gb130)); replace HB := Aside0.mk (below_step BA hb); clear hb hbox hg; have hcz33_0 := bcv BK130.out 0 (.string a0_0); have hcz33_1 := bcv BK130.out 1 (.int .i64 a0_1); have hcz33_2 := bcv BK130.out 2 (.int .i64 a0_2); have hcz33_3 := bcv BK130.out 3 (.int .i64 a0_3); have hcz33_4 := bcv BK130.out 4 (.int .i64 a0_4); have hfz33 := blk_frozen BK130.out) | ((with_reducible refine gate_callee (f := 115) rfl ?_); refine gK (some 11) Try.func115 #[.string a0_0] rfl rfl rfl ?_; (with_reducible refine (spec_cdShape.calls k a0_0 true t132 t133 t134 t135 _ A2.out).mono ?_); rintro e w' ⟨rfl, ⟨nd, rfl⟩⟩; refine ⟨_, rfl, ?_⟩) | (go_at_call 138; (with_reducible refine (spec_cdReg.calls a0_1 false _ A4.out).mono ?_); rintro e w' ⟨rfl, ⟨nd, rfl⟩⟩))
      go_ret
      exact ⟨EQ, BA⟩
  · replace c3 := Bool.eq_false_iff.mpr c3
    subst c3
    have H1 : (some false) = some r := by rw [if_neg (show ¬ (false = true) by decide)] at H; exact H
    clear H
    have H := H1
    clear H1
    obtain rfl := Option.some.inj H
    go_enter Try.func110, Try.ntmps110
    go_wp2_with (first | ((with_reducible refine gate_dst (N := 1) rfl ?_); refine box_event ?hg (N := 1) ?hd (cs := #[.string a0_0, .int .i64 a0_1, .int .i64 a0_2, .int .i64 a0_3, .int .i64 a0_4]) (t := 80) ?hr ?_; (case hd => rfl); (case hg => rfl); (case hr => first | (go_simp; done) | (go_simp; rfl)); intro gb130 hg w34 hbox hb; have BK130 := Aside0.mk (hbox); have GW130 := Aside0.mk ((by rw [hg]; exact (below_size BA) : w.heap.size ≤ gb130)); have GE130 := Aside0.mk ((by rw [hg]; exact (below_size BA) : w.heap.size ≤ gb130)); replace HB := Aside0.mk (below_step BA hb); clear hb hbox hg; have hcz35_0 := bcv BK130.out 0 (.string a0_0); have hcz35_1 := bcv BK130.out 1 (.int .i64 a0_1); have hcz35_2 := bcv BK130.out 2 (.int .i64 a0_2); have hcz35_3 := bcv BK130.out 3 (.int .i64 a0_3); have hcz35_4 := bcv BK130.out 4 (.int .i64 a0_4); have hfz35 := blk_frozen BK130.out) | ((with_reducible refine gate_callee (f := 115) rfl ?_); refine gK (some 11) Try.func115 #[.string a0_0] rfl rfl rfl ?_; (with_reducible refine (spec_cdShape.calls k a0_0 false t132 t133 t134 t135 _ A2.out).mono ?_); rintro e w' ⟨rfl, ⟨nd, rfl⟩⟩; refine ⟨_, rfl, ?_⟩))
    go_ret
    exact ⟨EQ, BA⟩

/-! ### spec_cdCode: function 60 -/
def spec_cdCode.l0 : Nat → List (S80) → Int → Int → Option (Bool)
  | 0, _, _, _ => none
  | k + 1, x8, x9, x10 => if x10 < x9 then (if 0 ≤ x10 then (if x10 < (x8.length : Int) then ((spec_cdGood.f k ((rd_T80 x8 x10).f0) ((rd_T80 x8 x10).f1) ((rd_T80 x8 x10).f2) ((rd_T80 x8 x10).f3) ((rd_T80 x8 x10).f4)).bind fun t142 => (if t142 = true then (spec_cdCode.l0 k x8 x9 (wrap64 (x10 + 1))) else (some false))) else (none)) else (none)) else (some true)
def spec_cdCode.f (k : Nat) (l0 : List (S80)) : Option (Bool) := if (l0.length : Int) > 40 then (some false) else (spec_cdCode.l0 k l0 (l0.length : Int) 0)
theorem spec_cdCode.mono_l : ∀ k, (∀ y0 y1 y2, LeO (spec_cdCode.l0 k y0 y1 y2) (spec_cdCode.l0 (k + 1) y0 y1 y2))
  | 0 => fun _ _ _ r h => by simp [spec_cdCode.l0] at h
  | k + 1 => by
    have ih0 := spec_cdCode.mono_l k
    · intro y0 y1 y2
      unfold spec_cdCode.l0
      repeat' first | (with_reducible first | exact ih0 _ _ _ | exact spec_cdGood.mono _ _ _ _ _ _ | exact LeO.refl _ | exact LeO.none _ | refine LeO.ite ?_ ?_ | refine LeO.bind ?_ (fun _ => ?_)) | exact LeO.none _ | refine LeO.ite ?_ ?_ | refine LeO.bind ?_ (fun _ => ?_)
theorem spec_cdCode.mono : ∀ a0 k, LeO (spec_cdCode.f k a0) (spec_cdCode.f (k + 1) a0) := by
  intro a0 k
  have ih0 := spec_cdCode.mono_l k
  unfold spec_cdCode.f
  repeat' first | (with_reducible first | exact ih0 _ _ _ | exact spec_cdGood.mono _ _ _ _ _ _ | exact LeO.refl _ | exact LeO.none _ | refine LeO.ite ?_ ?_ | refine LeO.bind ?_ (fun _ => ?_)) | exact LeO.none _ | refine LeO.ite ?_ ?_ | refine LeO.bind ?_ (fun _ => ?_)
set_option maxHeartbeats 8000000 in
set_option maxRecDepth 100000 in
theorem spec_cdCode.calls (k : Nat) (A0 : Option Addr) (c0 : Nat) (l0 : List (S80)) (r : Bool) (w : World) (hr0 : Kd.C k80 w A0 l0.length l0) (hc0 : l0.length ≤ c0) (h : spec_cdCode.f k l0 = some r) :
    Calls Try.prog 60 #[.slice A0 l0.length c0] w fun e w' => e = .returned (.bool r) ∧ Below w.heap.size w w' := by
  have hu80 := Try.underlying80
  have HR0 := Aside0.mk hr0
  have HC0 := Aside0.mk hc0
  clear hr0 hc0
  have HB := Aside0.mk (Below.refl w.heap.size w)
  have H : (if (l0.length : Int) > 40 then (some false) else (spec_cdCode.l0 k l0 (l0.length : Int) 0)) = some r := h
  clear h
  by_cases c2 : (l0.length : Int) > 40
  · rw [if_pos c2] at H
    have c2b0 := decide_eq_true c2
    have c2b1 : decide (40 < l0.length) = true := decide_eq_true (by omega)
    clear c2
    obtain rfl := Option.some.inj H
    go_enter Try.func60, Try.ntmps60
    go_wp2
    go_ret
    exact ⟨EQ, BA⟩
  · rw [if_neg c2] at H
    have c2b0 := decide_eq_false c2
    have c2b1 : decide (40 < l0.length) = false := decide_eq_false (by omega)
    clear c2
    have H' := Aside0.mk H
    clear H
    go_enter Try.func60, Try.ntmps60
    go_wp2
    go_loopg [10] k (fun kq v10 w' => ∃ (x10_1 : Int), v10 = .int .i64 x10_1 ∧ Aside0 (spec_cdCode.l0 kq l0 (l0.length : Int) x10_1 = some r) ∧ Aside0 (kq ≤ k) ∧ Aside0 (Below w.heap.size w w'))
    case atStart => exact ⟨(0), EQ1, H', ⟨Nat.le_refl _⟩, ⟨BA⟩⟩
    case round =>
      clear H'
      (try clear c2); (try clear c2b0); (try clear c2b1); (try clear p2)
      obtain ⟨x10_1, rfl, HA, HK1, HB⟩ := hrel
      cases gk with
      | zero => exact absurd HA.out (by simp [spec_cdCode.l0])
      | succ k1 =>
        have H := HA.out
        clear HA
        simp only [spec_cdCode.l0] at H
        by_cases c3 : x10_1 < (l0.length : Int)
        · rw [if_pos c3] at H
          have c3b0 := decide_eq_true c3
          clear c3
          by_cases c4 : 0 ≤ x10_1
          · rw [if_pos c4] at H
            have c4b0 := decide_eq_true c4
            clear c4
            by_cases c5 : x10_1 < (l0.length : Int)
            · rw [if_pos c5] at H
              have c5b0 := decide_eq_true c5
              clear c5
              replace H := Option.bind_eq_some_iff.mp H
              obtain ⟨t142, A60, H⟩ := H
              replace H : (if t142 = true then (spec_cdCode.l0 k1 l0 (l0.length : Int) (wrap64 (x10_1 + 1))) else (some false)) = some r := H
              have A6 := Aside0.mk A60
              clear A60
              by_cases c7 : t142 = true
              · subst c7
                have H1 : (spec_cdCode.l0 k1 l0 (l0.length : Int) (wrap64 (x10_1 + 1))) = some r := by rw [if_pos rfl] at H; exact H
                clear H
                have H := H1
                clear H1
                have H' := Aside0.mk H
                clear H
                have p140 : 0 ≤ (x10_1 : Int) := DT
                have q140 : x10_1 < (l0.length : Int) := DT
                obtain ⟨ad140, e140, hx140_0, hx140_1, hx140_2, hx140_3, hx140_4⟩ := at_T80 HR0.out x10_1 p140 q140
                cases e140
                replace hx140_0 := (HB.out.cell (World.block_lt_of_cell? w _ hx140_0)).trans hx140_0
                replace hx140_1 := (HB.out.cell (World.block_lt_of_cell? w _ hx140_1)).trans hx140_1
                replace hx140_2 := (HB.out.cell (World.block_lt_of_cell? w _ hx140_2)).trans hx140_2
                replace hx140_3 := (HB.out.cell (World.block_lt_of_cell? w _ hx140_3)).trans hx140_3
                replace hx140_4 := (HB.out.cell (World.block_lt_of_cell? w _ hx140_4)).trans hx140_4
                replace p140 := eq_true p140
                replace q140 := eq_true q140
                go_wp2_with (first | ((with_reducible refine gate_dst (N := 4) rfl ?_); refine box_event ?hg (N := 4) ?hd (cs := #[.string (⟨#[]⟩ : ByteArray), .int .i64 0, .int .i64 0, .int .i64 0, .int .i64 0]) (t := 80) ?hr ?_; (case hd => rfl); (case hg => rfl); (case hr => first | (go_simp; done) | (go_simp; rfl)); intro gb141 hg w8 hbox hb; have BK141 := Aside0.mk (hbox); have GW141 := Aside0.mk ((by rw [hg]; exact (below_size BA) : w.heap.size ≤ gb141)); have GE141 := Aside0.mk ((by rw [hg]; exact (below_size BA) : w.heap.size ≤ gb141)); replace HB := Aside0.mk (below_step BA hb); clear hb hbox hg; have hcz9_0 := bcv BK141.out 0 (.string (⟨#[]⟩ : ByteArray)); have hcz9_1 := bcv BK141.out 1 (.int .i64 0); have hcz9_2 := bcv BK141.out 2 (.int .i64 0); have hcz9_3 := bcv BK141.out 3 (.int .i64 0); have hcz9_4 := bcv BK141.out 4 (.int .i64 0); have hfz9 := blk_frozen BK141.out) | ((with_reducible refine gate_callee (f := 110) rfl ?_); refine gK (some 15) Try.func110 #[.agg #[.string ((rd_T80 l0 x10_1).f0), .int .i64 ((rd_T80 l0 x10_1).f1), .int .i64 ((rd_T80 l0 x10_1).f2), .int .i64 ((rd_T80 l0 x10_1).f3), .int .i64 ((rd_T80 l0 x10_1).f4)]] rfl rfl rfl ?_; (with_reducible refine (spec_cdGood.calls k1 ((rd_T80 l0 x10_1).f0) ((rd_T80 l0 x10_1).f1) ((rd_T80 l0 x10_1).f2) ((rd_T80 l0 x10_1).f3) ((rd_T80 l0 x10_1).f4) true _ A6.out).mono ?_); rintro e w10 ⟨rfl, hb⟩; refine ⟨_, rfl, ?_⟩; replace BK141 := Aside0.mk (blk_below (g := gb141) (o := .cells #[.string ((rd_T80 l0 x10_1).f0), .int .i64 ((rd_T80 l0 x10_1).f1), .int .i64 ((rd_T80 l0 x10_1).f2), .int .i64 ((rd_T80 l0 x10_1).f3), .int .i64 ((rd_T80 l0 x10_1).f4)] 80 (0, 0)) (by (with_reducible repeat (first | refine blk_drewN ?_ _ | refine blk_drew ?_ | refine blk_alloc ?_ _)); refine blk_put (cs := #[.string ((rd_T80 l0 x10_1).f0), .int .i64 ((rd_T80 l0 x10_1).f1), .int .i64 ((rd_T80 l0 x10_1).f2), .int .i64 ((rd_T80 l0 x10_1).f3), .int .i64 0]) ?_ 4 _ rfl; (with_reducible repeat (first | refine blk_drewN ?_ _ | refine blk_drew ?_ | refine blk_alloc ?_ _)); refine blk_put (cs := #[.string ((rd_T80 l0 x10_1).f0), .int .i64 ((rd_T80 l0 x10_1).f1), .int .i64 ((rd_T80 l0 x10_1).f2), .int .i64 0, .int .i64 0]) ?_ 3 _ rfl; (with_reducible repeat (first | refine blk_drewN ?_ _ | refine blk_drew ?_ | refine blk_alloc ?_ _)); refine blk_put (cs := #[.string ((rd_T80 l0 x10_1).f0), .int .i64 ((rd_T80 l0 x10_1).f1), .int .i64 0, .int .i64 0, .int .i64 0]) ?_ 2 _ rfl; (with_reducible repeat (first | refine blk_drewN ?_ _ | refine blk_drew ?_ | refine blk_alloc ?_ _)); refine blk_put (cs := #[.string ((rd_T80 l0 x10_1).f0), .int .i64 0, .int .i64 0, .int .i64 0, .int .i64 0]) ?_ 1 _ rfl; (with_reducible repeat (first | refine blk_drewN ?_ _ | refine blk_drew ?_ | refine blk_alloc ?_ _)); refine blk_put (cs := #[.string (⟨#[]⟩ : ByteArray), .int .i64 0, .int .i64 0, .int .i64 0, .int .i64 0]) ?_ 0 _ rfl; (with_reducible repeat (first | refine blk_drewN ?_ _ | refine blk_drew ?_ | refine blk_alloc ?_ _)); exact BK141.out) hb); replace HB := Aside0.mk (below_step BA hb); (try clear hb)))
                go_roundg k1
                case measure => have := HK1.out; omega
                case rel => exact ⟨(wrap64 (x10_1 + 1)), EQ1, H', ⟨by have := HK1.out; omega⟩, ⟨BA⟩⟩
              · replace c7 := Bool.eq_false_iff.mpr c7
                subst c7
                have H1 : (some false) = some r := by rw [if_neg (show ¬ (false = true) by decide)] at H; exact H
                clear H
                have H := H1
                clear H1
                obtain rfl := Option.some.inj H
                have p140 : 0 ≤ (x10_1 : Int) := DT
                have q140 : x10_1 < (l0.length : Int) := DT
                obtain ⟨ad140, e140, hx140_0, hx140_1, hx140_2, hx140_3, hx140_4⟩ := at_T80 HR0.out x10_1 p140 q140
                cases e140
                replace hx140_0 := (HB.out.cell (World.block_lt_of_cell? w _ hx140_0)).trans hx140_0
                replace hx140_1 := (HB.out.cell (World.block_lt_of_cell? w _ hx140_1)).trans hx140_1
                replace hx140_2 := (HB.out.cell (World.block_lt_of_cell? w _ hx140_2)).trans hx140_2
                replace hx140_3 := (HB.out.cell (World.block_lt_of_cell? w _ hx140_3)).trans hx140_3
                replace hx140_4 := (HB.out.cell (World.block_lt_of_cell? w _ hx140_4)).trans hx140_4
                replace p140 := eq_true p140
                replace q140 := eq_true q140
                go_wp2_with (first | ((with_reducible refine gate_dst (N := 4) rfl ?_); refine box_event ?hg (N := 4) ?hd (cs := #[.string (⟨#[]⟩ : ByteArray), .int .i64 0, .int .i64 0, .int .i64 0, .int .i64 0]) (t := 80) ?hr ?_; (case hd => rfl); (case hg => rfl); (case hr => first | (go_simp; done) | (go_simp; rfl)); intro gb141 hg w11 hbox hb; have BK141 := Aside0.mk (hbox); have GW141 := Aside0.mk ((by rw [hg]; exact (below_size BA) : w.heap.size ≤ gb141)); have GE141 := Aside0.mk ((by rw [hg]; exact (below_size BA) : w.heap.size ≤ gb141)); replace HB := Aside0.mk (below_step BA hb); clear hb hbox hg; have hcz12_0 := bcv BK141.out 0 (.string (⟨#[]⟩ : ByteArray)); have hcz12_1 := bcv BK141.out 1 (.int .i64 0); have hcz12_2 := bcv BK141.out 2 (.int .i64 0); have hcz12_3 := bcv BK141.out 3 (.int .i64 0); have hcz12_4 := bcv BK141.out 4 (.int .i64 0); have hfz12 := blk_frozen BK141.out) | ((with_reducible refine gate_callee (f := 110) rfl ?_); refine gK (some 15) Try.func110 #[.agg #[.string ((rd_T80 l0 x10_1).f0), .int .i64 ((rd_T80 l0 x10_1).f1), .int .i64 ((rd_T80 l0 x10_1).f2), .int .i64 ((rd_T80 l0 x10_1).f3), .int .i64 ((rd_T80 l0 x10_1).f4)]] rfl rfl rfl ?_; (with_reducible refine (spec_cdGood.calls k1 ((rd_T80 l0 x10_1).f0) ((rd_T80 l0 x10_1).f1) ((rd_T80 l0 x10_1).f2) ((rd_T80 l0 x10_1).f3) ((rd_T80 l0 x10_1).f4) false _ A6.out).mono ?_); rintro e w13 ⟨rfl, hb⟩; refine ⟨_, rfl, ?_⟩; replace BK141 := Aside0.mk (blk_below (g := gb141) (o := .cells #[.string ((rd_T80 l0 x10_1).f0), .int .i64 ((rd_T80 l0 x10_1).f1), .int .i64 ((rd_T80 l0 x10_1).f2), .int .i64 ((rd_T80 l0 x10_1).f3), .int .i64 ((rd_T80 l0 x10_1).f4)] 80 (0, 0)) (by (with_reducible repeat (first | refine blk_drewN ?_ _ | refine blk_drew ?_ | refine blk_alloc ?_ _)); refine blk_put (cs := #[.string ((rd_T80 l0 x10_1).f0), .int .i64 ((rd_T80 l0 x10_1).f1), .int .i64 ((rd_T80 l0 x10_1).f2), .int .i64 ((rd_T80 l0 x10_1).f3), .int .i64 0]) ?_ 4 _ rfl; (with_reducible repeat (first | refine blk_drewN ?_ _ | refine blk_drew ?_ | refine blk_alloc ?_ _)); refine blk_put (cs := #[.string ((rd_T80 l0 x10_1).f0), .int .i64 ((rd_T80 l0 x10_1).f1), .int .i64 ((rd_T80 l0 x10_1).f2), .int .i64 0, .int .i64 0]) ?_ 3 _ rfl; (with_reducible repeat (first | refine blk_drewN ?_ _ | refine blk_drew ?_ | refine blk_alloc ?_ _)); refine blk_put (cs := #[.string ((rd_T80 l0 x10_1).f0), .int .i64 ((rd_T80 l0 x10_1).f1), .int .i64 0, .int .i64 0, .int .i64 0]) ?_ 2 _ rfl; (with_reducible repeat (first | refine blk_drewN ?_ _ | refine blk_drew ?_ | refine blk_alloc ?_ _)); refine blk_put (cs := #[.string ((rd_T80 l0 x10_1).f0), .int .i64 0, .int .i64 0, .int .i64 0, .int .i64 0]) ?_ 1 _ rfl; (with_reducible repeat (first | refine blk_drewN ?_ _ | refine blk_drew ?_ | refine blk_alloc ?_ _)); refine blk_put (cs := #[.string (⟨#[]⟩ : ByteArray), .int .i64 0, .int .i64 0, .int .i64 0, .int .i64 0]) ?_ 0 _ rfl; (with_reducible repeat (first | refine blk_drewN ?_ _ | refine blk_drew ?_ | refine blk_alloc ?_ _)); exact BK141.out) hb); replace HB := Aside0.mk (below_step BA hb); (try clear hb)))
                go_ret
                exact ⟨EQ, BA⟩
            · rw [if_neg c5] at H
              exact absurd H (by simp)
          · rw [if_neg c4] at H
            exact absurd H (by simp)
        · rw [if_neg c3] at H
          have c3b0 := decide_eq_false c3
          clear c3
          obtain rfl := Option.some.inj H
          go_wp2
          go_ret
          exact ⟨EQ, BA⟩

/-! ### laws_toInstr: function 62 -/
def laws_toInstr.f (a0_0 : ByteArray) (a0_1 : Int) (a0_2 : Int) (a0_3 : Int) (a0_4 : Int) : Option (ByteArray × Int × Int × Int × Int) := some (a0_0, a0_1, a0_2, a0_3, a0_4)
set_option maxHeartbeats 8000000 in
set_option maxRecDepth 100000 in
theorem laws_toInstr.calls (a0_0 : ByteArray) (a0_1 : Int) (a0_2 : Int) (a0_3 : Int) (a0_4 : Int) (r1 : ByteArray) (r2 : Int) (r3 : Int) (r4 : Int) (r5 : Int) (w : World) (h : laws_toInstr.f a0_0 a0_1 a0_2 a0_3 a0_4 = some (r1, r2, r3, r4, r5)) :
    Calls Try.prog 62 #[.agg #[.string a0_0, .int .i64 a0_1, .int .i64 a0_2, .int .i64 a0_3, .int .i64 a0_4]] w fun e w' => e = .returned (.agg #[.string r1, .int .i64 r2, .int .i64 r3, .int .i64 r4, .int .i64 r5]) ∧ Below w.heap.size w w' := by
  have hu78 := Try.underlying78
  have hu80 := Try.underlying80
  have HB := Aside0.mk (Below.refl w.heap.size w)
  have H : (some (a0_0, a0_1, a0_2, a0_3, a0_4)) = some (r1, r2, r3, r4, r5) := h
  clear h
  simp only [Option.some.injEq, Prod.mk.injEq] at H
  obtain ⟨rfl, rfl, rfl, rfl, rfl⟩ := H
  go_enter Try.func62, Try.ntmps62
  go_wp2_with (first | ((with_reducible refine gate_dst (N := 1) rfl ?_); refine box_event ?hg (N := 1) ?hd (cs := #[.string a0_0, .int .i64 a0_1, .int .i64 a0_2, .int .i64 a0_3, .int .i64 a0_4]) (t := 78) ?hr ?_; (case hd => rfl); (case hg => rfl); (case hr => first | (go_simp; done) | (go_simp; rfl)); intro gb191 hg w2 hbox hb; have BK191 := Aside0.mk (hbox); have GW191 := Aside0.mk ((by rw [hg]; exact (below_size BA) : w.heap.size ≤ gb191)); have GE191 := Aside0.mk ((by rw [hg]; exact (below_size BA) : w.heap.size ≤ gb191)); replace HB := Aside0.mk (below_step BA hb); clear hb hbox hg) | ((with_reducible refine gate_dst (N := 2) rfl ?_); refine box_event ?hg (N := 2) ?hd (cs := #[.string (⟨#[]⟩ : ByteArray), .int .i64 0, .int .i64 0, .int .i64 0, .int .i64 0]) (t := 80) ?hr ?_; (case hd => rfl); (case hg => rfl); (case hr => first | (go_simp; done) | (go_simp; rfl)); intro gb192 hg w3 hbox hb; have BK192 := Aside0.mk (hbox); have GW192 := Aside0.mk ((by rw [hg]; exact (below_size BA) : w.heap.size ≤ gb192)); have GE192 := Aside0.mk ((by rw [hg]; exact (below_size BA) : w.heap.size ≤ gb192)); replace HB := Aside0.mk (below_step BA hb); have NB191_192 := Aside0.mk ((by rw [hg]; exact Nat.ne_of_lt (blk_lt (g := gb191) (o := .cells #[.string a0_0, .int .i64 a0_1, .int .i64 a0_2, .int .i64 a0_3, .int .i64 a0_4] 78 (0, 0)) (bk BK191.out)) : gb191 ≠ gb192)); have NB192_191 := Aside0.mk ((by rw [hg]; exact Nat.ne_of_gt (blk_lt (g := gb191) (o := .cells #[.string a0_0, .int .i64 a0_1, .int .i64 a0_2, .int .i64 a0_3, .int .i64 a0_4] 78 (0, 0)) (bk BK191.out)) : gb192 ≠ gb191)); replace BK191 := Aside0.mk (blk_below (bk BK191.out) hb); clear hb hbox hg) | ((with_reducible refine gate_dst (N := 3) rfl ?_); refine box_event ?hg (N := 3) ?hd (cs := #[.string (⟨#[]⟩ : ByteArray), .int .i64 0, .int .i64 0, .int .i64 0, .int .i64 0]) (t := 80) ?hr ?_; (case hd => rfl); (case hg => rfl); (case hr => first | (go_simp; done) | (go_simp; rfl)); intro gb193 hg w4 hbox hb; have BK193 := Aside0.mk (hbox); have GW193 := Aside0.mk ((by rw [hg]; exact (below_size BA) : w.heap.size ≤ gb193)); have GE193 := Aside0.mk ((by rw [hg]; exact (below_size BA) : w.heap.size ≤ gb193)); replace HB := Aside0.mk (below_step BA hb); have NB191_193 := Aside0.mk ((by rw [hg]; exact Nat.ne_of_lt (blk_lt (g := gb191) (o := .cells #[.string a0_0, .int .i64 a0_1, .int .i64 a0_2, .int .i64 a0_3, .int .i64 a0_4] 78 (0, 0)) (bk BK191.out)) : gb191 ≠ gb193)); have NB193_191 := Aside0.mk ((by rw [hg]; exact Nat.ne_of_gt (blk_lt (g := gb191) (o := .cells #[.string a0_0, .int .i64 a0_1, .int .i64 a0_2, .int .i64 a0_3, .int .i64 a0_4] 78 (0, 0)) (bk BK191.out)) : gb193 ≠ gb191)); replace BK191 := Aside0.mk (blk_below (bk BK191.out) hb); have NB192_193 := Aside0.mk ((by rw [hg]; exact Nat.ne_of_lt (blk_lt (g := gb192) (o := .cells #[.string (⟨#[]⟩ : ByteArray), .int .i64 0, .int .i64 0, .int .i64 0, .int .i64 0] 80 (0, 0)) (bk BK192.out)) : gb192 ≠ gb193)); have NB193_192 := Aside0.mk ((by rw [hg]; exact Nat.ne_of_gt (blk_lt (g := gb192) (o := .cells #[.string (⟨#[]⟩ : ByteArray), .int .i64 0, .int .i64 0, .int .i64 0, .int .i64 0] 80 (0, 0)) (bk BK192.out)) : gb193 ≠ gb192)); replace BK192 := Aside0.mk (blk_below (g := gb192) (o := .cells #[.string (⟨#[]⟩ : ByteArray), .int .i64 0, .int .i64 0, .int .i64 0, .int .i64 0] 80 (0, 0)) (bk BK192.out) hb); clear hb hbox hg; have hnb5 := NB191_192.out; have hnc5 := NB192_191.out; have hnb6 := NB191_193.out; have hnc6 := NB193_191.out; have hcz7_0 := bcv BK191.out 0 (.string a0_0); have hcz7_1 := bcv BK191.out 1 (.int .i64 a0_1); have hcz7_2 := bcv BK191.out 2 (.int .i64 a0_2); have hcz7_3 := bcv BK191.out 3 (.int .i64 a0_3); have hcz7_4 := bcv BK191.out 4 (.int .i64 a0_4); have hfz7 := blk_frozen BK191.out; have hnb8 := NB193_192.out; have hnc8 := NB192_193.out; have hcz9_0 := bcv BK193.out 0 (.string (⟨#[]⟩ : ByteArray)); have hcz9_1 := bcv BK193.out 1 (.int .i64 0); have hcz9_2 := bcv BK193.out 2 (.int .i64 0); have hcz9_3 := bcv BK193.out 3 (.int .i64 0); have hcz9_4 := bcv BK193.out 4 (.int .i64 0); have hfz9 := blk_frozen BK193.out; have hcz10_0 := bcv BK192.out 0 (.string (⟨#[]⟩ : ByteArray)); have hcz10_1 := bcv BK192.out 1 (.int .i64 0); have hcz10_2 := bcv BK192.out 2 (.int .i64 0); have hcz10_3 := bcv BK192.out 3 (.int .i64 0); have hcz10_4 := bcv BK192.out 4 (.int .i64 0); have hfz10 := blk_frozen BK192.out))
  refine bodyPost_ret (results_cell_row rfl _ _ gb192 80 #[.string a0_0, .int .i64 a0_1, .int .i64 a0_2, .int .i64 a0_3, .int .i64 a0_4] (0, 0) _ rfl (by (with_reducible repeat (first | refine blk_drewN ?_ _ | refine blk_drew ?_ | refine blk_alloc ?_ _)); refine blk_put (cs := #[.string a0_0, .int .i64 a0_1, .int .i64 a0_2, .int .i64 a0_3, .int .i64 0]) ?_ 4 _ rfl; (with_reducible repeat (first | refine blk_drewN ?_ _ | refine blk_drew ?_ | refine blk_alloc ?_ _)); refine blk_put (cs := #[.string a0_0, .int .i64 a0_1, .int .i64 a0_2, .int .i64 0, .int .i64 0]) ?_ 3 _ rfl; (with_reducible repeat (first | refine blk_drewN ?_ _ | refine blk_drew ?_ | refine blk_alloc ?_ _)); refine blk_put (cs := #[.string a0_0, .int .i64 a0_1, .int .i64 0, .int .i64 0, .int .i64 0]) ?_ 2 _ rfl; (with_reducible repeat (first | refine blk_drewN ?_ _ | refine blk_drew ?_ | refine blk_alloc ?_ _)); refine blk_put (cs := #[.string a0_0, .int .i64 0, .int .i64 0, .int .i64 0, .int .i64 0]) ?_ 1 _ rfl; (with_reducible repeat (first | refine blk_drewN ?_ _ | refine blk_drew ?_ | refine blk_alloc ?_ _)); refine blk_put (cs := #[.string (⟨#[]⟩ : ByteArray), .int .i64 0, .int .i64 0, .int .i64 0, .int .i64 0]) ?_ 0 _ rfl; (with_reducible repeat (first | refine blk_drewN ?_ _ | refine blk_drew ?_ | refine blk_alloc ?_ _)); refine blk_far ?_ NB192_193.out _; (with_reducible repeat (first | refine blk_drewN ?_ _ | refine blk_drew ?_ | refine blk_alloc ?_ _)); refine blk_far ?_ NB192_193.out _; (with_reducible repeat (first | refine blk_drewN ?_ _ | refine blk_drew ?_ | refine blk_alloc ?_ _)); refine blk_far ?_ NB192_193.out _; (with_reducible repeat (first | refine blk_drewN ?_ _ | refine blk_drew ?_ | refine blk_alloc ?_ _)); refine blk_far ?_ NB192_193.out _; (with_reducible repeat (first | refine blk_drewN ?_ _ | refine blk_drew ?_ | refine blk_alloc ?_ _)); refine blk_far ?_ NB192_193.out _; (with_reducible repeat (first | refine blk_drewN ?_ _ | refine blk_drew ?_ | refine blk_alloc ?_ _)); exact BK192.out) Try.underlying80 rfl (by kernel_rfl)) rfl ?_
  exact ⟨EQ, BA⟩

/-! ### laws_toInstrS: function 18 -/
def laws_toInstrS.l0 : Nat → List (S78) → List (S80) → Int → Option ((List (S80)))
  | 0, _, _, _ => none
  | k + 1, x0, x3, x4 => if x4 < (x0.length : Int) then (if 0 ≤ x4 then ((laws_toInstr.f ((rd_T78 x0 x4).f0) ((rd_T78 x0 x4).f1) ((rd_T78 x0 x4).f2) ((rd_T78 x0 x4).f3) ((rd_T78 x0 x4).f4)).bind fun bt198 => (if x4 < (x3.length : Int) then (laws_toInstrS.l0 k x0 (x3.set (x4 : Int).toNat (⟨bt198.1, bt198.2.1, bt198.2.2.1, bt198.2.2.2.1, bt198.2.2.2.2⟩ : S80)) (wrap64 (x4 + 1))) else (none))) else (none)) else (some x3)
def laws_toInstrS.f (k : Nat) (l0 : List (S78)) : Option ((List (S80))) := if 0 ≤ (l0.length : Int) then (if ((l0.length : Int) : Int).toNat ≤ 5864062014805 then (laws_toInstrS.l0 k l0 (List.replicate ((l0.length : Int) : Int).toNat z80) 0) else (none)) else (none)
theorem laws_toInstrS.mono_l : ∀ k, (∀ y0 y1 y2, LeO (laws_toInstrS.l0 k y0 y1 y2) (laws_toInstrS.l0 (k + 1) y0 y1 y2))
  | 0 => fun _ _ _ r h => by simp [laws_toInstrS.l0] at h
  | k + 1 => by
    have ih0 := laws_toInstrS.mono_l k
    · intro y0 y1 y2
      unfold laws_toInstrS.l0
      repeat' first | (with_reducible first | exact ih0 _ _ _ | exact LeO.refl _ | exact LeO.none _ | refine LeO.ite ?_ ?_ | refine LeO.bind ?_ (fun _ => ?_)) | exact LeO.none _ | refine LeO.ite ?_ ?_ | refine LeO.bind ?_ (fun _ => ?_)
theorem laws_toInstrS.mono : ∀ a0 k, LeO (laws_toInstrS.f k a0) (laws_toInstrS.f (k + 1) a0) := by
  intro a0 k
  have ih0 := laws_toInstrS.mono_l k
  unfold laws_toInstrS.f
  repeat' first | (with_reducible first | exact ih0 _ _ _ | exact LeO.refl _ | exact LeO.none _ | refine LeO.ite ?_ ?_ | refine LeO.bind ?_ (fun _ => ?_)) | exact LeO.none _ | refine LeO.ite ?_ ?_ | refine LeO.bind ?_ (fun _ => ?_)
set_option maxHeartbeats 8000000 in
set_option maxRecDepth 100000 in
theorem laws_toInstrS.calls (k : Nat) (A0 : Option Addr) (c0 : Nat) (l0 : List (S78)) (r : List (S80)) (w : World) (hr0 : Kd.C k78 w A0 l0.length l0) (hc0 : l0.length ≤ c0) (h : laws_toInstrS.f k l0 = some r) :
    Calls Try.prog 18 #[.slice A0 l0.length c0] w fun e w' => ∃ v0_ : Value, e = .returned (v0_) ∧ Kd.R k80 80 w' w.heap.size (fun _ => True) v0_ r ∧ Below w.heap.size w w' := by
  have hu78 := Try.underlying78
  have hu80 := Try.underlying80
  have HR0 := Aside0.mk hr0
  have HC0 := Aside0.mk hc0
  clear hr0 hc0
  have HB := Aside0.mk (Below.refl w.heap.size w)
  have H : (if 0 ≤ (l0.length : Int) then (if ((l0.length : Int) : Int).toNat ≤ 5864062014805 then (laws_toInstrS.l0 k l0 (List.replicate ((l0.length : Int) : Int).toNat z80) 0) else (none)) else (none)) = some r := h
  clear h
  by_cases c2 : 0 ≤ (l0.length : Int)
  · rw [if_pos c2] at H
    have c2b0 := eq_true c2
    have c2b1 := decide_eq_true c2
    clear c2
    by_cases c3 : ((l0.length : Int) : Int).toNat ≤ 5864062014805
    · rw [if_pos c3] at H
      have c3b0 := eq_true c3
      have c3b1 := decide_eq_true c3
      clear c3
      obtain ⟨y194, hy194⟩ : ∃ y_ : List (S80), y_ = (List.replicate ((l0.length : Int) : Int).toNat z80) := ⟨_, rfl⟩
      replace H : (laws_toInstrS.l0 k l0 y194 0) = some r := by first | (rw [hy194]; with_reducible exact H) | (have H2_ := (Option.bind_some _ _).symm.trans H; rw [hy194]; with_reducible exact H2_) | (have H2_ := (Option.bind_some _ _).symm.trans H; with_reducible exact H2_) | with_reducible exact H | (rw [hy194]; exact H) | exact H
      have Ny194 := Aside0.mk hy194
      clear hy194
      have H' := Aside0.mk H
      clear H
      go_enter Try.func18, Try.ntmps18
      go_wp2_with (first | ((with_reducible refine gate_dst (N := 7) rfl ?_); refine Kd.R_make k80 _ 80 rfl (N := 7) rfl 29 _ _ rfl (l0.length : Int) rfl rfl Try.underlying29 (.agg #[(.string ⟨#[]⟩), (.int .i64 0), (.int .i64 0), (.int .i64 0), (.int .i64 0)]) 48 info80 rfl (by decide) (by omega) z80 (ok := fun _ => True) (okp := fun _ => True) (k80_mkM _ _ _ z80 ) (fun _ hk => hk) trivial DT (Nat.le_trans (Nat.mul_le_mul_right _ (DT : (l0.length : Int).toNat ≤ 5864062014805)) (by omega)) (Below.refl _ _) (Nat.le_refl _) ?_; intro v195 w4 ho5 hb hg_ hnew_; clear hg_ hnew_; (first | rw [← Ny194.out] at ho5 | (simp only [Int.reduceToNat] at ho5; rw [← Ny194.out] at ho5)); have HO196 := Aside0.mk (Kd.R_lower ho5 (below_size BA)); replace HB := Aside0.mk (below_step BA hb); clear hb ho5))
      go_loopg [4] k (fun kq v4 w' => ∃ (x3_1 : List (S80)) (x4_1 : Int), v4 = .int .i64 x4_1 ∧ Aside0 (laws_toInstrS.l0 kq l0 x3_1 x4_1 = some r) ∧ Aside0 (kq ≤ k) ∧ Aside0 (Kd.R k80 80 w' w.heap.size (fun _ => True) v195 x3_1) ∧ Aside0 (Below w.heap.size w w'))
      case atStart => exact ⟨(y194), (0), EQ1, H', ⟨Nat.le_refl _⟩, ⟨by (with_reducible repeat (first | apply Kd.R_alloc | apply Kd.R_drewN | apply Kd.R_drew)); exact HO196.out⟩, ⟨BA⟩⟩
      case round =>
        clear H'
        (try clear c1); (try clear c2); (try clear c2b0); (try clear c2b1); (try clear p2); (try clear c3); (try clear c3b0); (try clear c3b1)
        obtain ⟨x3_1, x4_1, rfl, HA, HK1, HO_3, HB⟩ := hrel
        cases gk with
        | zero => exact absurd HA.out (by simp [laws_toInstrS.l0])
        | succ k1 =>
          have H := HA.out
          clear HA
          simp only [laws_toInstrS.l0] at H
          by_cases c6 : x4_1 < (l0.length : Int)
          · rw [if_pos c6] at H
            have c6b0 := decide_eq_true c6
            clear c6
            by_cases c7 : 0 ≤ x4_1
            · rw [if_pos c7] at H
              have c7b0 := decide_eq_true c7
              clear c7
              replace H := Option.bind_eq_some_iff.mp H
              obtain ⟨⟨t198, t199, t200, t201, t202⟩, A80, H⟩ := H
              replace H : (if x4_1 < (x3_1.length : Int) then (laws_toInstrS.l0 k1 l0 (x3_1.set (x4_1 : Int).toNat (⟨t198, t199, t200, t201, t202⟩ : S80)) (wrap64 (x4_1 + 1))) else (none)) = some r := H
              have A8 := Aside0.mk A80
              clear A80
              by_cases c9 : x4_1 < (x3_1.length : Int)
              · rw [if_pos c9] at H
                have c9b0 := decide_eq_true c9
                clear c9
                obtain ⟨y203, hy203⟩ : ∃ y_ : List (S80), y_ = (x3_1.set (x4_1 : Int).toNat (⟨t198, t199, t200, t201, t202⟩ : S80)) := ⟨_, rfl⟩
                replace H : (laws_toInstrS.l0 k1 l0 y203 (wrap64 (x4_1 + 1))) = some r := by first | (rw [hy203]; with_reducible exact H) | (have H2_ := (Option.bind_some _ _).symm.trans H; rw [hy203]; with_reducible exact H2_) | (have H2_ := (Option.bind_some _ _).symm.trans H; with_reducible exact H2_) | with_reducible exact H | (rw [hy203]; exact H) | exact H
                have Ny203 := Aside0.mk hy203
                clear hy203
                have H' := Aside0.mk H
                clear H
                have p197 : 0 ≤ (x4_1 : Int) := DT
                have q197 : x4_1 < (l0.length : Int) := DT
                obtain ⟨ad197, e197, hx197_0, hx197_1, hx197_2, hx197_3, hx197_4⟩ := at_T78 HR0.out x4_1 p197 q197
                cases e197
                replace hx197_0 := (HB.out.cell (World.block_lt_of_cell? w _ hx197_0)).trans hx197_0
                replace hx197_1 := (HB.out.cell (World.block_lt_of_cell? w _ hx197_1)).trans hx197_1
                replace hx197_2 := (HB.out.cell (World.block_lt_of_cell? w _ hx197_2)).trans hx197_2
                replace hx197_3 := (HB.out.cell (World.block_lt_of_cell? w _ hx197_3)).trans hx197_3
                replace hx197_4 := (HB.out.cell (World.block_lt_of_cell? w _ hx197_4)).trans hx197_4
                replace p197 := eq_true p197
                replace q197 := eq_true q197
                go_wp2_with (first | ((with_reducible refine gate_callee (f := 62) rfl ?_); refine gK (some 20) Try.func62 #[.agg #[.string ((rd_T78 l0 x4_1).f0), .int .i64 ((rd_T78 l0 x4_1).f1), .int .i64 ((rd_T78 l0 x4_1).f2), .int .i64 ((rd_T78 l0 x4_1).f3), .int .i64 ((rd_T78 l0 x4_1).f4)]] rfl rfl rfl ?_; (with_reducible refine (laws_toInstr.calls ((rd_T78 l0 x4_1).f0) ((rd_T78 l0 x4_1).f1) ((rd_T78 l0 x4_1).f2) ((rd_T78 l0 x4_1).f3) ((rd_T78 l0 x4_1).f4) t198 t199 t200 t201 t202 _ A8.out).mono ?_); rintro e w11 ⟨rfl, hb⟩; refine ⟨_, rfl, ?_⟩; replace HO_3 := Aside0.mk (Kd.R_below (by (with_reducible repeat (first | apply Kd.R_alloc | apply Kd.R_drewN | apply Kd.R_drew)); exact HO_3.out) hb); replace HB := Aside0.mk (below_step BA hb); (try clear hb); have p10 : 0 ≤ (x4_1 : Int) := DT; have q10 : (x4_1 : Int) < ((x3_1.length : Int) : Int) := DT; obtain ⟨go10, co10, eo10, gb10, gl10, cl10, HG10⟩ := Kd.R_form HO_3.out (by omega); (first | cases eo10 | (injection eo10 with ea_ en_ ec_; (first | subst ea_ | (injection ea_ with ea_; subst ea_)); subst ec_; clear en_)); have GB10 := Aside0.mk gb10; have GG10 := Aside0.mk HG10; clear gb10 gl10 HG10; obtain ⟨ce10, hcl10, hM10, hcc10, hfr10⟩ := Kd.R_elem HO_3.out z80 (x4_1 : Int) p10 q10; obtain rfl := k80_openM hM10; have hx10_0 : w11.cell? ⟨go10, (x4_1 : Int).toNat * 5, none⟩ = some (.string ((rd_T80 x3_1 x4_1).f0)) := hcc10 0 _ rfl; have hx10_1 : w11.cell? ⟨go10, (x4_1 : Int).toNat * 5 + 1, none⟩ = some (.int .i64 ((rd_T80 x3_1 x4_1).f1)) := hcc10 1 _ rfl; have hx10_2 : w11.cell? ⟨go10, (x4_1 : Int).toNat * 5 + 2, none⟩ = some (.int .i64 ((rd_T80 x3_1 x4_1).f2)) := hcc10 2 _ rfl; have hx10_3 : w11.cell? ⟨go10, (x4_1 : Int).toNat * 5 + 3, none⟩ = some (.int .i64 ((rd_T80 x3_1 x4_1).f3)) := hcc10 3 _ rfl; have hx10_4 : w11.cell? ⟨go10, (x4_1 : Int).toNat * 5 + 4, none⟩ = some (.int .i64 ((rd_T80 x3_1 x4_1).f4)) := hcc10 4 _ rfl; have hf10_0 : w11.frozen? ⟨go10, (x4_1 : Int).toNat * 5, none⟩ = false := hfr10 0; have hf10_1 : w11.frozen? ⟨go10, (x4_1 : Int).toNat * 5 + 1, none⟩ = false := hfr10 1; have hf10_2 : w11.frozen? ⟨go10, (x4_1 : Int).toNat * 5 + 2, none⟩ = false := hfr10 2; have hf10_3 : w11.frozen? ⟨go10, (x4_1 : Int).toNat * 5 + 3, none⟩ = false := hfr10 3; have hf10_4 : w11.frozen? ⟨go10, (x4_1 : Int).toNat * 5 + 4, none⟩ = false := hfr10 4; clear hcl10 hcc10 hfr10 hM10; replace p10 := eq_true p10; replace q10 := eq_true q10; have HX12 := Aside0.mk (show Kd.R k80 80 w11 w.heap.size (fun _ => True) (.slice (some ⟨go10, 0, none⟩) x3_1.length co10) x3_1 from (by (with_reducible repeat (first | apply Kd.R_alloc | apply Kd.R_drewN | apply Kd.R_drew)); exact HO_3.out)); obtain ⟨ce12, hcl12, hM12, hcc12, hfr12⟩ := Kd.R_elem HX12.out z80 (x4_1 : Int) DT (by have h_ : (x4_1 : Int) < ((x3_1.length : Int) : Int) := DT; first | exact h_ | (have e_ := (Kd.R_reads' HO_3.out).1; omega) | simpa using h_); obtain rfl := k80_openM hM12; have HP12 := Kd.R_seg HX12.out (x4_1 : Int) DT (by have h_ : (x4_1 : Int) < ((x3_1.length : Int) : Int) := DT; first | exact h_ | (have e_ := (Kd.R_reads' HO_3.out).1; omega) | simpa using h_) (seg := [.string t198, .int .i64 t199, .int .i64 t200, .int .i64 t201, .int .i64 t202]) (j := 0) hcl12 hcc12 (show 5 ≤ 5 from by decide) (x' := (⟨t198, t199, t200, t201, t202⟩ : S80)) (k80_mkM _ _ _ (⟨t198, t199, t200, t201, t202⟩ : S80) ) (fun _ hk => hk); have hx12_0 := hcc12 0 _ rfl; (try simp only [show (k80).sz = 5 from rfl, Nat.mul_one, Nat.add_zero] at hx12_0); have hf12_0 := hfr12 0; (try simp only [show (k80).sz = 5 from rfl, Nat.mul_one, Nat.add_zero] at hf12_0); have hx12_1 := hcc12 1 _ rfl; (try simp only [show (k80).sz = 5 from rfl, Nat.mul_one, Nat.add_zero] at hx12_1); have hf12_1 := hfr12 1; (try simp only [show (k80).sz = 5 from rfl, Nat.mul_one, Nat.add_zero] at hf12_1); have hx12_2 := hcc12 2 _ rfl; (try simp only [show (k80).sz = 5 from rfl, Nat.mul_one, Nat.add_zero] at hx12_2); have hf12_2 := hfr12 2; (try simp only [show (k80).sz = 5 from rfl, Nat.mul_one, Nat.add_zero] at hf12_2); have hx12_3 := hcc12 3 _ rfl; (try simp only [show (k80).sz = 5 from rfl, Nat.mul_one, Nat.add_zero] at hx12_3); have hf12_3 := hfr12 3; (try simp only [show (k80).sz = 5 from rfl, Nat.mul_one, Nat.add_zero] at hf12_3); have hx12_4 := hcc12 4 _ rfl; (try simp only [show (k80).sz = 5 from rfl, Nat.mul_one, Nat.add_zero] at hx12_4); have hf12_4 := hfr12 4; (try simp only [show (k80).sz = 5 from rfl, Nat.mul_one, Nat.add_zero] at hf12_4); clear hcl12 hcc12 hfr12 hM12) | ((with_reducible refine gate_store (t := 80) (p := 21) rfl ?_); refine store_event (t := 80) (p := 21) (v := ?vo_w13) (w1 := (((((w11.setCell ⟨go10, (x4_1 : Int).toNat * 5, none⟩ (.string t198)).setCell ⟨go10, (x4_1 : Int).toNat * 5 + 1, none⟩ (.int .i64 t199)).setCell ⟨go10, (x4_1 : Int).toNat * 5 + 2, none⟩ (.int .i64 t200)).setCell ⟨go10, (x4_1 : Int).toNat * 5 + 3, none⟩ (.int .i64 t201)).setCell ⟨go10, (x4_1 : Int).toNat * 5 + 4, none⟩ (.int .i64 t202))) ?hg ?ho ?hn ?hr ?_; (case ho => rfl); (case hg => rfl); (case hn => rfl); (case hr => first | (go_simp; done) | (go_simp; rfl)); intro w13 hw; have hg : w11.grownBy w13 (some go10) := (by rw [hw]; exact HP12.2); have hp_ : Kd.R k80 80 w13 w.heap.size (fun _ => True) (.slice (some ⟨go10, 0, none⟩) x3_1.length co10) y203 := (by rw [hw, Ny203.out]; exact HP12.1); clear HP12; replace HO_3 := Aside0.mk (hp_); replace HB := Aside0.mk ((by rw [hw]; exact below_set (below_set (below_set (below_set (below_set (HB.out) GB10.out) GB10.out) GB10.out) GB10.out) GB10.out : Below w.heap.size w w13)); clear hg hw hp_))
                go_roundg k1
                case measure => have := HK1.out; omega
                case rel => exact ⟨(y203), (wrap64 (x4_1 + 1)), EQ1, H', ⟨by have := HK1.out; omega⟩, ⟨by (with_reducible repeat (first | apply Kd.R_alloc | apply Kd.R_drewN | apply Kd.R_drew)); exact HO_3.out⟩, ⟨BA⟩⟩
              · rw [if_neg c9] at H
                exact absurd H (by simp)
            · rw [if_neg c7] at H
              exact absurd H (by simp)
          · rw [if_neg c6] at H
            have c6b0 := decide_eq_false c6
            clear c6
            obtain rfl := Option.some.inj H
            go_wp2
            go_ret
            exact ⟨_, EQ, by (with_reducible repeat (first | apply Kd.R_alloc | apply Kd.R_drewN | apply Kd.R_drew)); exact HO_3.out, BA⟩
    · rw [if_neg c3] at H
      exact absurd H (by simp)
  · rw [if_neg c2] at H
    exact absurd H (by simp)

/-! ### impl_isRegister: function 102 -/
def impl_isRegister.f (a0 : Int) : Option (Bool) := (impl_within.f a0 0 5).bind fun t208 => (some t208)
set_option maxHeartbeats 8000000 in
set_option maxRecDepth 100000 in
theorem impl_isRegister.calls (a0 : Int) (r : Bool) (w : World) (h : impl_isRegister.f a0 = some r) :
    Calls Try.prog 102 #[.int .i64 a0] w fun e w' => e = .returned (.bool r) ∧ Drawn0 w w' := by
  have H : ((impl_within.f a0 0 5).bind fun t208 => (some t208)) = some r := h
  clear h
  replace H := Option.bind_eq_some_iff.mp H
  obtain ⟨t208, A20, H⟩ := H
  replace H : (some t208) = some r := H
  have A2 := Aside0.mk A20
  clear A20
  obtain rfl := Option.some.inj H
  go_enter Try.func102, Try.ntmps102
  go_wp2_with (first | ((with_reducible refine gate_callee (f := 73) rfl ?_); refine gK (some 4) Try.func73 #[.int .i64 a0, .int .i64 0, .int .i64 5] rfl rfl rfl ?_; (with_reducible refine (impl_within.calls a0 0 5 t208 _ A2.out).mono ?_); rintro e w' ⟨rfl, ⟨nd, rfl⟩⟩; refine ⟨_, rfl, ?_⟩))
  go_ret
  exact ⟨EQ1, DA⟩

/-! ### impl_isUsed: function 150 -/
def impl_isUsed.f (a0 : Bool) (a1 : Int) : Option (Bool) := if a0 = true then ((impl_isRegister.f a1).bind fun t209 => (if t209 = true then (some true) else (some (a1 == 0)))) else (some (a1 == 0))
set_option maxHeartbeats 8000000 in
set_option maxRecDepth 100000 in
theorem impl_isUsed.calls (a0 : Bool) (a1 : Int) (r : Bool) (w : World) (h : impl_isUsed.f a0 a1 = some r) :
    Calls Try.prog 150 #[.bool a0, .int .i64 a1] w fun e w' => e = .returned (.bool r) ∧ Drawn0 w w' := by
  have H : (if a0 = true then ((impl_isRegister.f a1).bind fun t209 => (if t209 = true then (some true) else (some (a1 == 0)))) else (some (a1 == 0))) = some r := h
  clear h
  by_cases c3 : a0 = true
  · subst c3
    have H1 : ((impl_isRegister.f a1).bind fun t209 => (if t209 = true then (some true) else (some (a1 == 0)))) = some r := by rw [if_pos rfl] at H; exact H
    clear H
    have H := H1
    clear H1
    replace H := Option.bind_eq_some_iff.mp H
    obtain ⟨t209, A40, H⟩ := H
    replace H : (if t209 = true then (some true) else (some (a1 == 0))) = some r := H
    have A4 := Aside0.mk A40
    clear A40
    by_cases c5 : t209 = true
    · subst c5
      have H1 : (some true) = some r := by rw [if_pos rfl] at H; exact H
      clear H
      have H := H1
      clear H1
      obtain rfl := Option.some.inj H
      go_enter Try.func150, Try.ntmps150
      go_wp2_with (first | (go_at_call 102; (with_reducible refine (impl_isRegister.calls a1 true _ A4.out).mono ?_); rintro e w' ⟨rfl, ⟨nd, rfl⟩⟩))
      go_ret
      exact ⟨EQ1, DA⟩
    · replace c5 := Bool.eq_false_iff.mpr c5
      subst c5
      have H1 : (some (a1 == 0)) = some r := by rw [if_neg (show ¬ (false = true) by decide)] at H; exact H
      clear H
      have H := H1
      clear H1
      obtain rfl := Option.some.inj H
      go_enter Try.func150, Try.ntmps150
      go_wp2_with (first | (go_at_call 102; (with_reducible refine (impl_isRegister.calls a1 false _ A4.out).mono ?_); rintro e w' ⟨rfl, ⟨nd, rfl⟩⟩))
      go_ret
      exact ⟨EQ1, DA⟩
  · replace c3 := Bool.eq_false_iff.mpr c3
    subst c3
    have H1 : (some (a1 == 0)) = some r := by rw [if_neg (show ¬ (false = true) by decide)] at H; exact H
    clear H
    have H := H1
    clear H1
    obtain rfl := Option.some.inj H
    go_enter Try.func150, Try.ntmps150
    go_wp2
    go_ret
    exact ⟨EQ1, DA⟩

/-! ### impl_IsInstr: function 112 -/
def impl_IsInstr.j0 : Nat → Bool → Bool → ByteArray → Int → Int → Int → Int → Bool → Bool → Int → Int → Int → ByteArray → Option (Bool)
  | 0, _, _, _, _, _, _, _, _, _, _, _, _, _ => none
  | k + 1, x4, x5, x211000, x211001, x211002, x211003, x211004, x219000, x219001, x219002, x219003, x219004, x219005 => if x4 = true then ((impl_isRegister.f x211001).bind fun t223 => (if t223 = true then ((impl_isUsed.f x219000 x211002).bind fun t224 => (if t224 = true then ((impl_isUsed.f x219001 x211003).bind fun t225 => (if t225 = true then (some x5) else (some false))) else (some false))) else (some false))) else (some false)
def impl_IsInstr.f (k : Nat) (a0_0 : ByteArray) (a0_1 : Int) (a0_2 : Int) (a0_3 : Int) (a0_4 : Int) : Option (Bool) := (impl_formOf.f a0_0).bind fun bt211 => ((impl_form_imm.f bt211.1 bt211.2.1 bt211.2.2.1 bt211.2.2.2.1 bt211.2.2.2.2.1 bt211.2.2.2.2.2.1).bind fun t219 => (if t219 = true then ((impl_within.f a0_4 bt211.2.2.1 bt211.2.2.2.1).bind fun t220 => (if t220 = true then (impl_IsInstr.j0 k bt211.2.2.2.2.2.2 true a0_0 a0_1 a0_2 a0_3 a0_4 bt211.1 bt211.2.1 bt211.2.2.1 bt211.2.2.2.1 bt211.2.2.2.2.1 bt211.2.2.2.2.2.1) else ((impl_form_imm.f bt211.1 bt211.2.1 bt211.2.2.1 bt211.2.2.2.1 bt211.2.2.2.2.1 bt211.2.2.2.2.2.1).bind fun t221 => (if t221 = true then (impl_IsInstr.j0 k bt211.2.2.2.2.2.2 false a0_0 a0_1 a0_2 a0_3 a0_4 bt211.1 bt211.2.1 bt211.2.2.1 bt211.2.2.2.1 bt211.2.2.2.2.1 bt211.2.2.2.2.2.1) else (impl_IsInstr.j0 k bt211.2.2.2.2.2.2 (a0_4 == 0) a0_0 a0_1 a0_2 a0_3 a0_4 bt211.1 bt211.2.1 bt211.2.2.1 bt211.2.2.2.1 bt211.2.2.2.2.1 bt211.2.2.2.2.2.1))))) else ((impl_form_imm.f bt211.1 bt211.2.1 bt211.2.2.1 bt211.2.2.2.1 bt211.2.2.2.2.1 bt211.2.2.2.2.2.1).bind fun t222 => (if t222 = true then (impl_IsInstr.j0 k bt211.2.2.2.2.2.2 false a0_0 a0_1 a0_2 a0_3 a0_4 bt211.1 bt211.2.1 bt211.2.2.1 bt211.2.2.2.1 bt211.2.2.2.2.1 bt211.2.2.2.2.2.1) else (impl_IsInstr.j0 k bt211.2.2.2.2.2.2 (a0_4 == 0) a0_0 a0_1 a0_2 a0_3 a0_4 bt211.1 bt211.2.1 bt211.2.2.1 bt211.2.2.2.1 bt211.2.2.2.2.1 bt211.2.2.2.2.2.1)))))
theorem impl_IsInstr.mono_l : ∀ k, (∀ y0 y1 y2 y3 y4 y5 y6 y7 y8 y9 y10 y11 y12, LeO (impl_IsInstr.j0 k y0 y1 y2 y3 y4 y5 y6 y7 y8 y9 y10 y11 y12) (impl_IsInstr.j0 (k + 1) y0 y1 y2 y3 y4 y5 y6 y7 y8 y9 y10 y11 y12))
  | 0 => fun _ _ _ _ _ _ _ _ _ _ _ _ _ r h => by simp [impl_IsInstr.j0] at h
  | k + 1 => by
    have ih0 := impl_IsInstr.mono_l k
    · intro y0 y1 y2 y3 y4 y5 y6 y7 y8 y9 y10 y11 y12
      unfold impl_IsInstr.j0
      repeat' first | (with_reducible first | exact ih0 _ _ _ _ _ _ _ _ _ _ _ _ _ | exact LeO.refl _ | exact LeO.none _ | refine LeO.ite ?_ ?_ | refine LeO.bind ?_ (fun _ => ?_)) | exact LeO.none _ | refine LeO.ite ?_ ?_ | refine LeO.bind ?_ (fun _ => ?_)
theorem impl_IsInstr.mono : ∀ a0 a1 a2 a3 a4 k, LeO (impl_IsInstr.f k a0 a1 a2 a3 a4) (impl_IsInstr.f (k + 1) a0 a1 a2 a3 a4) := by
  intro a0 a1 a2 a3 a4 k
  have ih0 := impl_IsInstr.mono_l k
  unfold impl_IsInstr.f
  repeat' first | (with_reducible first | exact ih0 _ _ _ _ _ _ _ _ _ _ _ _ _ | exact LeO.refl _ | exact LeO.none _ | refine LeO.ite ?_ ?_ | refine LeO.bind ?_ (fun _ => ?_)) | exact LeO.none _ | refine LeO.ite ?_ ?_ | refine LeO.bind ?_ (fun _ => ?_)
set_option maxHeartbeats 8000000 in
set_option maxRecDepth 100000 in
theorem impl_IsInstr.calls (k : Nat) (a0_0 : ByteArray) (a0_1 : Int) (a0_2 : Int) (a0_3 : Int) (a0_4 : Int) (r : Bool) (w : World) (h : impl_IsInstr.f k a0_0 a0_1 a0_2 a0_3 a0_4 = some r) :
    Calls Try.prog 112 #[.agg #[.string a0_0, .int .i64 a0_1, .int .i64 a0_2, .int .i64 a0_3, .int .i64 a0_4]] w fun e w' => e = .returned (.bool r) ∧ Below w.heap.size w w' := by
  have hu80 := Try.underlying80
  have hu94 := Try.underlying94
  have HB := Aside0.mk (Below.refl w.heap.size w)
  have H : ((impl_formOf.f a0_0).bind fun bt211 => ((impl_form_imm.f bt211.1 bt211.2.1 bt211.2.2.1 bt211.2.2.2.1 bt211.2.2.2.2.1 bt211.2.2.2.2.2.1).bind fun t219 => (if t219 = true then ((impl_within.f a0_4 bt211.2.2.1 bt211.2.2.2.1).bind fun t220 => (if t220 = true then (impl_IsInstr.j0 k bt211.2.2.2.2.2.2 true a0_0 a0_1 a0_2 a0_3 a0_4 bt211.1 bt211.2.1 bt211.2.2.1 bt211.2.2.2.1 bt211.2.2.2.2.1 bt211.2.2.2.2.2.1) else ((impl_form_imm.f bt211.1 bt211.2.1 bt211.2.2.1 bt211.2.2.2.1 bt211.2.2.2.2.1 bt211.2.2.2.2.2.1).bind fun t221 => (if t221 = true then (impl_IsInstr.j0 k bt211.2.2.2.2.2.2 false a0_0 a0_1 a0_2 a0_3 a0_4 bt211.1 bt211.2.1 bt211.2.2.1 bt211.2.2.2.1 bt211.2.2.2.2.1 bt211.2.2.2.2.2.1) else (impl_IsInstr.j0 k bt211.2.2.2.2.2.2 (a0_4 == 0) a0_0 a0_1 a0_2 a0_3 a0_4 bt211.1 bt211.2.1 bt211.2.2.1 bt211.2.2.2.1 bt211.2.2.2.2.1 bt211.2.2.2.2.2.1))))) else ((impl_form_imm.f bt211.1 bt211.2.1 bt211.2.2.1 bt211.2.2.2.1 bt211.2.2.2.2.1 bt211.2.2.2.2.2.1).bind fun t222 => (if t222 = true then (impl_IsInstr.j0 k bt211.2.2.2.2.2.2 false a0_0 a0_1 a0_2 a0_3 a0_4 bt211.1 bt211.2.1 bt211.2.2.1 bt211.2.2.2.1 bt211.2.2.2.2.1 bt211.2.2.2.2.2.1) else (impl_IsInstr.j0 k bt211.2.2.2.2.2.2 (a0_4 == 0) a0_0 a0_1 a0_2 a0_3 a0_4 bt211.1 bt211.2.1 bt211.2.2.1 bt211.2.2.2.1 bt211.2.2.2.2.1 bt211.2.2.2.2.2.1)))))) = some r := h
  clear h
  replace H := Option.bind_eq_some_iff.mp H
  obtain ⟨⟨t211, t212, t213, t214, t215, t216, t217⟩, A20, H⟩ := H
  replace H : ((impl_form_imm.f t211 t212 t213 t214 t215 t216).bind fun t219 => (if t219 = true then ((impl_within.f a0_4 t213 t214).bind fun t220 => (if t220 = true then (impl_IsInstr.j0 k t217 true a0_0 a0_1 a0_2 a0_3 a0_4 t211 t212 t213 t214 t215 t216) else ((impl_form_imm.f t211 t212 t213 t214 t215 t216).bind fun t221 => (if t221 = true then (impl_IsInstr.j0 k t217 false a0_0 a0_1 a0_2 a0_3 a0_4 t211 t212 t213 t214 t215 t216) else (impl_IsInstr.j0 k t217 (a0_4 == 0) a0_0 a0_1 a0_2 a0_3 a0_4 t211 t212 t213 t214 t215 t216))))) else ((impl_form_imm.f t211 t212 t213 t214 t215 t216).bind fun t222 => (if t222 = true then (impl_IsInstr.j0 k t217 false a0_0 a0_1 a0_2 a0_3 a0_4 t211 t212 t213 t214 t215 t216) else (impl_IsInstr.j0 k t217 (a0_4 == 0) a0_0 a0_1 a0_2 a0_3 a0_4 t211 t212 t213 t214 t215 t216))))) = some r := H
  have A2 := Aside0.mk A20
  clear A20
  have HC3 := Aside0.mk H
  clear H
  go_enter Try.func112, Try.ntmps112
  go_upto_region 2 with (first | ((with_reducible refine gate_dst (N := 1) rfl ?_); refine box_event ?hg (N := 1) ?hd (cs := #[.string a0_0, .int .i64 a0_1, .int .i64 a0_2, .int .i64 a0_3, .int .i64 a0_4]) (t := 80) ?hr ?_; (case hd => rfl); (case hg => rfl); (case hr => first | (go_simp; done) | (go_simp; rfl)); intro gb210 hg w4 hbox hb; have BK210 := Aside0.mk (hbox); have GW210 := Aside0.mk ((by rw [hg]; exact (below_size BA) : w.heap.size ≤ gb210)); have GE210 := Aside0.mk ((by rw [hg]; exact (below_size BA) : w.heap.size ≤ gb210)); replace HB := Aside0.mk (below_step BA hb); clear hb hbox hg; have hcz5_0 := bcv BK210.out 0 (.string a0_0); have hcz5_1 := bcv BK210.out 1 (.int .i64 a0_1); have hcz5_2 := bcv BK210.out 2 (.int .i64 a0_2); have hcz5_3 := bcv BK210.out 3 (.int .i64 a0_3); have hcz5_4 := bcv BK210.out 4 (.int .i64 a0_4); have hfz5 := blk_frozen BK210.out) | ((with_reducible refine gate_callee (f := 76) rfl ?_); refine gK (some 9) Try.func76 #[.string a0_0] rfl rfl rfl ?_; (with_reducible refine (impl_formOf.calls a0_0 t211 t212 t213 t214 t215 t216 t217 _ A2.out).mono ?_); rintro e w6 ⟨rfl, hb⟩; refine ⟨_, rfl, ?_⟩; replace BK210 := Aside0.mk (blk_below (bk BK210.out) hb); replace HB := Aside0.mk (below_step BA hb); (try clear hb)) | ((with_reducible refine gate_dst (N := 3) rfl ?_); refine box_event ?hg (N := 3) ?hd (cs := #[.bool false, .bool false, .int .i64 0, .int .i64 0, .int .i64 0, .string (⟨#[]⟩ : ByteArray)]) (t := 94) ?hr ?_; (case hd => rfl); (case hg => rfl); (case hr => first | (go_simp; done) | (go_simp; rfl)); intro gb218 hg w7 hbox hb; have BK218 := Aside0.mk (hbox); have GW218 := Aside0.mk ((by rw [hg]; exact (below_size BA) : w.heap.size ≤ gb218)); have GE218 := Aside0.mk ((by rw [hg]; exact (below_size BA) : w.heap.size ≤ gb218)); replace HB := Aside0.mk (below_step BA hb); have NB210_218 := Aside0.mk ((by rw [hg]; exact Nat.ne_of_lt (blk_lt (g := gb210) (o := .cells #[.string a0_0, .int .i64 a0_1, .int .i64 a0_2, .int .i64 a0_3, .int .i64 a0_4] 80 (0, 0)) (bk BK210.out)) : gb210 ≠ gb218)); have NB218_210 := Aside0.mk ((by rw [hg]; exact Nat.ne_of_gt (blk_lt (g := gb210) (o := .cells #[.string a0_0, .int .i64 a0_1, .int .i64 a0_2, .int .i64 a0_3, .int .i64 a0_4] 80 (0, 0)) (bk BK210.out)) : gb218 ≠ gb210)); replace BK210 := Aside0.mk (blk_below (bk BK210.out) hb); clear hb hbox hg; have hnb8 := NB218_210.out; have hnc8 := NB210_218.out; have hcz9_0 := bcv BK218.out 0 (.bool false); have hcz9_1 := bcv BK218.out 1 (.bool false); have hcz9_2 := bcv BK218.out 2 (.int .i64 0); have hcz9_3 := bcv BK218.out 3 (.int .i64 0); have hcz9_4 := bcv BK218.out 4 (.int .i64 0); have hcz9_5 := bcv BK218.out 5 (.string (⟨#[]⟩ : ByteArray)); have hfz9 := blk_frozen BK218.out))
  (try simp only [Act.put, List.setIfInBounds_toArray, List.set_cons_zero, List.set_cons_succ])
  go_cut [5] (fun v5 wc => ∃ (kq : Nat) (x5_2 : Bool), v5 = .bool x5_2 ∧ Aside0 (impl_IsInstr.j0 kq t217 x5_2 a0_0 a0_1 a0_2 a0_3 a0_4 t211 t212 t213 t214 t215 t216 = some r) ∧ Aside0 (kq ≤ k) ∧ Aside0 (wc.heap[gb210]? = some (.cells #[.string a0_0, .int .i64 a0_1, .int .i64 a0_2, .int .i64 a0_3, .int .i64 a0_4] 80 (0, 0))) ∧ Aside0 (wc.heap[gb218]? = some (.cells #[.bool t211, .bool t212, .int .i64 t213, .int .i64 t214, .int .i64 t215, .string t216] 94 (0, 0))) ∧ Aside0 (Below w.heap.size w wc))
  case first =>
    have H := HC3.out
    clear HC3
    replace H := Option.bind_eq_some_iff.mp H
    obtain ⟨t219, A100, H⟩ := H
    replace H : (if t219 = true then ((impl_within.f a0_4 t213 t214).bind fun t220 => (if t220 = true then (impl_IsInstr.j0 k t217 true a0_0 a0_1 a0_2 a0_3 a0_4 t211 t212 t213 t214 t215 t216) else ((impl_form_imm.f t211 t212 t213 t214 t215 t216).bind fun t221 => (if t221 = true then (impl_IsInstr.j0 k t217 false a0_0 a0_1 a0_2 a0_3 a0_4 t211 t212 t213 t214 t215 t216) else (impl_IsInstr.j0 k t217 (a0_4 == 0) a0_0 a0_1 a0_2 a0_3 a0_4 t211 t212 t213 t214 t215 t216))))) else ((impl_form_imm.f t211 t212 t213 t214 t215 t216).bind fun t222 => (if t222 = true then (impl_IsInstr.j0 k t217 false a0_0 a0_1 a0_2 a0_3 a0_4 t211 t212 t213 t214 t215 t216) else (impl_IsInstr.j0 k t217 (a0_4 == 0) a0_0 a0_1 a0_2 a0_3 a0_4 t211 t212 t213 t214 t215 t216)))) = some r := H
    have A10 := Aside0.mk A100
    clear A100
    by_cases c11 : t219 = true
    · subst c11
      have H1 : ((impl_within.f a0_4 t213 t214).bind fun t220 => (if t220 = true then (impl_IsInstr.j0 k t217 true a0_0 a0_1 a0_2 a0_3 a0_4 t211 t212 t213 t214 t215 t216) else ((impl_form_imm.f t211 t212 t213 t214 t215 t216).bind fun t221 => (if t221 = true then (impl_IsInstr.j0 k t217 false a0_0 a0_1 a0_2 a0_3 a0_4 t211 t212 t213 t214 t215 t216) else (impl_IsInstr.j0 k t217 (a0_4 == 0) a0_0 a0_1 a0_2 a0_3 a0_4 t211 t212 t213 t214 t215 t216))))) = some r := by rw [if_pos rfl] at H; exact H
      clear H
      have H := H1
      clear H1
      replace H := Option.bind_eq_some_iff.mp H
      obtain ⟨t220, A120, H⟩ := H
      replace H : (if t220 = true then (impl_IsInstr.j0 k t217 true a0_0 a0_1 a0_2 a0_3 a0_4 t211 t212 t213 t214 t215 t216) else ((impl_form_imm.f t211 t212 t213 t214 t215 t216).bind fun t221 => (if t221 = true then (impl_IsInstr.j0 k t217 false a0_0 a0_1 a0_2 a0_3 a0_4 t211 t212 t213 t214 t215 t216) else (impl_IsInstr.j0 k t217 (a0_4 == 0) a0_0 a0_1 a0_2 a0_3 a0_4 t211 t212 t213 t214 t215 t216)))) = some r := H
      have A12 := Aside0.mk A120
      clear A120
      by_cases c13 : t220 = true
      · subst c13
        have H1 : (impl_IsInstr.j0 k t217 true a0_0 a0_1 a0_2 a0_3 a0_4 t211 t212 t213 t214 t215 t216) = some r := by rw [if_pos rfl] at H; exact H
        clear H
        have H := H1
        clear H1
        have H' := Aside0.mk H
        clear H
        have hnb14 := NB218_210.out
        have hnc14 := NB210_218.out
        have hcz15_0 := bcv BK218.out 0 (.bool false)
        have hcz15_1 := bcv BK218.out 1 (.bool false)
        have hcz15_2 := bcv BK218.out 2 (.int .i64 0)
        have hcz15_3 := bcv BK218.out 3 (.int .i64 0)
        have hcz15_4 := bcv BK218.out 4 (.int .i64 0)
        have hcz15_5 := bcv BK218.out 5 (.string (⟨#[]⟩ : ByteArray))
        have hfz15 := blk_frozen BK218.out
        have hfz15_1 := blk_frozen BK218.out 1
        have hfz15_2 := blk_frozen BK218.out 2
        have hfz15_3 := blk_frozen BK218.out 3
        have hfz15_4 := blk_frozen BK218.out 4
        have hfz15_5 := blk_frozen BK218.out 5
        go_wp2_with (first | ((with_reducible refine gate_callee (f := 77) rfl ?_); refine gK (some 13) Try.func77 #[.agg #[.bool t211, .bool t212, .int .i64 t213, .int .i64 t214, .int .i64 t215, .string t216]] rfl rfl rfl ?_; (with_reducible refine (impl_form_imm.calls t211 t212 t213 t214 t215 t216 true _ A10.out).mono ?_); rintro e w16 ⟨rfl, hb⟩; refine ⟨_, rfl, ?_⟩; replace BK210 := Aside0.mk (blk_below (g := gb210) (o := .cells #[.string a0_0, .int .i64 a0_1, .int .i64 a0_2, .int .i64 a0_3, .int .i64 a0_4] 80 (0, 0)) (by (with_reducible repeat (first | refine blk_drewN ?_ _ | refine blk_drew ?_ | refine blk_alloc ?_ _)); refine blk_far ?_ NB210_218.out _; (with_reducible repeat (first | refine blk_drewN ?_ _ | refine blk_drew ?_ | refine blk_alloc ?_ _)); refine blk_far ?_ NB210_218.out _; (with_reducible repeat (first | refine blk_drewN ?_ _ | refine blk_drew ?_ | refine blk_alloc ?_ _)); refine blk_far ?_ NB210_218.out _; (with_reducible repeat (first | refine blk_drewN ?_ _ | refine blk_drew ?_ | refine blk_alloc ?_ _)); refine blk_far ?_ NB210_218.out _; (with_reducible repeat (first | refine blk_drewN ?_ _ | refine blk_drew ?_ | refine blk_alloc ?_ _)); refine blk_far ?_ NB210_218.out _; (with_reducible repeat (first | refine blk_drewN ?_ _ | refine blk_drew ?_ | refine blk_alloc ?_ _)); refine blk_far ?_ NB210_218.out _; (with_reducible repeat (first | refine blk_drewN ?_ _ | refine blk_drew ?_ | refine blk_alloc ?_ _)); exact BK210.out) hb); replace BK218 := Aside0.mk (blk_below (g := gb218) (o := .cells #[.bool t211, .bool t212, .int .i64 t213, .int .i64 t214, .int .i64 t215, .string t216] 94 (0, 0)) (by (with_reducible repeat (first | refine blk_drewN ?_ _ | refine blk_drew ?_ | refine blk_alloc ?_ _)); refine blk_put (cs := #[.bool t211, .bool t212, .int .i64 t213, .int .i64 t214, .int .i64 t215, .string (⟨#[]⟩ : ByteArray)]) ?_ 5 _ rfl; (with_reducible repeat (first | refine blk_drewN ?_ _ | refine blk_drew ?_ | refine blk_alloc ?_ _)); refine blk_put (cs := #[.bool t211, .bool t212, .int .i64 t213, .int .i64 t214, .int .i64 0, .string (⟨#[]⟩ : ByteArray)]) ?_ 4 _ rfl; (with_reducible repeat (first | refine blk_drewN ?_ _ | refine blk_drew ?_ | refine blk_alloc ?_ _)); refine blk_put (cs := #[.bool t211, .bool t212, .int .i64 t213, .int .i64 0, .int .i64 0, .string (⟨#[]⟩ : ByteArray)]) ?_ 3 _ rfl; (with_reducible repeat (first | refine blk_drewN ?_ _ | refine blk_drew ?_ | refine blk_alloc ?_ _)); refine blk_put (cs := #[.bool t211, .bool t212, .int .i64 0, .int .i64 0, .int .i64 0, .string (⟨#[]⟩ : ByteArray)]) ?_ 2 _ rfl; (with_reducible repeat (first | refine blk_drewN ?_ _ | refine blk_drew ?_ | refine blk_alloc ?_ _)); refine blk_put (cs := #[.bool t211, .bool false, .int .i64 0, .int .i64 0, .int .i64 0, .string (⟨#[]⟩ : ByteArray)]) ?_ 1 _ rfl; (with_reducible repeat (first | refine blk_drewN ?_ _ | refine blk_drew ?_ | refine blk_alloc ?_ _)); refine blk_put (cs := #[.bool false, .bool false, .int .i64 0, .int .i64 0, .int .i64 0, .string (⟨#[]⟩ : ByteArray)]) ?_ 0 _ rfl; (with_reducible repeat (first | refine blk_drewN ?_ _ | refine blk_drew ?_ | refine blk_alloc ?_ _)); exact BK218.out) hb); replace HB := Aside0.mk (below_step BA hb); (try clear hb); have hcz17_0 := bcv BK210.out 0 (.string a0_0); have hcz17_1 := bcv BK210.out 1 (.int .i64 a0_1); have hcz17_2 := bcv BK210.out 2 (.int .i64 a0_2); have hcz17_3 := bcv BK210.out 3 (.int .i64 a0_3); have hcz17_4 := bcv BK210.out 4 (.int .i64 a0_4); have hfz17 := blk_frozen BK210.out; have hcz18_0 := bcv BK218.out 0 (.bool t211); have hcz18_1 := bcv BK218.out 1 (.bool t212); have hcz18_2 := bcv BK218.out 2 (.int .i64 t213); have hcz18_3 := bcv BK218.out 3 (.int .i64 t214); have hcz18_4 := bcv BK218.out 4 (.int .i64 t215); have hcz18_5 := bcv BK218.out 5 (.string t216); have hfz18 := blk_frozen BK218.out) | (go_at_call 73; (with_reducible refine (impl_within.calls a0_4 t213 t214 true _ A12.out).mono ?_); rintro e w' ⟨rfl, ⟨nd, rfl⟩⟩))
        go_meet
        case rel => exact ⟨_, (true), EQ1, H', ⟨by first | omega | exact Nat.le_refl _⟩, ⟨by (with_reducible repeat (first | refine blk_drewN ?_ _ | refine blk_drew ?_ | refine blk_alloc ?_ _)); exact BK210.out⟩, ⟨by (with_reducible repeat (first | refine blk_drewN ?_ _ | refine blk_drew ?_ | refine blk_alloc ?_ _)); exact BK218.out⟩, ⟨BA⟩⟩
      · replace c13 := Bool.eq_false_iff.mpr c13
        subst c13
        have H1 : ((impl_form_imm.f t211 t212 t213 t214 t215 t216).bind fun t221 => (if t221 = true then (impl_IsInstr.j0 k t217 false a0_0 a0_1 a0_2 a0_3 a0_4 t211 t212 t213 t214 t215 t216) else (impl_IsInstr.j0 k t217 (a0_4 == 0) a0_0 a0_1 a0_2 a0_3 a0_4 t211 t212 t213 t214 t215 t216))) = some r := by rw [if_neg (show ¬ (false = true) by decide)] at H; exact H
        clear H
        have H := H1
        clear H1
        replace H := Option.bind_eq_some_iff.mp H
        obtain ⟨t221, A190, H⟩ := H
        replace H : (if t221 = true then (impl_IsInstr.j0 k t217 false a0_0 a0_1 a0_2 a0_3 a0_4 t211 t212 t213 t214 t215 t216) else (impl_IsInstr.j0 k t217 (a0_4 == 0) a0_0 a0_1 a0_2 a0_3 a0_4 t211 t212 t213 t214 t215 t216)) = some r := H
        have A19 := Aside0.mk A190
        clear A190
        by_cases c20 : t221 = true
        · subst c20
          have H1 : (impl_IsInstr.j0 k t217 false a0_0 a0_1 a0_2 a0_3 a0_4 t211 t212 t213 t214 t215 t216) = some r := by rw [if_pos rfl] at H; exact H
          clear H
          have H := H1
          clear H1
          have H' := Aside0.mk H
          clear H
          have hnb21 := NB218_210.out
          have hnc21 := NB210_218.out
          have hcz22_0 := bcv BK218.out 0 (.bool false)
          have hcz22_1 := bcv BK218.out 1 (.bool false)
          have hcz22_2 := bcv BK218.out 2 (.int .i64 0)
          have hcz22_3 := bcv BK218.out 3 (.int .i64 0)
          have hcz22_4 := bcv BK218.out 4 (.int .i64 0)
          have hcz22_5 := bcv BK218.out 5 (.string (⟨#[]⟩ : ByteArray))
          have hfz22 := blk_frozen BK218.out
          have hfz22_1 := blk_frozen BK218.out 1
          have hfz22_2 := blk_frozen BK218.out 2
          have hfz22_3 := blk_frozen BK218.out 3
          have hfz22_4 := blk_frozen BK218.out 4
          have hfz22_5 := blk_frozen BK218.out 5
          go_wp2_with (first | ((with_reducible refine gate_callee (f := 77) rfl ?_); refine gK (some 13) Try.func77 #[.agg #[.bool t211, .bool t212, .int .i64 t213, .int .i64 t214, .int .i64 t215, .string t216]] rfl rfl rfl ?_; (with_reducible refine (impl_form_imm.calls t211 t212 t213 t214 t215 t216 true _ A10.out).mono ?_); rintro e w23 ⟨rfl, hb⟩; refine ⟨_, rfl, ?_⟩; replace BK210 := Aside0.mk (blk_below (g := gb210) (o := .cells #[.string a0_0, .int .i64 a0_1, .int .i64 a0_2, .int .i64 a0_3, .int .i64 a0_4] 80 (0, 0)) (by (with_reducible repeat (first | refine blk_drewN ?_ _ | refine blk_drew ?_ | refine blk_alloc ?_ _)); refine blk_far ?_ NB210_218.out _; (with_reducible repeat (first | refine blk_drewN ?_ _ | refine blk_drew ?_ | refine blk_alloc ?_ _)); refine blk_far ?_ NB210_218.out _; (with_reducible repeat (first | refine blk_drewN ?_ _ | refine blk_drew ?_ | refine blk_alloc ?_ _)); refine blk_far ?_ NB210_218.out _; (with_reducible repeat (first | refine blk_drewN ?_ _ | refine blk_drew ?_ | refine blk_alloc ?_ _)); refine blk_far ?_ NB210_218.out _; (with_reducible repeat (first | refine blk_drewN ?_ _ | refine blk_drew ?_ | refine blk_alloc ?_ _)); refine blk_far ?_ NB210_218.out _; (with_reducible repeat (first | refine blk_drewN ?_ _ | refine blk_drew ?_ | refine blk_alloc ?_ _)); refine blk_far ?_ NB210_218.out _; (with_reducible repeat (first | refine blk_drewN ?_ _ | refine blk_drew ?_ | refine blk_alloc ?_ _)); exact BK210.out) hb); replace BK218 := Aside0.mk (blk_below (g := gb218) (o := .cells #[.bool t211, .bool t212, .int .i64 t213, .int .i64 t214, .int .i64 t215, .string t216] 94 (0, 0)) (by (with_reducible repeat (first | refine blk_drewN ?_ _ | refine blk_drew ?_ | refine blk_alloc ?_ _)); refine blk_put (cs := #[.bool t211, .bool t212, .int .i64 t213, .int .i64 t214, .int .i64 t215, .string (⟨#[]⟩ : ByteArray)]) ?_ 5 _ rfl; (with_reducible repeat (first | refine blk_drewN ?_ _ | refine blk_drew ?_ | refine blk_alloc ?_ _)); refine blk_put (cs := #[.bool t211, .bool t212, .int .i64 t213, .int .i64 t214, .int .i64 0, .string (⟨#[]⟩ : ByteArray)]) ?_ 4 _ rfl; (with_reducible repeat (first | refine blk_drewN ?_ _ | refine blk_drew ?_ | refine blk_alloc ?_ _)); refine blk_put (cs := #[.bool t211, .bool t212, .int .i64 t213, .int .i64 0, .int .i64 0, .string (⟨#[]⟩ : ByteArray)]) ?_ 3 _ rfl; (with_reducible repeat (first | refine blk_drewN ?_ _ | refine blk_drew ?_ | refine blk_alloc ?_ _)); refine blk_put (cs := #[.bool t211, .bool t212, .int .i64 0, .int .i64 0, .int .i64 0, .string (⟨#[]⟩ : ByteArray)]) ?_ 2 _ rfl; (with_reducible repeat (first | refine blk_drewN ?_ _ | refine blk_drew ?_ | refine blk_alloc ?_ _)); refine blk_put (cs := #[.bool t211, .bool false, .int .i64 0, .int .i64 0, .int .i64 0, .string (⟨#[]⟩ : ByteArray)]) ?_ 1 _ rfl; (with_reducible repeat (first | refine blk_drewN ?_ _ | refine blk_drew ?_ | refine blk_alloc ?_ _)); refine blk_put (cs := #[.bool false, .bool false, .int .i64 0, .int .i64 0, .int .i64 0, .string (⟨#[]⟩ : ByteArray)]) ?_ 0 _ rfl; (with_reducible repeat (first | refine blk_drewN ?_ _ | refine blk_drew ?_ | refine blk_alloc ?_ _)); exact BK218.out) hb); replace HB := Aside0.mk (below_step BA hb); (try clear hb); have hcz24_0 := bcv BK210.out 0 (.string a0_0); have hcz24_1 := bcv BK210.out 1 (.int .i64 a0_1); have hcz24_2 := bcv BK210.out 2 (.int .i64 a0_2); have hcz24_3 := bcv BK210.out 3 (.int .i64 a0_3); have hcz24_4 := bcv BK210.out 4 (.int .i64 a0_4); have hfz24 := blk_frozen BK210.out; have hcz25_0 := bcv BK218.out 0 (.bool t211); have hcz25_1 := bcv BK218.out 1 (.bool t212); have hcz25_2 := bcv BK218.out 2 (.int .i64 t213); have hcz25_3 := bcv BK218.out 3 (.int .i64 t214); have hcz25_4 := bcv BK218.out 4 (.int .i64 t215); have hcz25_5 := bcv BK218.out 5 (.string t216); have hfz25 := blk_frozen BK218.out) | (go_at_call 73; (with_reducible refine (impl_within.calls a0_4 t213 t214 false _ A12.out).mono ?_); rintro e w' ⟨rfl, ⟨nd, rfl⟩⟩) | (go_at_call 77; (with_reducible refine (impl_form_imm.calls t211 t212 t213 t214 t215 t216 true _ A19.out).mono ?_); rintro e w26 ⟨rfl, hb⟩; replace BK210 := Aside0.mk (blk_below (bk BK210.out) hb); replace BK218 := Aside0.mk (blk_below (bk BK218.out) hb); replace HB := Aside0.mk (below_step BA hb); (try clear hb)))
          go_meet
          case rel => exact ⟨_, (false), EQ1, H', ⟨by first | omega | exact Nat.le_refl _⟩, ⟨by (with_reducible repeat (first | refine blk_drewN ?_ _ | refine blk_drew ?_ | refine blk_alloc ?_ _)); exact BK210.out⟩, ⟨by (with_reducible repeat (first | refine blk_drewN ?_ _ | refine blk_drew ?_ | refine blk_alloc ?_ _)); exact BK218.out⟩, ⟨BA⟩⟩
        · replace c20 := Bool.eq_false_iff.mpr c20
          subst c20
          have H1 : (impl_IsInstr.j0 k t217 (a0_4 == 0) a0_0 a0_1 a0_2 a0_3 a0_4 t211 t212 t213 t214 t215 t216) = some r := by rw [if_neg (show ¬ (false = true) by decide)] at H; exact H
          clear H
          have H := H1
          clear H1
          have H' := Aside0.mk H
          clear H
          have hnb27 := NB218_210.out
          have hnc27 := NB210_218.out
          have hcz28_0 := bcv BK218.out 0 (.bool false)
          have hcz28_1 := bcv BK218.out 1 (.bool false)
          have hcz28_2 := bcv BK218.out 2 (.int .i64 0)
          have hcz28_3 := bcv BK218.out 3 (.int .i64 0)
          have hcz28_4 := bcv BK218.out 4 (.int .i64 0)
          have hcz28_5 := bcv BK218.out 5 (.string (⟨#[]⟩ : ByteArray))
          have hfz28 := blk_frozen BK218.out
          have hfz28_1 := blk_frozen BK218.out 1
          have hfz28_2 := blk_frozen BK218.out 2
          have hfz28_3 := blk_frozen BK218.out 3
          have hfz28_4 := blk_frozen BK218.out 4
          have hfz28_5 := blk_frozen BK218.out 5
          go_wp2_with (first | ((with_reducible refine gate_callee (f := 77) rfl ?_); refine gK (some 13) Try.func77 #[.agg #[.bool t211, .bool t212, .int .i64 t213, .int .i64 t214, .int .i64 t215, .string t216]] rfl rfl rfl ?_; (with_reducible refine (impl_form_imm.calls t211 t212 t213 t214 t215 t216 true _ A10.out).mono ?_); rintro e w29 ⟨rfl, hb⟩; refine ⟨_, rfl, ?_⟩; replace BK210 := Aside0.mk (blk_below (g := gb210) (o := .cells #[.string a0_0, .int .i64 a0_1, .int .i64 a0_2, .int .i64 a0_3, .int .i64 a0_4] 80 (0, 0)) (by (with_reducible repeat (first | refine blk_drewN ?_ _ | refine blk_drew ?_ | refine blk_alloc ?_ _)); refine blk_far ?_ NB210_218.out _; (with_reducible repeat (first | refine blk_drewN ?_ _ | refine blk_drew ?_ | refine blk_alloc ?_ _)); refine blk_far ?_ NB210_218.out _; (with_reducible repeat (first | refine blk_drewN ?_ _ | refine blk_drew ?_ | refine blk_alloc ?_ _)); refine blk_far ?_ NB210_218.out _; (with_reducible repeat (first | refine blk_drewN ?_ _ | refine blk_drew ?_ | refine blk_alloc ?_ _)); refine blk_far ?_ NB210_218.out _; (with_reducible repeat (first | refine blk_drewN ?_ _ | refine blk_drew ?_ | refine blk_alloc ?_ _)); refine blk_far ?_ NB210_218.out _; (with_reducible repeat (first | refine blk_drewN ?_ _ | refine blk_drew ?_ | refine blk_alloc ?_ _)); refine blk_far ?_ NB210_218.out _; (with_reducible repeat (first | refine blk_drewN ?_ _ | refine blk_drew ?_ | refine blk_alloc ?_ _)); exact BK210.out) hb); replace BK218 := Aside0.mk (blk_below (g := gb218) (o := .cells #[.bool t211, .bool t212, .int .i64 t213, .int .i64 t214, .int .i64 t215, .string t216] 94 (0, 0)) (by (with_reducible repeat (first | refine blk_drewN ?_ _ | refine blk_drew ?_ | refine blk_alloc ?_ _)); refine blk_put (cs := #[.bool t211, .bool t212, .int .i64 t213, .int .i64 t214, .int .i64 t215, .string (⟨#[]⟩ : ByteArray)]) ?_ 5 _ rfl; (with_reducible repeat (first | refine blk_drewN ?_ _ | refine blk_drew ?_ | refine blk_alloc ?_ _)); refine blk_put (cs := #[.bool t211, .bool t212, .int .i64 t213, .int .i64 t214, .int .i64 0, .string (⟨#[]⟩ : ByteArray)]) ?_ 4 _ rfl; (with_reducible repeat (first | refine blk_drewN ?_ _ | refine blk_drew ?_ | refine blk_alloc ?_ _)); refine blk_put (cs := #[.bool t211, .bool t212, .int .i64 t213, .int .i64 0, .int .i64 0, .string (⟨#[]⟩ : ByteArray)]) ?_ 3 _ rfl; (with_reducible repeat (first | refine blk_drewN ?_ _ | refine blk_drew ?_ | refine blk_alloc ?_ _)); refine blk_put (cs := #[.bool t211, .bool t212, .int .i64 0, .int .i64 0, .int .i64 0, .string (⟨#[]⟩ : ByteArray)]) ?_ 2 _ rfl; (with_reducible repeat (first | refine blk_drewN ?_ _ | refine blk_drew ?_ | refine blk_alloc ?_ _)); refine blk_put (cs := #[.bool t211, .bool false, .int .i64 0, .int .i64 0, .int .i64 0, .string (⟨#[]⟩ : ByteArray)]) ?_ 1 _ rfl; (with_reducible repeat (first | refine blk_drewN ?_ _ | refine blk_drew ?_ | refine blk_alloc ?_ _)); refine blk_put (cs := #[.bool false, .bool false, .int .i64 0, .int .i64 0, .int .i64 0, .string (⟨#[]⟩ : ByteArray)]) ?_ 0 _ rfl; (with_reducible repeat (first | refine blk_drewN ?_ _ | refine blk_drew ?_ | refine blk_alloc ?_ _)); exact BK218.out) hb); replace HB := Aside0.mk (below_step BA hb); (try clear hb); have hcz30_0 := bcv BK210.out 0 (.string a0_0); have hcz30_1 := bcv BK210.out 1 (.int .i64 a0_1); have hcz30_2 := bcv BK210.out 2 (.int .i64 a0_2); have hcz30_3 := bcv BK210.out 3 (.int .i64 a0_3); have hcz30_4 := bcv BK210.out 4 (.int .i64 a0_4); have hfz30 := blk_frozen BK210.out; have hcz31_0 := bcv BK218.out 0 (.bool t211); have hcz31_1 := bcv BK218.out 1 (.bool t212); have hcz31_2 := bcv BK218.out 2 (.int .i64 t213); have hcz31_3 := bcv BK218.out 3 (.int .i64 t214); have hcz31_4 := bcv BK218.out 4 (.int .i64 t215); have hcz31_5 := bcv BK218.out 5 (.string t216); have hfz31 := blk_frozen BK218.out) | (go_at_call 73; (with_reducible refine (impl_within.calls a0_4 t213 t214 false _ A12.out).mono ?_); rintro e w' ⟨rfl, ⟨nd, rfl⟩⟩) | (go_at_call 77; (with_reducible refine (impl_form_imm.calls t211 t212 t213 t214 t215 t216 false _ A19.out).mono ?_); rintro e w32 ⟨rfl, hb⟩; replace BK210 := Aside0.mk (blk_below (bk BK210.out) hb); replace BK218 := Aside0.mk (blk_below (bk BK218.out) hb); replace HB := Aside0.mk (below_step BA hb); (try clear hb); have hcz33_0 := bcv BK210.out 0 (.string a0_0); have hcz33_1 := bcv BK210.out 1 (.int .i64 a0_1); have hcz33_2 := bcv BK210.out 2 (.int .i64 a0_2); have hcz33_3 := bcv BK210.out 3 (.int .i64 a0_3); have hcz33_4 := bcv BK210.out 4 (.int .i64 a0_4); have hfz33 := blk_frozen BK210.out))
          go_meet
          case rel => exact ⟨_, ((a0_4 == 0)), EQ1, H', ⟨by first | omega | exact Nat.le_refl _⟩, ⟨by (with_reducible repeat (first | refine blk_drewN ?_ _ | refine blk_drew ?_ | refine blk_alloc ?_ _)); exact BK210.out⟩, ⟨by (with_reducible repeat (first | refine blk_drewN ?_ _ | refine blk_drew ?_ | refine blk_alloc ?_ _)); exact BK218.out⟩, ⟨BA⟩⟩
    · replace c11 := Bool.eq_false_iff.mpr c11
      subst c11
      have H1 : ((impl_form_imm.f t211 t212 t213 t214 t215 t216).bind fun t222 => (if t222 = true then (impl_IsInstr.j0 k t217 false a0_0 a0_1 a0_2 a0_3 a0_4 t211 t212 t213 t214 t215 t216) else (impl_IsInstr.j0 k t217 (a0_4 == 0) a0_0 a0_1 a0_2 a0_3 a0_4 t211 t212 t213 t214 t215 t216))) = some r := by rw [if_neg (show ¬ (false = true) by decide)] at H; exact H
      clear H
      have H := H1
      clear H1
      replace H := Option.bind_eq_some_iff.mp H
      obtain ⟨t222, A340, H⟩ := H
      replace H : (if t222 = true then (impl_IsInstr.j0 k t217 false a0_0 a0_1 a0_2 a0_3 a0_4 t211 t212 t213 t214 t215 t216) else (impl_IsInstr.j0 k t217 (a0_4 == 0) a0_0 a0_1 a0_2 a0_3 a0_4 t211 t212 t213 t214 t215 t216)) = some r := H
      have A34 := Aside0.mk A340
      clear A340
      by_cases c35 : t222 = true
      · subst c35
        have H1 : (impl_IsInstr.j0 k t217 false a0_0 a0_1 a0_2 a0_3 a0_4 t211 t212 t213 t214 t215 t216) = some r := by rw [if_pos rfl] at H; exact H
        clear H
        have H := H1
        clear H1
        have H' := Aside0.mk H
        clear H
        have hnb36 := NB218_210.out
        have hnc36 := NB210_218.out
        have hcz37_0 := bcv BK218.out 0 (.bool false)
        have hcz37_1 := bcv BK218.out 1 (.bool false)
        have hcz37_2 := bcv BK218.out 2 (.int .i64 0)
        have hcz37_3 := bcv BK218.out 3 (.int .i64 0)
        have hcz37_4 := bcv BK218.out 4 (.int .i64 0)
        have hcz37_5 := bcv BK218.out 5 (.string (⟨#[]⟩ : ByteArray))
        have hfz37 := blk_frozen BK218.out
        have hfz37_1 := blk_frozen BK218.out 1
        have hfz37_2 := blk_frozen BK218.out 2
        have hfz37_3 := blk_frozen BK218.out 3
        have hfz37_4 := blk_frozen BK218.out 4
        have hfz37_5 := blk_frozen BK218.out 5
        go_wp2_with (first | ((with_reducible refine gate_callee (f := 77) rfl ?_); refine gK (some 13) Try.func77 #[.agg #[.bool t211, .bool t212, .int .i64 t213, .int .i64 t214, .int .i64 t215, .string t216]] rfl rfl rfl ?_; (with_reducible refine (impl_form_imm.calls t211 t212 t213 t214 t215 t216 false _ A10.out).mono ?_); rintro e w38 ⟨rfl, hb⟩; refine ⟨_, rfl, ?_⟩; replace BK210 := Aside0.mk (blk_below (g := gb210) (o := .cells #[.string a0_0, .int .i64 a0_1, .int .i64 a0_2, .int .i64 a0_3, .int .i64 a0_4] 80 (0, 0)) (by (with_reducible repeat (first | refine blk_drewN ?_ _ | refine blk_drew ?_ | refine blk_alloc ?_ _)); refine blk_far ?_ NB210_218.out _; (with_reducible repeat (first | refine blk_drewN ?_ _ | refine blk_drew ?_ | refine blk_alloc ?_ _)); refine blk_far ?_ NB210_218.out _; (with_reducible repeat (first | refine blk_drewN ?_ _ | refine blk_drew ?_ | refine blk_alloc ?_ _)); refine blk_far ?_ NB210_218.out _; (with_reducible repeat (first | refine blk_drewN ?_ _ | refine blk_drew ?_ | refine blk_alloc ?_ _)); refine blk_far ?_ NB210_218.out _; (with_reducible repeat (first | refine blk_drewN ?_ _ | refine blk_drew ?_ | refine blk_alloc ?_ _)); refine blk_far ?_ NB210_218.out _; (with_reducible repeat (first | refine blk_drewN ?_ _ | refine blk_drew ?_ | refine blk_alloc ?_ _)); refine blk_far ?_ NB210_218.out _; (with_reducible repeat (first | refine blk_drewN ?_ _ | refine blk_drew ?_ | refine blk_alloc ?_ _)); exact BK210.out) hb); replace BK218 := Aside0.mk (blk_below (g := gb218) (o := .cells #[.bool t211, .bool t212, .int .i64 t213, .int .i64 t214, .int .i64 t215, .string t216] 94 (0, 0)) (by (with_reducible repeat (first | refine blk_drewN ?_ _ | refine blk_drew ?_ | refine blk_alloc ?_ _)); refine blk_put (cs := #[.bool t211, .bool t212, .int .i64 t213, .int .i64 t214, .int .i64 t215, .string (⟨#[]⟩ : ByteArray)]) ?_ 5 _ rfl; (with_reducible repeat (first | refine blk_drewN ?_ _ | refine blk_drew ?_ | refine blk_alloc ?_ _)); refine blk_put (cs := #[.bool t211, .bool t212, .int .i64 t213, .int .i64 t214, .int .i64 0, .string (⟨#[]⟩ : ByteArray)]) ?_ 4 _ rfl; (with_reducible repeat (first | refine blk_drewN ?_ _ | refine blk_drew ?_ | refine blk_alloc ?_ _)); refine blk_put (cs := #[.bool t211, .bool t212, .int .i64 t213, .int .i64 0, .int .i64 0, .string (⟨#[]⟩ : ByteArray)]) ?_ 3 _ rfl; (with_reducible repeat (first | refine blk_drewN ?_ _ | refine blk_drew ?_ | refine blk_alloc ?_ _)); refine blk_put (cs := #[.bool t211, .bool t212, .int .i64 0, .int .i64 0, .int .i64 0, .string (⟨#[]⟩ : ByteArray)]) ?_ 2 _ rfl; (with_reducible repeat (first | refine blk_drewN ?_ _ | refine blk_drew ?_ | refine blk_alloc ?_ _)); refine blk_put (cs := #[.bool t211, .bool false, .int .i64 0, .int .i64 0, .int .i64 0, .string (⟨#[]⟩ : ByteArray)]) ?_ 1 _ rfl; (with_reducible repeat (first | refine blk_drewN ?_ _ | refine blk_drew ?_ | refine blk_alloc ?_ _)); refine blk_put (cs := #[.bool false, .bool false, .int .i64 0, .int .i64 0, .int .i64 0, .string (⟨#[]⟩ : ByteArray)]) ?_ 0 _ rfl; (with_reducible repeat (first | refine blk_drewN ?_ _ | refine blk_drew ?_ | refine blk_alloc ?_ _)); exact BK218.out) hb); replace HB := Aside0.mk (below_step BA hb); (try clear hb); have hcz39_0 := bcv BK218.out 0 (.bool t211); have hcz39_1 := bcv BK218.out 1 (.bool t212); have hcz39_2 := bcv BK218.out 2 (.int .i64 t213); have hcz39_3 := bcv BK218.out 3 (.int .i64 t214); have hcz39_4 := bcv BK218.out 4 (.int .i64 t215); have hcz39_5 := bcv BK218.out 5 (.string t216); have hfz39 := blk_frozen BK218.out) | (go_at_call 77; (with_reducible refine (impl_form_imm.calls t211 t212 t213 t214 t215 t216 true _ A34.out).mono ?_); rintro e w40 ⟨rfl, hb⟩; replace BK210 := Aside0.mk (blk_below (bk BK210.out) hb); replace BK218 := Aside0.mk (blk_below (bk BK218.out) hb); replace HB := Aside0.mk (below_step BA hb); (try clear hb)))
        go_meet
        case rel => exact ⟨_, (false), EQ1, H', ⟨by first | omega | exact Nat.le_refl _⟩, ⟨by (with_reducible repeat (first | refine blk_drewN ?_ _ | refine blk_drew ?_ | refine blk_alloc ?_ _)); exact BK210.out⟩, ⟨by (with_reducible repeat (first | refine blk_drewN ?_ _ | refine blk_drew ?_ | refine blk_alloc ?_ _)); exact BK218.out⟩, ⟨BA⟩⟩
      · replace c35 := Bool.eq_false_iff.mpr c35
        subst c35
        have H1 : (impl_IsInstr.j0 k t217 (a0_4 == 0) a0_0 a0_1 a0_2 a0_3 a0_4 t211 t212 t213 t214 t215 t216) = some r := by rw [if_neg (show ¬ (false = true) by decide)] at H; exact H
        clear H
        have H := H1
        clear H1
        have H' := Aside0.mk H
        clear H
        have hnb41 := NB218_210.out
        have hnc41 := NB210_218.out
        have hcz42_0 := bcv BK218.out 0 (.bool false)
        have hcz42_1 := bcv BK218.out 1 (.bool false)
        have hcz42_2 := bcv BK218.out 2 (.int .i64 0)
        have hcz42_3 := bcv BK218.out 3 (.int .i64 0)
        have hcz42_4 := bcv BK218.out 4 (.int .i64 0)
        have hcz42_5 := bcv BK218.out 5 (.string (⟨#[]⟩ : ByteArray))
        have hfz42 := blk_frozen BK218.out
        have hfz42_1 := blk_frozen BK218.out 1
        have hfz42_2 := blk_frozen BK218.out 2
        have hfz42_3 := blk_frozen BK218.out 3
        have hfz42_4 := blk_frozen BK218.out 4
        have hfz42_5 := blk_frozen BK218.out 5
        go_wp2_with (first | ((with_reducible refine gate_callee (f := 77) rfl ?_); refine gK (some 13) Try.func77 #[.agg #[.bool t211, .bool t212, .int .i64 t213, .int .i64 t214, .int .i64 t215, .string t216]] rfl rfl rfl ?_; (with_reducible refine (impl_form_imm.calls t211 t212 t213 t214 t215 t216 false _ A10.out).mono ?_); rintro e w43 ⟨rfl, hb⟩; refine ⟨_, rfl, ?_⟩; replace BK210 := Aside0.mk (blk_below (g := gb210) (o := .cells #[.string a0_0, .int .i64 a0_1, .int .i64 a0_2, .int .i64 a0_3, .int .i64 a0_4] 80 (0, 0)) (by (with_reducible repeat (first | refine blk_drewN ?_ _ | refine blk_drew ?_ | refine blk_alloc ?_ _)); refine blk_far ?_ NB210_218.out _; (with_reducible repeat (first | refine blk_drewN ?_ _ | refine blk_drew ?_ | refine blk_alloc ?_ _)); refine blk_far ?_ NB210_218.out _; (with_reducible repeat (first | refine blk_drewN ?_ _ | refine blk_drew ?_ | refine blk_alloc ?_ _)); refine blk_far ?_ NB210_218.out _; (with_reducible repeat (first | refine blk_drewN ?_ _ | refine blk_drew ?_ | refine blk_alloc ?_ _)); refine blk_far ?_ NB210_218.out _; (with_reducible repeat (first | refine blk_drewN ?_ _ | refine blk_drew ?_ | refine blk_alloc ?_ _)); refine blk_far ?_ NB210_218.out _; (with_reducible repeat (first | refine blk_drewN ?_ _ | refine blk_drew ?_ | refine blk_alloc ?_ _)); refine blk_far ?_ NB210_218.out _; (with_reducible repeat (first | refine blk_drewN ?_ _ | refine blk_drew ?_ | refine blk_alloc ?_ _)); exact BK210.out) hb); replace BK218 := Aside0.mk (blk_below (g := gb218) (o := .cells #[.bool t211, .bool t212, .int .i64 t213, .int .i64 t214, .int .i64 t215, .string t216] 94 (0, 0)) (by (with_reducible repeat (first | refine blk_drewN ?_ _ | refine blk_drew ?_ | refine blk_alloc ?_ _)); refine blk_put (cs := #[.bool t211, .bool t212, .int .i64 t213, .int .i64 t214, .int .i64 t215, .string (⟨#[]⟩ : ByteArray)]) ?_ 5 _ rfl; (with_reducible repeat (first | refine blk_drewN ?_ _ | refine blk_drew ?_ | refine blk_alloc ?_ _)); refine blk_put (cs := #[.bool t211, .bool t212, .int .i64 t213, .int .i64 t214, .int .i64 0, .string (⟨#[]⟩ : ByteArray)]) ?_ 4 _ rfl; (with_reducible repeat (first | refine blk_drewN ?_ _ | refine blk_drew ?_ | refine blk_alloc ?_ _)); refine blk_put (cs := #[.bool t211, .bool t212, .int .i64 t213, .int .i64 0, .int .i64 0, .string (⟨#[]⟩ : ByteArray)]) ?_ 3 _ rfl; (with_reducible repeat (first | refine blk_drewN ?_ _ | refine blk_drew ?_ | refine blk_alloc ?_ _)); refine blk_put (cs := #[.bool t211, .bool t212, .int .i64 0, .int .i64 0, .int .i64 0, .string (⟨#[]⟩ : ByteArray)]) ?_ 2 _ rfl; (with_reducible repeat (first | refine blk_drewN ?_ _ | refine blk_drew ?_ | refine blk_alloc ?_ _)); refine blk_put (cs := #[.bool t211, .bool false, .int .i64 0, .int .i64 0, .int .i64 0, .string (⟨#[]⟩ : ByteArray)]) ?_ 1 _ rfl; (with_reducible repeat (first | refine blk_drewN ?_ _ | refine blk_drew ?_ | refine blk_alloc ?_ _)); refine blk_put (cs := #[.bool false, .bool false, .int .i64 0, .int .i64 0, .int .i64 0, .string (⟨#[]⟩ : ByteArray)]) ?_ 0 _ rfl; (with_reducible repeat (first | refine blk_drewN ?_ _ | refine blk_drew ?_ | refine blk_alloc ?_ _)); exact BK218.out) hb); replace HB := Aside0.mk (below_step BA hb); (try clear hb); have hcz44_0 := bcv BK218.out 0 (.bool t211); have hcz44_1 := bcv BK218.out 1 (.bool t212); have hcz44_2 := bcv BK218.out 2 (.int .i64 t213); have hcz44_3 := bcv BK218.out 3 (.int .i64 t214); have hcz44_4 := bcv BK218.out 4 (.int .i64 t215); have hcz44_5 := bcv BK218.out 5 (.string t216); have hfz44 := blk_frozen BK218.out) | (go_at_call 77; (with_reducible refine (impl_form_imm.calls t211 t212 t213 t214 t215 t216 false _ A34.out).mono ?_); rintro e w45 ⟨rfl, hb⟩; replace BK210 := Aside0.mk (blk_below (bk BK210.out) hb); replace BK218 := Aside0.mk (blk_below (bk BK218.out) hb); replace HB := Aside0.mk (below_step BA hb); (try clear hb); have hcz46_0 := bcv BK210.out 0 (.string a0_0); have hcz46_1 := bcv BK210.out 1 (.int .i64 a0_1); have hcz46_2 := bcv BK210.out 2 (.int .i64 a0_2); have hcz46_3 := bcv BK210.out 3 (.int .i64 a0_3); have hcz46_4 := bcv BK210.out 4 (.int .i64 a0_4); have hfz46 := blk_frozen BK210.out))
        go_meet
        case rel => exact ⟨_, ((a0_4 == 0)), EQ1, H', ⟨by first | omega | exact Nat.le_refl _⟩, ⟨by (with_reducible repeat (first | refine blk_drewN ?_ _ | refine blk_drew ?_ | refine blk_alloc ?_ _)); exact BK210.out⟩, ⟨by (with_reducible repeat (first | refine blk_drewN ?_ _ | refine blk_drew ?_ | refine blk_alloc ?_ _)); exact BK218.out⟩, ⟨BA⟩⟩
  case rest =>
    clear HC3
    (try clear c1); (try clear c2); (try clear p2); (try clear c3); (try clear c4); (try clear c7); (try clear c8); (try clear c11); (try clear c13); (try clear c14); (try clear c20); (try clear c21); (try clear c27); (try clear c35); (try clear c36); (try clear c41); (try clear hcz15_0); (try clear hcz15_1); (try clear hcz15_2); (try clear hcz15_3); (try clear hcz15_4); (try clear hcz15_5); (try clear hcz17_0); (try clear hcz17_1); (try clear hcz17_2); (try clear hcz17_3); (try clear hcz17_4); (try clear hcz18_0); (try clear hcz18_1); (try clear hcz18_2); (try clear hcz18_3); (try clear hcz18_4); (try clear hcz18_5); (try clear hcz22_0); (try clear hcz22_1); (try clear hcz22_2); (try clear hcz22_3); (try clear hcz22_4); (try clear hcz22_5); (try clear hcz24_0); (try clear hcz24_1); (try clear hcz24_2); (try clear hcz24_3); (try clear hcz24_4); (try clear hcz25_0); (try clear hcz25_1); (try clear hcz25_2); (try clear hcz25_3); (try clear hcz25_4); (try clear hcz25_5); (try clear hcz28_0); (try clear hcz28_1); (try clear hcz28_2); (try clear hcz28_3); (try clear hcz28_4); (try clear hcz28_5); (try clear hcz30_0); (try clear hcz30_1); (try clear hcz30_2); (try clear hcz30_3); (try clear hcz30_4); (try clear hcz31_0); (try clear hcz31_1); (try clear hcz31_2); (try clear hcz31_3); (try clear hcz31_4); (try clear hcz31_5); (try clear hcz33_0); (try clear hcz33_1); (try clear hcz33_2); (try clear hcz33_3); (try clear hcz33_4); (try clear hcz37_0); (try clear hcz37_1); (try clear hcz37_2); (try clear hcz37_3); (try clear hcz37_4); (try clear hcz37_5); (try clear hcz39_0); (try clear hcz39_1); (try clear hcz39_2); (try clear hcz39_3); (try clear hcz39_4); (try clear hcz39_5); (try clear hcz42_0); (try clear hcz42_1); (try clear hcz42_2); (try clear hcz42_3); (try clear hcz42_4); (try clear hcz42_5); (try clear hcz44_0); (try clear hcz44_1); (try clear hcz44_2); (try clear hcz44_3); (try clear hcz44_4); (try clear hcz44_5); (try clear hcz46_0); (try clear hcz46_1); (try clear hcz46_2); (try clear hcz46_3); (try clear hcz46_4); (try clear hcz5_0); (try clear hcz5_1); (try clear hcz5_2); (try clear hcz5_3); (try clear hcz5_4); (try clear hcz9_0); (try clear hcz9_1); (try clear hcz9_2); (try clear hcz9_3); (try clear hcz9_4); (try clear hcz9_5); (try clear hfz15_0); (try clear hfz15_1); (try clear hfz15_2); (try clear hfz15_3); (try clear hfz15_4); (try clear hfz15_5); (try clear hfz17_0); (try clear hfz17_1); (try clear hfz17_2); (try clear hfz17_3); (try clear hfz17_4); (try clear hfz18_0); (try clear hfz18_1); (try clear hfz18_2); (try clear hfz18_3); (try clear hfz18_4); (try clear hfz18_5); (try clear hfz22_0); (try clear hfz22_1); (try clear hfz22_2); (try clear hfz22_3); (try clear hfz22_4); (try clear hfz22_5); (try clear hfz24_0); (try clear hfz24_1); (try clear hfz24_2); (try clear hfz24_3); (try clear hfz24_4); (try clear hfz25_0); (try clear hfz25_1); (try clear hfz25_2); (try clear hfz25_3); (try clear hfz25_4); (try clear hfz25_5); (try clear hfz28_0); (try clear hfz28_1); (try clear hfz28_2); (try clear hfz28_3); (try clear hfz28_4); (try clear hfz28_5); (try clear hfz30_0); (try clear hfz30_1); (try clear hfz30_2); (try clear hfz30_3); (try clear hfz30_4); (try clear hfz31_0); (try clear hfz31_1); (try clear hfz31_2); (try clear hfz31_3); (try clear hfz31_4); (try clear hfz31_5); (try clear hfz33_0); (try clear hfz33_1); (try clear hfz33_2); (try clear hfz33_3); (try clear hfz33_4); (try clear hfz37_0); (try clear hfz37_1); (try clear hfz37_2); (try clear hfz37_3); (try clear hfz37_4); (try clear hfz37_5); (try clear hfz39_0); (try clear hfz39_1); (try clear hfz39_2); (try clear hfz39_3); (try clear hfz39_4); (try clear hfz39_5); (try clear hfz42_0); (try clear hfz42_1); (try clear hfz42_2); (try clear hfz42_3); (try clear hfz42_4); (try clear hfz42_5); (try clear hfz44_0); (try clear hfz44_1); (try clear hfz44_2); (try clear hfz44_3); (try clear hfz44_4); (try clear hfz44_5); (try clear hfz46_0); (try clear hfz46_1); (try clear hfz46_2); (try clear hfz46_3); (try clear hfz46_4); (try clear hfz5_0); (try clear hfz5_1); (try clear hfz5_2); (try clear hfz5_3); (try clear hfz5_4); (try clear hfz9_0); (try clear hfz9_1); (try clear hfz9_2); (try clear hfz9_3); (try clear hfz9_4); (try clear hfz9_5)
    obtain ⟨kq, x5_2, rfl, HA, HJ2, BK210, BK218, HB⟩ := hcut
    cases kq with
    | zero => exact absurd HA.out (by simp [impl_IsInstr.j0])
    | succ kj2 =>
      have H := HA.out
      clear HA
      simp only [impl_IsInstr.j0] at H
      by_cases c47 : t217 = true
      · subst c47
        have H1 : ((impl_isRegister.f a0_1).bind fun t223 => (if t223 = true then ((impl_isUsed.f t211 a0_2).bind fun t224 => (if t224 = true then ((impl_isUsed.f t212 a0_3).bind fun t225 => (if t225 = true then (some x5_2) else (some false))) else (some false))) else (some false))) = some r := by rw [if_pos rfl] at H; exact H
        clear H
        have H := H1
        clear H1
        replace H := Option.bind_eq_some_iff.mp H
        obtain ⟨t223, A480, H⟩ := H
        replace H : (if t223 = true then ((impl_isUsed.f t211 a0_2).bind fun t224 => (if t224 = true then ((impl_isUsed.f t212 a0_3).bind fun t225 => (if t225 = true then (some x5_2) else (some false))) else (some false))) else (some false)) = some r := H
        have A48 := Aside0.mk A480
        clear A480
        by_cases c49 : t223 = true
        · subst c49
          have H1 : ((impl_isUsed.f t211 a0_2).bind fun t224 => (if t224 = true then ((impl_isUsed.f t212 a0_3).bind fun t225 => (if t225 = true then (some x5_2) else (some false))) else (some false))) = some r := by rw [if_pos rfl] at H; exact H
          clear H
          have H := H1
          clear H1
          replace H := Option.bind_eq_some_iff.mp H
          obtain ⟨t224, A500, H⟩ := H
          replace H : (if t224 = true then ((impl_isUsed.f t212 a0_3).bind fun t225 => (if t225 = true then (some x5_2) else (some false))) else (some false)) = some r := H
          have A50 := Aside0.mk A500
          clear A500
          by_cases c51 : t224 = true
          · subst c51
            have H1 : ((impl_isUsed.f t212 a0_3).bind fun t225 => (if t225 = true then (some x5_2) else (some false))) = some r := by rw [if_pos rfl] at H; exact H
            clear H
            have H := H1
            clear H1
            replace H := Option.bind_eq_some_iff.mp H
            obtain ⟨t225, A520, H⟩ := H
            replace H : (if t225 = true then (some x5_2) else (some false)) = some r := H
            have A52 := Aside0.mk A520
            clear A520
            by_cases c53 : t225 = true
            · subst c53
              have H1 : (some x5_2) = some r := by rw [if_pos rfl] at H; exact H
              clear H
              have H := H1
              clear H1
              obtain rfl := Option.some.inj H
              have hnb54 := NB210_218.out
              have hnc54 := NB218_210.out
              have hcz55_0 := bcv BK210.out 0 (.string a0_0)
              have hcz55_1 := bcv BK210.out 1 (.int .i64 a0_1)
              have hcz55_2 := bcv BK210.out 2 (.int .i64 a0_2)
              have hcz55_3 := bcv BK210.out 3 (.int .i64 a0_3)
              have hcz55_4 := bcv BK210.out 4 (.int .i64 a0_4)
              have hfz55 := blk_frozen BK210.out
              have hfz55_1 := blk_frozen BK210.out 1
              have hfz55_2 := blk_frozen BK210.out 2
              have hfz55_3 := blk_frozen BK210.out 3
              have hfz55_4 := blk_frozen BK210.out 4
              go_wp2_with (first | (go_at_call 102; (with_reducible refine (impl_isRegister.calls a0_1 true _ A48.out).mono ?_); rintro e w' ⟨rfl, ⟨nd, rfl⟩⟩; have hcz56_0 := bcv BK218.out 0 (.bool t211); have hcz56_1 := bcv BK218.out 1 (.bool t212); have hcz56_2 := bcv BK218.out 2 (.int .i64 t213); have hcz56_3 := bcv BK218.out 3 (.int .i64 t214); have hcz56_4 := bcv BK218.out 4 (.int .i64 t215); have hcz56_5 := bcv BK218.out 5 (.string t216); have hfz56 := blk_frozen BK218.out) | (go_at_call 150; (with_reducible refine (impl_isUsed.calls t211 a0_2 true _ A50.out).mono ?_); rintro e w' ⟨rfl, ⟨nd, rfl⟩⟩) | (go_at_call 150; (with_reducible refine (impl_isUsed.calls t212 a0_3 true _ A52.out).mono ?_); rintro e w' ⟨rfl, ⟨nd, rfl⟩⟩))
              go_ret
              exact ⟨EQ, BA⟩
            · replace c53 := Bool.eq_false_iff.mpr c53
              subst c53
              have H1 : (some false) = some r := by rw [if_neg (show ¬ (false = true) by decide)] at H; exact H
              clear H
              have H := H1
              clear H1
              obtain rfl := Option.some.inj H
              have hnb57 := NB210_218.out
              have hnc57 := NB218_210.out
              have hcz58_0 := bcv BK210.out 0 (.string a0_0)
              have hcz58_1 := bcv BK210.out 1 (.int .i64 a0_1)
              have hcz58_2 := bcv BK210.out 2 (.int .i64 a0_2)
              have hcz58_3 := bcv BK210.out 3 (.int .i64 a0_3)
              have hcz58_4 := bcv BK210.out 4 (.int .i64 a0_4)
              have hfz58 := blk_frozen BK210.out
              have hfz58_1 := blk_frozen BK210.out 1
              have hfz58_2 := blk_frozen BK210.out 2
              have hfz58_3 := blk_frozen BK210.out 3
              have hfz58_4 := blk_frozen BK210.out 4
              go_wp2_with (first | (go_at_call 102; (with_reducible refine (impl_isRegister.calls a0_1 true _ A48.out).mono ?_); rintro e w' ⟨rfl, ⟨nd, rfl⟩⟩; have hcz59_0 := bcv BK218.out 0 (.bool t211); have hcz59_1 := bcv BK218.out 1 (.bool t212); have hcz59_2 := bcv BK218.out 2 (.int .i64 t213); have hcz59_3 := bcv BK218.out 3 (.int .i64 t214); have hcz59_4 := bcv BK218.out 4 (.int .i64 t215); have hcz59_5 := bcv BK218.out 5 (.string t216); have hfz59 := blk_frozen BK218.out) | (go_at_call 150; (with_reducible refine (impl_isUsed.calls t211 a0_2 true _ A50.out).mono ?_); rintro e w' ⟨rfl, ⟨nd, rfl⟩⟩) | (go_at_call 150; (with_reducible refine (impl_isUsed.calls t212 a0_3 false _ A52.out).mono ?_); rintro e w' ⟨rfl, ⟨nd, rfl⟩⟩))
              go_ret
              exact ⟨EQ, BA⟩
          · replace c51 := Bool.eq_false_iff.mpr c51
            subst c51
            have H1 : (some false) = some r := by rw [if_neg (show ¬ (false = true) by decide)] at H; exact H
            clear H
            have H := H1
            clear H1
            obtain rfl := Option.some.inj H
            have hnb60 := NB210_218.out
            have hnc60 := NB218_210.out
            have hcz61_0 := bcv BK210.out 0 (.string a0_0)
            have hcz61_1 := bcv BK210.out 1 (.int .i64 a0_1)
            have hcz61_2 := bcv BK210.out 2 (.int .i64 a0_2)
            have hcz61_3 := bcv BK210.out 3 (.int .i64 a0_3)
            have hcz61_4 := bcv BK210.out 4 (.int .i64 a0_4)
            have hfz61 := blk_frozen BK210.out
            have hfz61_1 := blk_frozen BK210.out 1
            have hfz61_2 := blk_frozen BK210.out 2
            have hfz61_3 := blk_frozen BK210.out 3
            have hfz61_4 := blk_frozen BK210.out 4
            go_wp2_with (first | (go_at_call 102; (with_reducible refine (impl_isRegister.calls a0_1 true _ A48.out).mono ?_); rintro e w' ⟨rfl, ⟨nd, rfl⟩⟩; have hcz62_0 := bcv BK218.out 0 (.bool t211); have hcz62_1 := bcv BK218.out 1 (.bool t212); have hcz62_2 := bcv BK218.out 2 (.int .i64 t213); have hcz62_3 := bcv BK218.out 3 (.int .i64 t214); have hcz62_4 := bcv BK218.out 4 (.int .i64 t215); have hcz62_5 := bcv BK218.out 5 (.string t216); have hfz62 := blk_frozen BK218.out) | (go_at_call 150; (with_reducible refine (impl_isUsed.calls t211 a0_2 false _ A50.out).mono ?_); rintro e w' ⟨rfl, ⟨nd, rfl⟩⟩))
            go_ret
            exact ⟨EQ, BA⟩
        · replace c49 := Bool.eq_false_iff.mpr c49
          subst c49
          have H1 : (some false) = some r := by rw [if_neg (show ¬ (false = true) by decide)] at H; exact H
          clear H
          have H := H1
          clear H1
          obtain rfl := Option.some.inj H
          have hnb63 := NB210_218.out
          have hnc63 := NB218_210.out
          have hcz64_0 := bcv BK210.out 0 (.string a0_0)
          have hcz64_1 := bcv BK210.out 1 (.int .i64 a0_1)
          have hcz64_2 := bcv BK210.out 2 (.int .i64 a0_2)
          have hcz64_3 := bcv BK210.out 3 (.int .i64 a0_3)
          have hcz64_4 := bcv BK210.out 4 (.int .i64 a0_4)
          have hfz64 := blk_frozen BK210.out
          have hfz64_1 := blk_frozen BK210.out 1
          have hfz64_2 := blk_frozen BK210.out 2
          have hfz64_3 := blk_frozen BK210.out 3
          have hfz64_4 := blk_frozen BK210.out 4
          go_wp2_with (first | (go_at_call 102; (with_reducible refine (impl_isRegister.calls a0_1 false _ A48.out).mono ?_); rintro e w' ⟨rfl, ⟨nd, rfl⟩⟩))
          go_ret
          exact ⟨EQ, BA⟩
      · replace c47 := Bool.eq_false_iff.mpr c47
        subst c47
        have H1 : (some false) = some r := by rw [if_neg (show ¬ (false = true) by decide)] at H; exact H
        clear H
        have H := H1
        clear H1
        obtain rfl := Option.some.inj H
        go_wp2
        go_ret
        exact ⟨EQ, BA⟩

/-! ### impl_IsCode_1: function 111 -/
def impl_IsCode_1.f (k : Nat) (a0_0 : ByteArray) (a0_1 : Int) (a0_2 : Int) (a0_3 : Int) (a0_4 : Int) : Option (Bool) := (impl_IsInstr.f k a0_0 a0_1 a0_2 a0_3 a0_4).bind fun t227 => (some (!t227))
theorem impl_IsCode_1.mono : ∀ a0 a1 a2 a3 a4 k, LeO (impl_IsCode_1.f k a0 a1 a2 a3 a4) (impl_IsCode_1.f (k + 1) a0 a1 a2 a3 a4) := by
  intro a0 a1 a2 a3 a4 k
  unfold impl_IsCode_1.f
  repeat' first | (with_reducible first | exact impl_IsInstr.mono _ _ _ _ _ _ | exact LeO.refl _ | exact LeO.none _ | refine LeO.ite ?_ ?_ | refine LeO.bind ?_ (fun _ => ?_)) | exact LeO.none _ | refine LeO.ite ?_ ?_ | refine LeO.bind ?_ (fun _ => ?_)
set_option maxHeartbeats 8000000 in
set_option maxRecDepth 100000 in
theorem impl_IsCode_1.calls (k : Nat) (a0_0 : ByteArray) (a0_1 : Int) (a0_2 : Int) (a0_3 : Int) (a0_4 : Int) (r : Bool) (w : World) (h : impl_IsCode_1.f k a0_0 a0_1 a0_2 a0_3 a0_4 = some r) :
    Calls Try.prog 111 #[.agg #[.string a0_0, .int .i64 a0_1, .int .i64 a0_2, .int .i64 a0_3, .int .i64 a0_4]] w fun e w' => e = .returned (.bool r) ∧ Below w.heap.size w w' := by
  have hu80 := Try.underlying80
  have HB := Aside0.mk (Below.refl w.heap.size w)
  have H : ((impl_IsInstr.f k a0_0 a0_1 a0_2 a0_3 a0_4).bind fun t227 => (some (!t227))) = some r := h
  clear h
  replace H := Option.bind_eq_some_iff.mp H
  obtain ⟨t227, A20, H⟩ := H
  replace H : (some (!t227)) = some r := H
  have A2 := Aside0.mk A20
  clear A20
  obtain rfl := Option.some.inj H
  go_enter Try.func111, Try.ntmps111
  go_wp2_with (first | ((with_reducible refine gate_dst (N := 1) rfl ?_); refine box_event ?hg (N := 1) ?hd (cs := #[.string a0_0, .int .i64 a0_1, .int .i64 a0_2, .int .i64 a0_3, .int .i64 a0_4]) (t := 80) ?hr ?_; (case hd => rfl); (case hg => rfl); (case hr => first | (go_simp; done) | (go_simp; rfl)); intro gb226 hg w3 hbox hb; have BK226 := Aside0.mk (hbox); have GW226 := Aside0.mk ((by rw [hg]; exact (below_size BA) : w.heap.size ≤ gb226)); have GE226 := Aside0.mk ((by rw [hg]; exact (below_size BA) : w.heap.size ≤ gb226)); replace HB := Aside0.mk (below_step BA hb); clear hb hbox hg; have hcz4_0 := bcv BK226.out 0 (.string a0_0); have hcz4_1 := bcv BK226.out 1 (.int .i64 a0_1); have hcz4_2 := bcv BK226.out 2 (.int .i64 a0_2); have hcz4_3 := bcv BK226.out 3 (.int .i64 a0_3); have hcz4_4 := bcv BK226.out 4 (.int .i64 a0_4); have hfz4 := blk_frozen BK226.out) | ((with_reducible refine gate_callee (f := 112) rfl ?_); refine gK (some 4) Try.func112 #[.agg #[.string a0_0, .int .i64 a0_1, .int .i64 a0_2, .int .i64 a0_3, .int .i64 a0_4]] rfl rfl rfl ?_; (with_reducible refine (impl_IsInstr.calls k a0_0 a0_1 a0_2 a0_3 a0_4 t227 _ A2.out).mono ?_); rintro e w5 ⟨rfl, hb⟩; refine ⟨_, rfl, ?_⟩; replace BK226 := Aside0.mk (blk_below (bk BK226.out) hb); replace HB := Aside0.mk (below_step BA hb); (try clear hb)))
  go_ret
  exact ⟨EQ, BA⟩

/-! ### slices_IndexFunc_impl_Instr_impl_Instr__impl_IsCode_1: function 113 -/
def slices_IndexFunc_impl_Instr_impl_Instr__impl_IsCode_1.l0 : Nat → List (S80) → Int → Int → Option (Int)
  | 0, _, _, _ => none
  | k + 1, x0, x7, x8 => if x8 < x7 then (if 0 ≤ x8 then (if x8 < (x0.length : Int) then ((impl_IsCode_1.f k ((rd_T80 x0 x8).f0) ((rd_T80 x0 x8).f1) ((rd_T80 x0 x8).f2) ((rd_T80 x0 x8).f3) ((rd_T80 x0 x8).f4)).bind fun t229 => (if t229 = true then (some x8) else (slices_IndexFunc_impl_Instr_impl_Instr__impl_IsCode_1.l0 k x0 x7 (wrap64 (x8 + 1))))) else (none)) else (none)) else (some (-1))
def slices_IndexFunc_impl_Instr_impl_Instr__impl_IsCode_1.f (k : Nat) (l0 : List (S80))  : Option (Int) := slices_IndexFunc_impl_Instr_impl_Instr__impl_IsCode_1.l0 k l0 (l0.length : Int) 0
theorem slices_IndexFunc_impl_Instr_impl_Instr__impl_IsCode_1.mono_l : ∀ k, (∀ y0 y1 y2, LeO (slices_IndexFunc_impl_Instr_impl_Instr__impl_IsCode_1.l0 k y0 y1 y2) (slices_IndexFunc_impl_Instr_impl_Instr__impl_IsCode_1.l0 (k + 1) y0 y1 y2))
  | 0 => fun _ _ _ r h => by simp [slices_IndexFunc_impl_Instr_impl_Instr__impl_IsCode_1.l0] at h
  | k + 1 => by
    have ih0 := slices_IndexFunc_impl_Instr_impl_Instr__impl_IsCode_1.mono_l k
    · intro y0 y1 y2
      unfold slices_IndexFunc_impl_Instr_impl_Instr__impl_IsCode_1.l0
      repeat' first | (with_reducible first | exact ih0 _ _ _ | exact impl_IsCode_1.mono _ _ _ _ _ _ | exact LeO.refl _ | exact LeO.none _ | refine LeO.ite ?_ ?_ | refine LeO.bind ?_ (fun _ => ?_)) | exact LeO.none _ | refine LeO.ite ?_ ?_ | refine LeO.bind ?_ (fun _ => ?_)
theorem slices_IndexFunc_impl_Instr_impl_Instr__impl_IsCode_1.mono : ∀ a0 k, LeO (slices_IndexFunc_impl_Instr_impl_Instr__impl_IsCode_1.f k a0) (slices_IndexFunc_impl_Instr_impl_Instr__impl_IsCode_1.f (k + 1) a0) := by
  intro a0 k
  have ih0 := slices_IndexFunc_impl_Instr_impl_Instr__impl_IsCode_1.mono_l k
  unfold slices_IndexFunc_impl_Instr_impl_Instr__impl_IsCode_1.f
  repeat' first | (with_reducible first | exact ih0 _ _ _ | exact impl_IsCode_1.mono _ _ _ _ _ _ | exact LeO.refl _ | exact LeO.none _ | refine LeO.ite ?_ ?_ | refine LeO.bind ?_ (fun _ => ?_)) | exact LeO.none _ | refine LeO.ite ?_ ?_ | refine LeO.bind ?_ (fun _ => ?_)
set_option maxHeartbeats 8000000 in
set_option maxRecDepth 100000 in
theorem slices_IndexFunc_impl_Instr_impl_Instr__impl_IsCode_1.calls (k : Nat) (A0 : Option Addr) (c0 : Nat) (l0 : List (S80))  (r : Int) (w : World) (hr0 : Kd.C k80 w A0 l0.length l0) (hc0 : l0.length ≤ c0) (h : slices_IndexFunc_impl_Instr_impl_Instr__impl_IsCode_1.f k l0 = some r) :
    Calls Try.prog 113 #[.slice A0 l0.length c0, .func (.func 111) #[] #[]] w fun e w' => e = .returned (.int .i64 r) ∧ Below w.heap.size w w' := by
  have hu80 := Try.underlying80
  have HR0 := Aside0.mk hr0
  have HC0 := Aside0.mk hc0
  clear hr0 hc0
  have HB := Aside0.mk (Below.refl w.heap.size w)
  have H : (slices_IndexFunc_impl_Instr_impl_Instr__impl_IsCode_1.l0 k l0 (l0.length : Int) 0) = some r := h
  clear h
  have H' := Aside0.mk H
  clear H
  go_enter Try.func113, Try.ntmps113
  go_wp2
  go_loopg [8] k (fun kq v8 w' => ∃ (x8_1 : Int), v8 = .int .i64 x8_1 ∧ Aside0 (slices_IndexFunc_impl_Instr_impl_Instr__impl_IsCode_1.l0 kq l0 (l0.length : Int) x8_1 = some r) ∧ Aside0 (kq ≤ k) ∧ Aside0 (Below w.heap.size w w'))
  case atStart => exact ⟨(0), EQ1, H', ⟨Nat.le_refl _⟩, ⟨BA⟩⟩
  case round =>
    clear H'
    (try clear c1); (try clear p2)
    obtain ⟨x8_1, rfl, HA, HK1, HB⟩ := hrel
    cases gk with
    | zero => exact absurd HA.out (by simp [slices_IndexFunc_impl_Instr_impl_Instr__impl_IsCode_1.l0])
    | succ k1 =>
      have H := HA.out
      clear HA
      simp only [slices_IndexFunc_impl_Instr_impl_Instr__impl_IsCode_1.l0] at H
      by_cases c3 : x8_1 < (l0.length : Int)
      · rw [if_pos c3] at H
        have c3b0 := decide_eq_true c3
        clear c3
        by_cases c4 : 0 ≤ x8_1
        · rw [if_pos c4] at H
          have c4b0 := decide_eq_true c4
          clear c4
          by_cases c5 : x8_1 < (l0.length : Int)
          · rw [if_pos c5] at H
            have c5b0 := decide_eq_true c5
            clear c5
            replace H := Option.bind_eq_some_iff.mp H
            obtain ⟨t229, A60, H⟩ := H
            replace H : (if t229 = true then (some x8_1) else (slices_IndexFunc_impl_Instr_impl_Instr__impl_IsCode_1.l0 k1 l0 (l0.length : Int) (wrap64 (x8_1 + 1)))) = some r := H
            have A6 := Aside0.mk A60
            clear A60
            by_cases c7 : t229 = true
            · subst c7
              have H1 : (some x8_1) = some r := by rw [if_pos rfl] at H; exact H
              clear H
              have H := H1
              clear H1
              obtain rfl := Option.some.inj H
              have p228 : 0 ≤ (x8_1 : Int) := DT
              have q228 : x8_1 < (l0.length : Int) := DT
              obtain ⟨ad228, e228, hx228_0, hx228_1, hx228_2, hx228_3, hx228_4⟩ := at_T80 HR0.out x8_1 p228 q228
              cases e228
              replace hx228_0 := (HB.out.cell (World.block_lt_of_cell? w _ hx228_0)).trans hx228_0
              replace hx228_1 := (HB.out.cell (World.block_lt_of_cell? w _ hx228_1)).trans hx228_1
              replace hx228_2 := (HB.out.cell (World.block_lt_of_cell? w _ hx228_2)).trans hx228_2
              replace hx228_3 := (HB.out.cell (World.block_lt_of_cell? w _ hx228_3)).trans hx228_3
              replace hx228_4 := (HB.out.cell (World.block_lt_of_cell? w _ hx228_4)).trans hx228_4
              replace p228 := eq_true p228
              replace q228 := eq_true q228
              go_wp2_with (first | (go_at_call 111; (with_reducible refine (impl_IsCode_1.calls k1 ((rd_T80 l0 x8_1).f0) ((rd_T80 l0 x8_1).f1) ((rd_T80 l0 x8_1).f2) ((rd_T80 l0 x8_1).f3) ((rd_T80 l0 x8_1).f4) true _ A6.out).mono ?_); rintro e w8 ⟨rfl, hb⟩; replace HB := Aside0.mk (below_step BA hb); (try clear hb)))
              go_ret
              exact ⟨EQ, BA⟩
            · replace c7 := Bool.eq_false_iff.mpr c7
              subst c7
              have H1 : (slices_IndexFunc_impl_Instr_impl_Instr__impl_IsCode_1.l0 k1 l0 (l0.length : Int) (wrap64 (x8_1 + 1))) = some r := by rw [if_neg (show ¬ (false = true) by decide)] at H; exact H
              clear H
              have H := H1
              clear H1
              have H' := Aside0.mk H
              clear H
              have p228 : 0 ≤ (x8_1 : Int) := DT
              have q228 : x8_1 < (l0.length : Int) := DT
              obtain ⟨ad228, e228, hx228_0, hx228_1, hx228_2, hx228_3, hx228_4⟩ := at_T80 HR0.out x8_1 p228 q228
              cases e228
              replace hx228_0 := (HB.out.cell (World.block_lt_of_cell? w _ hx228_0)).trans hx228_0
              replace hx228_1 := (HB.out.cell (World.block_lt_of_cell? w _ hx228_1)).trans hx228_1
              replace hx228_2 := (HB.out.cell (World.block_lt_of_cell? w _ hx228_2)).trans hx228_2
              replace hx228_3 := (HB.out.cell (World.block_lt_of_cell? w _ hx228_3)).trans hx228_3
              replace hx228_4 := (HB.out.cell (World.block_lt_of_cell? w _ hx228_4)).trans hx228_4
              replace p228 := eq_true p228
              replace q228 := eq_true q228
              go_wp2_with (first | (go_at_call 111; (with_reducible refine (impl_IsCode_1.calls k1 ((rd_T80 l0 x8_1).f0) ((rd_T80 l0 x8_1).f1) ((rd_T80 l0 x8_1).f2) ((rd_T80 l0 x8_1).f3) ((rd_T80 l0 x8_1).f4) false _ A6.out).mono ?_); rintro e w9 ⟨rfl, hb⟩; replace HB := Aside0.mk (below_step BA hb); (try clear hb)))
              go_roundg k1
              case measure => have := HK1.out; omega
              case rel => exact ⟨(wrap64 (x8_1 + 1)), EQ1, H', ⟨by have := HK1.out; omega⟩, ⟨BA⟩⟩
          · rw [if_neg c5] at H
            exact absurd H (by simp)
        · rw [if_neg c4] at H
          exact absurd H (by simp)
      · rw [if_neg c3] at H
        have c3b0 := decide_eq_false c3
        clear c3
        obtain rfl := Option.some.inj H
        go_wp2
        go_ret
        exact ⟨EQ, BA⟩

/-! ### slices_ContainsFunc_impl_Instr_impl_Instr__impl_IsCode_1: function 65 -/
def slices_ContainsFunc_impl_Instr_impl_Instr__impl_IsCode_1.f (k : Nat) (l0 : List (S80))  : Option (Bool) := (slices_IndexFunc_impl_Instr_impl_Instr__impl_IsCode_1.f k l0).bind fun t230 => (some (decide (t230 ≥ 0)))
theorem slices_ContainsFunc_impl_Instr_impl_Instr__impl_IsCode_1.mono : ∀ a0 k, LeO (slices_ContainsFunc_impl_Instr_impl_Instr__impl_IsCode_1.f k a0) (slices_ContainsFunc_impl_Instr_impl_Instr__impl_IsCode_1.f (k + 1) a0) := by
  intro a0 k
  unfold slices_ContainsFunc_impl_Instr_impl_Instr__impl_IsCode_1.f
  repeat' first | (with_reducible first | exact slices_IndexFunc_impl_Instr_impl_Instr__impl_IsCode_1.mono _ _ | exact LeO.refl _ | exact LeO.none _ | refine LeO.ite ?_ ?_ | refine LeO.bind ?_ (fun _ => ?_)) | exact LeO.none _ | refine LeO.ite ?_ ?_ | refine LeO.bind ?_ (fun _ => ?_)
set_option maxHeartbeats 8000000 in
set_option maxRecDepth 100000 in
theorem slices_ContainsFunc_impl_Instr_impl_Instr__impl_IsCode_1.calls (k : Nat) (A0 : Option Addr) (c0 : Nat) (l0 : List (S80))  (r : Bool) (w : World) (hr0 : Kd.C k80 w A0 l0.length l0) (hc0 : l0.length ≤ c0) (h : slices_ContainsFunc_impl_Instr_impl_Instr__impl_IsCode_1.f k l0 = some r) :
    Calls Try.prog 65 #[.slice A0 l0.length c0, .func (.func 111) #[] #[]] w fun e w' => e = .returned (.bool r) ∧ Below w.heap.size w w' := by
  have HR0 := Aside0.mk hr0
  have HC0 := Aside0.mk hc0
  clear hr0 hc0
  have HB := Aside0.mk (Below.refl w.heap.size w)
  have H : ((slices_IndexFunc_impl_Instr_impl_Instr__impl_IsCode_1.f k l0).bind fun t230 => (some (decide (t230 ≥ 0)))) = some r := h
  clear h
  replace H := Option.bind_eq_some_iff.mp H
  obtain ⟨t230, A30, H⟩ := H
  replace H : (some (decide (t230 ≥ 0))) = some r := H
  have A3 := Aside0.mk A30
  clear A30
  obtain rfl := Option.some.inj H
  go_enter Try.func65, Try.ntmps65
  go_wp2_with (first | ((with_reducible refine gate_callee (f := 113) rfl ?_); refine gK (some 7) Try.func113 #[.slice A0 l0.length c0, .func (.func 111) #[] #[]] rfl rfl rfl ?_; (with_reducible refine (slices_IndexFunc_impl_Instr_impl_Instr__impl_IsCode_1.calls k _ _ l0  t230 _ ?side1 ?side2 A3.out).mono ?_); (case side1 => exact cb HR0.out); (case side2 => exact HC0.out); rintro e w4 ⟨rfl, hb⟩; refine ⟨_, rfl, ?_⟩; replace HB := Aside0.mk (below_step BA hb); (try clear hb)))
  go_ret
  exact ⟨EQ, BA⟩

/-! ### impl_IsCode: function 63 -/
def impl_IsCode.f (k : Nat) (l0 : List (S80)) : Option (Bool) := if (l0.length : Int) ≤ 40 then ((slices_ContainsFunc_impl_Instr_impl_Instr__impl_IsCode_1.f k l0).bind fun t231 => (some (!t231))) else (some false)
theorem impl_IsCode.mono : ∀ a0 k, LeO (impl_IsCode.f k a0) (impl_IsCode.f (k + 1) a0) := by
  intro a0 k
  unfold impl_IsCode.f
  repeat' first | (with_reducible first | exact slices_ContainsFunc_impl_Instr_impl_Instr__impl_IsCode_1.mono _ _ | exact LeO.refl _ | exact LeO.none _ | refine LeO.ite ?_ ?_ | refine LeO.bind ?_ (fun _ => ?_)) | exact LeO.none _ | refine LeO.ite ?_ ?_ | refine LeO.bind ?_ (fun _ => ?_)
set_option maxHeartbeats 8000000 in
set_option maxRecDepth 100000 in
theorem impl_IsCode.calls (k : Nat) (A0 : Option Addr) (c0 : Nat) (l0 : List (S80)) (r : Bool) (w : World) (hr0 : Kd.C k80 w A0 l0.length l0) (hc0 : l0.length ≤ c0) (h : impl_IsCode.f k l0 = some r) :
    Calls Try.prog 63 #[.slice A0 l0.length c0] w fun e w' => e = .returned (.bool r) ∧ Below w.heap.size w w' := by
  have HR0 := Aside0.mk hr0
  have HC0 := Aside0.mk hc0
  clear hr0 hc0
  have HB := Aside0.mk (Below.refl w.heap.size w)
  have H : (if (l0.length : Int) ≤ 40 then ((slices_ContainsFunc_impl_Instr_impl_Instr__impl_IsCode_1.f k l0).bind fun t231 => (some (!t231))) else (some false)) = some r := h
  clear h
  by_cases c2 : (l0.length : Int) ≤ 40
  · rw [if_pos c2] at H
    have c2b0 := decide_eq_true c2
    have c2b1 : decide (l0.length ≤ 40) = true := decide_eq_true (by omega)
    clear c2
    replace H := Option.bind_eq_some_iff.mp H
    obtain ⟨t231, A30, H⟩ := H
    replace H : (some (!t231)) = some r := H
    have A3 := Aside0.mk A30
    clear A30
    obtain rfl := Option.some.inj H
    go_enter Try.func63, Try.ntmps63
    go_wp2_with (first | (go_at_call 65; (with_reducible refine (slices_ContainsFunc_impl_Instr_impl_Instr__impl_IsCode_1.calls k _ _ l0  t231 _ ?side1 ?side2 A3.out).mono ?_); (case side1 => exact cb HR0.out); (case side2 => exact HC0.out); rintro e w4 ⟨rfl, hb⟩; replace HB := Aside0.mk (below_step BA hb); (try clear hb)))
    go_ret
    exact ⟨EQ, BA⟩
  · rw [if_neg c2] at H
    have c2b0 := decide_eq_false c2
    have c2b1 : decide (l0.length ≤ 40) = false := decide_eq_false (by omega)
    clear c2
    obtain rfl := Option.some.inj H
    go_enter Try.func63, Try.ntmps63
    go_wp2
    go_ret
    exact ⟨EQ, BA⟩

/-! ### impl_bit: function 64 -/
def impl_bit.f (a0 : Bool) : Option (Int) := if a0 = true then (some 1) else (some 0)
set_option maxHeartbeats 8000000 in
set_option maxRecDepth 100000 in
theorem impl_bit.calls (a0 : Bool) (r : Int) (w : World) (h : impl_bit.f a0 = some r) :
    Calls Try.prog 64 #[.bool a0] w fun e w' => e = .returned (.int .i64 r) ∧ Drawn0 w w' := by
  have H : (if a0 = true then (some 1) else (some 0)) = some r := h
  clear h
  by_cases c2 : a0 = true
  · subst c2
    have H1 : (some 1) = some r := by rw [if_pos rfl] at H; exact H
    clear H
    have H := H1
    clear H1
    obtain rfl := Option.some.inj H
    go_enter Try.func64, Try.ntmps64
    go_wp2
    go_ret
    exact ⟨EQ1, DA⟩
  · replace c2 := Bool.eq_false_iff.mpr c2
    subst c2
    have H1 : (some 0) = some r := by rw [if_neg (show ¬ (false = true) by decide)] at H; exact H
    clear H
    have H := H1
    clear H1
    obtain rfl := Option.some.inj H
    go_enter Try.func64, Try.ntmps64
    go_wp2
    go_ret
    exact ⟨EQ1, DA⟩

/-! ### laws_eqInstr: function 67 -/
def laws_eqInstr.f (a0_0 : ByteArray) (a0_1 : Int) (a0_2 : Int) (a0_3 : Int) (a0_4 : Int) (a1_0 : ByteArray) (a1_1 : Int) (a1_2 : Int) (a1_3 : Int) (a1_4 : Int) : Option (Bool) := if a0_0.toList = a1_0.toList then (if a0_1 = a1_1 then (if a0_2 = a1_2 then (if a0_3 = a1_3 then (if a0_4 = a1_4 then (some true) else (some false)) else (some false)) else (some false)) else (some false)) else (some false)
set_option maxHeartbeats 8000000 in
set_option maxRecDepth 100000 in
theorem laws_eqInstr.calls (a0_0 : ByteArray) (a0_1 : Int) (a0_2 : Int) (a0_3 : Int) (a0_4 : Int) (a1_0 : ByteArray) (a1_1 : Int) (a1_2 : Int) (a1_3 : Int) (a1_4 : Int) (r : Bool) (w : World) (h : laws_eqInstr.f a0_0 a0_1 a0_2 a0_3 a0_4 a1_0 a1_1 a1_2 a1_3 a1_4 = some r) :
    Calls Try.prog 67 #[.agg #[.string a0_0, .int .i64 a0_1, .int .i64 a0_2, .int .i64 a0_3, .int .i64 a0_4], .agg #[.string a1_0, .int .i64 a1_1, .int .i64 a1_2, .int .i64 a1_3, .int .i64 a1_4]] w fun e w' => e = .returned (.bool r) ∧ Below w.heap.size w w' := by
  have hu80 := Try.underlying80
  have HB := Aside0.mk (Below.refl w.heap.size w)
  have H : (if a0_0.toList = a1_0.toList then (if a0_1 = a1_1 then (if a0_2 = a1_2 then (if a0_3 = a1_3 then (if a0_4 = a1_4 then (some true) else (some false)) else (some false)) else (some false)) else (some false)) else (some false)) = some r := h
  clear h
  by_cases c3 : a0_0.toList = a1_0.toList
  · rw [if_pos c3] at H
    have c3b0 := beq_iff_eq.mpr c3
    have c3b1 := bne_eq_false_iff_eq.mpr c3
    clear c3
    by_cases c4 : a0_1 = a1_1
    · rw [if_pos c4] at H
      have c4b0 := beq_iff_eq.mpr c4
      have c4b1 := bne_eq_false_iff_eq.mpr c4
      clear c4
      by_cases c5 : a0_2 = a1_2
      · rw [if_pos c5] at H
        have c5b0 := beq_iff_eq.mpr c5
        have c5b1 := bne_eq_false_iff_eq.mpr c5
        clear c5
        by_cases c6 : a0_3 = a1_3
        · rw [if_pos c6] at H
          have c6b0 := beq_iff_eq.mpr c6
          have c6b1 := bne_eq_false_iff_eq.mpr c6
          clear c6
          by_cases c7 : a0_4 = a1_4
          · rw [if_pos c7] at H
            have c7b0 := beq_iff_eq.mpr c7
            have c7b1 := bne_eq_false_iff_eq.mpr c7
            clear c7
            obtain rfl := Option.some.inj H
            go_enter Try.func67, Try.ntmps67
            go_wp2_with (first | ((with_reducible refine gate_dst (N := 2) rfl ?_); refine box_event ?hg (N := 2) ?hd (cs := #[.string a0_0, .int .i64 a0_1, .int .i64 a0_2, .int .i64 a0_3, .int .i64 a0_4]) (t := 80) ?hr ?_; (case hd => rfl); (case hg => rfl); (case hr => first | (go_simp; done) | (go_simp; rfl)); intro gb232 hg w8 hbox hb; have BK232 := Aside0.mk (hbox); have GW232 := Aside0.mk ((by rw [hg]; exact (below_size BA) : w.heap.size ≤ gb232)); have GE232 := Aside0.mk ((by rw [hg]; exact (below_size BA) : w.heap.size ≤ gb232)); replace HB := Aside0.mk (below_step BA hb); clear hb hbox hg) | ((with_reducible refine gate_dst (N := 3) rfl ?_); refine box_event ?hg (N := 3) ?hd (cs := #[.string a1_0, .int .i64 a1_1, .int .i64 a1_2, .int .i64 a1_3, .int .i64 a1_4]) (t := 80) ?hr ?_; (case hd => rfl); (case hg => rfl); (case hr => first | (go_simp; done) | (go_simp; rfl)); intro gb233 hg w9 hbox hb; have BK233 := Aside0.mk (hbox); have GW233 := Aside0.mk ((by rw [hg]; exact (below_size BA) : w.heap.size ≤ gb233)); have GE233 := Aside0.mk ((by rw [hg]; exact (below_size BA) : w.heap.size ≤ gb233)); replace HB := Aside0.mk (below_step BA hb); have NB232_233 := Aside0.mk ((by rw [hg]; exact Nat.ne_of_lt (blk_lt (g := gb232) (o := .cells #[.string a0_0, .int .i64 a0_1, .int .i64 a0_2, .int .i64 a0_3, .int .i64 a0_4] 80 (0, 0)) (bk BK232.out)) : gb232 ≠ gb233)); have NB233_232 := Aside0.mk ((by rw [hg]; exact Nat.ne_of_gt (blk_lt (g := gb232) (o := .cells #[.string a0_0, .int .i64 a0_1, .int .i64 a0_2, .int .i64 a0_3, .int .i64 a0_4] 80 (0, 0)) (bk BK232.out)) : gb233 ≠ gb232)); replace BK232 := Aside0.mk (blk_below (bk BK232.out) hb); clear hb hbox hg; have hnb10 := NB232_233.out; have hnc10 := NB233_232.out; have hcz11_0 := bcv BK232.out 0 (.string a0_0); have hcz11_1 := bcv BK232.out 1 (.int .i64 a0_1); have hcz11_2 := bcv BK232.out 2 (.int .i64 a0_2); have hcz11_3 := bcv BK232.out 3 (.int .i64 a0_3); have hcz11_4 := bcv BK232.out 4 (.int .i64 a0_4); have hfz11 := blk_frozen BK232.out; have hcz12_0 := bcv BK233.out 0 (.string a1_0); have hcz12_1 := bcv BK233.out 1 (.int .i64 a1_1); have hcz12_2 := bcv BK233.out 2 (.int .i64 a1_2); have hcz12_3 := bcv BK233.out 3 (.int .i64 a1_3); have hcz12_4 := bcv BK233.out 4 (.int .i64 a1_4); have hfz12 := blk_frozen BK233.out))
            go_ret
            exact ⟨EQ, BA⟩
          · rw [if_neg c7] at H
            have c7b0 := beq_eq_false_iff_ne.mpr c7
            have c7b1 := bne_iff_ne.mpr c7
            obtain rfl := Option.some.inj H
            go_enter Try.func67, Try.ntmps67
            go_wp2_with (first | ((with_reducible refine gate_dst (N := 2) rfl ?_); refine box_event ?hg (N := 2) ?hd (cs := #[.string a0_0, .int .i64 a0_1, .int .i64 a0_2, .int .i64 a0_3, .int .i64 a0_4]) (t := 80) ?hr ?_; (case hd => rfl); (case hg => rfl); (case hr => first | (go_simp; done) | (go_simp; rfl)); intro gb232 hg w13 hbox hb; have BK232 := Aside0.mk (hbox); have GW232 := Aside0.mk ((by rw [hg]; exact (below_size BA) : w.heap.size ≤ gb232)); have GE232 := Aside0.mk ((by rw [hg]; exact (below_size BA) : w.heap.size ≤ gb232)); replace HB := Aside0.mk (below_step BA hb); clear hb hbox hg) | ((with_reducible refine gate_dst (N := 3) rfl ?_); refine box_event ?hg (N := 3) ?hd (cs := #[.string a1_0, .int .i64 a1_1, .int .i64 a1_2, .int .i64 a1_3, .int .i64 a1_4]) (t := 80) ?hr ?_; (case hd => rfl); (case hg => rfl); (case hr => first | (go_simp; done) | (go_simp; rfl)); intro gb233 hg w14 hbox hb; have BK233 := Aside0.mk (hbox); have GW233 := Aside0.mk ((by rw [hg]; exact (below_size BA) : w.heap.size ≤ gb233)); have GE233 := Aside0.mk ((by rw [hg]; exact (below_size BA) : w.heap.size ≤ gb233)); replace HB := Aside0.mk (below_step BA hb); have NB232_233 := Aside0.mk ((by rw [hg]; exact Nat.ne_of_lt (blk_lt (g := gb232) (o := .cells #[.string a0_0, .int .i64 a0_1, .int .i64 a0_2, .int .i64 a0_3, .int .i64 a0_4] 80 (0, 0)) (bk BK232.out)) : gb232 ≠ gb233)); have NB233_232 := Aside0.mk ((by rw [hg]; exact Nat.ne_of_gt (blk_lt (g := gb232) (o := .cells #[.string a0_0, .int .i64 a0_1, .int .i64 a0_2, .int .i64 a0_3, .int .i64 a0_4] 80 (0, 0)) (bk BK232.out)) : gb233 ≠ gb232)); replace BK232 := Aside0.mk (blk_below (bk BK232.out) hb); clear hb hbox hg; have hnb15 := NB232_233.out; have hnc15 := NB233_232.out; have hcz16_0 := bcv BK232.out 0 (.string a0_0); have hcz16_1 := bcv BK232.out 1 (.int .i64 a0_1); have hcz16_2 := bcv BK232.out 2 (.int .i64 a0_2); have hcz16_3 := bcv BK232.out 3 (.int .i64 a0_3); have hcz16_4 := bcv BK232.out 4 (.int .i64 a0_4); have hfz16 := blk_frozen BK232.out; have hcz17_0 := bcv BK233.out 0 (.string a1_0); have hcz17_1 := bcv BK233.out 1 (.int .i64 a1_1); have hcz17_2 := bcv BK233.out 2 (.int .i64 a1_2); have hcz17_3 := bcv BK233.out 3 (.int .i64 a1_3); have hcz17_4 := bcv BK233.out 4 (.int .i64 a1_4); have hfz17 := blk_frozen BK233.out))
            go_ret
            exact ⟨EQ, BA⟩
        · rw [if_neg c6] at H
          have c6b0 := beq_eq_false_iff_ne.mpr c6
          have c6b1 := bne_iff_ne.mpr c6
          obtain rfl := Option.some.inj H
          go_enter Try.func67, Try.ntmps67
          go_wp2_with (first | ((with_reducible refine gate_dst (N := 2) rfl ?_); refine box_event ?hg (N := 2) ?hd (cs := #[.string a0_0, .int .i64 a0_1, .int .i64 a0_2, .int .i64 a0_3, .int .i64 a0_4]) (t := 80) ?hr ?_; (case hd => rfl); (case hg => rfl); (case hr => first | (go_simp; done) | (go_simp; rfl)); intro gb232 hg w18 hbox hb; have BK232 := Aside0.mk (hbox); have GW232 := Aside0.mk ((by rw [hg]; exact (below_size BA) : w.heap.size ≤ gb232)); have GE232 := Aside0.mk ((by rw [hg]; exact (below_size BA) : w.heap.size ≤ gb232)); replace HB := Aside0.mk (below_step BA hb); clear hb hbox hg) | ((with_reducible refine gate_dst (N := 3) rfl ?_); refine box_event ?hg (N := 3) ?hd (cs := #[.string a1_0, .int .i64 a1_1, .int .i64 a1_2, .int .i64 a1_3, .int .i64 a1_4]) (t := 80) ?hr ?_; (case hd => rfl); (case hg => rfl); (case hr => first | (go_simp; done) | (go_simp; rfl)); intro gb233 hg w19 hbox hb; have BK233 := Aside0.mk (hbox); have GW233 := Aside0.mk ((by rw [hg]; exact (below_size BA) : w.heap.size ≤ gb233)); have GE233 := Aside0.mk ((by rw [hg]; exact (below_size BA) : w.heap.size ≤ gb233)); replace HB := Aside0.mk (below_step BA hb); have NB232_233 := Aside0.mk ((by rw [hg]; exact Nat.ne_of_lt (blk_lt (g := gb232) (o := .cells #[.string a0_0, .int .i64 a0_1, .int .i64 a0_2, .int .i64 a0_3, .int .i64 a0_4] 80 (0, 0)) (bk BK232.out)) : gb232 ≠ gb233)); have NB233_232 := Aside0.mk ((by rw [hg]; exact Nat.ne_of_gt (blk_lt (g := gb232) (o := .cells #[.string a0_0, .int .i64 a0_1, .int .i64 a0_2, .int .i64 a0_3, .int .i64 a0_4] 80 (0, 0)) (bk BK232.out)) : gb233 ≠ gb232)); replace BK232 := Aside0.mk (blk_below (bk BK232.out) hb); clear hb hbox hg; have hnb20 := NB232_233.out; have hnc20 := NB233_232.out; have hcz21_0 := bcv BK232.out 0 (.string a0_0); have hcz21_1 := bcv BK232.out 1 (.int .i64 a0_1); have hcz21_2 := bcv BK232.out 2 (.int .i64 a0_2); have hcz21_3 := bcv BK232.out 3 (.int .i64 a0_3); have hcz21_4 := bcv BK232.out 4 (.int .i64 a0_4); have hfz21 := blk_frozen BK232.out; have hcz22_0 := bcv BK233.out 0 (.string a1_0); have hcz22_1 := bcv BK233.out 1 (.int .i64 a1_1); have hcz22_2 := bcv BK233.out 2 (.int .i64 a1_2); have hcz22_3 := bcv BK233.out 3 (.int .i64 a1_3); have hcz22_4 := bcv BK233.out 4 (.int .i64 a1_4); have hfz22 := blk_frozen BK233.out))
          go_ret
          exact ⟨EQ, BA⟩
      · rw [if_neg c5] at H
        have c5b0 := beq_eq_false_iff_ne.mpr c5
        have c5b1 := bne_iff_ne.mpr c5
        obtain rfl := Option.some.inj H
        go_enter Try.func67, Try.ntmps67
        go_wp2_with (first | ((with_reducible refine gate_dst (N := 2) rfl ?_); refine box_event ?hg (N := 2) ?hd (cs := #[.string a0_0, .int .i64 a0_1, .int .i64 a0_2, .int .i64 a0_3, .int .i64 a0_4]) (t := 80) ?hr ?_; (case hd => rfl); (case hg => rfl); (case hr => first | (go_simp; done) | (go_simp; rfl)); intro gb232 hg w23 hbox hb; have BK232 := Aside0.mk (hbox); have GW232 := Aside0.mk ((by rw [hg]; exact (below_size BA) : w.heap.size ≤ gb232)); have GE232 := Aside0.mk ((by rw [hg]; exact (below_size BA) : w.heap.size ≤ gb232)); replace HB := Aside0.mk (below_step BA hb); clear hb hbox hg) | ((with_reducible refine gate_dst (N := 3) rfl ?_); refine box_event ?hg (N := 3) ?hd (cs := #[.string a1_0, .int .i64 a1_1, .int .i64 a1_2, .int .i64 a1_3, .int .i64 a1_4]) (t := 80) ?hr ?_; (case hd => rfl); (case hg => rfl); (case hr => first | (go_simp; done) | (go_simp; rfl)); intro gb233 hg w24 hbox hb; have BK233 := Aside0.mk (hbox); have GW233 := Aside0.mk ((by rw [hg]; exact (below_size BA) : w.heap.size ≤ gb233)); have GE233 := Aside0.mk ((by rw [hg]; exact (below_size BA) : w.heap.size ≤ gb233)); replace HB := Aside0.mk (below_step BA hb); have NB232_233 := Aside0.mk ((by rw [hg]; exact Nat.ne_of_lt (blk_lt (g := gb232) (o := .cells #[.string a0_0, .int .i64 a0_1, .int .i64 a0_2, .int .i64 a0_3, .int .i64 a0_4] 80 (0, 0)) (bk BK232.out)) : gb232 ≠ gb233)); have NB233_232 := Aside0.mk ((by rw [hg]; exact Nat.ne_of_gt (blk_lt (g := gb232) (o := .cells #[.string a0_0, .int .i64 a0_1, .int .i64 a0_2, .int .i64 a0_3, .int .i64 a0_4] 80 (0, 0)) (bk BK232.out)) : gb233 ≠ gb232)); replace BK232 := Aside0.mk (blk_below (bk BK232.out) hb); clear hb hbox hg; have hnb25 := NB232_233.out; have hnc25 := NB233_232.out; have hcz26_0 := bcv BK232.out 0 (.string a0_0); have hcz26_1 := bcv BK232.out 1 (.int .i64 a0_1); have hcz26_2 := bcv BK232.out 2 (.int .i64 a0_2); have hcz26_3 := bcv BK232.out 3 (.int .i64 a0_3); have hcz26_4 := bcv BK232.out 4 (.int .i64 a0_4); have hfz26 := blk_frozen BK232.out; have hcz27_0 := bcv BK233.out 0 (.string a1_0); have hcz27_1 := bcv BK233.out 1 (.int .i64 a1_1); have hcz27_2 := bcv BK233.out 2 (.int .i64 a1_2); have hcz27_3 := bcv BK233.out 3 (.int .i64 a1_3); have hcz27_4 := bcv BK233.out 4 (.int .i64 a1_4); have hfz27 := blk_frozen BK233.out))
        go_ret
        exact ⟨EQ, BA⟩
    · rw [if_neg c4] at H
      have c4b0 := beq_eq_false_iff_ne.mpr c4
      have c4b1 := bne_iff_ne.mpr c4
      obtain rfl := Option.some.inj H
      go_enter Try.func67, Try.ntmps67
      go_wp2_with (first | ((with_reducible refine gate_dst (N := 2) rfl ?_); refine box_event ?hg (N := 2) ?hd (cs := #[.string a0_0, .int .i64 a0_1, .int .i64 a0_2, .int .i64 a0_3, .int .i64 a0_4]) (t := 80) ?hr ?_; (case hd => rfl); (case hg => rfl); (case hr => first | (go_simp; done) | (go_simp; rfl)); intro gb232 hg w28 hbox hb; have BK232 := Aside0.mk (hbox); have GW232 := Aside0.mk ((by rw [hg]; exact (below_size BA) : w.heap.size ≤ gb232)); have GE232 := Aside0.mk ((by rw [hg]; exact (below_size BA) : w.heap.size ≤ gb232)); replace HB := Aside0.mk (below_step BA hb); clear hb hbox hg) | ((with_reducible refine gate_dst (N := 3) rfl ?_); refine box_event ?hg (N := 3) ?hd (cs := #[.string a1_0, .int .i64 a1_1, .int .i64 a1_2, .int .i64 a1_3, .int .i64 a1_4]) (t := 80) ?hr ?_; (case hd => rfl); (case hg => rfl); (case hr => first | (go_simp; done) | (go_simp; rfl)); intro gb233 hg w29 hbox hb; have BK233 := Aside0.mk (hbox); have GW233 := Aside0.mk ((by rw [hg]; exact (below_size BA) : w.heap.size ≤ gb233)); have GE233 := Aside0.mk ((by rw [hg]; exact (below_size BA) : w.heap.size ≤ gb233)); replace HB := Aside0.mk (below_step BA hb); have NB232_233 := Aside0.mk ((by rw [hg]; exact Nat.ne_of_lt (blk_lt (g := gb232) (o := .cells #[.string a0_0, .int .i64 a0_1, .int .i64 a0_2, .int .i64 a0_3, .int .i64 a0_4] 80 (0, 0)) (bk BK232.out)) : gb232 ≠ gb233)); have NB233_232 := Aside0.mk ((by rw [hg]; exact Nat.ne_of_gt (blk_lt (g := gb232) (o := .cells #[.string a0_0, .int .i64 a0_1, .int .i64 a0_2, .int .i64 a0_3, .int .i64 a0_4] 80 (0, 0)) (bk BK232.out)) : gb233 ≠ gb232)); replace BK232 := Aside0.mk (blk_below (bk BK232.out) hb); clear hb hbox hg; have hnb30 := NB232_233.out; have hnc30 := NB233_232.out; have hcz31_0 := bcv BK232.out 0 (.string a0_0); have hcz31_1 := bcv BK232.out 1 (.int .i64 a0_1); have hcz31_2 := bcv BK232.out 2 (.int .i64 a0_2); have hcz31_3 := bcv BK232.out 3 (.int .i64 a0_3); have hcz31_4 := bcv BK232.out 4 (.int .i64 a0_4); have hfz31 := blk_frozen BK232.out; have hcz32_0 := bcv BK233.out 0 (.string a1_0); have hcz32_1 := bcv BK233.out 1 (.int .i64 a1_1); have hcz32_2 := bcv BK233.out 2 (.int .i64 a1_2); have hcz32_3 := bcv BK233.out 3 (.int .i64 a1_3); have hcz32_4 := bcv BK233.out 4 (.int .i64 a1_4); have hfz32 := blk_frozen BK233.out))
      go_ret
      exact ⟨EQ, BA⟩
  · rw [if_neg c3] at H
    have c3b0 := beq_eq_false_iff_ne.mpr c3
    have c3b1 := bne_iff_ne.mpr c3
    obtain rfl := Option.some.inj H
    go_enter Try.func67, Try.ntmps67
    go_wp2_with (first | ((with_reducible refine gate_dst (N := 2) rfl ?_); refine box_event ?hg (N := 2) ?hd (cs := #[.string a0_0, .int .i64 a0_1, .int .i64 a0_2, .int .i64 a0_3, .int .i64 a0_4]) (t := 80) ?hr ?_; (case hd => rfl); (case hg => rfl); (case hr => first | (go_simp; done) | (go_simp; rfl)); intro gb232 hg w33 hbox hb; have BK232 := Aside0.mk (hbox); have GW232 := Aside0.mk ((by rw [hg]; exact (below_size BA) : w.heap.size ≤ gb232)); have GE232 := Aside0.mk ((by rw [hg]; exact (below_size BA) : w.heap.size ≤ gb232)); replace HB := Aside0.mk (below_step BA hb); clear hb hbox hg) | ((with_reducible refine gate_dst (N := 3) rfl ?_); refine box_event ?hg (N := 3) ?hd (cs := #[.string a1_0, .int .i64 a1_1, .int .i64 a1_2, .int .i64 a1_3, .int .i64 a1_4]) (t := 80) ?hr ?_; (case hd => rfl); (case hg => rfl); (case hr => first | (go_simp; done) | (go_simp; rfl)); intro gb233 hg w34 hbox hb; have BK233 := Aside0.mk (hbox); have GW233 := Aside0.mk ((by rw [hg]; exact (below_size BA) : w.heap.size ≤ gb233)); have GE233 := Aside0.mk ((by rw [hg]; exact (below_size BA) : w.heap.size ≤ gb233)); replace HB := Aside0.mk (below_step BA hb); have NB232_233 := Aside0.mk ((by rw [hg]; exact Nat.ne_of_lt (blk_lt (g := gb232) (o := .cells #[.string a0_0, .int .i64 a0_1, .int .i64 a0_2, .int .i64 a0_3, .int .i64 a0_4] 80 (0, 0)) (bk BK232.out)) : gb232 ≠ gb233)); have NB233_232 := Aside0.mk ((by rw [hg]; exact Nat.ne_of_gt (blk_lt (g := gb232) (o := .cells #[.string a0_0, .int .i64 a0_1, .int .i64 a0_2, .int .i64 a0_3, .int .i64 a0_4] 80 (0, 0)) (bk BK232.out)) : gb233 ≠ gb232)); replace BK232 := Aside0.mk (blk_below (bk BK232.out) hb); clear hb hbox hg; have hnb35 := NB232_233.out; have hnc35 := NB233_232.out; have hcz36_0 := bcv BK232.out 0 (.string a0_0); have hcz36_1 := bcv BK232.out 1 (.int .i64 a0_1); have hcz36_2 := bcv BK232.out 2 (.int .i64 a0_2); have hcz36_3 := bcv BK232.out 3 (.int .i64 a0_3); have hcz36_4 := bcv BK232.out 4 (.int .i64 a0_4); have hfz36 := blk_frozen BK232.out; have hcz37_0 := bcv BK233.out 0 (.string a1_0); have hcz37_1 := bcv BK233.out 1 (.int .i64 a1_1); have hcz37_2 := bcv BK233.out 2 (.int .i64 a1_2); have hcz37_3 := bcv BK233.out 3 (.int .i64 a1_3); have hcz37_4 := bcv BK233.out 4 (.int .i64 a1_4); have hfz37 := blk_frozen BK233.out))
    go_ret
    exact ⟨EQ, BA⟩

/-! ### laws_eqInstrS: function 20 -/
def laws_eqInstrS.l0 : Nat → List (S80) → List (S80) → Int → Option (Bool)
  | 0, _, _, _ => none
  | k + 1, x0, x1, x5 => if x5 < (x0.length : Int) then (if 0 ≤ x5 then (if x5 < (x1.length : Int) then ((laws_eqInstr.f ((rd_T80 x0 x5).f0) ((rd_T80 x0 x5).f1) ((rd_T80 x0 x5).f2) ((rd_T80 x0 x5).f3) ((rd_T80 x0 x5).f4) ((rd_T80 x1 x5).f0) ((rd_T80 x1 x5).f1) ((rd_T80 x1 x5).f2) ((rd_T80 x1 x5).f3) ((rd_T80 x1 x5).f4)).bind fun t236 => (if t236 = true then (laws_eqInstrS.l0 k x0 x1 (wrap64 (x5 + 1))) else (some false))) else (none)) else (none)) else (some true)
def laws_eqInstrS.f (k : Nat) (l0 : List (S80)) (l1 : List (S80)) : Option (Bool) := if (l0.length : Int) = (l1.length : Int) then (laws_eqInstrS.l0 k l0 l1 0) else (some false)
theorem laws_eqInstrS.mono_l : ∀ k, (∀ y0 y1 y2, LeO (laws_eqInstrS.l0 k y0 y1 y2) (laws_eqInstrS.l0 (k + 1) y0 y1 y2))
  | 0 => fun _ _ _ r h => by simp [laws_eqInstrS.l0] at h
  | k + 1 => by
    have ih0 := laws_eqInstrS.mono_l k
    · intro y0 y1 y2
      unfold laws_eqInstrS.l0
      repeat' first | (with_reducible first | exact ih0 _ _ _ | exact LeO.refl _ | exact LeO.none _ | refine LeO.ite ?_ ?_ | refine LeO.bind ?_ (fun _ => ?_)) | exact LeO.none _ | refine LeO.ite ?_ ?_ | refine LeO.bind ?_ (fun _ => ?_)
theorem laws_eqInstrS.mono : ∀ a0 a1 k, LeO (laws_eqInstrS.f k a0 a1) (laws_eqInstrS.f (k + 1) a0 a1) := by
  intro a0 a1 k
  have ih0 := laws_eqInstrS.mono_l k
  unfold laws_eqInstrS.f
  repeat' first | (with_reducible first | exact ih0 _ _ _ | exact LeO.refl _ | exact LeO.none _ | refine LeO.ite ?_ ?_ | refine LeO.bind ?_ (fun _ => ?_)) | exact LeO.none _ | refine LeO.ite ?_ ?_ | refine LeO.bind ?_ (fun _ => ?_)
def laws_eqInstrS.T6 : Bool × List (List Nat × List Nat) := (true, [([], []), ([], []), ([0, 1], [0, 1]), ([2], [2]), ([], []), ([], []), ([4, 5], [4, 5]), ([6], [6]), ([3, 7], [3, 7]), ([8], [8])])
def laws_eqInstrS.B6 : List Nat := [0, 0, 3, 7, 0, 0, 48, 112, 255, 511]
theorem laws_eqInstrS.tab6 : rtab .any (opsOf Try.f20 6) = laws_eqInstrS.T6 := by kernel_rfl
theorem laws_eqInstrS.bits6 : waitsOk laws_eqInstrS.T6.2 laws_eqInstrS.B6 = true := by kernel_rfl
set_option maxHeartbeats 8000000 in
set_option maxRecDepth 100000 in
theorem laws_eqInstrS.calls (k : Nat) (A0 : Option Addr) (c0 : Nat) (l0 : List (S80)) (A1 : Option Addr) (c1 : Nat) (l1 : List (S80)) (r : Bool) (w : World) (hr0 : Kd.C k80 w A0 l0.length l0) (hc0 : l0.length ≤ c0) (hr1 : Kd.C k80 w A1 l1.length l1) (hc1 : l1.length ≤ c1) (h : laws_eqInstrS.f k l0 l1 = some r) :
    Calls Try.prog 20 #[.slice A0 l0.length c0, .slice A1 l1.length c1] w fun e w' => e = .returned (.bool r) ∧ Below w.heap.size w w' := by
  have hu80 := Try.underlying80
  have HR0 := Aside0.mk hr0
  have HC0 := Aside0.mk hc0
  clear hr0 hc0
  have HR1 := Aside0.mk hr1
  have HC1 := Aside0.mk hc1
  clear hr1 hc1
  have HB := Aside0.mk (Below.refl w.heap.size w)
  have H : (if (l0.length : Int) = (l1.length : Int) then (laws_eqInstrS.l0 k l0 l1 0) else (some false)) = some r := h
  clear h
  by_cases c3 : (l0.length : Int) = (l1.length : Int)
  · rw [if_pos c3] at H
    have c3b0 := beq_iff_eq.mpr c3
    have c3b1 := bne_eq_false_iff_eq.mpr c3
    have c3b2 : (l0.length == l1.length) = true := by first | simpa using c3 | (simp at c3 ⊢; omega)
    clear c3
    have H' := Aside0.mk H
    clear H
    go_enter Try.func20, Try.ntmps20
    go_wp2
    go_loopg [5] k (fun kq v5 w' => ∃ (x5_1 : Int), v5 = .int .i64 x5_1 ∧ Aside0 (laws_eqInstrS.l0 kq l0 l1 x5_1 = some r) ∧ Aside0 (kq ≤ k) ∧ Aside0 (Below w.heap.size w w'))
    case atStart => exact ⟨(0), EQ1, H', ⟨Nat.le_refl _⟩, ⟨BA⟩⟩
    case round =>
      clear H'
      (try clear c1); (try clear c2); (try clear p2); (try clear c3); (try clear c3b0); (try clear c3b1); (try clear c3b2)
      obtain ⟨x5_1, rfl, HA, HK1, HB⟩ := hrel
      cases gk with
      | zero => exact absurd HA.out (by simp [laws_eqInstrS.l0])
      | succ k1 =>
        have H := HA.out
        clear HA
        simp only [laws_eqInstrS.l0] at H
        by_cases c4 : x5_1 < (l0.length : Int)
        · rw [if_pos c4] at H
          have c4b0 := decide_eq_true c4
          clear c4
          by_cases c5 : 0 ≤ x5_1
          · rw [if_pos c5] at H
            have c5b0 := decide_eq_true c5
            clear c5
            by_cases c6 : x5_1 < (l1.length : Int)
            · rw [if_pos c6] at H
              have c6b0 := decide_eq_true c6
              clear c6
              replace H := Option.bind_eq_some_iff.mp H
              obtain ⟨t236, A70, H⟩ := H
              replace H : (if t236 = true then (laws_eqInstrS.l0 k1 l0 l1 (wrap64 (x5_1 + 1))) else (some false)) = some r := H
              have A7 := Aside0.mk A70
              clear A70
              by_cases c8 : t236 = true
              · subst c8
                have H1 : (laws_eqInstrS.l0 k1 l0 l1 (wrap64 (x5_1 + 1))) = some r := by rw [if_pos rfl] at H; exact H
                clear H
                have H := H1
                clear H1
                have H' := Aside0.mk H
                clear H
                try go_wp2
                have n0_ := Aside0.mk (below_drew1 HB.out)
                clear HB
                have HB := n0_
                clear n0_
                have p234 : 0 ≤ (x5_1 : Int) := DT
                have q234 : x5_1 < (l0.length : Int) := DT
                obtain ⟨ad234, e234, hx234_0, hx234_1, hx234_2, hx234_3, hx234_4⟩ := at_T80 HR0.out x5_1 p234 q234
                have hw234_4 := hx234_4
                have hw234_3 := hx234_3
                have hw234_2 := hx234_2
                have hw234_1 := hx234_1
                have hw234_0 := hx234_0
                cases e234
                replace hx234_0 := (HB.out.cell (World.block_lt_of_cell? w _ hx234_0)).trans hx234_0
                replace hx234_1 := (HB.out.cell (World.block_lt_of_cell? w _ hx234_1)).trans hx234_1
                replace hx234_2 := (HB.out.cell (World.block_lt_of_cell? w _ hx234_2)).trans hx234_2
                replace hx234_3 := (HB.out.cell (World.block_lt_of_cell? w _ hx234_3)).trans hx234_3
                replace hx234_4 := (HB.out.cell (World.block_lt_of_cell? w _ hx234_4)).trans hx234_4
                replace p234 := eq_true p234
                replace q234 := eq_true q234
                have p235 : 0 ≤ (x5_1 : Int) := DT
                have q235 : x5_1 < (l1.length : Int) := DT
                obtain ⟨ad235, e235, hx235_0, hx235_1, hx235_2, hx235_3, hx235_4⟩ := at_T80 HR1.out x5_1 p235 q235
                have hw235_4 := hx235_4
                have hw235_3 := hx235_3
                have hw235_2 := hx235_2
                have hw235_1 := hx235_1
                have hw235_0 := hx235_0
                cases e235
                replace hx235_0 := (HB.out.cell (World.block_lt_of_cell? w _ hx235_0)).trans hx235_0
                replace hx235_1 := (HB.out.cell (World.block_lt_of_cell? w _ hx235_1)).trans hx235_1
                replace hx235_2 := (HB.out.cell (World.block_lt_of_cell? w _ hx235_2)).trans hx235_2
                replace hx235_3 := (HB.out.cell (World.block_lt_of_cell? w _ hx235_3)).trans hx235_3
                replace hx235_4 := (HB.out.cell (World.block_lt_of_cell? w _ hx235_4)).trans hx235_4
                replace p235 := eq_true p235
                replace q235 := eq_true q235
                refine start_ (n := 10) (S := fun w' => w'.cell? (ad234.add ((x5_1).toNat * 5)) = some (.string ((rd_T80 l0 x5_1).f0)) ∧ w'.cell? ⟨(ad234.add ((x5_1).toNat * 5)).block, (ad234.add ((x5_1).toNat * 5)).off + 1, none⟩ = some (.int .i64 ((rd_T80 l0 x5_1).f1)) ∧ w'.cell? ⟨(ad234.add ((x5_1).toNat * 5)).block, (ad234.add ((x5_1).toNat * 5)).off + 2, none⟩ = some (.int .i64 ((rd_T80 l0 x5_1).f2)) ∧ w'.cell? ⟨(ad234.add ((x5_1).toNat * 5)).block, (ad234.add ((x5_1).toNat * 5)).off + 3, none⟩ = some (.int .i64 ((rd_T80 l0 x5_1).f3)) ∧ w'.cell? ⟨(ad234.add ((x5_1).toNat * 5)).block, (ad234.add ((x5_1).toNat * 5)).off + 4, none⟩ = some (.int .i64 ((rd_T80 l0 x5_1).f4)) ∧ w'.cell? (ad235.add ((x5_1).toNat * 5)) = some (.string ((rd_T80 l1 x5_1).f0)) ∧ w'.cell? ⟨(ad235.add ((x5_1).toNat * 5)).block, (ad235.add ((x5_1).toNat * 5)).off + 1, none⟩ = some (.int .i64 ((rd_T80 l1 x5_1).f1)) ∧ w'.cell? ⟨(ad235.add ((x5_1).toNat * 5)).block, (ad235.add ((x5_1).toNat * 5)).off + 2, none⟩ = some (.int .i64 ((rd_T80 l1 x5_1).f2)) ∧ w'.cell? ⟨(ad235.add ((x5_1).toNat * 5)).block, (ad235.add ((x5_1).toNat * 5)).off + 3, none⟩ = some (.int .i64 ((rd_T80 l1 x5_1).f3)) ∧ w'.cell? ⟨(ad235.add ((x5_1).toNat * 5)).block, (ad235.add ((x5_1).toNat * 5)).off + 4, none⟩ = some (.int .i64 ((rd_T80 l1 x5_1).f4))) (ds := []) #[false, false, false, false, false, false, false, false, false, false] (by kernel_rfl) rfl rfl ⟨((HB.out.cell (World.block_lt_of_cell? w _ hw234_0)).trans hw234_0), ((HB.out.cell (World.block_lt_of_cell? w _ hw234_1)).trans hw234_1), ((HB.out.cell (World.block_lt_of_cell? w _ hw234_2)).trans hw234_2), ((HB.out.cell (World.block_lt_of_cell? w _ hw234_3)).trans hw234_3), ((HB.out.cell (World.block_lt_of_cell? w _ hw234_4)).trans hw234_4), ((HB.out.cell (World.block_lt_of_cell? w _ hw235_0)).trans hw235_0), ((HB.out.cell (World.block_lt_of_cell? w _ hw235_1)).trans hw235_1), ((HB.out.cell (World.block_lt_of_cell? w _ hw235_2)).trans hw235_2), ((HB.out.cell (World.block_lt_of_cell? w _ hw235_3)).trans hw235_3), ((HB.out.cell (World.block_lt_of_cell? w _ hw235_4)).trans hw235_4)⟩ (fun hHeld => ?_); refine with_tabW laws_eqInstrS.tab6 laws_eqInstrS.bits6 (fun HT_ HW_ => ?_)
                generalize wr.drew = w9 at HB hx234_0 hx234_1 hx234_2 hx234_3 hx234_4 hx235_0 hx235_1 hx235_2 hx235_3 hx235_4 hHeld ⊢
                refine pure_ (i := 0) (N := some 17) (v := ?_) (a' := ?_) #[true, false, false, false, false, false, false, false, false, false] rfl rfl (any_of HT_.out (by kernel_rfl)) (fun _ _ _ h => h) (Or.inl ⟨by rfl, ?_⟩) ?_ ?_
                rotate_left
                · intro w'
                  go_simp
                  with_reducible rfl
                rotate_left
                · simp only [Act.put, List.setIfInBounds_toArray, List.set_cons_zero, List.set_cons_succ, i64_w, i32_w]
                  rfl
                refine pure_ (i := 1) (N := some 18) (v := ?_) (a' := ?_) #[true, true, false, false, false, false, false, false, false, false] rfl rfl (any_of HT_.out (by kernel_rfl)) (fun _ _ _ h => h) (Or.inl ⟨by rfl, ?_⟩) ?_ ?_
                rotate_left
                · intro w'
                  go_simp
                  with_reducible rfl
                rotate_left
                · simp only [Act.put, List.setIfInBounds_toArray, List.set_cons_zero, List.set_cons_succ, i64_w, i32_w]
                  rfl
                refine pure_ (i := 2) (N := some 19) (v := ?_) (a' := ?_) #[true, true, true, false, false, false, false, false, false, false] rfl rfl (any_of HT_.out (by kernel_rfl)) (fun _ _ _ h => h) (Or.inl ⟨by rfl, ?_⟩) ?_ ?_
                rotate_left
                · intro w'
                  go_simp
                  with_reducible rfl
                rotate_left
                · simp only [Act.put, List.setIfInBounds_toArray, List.set_cons_zero, List.set_cons_succ, i64_w, i32_w]
                  rfl
                refine pure_ (i := 4) (N := some 21) (v := ?_) (a' := ?_) #[true, true, true, false, true, false, false, false, false, false] rfl rfl (any_of HT_.out (by kernel_rfl)) (fun _ _ _ h => h) (Or.inl ⟨by rfl, ?_⟩) ?_ ?_
                rotate_left
                · intro w'
                  go_simp
                  with_reducible rfl
                rotate_left
                · simp only [Act.put, List.setIfInBounds_toArray, List.set_cons_zero, List.set_cons_succ, i64_w, i32_w]
                  rfl
                refine pure_ (i := 5) (N := some 22) (v := ?_) (a' := ?_) #[true, true, true, false, true, true, false, false, false, false] rfl rfl (any_of HT_.out (by kernel_rfl)) (fun _ _ _ h => h) (Or.inl ⟨by rfl, ?_⟩) ?_ ?_
                rotate_left
                · intro w'
                  go_simp
                  with_reducible rfl
                rotate_left
                · simp only [Act.put, List.setIfInBounds_toArray, List.set_cons_zero, List.set_cons_succ, i64_w, i32_w]
                  rfl
                refine pure_ (i := 6) (N := some 23) (v := ?_) (a' := ?_) #[true, true, true, false, true, true, true, false, false, false] rfl rfl (any_of HT_.out (by kernel_rfl)) (fun _ _ _ h => h) (Or.inl ⟨by rfl, ?_⟩) ?_ ?_
                rotate_left
                · intro w'
                  go_simp
                  with_reducible rfl
                rotate_left
                · simp only [Act.put, List.setIfInBounds_toArray, List.set_cons_zero, List.set_cons_succ, i64_w, i32_w]
                  rfl
                refine take_ (i := 3) (N := some 20) (v := ?_) (a' := ?_) #[true, true, true, true, true, true, true, false, false, false] rfl rfl (take_ofW HT_.out HW_.out (by kernel_rfl)) (fun _ _ _ h => h) (Or.inl ⟨by rfl, ?_⟩) hHeld ?_ ?_
                rotate_left
                · rintro w' ⟨s0, s1, s2, s3, s4, s5, s6, s7, s8, s9⟩
                  go_simp
                  with_reducible rfl
                rotate_left
                · simp only [Act.put, List.setIfInBounds_toArray, List.set_cons_zero, List.set_cons_succ, i64_w, i32_w]
                  rfl
                refine take_ (i := 7) (N := some 24) (v := ?_) (a' := ?_) #[true, true, true, true, true, true, true, true, false, false] rfl rfl (take_ofW HT_.out HW_.out (by kernel_rfl)) (fun _ _ _ h => h) (Or.inl ⟨by rfl, ?_⟩) hHeld ?_ ?_
                rotate_left
                · rintro w' ⟨s0, s1, s2, s3, s4, s5, s6, s7, s8, s9⟩
                  go_simp
                  with_reducible rfl
                rotate_left
                · simp only [Act.put, List.setIfInBounds_toArray, List.set_cons_zero, List.set_cons_succ, i64_w, i32_w]
                  rfl
                refine one_ (i := 8) (N := some 25) #[true, true, true, true, true, true, true, true, true, false] rfl rfl (one_of HT_.out (by kernel_rfl)) (by decide) (fun K hK => ?_)
                refine goes_ Try.func67 (by kernel_rfl) rfl #[.agg #[.string ((rd_T80 l0 x5_1).f0), .int .i64 ((rd_T80 l0 x5_1).f1), .int .i64 ((rd_T80 l0 x5_1).f2), .int .i64 ((rd_T80 l0 x5_1).f3), .int .i64 ((rd_T80 l0 x5_1).f4)], .agg #[.string ((rd_T80 l1 x5_1).f0), .int .i64 ((rd_T80 l1 x5_1).f1), .int .i64 ((rd_T80 l1 x5_1).f2), .int .i64 ((rd_T80 l1 x5_1).f3), .int .i64 ((rd_T80 l1 x5_1).f4)]] (by rfl) rfl rfl (by (try simp only [List.map_toArray, List.map_cons, List.map_nil]); first | done | rfl | (simp only [List.length_drop, List.length_take]; rfl)) ?_
                with_reducible refine (laws_eqInstr.calls ((rd_T80 l0 x5_1).f0) ((rd_T80 l0 x5_1).f1) ((rd_T80 l0 x5_1).f2) ((rd_T80 l0 x5_1).f3) ((rd_T80 l0 x5_1).f4) ((rd_T80 l1 x5_1).f0) ((rd_T80 l1 x5_1).f1) ((rd_T80 l1 x5_1).f2) ((rd_T80 l1 x5_1).f3) ((rd_T80 l1 x5_1).f4) true _ A7.out).mono ?_
                rintro e w10 ⟨rfl, hb⟩
                refine ⟨_, rfl, ?_⟩
                have n0_ := Aside0.mk (below_step BA hb)
                clear HB
                have HB := n0_
                clear n0_
                (try clear hb)
                (try clear hb2)
                (try clear hk)
                (try clear hi)
                refine hK.out _ _ ⟨((HB.out.cell (World.block_lt_of_cell? w _ hw234_0)).trans hw234_0), ((HB.out.cell (World.block_lt_of_cell? w _ hw234_1)).trans hw234_1), ((HB.out.cell (World.block_lt_of_cell? w _ hw234_2)).trans hw234_2), ((HB.out.cell (World.block_lt_of_cell? w _ hw234_3)).trans hw234_3), ((HB.out.cell (World.block_lt_of_cell? w _ hw234_4)).trans hw234_4), ((HB.out.cell (World.block_lt_of_cell? w _ hw235_0)).trans hw235_0), ((HB.out.cell (World.block_lt_of_cell? w _ hw235_1)).trans hw235_1), ((HB.out.cell (World.block_lt_of_cell? w _ hw235_2)).trans hw235_2), ((HB.out.cell (World.block_lt_of_cell? w _ hw235_3)).trans hw235_3), ((HB.out.cell (World.block_lt_of_cell? w _ hw235_4)).trans hw235_4)⟩ (fun hHeld => ?_)
                clear hK K
                refine norm_ (a' := ?_) ?_ ?_
                rotate_left
                · show Act.put _ (some 25) _ = _
                  simp only [Act.put, List.setIfInBounds_toArray, List.set_cons_zero, List.set_cons_succ, i64_w, i32_w]
                  rfl
                refine pure_ (i := 9) (N := some 26) (v := ?_) (a' := ?_) #[true, true, true, true, true, true, true, true, true, true] rfl rfl (any_of HT_.out (by kernel_rfl)) (fun _ _ _ h => h) (Or.inl ⟨by rfl, ?_⟩) ?_ ?_
                rotate_left
                · intro w'
                  go_simp
                  with_reducible rfl
                rotate_left
                · simp only [Act.put, List.setIfInBounds_toArray, List.set_cons_zero, List.set_cons_succ, i64_w, i32_w]
                  rfl
                refine done_ (done_of HT_.out (by kernel_rfl)) ?_
                try go_wp2
                go_roundg k1
                case measure => have := HK1.out; omega
                case rel => exact ⟨(wrap64 (x5_1 + 1)), EQ1, H', ⟨by have := HK1.out; omega⟩, ⟨BA⟩⟩
              · replace c8 := Bool.eq_false_iff.mpr c8
                subst c8
                have H1 : (some false) = some r := by rw [if_neg (show ¬ (false = true) by decide)] at H; exact H
                clear H
                have H := H1
                clear H1
                obtain rfl := Option.some.inj H
                try go_wp2
                have n0_ := Aside0.mk (below_drew1 HB.out)
                clear HB
                have HB := n0_
                clear n0_
                have p234 : 0 ≤ (x5_1 : Int) := DT
                have q234 : x5_1 < (l0.length : Int) := DT
                obtain ⟨ad234, e234, hx234_0, hx234_1, hx234_2, hx234_3, hx234_4⟩ := at_T80 HR0.out x5_1 p234 q234
                have hw234_4 := hx234_4
                have hw234_3 := hx234_3
                have hw234_2 := hx234_2
                have hw234_1 := hx234_1
                have hw234_0 := hx234_0
                cases e234
                replace hx234_0 := (HB.out.cell (World.block_lt_of_cell? w _ hx234_0)).trans hx234_0
                replace hx234_1 := (HB.out.cell (World.block_lt_of_cell? w _ hx234_1)).trans hx234_1
                replace hx234_2 := (HB.out.cell (World.block_lt_of_cell? w _ hx234_2)).trans hx234_2
                replace hx234_3 := (HB.out.cell (World.block_lt_of_cell? w _ hx234_3)).trans hx234_3
                replace hx234_4 := (HB.out.cell (World.block_lt_of_cell? w _ hx234_4)).trans hx234_4
                replace p234 := eq_true p234
                replace q234 := eq_true q234
                have p235 : 0 ≤ (x5_1 : Int) := DT
                have q235 : x5_1 < (l1.length : Int) := DT
                obtain ⟨ad235, e235, hx235_0, hx235_1, hx235_2, hx235_3, hx235_4⟩ := at_T80 HR1.out x5_1 p235 q235
                have hw235_4 := hx235_4
                have hw235_3 := hx235_3
                have hw235_2 := hx235_2
                have hw235_1 := hx235_1
                have hw235_0 := hx235_0
                cases e235
                replace hx235_0 := (HB.out.cell (World.block_lt_of_cell? w _ hx235_0)).trans hx235_0
                replace hx235_1 := (HB.out.cell (World.block_lt_of_cell? w _ hx235_1)).trans hx235_1
                replace hx235_2 := (HB.out.cell (World.block_lt_of_cell? w _ hx235_2)).trans hx235_2
                replace hx235_3 := (HB.out.cell (World.block_lt_of_cell? w _ hx235_3)).trans hx235_3
                replace hx235_4 := (HB.out.cell (World.block_lt_of_cell? w _ hx235_4)).trans hx235_4
                replace p235 := eq_true p235
                replace q235 := eq_true q235
                refine start_ (n := 10) (S := fun w' => w'.cell? (ad234.add ((x5_1).toNat * 5)) = some (.string ((rd_T80 l0 x5_1).f0)) ∧ w'.cell? ⟨(ad234.add ((x5_1).toNat * 5)).block, (ad234.add ((x5_1).toNat * 5)).off + 1, none⟩ = some (.int .i64 ((rd_T80 l0 x5_1).f1)) ∧ w'.cell? ⟨(ad234.add ((x5_1).toNat * 5)).block, (ad234.add ((x5_1).toNat * 5)).off + 2, none⟩ = some (.int .i64 ((rd_T80 l0 x5_1).f2)) ∧ w'.cell? ⟨(ad234.add ((x5_1).toNat * 5)).block, (ad234.add ((x5_1).toNat * 5)).off + 3, none⟩ = some (.int .i64 ((rd_T80 l0 x5_1).f3)) ∧ w'.cell? ⟨(ad234.add ((x5_1).toNat * 5)).block, (ad234.add ((x5_1).toNat * 5)).off + 4, none⟩ = some (.int .i64 ((rd_T80 l0 x5_1).f4)) ∧ w'.cell? (ad235.add ((x5_1).toNat * 5)) = some (.string ((rd_T80 l1 x5_1).f0)) ∧ w'.cell? ⟨(ad235.add ((x5_1).toNat * 5)).block, (ad235.add ((x5_1).toNat * 5)).off + 1, none⟩ = some (.int .i64 ((rd_T80 l1 x5_1).f1)) ∧ w'.cell? ⟨(ad235.add ((x5_1).toNat * 5)).block, (ad235.add ((x5_1).toNat * 5)).off + 2, none⟩ = some (.int .i64 ((rd_T80 l1 x5_1).f2)) ∧ w'.cell? ⟨(ad235.add ((x5_1).toNat * 5)).block, (ad235.add ((x5_1).toNat * 5)).off + 3, none⟩ = some (.int .i64 ((rd_T80 l1 x5_1).f3)) ∧ w'.cell? ⟨(ad235.add ((x5_1).toNat * 5)).block, (ad235.add ((x5_1).toNat * 5)).off + 4, none⟩ = some (.int .i64 ((rd_T80 l1 x5_1).f4))) (ds := []) #[false, false, false, false, false, false, false, false, false, false] (by kernel_rfl) rfl rfl ⟨((HB.out.cell (World.block_lt_of_cell? w _ hw234_0)).trans hw234_0), ((HB.out.cell (World.block_lt_of_cell? w _ hw234_1)).trans hw234_1), ((HB.out.cell (World.block_lt_of_cell? w _ hw234_2)).trans hw234_2), ((HB.out.cell (World.block_lt_of_cell? w _ hw234_3)).trans hw234_3), ((HB.out.cell (World.block_lt_of_cell? w _ hw234_4)).trans hw234_4), ((HB.out.cell (World.block_lt_of_cell? w _ hw235_0)).trans hw235_0), ((HB.out.cell (World.block_lt_of_cell? w _ hw235_1)).trans hw235_1), ((HB.out.cell (World.block_lt_of_cell? w _ hw235_2)).trans hw235_2), ((HB.out.cell (World.block_lt_of_cell? w _ hw235_3)).trans hw235_3), ((HB.out.cell (World.block_lt_of_cell? w _ hw235_4)).trans hw235_4)⟩ (fun hHeld => ?_); refine with_tabW laws_eqInstrS.tab6 laws_eqInstrS.bits6 (fun HT_ HW_ => ?_)
                generalize wr.drew = w11 at HB hx234_0 hx234_1 hx234_2 hx234_3 hx234_4 hx235_0 hx235_1 hx235_2 hx235_3 hx235_4 hHeld ⊢
                refine pure_ (i := 0) (N := some 17) (v := ?_) (a' := ?_) #[true, false, false, false, false, false, false, false, false, false] rfl rfl (any_of HT_.out (by kernel_rfl)) (fun _ _ _ h => h) (Or.inl ⟨by rfl, ?_⟩) ?_ ?_
                rotate_left
                · intro w'
                  go_simp
                  with_reducible rfl
                rotate_left
                · simp only [Act.put, List.setIfInBounds_toArray, List.set_cons_zero, List.set_cons_succ, i64_w, i32_w]
                  rfl
                refine pure_ (i := 1) (N := some 18) (v := ?_) (a' := ?_) #[true, true, false, false, false, false, false, false, false, false] rfl rfl (any_of HT_.out (by kernel_rfl)) (fun _ _ _ h => h) (Or.inl ⟨by rfl, ?_⟩) ?_ ?_
                rotate_left
                · intro w'
                  go_simp
                  with_reducible rfl
                rotate_left
                · simp only [Act.put, List.setIfInBounds_toArray, List.set_cons_zero, List.set_cons_succ, i64_w, i32_w]
                  rfl
                refine pure_ (i := 2) (N := some 19) (v := ?_) (a' := ?_) #[true, true, true, false, false, false, false, false, false, false] rfl rfl (any_of HT_.out (by kernel_rfl)) (fun _ _ _ h => h) (Or.inl ⟨by rfl, ?_⟩) ?_ ?_
                rotate_left
                · intro w'
                  go_simp
                  with_reducible rfl
                rotate_left
                · simp only [Act.put, List.setIfInBounds_toArray, List.set_cons_zero, List.set_cons_succ, i64_w, i32_w]
                  rfl
                refine pure_ (i := 4) (N := some 21) (v := ?_) (a' := ?_) #[true, true, true, false, true, false, false, false, false, false] rfl rfl (any_of HT_.out (by kernel_rfl)) (fun _ _ _ h => h) (Or.inl ⟨by rfl, ?_⟩) ?_ ?_
                rotate_left
                · intro w'
                  go_simp
                  with_reducible rfl
                rotate_left
                · simp only [Act.put, List.setIfInBounds_toArray, List.set_cons_zero, List.set_cons_succ, i64_w, i32_w]
                  rfl
                refine pure_ (i := 5) (N := some 22) (v := ?_) (a' := ?_) #[true, true, true, false, true, true, false, false, false, false] rfl rfl (any_of HT_.out (by kernel_rfl)) (fun _ _ _ h => h) (Or.inl ⟨by rfl, ?_⟩) ?_ ?_
                rotate_left
                · intro w'
                  go_simp
                  with_reducible rfl
                rotate_left
                · simp only [Act.put, List.setIfInBounds_toArray, List.set_cons_zero, List.set_cons_succ, i64_w, i32_w]
                  rfl
                refine pure_ (i := 6) (N := some 23) (v := ?_) (a' := ?_) #[true, true, true, false, true, true, true, false, false, false] rfl rfl (any_of HT_.out (by kernel_rfl)) (fun _ _ _ h => h) (Or.inl ⟨by rfl, ?_⟩) ?_ ?_
                rotate_left
                · intro w'
                  go_simp
                  with_reducible rfl
                rotate_left
                · simp only [Act.put, List.setIfInBounds_toArray, List.set_cons_zero, List.set_cons_succ, i64_w, i32_w]
                  rfl
                refine take_ (i := 3) (N := some 20) (v := ?_) (a' := ?_) #[true, true, true, true, true, true, true, false, false, false] rfl rfl (take_ofW HT_.out HW_.out (by kernel_rfl)) (fun _ _ _ h => h) (Or.inl ⟨by rfl, ?_⟩) hHeld ?_ ?_
                rotate_left
                · rintro w' ⟨s0, s1, s2, s3, s4, s5, s6, s7, s8, s9⟩
                  go_simp
                  with_reducible rfl
                rotate_left
                · simp only [Act.put, List.setIfInBounds_toArray, List.set_cons_zero, List.set_cons_succ, i64_w, i32_w]
                  rfl
                refine take_ (i := 7) (N := some 24) (v := ?_) (a' := ?_) #[true, true, true, true, true, true, true, true, false, false] rfl rfl (take_ofW HT_.out HW_.out (by kernel_rfl)) (fun _ _ _ h => h) (Or.inl ⟨by rfl, ?_⟩) hHeld ?_ ?_
                rotate_left
                · rintro w' ⟨s0, s1, s2, s3, s4, s5, s6, s7, s8, s9⟩
                  go_simp
                  with_reducible rfl
                rotate_left
                · simp only [Act.put, List.setIfInBounds_toArray, List.set_cons_zero, List.set_cons_succ, i64_w, i32_w]
                  rfl
                refine one_ (i := 8) (N := some 25) #[true, true, true, true, true, true, true, true, true, false] rfl rfl (one_of HT_.out (by kernel_rfl)) (by decide) (fun K hK => ?_)
                refine goes_ Try.func67 (by kernel_rfl) rfl #[.agg #[.string ((rd_T80 l0 x5_1).f0), .int .i64 ((rd_T80 l0 x5_1).f1), .int .i64 ((rd_T80 l0 x5_1).f2), .int .i64 ((rd_T80 l0 x5_1).f3), .int .i64 ((rd_T80 l0 x5_1).f4)], .agg #[.string ((rd_T80 l1 x5_1).f0), .int .i64 ((rd_T80 l1 x5_1).f1), .int .i64 ((rd_T80 l1 x5_1).f2), .int .i64 ((rd_T80 l1 x5_1).f3), .int .i64 ((rd_T80 l1 x5_1).f4)]] (by rfl) rfl rfl (by (try simp only [List.map_toArray, List.map_cons, List.map_nil]); first | done | rfl | (simp only [List.length_drop, List.length_take]; rfl)) ?_
                with_reducible refine (laws_eqInstr.calls ((rd_T80 l0 x5_1).f0) ((rd_T80 l0 x5_1).f1) ((rd_T80 l0 x5_1).f2) ((rd_T80 l0 x5_1).f3) ((rd_T80 l0 x5_1).f4) ((rd_T80 l1 x5_1).f0) ((rd_T80 l1 x5_1).f1) ((rd_T80 l1 x5_1).f2) ((rd_T80 l1 x5_1).f3) ((rd_T80 l1 x5_1).f4) false _ A7.out).mono ?_
                rintro e w12 ⟨rfl, hb⟩
                refine ⟨_, rfl, ?_⟩
                have n0_ := Aside0.mk (below_step BA hb)
                clear HB
                have HB := n0_
                clear n0_
                (try clear hb)
                (try clear hb2)
                (try clear hk)
                (try clear hi)
                refine hK.out _ _ ⟨((HB.out.cell (World.block_lt_of_cell? w _ hw234_0)).trans hw234_0), ((HB.out.cell (World.block_lt_of_cell? w _ hw234_1)).trans hw234_1), ((HB.out.cell (World.block_lt_of_cell? w _ hw234_2)).trans hw234_2), ((HB.out.cell (World.block_lt_of_cell? w _ hw234_3)).trans hw234_3), ((HB.out.cell (World.block_lt_of_cell? w _ hw234_4)).trans hw234_4), ((HB.out.cell (World.block_lt_of_cell? w _ hw235_0)).trans hw235_0), ((HB.out.cell (World.block_lt_of_cell? w _ hw235_1)).trans hw235_1), ((HB.out.cell (World.block_lt_of_cell? w _ hw235_2)).trans hw235_2), ((HB.out.cell (World.block_lt_of_cell? w _ hw235_3)).trans hw235_3), ((HB.out.cell (World.block_lt_of_cell? w _ hw235_4)).trans hw235_4)⟩ (fun hHeld => ?_)
                clear hK K
                refine norm_ (a' := ?_) ?_ ?_
                rotate_left
                · show Act.put _ (some 25) _ = _
                  simp only [Act.put, List.setIfInBounds_toArray, List.set_cons_zero, List.set_cons_succ, i64_w, i32_w]
                  rfl
                refine pure_ (i := 9) (N := some 26) (v := ?_) (a' := ?_) #[true, true, true, true, true, true, true, true, true, true] rfl rfl (any_of HT_.out (by kernel_rfl)) (fun _ _ _ h => h) (Or.inl ⟨by rfl, ?_⟩) ?_ ?_
                rotate_left
                · intro w'
                  go_simp
                  with_reducible rfl
                rotate_left
                · simp only [Act.put, List.setIfInBounds_toArray, List.set_cons_zero, List.set_cons_succ, i64_w, i32_w]
                  rfl
                refine done_ (done_of HT_.out (by kernel_rfl)) ?_
                try go_wp2
                go_ret
                exact ⟨EQ, BA⟩
            · rw [if_neg c6] at H
              exact absurd H (by simp)
          · rw [if_neg c5] at H
            exact absurd H (by simp)
        · rw [if_neg c4] at H
          have c4b0 := decide_eq_false c4
          clear c4
          obtain rfl := Option.some.inj H
          go_wp2
          go_ret
          exact ⟨EQ, BA⟩
  · rw [if_neg c3] at H
    have c3b0 := beq_eq_false_iff_ne.mpr c3
    have c3b1 := bne_iff_ne.mpr c3
    have c3b2 : (l0.length == l1.length) = false := by first | simpa using c3 | (simp at c3 ⊢; omega)
    obtain rfl := Option.some.inj H
    go_enter Try.func20, Try.ntmps20
    go_wp2
    go_ret
    exact ⟨EQ, BA⟩

end Go.Proofs.Ytefipbekabmncaa.Pa
