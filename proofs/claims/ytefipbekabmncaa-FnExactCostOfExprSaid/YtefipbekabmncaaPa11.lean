-- Made by this session's program gen.py over the translation.
import Derived.Test.YtefipbekabmncaaPa0
import Derived.Test.YtefipbekabmncaaPa4
import Derived.Test.YtefipbekabmncaaPa6
namespace Go.Proofs.Ytefipbekabmncaa.Pa
open Go.RowKit Go.Proofs.YtefipbekabmncaaW.PrintWords Go.Proofs.YtefipbekabmncaaW.PrintLast Go.Proofs.YtefipbekabmncaaW.PrintMore
attribute [local go_sem] max2_int min2_int max_two min_two max_three min_three max_four min_four   -- for this text's walks alone
set_option linter.unusedVariables false
set_option linter.unusedSimpArgs false

/-! ### spec_cdCost: function 122 -/
def spec_cdCost.f (a0 : ByteArray) : Option (Int) := if a0.toList = ([109, 117, 108] : List UInt8) then (some 4) else (if a0.toList = ([115, 104, 108] : List UInt8) then (some 2) else (if a0.toList = ([115, 104, 114] : List UInt8) then (some 2) else (some 1)))
set_option maxHeartbeats 8000000 in
set_option maxRecDepth 100000 in
theorem spec_cdCost.calls (a0 : ByteArray) (r : Int) (w : World) (h : spec_cdCost.f a0 = some r) :
    Calls Try.prog 122 #[.string a0] w fun e w' => e = .returned (.int .i64 r) ∧ Drawn0 w w' := by
  have H : (if a0.toList = ([109, 117, 108] : List UInt8) then (some 4) else (if a0.toList = ([115, 104, 108] : List UInt8) then (some 2) else (if a0.toList = ([115, 104, 114] : List UInt8) then (some 2) else (some 1)))) = some r := h
  clear h
  by_cases c2 : a0.toList = ([109, 117, 108] : List UInt8)
  · rw [if_pos c2] at H
    have c2b0 := beq_iff_eq.mpr c2
    have c2b1 := bne_eq_false_iff_eq.mpr c2
    clear c2
    obtain rfl := Option.some.inj H
    go_enter Try.func122, Try.ntmps122
    go_wp2
    go_ret
    exact ⟨EQ1, DA⟩
  · rw [if_neg c2] at H
    have c2b0 := beq_eq_false_iff_ne.mpr c2
    have c2b1 := bne_iff_ne.mpr c2
    by_cases c3 : a0.toList = ([115, 104, 108] : List UInt8)
    · rw [if_pos c3] at H
      have c3b0 := beq_iff_eq.mpr c3
      have c3b1 := bne_eq_false_iff_eq.mpr c3
      clear c3
      obtain rfl := Option.some.inj H
      go_enter Try.func122, Try.ntmps122
      go_wp2
      go_ret
      exact ⟨EQ1, DA⟩
    · rw [if_neg c3] at H
      have c3b0 := beq_eq_false_iff_ne.mpr c3
      have c3b1 := bne_iff_ne.mpr c3
      by_cases c4 : a0.toList = ([115, 104, 114] : List UInt8)
      · rw [if_pos c4] at H
        have c4b0 := beq_iff_eq.mpr c4
        have c4b1 := bne_eq_false_iff_eq.mpr c4
        clear c4
        obtain rfl := Option.some.inj H
        go_enter Try.func122, Try.ntmps122
        go_wp2
        go_ret
        exact ⟨EQ1, DA⟩
      · rw [if_neg c4] at H
        have c4b0 := beq_eq_false_iff_ne.mpr c4
        have c4b1 := bne_iff_ne.mpr c4
        obtain rfl := Option.some.inj H
        go_enter Try.func122, Try.ntmps122
        go_wp2
        go_ret
        exact ⟨EQ1, DA⟩

/-! ### spec_ruCost: function 81 -/
def spec_ruCost.l0 : Nat → Int → List (S104) → Int → Int → Option (Int)
  | 0, _, _, _, _ => none
  | k + 1, x3, x6, x7, x8 => if x8 < x7 then (if 0 ≤ x8 then (if x8 < (x6.length : Int) then ((spec_exParts.f k ((rd_T104 x6 x8).f0) ((rd_T104 x6 x8).f1) ((rd_T104 x6 x8).f2) ((rd_T104 x6 x8).f3)).bind fun t405 => (if (t405.length : Int) > 0 then ((spec_cdCost.f ((rd_T104 x6 x8).f0)).bind fun t408 => (spec_ruCost.l0 k (wrap64 (x3 + t408)) x6 x7 (wrap64 (x8 + 1)))) else (spec_ruCost.l0 k x3 x6 x7 (wrap64 (x8 + 1))))) else (none)) else (none)) else (some x3)
def spec_ruCost.f (k : Nat) (l0 : List (S104)) : Option (Int) := spec_ruCost.l0 k 0 l0 (l0.length : Int) 0
theorem spec_ruCost.mono_l : ∀ k, (∀ y0 y1 y2 y3, LeO (spec_ruCost.l0 k y0 y1 y2 y3) (spec_ruCost.l0 (k + 1) y0 y1 y2 y3))
  | 0 => fun _ _ _ _ r h => by simp [spec_ruCost.l0] at h
  | k + 1 => by
    have ih0 := spec_ruCost.mono_l k
    · intro y0 y1 y2 y3
      unfold spec_ruCost.l0
      repeat' first | (with_reducible first | exact ih0 _ _ _ _ | exact spec_exParts.mono _ _ _ _ _ | exact LeO.refl _ | exact LeO.none _ | refine LeO.ite ?_ ?_ | refine LeO.bind ?_ (fun _ => ?_)) | exact LeO.none _ | refine LeO.ite ?_ ?_ | refine LeO.bind ?_ (fun _ => ?_)
theorem spec_ruCost.mono : ∀ a0 k, LeO (spec_ruCost.f k a0) (spec_ruCost.f (k + 1) a0) := by
  intro a0 k
  have ih0 := spec_ruCost.mono_l k
  unfold spec_ruCost.f
  repeat' first | (with_reducible first | exact ih0 _ _ _ _ | exact spec_exParts.mono _ _ _ _ _ | exact LeO.refl _ | exact LeO.none _ | refine LeO.ite ?_ ?_ | refine LeO.bind ?_ (fun _ => ?_)) | exact LeO.none _ | refine LeO.ite ?_ ?_ | refine LeO.bind ?_ (fun _ => ?_)
set_option maxHeartbeats 8000000 in
set_option maxRecDepth 100000 in
theorem spec_ruCost.calls (k : Nat) (A0 : Option Addr) (c0 : Nat) (l0 : List (S104)) (r : Int) (w : World) (hr0 : Kd.C k104 w A0 l0.length l0) (hc0 : l0.length ≤ c0) (h : spec_ruCost.f k l0 = some r) :
    Calls Try.prog 81 #[.slice A0 l0.length c0] w fun e w' => e = .returned (.int .i64 r) ∧ Below w.heap.size w w' := by
  have hu104 := Try.underlying104
  have HR0 := Aside0.mk hr0
  have HC0 := Aside0.mk hc0
  clear hr0 hc0
  have HB := Aside0.mk (Below.refl w.heap.size w)
  have H : (spec_ruCost.l0 k 0 l0 (l0.length : Int) 0) = some r := h
  clear h
  have H' := Aside0.mk H
  clear H
  go_enter Try.func81, Try.ntmps81
  go_wp2
  go_loopg [3, 8] k (fun kq v3 v8 w' => ∃ (x3_1 : Int) (x8_1 : Int), v3 = .int .i64 x3_1 ∧ v8 = .int .i64 x8_1 ∧ Aside0 (spec_ruCost.l0 kq x3_1 l0 (l0.length : Int) x8_1 = some r) ∧ Aside0 (kq ≤ k) ∧ Aside0 (Below w.heap.size w w'))
  case atStart => exact ⟨(0), (0), EQ1, EQ1, H', ⟨Nat.le_refl _⟩, ⟨BA⟩⟩
  case round =>
    clear H'
    obtain ⟨x3_1, x8_1, rfl, rfl, HA, HK1, HB⟩ := hrel
    cases gk with
    | zero => exact absurd HA.out (by simp [spec_ruCost.l0])
    | succ k1 =>
      have H := HA.out
      clear HA
      simp only [spec_ruCost.l0] at H
      by_cases c2 : x8_1 < (l0.length : Int)
      · rw [if_pos c2] at H
        have c2b0 := decide_eq_true c2
        clear c2
        by_cases c3 : 0 ≤ x8_1
        · rw [if_pos c3] at H
          have c3b0 := decide_eq_true c3
          clear c3
          by_cases c4 : x8_1 < (l0.length : Int)
          · rw [if_pos c4] at H
            have c4b0 := decide_eq_true c4
            clear c4
            replace H := Option.bind_eq_some_iff.mp H
            obtain ⟨t405, A50, H⟩ := H
            replace H : (if (t405.length : Int) > 0 then ((spec_cdCost.f ((rd_T104 l0 x8_1).f0)).bind fun t408 => (spec_ruCost.l0 k1 (wrap64 (x3_1 + t408)) l0 (l0.length : Int) (wrap64 (x8_1 + 1)))) else (spec_ruCost.l0 k1 x3_1 l0 (l0.length : Int) (wrap64 (x8_1 + 1)))) = some r := H
            have A5 := Aside0.mk A50
            clear A50
            by_cases c6 : (t405.length : Int) > 0
            · rw [if_pos c6] at H
              have c6b0 := decide_eq_true c6
              have c6b1 : decide (0 < t405.length) = true := decide_eq_true (by omega)
              clear c6
              replace H := Option.bind_eq_some_iff.mp H
              obtain ⟨t408, A70, H⟩ := H
              replace H : (spec_ruCost.l0 k1 (wrap64 (x3_1 + t408)) l0 (l0.length : Int) (wrap64 (x8_1 + 1))) = some r := H
              have A7 := Aside0.mk A70
              clear A70
              have H' := Aside0.mk H
              clear H
              have p403 : 0 ≤ (x8_1 : Int) := DT
              have q403 : x8_1 < (l0.length : Int) := DT
              obtain ⟨ad403, e403, hx403_0, hx403_1, hx403_2, hx403_3⟩ := at_T104 HR0.out x8_1 p403 q403
              cases e403
              replace hx403_0 := (HB.out.cell (World.block_lt_of_cell? w _ hx403_0)).trans hx403_0
              replace hx403_1 := (HB.out.cell (World.block_lt_of_cell? w _ hx403_1)).trans hx403_1
              replace hx403_2 := (HB.out.cell (World.block_lt_of_cell? w _ hx403_2)).trans hx403_2
              replace hx403_3 := (HB.out.cell (World.block_lt_of_cell? w _ hx403_3)).trans hx403_3
              replace p403 := eq_true p403
              replace q403 := eq_true q403
              go_wp2_with (first | ((with_reducible refine gate_dst (N := 5) rfl ?_); refine box_event ?hg (N := 5) ?hd (cs := #[.string (⟨#[]⟩ : ByteArray), .int .i64 0, .int .i64 0, .int .i64 0]) (t := 104) ?hr ?_; (case hd => rfl); (case hg => rfl); (case hr => first | (go_simp; done) | (go_simp; rfl)); intro gb404 hg w8 hbox hb; have BK404 := Aside0.mk (hbox); have GW404 := Aside0.mk ((by rw [hg]; exact (below_size BA) : w.heap.size ≤ gb404)); have GE404 := Aside0.mk ((by rw [hg]; exact (below_size BA) : w.heap.size ≤ gb404)); replace HB := Aside0.mk (below_step BA hb); clear hb hbox hg; have hcz9_0 := bcv BK404.out 0 (.string (⟨#[]⟩ : ByteArray)); have hcz9_1 := bcv BK404.out 1 (.int .i64 0); have hcz9_2 := bcv BK404.out 2 (.int .i64 0); have hcz9_3 := bcv BK404.out 3 (.int .i64 0); have hfz9 := blk_frozen BK404.out) | ((with_reducible refine gate_callee (f := 121) rfl ?_); refine gK (some 13) Try.func121 #[.agg #[.string ((rd_T104 l0 x8_1).f0), .int .i64 ((rd_T104 l0 x8_1).f1), .int .i64 ((rd_T104 l0 x8_1).f2), .int .i64 ((rd_T104 l0 x8_1).f3)]] rfl rfl rfl ?_; (with_reducible refine (spec_exParts.calls k1 ((rd_T104 l0 x8_1).f0) ((rd_T104 l0 x8_1).f1) ((rd_T104 l0 x8_1).f2) ((rd_T104 l0 x8_1).f3) t405 _ A5.out).mono ?_); rintro e w10 ⟨v406, rfl, ho0, hb⟩; refine ⟨_, rfl, ?_⟩; have HO407 := Aside0.mk (Kd.R_lower ho0 (below_size BA)); replace BK404 := Aside0.mk (blk_below (g := gb404) (o := .cells #[.string ((rd_T104 l0 x8_1).f0), .int .i64 ((rd_T104 l0 x8_1).f1), .int .i64 ((rd_T104 l0 x8_1).f2), .int .i64 ((rd_T104 l0 x8_1).f3)] 104 (0, 0)) (by (with_reducible repeat (first | refine blk_drewN ?_ _ | refine blk_drew ?_ | refine blk_alloc ?_ _)); refine blk_put (cs := #[.string ((rd_T104 l0 x8_1).f0), .int .i64 ((rd_T104 l0 x8_1).f1), .int .i64 ((rd_T104 l0 x8_1).f2), .int .i64 0]) ?_ 3 _ rfl; (with_reducible repeat (first | refine blk_drewN ?_ _ | refine blk_drew ?_ | refine blk_alloc ?_ _)); refine blk_put (cs := #[.string ((rd_T104 l0 x8_1).f0), .int .i64 ((rd_T104 l0 x8_1).f1), .int .i64 0, .int .i64 0]) ?_ 2 _ rfl; (with_reducible repeat (first | refine blk_drewN ?_ _ | refine blk_drew ?_ | refine blk_alloc ?_ _)); refine blk_put (cs := #[.string ((rd_T104 l0 x8_1).f0), .int .i64 0, .int .i64 0, .int .i64 0]) ?_ 1 _ rfl; (with_reducible repeat (first | refine blk_drewN ?_ _ | refine blk_drew ?_ | refine blk_alloc ?_ _)); refine blk_put (cs := #[.string (⟨#[]⟩ : ByteArray), .int .i64 0, .int .i64 0, .int .i64 0]) ?_ 0 _ rfl; (with_reducible repeat (first | refine blk_drewN ?_ _ | refine blk_drew ?_ | refine blk_alloc ?_ _)); exact BK404.out) hb); replace HB := Aside0.mk (below_step BA hb); (try clear hb); (try clear ho0); obtain ⟨Ao11, co11, eo11⟩ := Kd.R_slice HO407.out; subst eo11; have hcz12_0 := bcv BK404.out 0 (.string ((rd_T104 l0 x8_1).f0)); have hcz12_1 := bcv BK404.out 1 (.int .i64 ((rd_T104 l0 x8_1).f1)); have hcz12_2 := bcv BK404.out 2 (.int .i64 ((rd_T104 l0 x8_1).f2)); have hcz12_3 := bcv BK404.out 3 (.int .i64 ((rd_T104 l0 x8_1).f3)); have hfz12 := blk_frozen BK404.out) | ((with_reducible refine gate_callee (f := 122) rfl ?_); refine gK (some 19) Try.func122 #[.string ((rd_T104 l0 x8_1).f0)] rfl rfl rfl ?_; (with_reducible refine (spec_cdCost.calls ((rd_T104 l0 x8_1).f0) t408 _ A7.out).mono ?_); rintro e w' ⟨rfl, ⟨nd, rfl⟩⟩; refine ⟨_, rfl, ?_⟩))
              go_roundg k1
              case measure => have := HK1.out; omega
              case rel => exact ⟨(wrap64 (x3_1 + t408)), (wrap64 (x8_1 + 1)), EQ1, EQ1, H', ⟨by have := HK1.out; omega⟩, ⟨BA⟩⟩
            · rw [if_neg c6] at H
              have c6b0 := decide_eq_false c6
              have c6b1 : decide (0 < t405.length) = false := decide_eq_false (by omega)
              clear c6
              have H' := Aside0.mk H
              clear H
              have p403 : 0 ≤ (x8_1 : Int) := DT
              have q403 : x8_1 < (l0.length : Int) := DT
              obtain ⟨ad403, e403, hx403_0, hx403_1, hx403_2, hx403_3⟩ := at_T104 HR0.out x8_1 p403 q403
              cases e403
              replace hx403_0 := (HB.out.cell (World.block_lt_of_cell? w _ hx403_0)).trans hx403_0
              replace hx403_1 := (HB.out.cell (World.block_lt_of_cell? w _ hx403_1)).trans hx403_1
              replace hx403_2 := (HB.out.cell (World.block_lt_of_cell? w _ hx403_2)).trans hx403_2
              replace hx403_3 := (HB.out.cell (World.block_lt_of_cell? w _ hx403_3)).trans hx403_3
              replace p403 := eq_true p403
              replace q403 := eq_true q403
              go_wp2_with (first | ((with_reducible refine gate_dst (N := 5) rfl ?_); refine box_event ?hg (N := 5) ?hd (cs := #[.string (⟨#[]⟩ : ByteArray), .int .i64 0, .int .i64 0, .int .i64 0]) (t := 104) ?hr ?_; (case hd => rfl); (case hg => rfl); (case hr => first | (go_simp; done) | (go_simp; rfl)); intro gb404 hg w13 hbox hb; have BK404 := Aside0.mk (hbox); have GW404 := Aside0.mk ((by rw [hg]; exact (below_size BA) : w.heap.size ≤ gb404)); have GE404 := Aside0.mk ((by rw [hg]; exact (below_size BA) : w.heap.size ≤ gb404)); replace HB := Aside0.mk (below_step BA hb); clear hb hbox hg; have hcz14_0 := bcv BK404.out 0 (.string (⟨#[]⟩ : ByteArray)); have hcz14_1 := bcv BK404.out 1 (.int .i64 0); have hcz14_2 := bcv BK404.out 2 (.int .i64 0); have hcz14_3 := bcv BK404.out 3 (.int .i64 0); have hfz14 := blk_frozen BK404.out) | ((with_reducible refine gate_callee (f := 121) rfl ?_); refine gK (some 13) Try.func121 #[.agg #[.string ((rd_T104 l0 x8_1).f0), .int .i64 ((rd_T104 l0 x8_1).f1), .int .i64 ((rd_T104 l0 x8_1).f2), .int .i64 ((rd_T104 l0 x8_1).f3)]] rfl rfl rfl ?_; (with_reducible refine (spec_exParts.calls k1 ((rd_T104 l0 x8_1).f0) ((rd_T104 l0 x8_1).f1) ((rd_T104 l0 x8_1).f2) ((rd_T104 l0 x8_1).f3) t405 _ A5.out).mono ?_); rintro e w15 ⟨v406, rfl, ho0, hb⟩; refine ⟨_, rfl, ?_⟩; have HO407 := Aside0.mk (Kd.R_lower ho0 (below_size BA)); replace BK404 := Aside0.mk (blk_below (g := gb404) (o := .cells #[.string ((rd_T104 l0 x8_1).f0), .int .i64 ((rd_T104 l0 x8_1).f1), .int .i64 ((rd_T104 l0 x8_1).f2), .int .i64 ((rd_T104 l0 x8_1).f3)] 104 (0, 0)) (by (with_reducible repeat (first | refine blk_drewN ?_ _ | refine blk_drew ?_ | refine blk_alloc ?_ _)); refine blk_put (cs := #[.string ((rd_T104 l0 x8_1).f0), .int .i64 ((rd_T104 l0 x8_1).f1), .int .i64 ((rd_T104 l0 x8_1).f2), .int .i64 0]) ?_ 3 _ rfl; (with_reducible repeat (first | refine blk_drewN ?_ _ | refine blk_drew ?_ | refine blk_alloc ?_ _)); refine blk_put (cs := #[.string ((rd_T104 l0 x8_1).f0), .int .i64 ((rd_T104 l0 x8_1).f1), .int .i64 0, .int .i64 0]) ?_ 2 _ rfl; (with_reducible repeat (first | refine blk_drewN ?_ _ | refine blk_drew ?_ | refine blk_alloc ?_ _)); refine blk_put (cs := #[.string ((rd_T104 l0 x8_1).f0), .int .i64 0, .int .i64 0, .int .i64 0]) ?_ 1 _ rfl; (with_reducible repeat (first | refine blk_drewN ?_ _ | refine blk_drew ?_ | refine blk_alloc ?_ _)); refine blk_put (cs := #[.string (⟨#[]⟩ : ByteArray), .int .i64 0, .int .i64 0, .int .i64 0]) ?_ 0 _ rfl; (with_reducible repeat (first | refine blk_drewN ?_ _ | refine blk_drew ?_ | refine blk_alloc ?_ _)); exact BK404.out) hb); replace HB := Aside0.mk (below_step BA hb); (try clear hb); (try clear ho0); obtain ⟨Ao16, co16, eo16⟩ := Kd.R_slice HO407.out; subst eo16))
              go_roundg k1
              case measure => have := HK1.out; omega
              case rel => exact ⟨(x3_1), (wrap64 (x8_1 + 1)), EQ1, EQ1, H', ⟨by have := HK1.out; omega⟩, ⟨BA⟩⟩
          · rw [if_neg c4] at H
            exact absurd H (by simp)
        · rw [if_neg c3] at H
          exact absurd H (by simp)
      · rw [if_neg c2] at H
        have c2b0 := decide_eq_false c2
        clear c2
        obtain rfl := Option.some.inj H
        go_wp2
        go_ret
        exact ⟨EQ, BA⟩

/-! ### spec_CostOfExpr: function 27 -/
def spec_CostOfExpr.f (k : Nat) (l0 : List (S104)) : Option (Int × Bool) := (spec_exGood.f k l0).bind fun t409 => (if t409 = true then ((spec_ruCost.f k l0).bind fun t410 => (some (t410, true))) else (some (0, false)))
theorem spec_CostOfExpr.mono : ∀ a0 k, LeO (spec_CostOfExpr.f k a0) (spec_CostOfExpr.f (k + 1) a0) := by
  intro a0 k
  unfold spec_CostOfExpr.f
  repeat' first | (with_reducible first | exact spec_exGood.mono _ _ | exact spec_ruCost.mono _ _ | exact LeO.refl _ | exact LeO.none _ | refine LeO.ite ?_ ?_ | refine LeO.bind ?_ (fun _ => ?_)) | exact LeO.none _ | refine LeO.ite ?_ ?_ | refine LeO.bind ?_ (fun _ => ?_)
set_option maxHeartbeats 8000000 in
set_option maxRecDepth 100000 in
theorem spec_CostOfExpr.calls (k : Nat) (A0 : Option Addr) (c0 : Nat) (l0 : List (S104)) (r1 : Int) (r2 : Bool) (w : World) (hr0 : Kd.C k104 w A0 l0.length l0) (hc0 : l0.length ≤ c0) (h : spec_CostOfExpr.f k l0 = some (r1, r2)) :
    Calls Try.prog 27 #[.slice A0 l0.length c0] w fun e w' => e = .returned (.tuple #[.int .i64 r1, .bool r2]) ∧ Below w.heap.size w w' := by
  have HR0 := Aside0.mk hr0
  have HC0 := Aside0.mk hc0
  clear hr0 hc0
  have HB := Aside0.mk (Below.refl w.heap.size w)
  have H : ((spec_exGood.f k l0).bind fun t409 => (if t409 = true then ((spec_ruCost.f k l0).bind fun t410 => (some (t410, true))) else (some (0, false)))) = some (r1, r2) := h
  clear h
  replace H := Option.bind_eq_some_iff.mp H
  obtain ⟨t409, A20, H⟩ := H
  replace H : (if t409 = true then ((spec_ruCost.f k l0).bind fun t410 => (some (t410, true))) else (some (0, false))) = some (r1, r2) := H
  have A2 := Aside0.mk A20
  clear A20
  by_cases c3 : t409 = true
  · subst c3
    have H1 : ((spec_ruCost.f k l0).bind fun t410 => (some (t410, true))) = some (r1, r2) := by rw [if_pos rfl] at H; exact H
    clear H
    have H := H1
    clear H1
    replace H := Option.bind_eq_some_iff.mp H
    obtain ⟨t410, A40, H⟩ := H
    replace H : (some (t410, true)) = some (r1, r2) := H
    have A4 := Aside0.mk A40
    clear A40
    simp only [Option.some.injEq, Prod.mk.injEq] at H
    obtain ⟨rfl, rfl⟩ := H
    go_enter Try.func27, Try.ntmps27
    go_wp2_with (first | ((with_reducible refine gate_callee (f := 80) rfl ?_); refine gK (some 5) Try.func80 #[.slice A0 l0.length c0] rfl rfl rfl ?_; (with_reducible refine (spec_exGood.calls k _ _ l0 true _ ?side1 ?side2 A2.out).mono ?_); (case side1 => exact cb HR0.out); (case side2 => exact HC0.out); rintro e w5 ⟨rfl, hb⟩; refine ⟨_, rfl, ?_⟩; replace HB := Aside0.mk (below_step BA hb); (try clear hb)) | ((with_reducible refine gate_callee (f := 81) rfl ?_); refine gK (some 8) Try.func81 #[.slice A0 l0.length c0] rfl rfl rfl ?_; (with_reducible refine (spec_ruCost.calls k _ _ l0 t410 _ ?side1 ?side2 A4.out).mono ?_); (case side1 => exact cb (Kd.C_below HR0.out HB.out)); (case side2 => exact HC0.out); rintro e w6 ⟨rfl, hb⟩; refine ⟨_, rfl, ?_⟩; replace HB := Aside0.mk (below_step BA hb); (try clear hb)))
    go_ret2
    exact ⟨EQ, BA⟩
  · replace c3 := Bool.eq_false_iff.mpr c3
    subst c3
    have H1 : (some (0, false)) = some (r1, r2) := by rw [if_neg (show ¬ (false = true) by decide)] at H; exact H
    clear H
    have H := H1
    clear H1
    simp only [Option.some.injEq, Prod.mk.injEq] at H
    obtain ⟨rfl, rfl⟩ := H
    go_enter Try.func27, Try.ntmps27
    go_wp2_with (first | ((with_reducible refine gate_callee (f := 80) rfl ?_); refine gK (some 5) Try.func80 #[.slice A0 l0.length c0] rfl rfl rfl ?_; (with_reducible refine (spec_exGood.calls k _ _ l0 false _ ?side1 ?side2 A2.out).mono ?_); (case side1 => exact cb HR0.out); (case side2 => exact HC0.out); rintro e w7 ⟨rfl, hb⟩; refine ⟨_, rfl, ?_⟩; replace HB := Aside0.mk (below_step BA hb); (try clear hb)))
    go_ret2
    exact ⟨EQ, BA⟩

/-! ### impl_costOf: function 84 -/
def impl_costOf.l0 : Nat → Int → List (S104) → Int → Int → Option (Int)
  | 0, _, _, _, _ => none
  | k + 1, x3, x8, x9, x10 => if x10 < x9 then (if 0 ≤ x10 then (if x10 < (x8.length : Int) then ((impl_operands.f k ((rd_T104 x8 x10).f0)).bind fun t469 => (if t469 > 0 then ((impl_formOf.f ((rd_T104 x8 x10).f0)).bind fun bt470 => (impl_costOf.l0 k (wrap64 (x3 + bt470.2.2.2.2.1)) x8 x9 (wrap64 (x10 + 1)))) else (impl_costOf.l0 k x3 x8 x9 (wrap64 (x10 + 1))))) else (none)) else (none)) else (some x3)
def impl_costOf.f (k : Nat) (l0 : List (S104)) : Option (Int) := impl_costOf.l0 k 0 l0 (l0.length : Int) 0
theorem impl_costOf.mono_l : ∀ k, (∀ y0 y1 y2 y3, LeO (impl_costOf.l0 k y0 y1 y2 y3) (impl_costOf.l0 (k + 1) y0 y1 y2 y3))
  | 0 => fun _ _ _ _ r h => by simp [impl_costOf.l0] at h
  | k + 1 => by
    have ih0 := impl_costOf.mono_l k
    · intro y0 y1 y2 y3
      unfold impl_costOf.l0
      repeat' first | (with_reducible first | exact ih0 _ _ _ _ | exact impl_operands.mono _ _ | exact LeO.refl _ | exact LeO.none _ | refine LeO.ite ?_ ?_ | refine LeO.bind ?_ (fun _ => ?_)) | exact LeO.none _ | refine LeO.ite ?_ ?_ | refine LeO.bind ?_ (fun _ => ?_)
theorem impl_costOf.mono : ∀ a0 k, LeO (impl_costOf.f k a0) (impl_costOf.f (k + 1) a0) := by
  intro a0 k
  have ih0 := impl_costOf.mono_l k
  unfold impl_costOf.f
  repeat' first | (with_reducible first | exact ih0 _ _ _ _ | exact impl_operands.mono _ _ | exact LeO.refl _ | exact LeO.none _ | refine LeO.ite ?_ ?_ | refine LeO.bind ?_ (fun _ => ?_)) | exact LeO.none _ | refine LeO.ite ?_ ?_ | refine LeO.bind ?_ (fun _ => ?_)
set_option maxHeartbeats 8000000 in
set_option maxRecDepth 100000 in
theorem impl_costOf.calls (k : Nat) (A0 : Option Addr) (c0 : Nat) (l0 : List (S104)) (r : Int) (w : World) (hr0 : Kd.C k104 w A0 l0.length l0) (hc0 : l0.length ≤ c0) (h : impl_costOf.f k l0 = some r) :
    Calls Try.prog 84 #[.slice A0 l0.length c0] w fun e w' => e = .returned (.int .i64 r) ∧ Below w.heap.size w w' := by
  have hu104 := Try.underlying104
  have hu94 := Try.underlying94
  have HR0 := Aside0.mk hr0
  have HC0 := Aside0.mk hc0
  clear hr0 hc0
  have HB := Aside0.mk (Below.refl w.heap.size w)
  have H : (impl_costOf.l0 k 0 l0 (l0.length : Int) 0) = some r := h
  clear h
  have H' := Aside0.mk H
  clear H
  go_enter Try.func84, Try.ntmps84
  go_wp2
  go_loopg [3, 10] k (fun kq v3 v10 w' => ∃ (x3_1 : Int) (x10_1 : Int), v3 = .int .i64 x3_1 ∧ v10 = .int .i64 x10_1 ∧ Aside0 (impl_costOf.l0 kq x3_1 l0 (l0.length : Int) x10_1 = some r) ∧ Aside0 (kq ≤ k) ∧ Aside0 (Below w.heap.size w w'))
  case atStart => exact ⟨(0), (0), EQ1, EQ1, H', ⟨Nat.le_refl _⟩, ⟨BA⟩⟩
  case round =>
    clear H'
    obtain ⟨x3_1, x10_1, rfl, rfl, HA, HK1, HB⟩ := hrel
    cases gk with
    | zero => exact absurd HA.out (by simp [impl_costOf.l0])
    | succ k1 =>
      have H := HA.out
      clear HA
      simp only [impl_costOf.l0] at H
      by_cases c2 : x10_1 < (l0.length : Int)
      · rw [if_pos c2] at H
        have c2b0 := decide_eq_true c2
        clear c2
        by_cases c3 : 0 ≤ x10_1
        · rw [if_pos c3] at H
          have c3b0 := decide_eq_true c3
          clear c3
          by_cases c4 : x10_1 < (l0.length : Int)
          · rw [if_pos c4] at H
            have c4b0 := decide_eq_true c4
            clear c4
            replace H := Option.bind_eq_some_iff.mp H
            obtain ⟨t469, A50, H⟩ := H
            replace H : (if t469 > 0 then ((impl_formOf.f ((rd_T104 l0 x10_1).f0)).bind fun bt470 => (impl_costOf.l0 k1 (wrap64 (x3_1 + bt470.2.2.2.2.1)) l0 (l0.length : Int) (wrap64 (x10_1 + 1)))) else (impl_costOf.l0 k1 x3_1 l0 (l0.length : Int) (wrap64 (x10_1 + 1)))) = some r := H
            have A5 := Aside0.mk A50
            clear A50
            by_cases c6 : t469 > 0
            · rw [if_pos c6] at H
              have c6b0 := decide_eq_true c6
              clear c6
              replace H := Option.bind_eq_some_iff.mp H
              obtain ⟨⟨t470, t471, t472, t473, t474, t475, t476⟩, A70, H⟩ := H
              replace H : (impl_costOf.l0 k1 (wrap64 (x3_1 + t474)) l0 (l0.length : Int) (wrap64 (x10_1 + 1))) = some r := H
              have A7 := Aside0.mk A70
              clear A70
              have H' := Aside0.mk H
              clear H
              have p467 : 0 ≤ (x10_1 : Int) := DT
              have q467 : x10_1 < (l0.length : Int) := DT
              obtain ⟨ad467, e467, hx467_0, hx467_1, hx467_2, hx467_3⟩ := at_T104 HR0.out x10_1 p467 q467
              cases e467
              replace hx467_0 := (HB.out.cell (World.block_lt_of_cell? w _ hx467_0)).trans hx467_0
              replace hx467_1 := (HB.out.cell (World.block_lt_of_cell? w _ hx467_1)).trans hx467_1
              replace hx467_2 := (HB.out.cell (World.block_lt_of_cell? w _ hx467_2)).trans hx467_2
              replace hx467_3 := (HB.out.cell (World.block_lt_of_cell? w _ hx467_3)).trans hx467_3
              replace p467 := eq_true p467
              replace q467 := eq_true q467
              go_wp2_with (first | ((with_reducible refine gate_dst (N := 5) rfl ?_); refine box_event ?hg (N := 5) ?hd (cs := #[.string (⟨#[]⟩ : ByteArray), .int .i64 0, .int .i64 0, .int .i64 0]) (t := 104) ?hr ?_; (case hd => rfl); (case hg => rfl); (case hr => first | (go_simp; done) | (go_simp; rfl)); intro gb468 hg w8 hbox hb; have BK468 := Aside0.mk (hbox); have GW468 := Aside0.mk ((by rw [hg]; exact (below_size BA) : w.heap.size ≤ gb468)); have GE468 := Aside0.mk ((by rw [hg]; exact (below_size BA) : w.heap.size ≤ gb468)); replace HB := Aside0.mk (below_step BA hb); clear hb hbox hg; have hcz9_0 := bcv BK468.out 0 (.string (⟨#[]⟩ : ByteArray)); have hcz9_1 := bcv BK468.out 1 (.int .i64 0); have hcz9_2 := bcv BK468.out 2 (.int .i64 0); have hcz9_3 := bcv BK468.out 3 (.int .i64 0); have hfz9 := blk_frozen BK468.out) | ((with_reducible refine gate_callee (f := 125) rfl ?_); refine gK (some 16) Try.func125 #[.string ((rd_T104 l0 x10_1).f0)] rfl rfl rfl ?_; (with_reducible refine (impl_operands.calls k1 ((rd_T104 l0 x10_1).f0) t469 _ A5.out).mono ?_); rintro e w10 ⟨rfl, hb⟩; refine ⟨_, rfl, ?_⟩; replace BK468 := Aside0.mk (blk_below (g := gb468) (o := .cells #[.string ((rd_T104 l0 x10_1).f0), .int .i64 ((rd_T104 l0 x10_1).f1), .int .i64 ((rd_T104 l0 x10_1).f2), .int .i64 ((rd_T104 l0 x10_1).f3)] 104 (0, 0)) (by (with_reducible repeat (first | refine blk_drewN ?_ _ | refine blk_drew ?_ | refine blk_alloc ?_ _)); refine blk_put (cs := #[.string ((rd_T104 l0 x10_1).f0), .int .i64 ((rd_T104 l0 x10_1).f1), .int .i64 ((rd_T104 l0 x10_1).f2), .int .i64 0]) ?_ 3 _ rfl; (with_reducible repeat (first | refine blk_drewN ?_ _ | refine blk_drew ?_ | refine blk_alloc ?_ _)); refine blk_put (cs := #[.string ((rd_T104 l0 x10_1).f0), .int .i64 ((rd_T104 l0 x10_1).f1), .int .i64 0, .int .i64 0]) ?_ 2 _ rfl; (with_reducible repeat (first | refine blk_drewN ?_ _ | refine blk_drew ?_ | refine blk_alloc ?_ _)); refine blk_put (cs := #[.string ((rd_T104 l0 x10_1).f0), .int .i64 0, .int .i64 0, .int .i64 0]) ?_ 1 _ rfl; (with_reducible repeat (first | refine blk_drewN ?_ _ | refine blk_drew ?_ | refine blk_alloc ?_ _)); refine blk_put (cs := #[.string (⟨#[]⟩ : ByteArray), .int .i64 0, .int .i64 0, .int .i64 0]) ?_ 0 _ rfl; (with_reducible repeat (first | refine blk_drewN ?_ _ | refine blk_drew ?_ | refine blk_alloc ?_ _)); exact BK468.out) hb); replace HB := Aside0.mk (below_step BA hb); (try clear hb); have hcz11_0 := bcv BK468.out 0 (.string ((rd_T104 l0 x10_1).f0)); have hcz11_1 := bcv BK468.out 1 (.int .i64 ((rd_T104 l0 x10_1).f1)); have hcz11_2 := bcv BK468.out 2 (.int .i64 ((rd_T104 l0 x10_1).f2)); have hcz11_3 := bcv BK468.out 3 (.int .i64 ((rd_T104 l0 x10_1).f3)); have hfz11 := blk_frozen BK468.out) | ((with_reducible refine gate_callee (f := 76) rfl ?_); refine gK (some 21) Try.func76 #[.string ((rd_T104 l0 x10_1).f0)] rfl rfl rfl ?_; (with_reducible refine (impl_formOf.calls ((rd_T104 l0 x10_1).f0) t470 t471 t472 t473 t474 t475 t476 _ A7.out).mono ?_); rintro e w12 ⟨rfl, hb⟩; refine ⟨_, rfl, ?_⟩; replace BK468 := Aside0.mk (blk_below (bk BK468.out) hb); replace HB := Aside0.mk (below_step BA hb); (try clear hb)) | ((with_reducible refine gate_dst (N := 6) rfl ?_); refine box_event ?hg (N := 6) ?hd (cs := #[.bool false, .bool false, .int .i64 0, .int .i64 0, .int .i64 0, .string (⟨#[]⟩ : ByteArray)]) (t := 94) ?hr ?_; (case hd => rfl); (case hg => rfl); (case hr => first | (go_simp; done) | (go_simp; rfl)); intro gb477 hg w13 hbox hb; have BK477 := Aside0.mk (hbox); have GW477 := Aside0.mk ((by rw [hg]; exact (below_size BA) : w.heap.size ≤ gb477)); have GE477 := Aside0.mk ((by rw [hg]; exact (below_size BA) : w.heap.size ≤ gb477)); replace HB := Aside0.mk (below_step BA hb); have NB468_477 := Aside0.mk ((by rw [hg]; exact Nat.ne_of_lt (blk_lt (g := gb468) (o := .cells #[.string ((rd_T104 l0 x10_1).f0), .int .i64 ((rd_T104 l0 x10_1).f1), .int .i64 ((rd_T104 l0 x10_1).f2), .int .i64 ((rd_T104 l0 x10_1).f3)] 104 (0, 0)) (bk BK468.out)) : gb468 ≠ gb477)); have NB477_468 := Aside0.mk ((by rw [hg]; exact Nat.ne_of_gt (blk_lt (g := gb468) (o := .cells #[.string ((rd_T104 l0 x10_1).f0), .int .i64 ((rd_T104 l0 x10_1).f1), .int .i64 ((rd_T104 l0 x10_1).f2), .int .i64 ((rd_T104 l0 x10_1).f3)] 104 (0, 0)) (bk BK468.out)) : gb477 ≠ gb468)); replace BK468 := Aside0.mk (blk_below (bk BK468.out) hb); clear hb hbox hg; have hnb14 := NB477_468.out; have hnc14 := NB468_477.out; have hcz15_0 := bcv BK477.out 0 (.bool false); have hcz15_1 := bcv BK477.out 1 (.bool false); have hcz15_2 := bcv BK477.out 2 (.int .i64 0); have hcz15_3 := bcv BK477.out 3 (.int .i64 0); have hcz15_4 := bcv BK477.out 4 (.int .i64 0); have hcz15_5 := bcv BK477.out 5 (.string (⟨#[]⟩ : ByteArray)); have hfz15 := blk_frozen BK477.out))
              go_roundg k1
              case measure => have := HK1.out; omega
              case rel => exact ⟨(wrap64 (x3_1 + t474)), (wrap64 (x10_1 + 1)), EQ1, EQ1, H', ⟨by have := HK1.out; omega⟩, ⟨BA⟩⟩
            · rw [if_neg c6] at H
              have c6b0 := decide_eq_false c6
              clear c6
              have H' := Aside0.mk H
              clear H
              have p467 : 0 ≤ (x10_1 : Int) := DT
              have q467 : x10_1 < (l0.length : Int) := DT
              obtain ⟨ad467, e467, hx467_0, hx467_1, hx467_2, hx467_3⟩ := at_T104 HR0.out x10_1 p467 q467
              cases e467
              replace hx467_0 := (HB.out.cell (World.block_lt_of_cell? w _ hx467_0)).trans hx467_0
              replace hx467_1 := (HB.out.cell (World.block_lt_of_cell? w _ hx467_1)).trans hx467_1
              replace hx467_2 := (HB.out.cell (World.block_lt_of_cell? w _ hx467_2)).trans hx467_2
              replace hx467_3 := (HB.out.cell (World.block_lt_of_cell? w _ hx467_3)).trans hx467_3
              replace p467 := eq_true p467
              replace q467 := eq_true q467
              go_wp2_with (first | ((with_reducible refine gate_dst (N := 5) rfl ?_); refine box_event ?hg (N := 5) ?hd (cs := #[.string (⟨#[]⟩ : ByteArray), .int .i64 0, .int .i64 0, .int .i64 0]) (t := 104) ?hr ?_; (case hd => rfl); (case hg => rfl); (case hr => first | (go_simp; done) | (go_simp; rfl)); intro gb468 hg w16 hbox hb; have BK468 := Aside0.mk (hbox); have GW468 := Aside0.mk ((by rw [hg]; exact (below_size BA) : w.heap.size ≤ gb468)); have GE468 := Aside0.mk ((by rw [hg]; exact (below_size BA) : w.heap.size ≤ gb468)); replace HB := Aside0.mk (below_step BA hb); clear hb hbox hg; have hcz17_0 := bcv BK468.out 0 (.string (⟨#[]⟩ : ByteArray)); have hcz17_1 := bcv BK468.out 1 (.int .i64 0); have hcz17_2 := bcv BK468.out 2 (.int .i64 0); have hcz17_3 := bcv BK468.out 3 (.int .i64 0); have hfz17 := blk_frozen BK468.out) | ((with_reducible refine gate_callee (f := 125) rfl ?_); refine gK (some 16) Try.func125 #[.string ((rd_T104 l0 x10_1).f0)] rfl rfl rfl ?_; (with_reducible refine (impl_operands.calls k1 ((rd_T104 l0 x10_1).f0) t469 _ A5.out).mono ?_); rintro e w18 ⟨rfl, hb⟩; refine ⟨_, rfl, ?_⟩; replace BK468 := Aside0.mk (blk_below (g := gb468) (o := .cells #[.string ((rd_T104 l0 x10_1).f0), .int .i64 ((rd_T104 l0 x10_1).f1), .int .i64 ((rd_T104 l0 x10_1).f2), .int .i64 ((rd_T104 l0 x10_1).f3)] 104 (0, 0)) (by (with_reducible repeat (first | refine blk_drewN ?_ _ | refine blk_drew ?_ | refine blk_alloc ?_ _)); refine blk_put (cs := #[.string ((rd_T104 l0 x10_1).f0), .int .i64 ((rd_T104 l0 x10_1).f1), .int .i64 ((rd_T104 l0 x10_1).f2), .int .i64 0]) ?_ 3 _ rfl; (with_reducible repeat (first | refine blk_drewN ?_ _ | refine blk_drew ?_ | refine blk_alloc ?_ _)); refine blk_put (cs := #[.string ((rd_T104 l0 x10_1).f0), .int .i64 ((rd_T104 l0 x10_1).f1), .int .i64 0, .int .i64 0]) ?_ 2 _ rfl; (with_reducible repeat (first | refine blk_drewN ?_ _ | refine blk_drew ?_ | refine blk_alloc ?_ _)); refine blk_put (cs := #[.string ((rd_T104 l0 x10_1).f0), .int .i64 0, .int .i64 0, .int .i64 0]) ?_ 1 _ rfl; (with_reducible repeat (first | refine blk_drewN ?_ _ | refine blk_drew ?_ | refine blk_alloc ?_ _)); refine blk_put (cs := #[.string (⟨#[]⟩ : ByteArray), .int .i64 0, .int .i64 0, .int .i64 0]) ?_ 0 _ rfl; (with_reducible repeat (first | refine blk_drewN ?_ _ | refine blk_drew ?_ | refine blk_alloc ?_ _)); exact BK468.out) hb); replace HB := Aside0.mk (below_step BA hb); (try clear hb)))
              go_roundg k1
              case measure => have := HK1.out; omega
              case rel => exact ⟨(x3_1), (wrap64 (x10_1 + 1)), EQ1, EQ1, H', ⟨by have := HK1.out; omega⟩, ⟨BA⟩⟩
          · rw [if_neg c4] at H
            exact absurd H (by simp)
        · rw [if_neg c3] at H
          exact absurd H (by simp)
      · rw [if_neg c2] at H
        have c2b0 := decide_eq_false c2
        clear c2
        obtain rfl := Option.some.inj H
        go_wp2
        go_ret
        exact ⟨EQ, BA⟩

/-! ### impl_CostOfExpr: function 29 -/
def impl_CostOfExpr.f (k : Nat) (l0 : List (S104)) : Option (Int × Bool) := (impl_IsExpr.f k l0).bind fun t478 => (if t478 = true then ((impl_costOf.f k l0).bind fun t479 => (some (t479, true))) else (some (0, false)))
theorem impl_CostOfExpr.mono : ∀ a0 k, LeO (impl_CostOfExpr.f k a0) (impl_CostOfExpr.f (k + 1) a0) := by
  intro a0 k
  unfold impl_CostOfExpr.f
  repeat' first | (with_reducible first | exact impl_IsExpr.mono _ _ | exact impl_costOf.mono _ _ | exact LeO.refl _ | exact LeO.none _ | refine LeO.ite ?_ ?_ | refine LeO.bind ?_ (fun _ => ?_)) | exact LeO.none _ | refine LeO.ite ?_ ?_ | refine LeO.bind ?_ (fun _ => ?_)
set_option maxHeartbeats 8000000 in
set_option maxRecDepth 100000 in
theorem impl_CostOfExpr.calls (k : Nat) (A0 : Option Addr) (c0 : Nat) (l0 : List (S104)) (r1 : Int) (r2 : Bool) (w : World) (hr0 : Kd.C k104 w A0 l0.length l0) (hc0 : l0.length ≤ c0) (h : impl_CostOfExpr.f k l0 = some (r1, r2)) :
    Calls Try.prog 29 #[.slice A0 l0.length c0] w fun e w' => e = .returned (.tuple #[.int .i64 r1, .bool r2]) ∧ Below w.heap.size w w' := by
  have HR0 := Aside0.mk hr0
  have HC0 := Aside0.mk hc0
  clear hr0 hc0
  have HB := Aside0.mk (Below.refl w.heap.size w)
  have H : ((impl_IsExpr.f k l0).bind fun t478 => (if t478 = true then ((impl_costOf.f k l0).bind fun t479 => (some (t479, true))) else (some (0, false)))) = some (r1, r2) := h
  clear h
  replace H := Option.bind_eq_some_iff.mp H
  obtain ⟨t478, A20, H⟩ := H
  replace H : (if t478 = true then ((impl_costOf.f k l0).bind fun t479 => (some (t479, true))) else (some (0, false))) = some (r1, r2) := H
  have A2 := Aside0.mk A20
  clear A20
  by_cases c3 : t478 = true
  · subst c3
    have H1 : ((impl_costOf.f k l0).bind fun t479 => (some (t479, true))) = some (r1, r2) := by rw [if_pos rfl] at H; exact H
    clear H
    have H := H1
    clear H1
    replace H := Option.bind_eq_some_iff.mp H
    obtain ⟨t479, A40, H⟩ := H
    replace H : (some (t479, true)) = some (r1, r2) := H
    have A4 := Aside0.mk A40
    clear A40
    simp only [Option.some.injEq, Prod.mk.injEq] at H
    obtain ⟨rfl, rfl⟩ := H
    go_enter Try.func29, Try.ntmps29
    go_wp2_with (first | ((with_reducible refine gate_callee (f := 83) rfl ?_); refine gK (some 5) Try.func83 #[.slice A0 l0.length c0] rfl rfl rfl ?_; (with_reducible refine (impl_IsExpr.calls k _ _ l0 true _ ?side1 ?side2 A2.out).mono ?_); (case side1 => exact cb HR0.out); (case side2 => exact HC0.out); rintro e w5 ⟨rfl, hb⟩; refine ⟨_, rfl, ?_⟩; replace HB := Aside0.mk (below_step BA hb); (try clear hb)) | ((with_reducible refine gate_callee (f := 84) rfl ?_); refine gK (some 8) Try.func84 #[.slice A0 l0.length c0] rfl rfl rfl ?_; (with_reducible refine (impl_costOf.calls k _ _ l0 t479 _ ?side1 ?side2 A4.out).mono ?_); (case side1 => exact cb (Kd.C_below HR0.out HB.out)); (case side2 => exact HC0.out); rintro e w6 ⟨rfl, hb⟩; refine ⟨_, rfl, ?_⟩; replace HB := Aside0.mk (below_step BA hb); (try clear hb)))
    go_ret2
    exact ⟨EQ, BA⟩
  · replace c3 := Bool.eq_false_iff.mpr c3
    subst c3
    have H1 : (some (0, false)) = some (r1, r2) := by rw [if_neg (show ¬ (false = true) by decide)] at H; exact H
    clear H
    have H := H1
    clear H1
    simp only [Option.some.injEq, Prod.mk.injEq] at H
    obtain ⟨rfl, rfl⟩ := H
    go_enter Try.func29, Try.ntmps29
    go_wp2_with (first | ((with_reducible refine gate_callee (f := 83) rfl ?_); refine gK (some 5) Try.func83 #[.slice A0 l0.length c0] rfl rfl rfl ?_; (with_reducible refine (impl_IsExpr.calls k _ _ l0 false _ ?side1 ?side2 A2.out).mono ?_); (case side1 => exact cb HR0.out); (case side2 => exact HC0.out); rintro e w7 ⟨rfl, hb⟩; refine ⟨_, rfl, ?_⟩; replace HB := Aside0.mk (below_step BA hb); (try clear hb)))
    go_ret2
    exact ⟨EQ, BA⟩

/-! ### laws_FnExactCostOfExpr: function 6 -/
def laws_FnExactCostOfExpr.j0 : Nat → List (S101) → List (S104) → Bool → Option (Bool)
  | 0, _, _, _ => none
  | k + 1, x0, x6, x34 => if x34 = true then (some false) else ((laws_toNodeS.f k x0).bind fun t496 => ((laws_eqNodeS.f k x6 t496).bind fun t499 => (if t499 = true then (some true) else (some false))))
def laws_FnExactCostOfExpr.f (k : Nat) (l0 : List (S101)) : Option (Bool) := (laws_szNodeS.f k l0 1048576).bind fun t485 => (if t485 < 0 then (some true) else ((laws_toNodeS.f k l0).bind fun t486 => ((spec_CostOfExpr.f k t486).bind fun bt489 => ((laws_toNodeS.f k l0).bind fun t491 => ((impl_CostOfExpr.f k t491).bind fun bt494 => (if bt494.1 = bt489.1 then (laws_FnExactCostOfExpr.j0 k l0 t491 (bt494.2 != bt489.2)) else (laws_FnExactCostOfExpr.j0 k l0 t491 true)))))))
theorem laws_FnExactCostOfExpr.mono_l : ∀ k, (∀ y0 y1 y2, LeO (laws_FnExactCostOfExpr.j0 k y0 y1 y2) (laws_FnExactCostOfExpr.j0 (k + 1) y0 y1 y2))
  | 0 => fun _ _ _ r h => by simp [laws_FnExactCostOfExpr.j0] at h
  | k + 1 => by
    have ih0 := laws_FnExactCostOfExpr.mono_l k
    · intro y0 y1 y2
      unfold laws_FnExactCostOfExpr.j0
      repeat' first | (with_reducible first | exact ih0 _ _ _ | exact impl_CostOfExpr.mono _ _ | exact laws_eqNodeS.mono _ _ _ | exact laws_szNodeS.mono _ _ _ | exact laws_toNodeS.mono _ _ | exact spec_CostOfExpr.mono _ _ | exact LeO.refl _ | exact LeO.none _ | refine LeO.ite ?_ ?_ | refine LeO.bind ?_ (fun _ => ?_)) | exact LeO.none _ | refine LeO.ite ?_ ?_ | refine LeO.bind ?_ (fun _ => ?_)
theorem laws_FnExactCostOfExpr.mono : ∀ a0 k, LeO (laws_FnExactCostOfExpr.f k a0) (laws_FnExactCostOfExpr.f (k + 1) a0) := by
  intro a0 k
  have ih0 := laws_FnExactCostOfExpr.mono_l k
  unfold laws_FnExactCostOfExpr.f
  repeat' first | (with_reducible first | exact ih0 _ _ _ | exact impl_CostOfExpr.mono _ _ | exact laws_eqNodeS.mono _ _ _ | exact laws_szNodeS.mono _ _ _ | exact laws_toNodeS.mono _ _ | exact spec_CostOfExpr.mono _ _ | exact LeO.refl _ | exact LeO.none _ | refine LeO.ite ?_ ?_ | refine LeO.bind ?_ (fun _ => ?_)) | exact LeO.none _ | refine LeO.ite ?_ ?_ | refine LeO.bind ?_ (fun _ => ?_)
set_option maxHeartbeats 8000000 in
set_option maxRecDepth 100000 in
theorem laws_FnExactCostOfExpr.calls (k : Nat) (A0 : Option Addr) (c0 : Nat) (l0 : List (S101)) (r : Bool) (w : World) (hr0 : Kd.C k101 w A0 l0.length l0) (hc0 : l0.length ≤ c0) (h : laws_FnExactCostOfExpr.f k l0 = some r) :
    Calls Try.prog 6 #[.slice A0 l0.length c0] w fun e w' => e = .returned (.bool r) ∧ Below w.heap.size w w' := by
  have HR0 := Aside0.mk hr0
  have HC0 := Aside0.mk hc0
  clear hr0 hc0
  have HB := Aside0.mk (Below.refl w.heap.size w)
  have H : ((laws_szNodeS.f k l0 1048576).bind fun t485 => (if t485 < 0 then (some true) else ((laws_toNodeS.f k l0).bind fun t486 => ((spec_CostOfExpr.f k t486).bind fun bt489 => ((laws_toNodeS.f k l0).bind fun t491 => ((impl_CostOfExpr.f k t491).bind fun bt494 => (if bt494.1 = bt489.1 then (laws_FnExactCostOfExpr.j0 k l0 t491 (bt494.2 != bt489.2)) else (laws_FnExactCostOfExpr.j0 k l0 t491 true)))))))) = some r := h
  clear h
  replace H := Option.bind_eq_some_iff.mp H
  obtain ⟨t485, A20, H⟩ := H
  replace H : (if t485 < 0 then (some true) else ((laws_toNodeS.f k l0).bind fun t486 => ((spec_CostOfExpr.f k t486).bind fun bt489 => ((laws_toNodeS.f k l0).bind fun t491 => ((impl_CostOfExpr.f k t491).bind fun bt494 => (if bt494.1 = bt489.1 then (laws_FnExactCostOfExpr.j0 k l0 t491 (bt494.2 != bt489.2)) else (laws_FnExactCostOfExpr.j0 k l0 t491 true))))))) = some r := H
  have A2 := Aside0.mk A20
  clear A20
  by_cases c3 : t485 < 0
  · rw [if_pos c3] at H
    have c3b0 := decide_eq_true c3
    clear c3
    obtain rfl := Option.some.inj H
    go_enter Try.func6, Try.ntmps6
    go_wp2_with (first | ((with_reducible refine gate_callee (f := 26) rfl ?_); refine gK (some 11) Try.func26 #[.slice A0 l0.length c0, .int .i64 1048576] rfl rfl rfl ?_; (with_reducible refine (laws_szNodeS.calls k _ _ l0 1048576 t485 _ ?side1 ?side2 A2.out).mono ?_); (case side1 => exact cb HR0.out); (case side2 => exact HC0.out); rintro e w4 ⟨rfl, hb⟩; refine ⟨_, rfl, ?_⟩; replace HB := Aside0.mk (below_step BA hb); (try clear hb)))
    go_ret
    exact ⟨EQ, BA⟩
  · rw [if_neg c3] at H
    have c3b0 := decide_eq_false c3
    clear c3
    replace H := Option.bind_eq_some_iff.mp H
    obtain ⟨t486, A50, H⟩ := H
    replace H : ((spec_CostOfExpr.f k t486).bind fun bt489 => ((laws_toNodeS.f k l0).bind fun t491 => ((impl_CostOfExpr.f k t491).bind fun bt494 => (if bt494.1 = bt489.1 then (laws_FnExactCostOfExpr.j0 k l0 t491 (bt494.2 != bt489.2)) else (laws_FnExactCostOfExpr.j0 k l0 t491 true))))) = some r := H
    have A5 := Aside0.mk A50
    clear A50
    replace H := Option.bind_eq_some_iff.mp H
    obtain ⟨⟨t489, t490⟩, A60, H⟩ := H
    replace H : ((laws_toNodeS.f k l0).bind fun t491 => ((impl_CostOfExpr.f k t491).bind fun bt494 => (if bt494.1 = t489 then (laws_FnExactCostOfExpr.j0 k l0 t491 (bt494.2 != t490)) else (laws_FnExactCostOfExpr.j0 k l0 t491 true)))) = some r := H
    have A6 := Aside0.mk A60
    clear A60
    replace H := Option.bind_eq_some_iff.mp H
    obtain ⟨t491, A70, H⟩ := H
    replace H : ((impl_CostOfExpr.f k t491).bind fun bt494 => (if bt494.1 = t489 then (laws_FnExactCostOfExpr.j0 k l0 t491 (bt494.2 != t490)) else (laws_FnExactCostOfExpr.j0 k l0 t491 true))) = some r := H
    have A7 := Aside0.mk A70
    clear A70
    replace H := Option.bind_eq_some_iff.mp H
    obtain ⟨⟨t494, t495⟩, A80, H⟩ := H
    replace H : (if t494 = t489 then (laws_FnExactCostOfExpr.j0 k l0 t491 (t495 != t490)) else (laws_FnExactCostOfExpr.j0 k l0 t491 true)) = some r := H
    have A8 := Aside0.mk A80
    clear A80
    have HC9 := Aside0.mk H
    clear H
    go_enter Try.func6, Try.ntmps6
    go_upto_region 8 with (first | ((with_reducible refine gate_callee (f := 26) rfl ?_); refine gK (some 11) Try.func26 #[.slice A0 l0.length c0, .int .i64 1048576] rfl rfl rfl ?_; (with_reducible refine (laws_szNodeS.calls k _ _ l0 1048576 t485 _ ?side1 ?side2 A2.out).mono ?_); (case side1 => exact cb HR0.out); (case side2 => exact HC0.out); rintro e w10 ⟨rfl, hb⟩; refine ⟨_, rfl, ?_⟩; replace HB := Aside0.mk (below_step BA hb); (try clear hb)) | ((with_reducible refine gate_callee (f := 28) rfl ?_); refine gK (some 16) Try.func28 #[.slice A0 l0.length c0] rfl rfl rfl ?_; (with_reducible refine (laws_toNodeS.calls k _ _ l0 t486 _ ?side1 ?side2 A5.out).mono ?_); (case side1 => exact cb (Kd.C_below HR0.out HB.out)); (case side2 => exact HC0.out); rintro e w11 ⟨v487, rfl, ho0, hb⟩; refine ⟨_, rfl, ?_⟩; have HO488 := Aside0.mk (Kd.R_lower ho0 (below_size BA)); replace HB := Aside0.mk (below_step BA hb); (try clear hb); (try clear ho0); obtain ⟨Ao12, co12, eo12⟩ := Kd.R_slice HO488.out; subst eo12) | ((with_reducible refine gate_callee (f := 27) rfl ?_); refine gK (some 17) Try.func27 #[.slice Ao12 t486.length co12] rfl rfl rfl ?_; (with_reducible refine (spec_CostOfExpr.calls k _ _ t486 t489 t490 _ ?side1 ?side2 A6.out).mono ?_); (case side1 => exact cb (Kd.R_reads' HO488.out).2.2); (case side2 => exact (Kd.R_reads' HO488.out).2.1); rintro e w13 ⟨rfl, hb⟩; refine ⟨_, rfl, ?_⟩; replace HO488 := Aside0.mk (Kd.R_below (by (with_reducible repeat (first | apply Kd.R_alloc | apply Kd.R_drewN | apply Kd.R_drew)); exact HO488.out) hb); replace HB := Aside0.mk (below_step BA hb); (try clear hb)) | ((with_reducible refine gate_callee (f := 28) rfl ?_); refine gK (some 21) Try.func28 #[.slice A0 l0.length c0] rfl rfl rfl ?_; (with_reducible refine (laws_toNodeS.calls k _ _ l0 t491 _ ?side1 ?side2 A7.out).mono ?_); (case side1 => exact cb (Kd.C_below HR0.out HB.out)); (case side2 => exact HC0.out); rintro e w14 ⟨v492, rfl, ho0, hb⟩; refine ⟨_, rfl, ?_⟩; have HO493 := Aside0.mk (Kd.R_lower (Kd.R_new' ho0 (Kd.R_lt (by (with_reducible repeat (first | apply Kd.R_alloc | apply Kd.R_drewN | apply Kd.R_drew)); exact HO488.out))) (below_size BA)); replace HO488 := Aside0.mk (Kd.R_elder' (by (with_reducible repeat (first | apply Kd.R_alloc | apply Kd.R_drewN | apply Kd.R_drew)); exact HO488.out) (Kd.R_base ho0) hb); replace HB := Aside0.mk (below_step BA hb); (try clear hb); (try clear ho0); obtain ⟨Ao15, co15, eo15⟩ := Kd.R_slice HO493.out; subst eo15) | ((with_reducible refine gate_callee (f := 29) rfl ?_); refine gK (some 24) Try.func29 #[.slice Ao15 t491.length co15] rfl rfl rfl ?_; (with_reducible refine (impl_CostOfExpr.calls k _ _ t491 t494 t495 _ ?side1 ?side2 A8.out).mono ?_); (case side1 => exact cb (Kd.R_reads' HO493.out).2.2); (case side2 => exact (Kd.R_reads' HO493.out).2.1); rintro e w16 ⟨rfl, hb⟩; refine ⟨_, rfl, ?_⟩; replace HO488 := Aside0.mk (Kd.R_below (by (with_reducible repeat (first | apply Kd.R_alloc | apply Kd.R_drewN | apply Kd.R_drew)); exact HO488.out) hb); replace HO493 := Aside0.mk (Kd.R_below (by (with_reducible repeat (first | apply Kd.R_alloc | apply Kd.R_drewN | apply Kd.R_drew)); exact HO493.out) hb); replace HB := Aside0.mk (below_step BA hb); (try clear hb)))
    (try simp only [Act.put, List.setIfInBounds_toArray, List.set_cons_zero, List.set_cons_succ])
    go_cut [34] (fun v34 wc => ∃ (kq : Nat) (x34_8 : Bool), v34 = .bool x34_8 ∧ Aside0 (laws_FnExactCostOfExpr.j0 kq l0 t491 x34_8 = some r) ∧ Aside0 (kq ≤ k) ∧ Aside0 (Kd.R k104 104 wc w.heap.size (fun _ => True) (.slice Ao15 t491.length co15) t491) ∧ Aside0 (Below w.heap.size w wc))
    case first =>
      have H := HC9.out
      clear HC9
      by_cases c17 : t494 = t489
      · rw [if_pos c17] at H
        have c17b0 := beq_iff_eq.mpr c17
        have c17b1 := bne_eq_false_iff_eq.mpr c17
        clear c17
        (first | rw [c17b0] | (simp only [i64_w, i32_w]; rw [c17b0]) | skip)
        have H' := Aside0.mk H
        clear H
        go_wp2
        go_meet
        case rel => exact ⟨_, ((t495 != t490)), EQ1, H', ⟨by first | omega | exact Nat.le_refl _⟩, ⟨by (with_reducible repeat (first | apply Kd.R_alloc | apply Kd.R_drewN | apply Kd.R_drew)); exact Kd.R_mono HO493.out (fun _ hk => trivial)⟩, ⟨BA⟩⟩
      · rw [if_neg c17] at H
        have c17b0 := beq_eq_false_iff_ne.mpr c17
        have c17b1 := bne_iff_ne.mpr c17
        (first | rw [c17b0] | (simp only [i64_w, i32_w]; rw [c17b0]) | skip)
        have H' := Aside0.mk H
        clear H
        go_wp2
        go_meet
        case rel => exact ⟨_, (true), EQ1, H', ⟨by first | omega | exact Nat.le_refl _⟩, ⟨by (with_reducible repeat (first | apply Kd.R_alloc | apply Kd.R_drewN | apply Kd.R_drew)); exact Kd.R_mono HO493.out (fun _ hk => trivial)⟩, ⟨BA⟩⟩
    case rest =>
      clear HC9
      (try clear c1); (try clear c2); (try clear p2); (try clear c3); (try clear c3b0); (try clear c6); (try clear c17); (try clear c17b0); (try clear c17b1)
      obtain ⟨kq, x34_8, rfl, HA, HJ8, HO_6, HB⟩ := hcut
      cases kq with
      | zero => exact absurd HA.out (by simp [laws_FnExactCostOfExpr.j0])
      | succ kj8 =>
        have H := HA.out
        clear HA
        simp only [laws_FnExactCostOfExpr.j0] at H
        by_cases c18 : x34_8 = true
        · subst c18
          have H1 : (some false) = some r := by rw [if_pos rfl] at H; exact H
          clear H
          have H := H1
          clear H1
          obtain rfl := Option.some.inj H
          go_wp2
          go_ret
          exact ⟨EQ, BA⟩
        · replace c18 := Bool.eq_false_iff.mpr c18
          subst c18
          have H1 : ((laws_toNodeS.f kj8 l0).bind fun t496 => ((laws_eqNodeS.f kj8 t491 t496).bind fun t499 => (if t499 = true then (some true) else (some false)))) = some r := by rw [if_neg (show ¬ (false = true) by decide)] at H; exact H
          clear H
          have H := H1
          clear H1
          replace H := Option.bind_eq_some_iff.mp H
          obtain ⟨t496, A190, H⟩ := H
          replace H : ((laws_eqNodeS.f kj8 t491 t496).bind fun t499 => (if t499 = true then (some true) else (some false))) = some r := H
          have A19 := Aside0.mk A190
          clear A190
          replace H := Option.bind_eq_some_iff.mp H
          obtain ⟨t499, A200, H⟩ := H
          replace H : (if t499 = true then (some true) else (some false)) = some r := H
          have A20 := Aside0.mk A200
          clear A200
          by_cases c21 : t499 = true
          · subst c21
            have H1 : (some true) = some r := by rw [if_pos rfl] at H; exact H
            clear H
            have H := H1
            clear H1
            obtain rfl := Option.some.inj H
            go_wp2_with (first | ((with_reducible refine gate_callee (f := 28) rfl ?_); refine gK (some 37) Try.func28 #[.slice A0 l0.length c0] rfl rfl rfl ?_; (with_reducible refine (laws_toNodeS.calls kj8 _ _ l0 t496 _ ?side1 ?side2 A19.out).mono ?_); (case side1 => exact cb (Kd.C_below HR0.out HB.out)); (case side2 => exact HC0.out); rintro e w22 ⟨v497, rfl, ho0, hb⟩; refine ⟨_, rfl, ?_⟩; have HO498 := Aside0.mk (Kd.R_lower (Kd.R_new' ho0 (Kd.R_lt (by (with_reducible repeat (first | apply Kd.R_alloc | apply Kd.R_drewN | apply Kd.R_drew)); exact HO_6.out))) (below_size BA)); replace HO_6 := Aside0.mk (Kd.R_elder' (by (with_reducible repeat (first | apply Kd.R_alloc | apply Kd.R_drewN | apply Kd.R_drew)); exact HO_6.out) (Kd.R_base ho0) hb); replace HB := Aside0.mk (below_step BA hb); (try clear hb); (try clear ho0); obtain ⟨Ao23, co23, eo23⟩ := Kd.R_slice HO498.out; subst eo23) | ((with_reducible refine gate_callee (f := 30) rfl ?_); refine gK (some 38) Try.func30 #[.slice Ao15 t491.length co15, .slice Ao23 t496.length co23] rfl rfl rfl ?_; (with_reducible refine (laws_eqNodeS.calls kj8 _ _ t491 _ _ t496 true _ ?side1 ?side2 ?side3 ?side4 A20.out).mono ?_); (case side1 => exact cb (Kd.R_reads' HO_6.out).2.2); (case side2 => exact (Kd.R_reads' HO_6.out).2.1); (case side3 => exact cb (Kd.R_reads' HO498.out).2.2); (case side4 => exact (Kd.R_reads' HO498.out).2.1); rintro e w24 ⟨rfl, hb⟩; refine ⟨_, rfl, ?_⟩; replace HO_6 := Aside0.mk (Kd.R_below (by (with_reducible repeat (first | apply Kd.R_alloc | apply Kd.R_drewN | apply Kd.R_drew)); exact HO_6.out) hb); replace HO498 := Aside0.mk (Kd.R_below (by (with_reducible repeat (first | apply Kd.R_alloc | apply Kd.R_drewN | apply Kd.R_drew)); exact HO498.out) hb); replace HB := Aside0.mk (below_step BA hb); (try clear hb)))
            go_ret
            exact ⟨EQ, BA⟩
          · replace c21 := Bool.eq_false_iff.mpr c21
            subst c21
            have H1 : (some false) = some r := by rw [if_neg (show ¬ (false = true) by decide)] at H; exact H
            clear H
            have H := H1
            clear H1
            obtain rfl := Option.some.inj H
            go_wp2_with (first | ((with_reducible refine gate_callee (f := 28) rfl ?_); refine gK (some 37) Try.func28 #[.slice A0 l0.length c0] rfl rfl rfl ?_; (with_reducible refine (laws_toNodeS.calls kj8 _ _ l0 t496 _ ?side1 ?side2 A19.out).mono ?_); (case side1 => exact cb (Kd.C_below HR0.out HB.out)); (case side2 => exact HC0.out); rintro e w25 ⟨v497, rfl, ho0, hb⟩; refine ⟨_, rfl, ?_⟩; have HO498 := Aside0.mk (Kd.R_lower (Kd.R_new' ho0 (Kd.R_lt (by (with_reducible repeat (first | apply Kd.R_alloc | apply Kd.R_drewN | apply Kd.R_drew)); exact HO_6.out))) (below_size BA)); replace HO_6 := Aside0.mk (Kd.R_elder' (by (with_reducible repeat (first | apply Kd.R_alloc | apply Kd.R_drewN | apply Kd.R_drew)); exact HO_6.out) (Kd.R_base ho0) hb); replace HB := Aside0.mk (below_step BA hb); (try clear hb); (try clear ho0); obtain ⟨Ao26, co26, eo26⟩ := Kd.R_slice HO498.out; subst eo26) | ((with_reducible refine gate_callee (f := 30) rfl ?_); refine gK (some 38) Try.func30 #[.slice Ao15 t491.length co15, .slice Ao26 t496.length co26] rfl rfl rfl ?_; (with_reducible refine (laws_eqNodeS.calls kj8 _ _ t491 _ _ t496 false _ ?side1 ?side2 ?side3 ?side4 A20.out).mono ?_); (case side1 => exact cb (Kd.R_reads' HO_6.out).2.2); (case side2 => exact (Kd.R_reads' HO_6.out).2.1); (case side3 => exact cb (Kd.R_reads' HO498.out).2.2); (case side4 => exact (Kd.R_reads' HO498.out).2.1); rintro e w27 ⟨rfl, hb⟩; refine ⟨_, rfl, ?_⟩; replace HO_6 := Aside0.mk (Kd.R_below (by (with_reducible repeat (first | apply Kd.R_alloc | apply Kd.R_drewN | apply Kd.R_drew)); exact HO_6.out) hb); replace HO498 := Aside0.mk (Kd.R_below (by (with_reducible repeat (first | apply Kd.R_alloc | apply Kd.R_drewN | apply Kd.R_drew)); exact HO498.out) hb); replace HB := Aside0.mk (below_step BA hb); (try clear hb)))
            go_ret
            exact ⟨EQ, BA⟩

end Go.Proofs.Ytefipbekabmncaa.Pa
