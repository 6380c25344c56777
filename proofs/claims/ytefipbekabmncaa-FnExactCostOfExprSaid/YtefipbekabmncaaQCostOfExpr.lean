/- CostOfExpr of the program and of the reference answer alike: the plain law. -/
import Derived.Test.YtefipbekabmncaaQLaw
import Derived.Test.YtefipbekabmncaaPa11
import Derived.Test.YtefipbekabmncaaPa4
namespace Go.Proofs.Ytefipbekabmncaa.Pa
open Go.RowKit Go.Proofs.YtefipbekabmncaaW.PrintWords Go.Proofs.YtefipbekabmncaaW.PrintLast Go.Proofs.YtefipbekabmncaaW.PrintMore
set_option linter.unusedVariables false
set_option linter.unusedSimpArgs false
/-- the cost of an op -/
def opCost (s : ByteArray) : Int := if s.toList = ([109, 117, 108] : List UInt8) then 4 else if s.toList = ([115, 104, 108] : List UInt8) then 2 else if s.toList = ([115, 104, 114] : List UInt8) then 2 else 1
theorem cdCost_f (s : ByteArray) : spec_cdCost.f s = some (opCost s) := by
  unfold spec_cdCost.f opCost
  split
  · rfl
  · split
    · rfl
    · split <;> rfl
theorem formOf_cost {s : ByteArray} (h : arity s > 0) : ∃ r, impl_formOf.f s = some r ∧ r.2.2.2.2.1 = opCost s := by
  have hs : isOne s = true ∨ isTwo s = true := by
    rcases arity_cases s with ⟨ha, _⟩ | ⟨ha, _⟩ | ⟨_, h1, _⟩ | ⟨_, _, h2⟩
    · omega
    · omega
    · exact .inl h1
    · exact .inr h2
  rcases hs with h1 | h2
  · rcases isOne_mem h1 with e | e <;> exact ⟨_, by unfold impl_formOf.f; simp [e]; rfl, by unfold opCost; simp [e]⟩
  · have hm := isTwo_mem h2
    simp only [List.mem_cons, List.not_mem_nil, or_false] at hm
    rcases hm with e | e | e | e | e | e | e | e | e | e <;> exact ⟨_, by unfold impl_formOf.f; simp [e]; rfl, by unfold opCost; simp [e]⟩
def addCost (c : Int) (n : S104) : Int := if arity n.f0 > 0 then wrap64 (c + opCost n.f0) else c
def costE (e : List S104) : Int := e.foldl addCost 0
theorem parts_pos (n : S104) : ((partsOf n).length : Int) > 0 ↔ arity n.f0 > 0 := by
  unfold partsOf
  rcases arity_cases n.f0 with ⟨ha, _⟩ | ⟨ha, _⟩ | ⟨ha, _⟩ | ⟨ha, _⟩ <;> rw [ha] <;> simp
theorem ruCost_ev (e : List S104) (hl : e.length ≤ 9223372036854775000) : Ev (fun k => spec_ruCost.f k e) (costE e) := by
  unfold spec_ruCost.f
  have key := Ev.loop e.length (fun k i => spec_ruCost.l0 k ((e.take i).foldl addCost 0) e (e.length : Int) (i : Int)) (fun _ => costE e) ?_ ?_ 0 (by omega)
  · simpa using key
  · exact Ev.step (fun k => by rw [spec_ruCost.l0]) (Ev.neg (by omega) (Ev.ret (by rw [List.take_of_length_le (Nat.le_refl _)]; rfl)))
  · intro i hi ih
    refine Ev.step (fun k => by rw [spec_ruCost.l0]) (Ev.pos (by omega) (Ev.pos (by omega) (Ev.pos (by omega) ?_)))
    rw [rdT_at _ _ hi, next_ok i _ hi hl]
    rw [take_fold addCost e _ i hi] at ih
    refine Ev.bindB _ (exParts_ev e[i]) ?_
    by_cases h : arity e[i].f0 > 0
    · refine Ev.pos ((parts_pos _).2 h) (Ev.here _ (cdCost_f _) ?_)
      unfold addCost at ih
      rw [if_pos h] at ih
      exact ih
    · refine Ev.neg (fun z => h ((parts_pos _).1 z)) ?_
      rw [show addCost ((e.take i).foldl addCost 0) e[i] = (e.take i).foldl addCost 0 from by rw [addCost, if_neg h]] at ih
      exact ih
theorem costOf_ev (e : List S104) (hl : e.length ≤ 9223372036854775000) : Ev (fun k => impl_costOf.f k e) (costE e) := by
  unfold impl_costOf.f
  have key := Ev.loop e.length (fun k i => impl_costOf.l0 k ((e.take i).foldl addCost 0) e (e.length : Int) (i : Int)) (fun _ => costE e) ?_ ?_ 0 (by omega)
  · simpa using key
  · exact Ev.step (fun k => by rw [impl_costOf.l0]) (Ev.neg (by omega) (Ev.ret (by rw [List.take_of_length_le (Nat.le_refl _)]; rfl)))
  · intro i hi ih
    refine Ev.step (fun k => by rw [impl_costOf.l0]) (Ev.pos (by omega) (Ev.pos (by omega) (Ev.pos (by omega) ?_)))
    rw [rdT_at _ _ hi, next_ok i _ hi hl]
    rw [take_fold addCost e _ i hi] at ih
    refine Ev.bindB _ (operands_ev e[i].f0) ?_
    by_cases h : arity e[i].f0 > 0
    · obtain ⟨r, hr, hc⟩ := formOf_cost h
      refine Ev.pos h (Ev.here _ hr ?_)
      rw [hc]
      rw [show addCost ((e.take i).foldl addCost 0) e[i] = wrap64 ((e.take i).foldl addCost 0 + opCost e[i].f0) from by rw [addCost, if_pos h]] at ih
      exact ih
    · refine Ev.neg h ?_
      rw [show addCost ((e.take i).foldl addCost 0) e[i] = (e.take i).foldl addCost 0 from by rw [addCost, if_neg h]] at ih
      exact ih
def costV (e : List S104) : Int × Bool := if good e = true then (costE e, true) else (0, false)
theorem good_len {e : List S104} (h : good e = true) : 1 ≤ e.length ∧ e.length ≤ 24 := by
  simp [good, inB] at h
  omega
theorem specCost_ev (e : List S104) (hl : e.length ≤ 9223372036854775807) : Ev (fun k => spec_CostOfExpr.f k e) (costV e) := by
  unfold spec_CostOfExpr.f costV
  refine Ev.bindB _ (exGood_ev e hl) ?_
  by_cases h : good e = true
  · have := good_len h
    exact Ev.pos h (Ev.map (f := fun c => (c, true)) (ruCost_ev e (by omega)) (by rw [if_pos h]))
  · exact Ev.neg h (Ev.ret (by rw [if_neg h]))
theorem implCost_ev (e : List S104) (hl : e.length ≤ 9223372036854775807) : Ev (fun k => impl_CostOfExpr.f k e) (costV e) := by
  unfold impl_CostOfExpr.f costV
  refine Ev.bindB _ (isExpr_ev e hl) ?_
  by_cases h : good e = true
  · have := good_len h
    exact Ev.pos h (Ev.map (f := fun c => (c, true)) (costOf_ev e (by omega)) (by rw [if_pos h]))
  · exact Ev.neg h (Ev.ret (by rw [if_neg h]))
theorem costOfExpr_pure (l : List S101) (h : okNodes l) : ∃ k, laws_FnExactCostOfExpr.f k l = some true := by
  refine Ev.rounds ?_
  unfold laws_FnExactCostOfExpr.f
  obtain ⟨r, hr, hle, hlen⟩ := szNodeS_ev l 1048576 (by omega) (by omega) h
  refine Ev.bindB _ hr ?_
  by_cases hn : r < 0
  · exact Ev.pos hn (Ev.now _)
  · have hl := hlen (by omega)
    have hc := conv_len l
    refine Ev.neg hn (Ev.bindB _ (toNodeS_ev l (by omega)) (Ev.bindB _ (specCost_ev _ (by omega)) (Ev.bindB _ (toNodeS_ev l (by omega)) (Ev.bindB _ (implCost_ev _ (by omega)) (Ev.pos rfl ?_)))))
    rw [show ((costV (conv l)).2 != (costV (conv l)).2) = false from by simp]
    refine Ev.step (fun k => by rw [laws_FnExactCostOfExpr.j0]) (Ev.neg (by simp) (Ev.bindB _ (toNodeS_ev l (by omega)) (Ev.bindB _ (eqNodeS_self (conv l) (by omega)) (Ev.pos rfl (Ev.now _)))))
end Go.Proofs.Ytefipbekabmncaa.Pa
