/- ComputesExpr of the program and of the reference answer alike: the plain law. -/
import Derived.Test.YtefipbekabmncaaQDiff
import Derived.Test.YtefipbekabmncaaPa13
namespace Go.Proofs.Ytefipbekabmncaa.Pa
open Go.RowKit Go.Proofs.YtefipbekabmncaaW.PrintWords Go.Proofs.YtefipbekabmncaaW.PrintLast Go.Proofs.YtefipbekabmncaaW.PrintMore
set_option linter.unusedVariables false
set_option linter.unusedSimpArgs false
def computesV (e : List S104) (c : List S80) (r : Int) : Bool × Bool := if askedB e c r = true then (!(firstFrom e c r 4096 0).2.2, true) else (false, false)
theorem specComputes_ev (e : List S104) (c : List S80) (r : Int) (hl : e.length ≤ 9223372036854775807) (hl2 : c.length ≤ 9223372036854775000) : Ev (fun k => spec_ComputesExpr.f k e c r) (computesV e c r) := by
  unfold spec_ComputesExpr.f computesV
  refine Ev.bindB _ (seAsked_ev e c r hl hl2) ?_
  by_cases h : askedB e c r = true
  · exact Ev.pos h (Ev.map (seDifference_ev e c r h) (by rw [if_pos h]))
  · exact Ev.neg h (Ev.ret (by rw [if_neg h]))
theorem implComputes_ev (e : List S104) (c : List S80) (r : Int) (hl : e.length ≤ 9223372036854775807) (hl2 : c.length ≤ 9223372036854775000) : Ev (fun k => impl_ComputesExpr.f k e c r) (computesV e c r) := by
  unfold impl_ComputesExpr.f computesV
  refine Ev.bindB _ (implDifference_ev e c r hl hl2) (Ev.bindB _ (isExpr_ev e hl) ?_)
  unfold diffV askedB
  cases hg : good e with
  | false => exact Ev.neg (by simp) (Ev.ret (by simp))
  | true =>
    refine Ev.pos rfl (Ev.bindB _ (isCode_ev c hl2) ?_)
    cases hc : codeOk c with
    | false => exact Ev.neg (by simp) (Ev.ret (by simp))
    | true =>
      refine Ev.pos rfl (Ev.here _ (isRegister_f _) ?_)
      cases hr : regB r with
      | false => exact Ev.neg (by simp) (Ev.ret (by simp))
      | true => exact Ev.pos rfl (Ev.ret (by simp))
theorem computesExpr_pure (l : List S101) (m : List S78) (r : Int) (h : okNodes l) (hm : okInstrs m) (hr : (Lit.int .i64 r).wf = true) : ∃ k, laws_FnExactComputesExpr.f k l m r = some true := by
  refine Ev.rounds ?_
  unfold laws_FnExactComputesExpr.f
  obtain ⟨x, hx, hxle, hxlen⟩ := szNodeS_ev l 1048576 (by omega) (by omega) h
  refine Ev.bindB _ hx ?_
  by_cases hn : x < 0
  · exact Ev.pos hn (Ev.now _)
  · have hl := hxlen (by omega)
    have hc := conv_len l
    obtain ⟨y, hy, hyle, hylen⟩ := szInstrS_ev m x (by omega) (by omega) hm
    refine Ev.neg hn (Ev.bindB _ hy ?_)
    by_cases hn2 : y < 0
    · exact Ev.pos hn2 (Ev.now _)
    · have hl2 := hylen (by omega)
      have hc2 := convI_len m
      refine Ev.neg hn2 (Ev.bindB _ (toNodeS_ev l (by omega)) (Ev.bindB _ (toInstrS_ev m (by omega)) (Ev.bindB _ (specComputes_ev _ _ r (by omega) (by omega)) (Ev.bindB _ (toNodeS_ev l (by omega)) (Ev.bindB _ (toInstrS_ev m (by omega)) (Ev.bindB _ (implComputes_ev _ _ r (by omega) (by omega)) (Ev.neg (by simp) ?_)))))))
      rw [show ((computesV (conv l) (convI m) r).2 != (computesV (conv l) (convI m) r).2) = false from by simp]
      refine Ev.step (fun k => by rw [laws_FnExactComputesExpr.j0]) (Ev.neg (by simp) (Ev.bindB _ (toNodeS_ev l (by omega)) (Ev.bindB _ (eqNodeS_self (conv l) (by omega)) (Ev.pos rfl (Ev.bindB _ (toInstrS_ev m (by omega)) (Ev.bindB _ (eqInstrS_self (convI m) (by omega)) (Ev.pos rfl (Ev.now _))))))))
end Go.Proofs.Ytefipbekabmncaa.Pa
