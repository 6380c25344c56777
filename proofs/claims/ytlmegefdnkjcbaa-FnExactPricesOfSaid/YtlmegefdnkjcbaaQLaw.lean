/- What the laws do with lists of nodes beside the calls: copies, comparisons, weights. -/
import Derived.Test.YtlmegefdnkjcbaaQExpr
import Derived.Test.YtlmegefdnkjcbaaPa1
import Derived.Test.YtlmegefdnkjcbaaPa4
import Derived.Test.YtlmegefdnkjcbaaPa9
namespace Go.Proofs.Ytlmegefdnkjcbaa.Pa
open Go.RowKit Go.Proofs.YtlmegefdnkjcbaaW.PrintWords Go.Proofs.YtlmegefdnkjcbaaW.PrintLast Go.Proofs.YtlmegefdnkjcbaaW.PrintMore
set_option linter.unusedVariables false
set_option linter.unusedSimpArgs false
/-- what the reading tells of a list of the law's nodes -/
def okLN (x : S51) : Prop := (x.f0.size ≤ maxLen) ∧ ((Lit.int .i64 x.f1).wf = true) ∧ ((Lit.int .i64 x.f2).wf = true) ∧ ((Lit.int .i64 x.f3).wf = true)
def okNodes (l : List S51) : Prop := l.length ≤ maxLen ∧ ∀ x ∈ l, okLN x
/-- the program's nodes out of the law's -/
def conv (l : List S51) : List S54 := l.map fun n => ⟨n.f0, n.f1, n.f2, n.f3⟩
theorem conv_len (l : List S51) : (conv l).length = l.length := by simp [conv]
theorem rdL_at (l : List S51) (i : Nat) (h : i < l.length) : rd_T51 l (i : Int) = l[i] := by
  unfold rd_T51
  simp [List.getD_eq_getElem?_getD, List.getElem?_eq_getElem h]
theorem toNodeS_ev (l : List S51) (hl : l.length ≤ 7036874417766) : Ev (fun k => laws_toNodeS.f k l) (conv l) := by
  unfold laws_toNodeS.f
  refine Ev.pos (by omega) (Ev.pos (by omega) ?_)
  have key := Ev.loop l.length (fun k i => laws_toNodeS.l0 k l ((conv l).take i ++ List.replicate ((conv l).length - i) z54) (i : Int)) (fun _ => conv l) ?_ ?_ 0 (by omega)
  · simpa [conv_len] using key
  · refine Ev.step (fun k => by rw [laws_toNodeS.l0]) (Ev.neg (by omega) (Ev.ret ?_))
    rw [List.take_of_length_le (by rw [conv_len]; omega), conv_len, Nat.sub_self]; simp
  · intro i hi ih
    refine Ev.step (fun k => by rw [laws_toNodeS.l0]) (Ev.pos (by omega) (Ev.pos (by omega) ?_))
    rw [rdL_at _ _ hi]
    refine Ev.here _ rfl (Ev.pos ?_ ?_)
    · simp [conv_len]; omega
    · rw [next_ok i _ hi (by omega)]
      have hs := set_step (conv l) z54 i (by rw [conv_len]; exact hi)
      rw [show ((i : Int)).toNat = i from by omega]
      have he : (conv l)[i]'(by rw [conv_len]; exact hi) = ⟨l[i].f0, l[i].f1, l[i].f2, l[i].f3⟩ := by simp [conv]
      rw [he] at hs
      rw [hs]
      exact ih
theorem eqNode_self (n : S54) : laws_eqNode.f n.f0 n.f1 n.f2 n.f3 n.f0 n.f1 n.f2 n.f3 = some true := by unfold laws_eqNode.f; simp
theorem eqNodeS_self (e : List S54) (hl : e.length ≤ 9223372036854775000) : Ev (fun k => laws_eqNodeS.f k e e) true := by
  unfold laws_eqNodeS.f
  refine Ev.pos rfl ?_
  have key := Ev.loop e.length (fun k i => laws_eqNodeS.l0 k e e (i : Int)) (fun _ => true) ?_ ?_ 0 (by omega)
  · simpa using key
  · exact Ev.step (fun k => by rw [laws_eqNodeS.l0]) (Ev.neg (by omega) (Ev.now _))
  · intro i hi ih
    refine Ev.step (fun k => by rw [laws_eqNodeS.l0]) (Ev.pos (by omega) (Ev.pos (by omega) (Ev.pos (by omega) ?_)))
    rw [rdT_at _ _ hi]
    refine Ev.here true (eqNode_self _) ?_
    rw [next_ok i _ hi hl]
    exact Ev.pos rfl ih
theorem szNode_f (n : S51) (a : Int) (h0 : 0 ≤ a) (h1 : a ≤ 1048576) (hs : n.f0.size ≤ maxLen) : ∃ r, laws_szNode.f n.f0 n.f1 n.f2 n.f3 a = some r ∧ r ≤ a := by
  unfold maxLen at hs
  unfold laws_szNode.f
  rw [wrap_ok (by omega) (by omega)]
  by_cases h : a - (n.f0.size : Int) < 0
  · exact ⟨-1, if_pos h, by omega⟩
  · exact ⟨_, if_neg h, by omega⟩
theorem szNodeS_loop (l : List S51) (hl : l.length ≤ 1048576) (hs : ∀ n ∈ l, n.f0.size ≤ maxLen) : ∀ (d : Nat) (i : Nat) (a : Int), i + d = l.length → 0 ≤ a → a ≤ 1048576 → ∃ r, Ev (fun k => laws_szNodeS.l0 k l a (i : Int)) r ∧ r ≤ a := by
  intro d
  induction d with
  | zero => intro i a h h0 h1; exact ⟨a, Ev.step (fun k => by rw [laws_szNodeS.l0]) (Ev.neg (by omega) (Ev.now _)), by omega⟩
  | succ d ih =>
    intro i a h h0 h1
    have hi : i < l.length := by omega
    obtain ⟨r, hr, hle⟩ := szNode_f l[i] a h0 h1 (hs _ (List.getElem_mem hi))
    by_cases hn : r < 0
    · refine ⟨-1, Ev.step (fun k => by rw [laws_szNodeS.l0]) (Ev.pos (by omega) (Ev.pos (by omega) ?_)), by omega⟩
      rw [rdL_at _ _ hi]
      exact Ev.here r hr (Ev.pos hn (Ev.now _))
    · obtain ⟨q, hq, hqle⟩ := ih (i + 1) r (by omega) (by omega) (by omega)
      refine ⟨q, Ev.step (fun k => by rw [laws_szNodeS.l0]) (Ev.pos (by omega) (Ev.pos (by omega) ?_)), by omega⟩
      rw [rdL_at _ _ hi]
      refine Ev.here r hr (Ev.neg hn ?_)
      rw [next_ok i _ hi (by omega)]
      exact hq
/-- the weight that is left behind a list of nodes: below 0 if there is too much -/
theorem szNodeS_ev (l : List S51) (a : Int) (h0 : 0 ≤ a) (h1 : a ≤ 1048576) (hok : okNodes l) : ∃ r, Ev (fun k => laws_szNodeS.f k l a) r ∧ r ≤ a ∧ (0 ≤ r → l.length ≤ 1048576) := by
  obtain ⟨hl, hs'⟩ := hok
  have hs : ∀ n ∈ l, n.f0.size ≤ maxLen := fun n hn => (hs' n hn).1
  unfold maxLen at hl
  unfold laws_szNodeS.f
  rw [wrap_ok (x := a - (l.length : Int)) (by omega) (by omega)]
  by_cases h : a - (l.length : Int) < 0
  · exact ⟨-1, Ev.pos h (Ev.now _), by omega, by omega⟩
  · obtain ⟨r, hr, hle⟩ := szNodeS_loop l (by omega) hs l.length 0 (a - (l.length : Int)) (by omega) (by omega) (by omega)
    exact ⟨r, Ev.neg h hr, by omega, by omega⟩
end Go.Proofs.Ytlmegefdnkjcbaa.Pa
