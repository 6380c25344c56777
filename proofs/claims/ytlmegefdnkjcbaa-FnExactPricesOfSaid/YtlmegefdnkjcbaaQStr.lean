/- Lists of texts that are searched; numbers within bounds. -/
import Derived.Test.YtlmegefdnkjcbaaQBase
import Derived.Test.YtlmegefdnkjcbaaPa1
import Derived.Test.YtlmegefdnkjcbaaPa3
import Derived.Test.YtlmegefdnkjcbaaPa4
namespace Go.Proofs.Ytlmegefdnkjcbaa.Pa
open Go.RowKit Go.Proofs.YtlmegefdnkjcbaaW.PrintWords Go.Proofs.YtlmegefdnkjcbaaW.PrintLast Go.Proofs.YtlmegefdnkjcbaaW.PrintMore
set_option linter.unusedVariables false
set_option linter.unusedSimpArgs false

/-- is a text among these -/
def isIn (l : List ByteArray) (s : ByteArray) : Bool := l.any fun x => x.toList == s.toList
theorem l1HasS_loop (s : ByteArray) (l : List ByteArray) (hl : l.length ≤ 9223372036854775000) : ∀ i, i ≤ l.length → Ev (fun k => spec_l1HasS.l0 k s l (l.length : Int) (i : Int)) (isIn (l.drop i) s) := by
  refine Ev.loop l.length (fun k i => spec_l1HasS.l0 k s l (l.length : Int) (i : Int)) (fun i => isIn (l.drop i) s) ?_ ?_
  · exact Ev.step (fun k => by rw [spec_l1HasS.l0]) (Ev.neg (by omega) (Ev.ret (by rw [List.drop_eq_nil_of_le (by omega)]; rfl)))
  · intro i hi ih
    refine Ev.step (fun k => by rw [spec_l1HasS.l0]) (Ev.pos (by omega) (Ev.pos (by omega) (Ev.pos (by omega) ?_)))
    rw [rdOf_at _ _ _ hi, next_ok i _ hi hl]
    by_cases c : l[i].toList = s.toList
    · exact Ev.pos c (Ev.ret (by rw [drop_at _ _ hi]; unfold isIn; rw [List.any_cons]; simp [c]))
    · exact Ev.neg c (Ev.eq ih (by rw [drop_at _ _ hi]; unfold isIn; rw [List.any_cons]; simp [c]))
theorem l1HasS_ev (l : List ByteArray) (s : ByteArray) (hl : l.length ≤ 9223372036854775000) : Ev (fun k => spec_l1HasS.f k l s) (isIn l s) := l1HasS_loop s l hl 0 (by omega)
theorem index_loop (l : List ByteArray) (s : ByteArray) (hl : l.length ≤ 9223372036854775000) : ∀ (d : Nat) (i : Nat), i + d = l.length →
    ∃ r : Int, Ev (fun k => slices_Index_string_string.l0 k l s (l.length : Int) (i : Int)) r ∧ (0 ≤ r ↔ isIn (l.drop i) s = true) := by
  intro d
  induction d with
  | zero =>
    intro i h
    refine ⟨-1, Ev.step (fun k => by rw [slices_Index_string_string.l0]) (Ev.neg (by omega) (Ev.now _)), ?_⟩
    rw [List.drop_eq_nil_of_le (by omega)]; simp [isIn]
  | succ d ih =>
    intro i h
    have hi : i < l.length := by omega
    by_cases c : l[i].toList = s.toList
    · refine ⟨i, Ev.step (fun k => by rw [slices_Index_string_string.l0]) (Ev.pos (by omega) (Ev.pos (by omega) (Ev.pos (by omega) (Ev.pos (by rw [rdOf_at _ _ _ hi]; exact c.symm) (Ev.now _))))), ?_⟩
      rw [drop_at _ _ hi]; unfold isIn; rw [List.any_cons]; simp [c]
    · obtain ⟨r, hev, hiff⟩ := ih (i + 1) (by omega)
      refine ⟨r, Ev.step (fun k => by rw [slices_Index_string_string.l0]) (Ev.pos (by omega) (Ev.pos (by omega) (Ev.pos (by omega) (Ev.neg (by rw [rdOf_at _ _ _ hi]; exact fun h => c h.symm) (by rw [next_ok i _ hi hl]; exact hev))))), ?_⟩
      rw [hiff, drop_at _ _ hi]; unfold isIn; rw [List.any_cons]; simp [c]
theorem contains_ev (l : List ByteArray) (s : ByteArray) (hl : l.length ≤ 9223372036854775000) : Ev (fun k => slices_Contains_string_string.f k l s) (isIn l s) := by
  obtain ⟨r, hev, hiff⟩ := index_loop l s hl l.length 0 (by omega)
  refine Ev.map (f := fun r : Int => decide (r ≥ 0)) (a := r) hev ?_
  rw [Bool.eq_iff_iff, decide_eq_true_iff]
  exact hiff

/-- is a number within these bounds -/
def inB (n lo hi : Int) : Bool := decide (lo ≤ n) && decide (n ≤ hi)
theorem l1In_f (n lo hi : Int) : spec_l1In.f n lo hi = some (inB n lo hi) := by
  unfold spec_l1In.f inB
  by_cases h : lo ≤ n
  · rw [if_pos h]; simp [h]
  · rw [if_neg h]; simp [h]
theorem within_f (n lo hi : Int) : impl_within.f n lo hi = some (inB n lo hi) := by
  unfold impl_within.f inB
  by_cases h : lo ≤ n
  · rw [if_pos h]; simp [h]
  · rw [if_neg h]; simp [h]
theorem exWord_f (n : Int) : spec_exWord.f n = some (inB n 0 63) := by unfold spec_exWord.f; rw [l1In_f]; rfl
theorem isWord_f (n : Int) : impl_isWord.f n = some (inB n 0 63) := by unfold impl_isWord.f; rw [within_f]; rfl
end Go.Proofs.Ytlmegefdnkjcbaa.Pa
