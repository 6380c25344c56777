/- The table of ops: what the form of an op is, in the program and in the reference. -/
import Derived.Test.YtefipbekabmncaaQSide
import Derived.Test.YtefipbekabmncaaPa4
import Derived.Test.YtefipbekabmncaaPa6
namespace Go.Proofs.Ytefipbekabmncaa.Pa
open Go.RowKit Go.Proofs.YtefipbekabmncaaW.PrintWords Go.Proofs.YtefipbekabmncaaW.PrintLast Go.Proofs.YtefipbekabmncaaW.PrintMore
set_option linter.unusedVariables false
set_option linter.unusedSimpArgs false
/-- a loop that ends with false at the first place where a test fails -/
theorem Ev.allB (n : Nat) (g : Nat → Nat → Option Bool) (c : Nat → Bool) (R : Bool) (hend : Ev (fun k => g k n) R) (hstep : ∀ i, i < n → ∀ v, Ev (fun k => g k (i + 1)) v → Ev (fun k => g k i) (c i && v)) : Ev (fun k => g k 0) ((List.range n).all c && R) := by
  have key : ∀ (d i : Nat), i + d = n → Ev (fun k => g k i) ((List.range' i d).all c && R) := by
    intro d
    induction d with
    | zero => intro i h; obtain rfl : i = n := by omega
              simpa using hend
    | succ d ih =>
      intro i h
      refine Ev.eq (hstep i (by omega) _ (ih (i + 1) (by omega))) ?_
      rw [List.range'_succ, List.all_cons, Bool.and_assoc]
  rw [List.range_eq_range']
  exact key n 0 (by omega)
/-- what the form of an op is -/
def formV (s : ByteArray) : Bool × Bool × Int × Int × Int × ByteArray × Bool := (impl_formOf.f s).getD (false, false, 0, 0, 0, ByteArray.empty, false)
theorem op_cases (s : ByteArray) (Q : Prop) (h : ∀ o ∈ ([[115, 101, 116], [109, 111, 118], [110, 111, 116], [110, 101, 103], [97, 100, 100], [115, 117, 98], [109, 117, 108], [97, 110, 100], [111, 114], [120, 111, 114], [115, 104, 108], [115, 104, 114], [108, 101, 115, 115], [101, 113], [97, 100, 100, 105], [97, 110, 100, 105], [120, 111, 114, 105], [115, 104, 108, 105], [115, 104, 114, 105], [108, 101, 97]] : List (List UInt8)), s.toList = o → Q) (h' : (∀ o ∈ ([[115, 101, 116], [109, 111, 118], [110, 111, 116], [110, 101, 103], [97, 100, 100], [115, 117, 98], [109, 117, 108], [97, 110, 100], [111, 114], [120, 111, 114], [115, 104, 108], [115, 104, 114], [108, 101, 115, 115], [101, 113], [97, 100, 100, 105], [97, 110, 100, 105], [120, 111, 114, 105], [115, 104, 108, 105], [115, 104, 114, 105], [108, 101, 97]] : List (List UInt8)), s.toList ≠ o) → Q) : Q := by
  by_cases c : s.toList ∈ ([[115, 101, 116], [109, 111, 118], [110, 111, 116], [110, 101, 103], [97, 100, 100], [115, 117, 98], [109, 117, 108], [97, 110, 100], [111, 114], [120, 111, 114], [115, 104, 108], [115, 104, 114], [108, 101, 115, 115], [101, 113], [97, 100, 100, 105], [97, 110, 100, 105], [120, 111, 114, 105], [115, 104, 108, 105], [115, 104, 114, 105], [108, 101, 97]] : List (List UInt8))
  · exact h _ c rfl
  · exact h' fun o ho e => c (e ▸ ho)
theorem formOf_f (s : ByteArray) : impl_formOf.f s = some (formV s) := by
  have : ∃ r, impl_formOf.f s = some r := by
    refine op_cases s _ (fun o ho e => ?_) (fun hn => ?_)
    · simp only [List.mem_cons, List.not_mem_nil, or_false] at ho
      rcases ho with rfl | rfl | rfl | rfl | rfl | rfl | rfl | rfl | rfl | rfl | rfl | rfl | rfl | rfl | rfl | rfl | rfl | rfl | rfl | rfl <;> exact ⟨_, by unfold impl_formOf.f; simp [e]; rfl⟩
    · simp only [List.forall_mem_cons, List.not_mem_nil, false_imp_iff, implies_true, and_true] at hn
      exact ⟨_, by unfold impl_formOf.f; simp [hn]; rfl⟩
  obtain ⟨r, h⟩ := this
  unfold formV
  rw [h]; rfl
def known (s : ByteArray) : Bool := (formV s).2.2.2.2.2.2
def fLow (s : ByteArray) : Int := (formV s).2.2.1
def fHigh (s : ByteArray) : Int := (formV s).2.2.2.1
def immB (s : ByteArray) : Bool := known s && decide (fLow s ≤ fHigh s)
def shapeV (s : ByteArray) : Bool × Bool × Bool × Int × Int := (known s, (formV s).1, (formV s).2.1, if fLow s ≤ fHigh s then fLow s else 0, if fLow s ≤ fHigh s then fHigh s else 0)
theorem formV_of {s : ByteArray} {r : Bool × Bool × Int × Int × Int × ByteArray × Bool} (h : impl_formOf.f s = some r) : formV s = r := by unfold formV; rw [h]; rfl
theorem formV_none {s : ByteArray} (h : ∀ o ∈ ([[115, 101, 116], [109, 111, 118], [110, 111, 116], [110, 101, 103], [97, 100, 100], [115, 117, 98], [109, 117, 108], [97, 110, 100], [111, 114], [120, 111, 114], [115, 104, 108], [115, 104, 114], [108, 101, 115, 115], [101, 113], [97, 100, 100, 105], [97, 110, 100, 105], [120, 111, 114, 105], [115, 104, 108, 105], [115, 104, 114, 105], [108, 101, 97]] : List (List UInt8)), s.toList ≠ o) : formV s = (false, false, 0, 0, 0, (⟨#[]⟩ : ByteArray), false) := by
  simp only [List.forall_mem_cons, List.not_mem_nil, false_imp_iff, implies_true, and_true] at h
  exact formV_of (by unfold impl_formOf.f; simp [h])
theorem cdShape_ev (s : ByteArray) : Ev (fun k => spec_cdShape.f k s) (shapeV s) := by
  refine ⟨6, fun k hk => ?_⟩
  obtain ⟨d, rfl⟩ : ∃ d, k = d + 6 := ⟨k - 6, by omega⟩
  refine op_cases s _ (fun o ho e => ?_) (fun hn => ?_)
  · simp only [List.mem_cons, List.not_mem_nil, or_false] at ho
    have hf := formOf_f s
    unfold shapeV known fLow fHigh
    rcases ho with rfl | rfl | rfl | rfl | rfl | rfl | rfl | rfl | rfl | rfl | rfl | rfl | rfl | rfl | rfl | rfl | rfl | rfl | rfl | rfl <;>
      (unfold impl_formOf.f at hf; simp [e] at hf; rw [← hf]; simp [spec_cdShape.f, spec_cdShape.j0, spec_cdShape.j1, spec_cdShape.j2, spec_cdShape.j3, e])
  · unfold shapeV known fLow fHigh
    rw [formV_none hn]
    simp only [List.forall_mem_cons, List.not_mem_nil, false_imp_iff, implies_true, and_true] at hn
    simp [spec_cdShape.f, spec_cdShape.j0, spec_cdShape.j1, spec_cdShape.j2, spec_cdShape.j3, hn]
end Go.Proofs.Ytefipbekabmncaa.Pa
