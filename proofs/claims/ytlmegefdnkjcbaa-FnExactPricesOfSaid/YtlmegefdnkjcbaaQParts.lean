/- The parts and inner nodes of a tile lie below its node; its cost. -/
import Derived.Test.YtlmegefdnkjcbaaQTileI
import Derived.Test.YtlmegefdnkjcbaaPa12
namespace Go.Proofs.Ytlmegefdnkjcbaa.Pa
open Go.RowKit Go.Proofs.YtlmegefdnkjcbaaW.PrintWords Go.Proofs.YtlmegefdnkjcbaaW.PrintLast Go.Proofs.YtlmegefdnkjcbaaW.PrintMore
set_option linter.unusedVariables false
set_option linter.unusedSectionVars false
set_option linter.unusedSimpArgs false
section
variable {e : List S54} {i : Int} (hg : good e = true) (h0 : 0 ≤ i) (h1 : i < e.length)
include hg h0 h1
theorem parts_in {t : Int} {p q : List Int} (h : tileM e i t = some (p, q)) : p.length ≤ 2 ∧ q.length ≤ 2 ∧ (∀ x ∈ p, 0 ≤ x ∧ x < i) ∧ (∀ x ∈ q, 0 ≤ x ∧ x < i) := by
  have hn := good_at hg h0 h1
  have hc : ∀ (b : Bool) (m : S54) (S : List Int) (x y : Int), (b = true → (0 ≤ x ∧ x < i) ∧ (0 ≤ y ∧ y < i)) → constM b m S x y = some (p, q) → p.length ≤ 2 ∧ q.length ≤ 2 ∧ (∀ x ∈ p, 0 ≤ x ∧ x < i) ∧ (∀ x ∈ q, 0 ≤ x ∧ x < i) := by
    intro b m S x y hb h
    unfold constM at h
    split at h
    · rename_i hb'
      split at h
      · cases h; have := hb hb'; simp; exact this
      · cases h
    · cases h
  have hd : ∀ (pl dp : Int) (op : List UInt8) (S : List Int), (0 ≤ pl ∧ pl < i) → (0 ≤ dp ∧ dp < i) → op ∈ ([[97, 100, 100], [115, 117, 98], [109, 117, 108], [97, 110, 100], [111, 114], [120, 111, 114], [115, 104, 108], [115, 104, 114], [108, 101, 115, 115], [101, 113]] : List (List UInt8)) → deepM e pl dp op S = some (p, q) → p.length ≤ 2 ∧ q.length ≤ 2 ∧ (∀ x ∈ p, 0 ≤ x ∧ x < i) ∧ (∀ x ∈ q, 0 ≤ x ∧ x < i) := by
    intro pl dp op S hp hq ho h
    unfold deepM at h
    split at h
    · rename_i hop
      have h2 := two_parts (good_at hg hq.1 (by omega)) (isTwo_of_mem (hop ▸ ho))
      split at h
      · cases h
        simp only [List.length_cons, List.length_nil, List.mem_cons, List.not_mem_nil, or_false]
        refine ⟨by omega, by omega, ?_, ?_⟩ <;> (intro x hx; rcases hx with rfl | rfl <;> omega)
      · cases h
    · cases h
  unfold tileM at h
  simp only at h
  have two : ∀ {s : List UInt8}, (rd_T54 e i).f0.toList = s → s ∈ ([[97, 100, 100], [115, 117, 98], [109, 117, 108], [97, 110, 100], [111, 114], [120, 111, 114], [115, 104, 108], [115, 104, 114], [108, 101, 115, 115], [101, 113]] : List (List UInt8)) → (0 ≤ (rd_T54 e i).f1 ∧ (rd_T54 e i).f1 < i) ∧ (0 ≤ (rd_T54 e i).f2 ∧ (rd_T54 e i).f2 < i) := fun hs hm => two_parts hn (two_of_eq hs hm)
  have sw : ∀ {a b : Prop}, a ∧ b → b ∧ a := fun h => ⟨h.2, h.1⟩
  by_cases t0 : t = 0
  · rw [if_pos t0] at h
    split at h
    · cases h; simp
    · cases h
  rw [if_neg t0] at h
  by_cases t1 : t = 1
  · rw [if_pos t1] at h
    split at h
    · cases h; simp
    · cases h
  rw [if_neg t1] at h
  by_cases t2 : t = 2
  · rw [if_pos t2] at h
    split at h
    · rename_i ho; cases h; have := one_part hn ho; simp; exact this
    · cases h
  rw [if_neg t2] at h
  by_cases t3 : t = 3
  · rw [if_pos t3] at h
    split at h
    · rename_i ho; cases h; have := two_parts hn ho
      simp only [List.length_cons, List.length_nil, List.mem_cons, List.not_mem_nil, or_false]
      refine ⟨by omega, by omega, ?_, fun x hx => hx.elim⟩
      intro x hx; rcases hx with rfl | rfl <;> omega
    · cases h
  rw [if_neg t3] at h
  by_cases t4 : t = 4
  · rw [if_pos t4] at h; exact hc _ _ _ _ _ (fun hb => two_parts hn (two_of_in hb)) h
  rw [if_neg t4] at h
  by_cases t5 : t = 5
  · rw [if_pos t5] at h; exact hc _ _ _ _ _ (fun hb => sw (two_parts hn (two_of_in hb))) h
  rw [if_neg t5] at h
  by_cases t6 : t = 6
  · rw [if_pos t6] at h; exact hc _ _ _ _ _ (fun hb => two_parts hn (two_of_in hb)) h
  rw [if_neg t6] at h
  by_cases t7 : t = 7
  · rw [if_pos t7] at h; exact hc _ _ _ _ _ (fun hb => two (beq_iff_eq.mp hb) (by decide)) h
  rw [if_neg t7] at h
  by_cases t8 : t = 8
  · rw [if_pos t8] at h; exact hc _ _ _ _ _ (fun hb => sw (two (beq_iff_eq.mp hb) (by decide))) h
  rw [if_neg t8] at h
  by_cases t9 : t = 9
  · rw [if_pos t9] at h
    split at h
    · rename_i ha; have := two ha (by decide); exact hd _ _ _ _ this.1 this.2 (by decide) h
    · cases h
  rw [if_neg t9] at h
  by_cases t10 : t = 10
  · rw [if_pos t10] at h
    split at h
    · rename_i ha; have := two ha (by decide); exact hd _ _ _ _ this.2 this.1 (by decide) h
    · cases h
  rw [if_neg t10] at h
  by_cases t11 : t = 11
  · rw [if_pos t11] at h
    split at h
    · rename_i ha; have := two ha (by decide); exact hd _ _ _ _ this.1 this.2 (by decide) h
    · cases h
  rw [if_neg t11] at h
  by_cases t12 : t = 12
  · rw [if_pos t12] at h
    split at h
    · rename_i ha; have := two ha (by decide); exact hd _ _ _ _ this.2 this.1 (by decide) h
    · cases h
  rw [if_neg t12] at h
  cases h
theorem cvCost_f (t : Int) : spec_cvCost.f e i t = some (costT e i t) := by
  unfold spec_cvCost.f costT
  by_cases a : t = 0
  · rw [if_pos a, if_pos a]
  · rw [if_neg a, if_neg a]
    by_cases b : t = 3
    · rw [if_pos b, if_pos b, if_pos h0, if_pos h1, cdCost_f]; rfl
    · rw [if_neg b, if_neg b]
end
end Go.Proofs.Ytlmegefdnkjcbaa.Pa
