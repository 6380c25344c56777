/- Plain texts: what the functions answer (part 1). -/
import Derived.Test.YtafjengmkiepbaaGreatKP0
section
/- In a tree each node is an operand once: the parts of a tile and its inner nodes are apart. -/
namespace Go.Proofs.YtafjengmkiepbaaGreat.Am
open Go
set_option linter.unusedVariables false
set_option linter.unusedSimpArgs false

theorem ops_at {e : List Nd} {i : Nat} (hi : i < e.length) (k : Nat) : (pN e[i]).count k ≤ (opsOfL e).count k := by
  have h : e = e.take i ++ (e[i] :: e.drop (i + 1)) := by rw [← drop_at _ i hi, List.take_append_drop]
  have h2 : opsOfL e = opsOfL (e.take i) ++ (pN e[i] ++ opsOfL (e.drop (i + 1))) := by
    conv => lhs; rw [h]
    unfold opsOfL
    rw [List.flatMap_append, List.flatMap_cons]
  rw [h2, List.count_append, List.count_append]
  omega
theorem ops_two {e : List Nd} {i j : Nat} (hij : i < j) (hj : j < e.length) (k : Nat) : (pN e[i]).count k + (pN e[j]).count k ≤ (opsOfL e).count k := by
  have hi : i < e.length := by omega
  have h : e = e.take i ++ (e[i] :: e.drop (i + 1)) := by rw [← drop_at _ i hi, List.take_append_drop]
  have h2 : opsOfL e = opsOfL (e.take i) ++ (pN e[i] ++ opsOfL (e.drop (i + 1))) := by
    conv => lhs; rw [h]
    unfold opsOfL
    rw [List.flatMap_append, List.flatMap_cons]
  have hd : j - (i + 1) < (e.drop (i + 1)).length := by rw [List.length_drop]; omega
  have h3 := ops_at hd k
  have h4 : (e.drop (i + 1))[j - (i + 1)] = e[j] := by
    rw [List.getElem_drop]
    congr 1
    omega
  rw [h4] at h3
  rw [h2, List.count_append, List.count_append]
  omega
/-- two operands of a node are apart -/
theorem apart1 {e : List Nd} (ht : treeOk e = true) {i : Nat} (hi : i < e.length) (h2 : isTwo e[i].1 = true) : e[i].2.1 ≠ e[i].2.2.1 := by
  obtain ⟨hn, l1, l2, ho⟩ := treeOk_parts ht
  have hk := nodesOk_get e 0 hn i hi
  rw [Nat.zero_add] at hk
  have hp := two_parts hk h2
  intro q
  have h := ops_at hi e[i].2.1.toNat
  have hc := once_count (by omega) hn ho e[i].2.1.toNat (by omega)
  have : pN e[i] = [e[i].2.1.toNat, e[i].2.1.toNat] := by
    unfold pN partsOf
    rw [arity_two h2, if_neg (by decide), if_pos rfl, ← q]; rfl
  rw [this] at h
  simp at h
  omega
/-- operands of two nodes are apart -/
theorem apart2 {e : List Nd} (ht : treeOk e = true) {i j : Nat} (hij : i < j) (hj : j < e.length) {p : Int} (h1 : p ∈ partsOf e[i]) (h2 : p ∈ partsOf e[j]) : False := by
  obtain ⟨hn, l1, l2, ho⟩ := treeOk_parts ht
  have hk := nodesOk_get e 0 hn i (by omega)
  rw [Nat.zero_add] at hk
  have hp := nodeOk_parts hk p h1
  have h := ops_two hij hj p.toNat
  have hc := once_count (by omega) hn ho p.toNat (by omega)
  have a : 1 ≤ (pN e[i]).count p.toNat := List.one_le_count_iff.2 (List.mem_map.2 ⟨p, h1, rfl⟩)
  have b : 1 ≤ (pN e[j]).count p.toNat := List.one_le_count_iff.2 (List.mem_map.2 ⟨p, h2, rfl⟩)
  omega
theorem parts_two {n : Nd} (h : isTwo n.1 = true) : partsOf n = [n.2.1, n.2.2.1] := by
  unfold partsOf
  rw [arity_two h, if_neg (by decide), if_pos rfl]
/-- what a tile tells: its parts are below its node, its inner nodes too, and apart from the parts -/
structure Fair (i : Nat) (p q : List Int) : Prop where
  two : p.length ≤ 2
  low : ∀ x ∈ p, 0 ≤ x ∧ x < (i : Int)
  inn : ∀ x ∈ q, x < (i : Int)
  dis : ∀ x ∈ p, x ∉ q
  len : q.length ≤ 2
theorem tile_fair {e : List Nd} (ht : treeOk e = true) {i : Nat} (hi : i < e.length) {t : Int} {p q : List Int} (h : tileM e (i : Int) t = some (p, q)) : Fair i p q := by
  obtain ⟨hn, l1, l2, ho⟩ := treeOk_parts ht
  have hpp := tile_parts hn hi h
  have hk : nodeOk (ndAt e i) (i : Int) = true := ndAt_ok hn (by omega) (by omega)
  have ei : ndAt e (i : Int) = e[i] := ndAt_nat hi
  have tw : isTwo (ndAt e i).1 = true → ((0 ≤ (ndAt e i).2.1 ∧ (ndAt e i).2.1 < i) ∧ 0 ≤ (ndAt e i).2.2.1 ∧ (ndAt e i).2.2.1 < i) ∧ (ndAt e i).2.1 ≠ (ndAt e i).2.2.1 := fun c =>
    ⟨two_parts hk c, by have := apart1 ht hi (by rw [← ei]; exact c); rwa [← ei] at this⟩
  have mem : isTwo (ndAt e i).1 = true → (ndAt e i).2.1 ∈ partsOf e[i] ∧ (ndAt e i).2.2.1 ∈ partsOf e[i] := fun c => by
    rw [ei] at c ⊢
    rw [parts_two c]; simp
  have nul : q = [] → Fair i p q := fun c => by subst c; exact ⟨hpp.1, hpp.2, by simp, by simp, by simp⟩
  have cst : ∀ {b : Bool} {m : Nd} {S : List Int} {a c : Int}, (b = true → c < i ∧ a ≠ c) → constM b m S a c = some (p, q) → Fair i p q := fun ha hc => by
    unfold constM at hc
    split at hc
    · rename_i k
      simp only [Option.some.injEq, Prod.mk.injEq] at hc
      obtain ⟨rfl, rfl⟩ := hc
      obtain ⟨h1, h2⟩ := ha k.1
      exact ⟨hpp.1, hpp.2, fun x hx => by rw [List.mem_singleton] at hx; subst hx; exact h1, fun x hx hq => by rw [List.mem_singleton] at hx hq; subst hx; exact h2 hq, by simp⟩
    · cases hc
  have dp : ∀ {b : Bool} {a d : Int} {op : ByteArray} {S : List Int}, isTwo op = true → (b = true → (0 ≤ d ∧ d < i) ∧ a ≠ d ∧ a ∈ partsOf e[i]) → deepM e b a d op S = some (p, q) → Fair i p q := fun {b a d op S} ho2 ha hc => by
    unfold deepM at hc
    split at hc
    · rename_i k
      simp only [Option.some.injEq, Prod.mk.injEq] at hc
      obtain ⟨rfl, rfl⟩ := hc
      obtain ⟨h1, h2, h3⟩ := ha k.1
      obtain ⟨n, rfl⟩ : ∃ n : Nat, d = (n : Int) := ⟨d.toNat, by omega⟩
      have hnl : n < e.length := by omega
      have en : ndAt e (n : Int) = e[n] := ndAt_nat hnl
      have ht2 : isTwo e[n].1 = true := by rw [← en, k.2.1]; exact ho2
      have hb := two_parts (ndAt_ok hn h1.1 (by omega)) (by rw [k.2.1]; exact ho2)
      have h4 := apart1 ht hnl ht2
      rw [← en] at h4
      have h5 : a ≠ (ndAt e (n : Int)).2.2.1 := fun q => apart2 ht (i := n) (j := i) (by omega) hi (p := a) (by rw [parts_two ht2, q, en]; simp) h3
      refine ⟨hpp.1, hpp.2, fun x hx => ?_, fun x hx hq => ?_, by simp⟩
      · simp only [List.mem_cons, List.not_mem_nil, or_false] at hx
        rcases hx with rfl | rfl <;> omega
      · simp only [List.mem_cons, List.not_mem_nil, or_false] at hx hq
        rcases hx with rfl | rfl
        · rcases hq with h | h
          · exact h5 h
          · exact h2 h
        · rcases hq with h | h
          · exact h4 h
          · omega
    · cases hc
  unfold tileM tileN at h
  by_cases t0 : t = 0
  · rw [if_pos t0] at h
    split at h
    · simp only [Option.some.injEq, Prod.mk.injEq] at h; exact nul h.2.symm
    · cases h
  rw [if_neg t0] at h
  by_cases t1 : t = 1
  · rw [if_pos t1] at h
    split at h
    · simp only [Option.some.injEq, Prod.mk.injEq] at h; exact nul h.2.symm
    · cases h
  rw [if_neg t1] at h
  by_cases t2 : t = 2
  · rw [if_pos t2] at h
    split at h
    · simp only [Option.some.injEq, Prod.mk.injEq] at h; exact nul h.2.symm
    · cases h
  rw [if_neg t2] at h
  by_cases t3 : t = 3
  · rw [if_pos t3] at h
    split at h
    · simp only [Option.some.injEq, Prod.mk.injEq] at h; exact nul h.2.symm
    · cases h
  rw [if_neg t3] at h
  by_cases t4 : t = 4
  · rw [if_pos t4] at h; exact cst (fun c => have w := tw (in4 c); ⟨w.1.2.2, w.2⟩) h
  rw [if_neg t4] at h
  by_cases t5 : t = 5
  · rw [if_pos t5] at h; exact cst (fun c => have w := tw (in5 c); ⟨w.1.1.2, w.2.symm⟩) h
  rw [if_neg t5] at h
  by_cases t6 : t = 6
  · rw [if_pos t6] at h; exact cst (fun c => have w := tw (in6 c); ⟨w.1.2.2, w.2⟩) h
  rw [if_neg t6] at h
  by_cases t7 : t = 7
  · rw [if_pos t7] at h; exact cst (fun c => have w := tw (by rw [of_decide_eq_true c]; decide); ⟨w.1.2.2, w.2⟩) h
  rw [if_neg t7] at h
  by_cases t8 : t = 8
  · rw [if_pos t8] at h; exact cst (fun c => have w := tw (by rw [of_decide_eq_true c]; decide); ⟨w.1.1.2, w.2.symm⟩) h
  rw [if_neg t8] at h
  have ad : decide ((ndAt e (i : Int)).1 = tAdd) = true → isTwo (ndAt e (i : Int)).1 = true := fun c => by rw [of_decide_eq_true c]; decide
  by_cases t9 : t = 9
  · rw [if_pos t9] at h; exact dp (by decide) (fun c => have w := tw (ad c); ⟨w.1.2, w.2, (mem (ad c)).1⟩) h
  rw [if_neg t9] at h
  by_cases t10 : t = 10
  · rw [if_pos t10] at h; exact dp (by decide) (fun c => have w := tw (ad c); ⟨w.1.1, w.2.symm, (mem (ad c)).2⟩) h
  rw [if_neg t10] at h
  by_cases t11 : t = 11
  · rw [if_pos t11] at h; exact dp (by decide) (fun c => have w := tw (ad c); ⟨w.1.2, w.2, (mem (ad c)).1⟩) h
  rw [if_neg t11] at h
  by_cases t12 : t = 12
  · rw [if_pos t12] at h; exact dp (by decide) (fun c => have w := tw (ad c); ⟨w.1.1, w.2.symm, (mem (ad c)).2⟩) h
  rw [if_neg t12] at h
  cases h
/-- each node has the plain tile of its kind -/
def plainT (n : Nd) : Int := if n.1 = tIn then 0 else if n.1 = tConst then 1 else if isOne n.1 = true then 2 else 3
theorem plain_some {e : List Nd} {i : Nat} (hn : nodesOk e 0 = true) (hi : i < e.length) : (tileM e (i : Int) (plainT e[i])).isSome = true := by
  have hk := nodesOk_get e 0 hn i hi
  rw [Nat.zero_add] at hk
  unfold tileM tileN plainT
  rw [ndAt_nat hi]
  by_cases c0 : e[i].1 = tIn
  · rw [if_pos c0, if_pos rfl, if_pos c0]; rfl
  rw [if_neg c0]
  by_cases c1 : e[i].1 = tConst
  · rw [if_pos c1, if_neg (by decide), if_pos rfl, if_pos c1]; rfl
  rw [if_neg c1]
  by_cases c2 : isOne e[i].1 = true
  · rw [if_pos c2, if_neg (by decide), if_neg (by decide), if_pos rfl, if_pos c2]; rfl
  · rw [if_neg c2, if_neg (by decide), if_neg (by decide), if_neg (by decide), if_pos rfl]
    unfold nodeOk at hk
    rw [if_neg c0, if_neg c1, if_neg c2] at hk
    simp only [Bool.and_eq_true] at hk
    rw [if_pos hk.1.1.1]; rfl
theorem tCost_le (e : List Nd) (i t : Int) : tCost e i t ≤ 4 := by
  unfold tCost tCostN
  have := opCost_pos (ndAt e i).1
  split
  · omega
  · split <;> omega
end Go.Proofs.YtafjengmkiepbaaGreat.Am
end
section
/- In a tree the parts of a tile lie below its node, apart from each other; the nodes that a cover takes are all different. -/
namespace Go.Proofs.YtafjengmkiepbaaGreat.Am
open Go
set_option linter.unusedVariables false
set_option linter.unusedSimpArgs false
section
variable {e : List Nd}
/-- each part is an operand of the node, or an operand of an inner node that is one; no part stands there twice -/
def Shape (e : List Nd) (i : Nat) (hi : i < e.length) (p q : List Int) : Prop :=
  (∀ x ∈ p, x ∈ partsOf e[i] ∨ ∃ (d : Nat) (hd : d < e.length), d < i ∧ (d : Int) ∈ partsOf e[i] ∧ x ∈ partsOf e[d] ∧ (d : Int) ∈ q) ∧ p.Nodup
theorem tile_shape (ht : treeOk e = true) {i : Nat} (hi : i < e.length) {t : Int} {p q : List Int} (h : tileM e (i : Int) t = some (p, q)) : Shape e i hi p q := by
  obtain ⟨hn, l1, l2, ho⟩ := treeOk_parts ht
  have hk : nodeOk (ndAt e i) (i : Int) = true := ndAt_ok hn (by omega) (by omega)
  have ei : ndAt e (i : Int) = e[i] := ndAt_nat hi
  have mem : isTwo (ndAt e i).1 = true → (ndAt e i).2.1 ∈ partsOf e[i] ∧ (ndAt e i).2.2.1 ∈ partsOf e[i] := fun c => by
    rw [ei] at c ⊢
    rw [parts_two c]; simp
  have tw : isTwo (ndAt e i).1 = true → ((0 ≤ (ndAt e i).2.1 ∧ (ndAt e i).2.1 < i) ∧ 0 ≤ (ndAt e i).2.2.1 ∧ (ndAt e i).2.2.1 < i) := fun c => two_parts hk c
  have one : ∀ a, a ∈ partsOf e[i] → p = [a] → Shape e i hi p q := fun a ha c => by
    subst c
    exact ⟨fun x hx => by rw [List.mem_singleton] at hx; subst hx; exact .inl ha, by simp⟩
  have nul : p = [] → Shape e i hi p q := fun c => by subst c; exact ⟨by simp, by simp⟩
  have cst : ∀ {b : Bool} {m : Nd} {S : List Int} {a c : Int}, (b = true → a ∈ partsOf e[i]) → constM b m S a c = some (p, q) → Shape e i hi p q := fun ha hc => by
    unfold constM at hc
    split at hc
    · rename_i k
      simp only [Option.some.injEq, Prod.mk.injEq] at hc
      exact one _ (ha k.1) hc.1.symm
    · cases hc
  have dp : ∀ {b : Bool} {a d : Int} {op : ByteArray} {S : List Int}, isTwo op = true → (b = true → (0 ≤ d ∧ d < i) ∧ a ∈ partsOf e[i] ∧ d ∈ partsOf e[i]) → deepM e b a d op S = some (p, q) → Shape e i hi p q := fun {b a d op S} ho2 ha hc => by
    unfold deepM at hc
    split at hc
    · rename_i k
      simp only [Option.some.injEq, Prod.mk.injEq] at hc
      obtain ⟨rfl, rfl⟩ := hc
      obtain ⟨h1, h2, h3⟩ := ha k.1
      obtain ⟨n, rfl⟩ : ∃ n : Nat, d = (n : Int) := ⟨d.toNat, by omega⟩
      have hnl : n < e.length := by omega
      have en : ndAt e (n : Int) = e[n] := ndAt_nat hnl
      have ht2 : isTwo e[n].1 = true := by rw [← en, k.2.1]; exact ho2
      have m2 : (ndAt e (n : Int)).2.1 ∈ partsOf e[n] := by rw [en, parts_two ht2]; simp
      have h5 : a ≠ (ndAt e (n : Int)).2.1 := fun q => apart2 ht (i := n) (j := i) (by omega) hi (p := a) (by rw [q]; exact m2) h2
      refine ⟨fun x hx => ?_, by simp [h5]⟩
      simp only [List.mem_cons, List.not_mem_nil, or_false] at hx
      rcases hx with rfl | rfl
      · exact .inl h2
      · exact .inr ⟨n, hnl, by omega, h3, m2, by simp⟩
    · cases hc
  unfold tileM tileN at h
  by_cases t0 : t = 0
  · rw [if_pos t0] at h
    split at h
    · simp only [Option.some.injEq, Prod.mk.injEq] at h; exact nul h.1.symm
    · cases h
  rw [if_neg t0] at h
  by_cases t1 : t = 1
  · rw [if_pos t1] at h
    split at h
    · simp only [Option.some.injEq, Prod.mk.injEq] at h; exact nul h.1.symm
    · cases h
  rw [if_neg t1] at h
  by_cases t2 : t = 2
  · rw [if_pos t2] at h
    split at h
    · rename_i c
      simp only [Option.some.injEq, Prod.mk.injEq] at h
      refine one _ ?_ h.1.symm
      rw [← ei]; unfold partsOf; rw [if_pos (arity_one c)]; simp
    · cases h
  rw [if_neg t2] at h
  by_cases t3 : t = 3
  · rw [if_pos t3] at h
    split at h
    · rename_i c
      simp only [Option.some.injEq, Prod.mk.injEq] at h
      obtain ⟨rfl, rfl⟩ := h
      have a1 := apart1 ht hi (by rw [← ei]; exact c)
      rw [← ei] at a1
      refine ⟨fun x hx => ?_, by simp [a1]⟩
      simp only [List.mem_cons, List.not_mem_nil, or_false] at hx
      rcases hx with rfl | rfl
      · exact .inl (mem c).1
      · exact .inl (mem c).2
    · cases h
  rw [if_neg t3] at h
  by_cases t4 : t = 4
  · rw [if_pos t4] at h; exact cst (fun c => (mem (in4 c)).1) h
  rw [if_neg t4] at h
  by_cases t5 : t = 5
  · rw [if_pos t5] at h; exact cst (fun c => (mem (in5 c)).2) h
  rw [if_neg t5] at h
  by_cases t6 : t = 6
  · rw [if_pos t6] at h; exact cst (fun c => (mem (in6 c)).1) h
  rw [if_neg t6] at h
  by_cases t7 : t = 7
  · rw [if_pos t7] at h; exact cst (fun c => (mem (by rw [of_decide_eq_true c]; decide)).1) h
  rw [if_neg t7] at h
  by_cases t8 : t = 8
  · rw [if_pos t8] at h; exact cst (fun c => (mem (by rw [of_decide_eq_true c]; decide)).2) h
  rw [if_neg t8] at h
  have ad : decide ((ndAt e (i : Int)).1 = tAdd) = true → isTwo (ndAt e (i : Int)).1 = true := fun c => by rw [of_decide_eq_true c]; decide
  by_cases t9 : t = 9
  · rw [if_pos t9] at h; exact dp (by decide) (fun c => ⟨(tw (ad c)).2, mem (ad c)⟩) h
  rw [if_neg t9] at h
  by_cases t10 : t = 10
  · rw [if_pos t10] at h; exact dp (by decide) (fun c => ⟨(tw (ad c)).1, (mem (ad c)).symm⟩) h
  rw [if_neg t10] at h
  by_cases t11 : t = 11
  · rw [if_pos t11] at h; exact dp (by decide) (fun c => ⟨(tw (ad c)).2, mem (ad c)⟩) h
  rw [if_neg t11] at h
  by_cases t12 : t = 12
  · rw [if_pos t12] at h; exact dp (by decide) (fun c => ⟨(tw (ad c)).1, (mem (ad c)).symm⟩) h
  rw [if_neg t12] at h
  cases h
/-- a lies in the subtree of b -/
inductive Und (e : List Nd) : Nat → Nat → Prop
  | refl (a : Nat) : Und e a a
  | up (a m b : Nat) (hm : m < e.length) (h : (a : Int) ∈ partsOf e[m]) (r : Und e m b) : Und e a b
theorem part_lt (hn : nodesOk e 0 = true) {a m : Nat} (hm : m < e.length) (h : (a : Int) ∈ partsOf e[m]) : a < m := by
  have hk := nodesOk_get e 0 hn m hm
  rw [Nat.zero_add] at hk
  have := nodeOk_parts hk _ h
  omega
theorem Und.le (hn : nodesOk e 0 = true) {a b : Nat} (h : Und e a b) : a ≤ b := by
  induction h with
  | refl a => exact Nat.le_refl _
  | up a m b hm h r ih => have := part_lt hn hm h; omega
theorem Und.trans {a b c : Nat} (h : Und e a b) (k : Und e b c) : Und e a c := by
  induction h with
  | refl a => exact k
  | up a m b hm h r ih => exact .up a m c hm h (ih k)
theorem par_one (ht : treeOk e = true) {a i j : Nat} (hi : i < e.length) (hj : j < e.length) (h1 : (a : Int) ∈ partsOf e[i]) (h2 : (a : Int) ∈ partsOf e[j]) : i = j := by
  rcases Nat.lt_trichotomy i j with c | c | c
  · exact (apart2 ht c hj h1 h2).elim
  · exact c
  · exact (apart2 ht c hi h2 h1).elim
theorem Und.lin (ht : treeOk e = true) {a b c : Nat} (h : Und e a b) (k : Und e a c) : Und e b c ∨ Und e c b := by
  induction h with
  | refl a => exact .inl k
  | up a m b hm h r ih =>
    cases k with
    | refl => exact .inr (.up _ m b hm h r)
    | up _ m' _ hm' h' r' =>
      have := par_one ht hm hm' h h'
      subst this
      exact ih r'
section
variable {best : List Int}
theorem kid_of {i k : Nat} (h : k ∈ kids e best i) : ∃ p q x, tileM e (i : Int) (cvr best i) = some (p, q) ∧ x ∈ p ∧ x.toNat = k ∧ kids e best i = p.map Int.toNat := by
  have hk := h
  unfold kids at h hk ⊢
  by_cases c : vld e best i = true
  · rw [if_pos c] at h ⊢
    obtain ⟨_, p, q, hm⟩ := vld_parts c
    have e1 : prts e i (cvr best i) = p := by unfold prts; rw [hm]
    rw [e1] at h ⊢
    obtain ⟨x, hx, rfl⟩ := List.mem_map.1 h
    exact ⟨p, q, x, hm, hx, rfl, rfl⟩
  · rw [if_neg c] at h; cases h
/-- a kid is an operand, or an operand of an inner node -/
theorem kid_shape (ht : treeOk e = true) {i k : Nat} (hi : i < e.length) (h : k ∈ kids e best i) : (k : Int) ∈ partsOf e[i] ∨ ∃ (d : Nat) (hd : d < e.length), d < i ∧ (d : Int) ∈ partsOf e[i] ∧ (k : Int) ∈ partsOf e[d] ∧ d ∉ kids e best i := by
  obtain ⟨p, q, x, hm, hx, rfl, hk⟩ := kid_of h
  have hf := tile_fair ht hi hm
  have hx0 := hf.low x hx
  have e1 : ((x.toNat : Nat) : Int) = x := by omega
  rw [e1]
  rcases (tile_shape ht hi hm).1 x hx with c | ⟨d, hd, h1, h2, h3, h4⟩
  · exact .inl c
  · refine .inr ⟨d, hd, h1, h2, h3, fun c => ?_⟩
    rw [hk] at c
    obtain ⟨y, hy, hyd⟩ := List.mem_map.1 c
    have := hf.low y hy
    exact hf.dis y hy (by rw [show y = (d : Int) by omega]; exact h4)
theorem kids_nodup (ht : treeOk e = true) {i : Nat} (hi : i < e.length) : (kids e best i).Nodup := by
  cases hc : kids e best i with
  | nil => exact List.nodup_nil
  | cons k l =>
    obtain ⟨p, q, x, hm, hx, _, hk⟩ := kid_of (e := e) (best := best) (i := i) (k := k) (by rw [hc]; simp)
    rw [← hc, hk]
    have hf := tile_fair ht hi hm
    have hnd := (tile_shape ht hi hm).2
    rw [List.nodup_iff_pairwise_ne] at hnd ⊢
    rw [List.pairwise_map]
    exact hnd.imp_of_mem fun ha hb hne he => hne (by have := hf.low _ ha; have := hf.low _ hb; omega)
theorem kid_und (ht : treeOk e = true) {i k : Nat} (hi : i < e.length) (h : k ∈ kids e best i) : Und e k i := by
  rcases kid_shape ht hi h with c | ⟨d, hd, h1, h2, h3, h4⟩
  · exact .up k i i hi c (.refl i)
  · exact .up k d i hd h3 (.up d i i hi h2 (.refl i))
theorem kid_apart (ht : treeOk e = true) {i k l : Nat} (hi : i < e.length) (h : k ∈ kids e best i) (hl : l ∈ kids e best i) (hne : k ≠ l) : ¬ Und e k l := by
  have hn := (treeOk_parts ht).1
  have hlt := kids_lt hn hi l hl
  intro u
  cases u with
  | refl => exact hne rfl
  | up _ m _ hm hp r =>
    rcases kid_shape ht hi h with c | ⟨d, hd, h1, h2, h3, h4⟩
    · have := par_one ht hm hi hp c
      subst this
      have := r.le hn
      omega
    · have := par_one ht hm hd hp h3
      subst this
      cases r with
      | refl => exact h4 hl
      | up _ m' _ hm' hp' r' =>
        have := par_one ht hm' hi hp' h2
        subst this
        have := r'.le hn
        omega
theorem dfs_und (ht : treeOk e = true) : ∀ (f i : Nat), i < e.length → ∀ j ∈ dfs e best f i, Und e j i
  | 0, i, hi, j, h => by simp [dfs] at h
  | f + 1, i, hi, j, h => by
    unfold dfs at h
    rcases List.mem_cons.1 h with c | c
    · subst c; exact .refl _
    · obtain ⟨k, hk, hj⟩ := List.mem_flatMap.1 c
      have := kids_lt (treeOk_parts ht).1 hi k hk
      exact (dfs_und ht f k (by omega) j hj).trans (kid_und ht hi hk)
theorem dfs_nodup (ht : treeOk e = true) : ∀ (f i : Nat), i < e.length → (dfs e best f i).Nodup
  | 0, i, hi => by simp [dfs]
  | f + 1, i, hi => by
    have hn := (treeOk_parts ht).1
    unfold dfs
    rw [List.nodup_cons]
    constructor
    · intro c
      obtain ⟨k, hk, hj⟩ := List.mem_flatMap.1 c
      have h1 := kids_lt hn hi k hk
      have h2 := dfs_le hn f k (by omega) i hj
      omega
    · rw [List.nodup_iff_pairwise_ne, List.pairwise_flatMap]
      refine ⟨fun k hk => List.nodup_iff_pairwise_ne.1 (dfs_nodup ht f k (by have := kids_lt hn hi k hk; omega)), ?_⟩
      refine (List.nodup_iff_pairwise_ne.1 (kids_nodup ht hi)).imp_of_mem fun {k l} hk hl hne x hx y hy he => ?_
      subst he
      have u1 := dfs_und ht f k (by have := kids_lt hn hi k hk; omega) x hx
      have u2 := dfs_und ht f l (by have := kids_lt hn hi l hl; omega) x hy
      rcases u1.lin ht u2 with c | c
      · exact kid_apart ht hi hk hl hne c
      · exact kid_apart ht hi hl hk (fun q => hne q.symm) c
end
end
end Go.Proofs.YtafjengmkiepbaaGreat.Am
end
section
/- The order in which the values of a tree are there; the code that is made for it: the reference and the program. -/
namespace Go.Proofs.YtafjengmkiepbaaGreat.Am
open Go
set_option linter.unusedVariables false
set_option linter.unusedSimpArgs false

/-! ### registers that are used -/
/-- code, order, the registers that are used -/
abbrev MSt := List In5 × (List Int × List Bool)
def freeU : List Int → List Bool → List Bool
  | [], u => u
  | r :: rs, u => freeU rs (if 1 < r then u.set (r - 2).toNat false else u)
def firstF : List Bool → Nat
  | [] => 0
  | false :: _ => 0
  | true :: u => firstF u + 1
theorem count_false : ∀ (u : List Bool) (k : Nat), (u.set k false).count true ≤ u.count true
  | [], k => by simp
  | b :: u, 0 => by cases b <;> simp
  | b :: u, k + 1 => by
    have := count_false u k
    cases b <;> simp <;> omega
theorem count_true : ∀ (u : List Bool) (k : Nat), (u.set k true).count true ≤ u.count true + 1
  | [], k => by simp
  | b :: u, 0 => by cases b <;> simp
  | b :: u, k + 1 => by
    have := count_true u k
    cases b <;> simp <;> omega
theorem freeU_len : ∀ (rs : List Int) (u : List Bool), (freeU rs u).length = u.length
  | [], u => rfl
  | r :: rs, u => by
    unfold freeU
    rw [freeU_len rs]
    split <;> simp
theorem freeU_count : ∀ (rs : List Int) (u : List Bool), (freeU rs u).count true ≤ u.count true
  | [], u => Nat.le_refl _
  | r :: rs, u => by
    unfold freeU
    refine Nat.le_trans (freeU_count rs _) ?_
    split
    · exact count_false _ _
    · exact Nat.le_refl _
theorem firstF_lt : ∀ (u : List Bool), u.count true < u.length → u[firstF u]? = some false
  | [], h => by simp at h
  | false :: u, _ => rfl
  | true :: u, h => by
    have := firstF_lt u (by simp at h; omega)
    simpa [firstF] using this
theorem firstF_before : ∀ (u : List Bool) (j : Nat), j < firstF u → u[j]? = some true
  | [], j, h => by simp [firstF] at h
  | false :: u, j, h => by simp [firstF] at h
  | true :: u, 0, _ => rfl
  | true :: u, j + 1, h => by
    have := firstF_before u j (by simp [firstF] at h; omega)
    simpa using this
abbrev outM (e : List Nd) (cover N : List Int) (x : Int × MSt) : Int × ((List Nd × (List Int × (List Int × (Unit × (Unit × Unit))))) × MSt) := (x.1, ((e, (cover, (N, ((), ((), ()))))), x.2))
theorem take_v (e : List Nd) (cover N : List Int) (s : MSt) (hu : s.2.2.count true < s.2.2.length) (hl : s.2.2.length ≤ 1000) :
    spec_seMade_take.v e cover N s.1 s.2.1 s.2.2 = some (outM e cover N ((firstF s.2.2 : Int) + 2, (s.1, (s.2.1, s.2.2.set (firstF s.2.2) true)))) := by
  have hf := firstF_lt s.2.2 hu
  have hlt : firstF s.2.2 < s.2.2.length := (List.getElem?_eq_some_iff.1 hf).1
  have key : ∀ (d j : Nat), j + d = firstF s.2.2 → spec_seMade_take.v0 (j : Int) e cover N s.1 s.2.1 s.2.2 = some (outM e cover N ((firstF s.2.2 : Int) + 2, (s.1, (s.2.1, s.2.2.set (firstF s.2.2) true)))) := by
    intro d
    induction d with
    | zero =>
      intro j hj
      have hj : j = firstF s.2.2 := by omega
      subst hj
      refine spec_seMade_take.v0s _ _ _ _ _ _ _ ?_
      rw [br_t (by simp), br_t (by simpa using hlt), Int.toNat_natCast, gt_some hf, br_f rfl, br_t (by simp), br_t (by simpa using hlt), gt_some hf, wrap_ok (by omega) (by omega)]
    | succ d ih =>
      intro j hj
      have hjl : j < s.2.2.length := by omega
      refine spec_seMade_take.v0s _ _ _ _ _ _ _ ?_
      rw [br_t (by simp), br_t (by simpa using hjl), Int.toNat_natCast, gt_some (firstF_before _ j (by omega)), br_t rfl, next_ok j _ hjl (by omega)]
      exact ih (j + 1) (by omega)
  exact spec_seMade_take.vs _ _ _ _ _ _ (key (firstF s.2.2) 0 (by omega))

/-! ### nodes that are evaluated -/
/-- the instruction behind the parts -/
def finM (e : List Nd) (cover : List Int) (i : Nat) (regs : List Int) (s : MSt) : Int × MSt :=
  ((firstF (freeU regs s.2.2) : Int) + 2, (s.1 ++ [instrP (ndAt e (i : Int)) (cvr cover i) ((firstF (freeU regs s.2.2) : Int) + 2) (regs.getD 0 0) (regs.getD 1 0) (wordOf e (told (tileM e (i : Int) (cvr cover i))).2.1)],
    (s.2.1 ++ [(i : Int)], (freeU regs s.2.2).set (firstF (freeU regs s.2.2)) true)))
def evS (e : List Nd) (cover N : List Int) : Nat → Nat → MSt → Int × MSt
  | 0, _, s => (0, s)
  | f + 1, i, s => if cvr cover i = 0 then ((ndAt e (i : Int)).2.2.2, (s.1, (s.2.1 ++ [(i : Int)], s.2.2)))
    else match prts e i (cvr cover i) with
      | [] => finM e cover i [] s
      | [a] => finM e cover i [(evS e cover N f a.toNat s).1] (evS e cover N f a.toNat s).2
      | [a, b] => if N.getD a.toNat 0 < N.getD b.toNat 0
          then finM e cover i [(evS e cover N f a.toNat (evS e cover N f b.toNat s).2).1, (evS e cover N f b.toNat s).1] (evS e cover N f a.toNat (evS e cover N f b.toNat s).2).2
          else finM e cover i [(evS e cover N f a.toNat s).1, (evS e cover N f b.toNat (evS e cover N f a.toNat s).2).1] (evS e cover N f b.toNat (evS e cover N f a.toNat s).2).2
      | _ => (0, s)
/-- the parts, in the order in which they are evaluated -/
def ordK (e : List Nd) (cover N : List Int) (i : Nat) : List Nat :=
  match prts e i (cvr cover i) with
    | [] => []
    | [a] => [a.toNat]
    | [a, b] => if N.getD a.toNat 0 < N.getD b.toNat 0 then [b.toNat, a.toNat] else [a.toNat, b.toNat]
    | _ => []
def ordP (e : List Nd) (cover N : List Int) : Nat → Nat → List Nat
  | 0, _ => []
  | f + 1, i => (ordK e cover N i).flatMap (ordP e cover N f) ++ [i]
structure Cov (e : List Nd) (cover : List Int) : Prop where
  ht : treeOk e = true
  hc : isCoverP e cover = true
section
variable {e : List Nd} {cover N : List Int}
theorem Cov.hn (C : Cov e cover) : nodesOk e 0 = true := (treeOk_parts C.ht).1
theorem Cov.h1 (C : Cov e cover) : 1 ≤ e.length := (treeOk_parts C.ht).2.1
theorem Cov.h24 (C : Cov e cover) : e.length ≤ 24 := (treeOk_parts C.ht).2.2.1
theorem Cov.len (C : Cov e cover) : cover.length = e.length := cover_len C.hc
/-- the tile of a node that is taken -/
structure Til (e : List Nd) (cover : List Int) (i : Nat) (p q : List Int) : Prop where
  hm : tileM e (i : Int) (cvr cover i) = some (p, q)
  pr : prts e i (cvr cover i) = p
  t0 : 0 ≤ cvr cover i
  t12 : cvr cover i ≤ 12
  two : p.length ≤ 2
  low : ∀ x ∈ p, ∃ k : Nat, x = (k : Int) ∧ k < i ∧ 0 ≤ cvr cover k
  kd : kids e cover i = p.map Int.toNat
theorem Cov.til (C : Cov e cover) {i : Nat} (hi : i < e.length) (h0 : 0 ≤ cvr cover i) : ∃ p q, Til e cover i p q := by
  have hv := cover_vld C.hc hi h0
  obtain ⟨⟨t0, t12⟩, p, q, hm⟩ := vld_parts hv
  have hp := tile_parts C.hn hi hm
  have hu := part_used C.hc C.hn C.h1 hi h0 hm
  have pr : prts e i (cvr cover i) = p := by unfold prts; rw [hm]
  refine ⟨p, q, hm, pr, t0, t12, hp.1, fun x hx => ?_, by unfold kids; rw [if_pos hv, pr]⟩
  have h := hp.2 x hx
  have h2 := hu x hx
  exact ⟨x.toNat, by omega, by omega, h2⟩
theorem Cov.root (C : Cov e cover) : 0 ≤ cvr cover (e.length - 1) := by
  have h := C.hc
  unfold isCoverP at h
  rw [Bool.and_eq_true, Bool.and_eq_true, List.all_eq_true] at h
  exact (vld_parts (h.2.1 _ (need_root C.h1))).1.1
theorem ord_len (C : Cov e cover) (N : List Int) : ∀ (f i : Nat), i < e.length → 0 ≤ cvr cover i → (ordP e cover N f i).length = (dfs e cover f i).length
  | 0, _, _, _ => rfl
  | f + 1, i, hi, h0 => by
    obtain ⟨p, q, T⟩ := C.til hi h0
    unfold ordP dfs ordK
    rw [T.kd, T.pr]
    rcases two_of T.two with e0 | ⟨a, e1⟩ | ⟨a, b, e2⟩
    · subst e0; rfl
    · subst e1
      obtain ⟨k, rfl, hk, hu⟩ := T.low a (by simp)
      have := ord_len C N f k (by omega) hu
      simp [this]
    · subst e2
      obtain ⟨k, rfl, hk, hu⟩ := T.low a (by simp)
      obtain ⟨k', rfl, hk', hu'⟩ := T.low b (by simp)
      have h1 := ord_len C N f k (by omega) hu
      have h2 := ord_len C N f k' (by omega) hu'
      dsimp only
      split <;> simp [h1, h2] <;> omega
theorem nodup_len : ∀ (n : Nat) (l : List Nat), l.Nodup → (∀ x ∈ l, x < n) → l.length ≤ n
  | 0, l, _, h => by
    cases l with
    | nil => simp
    | cons x r => exact absurd (h x List.mem_cons_self) (by omega)
  | n + 1, l, hn, h => by
    have h1 : (l.erase n).length ≤ n := nodup_len n (l.erase n) (hn.erase n) fun x hx => by
      have h2 := hn.mem_erase_iff.1 hx
      have := h x h2.2
      have := h2.1
      omega
    by_cases c : n ∈ l
    · have := List.length_erase_of_mem c; omega
    · rw [List.erase_of_not_mem c] at h1; omega
theorem ord_le (C : Cov e cover) (N : List Int) (f i : Nat) (hi : i < e.length) (h0 : 0 ≤ cvr cover i) : (ordP e cover N f i).length ≤ e.length := by
  rw [ord_len C N f i hi h0]
  refine nodup_len _ _ (dfs_nodup C.ht f i hi) fun x hx => ?_
  have := dfs_le C.hn f i hi x hx
  omega
theorem ord_step (f i : Nat) : ordP e cover N (f + 1) i = (ordK e cover N i).flatMap (ordP e cover N f) ++ [i] := rfl
theorem ord_zero {i : Nat} (h : prts e i (cvr cover i) = []) (f : Nat) : ordP e cover N (f + 1) i = [i] := by
  rw [ord_step]; unfold ordK; rw [h]; rfl
theorem ord_one {i : Nat} {a : Int} (h : prts e i (cvr cover i) = [a]) (f : Nat) : ordP e cover N (f + 1) i = ordP e cover N f a.toNat ++ [i] := by
  rw [ord_step]; unfold ordK; rw [h]; simp
theorem ord_two {i : Nat} {a b : Int} (h : prts e i (cvr cover i) = [a, b]) (f : Nat) : ordP e cover N (f + 1) i = (if N.getD a.toNat 0 < N.getD b.toNat 0 then ordP e cover N f b.toNat ++ ordP e cover N f a.toNat else ordP e cover N f a.toNat ++ ordP e cover N f b.toNat) ++ [i] := by
  rw [ord_step]; unfold ordK; rw [h]
  dsimp only
  split <;> simp
theorem ev_step (f i : Nat) (s : MSt) : evS e cover N (f + 1) i s = if cvr cover i = 0 then ((ndAt e (i : Int)).2.2.2, (s.1, (s.2.1 ++ [(i : Int)], s.2.2)))
    else match prts e i (cvr cover i) with
      | [] => finM e cover i [] s
      | [a] => finM e cover i [(evS e cover N f a.toNat s).1] (evS e cover N f a.toNat s).2
      | [a, b] => if N.getD a.toNat 0 < N.getD b.toNat 0
          then finM e cover i [(evS e cover N f a.toNat (evS e cover N f b.toNat s).2).1, (evS e cover N f b.toNat s).1] (evS e cover N f a.toNat (evS e cover N f b.toNat s).2).2
          else finM e cover i [(evS e cover N f a.toNat s).1, (evS e cover N f b.toNat (evS e cover N f a.toNat s).2).1] (evS e cover N f b.toNat (evS e cover N f a.toNat s).2).2
      | _ => (0, s) := rfl
/-- what is known of the code that is made -/
structure Gm (n : Nat) (s : MSt) : Prop where
  ul : s.2.2.length = n + 1
  uc : s.2.2.count true ≤ s.2.1.length
  cl : s.1.length ≤ s.2.1.length
/-- what an evaluated node leaves -/
structure Evd (e : List Nd) (s : MSt) (l : List Nat) (x : Int × MSt) : Prop where
  g : Gm e.length x.2
  o : x.2.2.1 = s.2.1 ++ l.map (fun j : Nat => (j : Int))
  r0 : 0 ≤ x.1
  r1 : x.1 ≤ e.length + 2
theorem fin_v (C : Cov e cover) {i : Nat} (hi : i < e.length) {p q : List Int} (T : Til e cover i p q) {regs : List Int} (hr : regs.length ≤ 2) (hreg : ∀ r ∈ regs, 0 ≤ r ∧ r ≤ e.length + 2) {s : MSt} (G : Gm e.length s) (hroom : s.2.1.length < e.length) :
    spec_seMade_eval.v1 (i : Int) (cvr cover i) (regs.length : Int) 0 e cover N s.1 s.2.1 s.2.2 regs = some (outM e cover N (finM e cover i regs s)) ∧ Evd e s [i] (finM e cover i regs s) := by
  have h24 := C.h24
  have hul := G.ul
  have huc := G.uc
  have hcl := G.cl
  have fl := freeU_len regs s.2.2
  have fc := freeU_count regs s.2.2
  have hff := firstF_lt (freeU regs s.2.2) (by omega)
  have hfl : firstF (freeU regs s.2.2) < (freeU regs s.2.2).length := (List.getElem?_eq_some_iff.1 hff).1
  have key : ∀ (d j : Nat) (u : List Bool), j + d = regs.length → u.length = e.length + 1 → freeU (regs.drop j) u = freeU regs s.2.2 →
      spec_seMade_eval.v1 (i : Int) (cvr cover i) (regs.length : Int) (j : Int) e cover N s.1 s.2.1 u regs = some (outM e cover N (finM e cover i regs s)) := by
    intro d
    induction d with
    | zero =>
      intro j u hj hu hf
      rw [List.drop_eq_nil_of_le (by omega)] at hf
      have hf : u = freeU regs s.2.2 := hf
      refine spec_seMade_eval.v1s _ _ _ _ _ _ _ _ _ _ _ ?_
      have tk := take_v e cover N (s.1, (s.2.1, freeU regs s.2.2)) (by dsimp only; omega) (by dsimp only; omega)
      dsimp only at tk
      rw [br_f (decide_eq_false (by omega)), hf, tk, bd_s]
      dsimp only
      rw [seInstr_v C.hn hi T.hm T.t0 T.t12 (op_size (ndAt_ok C.hn (by omega) (by omega))) _ hr, bd_s, br_t (decide_eq_true (by simp; omega)), br_t (decide_eq_true (by simp; omega))]
      unfold finM
      rw [T.hm]; rfl
    | succ d ih =>
      intro j u hj hu hf
      have hjl : j < regs.length := by omega
      have hx := hreg _ (List.getElem_mem hjl)
      rw [List.drop_eq_getElem_cons hjl] at hf
      have hf : freeU (regs.drop (j + 1)) (if 1 < regs[j] then u.set (regs[j] - 2).toNat false else u) = freeU regs s.2.2 := hf
      refine spec_seMade_eval.v1s _ _ _ _ _ _ _ _ _ _ _ ?_
      rw [br_t (decide_eq_true (by omega)), br_t (by simp), br_t (decide_eq_true (by omega)), Int.toNat_natCast, gt_at _ hjl, next_ok j _ hjl (by omega)]
      by_cases c : 1 < regs[j]
      · rw [if_pos c] at hf
        have w : IntKind.wrap .i64 (regs[j] - 2) = regs[j] - 2 := wrap_ok (by omega) (by omega)
        have hk : (regs[j] - 2).toNat < u.length := by omega
        rw [br_t (decide_eq_true c), w, br_t (decide_eq_true (by omega)), br_t (decide_eq_true (by omega)), gt_at _ hk]
        exact ih (j + 1) _ (by omega) (by rw [List.length_set]; exact hu) hf
      · rw [if_neg c] at hf
        rw [br_f (decide_eq_false c)]
        exact ih (j + 1) _ (by omega) hu hf
  refine ⟨key regs.length 0 s.2.2 (by omega) hul rfl, ⟨⟨?_, ?_, ?_⟩, rfl, ?_, ?_⟩⟩
  · unfold finM; dsimp only; rw [List.length_set]; omega
  · unfold finM; dsimp only
    have := count_true (freeU regs s.2.2) (firstF (freeU regs s.2.2))
    rw [List.length_append]; simp only [List.length_singleton]; omega
  · unfold finM; dsimp only; simp; omega
  · unfold finM; dsimp only; omega
  · unfold finM; dsimp only; omega
theorem get_N (hN : N.length = e.length) {k : Nat} (hk : k < e.length) : N[Int.toNat (k : Int)]? = some (N.getD k 0) := by
  rw [Int.toNat_natCast, List.getD_eq_getElem?_getD, List.getElem?_eq_getElem (by omega)]; rfl
theorem evalM_v (C : Cov e cover) (hN : N.length = e.length) : ∀ (f i : Nat) (s : MSt), i < e.length → i < f → 0 ≤ cvr cover i → Gm e.length s → s.2.1.length + (ordP e cover N f i).length ≤ e.length →
    spec_seMade_eval.v (i : Int) e cover N s.1 s.2.1 s.2.2 = some (outM e cover N (evS e cover N f i s)) ∧ Evd e s (ordP e cover N f i) (evS e cover N f i s)
  | 0, i, s, hi, hf, h0, G, hroom => by omega
  | f + 1, i, s, hi, hf, h0, G, hroom => by
    have h24 := C.h24
    obtain ⟨p, q, T⟩ := C.til hi h0
    have hcv := cvr_get C.len hi
    have gn : e[i]? = some (ndAt e (i : Int)) := by rw [ndAt_nat hi]; exact List.getElem?_eq_getElem hi
    by_cases z : cvr cover i = 0
    · have hp : p = [] := tile0 (by have := T.hm; rw [z] at this; exact this)
      subst hp
      have hin : (ndAt e (i : Int)).1 = tIn := by
        have := T.hm
        unfold tileM tileN at this
        rw [if_pos z] at this
        split at this
        · assumption
        · cases this
      have hk := hole_val (ndAt_ok C.hn (p := (i : Int)) (by omega) (by omega)) hin
      obtain ⟨v, hv, hve⟩ := hk
      rw [ord_zero T.pr] at hroom ⊢
      simp only [List.length_singleton] at hroom
      have hev : evS e cover N (f + 1) i s = ((ndAt e (i : Int)).2.2.2, (s.1, (s.2.1 ++ [(i : Int)], s.2.2))) := by rw [ev_step, if_pos z]
      rw [hev]
      refine ⟨spec_seMade_eval.vs _ _ _ _ _ _ _ ?_, ⟨⟨G.ul, ?_, ?_⟩, rfl, ?_, ?_⟩⟩
      · rw [br_t (by simp), Int.toNat_natCast, gt_some hcv, br_t (by simpa using z), br_t (decide_eq_true (by simp; omega)), br_t (by simp), gt_some gn]
      · have := G.uc; dsimp only; simp; omega
      · have := G.cl; dsimp only; simp; omega
      · dsimp only; omega
      · dsimp only; have := C.h1; omega
    · have zb : (cvr cover i == (0 : Int)) = false := by simpa using z
      have start : ∀ {β : Type} {R : List Int × (List Int × Bool) → Option β}, (bd (some (told (some (p, q)))) fun r2 => (br (decide ((r2.1.length : Int) ≤ (r2.1.length : Int))) (br (decide ((r2.1.length : Int) ≤ (((35184372088832 / (8 + 1)) : Nat) : Int))) (R r2) none) none)) = R (told (some (p, q))) := fun {β R} => by
        have := T.two
        rw [bd_s, br_t (by simp), br_t (decide_eq_true (by show ((p.length : Nat) : Int) ≤ _; omega))]
      rcases two_of T.two with e0 | ⟨a, e1⟩ | ⟨a, b, e2⟩
      · subst e0
        rw [ord_zero T.pr] at hroom ⊢
        simp only [List.length_singleton] at hroom
        have hev : evS e cover N (f + 1) i s = finM e cover i [] s := by rw [ev_step, if_neg z, T.pr]
        rw [hev]
        obtain ⟨hv, hd⟩ := fin_v (N := N) C hi T (regs := []) (by simp) (by simp) G (by omega)
        refine ⟨spec_seMade_eval.vs _ _ _ _ _ _ _ ?_, hd⟩
        rw [br_t (by simp), Int.toNat_natCast, gt_some hcv, br_f zb, cvTile_v C.hn hi, T.hm, start, br_f (by simp [told])]
        refine spec_seMade_eval.v0s _ _ _ _ _ _ _ _ _ _ _ _ ?_
        rw [br_f (by simp [told])]
        exact hv
      · subst e1
        obtain ⟨k, rfl, hk, hu⟩ := T.low a (by simp)
        rw [ord_one T.pr] at hroom ⊢
        rw [List.length_append, List.length_singleton] at hroom
        have hev : evS e cover N (f + 1) i s = finM e cover i [(evS e cover N f k s).1] (evS e cover N f k s).2 := by rw [ev_step, if_neg z, T.pr]; rfl
        rw [hev]
        obtain ⟨v1, d1⟩ := evalM_v C hN f k s (by omega) (by omega) hu G (by rw [Int.toNat_natCast] at hroom; omega)
        have l1 : (evS e cover N f k s).2.2.1.length = s.2.1.length + (ordP e cover N f k).length := by rw [d1.o]; simp
        obtain ⟨hv, hd⟩ := fin_v (N := N) C hi T (regs := [(evS e cover N f k s).1]) (by simp) (by intro r hr; simp only [List.mem_singleton] at hr; subst hr; exact ⟨d1.r0, d1.r1⟩) d1.g (by rw [Int.toNat_natCast] at hroom; omega)
        refine ⟨spec_seMade_eval.vs _ _ _ _ _ _ _ ?_, ⟨hd.g, ?_, hd.r0, hd.r1⟩⟩
        · rw [br_t (by simp), Int.toNat_natCast, gt_some hcv, br_f zb, cvTile_v C.hn hi, T.hm, start, br_f (by simp [told])]
          refine spec_seMade_eval.v0s _ _ _ _ _ _ _ _ _ _ _ _ ?_
          rw [br_t (by simp [told]), br_t (by simp), gt_some (a := (k : Int)) rfl, v1, bd_s, br_t (by simp), br_t (by simp [told]), gt_some (a := (0 : Int)) rfl, show IntKind.wrap .i64 ((0 : Int) + 1) = 1 by decide]
          refine spec_seMade_eval.v0s _ _ _ _ _ _ _ _ _ _ _ _ ?_
          rw [br_f (by simp [told])]
          exact hv
        · rw [hd.o, d1.o]; simp
      · subst e2
        obtain ⟨k, rfl, hk, hu⟩ := T.low a (by simp)
        obtain ⟨k', rfl, hk', hu'⟩ := T.low b (by simp)
        have ga := get_N hN (show k < e.length by omega)
        have gb := get_N hN (show k' < e.length by omega)
        have xa : ∀ {β : Type} (g : Int → Option β), gt (told (some ([(k : Int), (k' : Int)], q))).1 (Int.toNat 0) g = g (k : Int) := fun g => rfl
        have xb : ∀ {β : Type} (g : Int → Option β), gt (told (some ([(k : Int), (k' : Int)], q))).1 (Int.toNat 1) g = g (k' : Int) := fun g => rfl
        rw [ord_two T.pr] at hroom ⊢
        rw [List.length_append, List.length_singleton] at hroom
        simp only [Int.toNat_natCast] at hroom ⊢
        by_cases c : N.getD k 0 < N.getD k' 0
        · rw [if_pos c] at hroom ⊢
          rw [List.length_append] at hroom
          have hev : evS e cover N (f + 1) i s = finM e cover i [(evS e cover N f k (evS e cover N f k' s).2).1, (evS e cover N f k' s).1] (evS e cover N f k (evS e cover N f k' s).2).2 := by
            rw [ev_step, if_neg z, T.pr]; dsimp only; rw [Int.toNat_natCast, Int.toNat_natCast, if_pos c]
          rw [hev]
          obtain ⟨v1, d1⟩ := evalM_v C hN f k' s (by omega) (by omega) hu' G (by omega)
          have l1 : (evS e cover N f k' s).2.2.1.length = s.2.1.length + (ordP e cover N f k').length := by rw [d1.o]; simp
          obtain ⟨v2, d2⟩ := evalM_v C hN f k (evS e cover N f k' s).2 (by omega) (by omega) hu d1.g (by omega)
          have l2 : (evS e cover N f k (evS e cover N f k' s).2).2.2.1.length = (evS e cover N f k' s).2.2.1.length + (ordP e cover N f k).length := by rw [d2.o]; simp
          obtain ⟨hv, hd⟩ := fin_v (N := N) C hi T (regs := [(evS e cover N f k (evS e cover N f k' s).2).1, (evS e cover N f k' s).1]) (by simp) (by
            intro r hr; simp only [List.mem_cons, List.not_mem_nil, or_false] at hr
            rcases hr with hr | hr
            · subst hr; exact ⟨d2.r0, d2.r1⟩
            · subst hr; exact ⟨d1.r0, d1.r1⟩) d2.g (by omega)
          refine ⟨spec_seMade_eval.vs _ _ _ _ _ _ _ ?_, ⟨hd.g, ?_, hd.r0, hd.r1⟩⟩
          · rw [br_t (by simp), Int.toNat_natCast, gt_some hcv, br_f zb, cvTile_v C.hn hi, T.hm, start, br_t (by simp [told]), xb, br_t (by simp), gt_some gb, xa, br_t (by simp), gt_some ga, br_t (decide_eq_true c), xb, v1, bd_s, br_t (by simp [told]), gt_some (a := (0 : Int)) rfl, xa]
            dsimp only
            rw [v2, bd_s, br_t (by simp [told]), gt_some (a := (0 : Int)) rfl]
            exact hv
          · rw [hd.o, d2.o, d1.o]; simp
        · rw [if_neg c] at hroom ⊢
          rw [List.length_append] at hroom
          have hev : evS e cover N (f + 1) i s = finM e cover i [(evS e cover N f k s).1, (evS e cover N f k' (evS e cover N f k s).2).1] (evS e cover N f k' (evS e cover N f k s).2).2 := by
            rw [ev_step, if_neg z, T.pr]; dsimp only; rw [Int.toNat_natCast, Int.toNat_natCast, if_neg c]
          rw [hev]
          obtain ⟨v1, d1⟩ := evalM_v C hN f k s (by omega) (by omega) hu G (by omega)
          have l1 : (evS e cover N f k s).2.2.1.length = s.2.1.length + (ordP e cover N f k).length := by rw [d1.o]; simp
          obtain ⟨v2, d2⟩ := evalM_v C hN f k' (evS e cover N f k s).2 (by omega) (by omega) hu' d1.g (by omega)
          have l2 : (evS e cover N f k' (evS e cover N f k s).2).2.2.1.length = (evS e cover N f k s).2.2.1.length + (ordP e cover N f k').length := by rw [d2.o]; simp
          obtain ⟨hv, hd⟩ := fin_v (N := N) C hi T (regs := [(evS e cover N f k s).1, (evS e cover N f k' (evS e cover N f k s).2).1]) (by simp) (by
            intro r hr; simp only [List.mem_cons, List.not_mem_nil, or_false] at hr
            rcases hr with hr | hr
            · subst hr; exact ⟨d1.r0, d1.r1⟩
            · subst hr; exact ⟨d2.r0, d2.r1⟩) d2.g (by omega)
          refine ⟨spec_seMade_eval.vs _ _ _ _ _ _ _ ?_, ⟨hd.g, ?_, hd.r0, hd.r1⟩⟩
          · rw [br_t (by simp), Int.toNat_natCast, gt_some hcv, br_f zb, cvTile_v C.hn hi, T.hm, start, br_t (by simp [told]), xb, br_t (by simp), gt_some gb, xa, br_t (by simp), gt_some ga, br_f (decide_eq_false c)]
            refine spec_seMade_eval.v0s _ _ _ _ _ _ _ _ _ _ _ _ ?_
            rw [br_t (by simp [told]), br_t (by simp), xa, v1, bd_s, br_t (by simp), br_t (by simp [told]), gt_some (a := (0 : Int)) rfl, show IntKind.wrap .i64 ((0 : Int) + 1) = 1 by decide]
            dsimp only
            refine spec_seMade_eval.v0s _ _ _ _ _ _ _ _ _ _ _ _ ?_
            rw [br_t (by simp [told]), br_t (by simp), xb, v2, bd_s, br_t (by simp), br_t (by simp [told]), gt_some (a := (0 : Int)) rfl, show IntKind.wrap .i64 ((1 : Int) + 1) = 2 by decide]
            dsimp only
            refine spec_seMade_eval.v0s _ _ _ _ _ _ _ _ _ _ _ _ ?_
            rw [br_f (by simp [told])]
            exact hv
          · rw [hd.o, d2.o, d1.o]; simp
/-- the code that is made -/
def madeS (e : List Nd) (cover : List Int) : Int × MSt := evS e cover (needL e cover false) e.length (e.length - 1) ([], ([], List.replicate (e.length + 1) false))
def orderL (e : List Nd) (cover : List Int) : List Int := (ordP e cover (needL e cover false) e.length (e.length - 1)).map (fun j : Nat => (j : Int))
theorem make_v (C : Cov e cover) : spec_seMake.v e cover = some (((e, (cover, (needL e cover false, (madeS e cover).2))), (madeS e cover).1), ()) ∧ (madeS e cover).2.2.1 = orderL e cover ∧ Gm e.length (madeS e cover).2 ∧ 0 ≤ (madeS e cover).1 ∧ (madeS e cover).1 ≤ e.length + 2 := by
  have h1 := C.h1
  have h24 := C.h24
  obtain ⟨hv, hd⟩ := evalM_v (N := needL e cover false) C needL_len e.length (e.length - 1) ([], ([], List.replicate (e.length + 1) false)) (by omega) (by omega) C.root ⟨by simp, by simp [List.count_replicate], by simp⟩ (by
    have := ord_le C (needL e cover false) e.length (e.length - 1) (by omega) C.root
    simpa using this)
  refine ⟨spec_seMake.vs _ _ ?_, by rw [show (madeS e cover).2.2.1 = _ from hd.o]; simp [orderL], hd.g, hd.r0, hd.r1⟩
  have w : IntKind.wrap .i64 ((e.length : Int) + 1) = ((e.length + 1 : Nat) : Int) := wrap_ok (by omega) (by omega)
  rw [seNeeds_v C.hn h1 h24 C.hc, bd_s, w, br_t (decide_eq_true (by omega)), br_t (by simp), br_t (decide_eq_true (by omega)), Int.toNat_natCast]
  refine spec_seMake.v0s _ _ _ _ _ _ _ ?_
  rw [last_w h1 (by omega), hv, bd_s]; rfl
theorem room_ord {n : Nat} (h : n ≤ 1000) (x : Int) {l : List Int} (hl : l.length = n) : decide (l.length + (List.length (x :: [])) ≤ 35184372088832 / (8 + 1)) = true := decide_eq_true (by simp; omega)
theorem clone_i (l : List Int) (h : l.length ≤ 1000000) : slices_Clone_int.f l = some (l, ()) := by
  rw [slices_Clone_int.eq]
  have e : decide (0 + l.length ≤ 35184372088832 / (8 + 1)) = true := decide_eq_true (by omega)
  rw [br_t e, List.nil_append]
  cases l with
  | nil => rw [br_f (by simp), both_same]
  | cons x r => rw [br_t (by simp)]
abbrev outO (e : List Nd) (cover N l : List Int) : Unit × (List Nd × (List Int × (Unit × (List Int × (Unit × (Unit × List Int)))))) := ((), (e, (cover, ((), (N, ((), ((), l)))))))
theorem walk_v (C : Cov e cover) (hN : N.length = e.length) : ∀ (f i : Nat) (o : List Int), i < e.length → i < f → 0 ≤ cvr cover i → o.length + (ordP e cover N f i).length ≤ e.length →
    impl_order_1.v (i : Int) e cover N o = some (outO e cover N (o ++ (ordP e cover N f i).map (fun j : Nat => (j : Int))))
  | 0, i, o, hi, hf, h0, hroom => by omega
  | f + 1, i, o, hi, hf, h0, hroom => by
    have h24 := C.h24
    obtain ⟨p, q, T⟩ := C.til hi h0
    have hcv := cvr_get C.len hi
    have hrm : ∀ o' : List Int, o'.length ≤ 24 → decide (o'.length + (List.length ((i : Int) :: [])) ≤ 35184372088832 / (8 + 1)) = true := fun o' h => decide_eq_true (by simp; omega)
    have two := T.two
    refine impl_order_1.vs _ _ _ _ _ ?_
    rw [br_t (by simp), Int.toNat_natCast, gt_some hcv, tileAt_v C.hn hi T.t0 T.t12, bd_s, tileI_eq C.hn hi T.t0 T.t12 T.hm]
    dsimp only
    rw [clone_i p (by omega), bd_s]
    rcases two_of T.two with e0 | ⟨a, e1⟩ | ⟨a, b, e2⟩
    · subst e0
      rw [ord_zero T.pr] at hroom ⊢
      simp only [List.length_singleton] at hroom
      rw [br_f (by simp)]
      refine impl_order_1.v0s _ _ _ _ _ _ _ _ ?_
      rw [br_f (by simp), br_t (hrm o (by omega))]; rfl
    · subst e1
      obtain ⟨k, rfl, hk, hu⟩ := T.low a (by simp)
      rw [ord_one T.pr] at hroom ⊢
      rw [List.length_append, List.length_singleton] at hroom
      simp only [Int.toNat_natCast] at hroom ⊢
      rw [br_f (by simp)]
      refine impl_order_1.v0s _ _ _ _ _ _ _ _ ?_
      rw [br_t (by simp), br_t (by simp), br_t (by simp), gt_some (a := (k : Int)) rfl, walk_v C hN f k o (by omega) (by omega) hu (by omega), bd_s, show IntKind.wrap .i64 ((0 : Int) + 1) = 1 by decide]
      dsimp only
      refine impl_order_1.v0s _ _ _ _ _ _ _ _ ?_
      rw [br_f (by simp), br_t (hrm _ (by simp; omega))]
      simp
    · subst e2
      obtain ⟨k, rfl, hk, hu⟩ := T.low a (by simp)
      obtain ⟨k', rfl, hk', hu'⟩ := T.low b (by simp)
      have ga := get_N hN (show k < e.length by omega)
      have gb := get_N hN (show k' < e.length by omega)
      have run : ∀ x y : Nat, x < i → y < i → 0 ≤ cvr cover x → 0 ≤ cvr cover y → o.length + (ordP e cover N f x).length + (ordP e cover N f y).length < e.length →
          impl_order_1.v0 (i : Int) (([(x : Int), (y : Int)].length : Nat) : Int) 0 e cover N o [(x : Int), (y : Int)] = some (outO e cover N (o ++ ((ordP e cover N f x ++ ordP e cover N f y) ++ [i]).map (fun j : Nat => (j : Int)))) := fun x y hx hy ux uy hr => by
        refine impl_order_1.v0s _ _ _ _ _ _ _ _ ?_
        rw [br_t (by simp), br_t (by simp), br_t (by simp), gt_some (a := (x : Int)) rfl, walk_v C hN f x o (by omega) (by omega) ux (by omega), bd_s, show IntKind.wrap .i64 ((0 : Int) + 1) = 1 by decide]
        dsimp only
        refine impl_order_1.v0s _ _ _ _ _ _ _ _ ?_
        rw [br_t (by simp), br_t (by simp), br_t (by simp), gt_some (a := (y : Int)) rfl, walk_v C hN f y _ (by omega) (by omega) uy (by simp; omega), bd_s, show IntKind.wrap .i64 ((1 : Int) + 1) = 2 by decide]
        dsimp only
        refine impl_order_1.v0s _ _ _ _ _ _ _ _ ?_
        rw [br_f (by simp), br_t (hrm _ (by simp; omega))]
        simp
      rw [ord_two T.pr] at hroom ⊢
      rw [List.length_append, List.length_singleton] at hroom
      simp only [Int.toNat_natCast] at hroom ⊢
      rw [br_t (by simp), br_t (by simp), gt_some (a := (k' : Int)) rfl, br_t (by simp), br_t (decide_eq_true (by omega)), gt_some gb, br_t (by simp), gt_some (a := (k : Int)) rfl, br_t (by simp), br_t (decide_eq_true (by omega)), gt_some ga]
      by_cases c : N.getD k 0 < N.getD k' 0
      · rw [if_pos c] at hroom ⊢
        rw [List.length_append] at hroom
        rw [br_t (decide_eq_true c), rev_two, bd_s]
        exact run k' k hk' hk hu' hu (by omega)
      · rw [if_neg c] at hroom ⊢
        rw [List.length_append] at hroom
        rw [br_f (decide_eq_false c)]
        exact run k k' hk hk' hu hu' (by omega)
theorem order_v (C : Cov e cover) : impl_order.v e cover = some (orderL e cover, ()) := by
  have h1 := C.h1
  have h24 := C.h24
  refine impl_order.vs _ _ ?_
  rw [show true = (!false) from rfl, needs_v C.hn h1 h24 C.hc, bd_s]
  refine impl_order.v0s _ _ _ _ ?_
  rw [last_w h1 (by omega), walk_v C needL_len e.length (e.length - 1) [] (by omega) (by omega) C.root (by
    have := ord_le C (needL e cover false) e.length (e.length - 1) (by omega) C.root
    simpa using this), bd_s]
  rfl
theorem cov_of (h : coverA e cover = true) : Cov e cover := by
  unfold coverA at h
  rw [Bool.and_eq_true] at h
  exact ⟨h.1, h.2⟩
def orderA (e : List Nd) (cover : List Int) : List Int × Bool := if coverA e cover = true then (orderL e cover, true) else ([], false)
theorem orderA_len : (orderA e cover).1.length ≤ 1048576 := by
  unfold orderA
  split
  · rename_i h
    have C := cov_of h
    have h1 := C.h1
    have h24 := C.h24
    have := ord_le C (needL e cover false) e.length (e.length - 1) (by omega) C.root
    unfold orderL
    rw [List.length_map]; omega
  · simp
end
end Go.Proofs.YtafjengmkiepbaaGreat.Am
end
section
/- Code that is selected: the program's rounds make what the reference makes. -/
namespace Go.Proofs.YtafjengmkiepbaaGreat.Am
open Go
set_option linter.unusedVariables false
set_option linter.unusedSimpArgs false

/-! ### maps -/
theorem lookB_cons (k : Int) (x : Bool) (r : List (Int × Bool)) (n : Int) : lookB ((k, x) :: r) n = if n = k then x else lookB r n := by
  unfold lookB
  by_cases c : n = k
  · rw [List.find?_cons_of_pos (by simpa using c), if_pos c]
  · rw [List.find?_cons_of_neg (by simpa using c), if_neg c]
theorem putB_cons (k : Int) (y : Bool) (r : List (Int × Bool)) (n : Int) (x : Bool) : putB ((k, y) :: r) n x = if n = k then (n, x) :: r else (k, y) :: putB r n x := by
  unfold putB
  rw [List.findIdx?_cons]
  by_cases c : n = k
  · rw [if_pos c, if_pos (by simpa using c)]; rfl
  · rw [if_neg c, if_neg (by simpa using c)]
    cases r.findIdx? (fun p => decide (n = p.1)) <;> rfl
theorem look_put : ∀ (u : List (Int × Bool)) (n m : Int) (x : Bool), lookB (putB u n x) m = if m = n then x else lookB u m
  | [], n, m, x => by
    show lookB [(n, x)] m = _
    rw [lookB_cons]
  | (k, y) :: r, n, m, x => by
    rw [putB_cons]
    by_cases c : n = k
    · subst c
      rw [if_pos rfl, lookB_cons, lookB_cons]
      split <;> rfl
    · rw [if_neg c, lookB_cons, look_put r, lookB_cons]
      by_cases d : m = k
      · rw [if_pos d, if_pos d, if_neg (fun q => c (q.symm.trans d))]
      · rw [if_neg d, if_neg d]
theorem getD_set (us : List Bool) (i k : Nat) (x : Bool) : (us.set i x).getD k false = if i = k ∧ k < us.length then x else us.getD k false := by
  rw [List.getD_eq_getElem?_getD, List.getElem?_set, List.getD_eq_getElem?_getD]
  by_cases c : i = k
  · subst c
    by_cases d : i < us.length
    · simp [d]
    · simp [d]
  · simp [c]
theorem getD_setI (l : List Int) (i k : Nat) (x : Int) (h : i < l.length) : (l.set i x).getD k 0 = if i = k then x else l.getD k 0 := by
  rw [List.getD_eq_getElem?_getD, List.getElem?_set, List.getD_eq_getElem?_getD]
  by_cases c : i = k
  · subst c; simp [h]
  · simp [c]
/-- the map tells what the reference's row does -/
def Rel (us : List Bool) (u : List (Int × Bool)) : Prop := ∀ k : Nat, lookB u ((k : Int) + 2) = us.getD k false
def freeI : List Int → List (Int × Bool) → List (Int × Bool)
  | [], u => u
  | r :: rs, u => freeI rs (putB u r false)
theorem rel_free : ∀ (rs : List Int) (us : List Bool) (u : List (Int × Bool)), Rel us u → (∀ r ∈ rs, 0 ≤ r) → Rel (freeU rs us) (freeI rs u)
  | [], us, u, h, _ => h
  | r :: rs, us, u, h, h0 => by
    have hr := h0 r List.mem_cons_self
    unfold freeU freeI
    refine rel_free rs _ _ (fun k => ?_) fun x hx => h0 x (List.mem_cons_of_mem _ hx)
    rw [look_put, h k]
    by_cases c : 1 < r
    · rw [if_pos c, getD_set]
      by_cases d : (k : Int) + 2 = r
      · rw [if_pos d]
        split
        · rfl
        · rename_i q
          have e1 : (r - 2).toNat = k := by omega
          rw [List.getD_eq_getElem?_getD, List.getElem?_eq_none (Nat.le_of_not_lt fun h => q ⟨e1, h⟩)]; rfl
      · rw [if_neg d, if_neg (fun q => d (by omega))]
    · rw [if_neg c, if_neg (by omega)]
theorem rel_take {us : List Bool} {u : List (Int × Bool)} (h : Rel us u) {m : Nat} (hm : m < us.length) : Rel (us.set m true) (putB u ((m : Int) + 2) true) := fun k => by
  rw [look_put, h k, getD_set]
  by_cases c : m = k
  · subst c; rw [if_pos rfl, if_pos ⟨rfl, hm⟩]
  · rw [if_neg (by omega), if_neg (fun q => c q.1)]

/-! ### the rounds -/
section
variable {e : List Nd} {cover N : List Int}
theorem ord_mem (C : Cov e cover) (N : List Int) : ∀ (f i : Nat), i < e.length → 0 ≤ cvr cover i → ∀ j ∈ ordP e cover N f i, j ∈ dfs e cover f i
  | 0, _, _, _, j, h => by simp [ordP] at h
  | f + 1, i, hi, h0, j, h => by
    obtain ⟨p, q, T⟩ := C.til hi h0
    have dd : dfs e cover (f + 1) i = i :: (kids e cover i).flatMap (dfs e cover f) := rfl
    rw [dd, T.kd]
    rcases two_of T.two with e0 | ⟨a, e1⟩ | ⟨a, b, e2⟩
    · subst e0
      rw [ord_zero T.pr] at h
      simp only [List.mem_singleton] at h
      subst h; exact List.mem_cons_self
    · subst e1
      obtain ⟨k, rfl, hk, hu⟩ := T.low a (by simp)
      rw [ord_one T.pr] at h
      rcases List.mem_append.1 h with h | h
      · refine List.mem_cons_of_mem _ (List.mem_flatMap.2 ⟨k, by simp, ord_mem C N f k (by omega) hu j h⟩)
      · simp only [List.mem_singleton] at h
        subst h; exact List.mem_cons_self
    · subst e2
      obtain ⟨k, rfl, hk, hu⟩ := T.low a (by simp)
      obtain ⟨k', rfl, hk', hu'⟩ := T.low b (by simp)
      rw [ord_two T.pr] at h
      rcases List.mem_append.1 h with h | h
      · have h : j ∈ ordP e cover N f k ∨ j ∈ ordP e cover N f k' := by
          simp only [Int.toNat_natCast] at h
          split at h
          · exact (List.mem_append.1 h).symm
          · exact List.mem_append.1 h
        rcases h with h | h
        · exact List.mem_cons_of_mem _ (List.mem_flatMap.2 ⟨k, by simp, ord_mem C N f k (by omega) hu j h⟩)
        · exact List.mem_cons_of_mem _ (List.mem_flatMap.2 ⟨k', by simp, ord_mem C N f k' (by omega) hu' j h⟩)
      · simp only [List.mem_singleton] at h
        subst h; exact List.mem_cons_self
/-- a part is not below the other one -/
theorem ord_apart (C : Cov e cover) (N : List Int) {f i k k' : Nat} {q : List Int} (hi : i < e.length) (T : Til e cover i [(k : Int), (k' : Int)] q) (hk : k' < e.length) (hu : 0 ≤ cvr cover k') : k ∉ ordP e cover N f k' ∧ k ≠ k' := by
  have hd := kids_nodup (best := cover) C.ht hi
  rw [T.kd] at hd
  have hne : k ≠ k' := by
    intro q
    subst q
    simp at hd
  refine ⟨fun h => ?_, hne⟩
  have := dfs_und C.ht f k' hk k (ord_mem C N f k' hk hu k h)
  exact kid_apart C.ht hi (by rw [T.kd]; simp) (by rw [T.kd]; simp) hne this
theorem ord_apart' (C : Cov e cover) (N : List Int) {f i k k' : Nat} {q : List Int} (hi : i < e.length) (T : Til e cover i [(k : Int), (k' : Int)] q) (hk : k < e.length) (hu : 0 ≤ cvr cover k) : k' ∉ ordP e cover N f k := by
  have hd := kids_nodup (best := cover) C.ht hi
  rw [T.kd] at hd
  have hne : k' ≠ k := by
    intro q
    subst q
    simp at hd
  intro h
  have := dfs_und C.ht f k hk k' (ord_mem C N f k hk hu k' h)
  exact kid_apart C.ht hi (by rw [T.kd]; simp) (by rw [T.kd]; simp) hne this
section
variable {L : List Int} {root : Int} {R : (List In5 × (Int × Bool)) × Unit}
theorem get_at {at' : List Int} {k : Nat} (h : k < at'.length) : at'[k]? = some (at'.getD k 0) := by
  rw [List.getD_eq_getElem?_getD, List.getElem?_eq_getElem h]; rfl
theorem fin_sel (C : Cov e cover) (hLl : L.length ≤ 1000000) {i : Nat} (hi : i < e.length) {p q : List Int} (T : Til e cover i p q) (z : cvr cover i ≠ 0) {s : MSt} (G : Gm e.length s) (hroom : s.2.1.length < e.length) {u : List (Int × Bool)} {at' : List Int} (hR : Rel s.2.2 u) (hat : at'.length = e.length)
    {regs : List Int} (hregs : regs = p.map fun x => at'.getD x.toNat 0) (hr0 : ∀ r ∈ regs, 0 ≤ r) {pos : Nat} (hL : L[pos]? = some (i : Int))
    (K : ∀ u', Rel (finM e cover i regs s).2.2.2 u' → impl_selected.v0 e cover root (L.length : Int) ((pos + 1 : Nat) : Int) (finM e cover i regs s).2.1 u' (at'.set i (finM e cover i regs s).1) L = some R) :
    impl_selected.v0 e cover root (L.length : Int) (pos : Int) s.1 u at' L = some R := by
  have h24 := C.h24
  have hul := G.ul
  have huc := G.uc
  have hcl := G.cl
  have two := T.two
  have hcv := cvr_get C.len hi
  have hpl : pos < L.length := (List.getElem?_eq_some_iff.1 hL).1
  have hrl : regs.length = p.length := by rw [hregs]; simp
  have fl := freeU_len regs s.2.2
  have fc := freeU_count regs s.2.2
  have hff := firstF_lt (freeU regs s.2.2) (by omega)
  have hfl : firstF (freeU regs s.2.2) < (freeU regs s.2.2).length := (List.getElem?_eq_some_iff.1 hff).1
  have hRf := rel_free regs s.2.2 u hR hr0
  have hil : i < at'.length := by omega
  have set_get : ∀ v : Int, (at'.set i v)[i]? = some v := fun v => by rw [List.getElem?_set, if_pos rfl, if_pos hil]
  have search : ∀ (d m : Nat), m + d = firstF (freeU regs s.2.2) → impl_selected.v2 e cover root (i : Int) (L.length : Int) (pos : Int) s.1 (freeI regs u) (at'.set i ((m : Int) + 2)) regs L = some R := by
    intro d
    induction d with
    | zero =>
      intro m hm
      have hm : m = firstF (freeU regs s.2.2) := by omega
      have hlk : lookB (freeI regs u) ((m : Int) + 2) = false := by
        rw [hRf m, hm, List.getD_eq_getElem?_getD, hff]; rfl
      refine impl_selected.v2s _ _ _ _ _ _ _ _ _ _ _ ?_
      rw [br_t (by simp), br_t (by simpa using hil), Int.toNat_natCast, gt_some (set_get _), br_f hlk, br_t (by simp), br_t (by simpa using hil), gt_some (set_get _), br_t (by simp), gt_some hcv, br_t (by simp), br_t (by simpa using hil), gt_some (set_get _),
        impl_instr_v C.hn hi T.hm T.t0 T.t12 (op_size (ndAt_ok C.hn (by omega) (by omega))) _ (by omega), bd_s, br_t (decide_eq_true (by simp; omega)), next_ok pos _ hpl (by omega)]
      have := K (putB (freeI regs u) ((m : Int) + 2) true) (by unfold finM; dsimp only; rw [← hm]; exact rel_take hRf (by omega))
      unfold finM at this
      dsimp only at this
      rw [← hm, T.hm] at this
      exact this
    | succ d ih =>
      intro m hm
      have hlk : lookB (freeI regs u) ((m : Int) + 2) = true := by
        rw [hRf m, List.getD_eq_getElem?_getD, firstF_before _ m (by omega)]; rfl
      refine impl_selected.v2s _ _ _ _ _ _ _ _ _ _ _ ?_
      rw [br_t (by simp), br_t (by simpa using hil), Int.toNat_natCast, gt_some (set_get _), br_t hlk, br_t (by simp), br_t (by simpa using hil), gt_some (set_get _), br_t (by simp), br_t (by simpa using hil), gt_some (set_get _), List.set_set,
        wrap_ok (by omega) (by omega), show (m : Int) + 2 + 1 = ((m + 1 : Nat) : Int) + 2 by omega]
      exact ih (m + 1) (by omega)
  have parts : ∀ (d j : Nat) (u1 : List (Int × Bool)) (acc : List Int), j + d = p.length → acc ++ regs.drop j = regs → freeI (regs.drop j) u1 = freeI regs u → impl_selected.v1 e cover root (i : Int) (L.length : Int) (pos : Int) p (p.length : Int) (j : Int) s.1 u1 at' acc L = some R := by
    intro d
    induction d with
    | zero =>
      intro j u1 acc hj ha hf
      rw [List.drop_eq_nil_of_le (by omega)] at ha hf
      rw [List.append_nil] at ha
      have hf : u1 = freeI regs u := hf
      subst ha
      refine impl_selected.v1s _ _ _ _ _ _ _ _ _ _ _ _ _ _ ?_
      rw [br_f (decide_eq_false (by omega)), br_t (by simp), br_t (by simpa using hil), Int.toNat_natCast, gt_some (get_at hil), hf]
      exact search (firstF (freeU acc s.2.2)) 0 (by omega)
    | succ d ih =>
      intro j u1 acc hj ha hf
      have hjl : j < p.length := by omega
      have hjr : j < regs.length := by omega
      obtain ⟨k, hk, hki, _⟩ := T.low _ (List.getElem_mem hjl)
      have hrj : regs[j] = at'.getD k 0 := by
        subst hregs
        rw [List.getElem_map, hk, Int.toNat_natCast]
      have hal : acc.length ≤ 2 := by
        have := congrArg List.length ha
        rw [List.length_append] at this; omega
      rw [List.drop_eq_getElem_cons hjr] at ha hf
      refine impl_selected.v1s _ _ _ _ _ _ _ _ _ _ _ _ _ _ ?_
      have gk : p[j]? = some (k : Int) := by rw [List.getElem?_eq_getElem hjl, hk]
      rw [br_t (decide_eq_true (by omega)), br_t (by simp), Int.toNat_natCast, gt_some gk, br_t (by simp), br_t (decide_eq_true (by omega)), Int.toNat_natCast, gt_some (get_at (show k < at'.length by omega)), br_t (decide_eq_true (by simp; omega)), br_t (by simp), br_t (decide_eq_true (by omega)), gt_some (get_at (show k < at'.length by omega)), next_ok j _ hjl (by omega), ← hrj]
      exact ih (j + 1) _ _ (by omega) (by rw [List.append_assoc]; exact ha) hf
  refine impl_selected.v0s _ _ _ _ _ _ _ _ _ ?_
  rw [br_t (decide_eq_true (by omega)), br_t (by simp), br_t (decide_eq_true (by omega)), Int.toNat_natCast, gt_some hL, br_t (by simp), Int.toNat_natCast, gt_some hcv, br_f (by simpa using z), br_t (by simp), gt_some hcv, tileAt_v C.hn hi T.t0 T.t12, bd_s, tileI_eq C.hn hi T.t0 T.t12 T.hm]
  exact parts p.length 0 u [] (by omega) rfl rfl
theorem drop_more {l a r : List Int} {n : Nat} (h : l.drop n = a ++ r) : l.drop (n + a.length) = r := by
  rw [← List.drop_drop, h, List.drop_left']
  rfl
theorem node_sel (C : Cov e cover) (hN : N.length = e.length) (hLl : L.length ≤ 1000000) : ∀ (f i : Nat) (s : MSt) (u : List (Int × Bool)) (at' : List Int) (pos : Nat) (rest : List Int), i < e.length → i < f → 0 ≤ cvr cover i → Gm e.length s → s.2.1.length + (ordP e cover N f i).length ≤ e.length →
    Rel s.2.2 u → at'.length = e.length → L.drop pos = (ordP e cover N f i).map (fun j : Nat => (j : Int)) ++ rest →
    (∀ u1 at1, Rel (evS e cover N f i s).2.2.2 u1 → at1.length = e.length → at1.getD i 0 = (evS e cover N f i s).1 → (∀ j, j ∉ ordP e cover N f i → at1.getD j 0 = at'.getD j 0) →
      impl_selected.v0 e cover root (L.length : Int) ((pos + (ordP e cover N f i).length : Nat) : Int) (evS e cover N f i s).2.1 u1 at1 L = some R) →
    impl_selected.v0 e cover root (L.length : Int) (pos : Int) s.1 u at' L = some R
  | 0, i, s, u, at', pos, rest, hi, hf, h0, G, hroom, hR, hat, hL, K => by omega
  | f + 1, i, s, u, at', pos, rest, hi, hf, h0, G, hroom, hR, hat, hL, K => by
    have h24 := C.h24
    obtain ⟨p, q, T⟩ := C.til hi h0
    have hcv := cvr_get C.len hi
    by_cases z : cvr cover i = 0
    · have hp : p = [] := tile0 (by have := T.hm; rw [z] at this; exact this)
      subst hp
      rw [ord_zero T.pr] at hL hroom K
      have hev : evS e cover N (f + 1) i s = ((ndAt e (i : Int)).2.2.2, (s.1, (s.2.1 ++ [(i : Int)], s.2.2))) := by rw [ev_step, if_pos z]
      rw [hev] at K
      have hLp : L[pos]? = some (i : Int) := by
        have := congrArg (fun l => l[0]?) hL
        simpa using this
      have hpl : pos < L.length := (List.getElem?_eq_some_iff.1 hLp).1
      have gn : e[i]? = some (ndAt e (i : Int)) := by rw [ndAt_nat hi]; exact List.getElem?_eq_getElem hi
      refine impl_selected.v0s _ _ _ _ _ _ _ _ _ ?_
      rw [br_t (decide_eq_true (by omega)), br_t (by simp), br_t (decide_eq_true (by omega)), Int.toNat_natCast, gt_some hLp, br_t (by simp), Int.toNat_natCast, gt_some hcv, br_t (by simpa using z), br_t (by simp), gt_some gn, br_t (by simp), br_t (decide_eq_true (by omega)), gt_some (get_at (show i < at'.length by omega)), next_ok pos _ hpl (by omega)]
      exact K u (at'.set i (ndAt e (i : Int)).2.2.2) hR (by rw [List.length_set]; exact hat) (by rw [getD_setI _ _ _ _ (by omega), if_pos rfl]) (fun j hj => by rw [getD_setI _ _ _ _ (by omega), if_neg (fun q => hj (by subst q; simp))])
    · rcases two_of T.two with e0 | ⟨a, e1⟩ | ⟨a, b, e2⟩
      · subst e0
        rw [ord_zero T.pr] at hL hroom K
        simp only [List.length_singleton] at hroom
        have hev : evS e cover N (f + 1) i s = finM e cover i [] s := by rw [ev_step, if_neg z, T.pr]
        rw [hev] at K
        have hLp : L[pos]? = some (i : Int) := by
          have := congrArg (fun l => l[0]?) hL
          simpa using this
        exact fin_sel C hLl hi T z G (by omega) hR hat (regs := []) rfl (by simp) hLp fun u' hu' => K u' _ hu' (by rw [List.length_set]; exact hat) (by rw [getD_setI _ _ _ _ (by omega), if_pos rfl]) (fun j hj => by rw [getD_setI _ _ _ _ (by omega), if_neg (fun q => hj (by subst q; simp))])
      · subst e1
        obtain ⟨k, rfl, hk, hu⟩ := T.low a (by simp)
        rw [ord_one T.pr] at hL hroom K
        simp only [Int.toNat_natCast] at hL hroom K
        rw [List.length_append, List.length_singleton] at hroom
        have hev : evS e cover N (f + 1) i s = finM e cover i [(evS e cover N f k s).1] (evS e cover N f k s).2 := by rw [ev_step, if_neg z, T.pr]; rfl
        rw [hev] at K
        obtain ⟨_, d1⟩ := evalM_v C hN f k s (by omega) (by omega) hu G (by omega)
        have l1 : (evS e cover N f k s).2.2.1.length = s.2.1.length + (ordP e cover N f k).length := by rw [d1.o]; simp
        rw [List.map_append, List.append_assoc] at hL
        refine node_sel C hN hLl f k s u at' pos _ (by omega) (by omega) hu G (by omega) hR hat hL fun u1 at1 r1 a1 g1 o1 => ?_
        have hd := drop_more hL
        rw [List.length_map] at hd
        have hLp : L[pos + (ordP e cover N f k).length]? = some (i : Int) := by
          have := congrArg (fun l => l[0]?) hd
          simpa using this
        refine fin_sel C hLl hi T z d1.g (by omega) r1 a1 (regs := [(evS e cover N f k s).1]) (by simp [← g1]) (by intro r hr; simp only [List.mem_singleton] at hr; subst hr; exact d1.r0) hLp fun u' hu' => ?_
        have := K u' (at1.set i (finM e cover i [(evS e cover N f k s).1] (evS e cover N f k s).2).1) hu' (by rw [List.length_set]; exact a1) (by rw [getD_setI _ _ _ _ (by omega), if_pos rfl]) (fun j hj => by
          rw [List.mem_append, not_or] at hj
          rw [getD_setI _ _ _ _ (by omega), if_neg (fun q => hj.2 (by subst q; simp)), o1 j hj.1])
        rw [List.length_append, List.length_singleton] at this
        exact this
      · subst e2
        obtain ⟨k, rfl, hk, hu⟩ := T.low a (by simp)
        obtain ⟨k', rfl, hk', hu'⟩ := T.low b (by simp)
        rw [ord_two T.pr] at hL hroom K
        simp only [Int.toNat_natCast] at hL hroom K
        rw [List.length_append, List.length_singleton] at hroom
        by_cases c : N.getD k 0 < N.getD k' 0
        · rw [if_pos c] at hL hroom K
          rw [List.length_append] at hroom
          have hev : evS e cover N (f + 1) i s = finM e cover i [(evS e cover N f k (evS e cover N f k' s).2).1, (evS e cover N f k' s).1] (evS e cover N f k (evS e cover N f k' s).2).2 := by
            rw [ev_step, if_neg z, T.pr]; dsimp only; rw [Int.toNat_natCast, Int.toNat_natCast, if_pos c]
          rw [hev] at K
          obtain ⟨_, d1⟩ := evalM_v C hN f k' s (by omega) (by omega) hu' G (by omega)
          have l1 : (evS e cover N f k' s).2.2.1.length = s.2.1.length + (ordP e cover N f k').length := by rw [d1.o]; simp
          obtain ⟨_, d2⟩ := evalM_v C hN f k (evS e cover N f k' s).2 (by omega) (by omega) hu d1.g (by omega)
          have l2 : (evS e cover N f k (evS e cover N f k' s).2).2.2.1.length = (evS e cover N f k' s).2.2.1.length + (ordP e cover N f k).length := by rw [d2.o]; simp
          rw [List.map_append, List.map_append, List.append_assoc, List.append_assoc] at hL
          refine node_sel C hN hLl f k' s u at' pos _ (by omega) (by omega) hu' G (by omega) hR hat hL fun u1 at1 r1 a1 g1 o1 => ?_
          have hd := drop_more hL
          rw [List.length_map] at hd
          refine node_sel C hN hLl f k (evS e cover N f k' s).2 u1 at1 _ _ (by omega) (by omega) hu d1.g (by omega) r1 a1 hd fun u2 at2 r2 a2 g2 o2 => ?_
          have hd2 := drop_more hd
          rw [List.length_map] at hd2
          have hLp : L[pos + (ordP e cover N f k').length + (ordP e cover N f k).length]? = some (i : Int) := by
            have := congrArg (fun l => l[0]?) hd2
            simpa using this
          have g1' : at2.getD k' 0 = (evS e cover N f k' s).1 := by rw [o2 k' (ord_apart' C N hi T (by omega) hu), g1]
          refine fin_sel C hLl hi T z d2.g (by omega) r2 a2 (regs := [(evS e cover N f k (evS e cover N f k' s).2).1, (evS e cover N f k' s).1]) (by simp only [List.map_cons, List.map_nil, Int.toNat_natCast]; rw [g1', g2]) (by
            intro r hr; simp only [List.mem_cons, List.not_mem_nil, or_false] at hr
            rcases hr with hr | hr
            · subst hr; exact d2.r0
            · subst hr; exact d1.r0) hLp fun u' hu' => ?_
          have := K u' (at2.set i (finM e cover i [(evS e cover N f k (evS e cover N f k' s).2).1, (evS e cover N f k' s).1] (evS e cover N f k (evS e cover N f k' s).2).2).1) hu' (by rw [List.length_set]; exact a2) (by rw [getD_setI _ _ _ _ (by omega), if_pos rfl]) (fun j hj => by
            rw [List.mem_append, List.mem_append, not_or, not_or] at hj
            rw [getD_setI _ _ _ _ (by omega), if_neg (fun q => hj.2 (by subst q; simp)), o2 j hj.1.2, o1 j hj.1.1])
          rw [List.length_append, List.length_append, List.length_singleton] at this
          rw [show pos + (ordP e cover N f k').length + (ordP e cover N f k).length + 1 = pos + ((ordP e cover N f k').length + (ordP e cover N f k).length + 1) by omega]
          exact this
        · rw [if_neg c] at hL hroom K
          rw [List.length_append] at hroom
          have hev : evS e cover N (f + 1) i s = finM e cover i [(evS e cover N f k s).1, (evS e cover N f k' (evS e cover N f k s).2).1] (evS e cover N f k' (evS e cover N f k s).2).2 := by
            rw [ev_step, if_neg z, T.pr]; dsimp only; rw [Int.toNat_natCast, Int.toNat_natCast, if_neg c]
          rw [hev] at K
          obtain ⟨_, d1⟩ := evalM_v C hN f k s (by omega) (by omega) hu G (by omega)
          have l1 : (evS e cover N f k s).2.2.1.length = s.2.1.length + (ordP e cover N f k).length := by rw [d1.o]; simp
          obtain ⟨_, d2⟩ := evalM_v C hN f k' (evS e cover N f k s).2 (by omega) (by omega) hu' d1.g (by omega)
          have l2 : (evS e cover N f k' (evS e cover N f k s).2).2.2.1.length = (evS e cover N f k s).2.2.1.length + (ordP e cover N f k').length := by rw [d2.o]; simp
          rw [List.map_append, List.map_append, List.append_assoc, List.append_assoc] at hL
          refine node_sel C hN hLl f k s u at' pos _ (by omega) (by omega) hu G (by omega) hR hat hL fun u1 at1 r1 a1 g1 o1 => ?_
          have hd := drop_more hL
          rw [List.length_map] at hd
          refine node_sel C hN hLl f k' (evS e cover N f k s).2 u1 at1 _ _ (by omega) (by omega) hu' d1.g (by omega) r1 a1 hd fun u2 at2 r2 a2 g2 o2 => ?_
          have hd2 := drop_more hd
          rw [List.length_map] at hd2
          have hLp : L[pos + (ordP e cover N f k).length + (ordP e cover N f k').length]? = some (i : Int) := by
            have := congrArg (fun l => l[0]?) hd2
            simpa using this
          have g1' : at2.getD k 0 = (evS e cover N f k s).1 := by rw [o2 k (ord_apart C N hi T (by omega) hu').1, g1]
          refine fin_sel C hLl hi T z d2.g (by omega) r2 a2 (regs := [(evS e cover N f k s).1, (evS e cover N f k' (evS e cover N f k s).2).1]) (by simp only [List.map_cons, List.map_nil, Int.toNat_natCast]; rw [g1', g2]) (by
            intro r hr; simp only [List.mem_cons, List.not_mem_nil, or_false] at hr
            rcases hr with hr | hr
            · subst hr; exact d1.r0
            · subst hr; exact d2.r0) hLp fun u' hu' => ?_
          have := K u' (at2.set i (finM e cover i [(evS e cover N f k s).1, (evS e cover N f k' (evS e cover N f k s).2).1] (evS e cover N f k' (evS e cover N f k s).2).2).1) hu' (by rw [List.length_set]; exact a2) (by rw [getD_setI _ _ _ _ (by omega), if_pos rfl]) (fun j hj => by
            rw [List.mem_append, List.mem_append, not_or, not_or] at hj
            rw [getD_setI _ _ _ _ (by omega), if_neg (fun q => hj.2 (by subst q; simp)), o2 j hj.1.2, o1 j hj.1.1])
          rw [List.length_append, List.length_append, List.length_singleton] at this
          rw [show pos + (ordP e cover N f k).length + (ordP e cover N f k').length + 1 = pos + ((ordP e cover N f k).length + (ordP e cover N f k').length + 1) by omega]
          exact this
end
/-- what is selected -/
def selP (e : List Nd) (cover : List Int) : List In5 × (Int × Bool) := if 4 < (needL e cover false).getD (e.length - 1) 0 then ([], (0, false)) else ((madeS e cover).2.1, ((madeS e cover).1, true))
theorem selP_len (C : Cov e cover) : (selP e cover).1.length ≤ 1000 := by
  unfold selP
  split
  · simp
  · obtain ⟨_, ho, G, _⟩ := make_v C
    have := G.cl
    rw [ho] at this
    have h1 := ord_le C (needL e cover false) e.length (e.length - 1) (by have := C.h1; omega) C.root
    have h24 := C.h24
    unfold orderL at this
    rw [List.length_map] at this
    show (madeS e cover).2.1.length ≤ 1000
    omega
theorem specSel_v (C : Cov e cover) : spec_seSelect.v e cover = some (selP e cover, ()) := by
  have h1 := C.h1
  have h24 := C.h24
  refine spec_seSelect.vs _ _ ?_
  unfold selP
  rw [seNeeds_v C.hn h1 h24 C.hc, bd_s, last_w h1 (by omega), br_t (by simp), Int.toNat_natCast, gt_some (needL_last h1)]
  by_cases c : 4 < (needL e cover false).getD (e.length - 1) 0
  · rw [if_pos c, br_t (decide_eq_true c)]
  · rw [if_neg c, br_f (decide_eq_false c), (make_v C).1, bd_s]
theorem implSel_v (C : Cov e cover) : impl_selected.v e cover = some (selP e cover, ()) := by
  have h1 := C.h1
  have h24 := C.h24
  have hN : (needL e cover false).length = e.length := needL_len
  refine impl_selected.vs _ _ ?_
  unfold selP
  rw [show true = (!false) from rfl, needs_v C.hn h1 h24 C.hc, bd_s, last_w h1 (by omega), br_t (by simp), br_t (decide_eq_true (by show ((e.length - 1 : Nat) : Int) < ((needL e cover false).length : Int); omega)), Int.toNat_natCast, gt_some (needL_last h1)]
  by_cases c : 4 < (needL e cover false).getD (e.length - 1) 0
  · rw [if_pos c, br_t (decide_eq_true c)]
  · rw [if_neg c, br_f (decide_eq_false c), br_t (by simp), br_t (decide_eq_true (by omega)), order_v C, bd_s, Int.toNat_natCast]
    have hol := ord_le C (needL e cover false) e.length (e.length - 1) (by omega) C.root
    refine node_sel C hN (L := orderL e cover) (by unfold orderL; rw [List.length_map]; omega) e.length (e.length - 1) ([], ([], List.replicate (e.length + 1) false)) [] (List.replicate e.length 0) 0 [] (by omega) (by omega) C.root ⟨by simp, by simp [List.count_replicate], by simp⟩ (by simpa using hol) (fun k => by
      rw [List.getD_eq_getElem?_getD, List.getElem?_replicate]
      split <;> rfl) (by simp) (by rw [List.drop_zero, List.append_nil]; rfl) fun u1 at1 r1 a1 g1 o1 => ?_
    refine impl_selected.v0s _ _ _ _ _ _ _ _ _ ?_
    rw [br_f (decide_eq_false (by unfold orderL; rw [List.length_map]; omega)), br_t (by simp), br_t (decide_eq_true (by omega)), Int.toNat_natCast, gt_some (get_at (show e.length - 1 < at1.length by omega)), g1]
    rfl
def selectA (e : List Nd) (cover : List Int) : List In5 × (Int × Bool) := if coverA e cover = true then selP e cover else ([], (0, false))
theorem selectA_len : (selectA e cover).1.length ≤ 1000 := by
  unfold selectA
  split
  · rename_i h; exact selP_len (cov_of h)
  · simp
theorem specSelect_v (hl : e.length ≤ 1048576) : spec_SelectCode.v e cover = some (selectA e cover, ()) := by
  refine spec_SelectCode.vs _ _ ?_
  rw [seGiven_v hl, bd_s]; unfold selectA
  by_cases c : coverA e cover = true
  · rw [if_pos c, c, brn_t, specSel_v (cov_of c), bd_s]
  · rw [if_neg c]; rw [Bool.not_eq_true] at c; rw [c]; rfl
theorem implSelect_v (hl : e.length ≤ 1048576) : impl_SelectCode.v e cover = some (selectA e cover, ()) := by
  refine impl_SelectCode.vs _ _ ?_
  rw [areCovered_v hl, bd_s]; unfold selectA
  by_cases c : coverA e cover = true
  · rw [if_pos c, c, brn_t, implSel_v (cov_of c), bd_s]
  · rw [if_neg c]; rw [Bool.not_eq_true] at c; rw [c]; rfl
end
end Go.Proofs.YtafjengmkiepbaaGreat.Am
end
section
/- The cover that choices give: the program's walk; tiles at a node; the reference's queue. -/
namespace Go.Proofs.YtafjengmkiepbaaGreat.Am
open Go
set_option linter.unusedVariables false
set_option linter.unusedSimpArgs false
section
variable {e : List Nd} {best : List Int}
abbrev cbR (best o : List Int) (e : List Nd) : Unit × List Int × Unit × List Int × List Nd × Unit := ((), (best, ((), (o, (e, ())))))
theorem cb_parts {ps : List Int} (h2 : ps.length ≤ 2) {w : Nat → List Nat} (hw : ∀ p ∈ ps, ∃ q : Nat, p = (q : Int) ∧ ∀ (o : List Int), o.length = e.length → impl_coverBy_1.v p best o e = some (cbR best (setL best o (w q)) e)) :
    ∀ (d j : Nat) (o : List Int), j + d = ps.length → o.length = e.length → impl_coverBy_1.v0 ps (ps.length : Int) (j : Int) best o e = some (cbR best (setL best o (((ps.drop j).map Int.toNat).flatMap w)) e) := by
  intro d
  induction d with
  | zero =>
    intro j o hj ho
    refine impl_coverBy_1.v0s _ _ _ _ _ _ ?_
    rw [br_f (by simp; omega), List.drop_eq_nil_of_le (by omega)]
    simp [setL]
  | succ d ih =>
    intro j o hj ho
    have hlt : j < ps.length := by omega
    refine impl_coverBy_1.v0s _ _ _ _ _ _ ?_
    obtain ⟨q, hq, hv⟩ := hw _ (List.getElem_mem hlt)
    rw [br_t (by simpa using hlt), br_t (by simp), Int.toNat_natCast, gt_at _ hlt, next_ok j _ hlt (by omega), hv o ho, bd_s]
    simp only
    rw [ih (j + 1) _ (by omega) (by rw [setL_len]; exact ho), drop_at _ _ hlt, hq]
    simp only [List.map_cons, Int.toNat_natCast, List.flatMap_cons, setL_app]
theorem coverBy_1_v (hn : nodesOk e 0 = true) (hl : best.length = e.length) (hv : ∀ j, j < e.length → vld e best j = true) : ∀ (f i : Nat) (o : List Int), i < e.length → i < f → o.length = e.length →
    impl_coverBy_1.v (i : Int) best o e = some (cbR best (setL best o (dfs e best f i)) e)
  | 0, i, o, _, h, _ => by omega
  | f + 1, i, o, hi, hf, ho => by
    have hc := cvr_get hl hi
    have hvi := hv i hi
    obtain ⟨⟨b0, b1⟩, p, q, hm⟩ := vld_parts hvi
    have ho' : ∃ z, o[i]? = some z := ⟨_, List.getElem?_eq_getElem (by omega)⟩
    obtain ⟨z, hz⟩ := ho'
    refine impl_coverBy_1.vs _ _ _ _ ?_
    rw [br_t (by simp), Int.toNat_natCast, gt_some hc, br_t (by simp), br_t (by rw [ho]; simpa using hi), gt_some hz, br_t (by simp), gt_some hc, tileAt_v hn hi b0 b1, bd_s, tileI_eq hn hi b0 b1 hm]
    have hp := tile_parts hn hi hm
    have := cb_parts (e := e) (best := best) hp.1 (w := dfs e best f) (fun x hx => by
      obtain ⟨p0, p1⟩ := hp.2 x hx
      obtain ⟨q, rfl⟩ := Int.eq_ofNat_of_zero_le p0
      exact ⟨q, rfl, fun o ho => coverBy_1_v hn hl hv f q o (by omega) (by omega) ho⟩) p.length 0 (o.set i (cvr best i)) (by omega) (by rw [List.length_set]; exact ho)
    rw [List.drop_zero] at this
    refine this.trans ?_
    simp only [dfs, kids]
    rw [if_pos hvi, show prts e i (cvr best i) = p by unfold prts; rw [hm]]
    rfl
/-- the cover that choices give -/
def chosen (e : List Nd) (best : List Int) : List Int := setL best (List.replicate e.length (-1)) (need e best)
theorem chosen_len : (chosen e best).length = e.length := by unfold chosen; rw [setL_len]; simp
theorem chosen_get {j : Nat} (hj : j < e.length) : (chosen e best)[j]? = some (if (need e best).contains j = true then cvr best j else -1) := by
  unfold chosen
  rw [setL_get _ _ _ (by simpa using hj)]
  simp [List.getD_eq_getElem?_getD, hj]
theorem coverBy_v (hn : nodesOk e 0 = true) (h1 : 1 ≤ e.length) (h24 : e.length ≤ 24) (hl : best.length = e.length) (hv : ∀ j, j < e.length → vld e best j = true) : impl_coverBy.v e best = some (chosen e best, ()) := by
  refine impl_coverBy.vs _ _ ?_
  rw [empty_v h1 h24, bd_s, last_w h1 (by omega), coverBy_1_v hn hl hv e.length (e.length - 1) _ (by omega) (by omega) (by simp), bd_s]
  rfl
/-- the tiles at a node -/
def tl (e : List Nd) (i k : Nat) : List Int := ((List.range k).map (fun t : Nat => (t : Int))).filter (fun t => (tileM e i t).isSome)
theorem tl_succ (i k : Nat) : tl e i (k + 1) = tl e i k ++ if (tileM e i (k : Int)).isSome = true then [(k : Int)] else [] := by
  unfold tl
  rw [List.range_succ, List.map_append, List.filter_append]
  congr 1
  cases h : (tileM e i (k : Int)).isSome <;> simp [h]
theorem tl_len (i k : Nat) : (tl e i k).length ≤ k := by
  unfold tl
  exact Nat.le_trans (List.length_filter_le _ _) (by simp)
theorem tl_mem {i k : Nat} {t : Int} (h : t ∈ tl e i k) : 0 ≤ t ∧ t < k ∧ (tileM e i t).isSome = true := by
  unfold tl at h
  rw [List.mem_filter, List.mem_map] at h
  obtain ⟨⟨a, ha, rfl⟩, h2⟩ := h
  have := List.mem_range.1 ha
  exact ⟨by omega, by omega, h2⟩
theorem tilesAt_v (hn : nodesOk e 0 = true) {i : Nat} (hi : i < e.length) : impl_tilesAt.v e (i : Int) = some (tl e i 13) := by
  refine impl_tilesAt.vs _ _ ?_
  have key : ∀ (d k : Nat), k + d = 13 → impl_tilesAt.v0 e (i : Int) (k : Int) (tl e i k) = some (tl e i 13) := by
    intro d
    induction d with
    | zero =>
      intro k hk
      refine impl_tilesAt.v0s _ _ _ _ ?_
      rw [br_f (by simp; omega), show k = 13 by omega]
    | succ d ih =>
      intro k hk
      have := tl_len (e := e) i k
      have h := ih (k + 1) (by omega)
      refine impl_tilesAt.v0s _ _ _ _ ?_
      rw [br_t (by simp; omega), tileAt_v hn hi (by omega) (by omega), bd_s, next_ok k 13 (by omega) (by omega)]
      rw [tl_succ] at h
      cases c : (tileM e i (k : Int)).isSome with
      | true => rw [c, if_pos rfl] at h; rw [br_t rfl, br_t (by simp; omega)]; exact h
      | false => rw [c, if_neg (by simp), List.append_nil] at h; rw [br_f rfl]; exact h
  exact key 13 0 rfl
theorem cvTiles_v (hn : nodesOk e 0 = true) {i : Nat} (hi : i < e.length) : spec_cvTiles.v e (i : Int) = some (tl e i 13) := by
  refine spec_cvTiles.vs _ _ ?_
  have key : ∀ (d k : Nat), k + d = 13 → spec_cvTiles.v0 e (i : Int) (k : Int) (tl e i k) = some (tl e i 13) := by
    intro d
    induction d with
    | zero =>
      intro k hk
      refine spec_cvTiles.v0s _ _ _ _ ?_
      rw [br_f (by simp; omega), show k = 13 by omega]
    | succ d ih =>
      intro k hk
      have := tl_len (e := e) i k
      have h := ih (k + 1) (by omega)
      refine spec_cvTiles.v0s _ _ _ _ ?_
      rw [br_t (by simp; omega), cvTile_v hn hi, bd_s, next_ok k 13 (by omega) (by omega)]
      rw [tl_succ] at h
      cases c : tileM e i (k : Int) with
      | some pq => rw [c, if_pos (show (some pq).isSome = true from rfl)] at h; rw [br_t (show (told (some pq)).2.2 = true from rfl), br_t (by simp; omega)]; exact h
      | none => rw [c, if_neg (by simp), List.append_nil] at h; rw [br_f (show (told none).2.2 = false from rfl)]; exact h
  exact key 13 0 rfl
/-- each node has a tile -/
theorem tl_some (hn : nodesOk e 0 = true) {i : Nat} (hi : i < e.length) : tl e i 13 ≠ [] := by
  have hk : nodeOk (ndAt e i) (i : Int) = true := ndAt_ok hn (by omega) (by omega)
  have : ∃ t : Nat, t < 13 ∧ (tileM e i (t : Int)).isSome = true := by
    unfold tileM tileN
    by_cases c0 : (ndAt e i).1 = tIn
    · exact ⟨0, by omega, by simp [c0]⟩
    by_cases c1 : (ndAt e i).1 = tConst
    · exact ⟨1, by omega, by simp [c1]⟩
    by_cases c2 : isOne (ndAt e i).1 = true
    · exact ⟨2, by omega, by simp [c2]⟩
    by_cases c3 : isTwo (ndAt e i).1 = true
    · exact ⟨3, by omega, by simp [c3]⟩
    · exfalso
      unfold nodeOk at hk
      simp [c0, c1, c2, c3] at hk
  obtain ⟨t, ht, hs⟩ := this
  intro h0
  have : (t : Int) ∈ tl e i 13 := by
    unfold tl
    rw [List.mem_filter]
    exact ⟨List.mem_map.2 ⟨t, List.mem_range.2 ht, rfl⟩, hs⟩
  rw [h0] at this
  cases this
end
end Go.Proofs.YtafjengmkiepbaaGreat.Am
end
section
/- The reference's queue of nodes that need tiles. -/
namespace Go.Proofs.YtafjengmkiepbaaGreat.Am
open Go
set_option linter.unusedVariables false
set_option linter.unusedSimpArgs false
section
variable {e : List Nd} {best : List Int}
/-- what is still to come, at most -/
def mq (l : List Int) : Nat := (l.map (fun x : Int => 3 ^ x.toNat)).sum
theorem mq_cons (x : Int) (l : List Int) : mq (x :: l) = 3 ^ x.toNat + mq l := by simp [mq]
theorem mq_app (l m : List Int) : mq (l ++ m) = mq l + mq m := by simp [mq]
theorem mq_len : ∀ l : List Int, l.length ≤ mq l
  | [] => by simp [mq]
  | x :: l => by
    have := mq_len l
    have : 0 < 3 ^ x.toNat := Nat.pow_pos (by omega)
    rw [mq_cons, List.length_cons]; omega
theorem mq_parts {n : Nat} {ps : List Int} (h2 : ps.length ≤ 2) (h : ∀ y ∈ ps, 0 ≤ y ∧ y < n) : mq ps + 1 ≤ 3 ^ n := by
  have one : ∀ y : Int, 0 ≤ y → y < n → 3 * 3 ^ y.toNat ≤ 3 ^ n := fun y h0 h1 => by
    rw [Nat.mul_comm, ← Nat.pow_succ]
    exact Nat.pow_le_pow_right (by omega) (by omega)
  have pos : 0 < 3 ^ n := Nat.pow_pos (by omega)
  rcases two_of h2 with e0 | ⟨a, e1⟩ | ⟨a, b, e2⟩
  · subst e0; simp [mq]; omega
  · subst e1
    have ha := h a (by simp)
    have := one a ha.1 ha.2
    have : 0 < 3 ^ a.toNat := Nat.pow_pos (by omega)
    simp [mq]; omega
  · subst e2
    have ha := h a (by simp)
    have hb := h b (by simp)
    have := one a ha.1 ha.2
    have := one b hb.1 hb.2
    have : 0 < 3 ^ a.toNat := Nat.pow_pos (by omega)
    simp [mq]; omega
structure Bfs (e : List Nd) (best o op : List Int) (k : Nat) : Prop where
  len : o.length = e.length
  le : k ≤ op.length
  ok : ∀ x ∈ op, 0 ≤ x ∧ x < e.length ∧ x.toNat ∈ need e best
  root : ((e.length - 1 : Nat) : Int) ∈ op
  val : ∀ j, j < e.length → o[j]? = some (if (j : Int) ∈ op.take k then cvr best j else -1)
  kid : ∀ x ∈ op.take k, ∀ y ∈ kids e best x.toNat, ((y : Nat) : Int) ∈ op
  size : k + mq (op.drop k) ≤ 282429536481
theorem Bfs.bound {o op : List Int} {k : Nat} (h : Bfs e best o op k) : op.length ≤ 282429536481 := by
  have h1 := mq_len (op.drop k)
  have h2 := h.size
  have h3 := h.le
  rw [List.length_drop] at h1
  omega
theorem Bfs.start (hn : nodesOk e 0 = true) (h1 : 1 ≤ e.length) (h24 : e.length ≤ 24) : Bfs e best (List.replicate e.length (-1)) [((e.length - 1 : Nat) : Int)] 0 :=
  ⟨by simp, by simp, fun x hx => by
    rw [List.mem_singleton] at hx
    subst hx
    exact ⟨by omega, by omega, by rw [Int.toNat_natCast]; exact need_root h1⟩, by simp, fun j hj => by simp [hj], fun x hx => by simp at hx, by
    have : 3 ^ (e.length - 1) ≤ 3 ^ 23 := Nat.pow_le_pow_right (by omega) (by omega)
    simp [mq]; omega⟩
theorem Bfs.step (hn : nodesOk e 0 = true) (h1 : 1 ≤ e.length) (hv : ∀ j, j < e.length → vld e best j = true) {o op : List Int} {k : Nat} (h : Bfs e best o op k) (hk : k < op.length) {i : Nat} (hi : op[k] = (i : Int)) :
    Bfs e best (o.set i (cvr best i)) (op ++ prts e i (cvr best i)) (k + 1) ∧ mq ((op ++ prts e i (cvr best i)).drop (k + 1)) < mq (op.drop k) := by
  have hx := h.ok _ (List.getElem_mem hk)
  rw [hi] at hx
  have hie : i < e.length := by omega
  have hp := prts_ok hn hie (cvr best i)
  have hin : i ∈ need e best := by have := hx.2.2; rw [Int.toNat_natCast] at this; exact this
  have hkid : kids e best i = (prts e i (cvr best i)).map Int.toNat := by unfold kids; rw [if_pos (hv i hie)]
  have htake : (op ++ prts e i (cvr best i)).take (k + 1) = op.take k ++ [(i : Int)] := by
    rw [List.take_append_of_le_length (by omega), List.take_succ_eq_append_getElem hk, hi]
  have hdrop : (op ++ prts e i (cvr best i)).drop (k + 1) = op.drop (k + 1) ++ prts e i (cvr best i) := List.drop_append_of_le_length (by omega)
  have hd : op.drop k = (i : Int) :: op.drop (k + 1) := by rw [drop_at _ _ hk, hi]
  have hm := mq_parts hp.1 (n := i) hp.2
  have hs := h.size
  rw [hd, mq_cons, Int.toNat_natCast] at hs
  refine ⟨⟨by rw [List.length_set]; exact h.len, by rw [List.length_append]; omega, ?_, List.mem_append.2 (.inl h.root), ?_, ?_, ?_⟩, ?_⟩
  · intro x hx
    rcases List.mem_append.1 hx with q | q
    · exact h.ok x q
    · have := hp.2 x q
      exact ⟨this.1, by omega, dfs_close hn _ _ (by omega) (by omega) i hin _ (by rw [hkid]; exact List.mem_map_of_mem q)⟩
  · intro j hj
    rw [htake, List.getElem?_set]
    by_cases c : i = j
    · subst c
      rw [if_pos rfl, if_pos (by rw [h.len]; exact hj), if_pos (by simp)]
    · rw [if_neg c, h.val j hj]
      have : ((j : Int) ∈ op.take k ++ [(i : Int)]) ↔ (j : Int) ∈ op.take k := by
        rw [List.mem_append, List.mem_singleton]
        constructor
        · rintro (q | q)
          · exact q
          · omega
        · exact .inl
      simp only [this]
  · intro x hx y hy
    rw [htake] at hx
    rcases List.mem_append.1 hx with q | q
    · exact List.mem_append.2 (.inl (h.kid x q y hy))
    · rw [List.mem_singleton] at q
      subst q
      rw [Int.toNat_natCast, hkid] at hy
      obtain ⟨z, hz, rfl⟩ := List.mem_map.1 hy
      have := hp.2 z hz
      rw [Int.toNat_of_nonneg this.1]
      exact List.mem_append.2 (.inr hz)
  · rw [hdrop, mq_app]; omega
  · rw [hdrop, mq_app, hd, mq_cons, Int.toNat_natCast]; omega
theorem Bfs.done (hn : nodesOk e 0 = true) (h1 : 1 ≤ e.length) {o op : List Int} {k : Nat} (h : Bfs e best o op k) (hk : ¬ k < op.length) : o = chosen e best := by
  have ht : op.take k = op := List.take_of_length_le (by omega)
  have hall : ∀ (d j : Nat), j + d = e.length → j ∈ need e best → (j : Int) ∈ op := by
    intro d
    induction d using Nat.strongRecOn with
    | ind d ih =>
      intro j hj hm
      rcases dfs_parent hn _ _ (by omega) (by omega) j hm with q | ⟨i, hi, hji⟩
      · subst q; exact h.root
      · have hil := need_lt hn h1 hi
        have := kids_lt hn hil j hji
        have hio := ih (e.length - i) (by omega) i (by omega) hi
        exact h.kid (i : Int) (by rw [ht]; exact hio) j (by rw [Int.toNat_natCast]; exact hji)
  apply List.ext_getElem?
  intro j
  by_cases hj : j < e.length
  · rw [h.val j hj, chosen_get hj, ht]
    have : ((j : Int) ∈ op) ↔ (need e best).contains j = true := by
      rw [List.contains_iff_mem]
      exact ⟨fun q => by have := (h.ok _ q).2.2; rw [Int.toNat_natCast] at this; exact this, fun q => hall (e.length - j) j (by omega) q⟩
    simp only [this]
  · rw [List.getElem?_eq_none (by have := h.len; omega), List.getElem?_eq_none (by rw [chosen_len]; omega)]
theorem Bfs.cur {o op : List Int} {k : Nat} (h : Bfs e best o op k) {i : Nat} (hi : i < e.length) : ∃ c, o[i]? = some c ∧ (c = -1 ∨ c = cvr best i) := by
  refine ⟨_, h.val i hi, ?_⟩
  split
  · exact .inr rfl
  · exact .inl rfl
end
end Go.Proofs.YtafjengmkiepbaaGreat.Am
end
section
/- The cover with the largest tiles. -/
namespace Go.Proofs.YtafjengmkiepbaaGreat.Am
open Go
set_option linter.unusedVariables false
set_option linter.unusedSimpArgs false
section
variable {e : List Nd}
theorem set_same {o : List Int} {i : Nat} {c : Int} (h : o[i]? = some c) : o.set i c = o := by
  apply List.ext_getElem?
  intro j
  rw [List.getElem?_set]
  by_cases d : i = j
  · subst d
    have : i < o.length := by
      by_cases q : i < o.length
      · exact q
      · rw [List.getElem?_eq_none (by omega)] at h; cases h
    rw [if_pos rfl, if_pos this, h]
  · rw [if_neg d]
theorem told_prts (i : Nat) (t : Int) : (told (tileM e i t)).1 = prts e i t := by
  unfold prts
  cases tileM e i t with
  | none => rfl
  | some pq => rfl
theorem lt_of_get {o : List Int} {i : Nat} {c : Int} (h : o[i]? = some c) : i < o.length := by
  by_cases q : i < o.length
  · exact q
  · rw [List.getElem?_eq_none (by omega)] at h; cases h
/-! ### the program -/
end
end Go.Proofs.YtafjengmkiepbaaGreat.Am
end
section
/- The cover with the least cost. -/
namespace Go.Proofs.YtafjengmkiepbaaGreat.Am
open Go
set_option linter.unusedVariables false
set_option linter.unusedSimpArgs false
section
variable {e : List Nd}
def sumP (P : List Int) : List Int → Int → Int
  | [], s => s
  | k :: r, s => sumP P r (IntKind.wrap .i64 (s + P.getD k.toNat 0))
/-- a tile's cost with its parts' prices -/
def wth (e : List Nd) (i : Nat) (P : List Int) (t : Int) : Int := sumP P (prts e i t) (tCost e i t)
theorem sumP_same {P Q : List Int} : ∀ (ps : List Int) (s : Int), (∀ k ∈ ps, P.getD k.toNat 0 = Q.getD k.toNat 0) → sumP P ps s = sumP Q ps s
  | [], s, _ => rfl
  | k :: r, s, h => by
    unfold sumP
    rw [h k (by simp)]
    exact sumP_same r _ (fun x hx => h x (by simp [hx]))
theorem wth_same (hn : nodesOk e 0 = true) {i : Nat} (hi : i < e.length) {P Q : List Int} (h : ∀ k, k < i → P.getD k 0 = Q.getD k 0) (t : Int) : wth e i P t = wth e i Q t :=
  sumP_same _ _ (fun k hk => h _ (by have := (prts_ok hn hi t).2 k hk; omega))
theorem get_D {P : List Int} {j : Nat} (h : j < P.length) : P[j]? = some (P.getD j 0) := by
  rw [List.getD_eq_getElem?_getD, List.getElem?_eq_getElem h]; rfl
theorem cvWith_v (hn : nodesOk e 0 = true) {i : Nat} (hi : i < e.length) {P : List Int} (hP : P.length = e.length) (t : Int) : spec_cvWith.v e (i : Int) t P = some (wth e i P t) := by
  refine spec_cvWith.vs _ _ _ _ ?_
  have hp := prts_ok hn hi t
  rw [cvCost_f hi, bd_s, cvTile_v hn hi, bd_s, told_prts]
  have key : ∀ (d j : Nat) (s : Int), j + d = (prts e i t).length → spec_cvWith.v0 P s (prts e i t) ((prts e i t).length : Int) (j : Int) = some (sumP P ((prts e i t).drop j) s) := by
    intro d
    induction d with
    | zero =>
      intro j s hj
      refine spec_cvWith.v0s _ _ _ _ _ ?_
      rw [br_f (by simp; omega), List.drop_eq_nil_of_le (by omega)]; rfl
    | succ d ih =>
      intro j s hj
      have hjl : j < (prts e i t).length := by omega
      have hx := hp.2 _ (List.getElem_mem hjl)
      refine spec_cvWith.v0s _ _ _ _ _ ?_
      rw [br_t (by simpa using hjl), br_t (by simp), Int.toNat_natCast, gt_at _ hjl, br_t (by simpa using hx.1), gt_some (get_D (P := P) (j := ((prts e i t)[j]).toNat) (by omega)), next_ok j _ hjl (by omega), drop_at _ _ hjl]
      exact ih (j + 1) _ (by omega)
  exact key (prts e i t).length 0 _ (by omega)
theorem total_v (hn : nodesOk e 0 = true) {i : Nat} (hi : i < e.length) {P : List Int} (hP : P.length = e.length) (t : Int) (q : List Int) : impl_tile_total.v (prts e i t, q, tCost e i t) P = some (wth e i P t) := by
  refine impl_tile_total.vs _ _ ?_
  have hp := prts_ok hn hi t
  have key : ∀ (d j : Nat) (s : Int), j + d = (prts e i t).length → impl_tile_total.v0 P s (prts e i t) ((prts e i t).length : Int) (j : Int) = some (sumP P ((prts e i t).drop j) s) := by
    intro d
    induction d with
    | zero =>
      intro j s hj
      refine impl_tile_total.v0s _ _ _ _ _ ?_
      rw [br_f (by simp; omega), List.drop_eq_nil_of_le (by omega)]; rfl
    | succ d ih =>
      intro j s hj
      have hjl : j < (prts e i t).length := by omega
      have hx := hp.2 _ (List.getElem_mem hjl)
      refine impl_tile_total.v0s _ _ _ _ _ ?_
      rw [br_t (by simpa using hjl), br_t (by simp), Int.toNat_natCast, gt_at _ hjl, br_t (by simpa using hx.1), gt_some (get_D (P := P) (j := ((prts e i t)[j]).toNat) (by omega)), next_ok j _ hjl (by omega), drop_at _ _ hjl]
      exact ih (j + 1) _ (by omega)
  exact key (prts e i t).length 0 _ (by omega)
/-- the least sum so far, and its tile -/
def selB (e : List Nd) (i : Nat) (P : List Int) (x : Option (Int × Int)) (t : Int) : Option (Int × Int) :=
  match x with
  | none => some (wth e i P t, t)
  | some (s, b) => if wth e i P t < s then some (wth e i P t, t) else some (s, b)
def selS (e : List Nd) (i : Nat) (P : List Int) (m : Int) (c t : Int) : Int := if c < 0 ∧ wth e i P t = m then t else c
theorem selS_keep {i : Nat} {P : List Int} {m : Int} : ∀ (l : List Int) (c : Int), (0 ≤ c ∨ ∀ u ∈ l, m < wth e i P u) → l.foldl (selS e i P m) c = c
  | [], c, _ => rfl
  | t :: l, c, h => by
    rw [List.foldl_cons, show selS e i P m c t = c from by
      unfold selS
      rw [if_neg]
      rintro ⟨h1, h2⟩
      rcases h with q | q
      · omega
      · have := q t (by simp); omega]
    exact selS_keep l c (h.imp id (fun q u hu => q u (by simp [hu])))
theorem selB_fold {i : Nat} {P : List Int} : ∀ (l seen : List Int) (s b : Int), (∀ t ∈ l, 0 ≤ t) → 0 ≤ b → b ∈ seen → (∀ u ∈ seen, s ≤ wth e i P u) → seen.foldl (selS e i P s) (-1) = b →
    ∃ s' b', l.foldl (selB e i P) (some (s, b)) = some (s', b') ∧ 0 ≤ b' ∧ b' ∈ seen ++ l ∧ (seen ++ l).foldl (selS e i P s') (-1) = b'
  | [], seen, s, b, _, h1, h2, h3, h4 => ⟨s, b, rfl, h1, by simpa using h2, by simpa using h4⟩
  | t :: l, seen, s, b, h0, h1, h2, h3, h4 => by
    have ht := h0 t (by simp)
    by_cases c : wth e i P t < s
    · obtain ⟨s', b', k1, k2, k3, k4⟩ := selB_fold (i := i) (P := P) l (seen ++ [t]) (wth e i P t) t (fun u hu => h0 u (by simp [hu])) ht (by simp) (fun u hu => by
        rcases List.mem_append.1 hu with z | z
        · have := h3 u z; omega
        · simp at z; subst z; omega) (by
        rw [List.foldl_append, selS_keep (e := e) (i := i) (P := P) seen (-1) (.inr fun u hu => by have := h3 u hu; omega)]
        simp [selS])
      rw [List.append_assoc] at k3 k4
      exact ⟨s', b', by rw [List.foldl_cons, show selB e i P (some (s, b)) t = some (wth e i P t, t) from if_pos c]; exact k1, k2, k3, k4⟩
    · obtain ⟨s', b', k1, k2, k3, k4⟩ := selB_fold (i := i) (P := P) l (seen ++ [t]) s b (fun u hu => h0 u (by simp [hu])) h1 (by simp [h2]) (fun u hu => by
        rcases List.mem_append.1 hu with z | z
        · exact h3 u z
        · simp at z; subst z; omega) (by
        rw [List.foldl_append, h4]
        exact selS_keep [t] b (.inl h1))
      rw [List.append_assoc] at k3 k4
      exact ⟨s', b', by rw [List.foldl_cons, show selB e i P (some (s, b)) t = some (s, b) from if_neg c]; exact k1, k2, k3, k4⟩
/-- the price and the tile of a node, the prices ahead of it known -/
def prA (e : List Nd) (i : Nat) (P : List Int) : Int × Int := ((tl e i 13).foldl (selB e i P) none).getD (0, 0)
theorem prA_ok (hn : nodesOk e 0 = true) {i : Nat} (hi : i < e.length) (P : List Int) : (tl e i 13).foldl (selB e i P) none = some (prA e i P) ∧ (prA e i P).2 ∈ tl e i 13 ∧ (tl e i 13).foldl (selS e i P (prA e i P).1) (-1) = (prA e i P).2 := by
  have hne := tl_some hn hi
  have h0 : ∀ t ∈ tl e i 13, 0 ≤ t := fun t ht => (tl_mem ht).1
  unfold prA
  generalize tl e i 13 = l at hne h0 ⊢
  cases l with
  | nil => exact absurd rfl hne
  | cons t l =>
    obtain ⟨s', b', k1, k2, k3, k4⟩ := selB_fold (e := e) (i := i) (P := P) l [t] (wth e i P t) t (fun u hu => h0 u (by simp [hu])) (h0 t (by simp)) (by simp) (fun u hu => by simp at hu; subst hu; omega) (by simp [selS])
    rw [List.foldl_cons, show selB e i P none t = some (wth e i P t, t) from rfl, k1]
    exact ⟨rfl, k3, k4⟩
/-- prices and tiles of the nodes ahead of one -/
def prB (e : List Nd) : Nat → List (Int × Int)
  | 0 => []
  | i + 1 => prB e i ++ [prA e i ((prB e i).map (·.1))]
def prices (e : List Nd) : List Int := (prB e e.length).map (·.1)
def bests (e : List Nd) : List Int := (prB e e.length).map (·.2)
theorem prB_len : ∀ i, (prB e i).length = i
  | 0 => rfl
  | i + 1 => by simp [prB, prB_len i]
theorem prB_get : ∀ {n i : Nat}, i < n → (prB e n)[i]? = some (prA e i ((prB e i).map (·.1)))
  | 0, i, h => by omega
  | n + 1, i, h => by
    rw [show prB e (n + 1) = prB e n ++ [prA e n ((prB e n).map (·.1))] from rfl]
    by_cases c : i < n
    · rw [List.getElem?_append_left (by rw [prB_len]; exact c)]; exact prB_get c
    · have : i = n := by omega
      subst this
      rw [List.getElem?_append_right (by rw [prB_len]; exact Nat.le_refl _), prB_len]; simp
theorem prices_len : (prices e).length = e.length := by simp [prices, prB_len]
theorem bests_len : (bests e).length = e.length := by simp [bests, prB_len]
theorem prices_same {n i : Nat} (h : i < n) : ((prB e n).map (·.1)).getD i 0 = (prA e i ((prB e i).map (·.1))).1 := by
  rw [List.getD_eq_getElem?_getD, List.getElem?_map, prB_get h]; rfl
theorem prA_same (hn : nodesOk e 0 = true) {i : Nat} (hi : i < e.length) {P Q : List Int} (h : ∀ k, k < i → P.getD k 0 = Q.getD k 0) : prA e i P = prA e i Q := by
  have : selB e i P = selB e i Q := by
    funext x t
    unfold selB
    rw [wth_same hn hi h t]
  unfold prA
  rw [this]
theorem price_at (hn : nodesOk e 0 = true) {i : Nat} (hi : i < e.length) : (prices e)[i]? = some (prA e i (prices e)).1 ∧ cvr (bests e) i = (prA e i (prices e)).2 := by
  have hs : prA e i ((prB e i).map (·.1)) = prA e i (prices e) := prA_same hn hi (fun k hk => by
    unfold prices
    rw [prices_same hk, prices_same (n := e.length) (by omega)])
  constructor
  · unfold prices at hs ⊢
    rw [List.getElem?_map, prB_get hi, ← hs]; rfl
  · unfold cvr bests
    rw [List.getD_eq_getElem?_getD, List.getElem?_map, prB_get hi, ← hs]; rfl
theorem bests_vld (hn : nodesOk e 0 = true) : ∀ j, j < e.length → vld e (bests e) j = true := fun j hj => by
  have := (prA_ok hn hj (prices e)).2.1
  rw [← (price_at hn hj).2] at this
  obtain ⟨h0, h1, h2⟩ := tl_mem this
  unfold vld
  rw [h2, Bool.and_true, inB_iff]
  omega
end
end Go.Proofs.YtafjengmkiepbaaGreat.Am
end
section
/- The cover with the least cost: both sides. -/
namespace Go.Proofs.YtafjengmkiepbaaGreat.Am
open Go
set_option linter.unusedVariables false
set_option linter.unusedSimpArgs false
section
variable {e : List Nd}
/-- a state of the rounds over tiles: nothing at first, then the least price and its tile in their places -/
structure Pst (i j : Nat) (x : Option (Int × Int)) (P B : List Int) : Prop where
  no : j = 0 → x = none
  yes : j ≠ 0 → ∃ s b, x = some (s, b) ∧ P[i]? = some s ∧ B[i]? = some b
theorem set_low {P : List Int} {i k : Nat} (h : k < i) (s : Int) : (P.set i s).getD k 0 = P.getD k 0 := by
  rw [List.getD_eq_getElem?_getD, List.getElem?_set, if_neg (by omega), ← List.getD_eq_getElem?_getD]
theorem prices_in (hn : nodesOk e 0 = true) {i : Nat} (hi : i < e.length) (h24 : e.length ≤ 24) {n : Int} {l : List Int} (hl : l.length ≤ 13) (hne : l ≠ []) (hm : ∀ t ∈ l, 0 ≤ t ∧ t < 13 ∧ (tileM e i t).isSome = true) {R} {P B : List Int} {s b : Int}
    (hfin : impl_pricesOf.v0 e n ((i + 1 : Nat) : Int) (P.set i s) (B.set i b) = some R) : ∀ (d j : Nat) (x : Option (Int × Int)) (P' B' : List Int), j + d = l.length → P'.length = e.length → B'.length = e.length → Pst i j x P' B' → (∀ k, k < i → P'.getD k 0 = P.getD k 0) →
    P'.set i s = P.set i s → B'.set i b = B.set i b → (l.drop j).foldl (selB e i P) x = some (s, b) → impl_pricesOf.v1 e (i : Int) n (i : Int) l (l.length : Int) (j : Int) P' B' = some R := by
  intro d
  induction d with
  | zero =>
    intro j x P' B' hj hP hB hx hlow h1 h2 hf
    rw [List.drop_eq_nil_of_le (by omega)] at hf
    have hf : x = some (s, b) := hf
    obtain ⟨s', b', q, q1, q2⟩ := hx.yes (by have : 0 < l.length := List.length_pos_iff.2 hne; omega)
    rw [hf] at q
    obtain ⟨rfl, rfl⟩ := Prod.mk.inj (Option.some.inj q)
    rw [set_same q1] at h1
    rw [set_same q2] at h2
    subst h1; subst h2
    refine impl_pricesOf.v1s _ _ _ _ _ _ _ _ _ ?_
    rw [br_f (by simp; omega), next_ok i _ hi (by omega)]
    exact hfin
  | succ d ih =>
    intro j x P' B' hj hP hB hx hlow h1 h2 hf
    have hjl : j < l.length := by omega
    obtain ⟨t0, t13, ts⟩ := hm _ (List.getElem_mem hjl)
    obtain ⟨⟨pp, qq⟩, hpq⟩ := Option.isSome_iff_exists.1 ts
    have hiP : i < P'.length := by omega
    have hiB : i < B'.length := by omega
    have hpr : pp = prts e i l[j] := by unfold prts; rw [hpq]
    rw [drop_at _ _ hjl, List.foldl_cons] at hf
    have hw : wth e i P' l[j] = wth e i P l[j] := wth_same hn hi hlow _
    have htake : ∀ (w : Int), Pst i (j + 1) (some (w, l[j])) (P'.set i w) (B'.set i l[j]) := fun w => ⟨fun q => by omega, fun _ => ⟨w, l[j], rfl, by rw [List.getElem?_set, if_pos rfl, if_pos hiP], by rw [List.getElem?_set, if_pos rfl, if_pos hiB]⟩⟩
    have hgo : ∀ w, (l.drop (j + 1)).foldl (selB e i P) (some (w, l[j])) = some (s, b) → impl_pricesOf.v1 e (i : Int) n (i : Int) l (l.length : Int) ((j + 1 : Nat) : Int) (P'.set i w) (B'.set i l[j]) = some R := fun w hw =>
      ih (j + 1) _ _ _ (by omega) (by rw [List.length_set]; exact hP) (by rw [List.length_set]; exact hB) (htake w) (fun k hk => by rw [set_low hk]; exact hlow k hk) (by rw [List.set_set]; exact h1) (by rw [List.set_set]; exact h2) hw
    refine impl_pricesOf.v1s _ _ _ _ _ _ _ _ _ ?_
    rw [br_t (by simpa using hjl), br_t (by simp), Int.toNat_natCast, gt_at _ hjl, tileAt_v hn hi t0 (by omega), bd_s, tileI_eq hn hi t0 (by omega) hpq, hpr, total_v hn hi hP, bd_s, next_ok j _ hjl (by omega), hw]
    by_cases c0 : j = 0
    · rw [hx.no c0, show selB e i P none l[j] = some (wth e i P l[j], l[j]) from rfl] at hf
      rw [br_t (by simp; omega), br_t (by simp), br_t (by simpa using hiP), Int.toNat_natCast, gt_at _ hiP, br_t (by simp), br_t (by simpa using hiB), gt_at _ hiB]
      exact hgo _ hf
    · obtain ⟨s', b', q, q1, q2⟩ := hx.yes c0
      rw [q] at hf
      rw [br_f (by simp; omega), br_t (by simp), br_t (by simpa using hiP), Int.toNat_natCast, gt_some q1]
      by_cases g : wth e i P l[j] < s'
      · rw [show selB e i P (some (s', b')) l[j] = some (wth e i P l[j], l[j]) from if_pos g] at hf
        rw [br_t (by simpa using g), br_t (by simp), br_t (by simpa using hiP), gt_at _ hiP, br_t (by simp), br_t (by simpa using hiB), gt_at _ hiB]
        exact hgo _ hf
      · rw [show selB e i P (some (s', b')) l[j] = some (s', b') from if_neg g] at hf
        rw [br_f (by simpa using g)]
        exact ih (j + 1) _ _ _ (by omega) hP hB ⟨fun q => by omega, fun _ => ⟨s', b', rfl, q1, q2⟩⟩ hlow h1 h2 hf
theorem cvPrices_in (hn : nodesOk e 0 = true) {i : Nat} (hi : i < e.length) (h24 : e.length ≤ 24) {n : Int} {l : List Int} (hl : l.length ≤ 13) (hne : l ≠ []) {R} {P : List Int} {s b : Int}
    (hfin : spec_cvPrices.v0 e n ((i + 1 : Nat) : Int) (P.set i s) = some R) : ∀ (d j : Nat) (x : Option (Int × Int)) (P' : List Int), j + d = l.length → P'.length = e.length → (j = 0 → x = none) → (j ≠ 0 → ∃ s b, x = some (s, b) ∧ P'[i]? = some s) → (∀ k, k < i → P'.getD k 0 = P.getD k 0) →
    P'.set i s = P.set i s → (l.drop j).foldl (selB e i P) x = some (s, b) → spec_cvPrices.v1 e (i : Int) n (i : Int) l (l.length : Int) (j : Int) P' = some R := by
  intro d
  induction d with
  | zero =>
    intro j x P' hj hP hx0 hx hlow h1 hf
    rw [List.drop_eq_nil_of_le (by omega)] at hf
    have hf : x = some (s, b) := hf
    obtain ⟨s', b', q, q1⟩ := hx (by have : 0 < l.length := List.length_pos_iff.2 hne; omega)
    rw [hf] at q
    obtain ⟨rfl, rfl⟩ := Prod.mk.inj (Option.some.inj q)
    rw [set_same q1] at h1
    subst h1
    refine spec_cvPrices.v1s _ _ _ _ _ _ _ _ ?_
    rw [br_f (by simp; omega), next_ok i _ hi (by omega)]
    exact hfin
  | succ d ih =>
    intro j x P' hj hP hx0 hx hlow h1 hf
    have hjl : j < l.length := by omega
    have hiP : i < P'.length := by omega
    rw [drop_at _ _ hjl, List.foldl_cons] at hf
    have hw : wth e i P' l[j] = wth e i P l[j] := wth_same hn hi hlow _
    have hgo : ∀ w, (l.drop (j + 1)).foldl (selB e i P) (some (w, l[j])) = some (s, b) → spec_cvPrices.v1 e (i : Int) n (i : Int) l (l.length : Int) ((j + 1 : Nat) : Int) (P'.set i w) = some R := fun w hw =>
      ih (j + 1) _ _ (by omega) (by rw [List.length_set]; exact hP) (fun q => by omega) (fun _ => ⟨w, l[j], rfl, by rw [List.getElem?_set, if_pos rfl, if_pos hiP]⟩) (fun k hk => by rw [set_low hk]; exact hlow k hk) (by rw [List.set_set]; exact h1) hw
    refine spec_cvPrices.v1s _ _ _ _ _ _ _ _ ?_
    rw [br_t (by simpa using hjl), br_t (by simp), Int.toNat_natCast, gt_at _ hjl, cvWith_v hn hi hP, bd_s, next_ok j _ hjl (by omega), hw]
    by_cases c0 : j = 0
    · rw [hx0 c0, show selB e i P none l[j] = some (wth e i P l[j], l[j]) from rfl] at hf
      rw [br_t (by simp; omega), br_t (by simp), br_t (by simpa using hiP), Int.toNat_natCast, gt_at _ hiP]
      exact hgo _ hf
    · obtain ⟨s', b', q, q1⟩ := hx c0
      rw [q] at hf
      rw [br_f (by simp; omega), br_t (by simp), br_t (by simpa using hiP), Int.toNat_natCast, gt_some q1]
      by_cases g : wth e i P l[j] < s'
      · rw [show selB e i P (some (s', b')) l[j] = some (wth e i P l[j], l[j]) from if_pos g] at hf
        rw [br_t (by simpa using g), br_t (by simp), br_t (by simpa using hiP), gt_at _ hiP]
        exact hgo _ hf
      · rw [show selB e i P (some (s', b')) l[j] = some (s', b') from if_neg g] at hf
        rw [br_f (by simpa using g)]
        exact ih (j + 1) _ _ (by omega) hP (fun q => by omega) (fun _ => ⟨s', b', rfl, q1⟩) hlow h1 hf
abbrev pz (l : List Int) : List Int × Unit := (l, ())
theorem row_all {P Q : List Int} (h : P.length = e.length) (k : Q.length = e.length) (hv : ∀ j, j < e.length → P[j]? = Q[j]?) : P = Q := List.ext_getElem? fun j => by
  by_cases hj : j < e.length
  · exact hv j hj
  · rw [List.getElem?_eq_none (by omega), List.getElem?_eq_none (by omega)]
theorem prA_upto (hn : nodesOk e 0 = true) {i : Nat} (hi : i < e.length) {P : List Int} (h : ∀ j, j < i → P[j]? = (prices e)[j]?) : prA e i P = prA e i (prices e) :=
  prA_same hn hi (fun k hk => by rw [List.getD_eq_getElem?_getD, h k hk, ← List.getD_eq_getElem?_getD])
theorem cvPrices_v (hn : nodesOk e 0 = true) (h24 : e.length ≤ 24) : spec_cvPrices.v e = some (pz (prices e)) := by
  refine spec_cvPrices.vs _ ?_
  have key : ∀ (d i : Nat) (P : List Int), i + d = e.length → P.length = e.length → (∀ j, j < i → P[j]? = (prices e)[j]?) → spec_cvPrices.v0 e (e.length : Int) (i : Int) P = some (pz (prices e)) := by
    intro d
    induction d with
    | zero =>
      intro i P hi hP h
      refine spec_cvPrices.v0s _ _ _ _ ?_
      rw [br_f (by simp; omega), row_all hP prices_len (fun j hj => h j (by omega))]
    | succ d ih =>
      intro i P hi hP h
      have hie : i < e.length := by omega
      refine spec_cvPrices.v0s _ _ _ _ ?_
      rw [br_t (by simpa using hie), cvTiles_v hn hie, bd_s]
      refine cvPrices_in hn hie h24 (s := (prA e i P).1) (b := (prA e i P).2) (P := P) (tl_len _ _) (tl_some hn hie) (ih (i + 1) _ (by omega) (by rw [List.length_set]; exact hP) ?_) (tl e i 13).length 0 none P (by omega) hP (fun _ => rfl) (fun q => absurd rfl q) (fun _ _ => rfl) rfl (prA_ok hn hie P).1
      intro j hj
      rw [List.getElem?_set]
      by_cases c : i = j
      · subst c; rw [if_pos rfl, if_pos (by omega), prA_upto hn hie h, (price_at hn hie).1]
      · rw [if_neg c]; exact h j (by omega)
  rw [br_t (by simp), br_t (by simp; omega)]
  exact key e.length 0 _ (by omega) (by simp) (fun j hj => by omega)
theorem pricesOf_v (hn : nodesOk e 0 = true) (h24 : e.length ≤ 24) : impl_pricesOf.v e = some (prices e, bests e) := by
  refine impl_pricesOf.vs _ ?_
  have key : ∀ (d i : Nat) (P B : List Int), i + d = e.length → P.length = e.length → B.length = e.length → (∀ j, j < i → P[j]? = (prices e)[j]?) → (∀ j, j < i → B[j]? = (bests e)[j]?) → impl_pricesOf.v0 e (e.length : Int) (i : Int) P B = some (prices e, bests e) := by
    intro d
    induction d with
    | zero =>
      intro i P B hi hP hB h hb
      refine impl_pricesOf.v0s _ _ _ _ _ ?_
      rw [br_f (by simp; omega), row_all hP prices_len (fun j hj => h j (by omega)), row_all hB bests_len (fun j hj => hb j (by omega))]
    | succ d ih =>
      intro i P B hi hP hB h hb
      have hie : i < e.length := by omega
      refine impl_pricesOf.v0s _ _ _ _ _ ?_
      rw [br_t (by simpa using hie), tilesAt_v hn hie, bd_s]
      refine prices_in hn hie h24 (s := (prA e i P).1) (b := (prA e i P).2) (P := P) (B := B) (tl_len _ _) (tl_some hn hie) (fun t ht => tl_mem ht) (ih (i + 1) _ _ (by omega) (by rw [List.length_set]; exact hP) (by rw [List.length_set]; exact hB) ?_ ?_) (tl e i 13).length 0 none P B (by omega) hP hB ⟨fun _ => rfl, fun q => absurd rfl q⟩ (fun _ _ => rfl) rfl rfl (prA_ok hn hie P).1
      · intro j hj
        rw [List.getElem?_set]
        by_cases c : i = j
        · subst c; rw [if_pos rfl, if_pos (by omega), prA_upto hn hie h, (price_at hn hie).1]
        · rw [if_neg c]; exact h j (by omega)
      · intro j hj
        rw [List.getElem?_set]
        by_cases c : i = j
        · subst c; rw [if_pos rfl, if_pos (by omega), prA_upto hn hie h, cvr_get bests_len hie, (price_at hn hie).2]
        · rw [if_neg c]; exact hb j (by omega)
  rw [br_t (by simp), br_t (by simp; omega), br_t (by simp), br_t (by simp; omega)]
  exact key e.length 0 _ _ (by omega) (by simp) (by simp) (fun j hj => by omega) (fun j hj => by omega)
end
end Go.Proofs.YtafjengmkiepbaaGreat.Am
end
section
/- The cover with the least cost, what it saves: both sides' answers. -/
namespace Go.Proofs.YtafjengmkiepbaaGreat.Am
open Go
set_option linter.unusedVariables false
set_option linter.unusedSimpArgs false
section
variable {e : List Nd}
noncomputable abbrev vB0 (e : List Nd) (P : List Int) (k : Int) (o op : List Int) := spec_cvBest.v0 e k P o op
noncomputable abbrev vB1 (e : List Nd) (P : List Int) (k i : Int) (l : List Int) (n j : Int) (o op : List Int) := spec_cvBest.v1 e k i l n j P o op
theorem best_in (hn : nodesOk e 0 = true) {i k : Nat} (hi : i < e.length) {op P : List Int} (hP : P.length = e.length) {m : Int} (hPi : P[i]? = some m) (hk : k ≤ 282429536481) (hop : op.length ≤ 282429536481) {l : List Int} (hl : l.length ≤ 13) {R} {o : List Int} {b : Int} (hb : (prts e i b).length ≤ 2)
    (hfin : vB0 e P ((k + 1 : Nat) : Int) (o.set i b) (op ++ prts e i b) = some R) : ∀ (d j : Nat) (c : Int) (o' : List Int), j + d = l.length → o'[i]? = some c → o'.set i b = o.set i b → (l.drop j).foldl (selS e i P m) c = b →
    vB1 e P (k : Int) (i : Int) l (l.length : Int) (j : Int) o' op = some R := by
  intro d
  induction d with
  | zero =>
    intro j c o' hj hc ho hf
    have hlt := lt_of_get hc
    rw [List.drop_eq_nil_of_le (by omega)] at hf
    have hf : c = b := hf
    subst hf
    rw [set_same hc] at ho
    subst ho
    refine spec_cvBest.v1s _ _ _ _ _ _ _ _ _ ?_
    rw [br_f (by simp; omega), br_t (by simp), br_t (by simpa using hlt), Int.toNat_natCast, gt_some hc, cvTile_v hn hi, bd_s, told_prts, br_t (by simp; omega), next_ok k (k + 1) (by omega) (by omega)]
    exact hfin
  | succ d ih =>
    intro j c o' hj hc ho hf
    have hlt := lt_of_get hc
    have hjl : j < l.length := by omega
    have hset : ∀ t : Int, (o'.set i t)[i]? = some t := fun t => by rw [List.getElem?_set, if_pos rfl, if_pos hlt]
    have hset2 : ∀ t : Int, (o'.set i t).set i b = o.set i b := fun t => by rw [List.set_set]; exact ho
    rw [drop_at _ _ hjl, List.foldl_cons] at hf
    refine spec_cvBest.v1s _ _ _ _ _ _ _ _ _ ?_
    rw [br_t (by simpa using hjl), br_t (by simp), Int.toNat_natCast, gt_at _ hjl, br_t (by simp), br_t (by simpa using hlt), Int.toNat_natCast, gt_some hc, next_ok j _ hjl (by omega)]
    by_cases c0 : c < 0
    · rw [br_t (by simpa using c0), cvWith_v hn hi hP, bd_s, br_t (by simp), br_t (by simpa using lt_of_get hPi), gt_some hPi]
      by_cases g : wth e i P l[j] = m
      · rw [br_t (by simpa using g), br_t (by simp), br_t (by simpa using hlt), gt_some hc]
        rw [show selS e i P m c l[j] = l[j] from if_pos ⟨c0, g⟩] at hf
        exact ih (j + 1) _ _ (by omega) (hset _) (hset2 _) hf
      · rw [br_f (by simpa using g)]
        rw [show selS e i P m c l[j] = c from if_neg (fun q => g q.2)] at hf
        exact ih (j + 1) _ _ (by omega) hc ho hf
    · rw [br_f (by simpa using c0)]
      rw [show selS e i P m c l[j] = c from if_neg (fun q => c0 q.1)] at hf
      exact ih (j + 1) _ _ (by omega) hc ho hf
theorem best_q (hn : nodesOk e 0 = true) (h1 : 1 ≤ e.length) : ∀ (M : Nat) (o op : List Int) (k : Nat), mq (op.drop k) < M → Bfs e (bests e) o op k → vB0 e (prices e) (k : Int) o op = some (chosen e (bests e))
  | 0, _, _, _, h, _ => by omega
  | M + 1, o, op, k, hM, h => by
    have hb := h.bound
    have hle := h.le
    refine spec_cvBest.v0s _ _ _ _ _ ?_
    by_cases hk : k < op.length
    · have hx := h.ok _ (List.getElem_mem hk)
      obtain ⟨i, hi⟩ := Int.eq_ofNat_of_zero_le hx.1
      rw [hi] at hx
      have hie : i < e.length := by omega
      obtain ⟨hs, hm⟩ := h.step hn h1 (bests_vld hn) hk hi
      obtain ⟨c, hc, hcc⟩ := h.cur hie
      obtain ⟨pa, pb⟩ := price_at hn hie
      obtain ⟨_, hmem, hfold⟩ := prA_ok hn hie (prices e)
      rw [br_t (by simpa using hk), br_t (by simp), br_t (by simpa using hk), Int.toNat_natCast, gt_at _ hk, hi, cvTiles_v hn hie, bd_s]
      refine best_in hn hie (k := k) prices_len pa (by omega) hb (tl_len _ _) (prts_ok hn hie (cvr (bests e) i)).1 (best_q hn h1 M _ _ _ (by omega) hs) (tl e i 13).length 0 c o (by omega) hc rfl ?_
      rw [List.drop_zero]
      rcases hcc with q | q
      · rw [q, hfold, pb]
      · rw [q, pb]; exact selS_keep _ _ (.inl (tl_mem hmem).1)
    · rw [br_f (by simpa using hk), h.done hn h1 hk]
theorem cvBest_v (h1 : nodesOk e 0 = true) (h2 : 1 ≤ e.length) (h3 : e.length ≤ 24) : spec_cvBest.v e = some (chosen e (bests e)) := by
  refine spec_cvBest.vs _ ?_
  rw [cvPrices_v h1 h3, bd_s, cvNone_v h3, bd_s, last_w h2 (by omega)]
  exact best_q h1 h2 _ _ _ 0 (Nat.lt_succ_self _) (Bfs.start h1 h2 h3)
theorem bestCover_v (h1 : nodesOk e 0 = true) (h2 : 1 ≤ e.length) (h3 : e.length ≤ 24) : impl_bestCover.v e = some (chosen e (bests e), ()) := by
  refine impl_bestCover.vs _ ?_
  rw [pricesOf_v h1 h3, bd_s, coverBy_v h1 h2 h3 bests_len (bests_vld h1), bd_s]
def bestA (e : List Nd) : List Int × Bool := if treeOk e = true then (chosen e (bests e), true) else ([], false)
theorem bestA_len (hl : e.length ≤ 1048576) : (bestA e).1.length ≤ 1048576 := by
  unfold bestA
  split
  · rw [chosen_len]; exact hl
  · simp
theorem chosen_vld {best : List Int} (hv : ∀ j, j < e.length → vld e best j = true) : ∀ j, j < e.length → 0 ≤ cvr (chosen e best) j → vld e (chosen e best) j = true := by
  intro j hj h0
  have hg := chosen_get (e := e) (best := best) hj
  have hc : cvr (chosen e best) j = if (need e best).contains j = true then cvr best j else -1 := by
    unfold cvr at hg ⊢
    rw [List.getD_eq_getElem?_getD, hg]; rfl
  by_cases c : (need e best).contains j = true
  · rw [if_pos c] at hc
    have := hv j hj
    unfold vld at this ⊢
    rw [hc]; exact this
  · rw [if_neg c] at hc; omega
end
end Go.Proofs.YtafjengmkiepbaaGreat.Am
end
section
/- Nodes that are chosen are a cover. -/
namespace Go.Proofs.YtafjengmkiepbaaGreat.Am
open Go
set_option linter.unusedVariables false
set_option linter.unusedSimpArgs false
section
variable {e : List Nd} {best : List Int}
theorem chosen_cvr {j : Nat} (hj : j < e.length) : cvr (chosen e best) j = if (need e best).contains j = true then cvr best j else -1 := by
  unfold cvr
  rw [List.getD_eq_getElem?_getD, chosen_get hj]; rfl
theorem dfs_same {c : List Int} : ∀ (f i : Nat), (∀ j ∈ dfs e best f i, cvr c j = cvr best j) → dfs e c f i = dfs e best f i
  | 0, i, _ => rfl
  | f + 1, i, h => by
    unfold dfs at h ⊢
    have hk : kids e c i = kids e best i := by
      unfold kids vld
      rw [h i (by simp)]
    rw [hk]
    have key : ∀ l : List Nat, (∀ k ∈ l, k ∈ kids e best i) → l.flatMap (dfs e c f) = l.flatMap (dfs e best f) := by
      intro l
      induction l with
      | nil => intro _; rfl
      | cons k l ih =>
        intro hl
        rw [List.flatMap_cons, List.flatMap_cons, ih fun x hx => hl x (by simp [hx]), dfs_same f k fun j hj => h j (List.mem_cons_of_mem _ (List.mem_flatMap.2 ⟨k, hl k (by simp), hj⟩))]
    rw [key _ fun k hk => hk]
theorem chosen_cover (ht : treeOk e = true) (hv : ∀ j, j < e.length → vld e best j = true) : isCoverP e (chosen e best) = true := by
  obtain ⟨hn, h1, h24, _⟩ := treeOk_parts ht
  have hs : ∀ j ∈ need e best, cvr (chosen e best) j = cvr best j := fun j hj => by
    rw [chosen_cvr (need_lt hn h1 hj), if_pos (List.contains_iff_mem.2 hj)]
  have hq : need e (chosen e best) = need e best := dfs_same _ _ hs
  unfold isCoverP
  rw [hq, decide_eq_true chosen_len, Bool.true_and, Bool.and_eq_true, List.all_eq_true, List.all_eq_true]
  refine ⟨fun j hj => ?_, fun j hj => ?_⟩
  · have := hv j (need_lt hn h1 hj)
    unfold vld at this ⊢
    rw [hs j hj]; exact this
  · rw [List.mem_range] at hj
    rw [chosen_cvr hj]
    by_cases c : (need e best).contains j = true
    · rw [c]; rfl
    · rw [if_neg c]; simp
end
end Go.Proofs.YtafjengmkiepbaaGreat.Am
end
section
/- The code of the best cover: the program and the reference. -/
namespace Go.Proofs.YtafjengmkiepbaaGreat.Am
open Go
set_option linter.unusedVariables false
set_option linter.unusedSimpArgs false
section
variable {e : List Nd}
theorem best_cov (ht : treeOk e = true) : Cov e (chosen e (bests e)) := ⟨ht, chosen_cover ht (bests_vld (treeOk_parts ht).1)⟩
def selBestA (e : List Nd) : List In5 × (Int × Bool) := if treeOk e = true then selP e (chosen e (bests e)) else ([], (0, false))
theorem selBestA_len : (selBestA e).1.length ≤ 1000 := by
  unfold selBestA
  split
  · rename_i h; exact selP_len (best_cov h)
  · simp
theorem specBestSel_v (ht : treeOk e = true) : (bd (spec_cvBest.v e) fun r => spec_seSelect.v e r) = some (selBestA e, ()) := by
  obtain ⟨h1, h2, h3, _⟩ := treeOk_parts ht
  rw [cvBest_v h1 h2 h3, bd_s, specSel_v (best_cov ht)]
  unfold selBestA
  rw [if_pos ht]
theorem specSelBest_v (hl : e.length ≤ 1048576) : spec_SelectBest.v e = some (selBestA e, ()) := by
  refine spec_SelectBest.vs _ ?_
  rw [cvTree_v hl, bd_s]; unfold selBestA
  by_cases c : treeOk e = true
  · obtain ⟨h1, h2, h3, _⟩ := treeOk_parts c
    rw [if_pos c, c, brn_t, cvBest_v h1 h2 h3, bd_s, specSel_v (best_cov c), bd_s]
  · rw [if_neg c]; rw [Bool.not_eq_true] at c; rw [c]; rfl
theorem implSelBest_v (hl : e.length ≤ 1048576) : impl_SelectBest.v e = some (selBestA e, ()) := by
  refine impl_SelectBest.vs _ ?_
  rw [isTree_v e hl, bd_s]; unfold selBestA
  by_cases c : treeOk e = true
  · obtain ⟨h1, h2, h3, _⟩ := treeOk_parts c
    rw [if_pos c, c, brn_t, bestCover_v h1 h2 h3, bd_s, implSel_v (best_cov c), bd_s]
  · rw [if_neg c]; rw [Bool.not_eq_true] at c; rw [c]; rfl
end
end Go.Proofs.YtafjengmkiepbaaGreat.Am
end
section
/- Expressions that are compiled: the program and the reference do the same. -/
namespace Go.Proofs.YtafjengmkiepbaaGreat.Am
open Go
set_option linter.unusedVariables false
set_option linter.unusedSimpArgs false
section
variable {e : List Nd}
theorem compile_both (hl : e.length ≤ 1048576) : ∃ c : List In5 × (Int × Bool), spec_CompileExpr.v e = some (c, ()) ∧ impl_CompileExpr.v e = some (c, ()) ∧ c.1.length ≤ 1000 := by
  cases h : exprOk e with
  | false =>
    refine ⟨([], (0, false)), spec_CompileExpr.vs _ ?_, impl_CompileExpr.vs _ ?_, by simp⟩
    · rw [exGood_v e hl, bd_s, h, brn_f]
    · have : impl_FoldExpr.v e = some ([], false) := impl_FoldExpr.vs _ (by rw [isExpr_v e hl, bd_s, h, brn_f])
      rw [this, bd_s]
      dsimp only
      rw [implExpand_v (by simp), bd_s, show expA ([] : List Nd) = ([], false) from by unfold expA; rw [if_neg (fun h => by have := h.1; revert this; decide)]]
      rfl
  | true =>
    obtain ⟨hn, h1, h24⟩ := exprOk_parts h
    obtain ⟨f, hf, hf2, hfl⟩ := fold_both hn h1 h24
    have hF : impl_FoldExpr.v e = some (f, true) := impl_FoldExpr.vs _ (by rw [isExpr_v e hl, bd_s, h, brn_t, hf2, bd_s])
    cases hx : (expA f).2 with
    | false =>
      refine ⟨([], (0, false)), spec_CompileExpr.vs _ ?_, impl_CompileExpr.vs _ ?_, by simp⟩
      · rw [exGood_v e hl, bd_s, h, brn_t, hf, bd_s]
        dsimp only
        rw [specExpand_v (by omega), bd_s, hx, brn_f]
      · rw [hF, bd_s]
        dsimp only
        rw [implExpand_v (by omega), bd_s, hx, brn_f]
    | true =>
      have ht := expA_tree hx
      obtain ⟨t1, t2, t3, _⟩ := treeOk_parts ht
      refine ⟨selBestA (expA f).1, spec_CompileExpr.vs _ ?_, impl_CompileExpr.vs _ ?_, selBestA_len⟩
      · rw [exGood_v e hl, bd_s, h, brn_t, hf, bd_s]
        dsimp only
        rw [specExpand_v (by omega), bd_s, hx, brn_t, cvBest_v t1 t2 t3, bd_s, specSel_v (best_cov ht), bd_s]
        unfold selBestA
        rw [if_pos ht]
      · rw [hF, bd_s]
        dsimp only
        rw [implExpand_v (by omega), bd_s, hx, brn_t, implSelBest_v expA_len, bd_s]
end
end Go.Proofs.YtafjengmkiepbaaGreat.Am
end
section
/- What the laws do with rows of instructions: compared, written on, held. -/
namespace Go.Proofs.YtafjengmkiepbaaGreat.Am
open Go
set_option linter.unusedVariables false
set_option linter.unusedSimpArgs false

noncomputable def mkS : Int → List In5 → List In5
  | _, [] => []
  | k, _ :: r => (mt k, k + 1, k + 2, k + 3, k + 4) :: mkS (k + 5) r
theorem mkS_len : ∀ (l : List In5) (k : Int), (mkS k l).length = l.length
  | [], _ => rfl
  | _ :: r, k => by simp [mkS, mkS_len r]
theorem markInstrS_l : ∀ (r l : List In5) (k : Int), 0 ≤ k → k + 5 * r.length ≤ 1000000000 → l.length + r.length ≤ 1000000000 → laws_markInstrS.v0 k (l.length : Int) (l ++ r) = some (k + 5 * r.length, l ++ mkS k r)
  | [], l, k, h0, h1, h2 => laws_markInstrS.v0s _ _ _ (by simp [mkS])
  | n :: r, l, k, h0, h1, h2 => by
    simp only [List.length_cons] at h1 h2
    have ih := markInstrS_l r (l ++ [(mt k, k + 1, k + 2, k + 3, k + 4)]) (k + 5) (by omega) (by omega) (by simp; omega)
    refine laws_markInstrS.v0s _ _ _ ?_
    have w1 : IntKind.wrap .i64 (k + 1) = k + 1 := wrap_ok (by omega) (by omega)
    have w2 : IntKind.wrap .i64 (k + 1 + 1) = k + 2 := by rw [wrap_ok (by omega) (by omega)]; omega
    have w3 : IntKind.wrap .i64 (k + 2 + 1) = k + 3 := by rw [wrap_ok (by omega) (by omega)]; omega
    have w4 : IntKind.wrap .i64 (k + 3 + 1) = k + 4 := by rw [wrap_ok (by omega) (by omega)]; omega
    have w5 : IntKind.wrap .i64 (k + 4 + 1) = k + 5 := by rw [wrap_ok (by omega) (by omega)]; omega
    have wi : IntKind.wrap .i64 ((l.length : Int) + 1) = ((l.length + 1 : Nat) : Int) := by rw [wrap_ok (by omega) (by omega)]; rfl
    have hlt : ((l.length : Int) < ((l.length + (r.length + 1) : Nat) : Int)) := by omega
    simp only [w1, w2, w3, w4, w5, wi, mt_v k (by omega), Int.toNat_natCast, set_mid, gt_mid, bd_s, List.length_append, List.length_cons]
    simp only [br_if, hlt, decide_true, if_true, Int.natCast_nonneg]
    simp only [List.length_append, List.length_cons, List.length_nil, List.append_assoc, List.cons_append, List.nil_append, Nat.zero_add] at ih
    rw [ih]
    simp only [mkS, List.length_cons]
    congr 2
    omega
theorem markInstrS_v (k : Int) (r : List In5) (h0 : 0 ≤ k) (h1 : k + 5 * r.length ≤ 1000000000) : laws_markInstrS.v k r = some (k + 5 * r.length, mkS k r) :=
  laws_markInstrS.vs _ _ (by have := markInstrS_l r [] k h0 h1 (by simp; omega); simpa using this)
theorem heldInstrS_l : ∀ (r l : List In5) (k : Int), 0 ≤ k → k + 5 * r.length ≤ 1000000000 → l.length + r.length ≤ 1000000000 → laws_heldInstrS.v0 (l ++ mkS k r) k (l.length : Int) = some (k + 5 * r.length)
  | [], l, k, h0, h1, h2 => laws_heldInstrS.v0s _ _ _ (by simp [mkS])
  | n :: r, l, k, h0, h1, h2 => by
    simp only [List.length_cons] at h1 h2
    have ih := heldInstrS_l r (l ++ [(mt k, k + 1, k + 2, k + 3, k + 4)]) (k + 5) (by omega) (by omega) (by simp; omega)
    refine laws_heldInstrS.v0s _ _ _ ?_
    have w1 : IntKind.wrap .i64 (k + 1) = k + 1 := wrap_ok (by omega) (by omega)
    have w2 : IntKind.wrap .i64 (k + 1 + 1) = k + 2 := by rw [wrap_ok (by omega) (by omega)]; omega
    have w3 : IntKind.wrap .i64 (k + 2 + 1) = k + 3 := by rw [wrap_ok (by omega) (by omega)]; omega
    have w4 : IntKind.wrap .i64 (k + 3 + 1) = k + 4 := by rw [wrap_ok (by omega) (by omega)]; omega
    have w5 : IntKind.wrap .i64 (k + 4 + 1) = k + 5 := by rw [wrap_ok (by omega) (by omega)]; omega
    have wi : IntKind.wrap .i64 ((l.length : Int) + 1) = ((l.length + 1 : Nat) : Int) := by rw [wrap_ok (by omega) (by omega)]; rfl
    have hlt : ((l.length : Int) < ((l.length + (r.length + 1) : Nat) : Int)) := by omega
    simp only [mkS, w1, w2, w3, w4, w5, wi, mt_v k (by omega), Int.toNat_natCast, gt_mid, bd_s, List.length_append, List.length_cons, mkS_len]
    simp only [br_if, hlt, decide_true, if_true, Int.natCast_nonneg, seq_self, Bool.not_true, Bool.false_eq_true, if_false, bne_self_eq_false]
    simp only [List.length_append, List.length_cons, List.length_nil, List.append_assoc, List.cons_append, List.nil_append, Nat.zero_add] at ih
    rw [ih]
    congr 1
    omega
theorem heldInstrS_v (k : Int) (r : List In5) (h0 : 0 ≤ k) (h1 : k + 5 * r.length ≤ 1000000000) : laws_heldInstrS.v (mkS k r) k = some (k + 5 * r.length) :=
  laws_heldInstrS.vs _ _ (by have := heldInstrS_l r [] k h0 h1 (by simp; omega); simpa using this)
theorem eqInstrS_l (xs : List In5) (h : xs.length ≤ 1000000000) : ∀ (d i : Nat), i + d = xs.length → laws_eqInstrS.v0 xs xs (i : Int) = some true := by
  intro d
  induction d with
  | zero => intro i hi; exact laws_eqInstrS.v0s _ _ _ (br_f (by simp; omega))
  | succ d ih =>
    intro i hi
    have hlt : i < xs.length := by omega
    have he : laws_eqInstr.f xs[i] xs[i] = some true := by rw [laws_eqInstr.eq]; simp [seq_self]
    refine laws_eqInstrS.v0s _ _ _ ?_
    rw [br_t (by simpa using hlt), br_t (by simp), Int.toNat_natCast, gt_at _ hlt, br_t (by simp), gt_at _ hlt, he, bd_s, brn_t, next_ok i _ hlt (by omega)]
    exact ih (i + 1) (by omega)
theorem eqInstrS_v (xs : List In5) (h : xs.length ≤ 1000000000) : laws_eqInstrS.v xs xs = some true :=
  laws_eqInstrS.vs _ _ ((br_f (by simp)).trans (eqInstrS_l xs h xs.length 0 (by omega)))
end Go.Proofs.YtafjengmkiepbaaGreat.Am
end
section
/- The law laws_FnExactCompileExpr over the machine of values. -/
set_option linter.unusedVariables false
set_option maxRecDepth 100000
set_option maxHeartbeats 1000000
namespace Go.Proofs.YtafjengmkiepbaaGreat.Am
open Go
open Go.IntKind renaming wrap → wr
noncomputable section
def laws_FnExactCompileExpr.E := eN 6 []
def laws_FnExactCompileExpr.g := g0 6 cZ [.id]
def laws_FnExactCompileExpr.T (k : Nat) : Table := tabs [(8, (laws_szNodeS.tab k)), (10, (laws_toNodeS.tab k)), (14, (laws_eqNodeS.tab k)), (15, (laws_markNodeS.tab k)), (20, (laws_eqInstrS.tab k)), (21, (laws_markInstrS.tab k)), (22, (laws_heldInstrS.tab k)), (25, (spec_CompileExpr.tab k)), (26, (impl_CompileExpr.tab k))]
def laws_FnExactCompileExpr.f (k : Nat) (a0 : LN) : Option Bool := gf 6 laws_FnExactCompileExpr.E laws_FnExactCompileExpr.T laws_FnExactCompileExpr.g k [mkP false nL a0] []
def laws_FnExactCompileExpr.tab (k : Nat) : Tb := tabI [.v false nL] [] (enc0 cZ) (laws_FnExactCompileExpr.f k)
theorem laws_FnExactCompileExpr.calls (k : Nat) (a0 : LN) {r : Bool} (h : laws_FnExactCompileExpr.f k a0 = some r) : ACalls P0 6 [mkP false nL a0] [] (enc0 cZ r) := n0 (fun k => (tabs_cons (laws_szNodeS.tok k) (tabs_cons (laws_toNodeS.tok k) (tabs_cons (laws_eqNodeS.tok k) (tabs_cons (laws_markNodeS.tok k) (tabs_cons (laws_eqInstrS.tok k) (tabs_cons (laws_markInstrS.tok k) (tabs_cons (laws_heldInstrS.tok k) (tabs_cons (spec_CompileExpr.tok k) (tabs_cons (impl_CompileExpr.tok k) tabs_nil)))))))))) (by kernel_rfl) vk h
abbrev laws_FnExactCompileExpr.v (a0 : LN) := lim fun _ k => laws_FnExactCompileExpr.f k a0
theorem laws_FnExactCompileExpr.vs (a0 : LN) {r} (h : (bd (laws_szNodeS.v a0 (1048576 : Int)) fun r0 => (br (decide (r0 < 0)) (some true) (bd (laws_toNodeS.v a0) fun r1 => (bd (spec_CompileExpr.v r1.1) fun r2 => (bd (laws_toNodeS.v a0) fun r3 => (bd (impl_CompileExpr.v r3.1) fun r4 => (bd (laws_eqInstrS.v r4.1.1 r2.1.1) fun r5 => (br (Bool.not r5) (some false) (br (r4.1.2.1 != r2.1.2.1) (some false) (br (Bool.not (r4.1.2.2 == r2.1.2.2)) (some false) (bd (laws_toNodeS.v a0) fun r6 => (bd (laws_eqNodeS.v r3.1 r6.1) fun r7 => (br (Bool.not r7) (some false) (bd (laws_markNodeS.v (1 : Int) r3.1) fun r8 => (br (decide (r8.1 < 0)) (some false) (bd (laws_eqInstrS.v r4.1.1 r2.1.1) fun r9 => (br (Bool.not r9) (some false) (br (r4.1.2.1 != r2.1.2.1) (some false) (br (Bool.not (r4.1.2.2 == r2.1.2.2)) (some false) (bd (laws_markInstrS.v (1 : Int) r4.1.1) fun r10 => (bd (laws_heldInstrS.v r10.2 (1 : Int)) fun r11 => (br (decide (r11 < 0)) (some false) (br (r11 != r10.1) (some false) (bd (laws_toNodeS.v a0) fun r12 => (bd (impl_CompileExpr.v r12.1) fun r13 => (bd (laws_eqInstrS.v r13.1.1 r2.1.1) fun r14 => (br (Bool.not r14) (some false) (br (r13.1.2.1 != r2.1.2.1) (some false) (br (Bool.not (r13.1.2.2 == r2.1.2.2)) (some false) (bd (laws_heldInstrS.v r10.2 (1 : Int)) fun r15 => (br (decide (r15 < 0)) (some false) (br (r15 != r10.1) (some false) (some true))))))))))))))))))))))))))))))))) = some r) : laws_FnExactCompileExpr.v a0 = some r := vq h
end
end Go.Proofs.YtafjengmkiepbaaGreat.Am
end
section
/- The law FnExactCompileExpr, in plain Lean. -/
namespace Go.Proofs.YtafjengmkiepbaaGreat.Am
open Go
set_option linter.unusedVariables false
set_option linter.unusedSimpArgs false
theorem compile_pure (e : List Nd) (qe : Qd (.sl tyNd) e) : ∃ k, laws_FnExactCompileExpr.f k e = some true := by
  refine Ev.some (lim_ev (laws_FnExactCompileExpr.vs e ?_))
  obtain ⟨z, hz, _, hl⟩ := szNodeS_q e qe 1048576 (by omega) (by omega)
  by_cases h1 : z < 0
  · simp [hz, h1]
  · have hl := hl (by omega)
    obtain ⟨c, hs, hi, a3⟩ := compile_both hl
    have m0 := markNodeS_v 1 e (by omega) (by omega)
    have m2 := markInstrS_v 1 c.1 (by omega) (by omega)
    have m3 := heldInstrS_v 1 c.1 (by omega) (by omega)
    have m4 := eqInstrS_v c.1 (by omega)
    have n1 : ¬ (1 + 4 * (e.length : Int) < 0) := by omega
    have n2 : ¬ (1 + 5 * (c.1.length : Int) < 0) := by omega
    simp [hz, h1, toNodeS_v e hl, hs, hi, eqNodeS_v e hl, m0, m2, m3, m4, n1, n2]
end Go.Proofs.YtafjengmkiepbaaGreat.Am
end
