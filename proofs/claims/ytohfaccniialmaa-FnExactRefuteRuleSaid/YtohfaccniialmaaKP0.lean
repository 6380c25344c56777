/- Plain texts: what the functions answer (part 0). -/
import Derived.Test.YtohfaccniialmaaKF2
section
/- What the laws do around the functions: arguments are measured, copied and compared. -/
namespace Go.Proofs.Ytohfaccniialmaa.Am
open Go
set_option linter.unusedVariables false
set_option linter.unusedSimpArgs false

abbrev Nd := ByteArray × Int × Int × Int
abbrev Rl := List Nd × List Nd × ByteArray
theorem toNode_f (n : Nd) : laws_toNode.f n = some n := laws_toNode.eq n
theorem eqNode_f (n : Nd) : laws_eqNode.f n n = some true := by
  rw [laws_eqNode.eq]
  have : seq n.1 n.1 = true := seq_iff.2 rfl
  rw [this]
  simp [br]
/-- a measure that is not less than 0 says how long the list is -/
theorem szNode_f (n : Nd) (x : Int) (hx : 0 ≤ x) (hx1 : x ≤ 9223372036854775000) (hn : n.1.size ≤ 9223372036854775807) : ∃ y, laws_szNode.f n x = some y ∧ y ≤ x := by
  rw [laws_szNode.eq]
  rw [wrap_ok (by omega) (by omega)]
  by_cases h : x - (n.1.size : Int) < 0
  · exact ⟨-1, br_t (by simpa using h), by omega⟩
  · exact ⟨_, br_f (by simpa using h), by omega⟩
theorem szNodeS_ev (xs : List Nd) (x : Int) (hx : 0 ≤ x) (hx1 : x ≤ 9223372036854775000) (hl : xs.length ≤ maxLen) (hn : ∀ n, n ∈ xs → n.1.size ≤ maxLen) : ∃ y, Ev (fun k => laws_szNodeS.f k xs x) y ∧ y ≤ x ∧ (0 ≤ y → xs.length ≤ x) := by
  have hM : maxLen = 9223372036854775807 := by decide
  have hl' : (xs.length : Int) ≤ 9223372036854775807 := by omega
  have hw : IntKind.wrap .i64 (x - (xs.length : Int)) = x - (xs.length : Int) := wrap_ok (by omega) (by omega)
  by_cases h : x - (xs.length : Int) < 0
  · exact ⟨-1, Ev.step (fun k => laws_szNodeS.eq k xs x) (by rw [hw]; exact Ev.pos (by simpa using h) (Ev.now _)), by omega, by omega⟩
  · have hle : (xs.length : Int) ≤ x := by omega
    have loop : ∀ (d i : Nat) (z : Int), i + d = xs.length → 0 ≤ z → z ≤ x → ∃ y, Ev (fun k => laws_szNodeS.l0 k xs z (i : Int)) y ∧ y ≤ x := by
      intro d
      induction d with
      | zero =>
        intro i z hi h0 h1
        exact ⟨z, Ev.step (fun k => laws_szNodeS.l0_eq k xs z i) (Ev.neg (by simp; omega) (Ev.now _)), h1⟩
      | succ d ih =>
        intro i z hi h0 h1
        have hlt : i < xs.length := by omega
        obtain ⟨y, hy, hyz⟩ := szNode_f xs[i] z h0 (by omega) (by have := hn _ (List.getElem_mem hlt); omega)
        by_cases hy0 : y < 0
        · refine ⟨-1, Ev.step (fun k => laws_szNodeS.l0_eq k xs z i) (Ev.pos (by simpa using hlt) (Ev.pos (by simp) (Ev.get hlt (Ev.here hy (Ev.pos (by simpa using hy0) (Ev.now _)))))), by omega⟩
        · obtain ⟨r, hr, hrx⟩ := ih (i + 1) y (by omega) (by omega) (by omega)
          refine ⟨r, Ev.step (fun k => laws_szNodeS.l0_eq k xs z i) (Ev.pos (by simpa using hlt) (Ev.pos (by simp) (Ev.get hlt (Ev.here hy (Ev.neg (by simpa using hy0) ?_))))), hrx⟩
          rw [next_ok i xs.length hlt (by omega)]
          exact hr
    obtain ⟨y, hy, hyx⟩ := loop xs.length 0 (x - (xs.length : Int)) (by omega) (by omega) (by omega)
    exact ⟨y, Ev.step (fun k => laws_szNodeS.eq k xs x) (by rw [hw]; exact Ev.neg (by simpa using h) hy), hyx, fun _ => hle⟩
theorem toNodeS_ev (xs : List Nd) (hl : xs.length ≤ 1048576) : Ev (fun k => laws_toNodeS.f k xs) (xs, ()) := by
  refine Ev.step (fun k => laws_toNodeS.eq k xs) (Ev.pos (by simp) (Ev.pos (by simp; omega) ?_))
  rw [Int.toNat_natCast]
  have key : ∀ (d i : Nat), i + d = xs.length → Ev (fun k => laws_toNodeS.l0 k xs (i : Int) (xs.take i ++ List.replicate (xs.length - i) ((⟨#[]⟩ : ByteArray), ((0 : Int), ((0 : Int), (0 : Int)))))) (xs, ()) := by
    intro d
    induction d with
    | zero =>
      intro i hi
      refine Ev.step (fun k => laws_toNodeS.l0_eq k xs i _) (Ev.neg (by simp; omega) (Ev.ret ?_))
      rw [show i = xs.length by omega]
      simp
    | succ d ih =>
      intro i hi
      have hlt : i < xs.length := by omega
      have hlen : (xs.take i ++ List.replicate (xs.length - i) ((⟨#[]⟩ : ByteArray), ((0 : Int), ((0 : Int), (0 : Int))))).length = xs.length := by simp; omega
      refine Ev.step (fun k => laws_toNodeS.l0_eq k xs i _) (Ev.pos (by simpa using hlt) (Ev.pos (by simp) (Ev.get hlt (Ev.here (toNode_f _) (Ev.pos (by simp) (Ev.pos (by rw [hlen]; simpa using hlt) (Ev.get (by rw [hlen]; exact hlt) ?_)))))))
      rw [next_ok i xs.length hlt (by omega), Int.toNat_natCast]
      have := set_step xs ((⟨#[]⟩ : ByteArray), ((0 : Int), ((0 : Int), (0 : Int)))) i hlt
      rw [this]
      exact ih (i + 1) (by omega)
  simpa using key xs.length 0 (by omega)
theorem eqNodeS_ev (xs : List Nd) (hl : xs.length ≤ 1048576) : Ev (fun k => laws_eqNodeS.f k xs xs) true := by
  refine Ev.step (fun k => laws_eqNodeS.eq k xs xs) (Ev.neg (by simp) ?_)
  have key : ∀ (d i : Nat), i + d = xs.length → Ev (fun k => laws_eqNodeS.l0 k xs xs (i : Int)) true := by
    intro d
    induction d with
    | zero =>
      intro i hi
      exact Ev.step (fun k => laws_eqNodeS.l0_eq k xs xs i) (Ev.neg (by simp; omega) (Ev.now _))
    | succ d ih =>
      intro i hi
      have hlt : i < xs.length := by omega
      refine Ev.step (fun k => laws_eqNodeS.l0_eq k xs xs i) (Ev.pos (by simpa using hlt) (Ev.pos (by simp) (Ev.get hlt (Ev.pos (by simp) (Ev.get hlt (Ev.here (eqNode_f _) (Ev.neg (by rfl) ?_)))))))
      rw [next_ok i xs.length hlt (by omega)]
      exact ih (i + 1) (by omega)
  exact key xs.length 0 (by omega)
/-! ### as values -/
theorem brn_t {α : Type} (x y : Option α) : br (!true) x y = y := rfl
theorem brn_f {α : Type} (x y : Option α) : br (!false) x y = x := rfl
@[simp] theorem seq_self (x : ByteArray) : seq x x = true := seq_iff.2 rfl
theorem toNodeS_v (xs : List Nd) (hl : xs.length ≤ 1048576) : laws_toNodeS.v xs = some (xs, ()) := ev_lim (toNodeS_ev xs hl)
theorem eqNodeS_v (xs : List Nd) (hl : xs.length ≤ 1048576) : laws_eqNodeS.v xs xs = some true := ev_lim (eqNodeS_ev xs hl)
theorem szNodeS_v (xs : List Nd) (x : Int) (hx : 0 ≤ x) (hx1 : x ≤ 9223372036854775000) (hl : xs.length ≤ maxLen) (hn : ∀ n, n ∈ xs → n.1.size ≤ maxLen) : ∃ y, laws_szNodeS.v xs x = some y ∧ y ≤ x ∧ (0 ≤ y → xs.length ≤ x) := by
  obtain ⟨y, h, k⟩ := szNodeS_ev xs x hx hx1 hl hn
  exact ⟨y, ev_lim h, k⟩

/-! ### what is written on -/
theorem gt_mid {α β : Type} (l : List β) (x : β) (r : List β) (f : β → Option α) : gt (l ++ x :: r) l.length f = f x := gt_some (by simp)
theorem set_mid {β : Type} (l : List β) (x y : β) (r : List β) : (l ++ x :: r).set l.length y = l ++ y :: r := by simp
theorem strOf_one (x : Int) : (strOf [x]).size = 1 := rfl
theorem markText_l : ∀ (n : Nat) (x : ByteArray), n + x.size ≤ 1099511627776 * 2 → ∃ t, laws_markText.v0 (n : Int) x = some t := by
  intro n
  induction n using Nat.strongRecOn with
  | ind n ih =>
    intro x hx
    by_cases h : n = 0
    · subst h
      exact ⟨_, laws_markText.v0s _ _ (by
        have : (ByteArray.size ⟨#[109]⟩) = 1 := rfl
        simp [this]; constructor
        · omega
        · rfl)⟩
    · obtain ⟨t, ht⟩ := ih (n / 10) (by omega) (strOf [Go.IntKind.wrap .u8 (Go.IntKind.wrap .i64 ((48 : Int) + (Int.tmod n 10)))] ++ x) (by rw [ByteArray.size_append, strOf_one]; omega)
      refine ⟨t, laws_markText.v0s _ _ ?_⟩
      have e : IntKind.wrap .i64 (Int.tdiv (n : Int) 10) = ((n / 10 : Nat) : Int) := by
        rw [Int.tdiv_eq_ediv_of_nonneg (by omega), wrap_ok (by omega) (by omega)]; rfl
      rw [e, br_t (by simp; omega), br_t (by rw [strOf_one]; simp; omega)]
      exact ht
theorem markText_some (k : Int) (h : k ≤ 1099511627776) : ∃ t, laws_markText.v k = some t := by
  by_cases h0 : k ≤ 0
  · exact ⟨_, laws_markText.vs _ (br_t (by simpa using h0))⟩
  · obtain ⟨n, rfl⟩ := Int.eq_ofNat_of_zero_le (show 0 ≤ k by omega)
    obtain ⟨t, ht⟩ := markText_l n ⟨#[]⟩ (by have : ByteArray.size ⟨#[]⟩ = 0 := rfl; rw [this]; omega)
    exact ⟨t, laws_markText.vs _ ((br_f (by simpa using h0)).trans ht)⟩
noncomputable def mt (k : Int) : ByteArray := (laws_markText.v k).getD default
theorem mt_v (k : Int) (h : k ≤ 1099511627776) : laws_markText.v k = some (mt k) := by
  obtain ⟨t, ht⟩ := markText_some k h
  unfold mt; rw [ht]; rfl
noncomputable def mkN : Int → List Nd → List Nd
  | _, [] => []
  | k, _ :: r => (mt k, k + 1, k + 2, k + 3) :: mkN (k + 4) r
theorem mkN_len : ∀ (l : List Nd) (k : Int), (mkN k l).length = l.length
  | [], _ => rfl
  | _ :: r, k => by simp [mkN, mkN_len r]
theorem markNodeS_l : ∀ (r l : List Nd) (k : Int), 0 ≤ k → k + 4 * r.length ≤ 1000000000 → l.length + r.length ≤ 1000000000 → laws_markNodeS.v0 k (l.length : Int) (l ++ r) = some (k + 4 * r.length, l ++ mkN k r)
  | [], l, k, h0, h1, h2 => laws_markNodeS.v0s _ _ _ (by simp [mkN])
  | n :: r, l, k, h0, h1, h2 => by
    simp only [List.length_cons] at h1 h2
    have ih := markNodeS_l r (l ++ [(mt k, k + 1, k + 2, k + 3)]) (k + 4) (by omega) (by omega) (by simp; omega)
    refine laws_markNodeS.v0s _ _ _ ?_
    have w1 : IntKind.wrap .i64 (k + 1) = k + 1 := wrap_ok (by omega) (by omega)
    have w2 : IntKind.wrap .i64 (k + 1 + 1) = k + 2 := by rw [wrap_ok (by omega) (by omega)]; omega
    have w3 : IntKind.wrap .i64 (k + 2 + 1) = k + 3 := by rw [wrap_ok (by omega) (by omega)]; omega
    have w4 : IntKind.wrap .i64 (k + 3 + 1) = k + 4 := by rw [wrap_ok (by omega) (by omega)]; omega
    have wi : IntKind.wrap .i64 ((l.length : Int) + 1) = ((l.length + 1 : Nat) : Int) := by rw [wrap_ok (by omega) (by omega)]; rfl
    have hlt : ((l.length : Int) < ((l.length + (r.length + 1) : Nat) : Int)) := by omega
    simp only [w1, w2, w3, w4, wi, mt_v k (by omega), Int.toNat_natCast, set_mid, gt_mid, bd_s, List.length_append, List.length_cons]
    simp only [br_if, hlt, decide_true, if_true, Int.natCast_nonneg]
    simp only [List.length_append, List.length_cons, List.length_nil, List.append_assoc, List.cons_append, List.nil_append, Nat.zero_add] at ih
    rw [ih]
    simp only [mkN, List.length_cons]
    congr 2
    omega
theorem markNodeS_v (k : Int) (r : List Nd) (h0 : 0 ≤ k) (h1 : k + 4 * r.length ≤ 1000000000) : laws_markNodeS.v k r = some (k + 4 * r.length, mkN k r) :=
  laws_markNodeS.vs _ _ (by have := markNodeS_l r [] k h0 h1 (by simp; omega); simpa using this)
theorem heldNodeS_l : ∀ (r l : List Nd) (k : Int), 0 ≤ k → k + 4 * r.length ≤ 1000000000 → l.length + r.length ≤ 1000000000 → laws_heldNodeS.v0 (l ++ mkN k r) k (l.length : Int) = some (k + 4 * r.length)
  | [], l, k, h0, h1, h2 => laws_heldNodeS.v0s _ _ _ (by simp [mkN])
  | n :: r, l, k, h0, h1, h2 => by
    simp only [List.length_cons] at h1 h2
    have ih := heldNodeS_l r (l ++ [(mt k, k + 1, k + 2, k + 3)]) (k + 4) (by omega) (by omega) (by simp; omega)
    refine laws_heldNodeS.v0s _ _ _ ?_
    have w1 : IntKind.wrap .i64 (k + 1) = k + 1 := wrap_ok (by omega) (by omega)
    have w2 : IntKind.wrap .i64 (k + 1 + 1) = k + 2 := by rw [wrap_ok (by omega) (by omega)]; omega
    have w3 : IntKind.wrap .i64 (k + 2 + 1) = k + 3 := by rw [wrap_ok (by omega) (by omega)]; omega
    have w4 : IntKind.wrap .i64 (k + 3 + 1) = k + 4 := by rw [wrap_ok (by omega) (by omega)]; omega
    have wi : IntKind.wrap .i64 ((l.length : Int) + 1) = ((l.length + 1 : Nat) : Int) := by rw [wrap_ok (by omega) (by omega)]; rfl
    have hlt : ((l.length : Int) < ((l.length + (r.length + 1) : Nat) : Int)) := by omega
    simp only [mkN, w1, w2, w3, w4, wi, mt_v k (by omega), Int.toNat_natCast, gt_mid, bd_s, List.length_append, List.length_cons, mkN_len]
    simp only [br_if, hlt, decide_true, if_true, Int.natCast_nonneg, seq_self, Bool.not_true, Bool.false_eq_true, if_false, bne_self_eq_false]
    simp only [List.length_append, List.length_cons, List.length_nil, List.append_assoc, List.cons_append, List.nil_append, Nat.zero_add] at ih
    rw [ih]
    congr 1
    omega
theorem heldNodeS_v (k : Int) (r : List Nd) (h0 : 0 ≤ k) (h1 : k + 4 * r.length ≤ 1000000000) : laws_heldNodeS.v (mkN k r) k = some (k + 4 * r.length) :=
  laws_heldNodeS.vs _ _ (by have := heldNodeS_l r [] k h0 h1 (by simp; omega); simpa using this)
end Go.Proofs.Ytohfaccniialmaa.Am
end
section
/- Lists of texts and numbers that are searched; numbers within bounds. -/
namespace Go.Proofs.Ytohfaccniialmaa.Am
open Go
set_option linter.unusedVariables false
set_option linter.unusedSimpArgs false

theorem seq_beq (x y : ByteArray) : seq x y = decide (x = y) := by
  by_cases h : x = y
  · rw [decide_eq_true h]; exact seq_iff.2 h
  · rw [decide_eq_false h]
    cases e : seq x y with
    | false => rfl
    | true => exact absurd (seq_iff.1 e) h
/-- is a text among these -/
def isIn (l : List ByteArray) (s : ByteArray) : Bool := l.any fun x => decide (x = s)
theorem drop_at {α : Type} (l : List α) (i : Nat) (h : i < l.length) : l.drop i = l[i] :: l.drop (i + 1) := List.drop_eq_getElem_cons h
theorem l1HasS_ev (l : List ByteArray) (s : ByteArray) (hl : l.length ≤ 9223372036854775000) : Ev (fun k => spec_l1HasS.f k l s) (isIn l s) := by
  refine Ev.step (fun k => spec_l1HasS.eq k l s) ?_
  have := Ev.loop l.length (fun k i => spec_l1HasS.l0 k s l (l.length : Int) (i : Int)) (fun i => isIn (l.drop i) s) ?_ ?_ 0 (by omega)
  · exact this
  · exact Ev.step (fun k => spec_l1HasS.l0_eq k s l _ _) (Ev.neg (by simp) (Ev.ret (by simp [isIn])))
  · intro i hi ih
    refine Ev.step (fun k => spec_l1HasS.l0_eq k s l _ _) (Ev.pos (by simpa using hi) (Ev.pos (by simp) (Ev.get hi ?_)))
    rw [next_ok i _ hi hl, seq_beq]
    by_cases c : l[i] = s
    · exact Ev.pos (by simp [c]) (Ev.ret (by unfold isIn; rw [drop_at _ _ hi, List.any_cons]; simp [c]))
    · exact Ev.neg (by simp [c]) (Ev.eq ih (by unfold isIn; rw [drop_at _ _ hi, List.any_cons]; simp [c]))
theorem containsS_ev (l : List ByteArray) (s : ByteArray) (hl : l.length ≤ 9223372036854775000) : Ev (fun k => slices_Contains_string.f k l s) (isIn l s) := by
  have key : ∀ (d : Nat) (i : Nat), i + d = l.length → ∃ r : Int, Ev (fun k => slices_Index_string.l0 k l s (l.length : Int) (i : Int)) r ∧ (0 ≤ r ↔ isIn (l.drop i) s = true) := by
    intro d
    induction d with
    | zero =>
      intro i h
      refine ⟨-1, Ev.step (fun k => slices_Index_string.l0_eq k l s _ _) (Ev.neg (by simp; omega) (Ev.now _)), ?_⟩
      rw [List.drop_eq_nil_of_le (by omega)]; simp [isIn]
    | succ d ih =>
      intro i h
      have hi : i < l.length := by omega
      by_cases c : l[i] = s
      · refine ⟨i, Ev.step (fun k => slices_Index_string.l0_eq k l s _ _) (Ev.pos (by simpa using hi) (Ev.pos (by simp) (Ev.get hi (Ev.pos (by rw [seq_beq]; simp [c]) (Ev.now _))))), ?_⟩
        unfold isIn; rw [drop_at _ _ hi, List.any_cons]; simp [c]
      · obtain ⟨r, hev, hiff⟩ := ih (i + 1) (by omega)
        refine ⟨r, Ev.step (fun k => slices_Index_string.l0_eq k l s _ _) (Ev.pos (by simpa using hi) (Ev.pos (by simp) (Ev.get hi (Ev.neg (by rw [seq_beq]; simp only [decide_eq_false_iff_not]; exact fun e => c e.symm) (by rw [next_ok i _ hi hl]; exact hev))))), ?_⟩
        rw [hiff]; unfold isIn; rw [drop_at _ _ hi, List.any_cons]; simp [c]
  obtain ⟨r, hev, hiff⟩ := key l.length 0 (by omega)
  refine Ev.step (fun k => slices_Contains_string.eq k l s) (Ev.bind (b := r) (Ev.step (fun k => slices_Index_string.eq k l s) hev) (Ev.ret ?_))
  rw [Bool.eq_iff_iff, decide_eq_true_iff]
  exact hiff
theorem containsI_ev (l : List Int) (s : Int) (hl : l.length ≤ 9223372036854775000) : Ev (fun k => slices_Contains_int.f k l s) (decide (s ∈ l)) := by
  have key : ∀ (d : Nat) (i : Nat), i + d = l.length → ∃ r : Int, Ev (fun k => slices_Index_int.l0 k l s (l.length : Int) (i : Int)) r ∧ (0 ≤ r ↔ s ∈ l.drop i) := by
    intro d
    induction d with
    | zero =>
      intro i h
      refine ⟨-1, Ev.step (fun k => slices_Index_int.l0_eq k l s _ _) (Ev.neg (by simp; omega) (Ev.now _)), ?_⟩
      rw [List.drop_eq_nil_of_le (by omega)]; simp
    | succ d ih =>
      intro i h
      have hi : i < l.length := by omega
      by_cases c : s = l[i]
      · refine ⟨i, Ev.step (fun k => slices_Index_int.l0_eq k l s _ _) (Ev.pos (by simpa using hi) (Ev.pos (by simp) (Ev.get hi (Ev.pos (by simp [c]) (Ev.now _))))), ?_⟩
        rw [drop_at _ _ hi, List.mem_cons]; simp [c]
      · obtain ⟨r, hev, hiff⟩ := ih (i + 1) (by omega)
        refine ⟨r, Ev.step (fun k => slices_Index_int.l0_eq k l s _ _) (Ev.pos (by simpa using hi) (Ev.pos (by simp) (Ev.get hi (Ev.neg (by simp [c]) (by rw [next_ok i _ hi hl]; exact hev))))), ?_⟩
        rw [hiff, drop_at _ _ hi, List.mem_cons]; simp [c]
  obtain ⟨r, hev, hiff⟩ := key l.length 0 (by omega)
  refine Ev.step (fun k => slices_Contains_int.eq k l s) (Ev.bind (b := r) (Ev.step (fun k => slices_Index_int.eq k l s) hev) (Ev.ret ?_))
  rw [Bool.eq_iff_iff, decide_eq_true_iff, decide_eq_true_iff]
  exact hiff
theorem l1Has_ev (l : List Int) (s : Int) (hl : l.length ≤ 9223372036854775000) : Ev (fun k => spec_l1Has.f k l s) (decide (s ∈ l)) := by
  refine Ev.step (fun k => spec_l1Has.eq k l s) ?_
  have := Ev.loop l.length (fun k i => spec_l1Has.l0 k s l (l.length : Int) (i : Int)) (fun i => decide (s ∈ l.drop i)) ?_ ?_ 0 (by omega)
  · exact this
  · exact Ev.step (fun k => spec_l1Has.l0_eq k s l _ _) (Ev.neg (by simp) (Ev.ret (by simp)))
  · intro i hi ih
    refine Ev.step (fun k => spec_l1Has.l0_eq k s l _ _) (Ev.pos (by simpa using hi) (Ev.pos (by simp) (Ev.get hi ?_)))
    rw [next_ok i _ hi hl]
    by_cases c : l[i] = s
    · exact Ev.pos (by simp [c]) (Ev.ret (by rw [drop_at _ _ hi]; simp only [List.mem_cons]; simp [c]))
    · exact Ev.neg (by simp [c]) (Ev.eq ih (by rw [drop_at _ _ hi]; simp only [List.mem_cons]; have e : ¬ s = l[i] := fun e => c e.symm; simp [e]))
/-- is a number within these bounds -/
def inB (n lo hi : Int) : Bool := decide (lo ≤ n) && decide (n ≤ hi)
theorem l1In_f (n lo hi : Int) : spec_l1In.f n lo hi = some (inB n lo hi) := by
  rw [spec_l1In.eq]; unfold inB
  by_cases h : lo ≤ n
  · rw [br_t (by simpa using h)]; simp [h]
  · rw [br_f (by simpa using h)]; simp [h]
theorem within_f (n lo hi : Int) : impl_within.f n lo hi = some (inB n lo hi) := by
  rw [impl_within.eq]; unfold inB
  by_cases h : lo ≤ n
  · rw [br_t (by simpa using h)]; simp [h]
  · rw [br_f (by simpa using h)]; simp [h]
theorem exWord_f (n : Int) : spec_exWord.f n = some (inB n 0 63) := by rw [spec_exWord.eq, l1In_f]; rfl
theorem isWord_f (n : Int) : impl_isWord.f n = some (inB n 0 63) := by rw [impl_isWord.eq, within_f]; rfl
end Go.Proofs.Ytohfaccniialmaa.Am
end
section
/- Expressions: which operands a node has, where a node may stand; the program's functions and the reference's answer alike. -/
namespace Go.Proofs.Ytohfaccniialmaa.Am
open Go
set_option linter.unusedVariables false
set_option linter.unusedSimpArgs false

abbrev tIn : ByteArray := ⟨#[105, 110]⟩
abbrev tConst : ByteArray := ⟨#[99, 111, 110, 115, 116]⟩
abbrev tNot : ByteArray := ⟨#[110, 111, 116]⟩
abbrev tNeg : ByteArray := ⟨#[110, 101, 103]⟩
def opsL : List ByteArray := [(⟨#[97, 100, 100]⟩ : ByteArray), (⟨#[115, 117, 98]⟩ : ByteArray), (⟨#[109, 117, 108]⟩ : ByteArray), (⟨#[97, 110, 100]⟩ : ByteArray), (⟨#[111, 114]⟩ : ByteArray), (⟨#[120, 111, 114]⟩ : ByteArray), (⟨#[115, 104, 108]⟩ : ByteArray), (⟨#[115, 104, 114]⟩ : ByteArray), (⟨#[108, 101, 115, 115]⟩ : ByteArray), (⟨#[101, 113]⟩ : ByteArray)]
def isTwo (s : ByteArray) : Bool := isIn opsL s
def isOne (s : ByteArray) : Bool := decide (s = tNot) || decide (s = tNeg)
/-- how many operands an op has; -1: it is none -/
def arity (s : ByteArray) : Int := if s = tIn then 0 else if s = tConst then 0 else if isOne s = true then 1 else if isTwo s = true then 2 else -1
theorem isOne_mem {s : ByteArray} (h : isOne s = true) : s = tNot ∨ s = tNeg := by
  unfold isOne at h
  simpa using h
theorem arity_one {s : ByteArray} (h : isOne s = true) : arity s = 1 := by
  unfold arity
  rw [if_neg (by rcases isOne_mem h with e | e <;> rw [e] <;> decide), if_neg (by rcases isOne_mem h with e | e <;> rw [e] <;> decide), if_pos h]
theorem isTwo_not {s : ByteArray} (h : isTwo s = true) : s ≠ tIn ∧ s ≠ tConst ∧ isOne s = false := by
  refine ⟨fun e => ?_, fun e => ?_, ?_⟩
  · rw [e] at h; revert h; decide
  · rw [e] at h; revert h; decide
  · cases h1 : isOne s with
    | false => rfl
    | true => rcases isOne_mem h1 with e | e <;> (rw [e] at h; revert h; decide)
theorem arity_two {s : ByteArray} (h : isTwo s = true) : arity s = 2 := by
  obtain ⟨h1, h2, h3⟩ := isTwo_not h
  unfold arity
  rw [if_neg h1, if_neg h2, if_neg (by simp [h3]), if_pos h]
theorem arity_cases (s : ByteArray) : (arity s = -1 ∧ isOne s = false ∧ isTwo s = false) ∨ (arity s = 0 ∧ isOne s = false ∧ isTwo s = false) ∨ (arity s = 1 ∧ isOne s = true ∧ isTwo s = false) ∨ (arity s = 2 ∧ isOne s = false ∧ isTwo s = true) := by
  by_cases h2 : isTwo s = true
  · exact .inr (.inr (.inr ⟨arity_two h2, (isTwo_not h2).2.2, h2⟩))
  · have h2' : isTwo s = false := by simpa using h2
    by_cases h1 : isOne s = true
    · exact .inr (.inr (.inl ⟨arity_one h1, h1, h2'⟩))
    · have h1' : isOne s = false := by simpa using h1
      by_cases c : s = tIn
      · exact .inr (.inl ⟨by unfold arity; rw [if_pos c], h1', h2'⟩)
      · by_cases c2 : s = tConst
        · exact .inr (.inl ⟨by unfold arity; rw [if_neg c, if_pos c2], h1', h2'⟩)
        · exact .inl ⟨by unfold arity; rw [if_neg c, if_neg c2, if_neg h1, if_neg h2], h1', h2'⟩
theorem arity_eq_one {s : ByteArray} : arity s = 1 ↔ isOne s = true := by
  rcases arity_cases s with ⟨h, h1, h2⟩ | ⟨h, h1, h2⟩ | ⟨h, h1, h2⟩ | ⟨h, h1, h2⟩ <;> rw [h, h1] <;> simp
theorem arity_eq_two {s : ByteArray} : arity s = 2 ↔ isTwo s = true := by
  rcases arity_cases s with ⟨h, h1, h2⟩ | ⟨h, h1, h2⟩ | ⟨h, h1, h2⟩ | ⟨h, h1, h2⟩ <;> rw [h, h2] <;> simp
theorem seq_t {x y : ByteArray} (h : x = y) : seq x y = true := seq_iff.2 h
theorem seq_f {x y : ByteArray} (h : ¬ x = y) : seq x y = false := by rw [seq_beq]; simp [h]
theorem exOne_f (s : ByteArray) : spec_exOne.f s = some (isOne s) := by
  rw [spec_exOne.eq, seq_beq, seq_beq]
  unfold isOne
  by_cases h : s = tNot
  · rw [br_t (by simpa using h)]; simp [h]
  · rw [br_f (by simpa using h)]; simp [h]
theorem exTwo_ev (s : ByteArray) : Ev (fun k => spec_exTwo.f k s) (isTwo s) := Ev.step (fun k => spec_exTwo.eq k s) (Ev.here spec_exOps.eq (Ev.bind (l1HasS_ev opsL s (by decide)) (Ev.now _)))
theorem operands_ev (s : ByteArray) : Ev (fun k => impl_operands.f k s) (arity s) := by
  refine Ev.step (fun k => impl_operands.eq k s) ?_
  unfold arity
  by_cases c : s = tIn
  · rw [if_pos c]; exact Ev.pos (seq_t c) (Ev.now _)
  · refine Ev.neg (seq_f c) ?_
    rw [if_neg c]
    by_cases c2 : s = tConst
    · rw [if_pos c2]; exact Ev.pos (seq_t c2) (Ev.now _)
    · refine Ev.neg (seq_f c2) ?_
      rw [if_neg c2]
      by_cases c3 : s = tNot
      · rw [if_pos (by unfold isOne; simp [c3])]; exact Ev.pos (seq_t c3) (Ev.now _)
      · refine Ev.neg (seq_f c3) ?_
        by_cases c4 : s = tNeg
        · rw [if_pos (by unfold isOne; simp [c4])]; exact Ev.pos (seq_t c4) (Ev.now _)
        · refine Ev.neg (seq_f c4) (Ev.here impl_binary.eq (Ev.bind (containsS_ev opsL s (by decide)) ?_))
          rw [if_neg (by unfold isOne; simp [c3, c4])]
          by_cases h : isTwo s = true
          · rw [if_pos h]; exact Ev.pos h (Ev.now _)
          · have h' : isTwo s = false := by simpa using h
            rw [if_neg h]; exact Ev.neg h' (Ev.now _)

/-! ### nodes -/
/-- the operands of a node -/
def partsOf (n : Nd) : List Int := if arity n.1 = 1 then [n.2.1] else if arity n.1 = 2 then [n.2.1, n.2.2.1] else []
theorem parts_le (n : Nd) : (partsOf n).length ≤ 2 := by unfold partsOf; split <;> (try split) <;> simp
theorem exParts_ev (n : Nd) : Ev (fun k => spec_exParts.f k n) (partsOf n) := by
  refine Ev.step (fun k => spec_exParts.eq k n) (Ev.here (exOne_f _) ?_)
  unfold partsOf
  by_cases h : isOne n.1 = true
  · exact Ev.pos h (Ev.ret (by rw [if_pos (arity_one h)]))
  · refine Ev.neg (by simpa using h) (Ev.bind (exTwo_ev n.1) ?_)
    rw [if_neg (fun e => h (arity_eq_one.1 e))]
    by_cases h2 : isTwo n.1 = true
    · exact Ev.pos h2 (Ev.ret (by rw [if_pos (arity_two h2)]))
    · exact Ev.neg (by simpa using h2) (Ev.ret (by rw [if_neg (fun e => h2 (arity_eq_two.1 e))]))
theorem of_ev (n : Nd) : Ev (fun k => impl_Node_of.f k n) (partsOf n) := by
  refine Ev.step (fun k => impl_Node_of.eq k n) (Ev.bind (operands_ev n.1) ?_)
  unfold partsOf
  rcases arity_cases n.1 with ⟨h, _⟩ | ⟨h, _⟩ | ⟨h, _⟩ | ⟨h, _⟩ <;> rw [h] <;> exact Ev.pos (by decide) (Ev.pos (by simp [maxI]) (Ev.ret (by simp [maxI])))
/-- may this node stand at place i -/
def nodeOk (n : Nd) (i : Int) : Bool :=
  if n.1 = tIn then decide (n.2.1 = 0) && decide (n.2.2.1 = 0) && inB n.2.2.2 0 1
  else if n.1 = tConst then decide (n.2.1 = 0) && decide (n.2.2.1 = 0) && inB n.2.2.2 0 63
  else if isOne n.1 = true then inB n.2.1 0 (i - 1) && decide (n.2.2.1 = 0) && decide (n.2.2.2 = 0)
  else isTwo n.1 && inB n.2.1 0 (i - 1) && inB n.2.2.1 0 (i - 1) && decide (n.2.2.2 = 0)
theorem exNode_ev (n : Nd) (i : Int) (h0 : 0 ≤ i) (h1 : i ≤ 9223372036854775807) : Ev (fun k => spec_exNode.f k n i) (nodeOk n i) := by
  refine Ev.step (fun k => spec_exNode.eq k n i) ?_
  unfold nodeOk
  rw [wrap_ok (by omega) (by omega)]
  simp only [l1In_f, exWord_f, exOne_f]
  by_cases c : n.1 = tIn
  · refine Ev.pos (seq_t c) ?_
    rw [if_pos c]
    by_cases a : n.2.1 = 0
    · by_cases b : n.2.2.1 = 0
      · exact Ev.pos (by simpa using a) (Ev.pos (by simpa using b) (Ev.here rfl (Ev.ret (by simp [a, b]))))
      · exact Ev.pos (by simpa using a) (Ev.neg (by simpa using b) (Ev.ret (by simp [b])))
    · exact Ev.neg (by simpa using a) (Ev.ret (by simp [a]))
  · refine Ev.neg (seq_f c) ?_
    rw [if_neg c]
    by_cases c2 : n.1 = tConst
    · refine Ev.pos (seq_t c2) ?_
      rw [if_pos c2]
      by_cases a : n.2.1 = 0
      · by_cases b : n.2.2.1 = 0
        · exact Ev.pos (by simpa using a) (Ev.pos (by simpa using b) (Ev.here rfl (Ev.ret (by simp [a, b]))))
        · exact Ev.pos (by simpa using a) (Ev.neg (by simpa using b) (Ev.ret (by simp [b])))
      · exact Ev.neg (by simpa using a) (Ev.ret (by simp [a]))
    · refine Ev.neg (seq_f c2) ?_
      rw [if_neg c2]
      refine Ev.here rfl ?_
      by_cases h : isOne n.1 = true
      · refine Ev.pos h (Ev.here rfl ?_)
        rw [if_pos h]
        cases hb : inB n.2.1 0 (i - 1)
        · exact Ev.neg rfl (Ev.ret (by simp))
        · by_cases b : n.2.2.1 = 0
          · exact Ev.pos rfl (Ev.pos (by simpa using b) (Ev.ret (by simp [b]; rfl)))
          · exact Ev.pos rfl (Ev.neg (by simpa using b) (Ev.ret (by simp [b])))
      · refine Ev.neg (by simpa using h) (Ev.bind (exTwo_ev n.1) ?_)
        rw [if_neg h]
        cases h2 : isTwo n.1
        · exact Ev.neg rfl (Ev.ret (by simp))
        · refine Ev.pos rfl (Ev.here rfl ?_)
          cases hb : inB n.2.1 0 (i - 1)
          · exact Ev.neg rfl (Ev.ret (by simp))
          · refine Ev.pos rfl (Ev.here rfl ?_)
            cases hb2 : inB n.2.2.1 0 (i - 1)
            · exact Ev.neg rfl (Ev.ret (by simp))
            · exact Ev.pos rfl (Ev.ret (by simp; rfl))
end Go.Proofs.Ytohfaccniialmaa.Am
end
section
/- Where a node may stand: the program's function; how often each node is an operand. -/
namespace Go.Proofs.Ytohfaccniialmaa.Am
open Go
set_option linter.unusedVariables false
set_option linter.unusedSimpArgs false

theorem isNode_ev (n : Nd) (i : Int) (h0 : 0 ≤ i) (h1 : i ≤ 9223372036854775807) : Ev (fun k => impl_Node_isNode.f k n i) (nodeOk n i) := by
  refine Ev.step (fun k => impl_Node_isNode.eq k n i) (Ev.bind (operands_ev n.1) ?_)
  -- behind both places
  have hend : ∀ m : Int, m = arity n.1 → Ev (fun k => impl_Node_isNode.l0 k i m 2 2 n.1 n.2.1 n.2.2.1 n.2.2.2 [n.2.1, n.2.2.1]) (if n.1 = tIn then inB n.2.2.2 0 1 else if n.1 = tConst then inB n.2.2.2 0 63 else decide (m > 0) && decide (n.2.2.2 = 0)) := by
    intro m hm
    refine Ev.step (fun k => impl_Node_isNode.l0_eq k _ _ _ _ _ _ _ _ _) (Ev.neg (by simp) ?_)
    by_cases c : n.1 = tIn
    · exact Ev.pos (seq_t c) (Ev.here (within_f _ _ _) (Ev.ret (by rw [if_pos c])))
    · refine Ev.neg (seq_f c) ?_
      rw [if_neg c]
      by_cases c2 : n.1 = tConst
      · exact Ev.pos (seq_t c2) (Ev.here (isWord_f _) (Ev.ret (by rw [if_pos c2])))
      · refine Ev.neg (seq_f c2) ?_
        rw [if_neg c2]
        by_cases p : m > 0
        · exact Ev.pos (by simpa using p) (Ev.ret (by simp [p]; rfl))
        · exact Ev.neg (by simpa using p) (Ev.ret (by simp [p]))
  -- one place
  have hone : ∀ (m : Int) (j : Nat) (x : Int) (R : Bool), j < 2 → [n.2.1, n.2.2.1][j]? = some x → Ev (fun k => impl_Node_isNode.l0 k i m 2 ((j + 1 : Nat) : Int) n.1 n.2.1 n.2.2.1 n.2.2.2 [n.2.1, n.2.2.1]) R →
      Ev (fun k => impl_Node_isNode.l0 k i m 2 (j : Int) n.1 n.2.1 n.2.2.1 n.2.2.2 [n.2.1, n.2.2.1]) ((if (j : Int) < m then inB x 0 (i - 1) else decide (x = 0)) && R) := by
    intro m j x R hj hx hR
    refine Ev.step (fun k => impl_Node_isNode.l0_eq k _ _ _ _ _ _ _ _ _) (Ev.pos (by simp; omega) (Ev.pos (by simp) (Ev.pos (by simp; omega) (Ev.at (b := x) (by rw [Int.toNat_natCast]; exact hx) ?_))))
    rw [wrap_ok (x := i - 1) (by omega) (by omega), next_ok j 2 hj (by omega)]
    by_cases hm : (j : Int) < m
    · refine Ev.pos (by simpa using hm) (Ev.here (within_f _ _ _) ?_)
      rw [if_pos hm]
      cases hb : inB x 0 (i - 1) with
      | true => exact Ev.neg rfl (Ev.neg (by simp; omega) (by simpa using hR))
      | false => exact Ev.pos rfl (Ev.ret (by simp))
    · refine Ev.neg (by simpa using hm) (Ev.pos (by simp; omega) ?_)
      rw [if_neg hm]
      by_cases h0 : x = 0
      · exact Ev.neg (by simp [h0]) (by simpa [h0] using hR)
      · exact Ev.pos (by simpa using h0) (Ev.ret (by simp [h0]))
  have h1' := hone (arity n.1) 1 n.2.2.1 _ (by omega) rfl (hend (arity n.1) rfl)
  have h0' := hone (arity n.1) 0 n.2.1 _ (by omega) rfl h1'
  refine Ev.eq h0' ?_
  unfold nodeOk
  by_cases c : n.1 = tIn
  · have ha : arity n.1 = 0 := by unfold arity; rw [if_pos c]
    rw [ha, if_pos c, if_pos c]
    simp [Bool.and_assoc]
  · rw [if_neg c, if_neg c]
    by_cases c2 : n.1 = tConst
    · have ha : arity n.1 = 0 := by unfold arity; rw [if_neg c, if_pos c2]
      rw [ha, if_pos c2, if_pos c2]
      simp [Bool.and_assoc]
    · rw [if_neg c2, if_neg c2]
      rcases arity_cases n.1 with ⟨ha, h1, h2⟩ | ⟨ha, h1, h2⟩ | ⟨ha, h1, h2⟩ | ⟨ha, h1, h2⟩ <;> rw [ha, h1, h2] <;> simp [Bool.and_assoc]

/-! ### how often each node is an operand -/
def bumpU (u : List Int) (p : Int) : List Int := u.set p.toNat (IntKind.wrap .i64 (u.getD p.toNat 0 + 1))
def bumps (u : List Int) (n : Nd) : List Int := (partsOf n).foldl bumpU u
def usesOf (e : List Nd) : List Int := e.foldl bumps (List.replicate e.length 0)
theorem bump_len (u : List Int) (p : Int) : (bumpU u p).length = u.length := by simp [bumpU]
theorem fold_bump_len (l : List Int) (u : List Int) : (l.foldl bumpU u).length = u.length := by
  induction l generalizing u with
  | nil => rfl
  | cons p l ih => rw [List.foldl_cons, ih, bump_len]
theorem bumps_len (u : List Int) (n : Nd) : (bumps u n).length = u.length := fold_bump_len _ _
theorem fold_bumps_len (l : List Nd) (u : List Int) : (l.foldl bumps u).length = u.length := by
  induction l generalizing u with
  | nil => rfl
  | cons p l ih => rw [List.foldl_cons, ih, bumps_len]
theorem usesOf_len (e : List Nd) : (usesOf e).length = e.length := by unfold usesOf; rw [fold_bumps_len, List.length_replicate]
/-- all operands lie below this bound -/
def PartsIn (e : List Nd) (m : Nat) : Prop := ∀ n ∈ e, ∀ p ∈ partsOf n, 0 ≤ p ∧ p < m
theorem take_fold {α β : Type} (f : β → α → β) (l : List α) (b : β) (i : Nat) (h : i < l.length) : (l.take (i + 1)).foldl f b = f ((l.take i).foldl f b) l[i] := by
  rw [List.take_succ_eq_append_getElem h, List.foldl_append]; rfl
theorem bump_at {u : List Int} {p : Int} (h0 : 0 ≤ p) (h : p < u.length) : u[p.toNat]? = some (u.getD p.toNat 0) := by
  have hp : p.toNat < u.length := by omega
  rw [List.getElem?_eq_getElem hp, List.getD_eq_getElem?_getD, List.getElem?_eq_getElem hp]; rfl
theorem exUses_ev (e : List Nd) (hl : e.length ≤ 1048576) (hp : PartsIn e e.length) : Ev (fun k => spec_exUses.f k e) (usesOf e) := by
  refine Ev.step (fun k => spec_exUses.eq k e) (Ev.pos (by simp) (Ev.pos (by simp; omega) ?_))
  rw [Int.toNat_natCast]
  have key := Ev.loop e.length (fun k i => spec_exUses.l0 k e (e.length : Int) (i : Int) ((e.take i).foldl bumps (List.replicate e.length 0))) (fun _ => usesOf e) ?_ ?_ 0 (by omega)
  · simpa using key
  · exact Ev.step (fun k => spec_exUses.l0_eq k _ _ _ _) (Ev.neg (by simp) (Ev.ret (by rw [List.take_of_length_le (Nat.le_refl _)]; rfl)))
  · intro i hi ih
    refine Ev.step (fun k => spec_exUses.l0_eq k _ _ _ _) (Ev.pos (by simpa using hi) (Ev.pos (by simp) (Ev.get hi (Ev.bind (exParts_ev e[i]) ?_))))
    have hps : ∀ p ∈ partsOf e[i], 0 ≤ p ∧ p < e.length := hp _ (List.getElem_mem hi)
    have inner := Ev.loop (partsOf e[i]).length (fun k j => spec_exUses.l1 k e (e.length : Int) (i : Int) (partsOf e[i]) ((partsOf e[i]).length : Int) (j : Int) (((partsOf e[i]).take j).foldl bumpU ((e.take i).foldl bumps (List.replicate e.length 0)))) (fun _ => usesOf e) ?_ ?_ 0 (by omega)
    · simpa using inner
    · refine Ev.step (fun k => spec_exUses.l1_eq k _ _ _ _ _ _ _) (Ev.neg (by simp) ?_)
      rw [List.take_of_length_le (Nat.le_refl _), next_ok i _ hi (by omega)]
      rw [take_fold bumps e _ i hi] at ih
      exact ih
    · intro j hj ihj
      have hpj := hps _ (List.getElem_mem hj)
      have h2 := parts_le e[i]
      have hlen : (((partsOf e[i]).take j).foldl bumpU ((e.take i).foldl bumps (List.replicate e.length 0))).length = e.length := by rw [fold_bump_len, fold_bumps_len, List.length_replicate]
      refine Ev.step (fun k => spec_exUses.l1_eq k _ _ _ _ _ _ _) (Ev.pos (by simpa using hj) (Ev.pos (by simp) (Ev.get hj (Ev.pos (by simpa using hpj.1) (Ev.pos (by rw [hlen]; simpa using hpj.2) (Ev.at (bump_at hpj.1 (by rw [hlen]; exact hpj.2)) (Ev.pos (by simpa using hpj.1) (Ev.pos (by rw [hlen]; simpa using hpj.2) (Ev.at (bump_at hpj.1 (by rw [hlen]; exact hpj.2)) ?_)))))))))
      rw [take_fold bumpU (partsOf e[i]) _ j hj] at ihj
      rw [next_ok j _ hj (by omega)]
      exact ihj
theorem uses_ev (e : List Nd) (hl : e.length ≤ 1048576) (hp : PartsIn e e.length) : Ev (fun k => impl_uses.f k e) (usesOf e) := by
  refine Ev.step (fun k => impl_uses.eq k e) (Ev.pos (by simp) (Ev.pos (by simp; omega) ?_))
  rw [Int.toNat_natCast]
  have key := Ev.loop e.length (fun k i => impl_uses.l0 k e (e.length : Int) (i : Int) ((e.take i).foldl bumps (List.replicate e.length 0))) (fun _ => usesOf e) ?_ ?_ 0 (by omega)
  · simpa using key
  · exact Ev.step (fun k => impl_uses.l0_eq k _ _ _ _) (Ev.neg (by simp) (Ev.ret (by rw [List.take_of_length_le (Nat.le_refl _)]; rfl)))
  · intro i hi ih
    refine Ev.step (fun k => impl_uses.l0_eq k _ _ _ _) (Ev.pos (by simpa using hi) (Ev.pos (by simp) (Ev.get hi (Ev.bind (of_ev e[i]) ?_))))
    have hps : ∀ p ∈ partsOf e[i], 0 ≤ p ∧ p < e.length := hp _ (List.getElem_mem hi)
    have inner := Ev.loop (partsOf e[i]).length (fun k j => impl_uses.l1 k e (e.length : Int) (i : Int) (partsOf e[i]) ((partsOf e[i]).length : Int) (j : Int) (((partsOf e[i]).take j).foldl bumpU ((e.take i).foldl bumps (List.replicate e.length 0)))) (fun _ => usesOf e) ?_ ?_ 0 (by omega)
    · simpa using inner
    · refine Ev.step (fun k => impl_uses.l1_eq k _ _ _ _ _ _ _) (Ev.neg (by simp) ?_)
      rw [List.take_of_length_le (Nat.le_refl _), next_ok i _ hi (by omega)]
      rw [take_fold bumps e _ i hi] at ih
      exact ih
    · intro j hj ihj
      have hpj := hps _ (List.getElem_mem hj)
      have h2 := parts_le e[i]
      have hlen : (((partsOf e[i]).take j).foldl bumpU ((e.take i).foldl bumps (List.replicate e.length 0))).length = e.length := by rw [fold_bump_len, fold_bumps_len, List.length_replicate]
      refine Ev.step (fun k => impl_uses.l1_eq k _ _ _ _ _ _ _) (Ev.pos (by simpa using hj) (Ev.pos (by simp) (Ev.get hj (Ev.pos (by simpa using hpj.1) (Ev.pos (by rw [hlen]; simpa using hpj.2) (Ev.at (bump_at hpj.1 (by rw [hlen]; exact hpj.2)) (Ev.pos (by simpa using hpj.1) (Ev.pos (by rw [hlen]; simpa using hpj.2) (Ev.at (bump_at hpj.1 (by rw [hlen]; exact hpj.2)) ?_)))))))))
      rw [take_fold bumpU (partsOf e[i]) _ j hj] at ihj
      rw [next_ok j _ hj (by omega)]
      exact ihj
end Go.Proofs.Ytohfaccniialmaa.Am
end
section
/- When a list of nodes is an expression, and a tree. -/
namespace Go.Proofs.Ytohfaccniialmaa.Am
open Go
set_option linter.unusedVariables false
set_option linter.unusedSimpArgs false

/-- all nodes from place i on may stand where they stand -/
def nodesOk : List Nd → Nat → Bool
  | [], _ => true
  | n :: r, i => nodeOk n i && nodesOk r (i + 1)
theorem nodesOk_at {e : List Nd} {i : Nat} (h : i < e.length) : nodesOk (e.drop i) i = (nodeOk e[i] i && nodesOk (e.drop (i + 1)) (i + 1)) := by
  rw [drop_at e i h]; rfl
theorem inB_iff {n lo hi : Int} : inB n lo hi = true ↔ lo ≤ n ∧ n ≤ hi := by unfold inB; simp
theorem nodeOk_parts {n : Nd} {i : Nat} (h : nodeOk n i = true) : ∀ p ∈ partsOf n, 0 ≤ p ∧ p < i := by
  intro p hp
  unfold partsOf at hp
  unfold nodeOk at h
  rcases arity_cases n.1 with ⟨ha, h1, h2⟩ | ⟨ha, h1, h2⟩ | ⟨ha, h1, h2⟩ | ⟨ha, h1, h2⟩
  · rw [ha] at hp; simp at hp
  · rw [ha] at hp; simp at hp
  · have n1 : n.1 ≠ tIn := fun e => by rw [e] at h1; revert h1; decide
    have n2 : n.1 ≠ tConst := fun e => by rw [e] at h1; revert h1; decide
    rw [if_neg n1, if_neg n2, if_pos h1] at h
    rw [ha] at hp
    simp only [Bool.and_eq_true, inB_iff] at h
    simp at hp
    omega
  · obtain ⟨n1, n2, _⟩ := isTwo_not h2
    rw [if_neg n1, if_neg n2, if_neg (by simp [h1])] at h
    rw [ha] at hp
    simp only [Bool.and_eq_true, inB_iff] at h
    simp at hp
    omega
theorem nodesOk_get : ∀ (e : List Nd) (i : Nat), nodesOk e i = true → ∀ (j : Nat) (h : j < e.length), nodeOk e[j] ((i + j : Nat) : Int) = true
  | [], i, _, j, h => by simp at h
  | n :: r, i, hn, j, h => by
    simp only [nodesOk, Bool.and_eq_true] at hn
    cases j with
    | zero => simpa using hn.1
    | succ j =>
      have := nodesOk_get r (i + 1) hn.2 j (by simpa using h)
      rw [show i + (j + 1) = i + 1 + j by omega]
      simpa using this
theorem nodesOk_parts {e : List Nd} (h : nodesOk e 0 = true) : PartsIn e e.length := fun n hn p hp => by
  obtain ⟨j, hj, e1⟩ := List.getElem_of_mem hn
  have := nodesOk_get e 0 h j hj
  rw [e1] at this
  have := nodeOk_parts (i := 0 + j) this p hp
  omega
/-- is each node but the last one an operand -/
def allUsed (e : List Nd) : Bool := !decide ((0 : Int) ∈ (usesOf e).take (e.length - 1))
def exprOk (e : List Nd) : Bool := inB e.length 1 24 && (nodesOk e 0 && allUsed e)
theorem noneOf {α : Type} {e : List Nd} {g : Nat → Nat → Option Bool} (hl : e.length ≤ 1048576) (hbad : ∀ i (h : i < e.length), nodeOk e[i] i = false → Ev (fun k => g k i) false) (hgo : ∀ i (h : i < e.length), nodeOk e[i] i = true → Ev (fun k => g k (i + 1)) false → Ev (fun k => g k i) false) : ∀ (d i : Nat), i + d = e.length → nodesOk (e.drop i) i = false → Ev (fun k => g k i) false := by
  intro d
  induction d with
  | zero =>
    intro i hi h
    rw [List.drop_eq_nil_of_le (by omega)] at h
    cases h
  | succ d ih =>
    intro i hi h
    have hlt : i < e.length := by omega
    rw [nodesOk_at hlt] at h
    cases hn : nodeOk e[i] i with
    | false => exact hbad i hlt hn
    | true =>
      rw [hn, Bool.true_and] at h
      exact hgo i hlt hn (ih (i + 1) (by omega) h)
theorem exGood_ev (e : List Nd) (hl : e.length ≤ 1048576) : Ev (fun k => spec_exGood.f k e) (exprOk e) := by
  refine Ev.step (fun k => spec_exGood.eq k e) (Ev.here (l1In_f _ _ _) ?_)
  unfold exprOk
  cases hb : inB (e.length : Int) 1 24 with
  | false => exact Ev.pos rfl (Ev.ret (by simp))
  | true =>
    refine Ev.neg rfl ?_
    have hlen := inB_iff.1 hb
    rw [Bool.true_and]
    cases hn : nodesOk e 0 with
    | true =>
      have key := Ev.loop e.length (fun k i => spec_exGood.l0 k e e (e.length : Int) (i : Int)) (fun _ => allUsed e) ?_ ?_ 0 (by omega)
      · simpa using key
      · have hw : IntKind.wrap .i64 ((e.length : Int) - 1) = ((e.length - 1 : Nat) : Int) := by rw [wrap_ok (by omega) (by omega)]; omega
        refine Ev.step (fun k => spec_exGood.l0_eq k _ _ _ _) (Ev.neg (by simp) (Ev.bind (exUses_ev e hl (nodesOk_parts hn)) ?_))
        rw [hw, usesOf_len]
        refine Ev.pos (by simp) (Ev.pos (by simp) (Ev.bind (l1Has_ev _ _ (by rw [List.length_drop, List.length_take, usesOf_len]; omega)) (Ev.ret ?_)))
        simp [allUsed]
      · intro i hi ih
        have := nodesOk_get e 0 hn i hi
        rw [Nat.zero_add] at this
        refine Ev.step (fun k => spec_exGood.l0_eq k _ _ _ _) (Ev.pos (by simpa using hi) (Ev.pos (by simp) (Ev.get hi (Ev.bind (exNode_ev e[i] i (by omega) (by omega)) (Ev.neg (by rw [this]; rfl) ?_)))))
        rw [next_ok i _ hi (by omega)]
        exact ih
    | false =>
      refine noneOf (α := Nat) (e := e) (g := fun k i => spec_exGood.l0 k e e (e.length : Int) (i : Int)) hl (fun i hi hf => ?_) (fun i hi hf ih => ?_) e.length 0 (by omega) hn
      · exact Ev.step (fun k => spec_exGood.l0_eq k _ _ _ _) (Ev.pos (by simpa using hi) (Ev.pos (by simp) (Ev.get hi (Ev.bind (exNode_ev e[i] i (by omega) (by omega)) (Ev.pos (by rw [hf]; rfl) (Ev.now _))))))
      · refine Ev.step (fun k => spec_exGood.l0_eq k _ _ _ _) (Ev.pos (by simpa using hi) (Ev.pos (by simp) (Ev.get hi (Ev.bind (exNode_ev e[i] i (by omega) (by omega)) (Ev.neg (by rw [hf]; rfl) ?_)))))
        rw [next_ok i _ hi (by omega)]
        exact ih
theorem isExpr_ev (e : List Nd) (hl : e.length ≤ 1048576) : Ev (fun k => impl_IsExpr.f k e) (exprOk e) := by
  refine Ev.step (fun k => impl_IsExpr.eq k e) (Ev.here (within_f _ _ _) ?_)
  unfold exprOk
  cases hb : inB (e.length : Int) 1 24 with
  | false => exact Ev.pos rfl (Ev.ret (by simp))
  | true =>
    refine Ev.neg rfl ?_
    have hlen := inB_iff.1 hb
    rw [Bool.true_and]
    cases hn : nodesOk e 0 with
    | true =>
      have key := Ev.loop e.length (fun k i => impl_IsExpr.l0 k e e (e.length : Int) (i : Int)) (fun _ => allUsed e) ?_ ?_ 0 (by omega)
      · simpa using key
      · have hw : IntKind.wrap .i64 ((e.length : Int) - 1) = ((e.length - 1 : Nat) : Int) := by rw [wrap_ok (by omega) (by omega)]; omega
        refine Ev.step (fun k => impl_IsExpr.l0_eq k _ _ _ _) (Ev.neg (by simp) (Ev.bind (uses_ev e hl (nodesOk_parts hn)) ?_))
        rw [hw, usesOf_len]
        refine Ev.pos (by simp) (Ev.pos (by simp) (Ev.bind (containsI_ev _ _ (by rw [List.length_drop, List.length_take, usesOf_len]; omega)) (Ev.ret ?_)))
        simp [allUsed]
      · intro i hi ih
        have := nodesOk_get e 0 hn i hi
        rw [Nat.zero_add] at this
        refine Ev.step (fun k => impl_IsExpr.l0_eq k _ _ _ _) (Ev.pos (by simpa using hi) (Ev.pos (by simp) (Ev.get hi (Ev.bind (isNode_ev e[i] i (by omega) (by omega)) (Ev.neg (by rw [this]; rfl) ?_)))))
        rw [next_ok i _ hi (by omega)]
        exact ih
    | false =>
      refine noneOf (α := Nat) (e := e) (g := fun k i => impl_IsExpr.l0 k e e (e.length : Int) (i : Int)) hl (fun i hi hf => ?_) (fun i hi hf ih => ?_) e.length 0 (by omega) hn
      · exact Ev.step (fun k => impl_IsExpr.l0_eq k _ _ _ _) (Ev.pos (by simpa using hi) (Ev.pos (by simp) (Ev.get hi (Ev.bind (isNode_ev e[i] i (by omega) (by omega)) (Ev.pos (by rw [hf]; rfl) (Ev.now _))))))
      · refine Ev.step (fun k => impl_IsExpr.l0_eq k _ _ _ _) (Ev.pos (by simpa using hi) (Ev.pos (by simp) (Ev.get hi (Ev.bind (isNode_ev e[i] i (by omega) (by omega)) (Ev.neg (by rw [hf]; rfl) ?_)))))
        rw [next_ok i _ hi (by omega)]
        exact ih
end Go.Proofs.Ytohfaccniialmaa.Am
end
section
/- When an expression is a tree: the program's function and the reference's. -/
namespace Go.Proofs.Ytohfaccniialmaa.Am
open Go
set_option linter.unusedVariables false
set_option linter.unusedSimpArgs false

def Bnd (u : List Int) (m : Nat) : Prop := ∀ x ∈ u, 0 ≤ x ∧ x ≤ m
theorem bump_bnd {u : List Int} {m : Nat} (h : Bnd u m) (hm : m ≤ 1000000000) (p : Int) : Bnd (bumpU u p) (m + 1) := by
  intro x hx
  unfold bumpU at hx
  rcases List.mem_or_eq_of_mem_set hx with hx | hx
  · have := h x hx; omega
  · have hd : 0 ≤ u.getD p.toNat 0 ∧ u.getD p.toNat 0 ≤ m := by
      rw [List.getD_eq_getElem?_getD]
      cases hq : u[p.toNat]? with
      | none => simp
      | some y => exact h y (List.mem_of_getElem? hq)
    rw [hx, wrap_ok (by omega) (by omega)]
    omega
theorem fold_bnd : ∀ (l : List Int) (u : List Int) (m : Nat), Bnd u m → m + l.length ≤ 1000000000 → Bnd (l.foldl bumpU u) (m + l.length)
  | [], u, m, h, _ => h
  | p :: l, u, m, h, hm => by
    simp only [List.length_cons] at hm
    rw [List.foldl_cons, List.length_cons, show m + (l.length + 1) = (m + 1) + l.length by omega]
    exact fold_bnd l _ (m + 1) (bump_bnd h (by omega) p) (by omega)
theorem Bnd.mono {u : List Int} {m k : Nat} (h : Bnd u m) (hk : m ≤ k) : Bnd u k := fun x hx => by have := h x hx; omega
theorem folds_bnd : ∀ (l : List Nd) (u : List Int) (m : Nat), Bnd u m → m + 2 * l.length ≤ 1000000000 → Bnd (l.foldl bumps u) (m + 2 * l.length)
  | [], u, m, h, _ => h
  | n :: l, u, m, h, hm => by
    simp only [List.length_cons] at hm
    have hp := parts_le n
    rw [List.foldl_cons, List.length_cons, show m + 2 * (l.length + 1) = (m + 2) + 2 * l.length by omega]
    exact folds_bnd l _ (m + 2) ((fold_bnd (partsOf n) u m h (by omega)).mono (by omega)) (by omega)
theorem uses_bnd (e : List Nd) (hl : e.length ≤ 1048576) : Bnd (usesOf e) (2 * e.length) := by
  have := folds_bnd e (List.replicate e.length 0) 0 (fun x hx => by have := List.eq_of_mem_replicate hx; omega) (by omega)
  simpa [usesOf] using this
/-- is each node at most once an operand -/
def once (e : List Nd) : Bool := (usesOf e).all fun x => decide (x ≤ 1)
theorem l1All_ev (l : List Int) (hl : l.length ≤ 9223372036854775000) (hb : ∀ x ∈ l, 0 ≤ x) : Ev (fun k => spec_l1All.f k l 0 1) (l.all fun x => decide (x ≤ 1)) := by
  refine Ev.step (fun k => spec_l1All.eq k l 0 1) ?_
  have key := Ev.loop l.length (fun k i => spec_l1All.l0 k 0 1 l (l.length : Int) (i : Int)) (fun i => (l.drop i).all fun x => decide (x ≤ 1)) ?_ ?_ 0 (by omega)
  · exact key
  · exact Ev.step (fun k => spec_l1All.l0_eq k _ _ _ _ _) (Ev.neg (by simp) (Ev.ret (by simp)))
  · intro i hi ih
    refine Ev.step (fun k => spec_l1All.l0_eq k _ _ _ _ _) (Ev.pos (by simpa using hi) (Ev.pos (by simp) (Ev.get hi (Ev.here (l1In_f _ _ _) ?_))))
    have h0 := hb _ (List.getElem_mem hi)
    rw [next_ok i _ hi hl]
    rw [drop_at _ _ hi, List.all_cons]
    by_cases c : l[i] ≤ 1
    · exact Ev.neg (by rw [inB_iff.2 ⟨h0, c⟩]; rfl) (Ev.eq ih (by simp [c]))
    · have : inB l[i] 0 1 = false := by
        cases hq : inB l[i] 0 1 with
        | false => rfl
        | true => exact absurd (inB_iff.1 hq).2 c
      exact Ev.pos (by rw [this]; rfl) (Ev.ret (by simp [c]))
theorem many_ev (l : List Int) (hl : l.length ≤ 9223372036854775000) : Ev (fun k => slices_ContainsFunc_int_isTree.f k l) (!(l.all fun x => decide (x ≤ 1))) := by
  have key : ∀ (d : Nat) (i : Nat), i + d = l.length → ∃ r : Int, Ev (fun k => slices_IndexFunc_int_isTree.l0 k l (l.length : Int) (i : Int)) r ∧ (0 ≤ r ↔ ((l.drop i).all fun x => decide (x ≤ 1)) = false) := by
    intro d
    induction d with
    | zero =>
      intro i h
      refine ⟨-1, Ev.step (fun k => slices_IndexFunc_int_isTree.l0_eq k _ _ _) (Ev.neg (by simp; omega) (Ev.now _)), ?_⟩
      rw [List.drop_eq_nil_of_le (by omega)]; simp
    | succ d ih =>
      intro i h
      have hi : i < l.length := by omega
      by_cases c : l[i] > 1
      · refine ⟨i, Ev.step (fun k => slices_IndexFunc_int_isTree.l0_eq k _ _ _) (Ev.pos (by simpa using hi) (Ev.pos (by simp) (Ev.get hi (Ev.here (impl_isTree_1.eq _) (Ev.pos (by simpa using c) (Ev.now _)))))), ?_⟩
        have c' : ¬ l[i] ≤ 1 := by omega
        rw [drop_at _ _ hi, List.all_cons]; simp [c']
      · obtain ⟨r, hev, hiff⟩ := ih (i + 1) (by omega)
        refine ⟨r, Ev.step (fun k => slices_IndexFunc_int_isTree.l0_eq k _ _ _) (Ev.pos (by simpa using hi) (Ev.pos (by simp) (Ev.get hi (Ev.here (impl_isTree_1.eq _) (Ev.neg (by simpa using c) (by rw [next_ok i _ hi hl]; exact hev)))))), ?_⟩
        have c' : l[i] ≤ 1 := by omega
        rw [hiff, drop_at _ _ hi, List.all_cons]; simp [c']
  obtain ⟨r, hev, hiff⟩ := key l.length 0 (by omega)
  refine Ev.step (fun k => slices_ContainsFunc_int_isTree.eq k l) (Ev.bind (b := r) (Ev.step (fun k => slices_IndexFunc_int_isTree.eq k l) hev) (Ev.ret ?_))
  rw [List.drop_zero] at hiff
  cases hq : l.all fun x => decide (x ≤ 1) with
  | true => rw [hq] at hiff; have : ¬ 0 ≤ r := fun h => by have := hiff.1 h; cases this
            simp [this]
  | false => rw [hq] at hiff; have : 0 ≤ r := hiff.2 rfl
             simp [this]
theorem exTree_ev (e : List Nd) (hl : e.length ≤ 1048576) (hg : exprOk e = true) : Ev (fun k => spec_exTree.f k e) (once e) := by
  unfold exprOk at hg
  simp only [Bool.and_eq_true] at hg
  exact Ev.step (fun k => spec_exTree.eq k e) (Ev.bind (exUses_ev e hl (nodesOk_parts hg.2.1)) (Ev.bind (l1All_ev _ (by rw [usesOf_len]; omega) fun x hx => (uses_bnd e hl x hx).1) (Ev.now _)))
theorem isTree_ev (e : List Nd) (hl : e.length ≤ 1048576) : Ev (fun k => impl_isTree.f k e) (exprOk e && once e) := by
  refine Ev.step (fun k => impl_isTree.eq k e) (Ev.bind (isExpr_ev e hl) ?_)
  cases hg : exprOk e with
  | false => exact Ev.neg rfl (Ev.ret (by simp))
  | true =>
    have hg' := hg
    unfold exprOk at hg'
    simp only [Bool.and_eq_true] at hg'
    exact Ev.pos rfl (Ev.bind (uses_ev e hl (nodesOk_parts hg'.2.1)) (Ev.bind (many_ev _ (by rw [usesOf_len]; omega)) (Ev.ret (by simp [once]))))
theorem exprOk_parts {e : List Nd} (h : exprOk e = true) : nodesOk e 0 = true ∧ 1 ≤ e.length ∧ e.length ≤ 24 := by
  unfold exprOk at h
  simp only [Bool.and_eq_true, inB_iff] at h
  exact ⟨h.2.1, by omega, by omega⟩
end Go.Proofs.Ytohfaccniialmaa.Am
end
section
/- A subtree, copied behind other nodes: what the reference's copy answers. -/
namespace Go.Proofs.Ytohfaccniialmaa.Am
open Go
set_option linter.unusedVariables false
set_option linter.unusedSimpArgs false

def putN (n : Nd) (is : List Int) : Nd := (n.1, is.getD 0 0, is.getD 1 0, n.2.2.2)
/-- the parts' copies, one behind the other, and where each one's root stands -/
def wkP (w : Int → Nat → List Nd) : List Int → Nat → List Nd × List Int
  | [], _ => ([], [])
  | p :: r, b => (w p b ++ (wkP w r (b + (w p b).length)).1, (((b + (w p b).length : Nat) : Int) - 1) :: (wkP w r (b + (w p b).length)).2)
/-- what a copy of the subtree at i appends behind b nodes -/
def wk (e : List Nd) : Nat → Int → Nat → List Nd
  | 0, _, _ => []
  | f + 1, i, b => match e[i.toNat]? with
    | some n => (wkP (wk e f) (partsOf n) b).1 ++ [putN n (wkP (wk e f) (partsOf n) b).2]
    | none => []
theorem wkP_len {w : Int → Nat → List Nd} {m : Nat} (hw : ∀ p b, (w p b).length ≤ m) : ∀ (ps : List Int) (b : Nat), (wkP w ps b).1.length ≤ m * ps.length
  | [], b => by simp [wkP]
  | p :: r, b => by
    have h1 := hw p b
    have h2 := wkP_len hw r (b + (w p b).length)
    simp only [wkP, List.length_append, List.length_cons]
    rw [Nat.mul_add, Nat.mul_one]
    omega
theorem wk_len (e : List Nd) : ∀ (f : Nat) (i : Int) (b : Nat), (wk e f i b).length + 1 ≤ 2 ^ f
  | 0, i, b => by simp [wk]
  | f + 1, i, b => by
    have hp : 1 ≤ 2 ^ f := Nat.one_le_two_pow
    simp only [wk]
    split
    · rename_i n hn
      have h1 := wkP_len (w := wk e f) (m := 2 ^ f - 1) (fun p b => by have := wk_len e f p b; omega) (partsOf n) b
      have h2 := parts_le n
      have h3 : (2 ^ f - 1) * (partsOf n).length ≤ (2 ^ f - 1) * 2 := Nat.mul_le_mul_left _ h2
      rw [List.length_append, Nat.pow_succ]
      simp only [List.length_cons, List.length_nil]
      omega
    · rw [Nat.pow_succ]; simp; omega
theorem wk_at {e : List Nd} {i : Nat} (hi : i < e.length) (f b : Nat) : wk e (f + 1) (i : Int) b = (wkP (wk e f) (partsOf e[i]) b).1 ++ [putN e[i] (wkP (wk e f) (partsOf e[i]) b).2] := by
  simp only [wk, Int.toNat_natCast, List.getElem?_eq_getElem hi]
theorem wk_at' {e : List Nd} {i : Nat} (hi : i < e.length) {g f : Nat} (hg : g = f + 1) (b : Nat) : wk e g (i : Int) b = (wkP (wk e f) (partsOf e[i]) b).1 ++ [putN e[i] (wkP (wk e f) (partsOf e[i]) b).2] := by
  subst hg
  exact wk_at hi f b
theorem put_f (n : Nd) (is : List Int) (t : List Nd) (ht : t.length ≤ 1000000000) : spec_ruTree_put.f n is t = some ((t.length : Int), ((), t ++ [putN n is])) := by
  have hw : IntKind.wrap .i64 (t.length : Int) = (t.length : Int) := wrap_ok (by omega) (by omega)
  have hr : t.length + 1 ≤ 35184372088832 / (40 + 1) := by omega
  rw [spec_ruTree_put.eq]
  match is with
  | [] => simp [br, gt, putN, hr, hw]
  | [a] => simp [br, gt, putN, hr, hw]
  | a :: b :: r =>
    have h1 : ((r.length : Int) + 1 + 1 > 0) := by omega
    have h2 : ((r.length : Int) + 1 + 1 > 1) := by omega
    simp [br, gt, putN, hr, hw, h1, h2]
theorem exParts_in {e : List Nd} (hn : nodesOk e 0 = true) {i : Nat} (hi : i < e.length) : ∀ p ∈ partsOf e[i], 0 ≤ p ∧ p < i := by
  have := nodesOk_get e 0 hn i hi
  rw [Nat.zero_add] at this
  exact nodeOk_parts this
/-- the rounds over the parts -/
theorem copied_parts (e : List Nd) {i : Nat} (hi : i < e.length) (w : Int → Nat → List Nd) {m : Nat} (hm : ∀ p b, (w p b).length ≤ m) (hF : ∀ p ∈ partsOf e[i], ∀ t : List Nd, t.length + m * 4 + 4 ≤ 1000000000 → Ew (fun d k => spec_ruTree_copied.F d k e p t) (((t.length + (w p t.length).length : Nat) : Int) - 1, ((), t ++ w p t.length))) :
    ∀ (r j : Nat) (t : List Nd) (is : List Int), j + r = (partsOf e[i]).length → t.length + m * (r + 4) + 4 ≤ 1000000000 → is.length ≤ j →
      Ew (fun d k => spec_ruTree_copied.l0 d k e (i : Int) (partsOf e[i]) ((partsOf e[i]).length : Int) (j : Int) t is) (((t.length + (wkP w ((partsOf e[i]).drop j) t.length).1.length : Nat) : Int), ((), t ++ (wkP w ((partsOf e[i]).drop j) t.length).1 ++ [putN e[i] (is ++ (wkP w ((partsOf e[i]).drop j) t.length).2)])) := by
  intro r
  induction r with
  | zero =>
    intro j t is hj ht his
    rw [List.drop_eq_nil_of_le (by omega)]
    refine Ew.step (fun d k => spec_ruTree_copied.l0_eq d k _ _ _ _ _ _ _) (Ew.neg (by simp; omega) (Ew.pos (by simp) (Ew.get hi (Ew.here (put_f _ _ _ (by omega)) (Ew.ret ?_)))))
    simp [wkP]
  | succ r ih =>
    intro j t is hj ht his
    have hlt : j < (partsOf e[i]).length := by omega
    have h2 := parts_le e[i]
    have hw := hm (partsOf e[i])[j] t.length
    have e1 : m * (r + 1 + 4) = m * (r + 4) + m := by rw [show r + 1 + 4 = (r + 4) + 1 by omega, Nat.mul_add, Nat.mul_one]
    have e2 : m * 4 ≤ m * (r + 1 + 4) := Nat.mul_le_mul_left _ (by omega)
    refine Ew.step (fun d k => spec_ruTree_copied.l0_eq d k _ _ _ _ _ _ _) (Ew.pos (by simpa using hlt) (Ew.pos (by simp) (Ew.get hlt (Ew.bind (hF _ (List.getElem_mem hlt) t (by omega)) (Ew.pos (by simp; omega) ?_)))))
    rw [next_ok j _ hlt (by omega)]
    refine Ew.eq (ih (j + 1) (t ++ w (partsOf e[i])[j] t.length) (is ++ [((t.length + (w (partsOf e[i])[j] t.length).length : Nat) : Int) - 1]) (by omega) (by rw [List.length_append]; omega) (by simp; omega)) ?_
    rw [drop_at _ _ hlt]
    simp only [wkP, List.length_append]
    simp [List.append_assoc, Nat.add_assoc]
theorem copied_ev (e : List Nd) (hn : nodesOk e 0 = true) : ∀ (f : Nat) (i : Nat) (t : List Nd), i < e.length → i < f → f ≤ 25 → t.length + 2 ^ f * 4 ≤ 1000000000 → Ew (fun d k => spec_ruTree_copied.F d k e (i : Int) t) (((t.length + (wk e f i t.length).length : Nat) : Int) - 1, ((), t ++ wk e f i t.length))
  | 0, i, t, hi, hf, _, _ => by omega
  | f + 1, i, t, hi, hf, h25, ht => by
    have hin := exParts_in hn hi
    have h2 := parts_le e[i]
    have hp : 1 ≤ 2 ^ f := Nat.one_le_two_pow
    rw [Nat.pow_succ] at ht
    refine Ew.deep (fun d k => spec_ruTree_copied.eq d k _ _ _) (Ew.pos (by simp) (Ew.get hi (Ew.bind (exParts_ev e[i]).ew ?_)))
    refine Ew.eq (copied_parts e hi (wk e f) (m := 2 ^ f - 1) (fun p b => by have := wk_len e f p b; omega) (fun p hp t' ht' => ?_) (partsOf e[i]).length 0 t [] (by omega) (by
      have : (2 ^ f - 1) * ((partsOf e[i]).length + 4) ≤ (2 ^ f - 1) * 6 := Nat.mul_le_mul_left _ (by omega)
      omega) (by simp)) ?_
    · obtain ⟨h0, h1⟩ := hin p hp
      obtain ⟨q, rfl⟩ := Int.eq_ofNat_of_zero_le h0
      have hq : q < i := by omega
      exact copied_ev e hn f q t' (by omega) (by omega) (by omega) (by omega)
    · rw [List.drop_zero]
      simp only [wk, Int.toNat_natCast, List.getElem?_eq_getElem hi, List.nil_append, List.length_append, List.length_cons, List.length_nil, List.append_assoc]
      simp
      omega
theorem copiedN_parts (e : List Nd) {i : Nat} (hi : i < e.length) (w : Int → Nat → List Nd) {m : Nat} (hm : ∀ p b, (w p b).length ≤ m) (hF : ∀ p ∈ partsOf e[i], ∀ t : List Nd, t.length + m * 4 + 4 ≤ 1000000000 → Ev (fun k => spec_ruTree_copied.f k e p t) (((t.length + (w p t.length).length : Nat) : Int) - 1, ((), t ++ w p t.length))) :
    ∀ (r j : Nat) (t : List Nd) (is : List Int), j + r = (partsOf e[i]).length → t.length + m * (r + 4) + 4 ≤ 1000000000 → is.length ≤ j →
      Ev (fun k => spec_ruTree_copied_nil.l0 k e (i : Int) (partsOf e[i]) ((partsOf e[i]).length : Int) (j : Int) t is) (((t.length + (wkP w ((partsOf e[i]).drop j) t.length).1.length : Nat) : Int), ((), t ++ (wkP w ((partsOf e[i]).drop j) t.length).1 ++ [putN e[i] (is ++ (wkP w ((partsOf e[i]).drop j) t.length).2)])) := by
  intro r
  induction r with
  | zero =>
    intro j t is hj ht his
    rw [List.drop_eq_nil_of_le (by omega)]
    refine Ev.step (fun k => spec_ruTree_copied_nil.l0_eq k _ _ _ _ _ _ _) (Ev.neg (by simp; omega) (Ev.pos (by simp) (Ev.get hi (Ev.here (put_f _ _ _ (by omega)) (Ev.ret ?_)))))
    simp [wkP]
  | succ r ih =>
    intro j t is hj ht his
    have hlt : j < (partsOf e[i]).length := by omega
    have h2 := parts_le e[i]
    have hw := hm (partsOf e[i])[j] t.length
    have e1 : m * (r + 1 + 4) = m * (r + 4) + m := by rw [show r + 1 + 4 = (r + 4) + 1 by omega, Nat.mul_add, Nat.mul_one]
    have e2 : m * 4 ≤ m * (r + 1 + 4) := Nat.mul_le_mul_left _ (by omega)
    refine Ev.step (fun k => spec_ruTree_copied_nil.l0_eq k _ _ _ _ _ _ _) (Ev.pos (by simpa using hlt) (Ev.pos (by simp) (Ev.get hlt (Ev.bind (hF _ (List.getElem_mem hlt) t (by omega)) (Ev.pos (by simp; omega) ?_)))))
    rw [next_ok j _ hlt (by omega)]
    refine Ev.eq (ih (j + 1) (t ++ w (partsOf e[i])[j] t.length) (is ++ [((t.length + (w (partsOf e[i])[j] t.length).length : Nat) : Int) - 1]) (by omega) (by rw [List.length_append]; omega) (by simp; omega)) ?_
    rw [drop_at _ _ hlt]
    simp only [wkP, List.length_append]
    simp [List.append_assoc, Nat.add_assoc]
theorem ruWalk_gen (e : List Nd) (hn : nodesOk e 0 = true) {i : Nat} (hi : i < e.length) {g f : Nat} (hg : g = f + 1) (hif : i ≤ f) (hf : f ≤ 25) (hb : 2 ^ f * 6 ≤ 1000000000) : Ev (fun k => spec_ruWalk.f k e (i : Int)) (wk e g i 0) := by
  refine Ev.step (fun k => spec_ruWalk.eq k e i) (Ev.bind (b := ((((wk e g i 0).length : Nat) : Int) - 1, ((), wk e g i 0))) ?_ (Ev.now _))
  have hin := exParts_in hn hi
  have h2 := parts_le e[i]
  have hp1 : 1 ≤ 2 ^ f := Nat.one_le_two_pow
  refine Ev.step (fun k => spec_ruTree_copied_nil.eq k _ _) (Ev.pos (by simp) (Ev.get hi (Ev.bind (exParts_ev e[i]) ?_)))
  refine Ev.eq (copiedN_parts e hi (wk e f) (m := 2 ^ f - 1) (fun p b => by have := wk_len e f p b; omega) (fun p hp t' ht' => ?_) (partsOf e[i]).length 0 [] [] (by omega) (by
    have : (2 ^ f - 1) * ((partsOf e[i]).length + 4) ≤ (2 ^ f - 1) * 6 := Nat.mul_le_mul_left _ (by omega)
    simp only [List.length_nil]
    omega) (by simp)) ?_
  · obtain ⟨h0, h1⟩ := hin p hp
    obtain ⟨q, rfl⟩ := Int.eq_ofNat_of_zero_le h0
    have hq : q < i := by omega
    exact (copied_ev e hn f q t' (by omega) (by omega) (by omega) (by omega)).ev
  · rw [List.drop_zero]
    rw [wk_at' hi hg 0]
    simp only [List.length_nil, List.nil_append]
    generalize wkP (wk e f) (partsOf e[i]) 0 = q
    simp
theorem ruWalk_ev (e : List Nd) (hn : nodesOk e 0 = true) (h24 : e.length ≤ 24) {i : Nat} (hi : i < e.length) : Ev (fun k => spec_ruWalk.f k e (i : Int)) (wk e 25 i 0) :=
  ruWalk_gen e hn hi (g := 25) (f := 24) rfl (by omega) (by omega) (by decide)
end Go.Proofs.Ytohfaccniialmaa.Am
end
section
/- A subtree, copied behind other nodes: what the program's copy answers, as long as it does not grow beyond 24 nodes. -/
namespace Go.Proofs.Ytohfaccniialmaa.Am
open Go
set_option linter.unusedVariables false
set_option linter.unusedSimpArgs false

/-- the rounds over the parts, none of which grows beyond the bound -/
theorem grow_parts (e : List Nd) {i : Nat} (hi : i < e.length) (w : Int → Nat → List Nd) (hF : ∀ p ∈ partsOf e[i], ∀ t : List Nd, t.length + (w p t.length).length ≤ 24 → Ew (fun d k => impl_grow.F d k e p t) ((), t ++ w p t.length)) :
    ∀ (r j : Nat) (t : List Nd) (is : List Int), j + r = (partsOf e[i]).length → is.length = j → t.length + (wkP w ((partsOf e[i]).drop j) t.length).1.length + 1 ≤ 24 →
      Ew (fun d k => impl_grow.l0 d k e (partsOf e[i]) ((partsOf e[i]).length : Int) (j : Int) t e[i].1 e[i].2.1 e[i].2.2.1 e[i].2.2.2 (is ++ List.replicate (2 - j) 0)) ((), t ++ (wkP w ((partsOf e[i]).drop j) t.length).1 ++ [putN e[i] (is ++ (wkP w ((partsOf e[i]).drop j) t.length).2)]) := by
  have h2 := parts_le e[i]
  intro r
  induction r with
  | zero =>
    intro j t is hj his ht
    rw [List.drop_eq_nil_of_le (by omega)] at ht ⊢
    have hl2 : (is ++ List.replicate (2 - j) 0).length = 2 := by simp; omega
    have g0 : (is ++ List.replicate (2 - j) (0 : Int))[0]? = some (is.getD 0 0) := by
      match is, j, his with
      | [], 0, _ => rfl
      | a :: q, _, _ => rfl
    have g1 : (is ++ List.replicate (2 - j) (0 : Int))[1]? = some (is.getD 1 0) := by
      match is, j, his with
      | [], 0, _ => rfl
      | [a], 1, _ => rfl
      | a :: b :: q, _, _ => rfl
    refine Ew.step (fun d k => impl_grow.l0_eq d k _ _ _ _ _ _ _ _ _ _) (Ew.neg (by simp; omega) (Ew.pos (by rw [hl2]; decide) (Ew.at g0 (Ew.pos (by rw [hl2]; decide) (Ew.at g1 (Ew.pos (by simp; omega) (Ew.ret ?_)))))))
    simp [wkP, putN]
  | succ r ih =>
    intro j t is hj his ht
    have hlt : j < (partsOf e[i]).length := by omega
    rw [drop_at _ _ hlt] at ht ⊢
    simp only [wkP, List.length_append] at ht ⊢
    have hl2 : (is ++ List.replicate (2 - j) (0 : Int)).length = 2 := by simp; omega
    have hj2 : j < (is ++ List.replicate (2 - j) (0 : Int)).length := by omega
    refine Ew.step (fun d k => impl_grow.l0_eq d k _ _ _ _ _ _ _ _ _ _) (Ew.pos (by simpa using hlt) (Ew.pos (by simp) (Ew.get hlt (Ew.bind (hF _ (List.getElem_mem hlt) t (by omega)) (Ew.neg (by simp; omega) (Ew.pos (by simp) (Ew.pos (by rw [hl2]; simp; omega) (Ew.get hj2 ?_))))))))
    rw [next_ok j _ hlt (by omega), Int.toNat_natCast]
    have hset : (is ++ List.replicate (2 - j) (0 : Int)).set j (IntKind.wrap .i64 (((t ++ w (partsOf e[i])[j] t.length).length : Int) - 1)) = (is ++ [((t.length + (w (partsOf e[i])[j] t.length).length : Nat) : Int) - 1]) ++ List.replicate (2 - (j + 1)) 0 := by
      rw [wrap_ok (by simp; omega) (by simp; omega), List.set_append_right j _ (by omega), show j - is.length = 0 by omega, show 2 - j = (2 - (j + 1)) + 1 by omega, List.replicate_succ, List.set_cons_zero]
      simp
    rw [hset]
    refine Ew.eq (ih (j + 1) (t ++ w (partsOf e[i])[j] t.length) _ (by omega) (by simp; omega) (by rw [List.length_append]; omega)) ?_
    rw [List.length_append]
    simp [List.append_assoc]
theorem grow_fit (e : List Nd) (hn : nodesOk e 0 = true) : ∀ (f i : Nat) (t : List Nd), i < e.length → i < f → t.length + (wk e f i t.length).length ≤ 24 → Ew (fun d k => impl_grow.F d k e (i : Int) t) ((), t ++ wk e f i t.length)
  | 0, i, t, hi, hf, _ => by omega
  | f + 1, i, t, hi, hf, ht => by
    have hin := exParts_in hn hi
    rw [wk_at hi] at ht ⊢
    rw [List.length_append] at ht
    refine Ew.deep (fun d k => impl_grow.eq d k _ _ _) (Ew.pos (by simp) (Ew.get hi (Ew.bind (of_ev e[i]).ew ?_)))
    have := grow_parts e hi (wk e f) (fun p hp t' ht' => by
      obtain ⟨h0, h1⟩ := hin p hp
      obtain ⟨q, rfl⟩ := Int.eq_ofNat_of_zero_le h0
      exact grow_fit e hn f q t' (by omega) (by omega) ht') (partsOf e[i]).length 0 t [] (by omega) rfl (by rw [List.drop_zero]; simpa [Nat.add_assoc] using ht)
    rw [List.drop_zero] at this
    simpa [List.append_assoc] using this
/-- the rounds over the parts, one of which grows beyond the bound -/
theorem grow_parts_over (e : List Nd) {i : Nat} (hi : i < e.length) (w : Int → Nat → List Nd) (hF : ∀ p ∈ partsOf e[i], ∀ t : List Nd, t.length + (w p t.length).length ≤ 24 → Ew (fun d k => impl_grow.F d k e p t) ((), t ++ w p t.length))
    (hO : ∀ p ∈ partsOf e[i], ∀ t : List Nd, t.length ≤ 24 → 24 < t.length + (w p t.length).length → ∃ t', 24 < t'.length ∧ Ew (fun d k => impl_grow.F d k e p t) ((), t')) :
    ∀ (r j : Nat) (t : List Nd) (is : List Int), j + r = (partsOf e[i]).length → is.length = j → t.length ≤ 24 → 24 < t.length + (wkP w ((partsOf e[i]).drop j) t.length).1.length + 1 →
      ∃ t', 24 < t'.length ∧ Ew (fun d k => impl_grow.l0 d k e (partsOf e[i]) ((partsOf e[i]).length : Int) (j : Int) t e[i].1 e[i].2.1 e[i].2.2.1 e[i].2.2.2 (is ++ List.replicate (2 - j) 0)) ((), t') := by
  have h2 := parts_le e[i]
  intro r
  induction r with
  | zero =>
    intro j t is hj his h24 ht
    rw [List.drop_eq_nil_of_le (by omega)] at ht
    simp only [wkP, List.length_nil] at ht
    have hl2 : (is ++ List.replicate (2 - j) 0).length = 2 := by simp; omega
    have g0 : (is ++ List.replicate (2 - j) (0 : Int))[0]? = some (is.getD 0 0) := by
      match is, j, his with
      | [], 0, _ => rfl
      | a :: q, _, _ => rfl
    have g1 : (is ++ List.replicate (2 - j) (0 : Int))[1]? = some (is.getD 1 0) := by
      match is, j, his with
      | [], 0, _ => rfl
      | [a], 1, _ => rfl
      | a :: b :: q, _, _ => rfl
    refine ⟨t ++ [putN e[i] is], by rw [List.length_append]; simp; omega, Ew.step (fun d k => impl_grow.l0_eq d k _ _ _ _ _ _ _ _ _ _) (Ew.neg (by simp; omega) (Ew.pos (by rw [hl2]; decide) (Ew.at g0 (Ew.pos (by rw [hl2]; decide) (Ew.at g1 (Ew.pos (by simp; omega) (Ew.ret ?_)))))))⟩
    simp [putN]
  | succ r ih =>
    intro j t is hj his h24 ht
    have hlt : j < (partsOf e[i]).length := by omega
    rw [drop_at _ _ hlt] at ht
    simp only [wkP, List.length_append] at ht
    have hl2 : (is ++ List.replicate (2 - j) (0 : Int)).length = 2 := by simp; omega
    have hj2 : j < (is ++ List.replicate (2 - j) (0 : Int)).length := by omega
    by_cases hc : t.length + (w (partsOf e[i])[j] t.length).length ≤ 24
    · obtain ⟨t', h1, h3⟩ := ih (j + 1) (t ++ w (partsOf e[i])[j] t.length) (is ++ [((t.length + (w (partsOf e[i])[j] t.length).length : Nat) : Int) - 1]) (by omega) (by simp; omega) (by rw [List.length_append]; exact hc) (by rw [List.length_append]; omega)
      refine ⟨t', h1, Ew.step (fun d k => impl_grow.l0_eq d k _ _ _ _ _ _ _ _ _ _) (Ew.pos (by simpa using hlt) (Ew.pos (by simp) (Ew.get hlt (Ew.bind (hF _ (List.getElem_mem hlt) t hc) (Ew.neg (by simp; omega) (Ew.pos (by simp) (Ew.pos (by rw [hl2]; simp; omega) (Ew.get hj2 ?_))))))))⟩
      rw [next_ok j _ hlt (by omega), Int.toNat_natCast]
      by_cases h0 : (t ++ w (partsOf e[i])[j] t.length).length = 0
      · have hset : (is ++ List.replicate (2 - j) (0 : Int)).set j (IntKind.wrap .i64 (((t ++ w (partsOf e[i])[j] t.length).length : Int) - 1)) = (is ++ [((t.length + (w (partsOf e[i])[j] t.length).length : Nat) : Int) - 1]) ++ List.replicate (2 - (j + 1)) 0 := by
          rw [wrap_ok (by simp; omega) (by simp; omega), List.set_append_right j _ (by omega), show j - is.length = 0 by omega, show 2 - j = (2 - (j + 1)) + 1 by omega, List.replicate_succ, List.set_cons_zero]
          simp
        rw [hset]
        exact h3
      · have hset : (is ++ List.replicate (2 - j) (0 : Int)).set j (IntKind.wrap .i64 (((t ++ w (partsOf e[i])[j] t.length).length : Int) - 1)) = (is ++ [((t.length + (w (partsOf e[i])[j] t.length).length : Nat) : Int) - 1]) ++ List.replicate (2 - (j + 1)) 0 := by
          rw [wrap_ok (by simp; omega) (by simp; omega), List.set_append_right j _ (by omega), show j - is.length = 0 by omega, show 2 - j = (2 - (j + 1)) + 1 by omega, List.replicate_succ, List.set_cons_zero]
          simp
        rw [hset]
        exact h3
    · obtain ⟨t', h1, h3⟩ := hO _ (List.getElem_mem hlt) t h24 (by omega)
      exact ⟨t', h1, Ew.step (fun d k => impl_grow.l0_eq d k _ _ _ _ _ _ _ _ _ _) (Ew.pos (by simpa using hlt) (Ew.pos (by simp) (Ew.get hlt (Ew.bind h3 (Ew.pos (by simp; omega) (Ew.now _))))))⟩
theorem grow_over (e : List Nd) (hn : nodesOk e 0 = true) : ∀ (f i : Nat) (t : List Nd), i < e.length → i < f → t.length ≤ 24 → 24 < t.length + (wk e f i t.length).length → ∃ t', 24 < t'.length ∧ Ew (fun d k => impl_grow.F d k e (i : Int) t) ((), t')
  | 0, i, t, hi, hf, _, _ => by omega
  | f + 1, i, t, hi, hf, h24, ht => by
    have hin := exParts_in hn hi
    rw [wk_at hi, List.length_append] at ht
    obtain ⟨t', h1, h3⟩ := grow_parts_over e hi (wk e f) (fun p hp t' ht' => by
      obtain ⟨h0, h1⟩ := hin p hp
      obtain ⟨q, rfl⟩ := Int.eq_ofNat_of_zero_le h0
      exact grow_fit e hn f q t' (by omega) (by omega) ht') (fun p hp t' h24' ht' => by
      obtain ⟨h0, h1⟩ := hin p hp
      obtain ⟨q, rfl⟩ := Int.eq_ofNat_of_zero_le h0
      exact grow_over e hn f q t' (by omega) (by omega) h24' ht') (partsOf e[i]).length 0 t [] (by omega) rfl h24 (by rw [List.drop_zero]; simpa [Nat.add_assoc] using ht)
    refine ⟨t', h1, Ew.deep (fun d k => impl_grow.eq d k _ _ _) (Ew.pos (by simp) (Ew.get hi (Ew.bind (of_ev e[i]).ew ?_)))⟩
    simpa using h3
/-- the rounds over the parts, none of which grows beyond the bound -/
theorem growN_parts (e : List Nd) {i : Nat} (hi : i < e.length) (w : Int → Nat → List Nd) (hF : ∀ p ∈ partsOf e[i], ∀ t : List Nd, t.length + (w p t.length).length ≤ 24 → Ev (fun k => impl_grow.f k e p t) ((), t ++ w p t.length)) :
    ∀ (r j : Nat) (t : List Nd) (is : List Int), j + r = (partsOf e[i]).length → is.length = j → t.length + (wkP w ((partsOf e[i]).drop j) t.length).1.length + 1 ≤ 24 →
      Ev (fun k => impl_grow_nil.l0 k e (partsOf e[i]) ((partsOf e[i]).length : Int) (j : Int) t e[i].1 e[i].2.1 e[i].2.2.1 e[i].2.2.2 (is ++ List.replicate (2 - j) 0)) (t ++ (wkP w ((partsOf e[i]).drop j) t.length).1 ++ [putN e[i] (is ++ (wkP w ((partsOf e[i]).drop j) t.length).2)], ()) := by
  have h2 := parts_le e[i]
  intro r
  induction r with
  | zero =>
    intro j t is hj his ht
    rw [List.drop_eq_nil_of_le (by omega)] at ht ⊢
    have hl2 : (is ++ List.replicate (2 - j) 0).length = 2 := by simp; omega
    have g0 : (is ++ List.replicate (2 - j) (0 : Int))[0]? = some (is.getD 0 0) := by
      match is, j, his with
      | [], 0, _ => rfl
      | a :: q, _, _ => rfl
    have g1 : (is ++ List.replicate (2 - j) (0 : Int))[1]? = some (is.getD 1 0) := by
      match is, j, his with
      | [], 0, _ => rfl
      | [a], 1, _ => rfl
      | a :: b :: q, _, _ => rfl
    refine Ev.step (fun k => impl_grow_nil.l0_eq k _ _ _ _ _ _ _ _ _ _) (Ev.neg (by simp; omega) (Ev.pos (by rw [hl2]; decide) (Ev.at g0 (Ev.pos (by rw [hl2]; decide) (Ev.at g1 (Ev.pos (by simp; omega) (Ev.ret ?_)))))))
    simp [wkP, putN]
  | succ r ih =>
    intro j t is hj his ht
    have hlt : j < (partsOf e[i]).length := by omega
    rw [drop_at _ _ hlt] at ht ⊢
    simp only [wkP, List.length_append] at ht ⊢
    have hl2 : (is ++ List.replicate (2 - j) (0 : Int)).length = 2 := by simp; omega
    have hj2 : j < (is ++ List.replicate (2 - j) (0 : Int)).length := by omega
    refine Ev.step (fun k => impl_grow_nil.l0_eq k _ _ _ _ _ _ _ _ _ _) (Ev.pos (by simpa using hlt) (Ev.pos (by simp) (Ev.get hlt (Ev.bind (hF _ (List.getElem_mem hlt) t (by omega)) (Ev.neg (by simp; omega) (Ev.pos (by simp) (Ev.pos (by rw [hl2]; simp; omega) (Ev.get hj2 ?_))))))))
    rw [next_ok j _ hlt (by omega), Int.toNat_natCast]
    have hset : (is ++ List.replicate (2 - j) (0 : Int)).set j (IntKind.wrap .i64 (((t ++ w (partsOf e[i])[j] t.length).length : Int) - 1)) = (is ++ [((t.length + (w (partsOf e[i])[j] t.length).length : Nat) : Int) - 1]) ++ List.replicate (2 - (j + 1)) 0 := by
      rw [wrap_ok (by simp; omega) (by simp; omega), List.set_append_right j _ (by omega), show j - is.length = 0 by omega, show 2 - j = (2 - (j + 1)) + 1 by omega, List.replicate_succ, List.set_cons_zero]
      simp
    rw [hset]
    refine Ev.eq (ih (j + 1) (t ++ w (partsOf e[i])[j] t.length) _ (by omega) (by simp; omega) (by rw [List.length_append]; omega)) ?_
    rw [List.length_append]
    simp [List.append_assoc]
/-- the rounds over the parts, one of which grows beyond the bound -/
theorem growN_parts_over (e : List Nd) {i : Nat} (hi : i < e.length) (w : Int → Nat → List Nd) (hF : ∀ p ∈ partsOf e[i], ∀ t : List Nd, t.length + (w p t.length).length ≤ 24 → Ev (fun k => impl_grow.f k e p t) ((), t ++ w p t.length))
    (hO : ∀ p ∈ partsOf e[i], ∀ t : List Nd, t.length ≤ 24 → 24 < t.length + (w p t.length).length → ∃ t', 24 < t'.length ∧ Ev (fun k => impl_grow.f k e p t) ((), t')) :
    ∀ (r j : Nat) (t : List Nd) (is : List Int), j + r = (partsOf e[i]).length → is.length = j → t.length ≤ 24 → 24 < t.length + (wkP w ((partsOf e[i]).drop j) t.length).1.length + 1 →
      ∃ t', 24 < t'.length ∧ Ev (fun k => impl_grow_nil.l0 k e (partsOf e[i]) ((partsOf e[i]).length : Int) (j : Int) t e[i].1 e[i].2.1 e[i].2.2.1 e[i].2.2.2 (is ++ List.replicate (2 - j) 0)) (t', ()) := by
  have h2 := parts_le e[i]
  intro r
  induction r with
  | zero =>
    intro j t is hj his h24 ht
    rw [List.drop_eq_nil_of_le (by omega)] at ht
    simp only [wkP, List.length_nil] at ht
    have hl2 : (is ++ List.replicate (2 - j) 0).length = 2 := by simp; omega
    have g0 : (is ++ List.replicate (2 - j) (0 : Int))[0]? = some (is.getD 0 0) := by
      match is, j, his with
      | [], 0, _ => rfl
      | a :: q, _, _ => rfl
    have g1 : (is ++ List.replicate (2 - j) (0 : Int))[1]? = some (is.getD 1 0) := by
      match is, j, his with
      | [], 0, _ => rfl
      | [a], 1, _ => rfl
      | a :: b :: q, _, _ => rfl
    refine ⟨t ++ [putN e[i] is], by rw [List.length_append]; simp; omega, Ev.step (fun k => impl_grow_nil.l0_eq k _ _ _ _ _ _ _ _ _ _) (Ev.neg (by simp; omega) (Ev.pos (by rw [hl2]; decide) (Ev.at g0 (Ev.pos (by rw [hl2]; decide) (Ev.at g1 (Ev.pos (by simp; omega) (Ev.ret ?_)))))))⟩
    simp [putN]
  | succ r ih =>
    intro j t is hj his h24 ht
    have hlt : j < (partsOf e[i]).length := by omega
    rw [drop_at _ _ hlt] at ht
    simp only [wkP, List.length_append] at ht
    have hl2 : (is ++ List.replicate (2 - j) (0 : Int)).length = 2 := by simp; omega
    have hj2 : j < (is ++ List.replicate (2 - j) (0 : Int)).length := by omega
    by_cases hc : t.length + (w (partsOf e[i])[j] t.length).length ≤ 24
    · obtain ⟨t', h1, h3⟩ := ih (j + 1) (t ++ w (partsOf e[i])[j] t.length) (is ++ [((t.length + (w (partsOf e[i])[j] t.length).length : Nat) : Int) - 1]) (by omega) (by simp; omega) (by rw [List.length_append]; exact hc) (by rw [List.length_append]; omega)
      refine ⟨t', h1, Ev.step (fun k => impl_grow_nil.l0_eq k _ _ _ _ _ _ _ _ _ _) (Ev.pos (by simpa using hlt) (Ev.pos (by simp) (Ev.get hlt (Ev.bind (hF _ (List.getElem_mem hlt) t hc) (Ev.neg (by simp; omega) (Ev.pos (by simp) (Ev.pos (by rw [hl2]; simp; omega) (Ev.get hj2 ?_))))))))⟩
      rw [next_ok j _ hlt (by omega), Int.toNat_natCast]
      by_cases h0 : (t ++ w (partsOf e[i])[j] t.length).length = 0
      · have hset : (is ++ List.replicate (2 - j) (0 : Int)).set j (IntKind.wrap .i64 (((t ++ w (partsOf e[i])[j] t.length).length : Int) - 1)) = (is ++ [((t.length + (w (partsOf e[i])[j] t.length).length : Nat) : Int) - 1]) ++ List.replicate (2 - (j + 1)) 0 := by
          rw [wrap_ok (by simp; omega) (by simp; omega), List.set_append_right j _ (by omega), show j - is.length = 0 by omega, show 2 - j = (2 - (j + 1)) + 1 by omega, List.replicate_succ, List.set_cons_zero]
          simp
        rw [hset]
        exact h3
      · have hset : (is ++ List.replicate (2 - j) (0 : Int)).set j (IntKind.wrap .i64 (((t ++ w (partsOf e[i])[j] t.length).length : Int) - 1)) = (is ++ [((t.length + (w (partsOf e[i])[j] t.length).length : Nat) : Int) - 1]) ++ List.replicate (2 - (j + 1)) 0 := by
          rw [wrap_ok (by simp; omega) (by simp; omega), List.set_append_right j _ (by omega), show j - is.length = 0 by omega, show 2 - j = (2 - (j + 1)) + 1 by omega, List.replicate_succ, List.set_cons_zero]
          simp
        rw [hset]
        exact h3
    · obtain ⟨t', h1, h3⟩ := hO _ (List.getElem_mem hlt) t h24 (by omega)
      exact ⟨t', h1, Ev.step (fun k => impl_grow_nil.l0_eq k _ _ _ _ _ _ _ _ _ _) (Ev.pos (by simpa using hlt) (Ev.pos (by simp) (Ev.get hlt (Ev.bind h3 (Ev.pos (by simp; omega) (Ev.now _))))))⟩
theorem growN_fit (e : List Nd) (hn : nodesOk e 0 = true) {i : Nat} (hi : i < e.length) {g f : Nat} (hg : g = f + 1) (hif : i ≤ f) (ht : (wk e g i 0).length ≤ 24) : Ev (fun k => impl_grow_nil.f k e (i : Int)) (wk e g i 0, ()) := by
  have hin := exParts_in hn hi
  rw [wk_at' hi hg] at ht ⊢
  rw [List.length_append] at ht
  refine Ev.step (fun k => impl_grow_nil.eq k _ _) (Ev.pos (by simp) (Ev.get hi (Ev.bind (of_ev e[i]) ?_)))
  have := growN_parts e hi (wk e f) (fun p hp t' ht' => by
    obtain ⟨h0, h1⟩ := hin p hp
    obtain ⟨q, rfl⟩ := Int.eq_ofNat_of_zero_le h0
    exact (grow_fit e hn f q t' (by omega) (by omega) ht').ev) (partsOf e[i]).length 0 [] [] (by omega) rfl (by rw [List.drop_zero]; simpa using ht)
  rw [List.drop_zero] at this
  simpa using this
theorem growN_over (e : List Nd) (hn : nodesOk e 0 = true) {i : Nat} (hi : i < e.length) {g f : Nat} (hg : g = f + 1) (hif : i ≤ f) (ht : 24 < (wk e g i 0).length) : ∃ t', 24 < t'.length ∧ Ev (fun k => impl_grow_nil.f k e (i : Int)) (t', ()) := by
  have hin := exParts_in hn hi
  rw [wk_at' hi hg, List.length_append] at ht
  obtain ⟨t', h1, h3⟩ := growN_parts_over e hi (wk e f) (fun p hp t' ht' => by
    obtain ⟨h0, h1⟩ := hin p hp
    obtain ⟨q, rfl⟩ := Int.eq_ofNat_of_zero_le h0
    exact (grow_fit e hn f q t' (by omega) (by omega) ht').ev) (fun p hp t' h24' ht' => by
    obtain ⟨h0, h1⟩ := hin p hp
    obtain ⟨q, rfl⟩ := Int.eq_ofNat_of_zero_le h0
    obtain ⟨u, h2, h4⟩ := grow_over e hn f q t' (by omega) (by omega) h24' ht'
    exact ⟨u, h2, h4.ev⟩) (partsOf e[i]).length 0 [] [] (by omega) rfl (by simp) (by rw [List.drop_zero]; simpa using ht)
  refine ⟨t', h1, Ev.step (fun k => impl_grow_nil.eq k _ _) (Ev.pos (by simp) (Ev.get hi (Ev.bind (of_ev e[i]) ?_)))⟩
  simpa using h3
end Go.Proofs.Ytohfaccniialmaa.Am
end
section
/- When an expression is written as its walk: the program's function and the reference's. -/
namespace Go.Proofs.Ytohfaccniialmaa.Am
open Go
set_option linter.unusedVariables false
set_option linter.unusedSimpArgs false

def nodeEq (a b : Nd) : Bool := (a.1 == b.1) && ((a.2.1 == b.2.1) && ((a.2.2.1 == b.2.2.1) && ((a.2.2.2 == b.2.2.2) && true)))
theorem nodeEq_iff {a b : Nd} : nodeEq a b = true ↔ a = b := by
  obtain ⟨a0, a1, a2, a3⟩ := a
  obtain ⟨b0, b1, b2, b3⟩ := b
  have hb : (a0 == b0) = true ↔ a0 = b0 := by
    obtain ⟨p⟩ := a0
    obtain ⟨q⟩ := b0
    have : ((⟨p⟩ : ByteArray) == ⟨q⟩) = (p == q) := rfl
    rw [this, beq_iff_eq]
    simp
  simp only [nodeEq, Bool.and_eq_true, Bool.and_true, beq_iff_eq, hb, Prod.mk.injEq]
theorem cons_dec {a b : Nd} {r q : List Nd} (h : a = b) : decide (a :: r = b :: q) = decide (r = q) := by subst h; simp
theorem ruSame_ev (xs ys : List Nd) (hx : xs.length ≤ 1048576000000) : Ev (fun k => spec_ruSame.f k xs ys) (decide (xs = ys)) := by
  refine Ev.step (fun k => spec_ruSame.eq k xs ys) ?_
  by_cases hl : xs.length = ys.length
  · refine Ev.neg (by simp [hl]) ?_
    have key := Ev.loop xs.length (fun k i => spec_ruSame.l0 k ys xs (xs.length : Int) (i : Int)) (fun i => decide (xs.drop i = ys.drop i)) ?_ ?_ 0 (by omega)
    · exact key
    · exact Ev.step (fun k => spec_ruSame.l0_eq k _ _ _ _) (Ev.neg (by simp) (Ev.ret (by rw [List.drop_eq_nil_of_le (by omega), List.drop_eq_nil_of_le (by omega)]; simp)))
    · intro i hi ih
      have hi' : i < ys.length := by omega
      refine Ev.step (fun k => spec_ruSame.l0_eq k _ _ _ _) (Ev.pos (by simpa using hi) (Ev.pos (by simp) (Ev.get hi (Ev.pos (by simp) (Ev.get hi' ?_)))))
      rw [next_ok i _ hi (by omega), drop_at xs i hi, drop_at ys i hi']
      by_cases c : xs[i] = ys[i]
      · exact Ev.neg (by have := nodeEq_iff.2 c; unfold nodeEq at this; rw [this]; rfl) (Ev.eq ih (cons_dec c).symm)
      · have hf : nodeEq xs[i] ys[i] = false := by
          cases h : nodeEq xs[i] ys[i] with
          | false => rfl
          | true => exact absurd (nodeEq_iff.1 h) c
        exact Ev.pos (by unfold nodeEq at hf; rw [hf]; rfl) (Ev.ret (by symm; rw [decide_eq_false_iff_not]; intro e; exact c (List.cons.inj e).1))
  · exact Ev.pos (by simp; omega) (Ev.ret (by symm; simp; intro e; exact hl (by rw [e])))
theorem equalN_ev (xs ys : List Nd) (hx : xs.length ≤ 1048576000000) : Ev (fun k => slices_Equal_Node.f k xs ys) (decide (xs = ys)) := by
  refine Ev.step (fun k => slices_Equal_Node.eq k xs ys) ?_
  by_cases hl : xs.length = ys.length
  · refine Ev.neg (by simp [hl]) ?_
    have key := Ev.loop xs.length (fun k i => slices_Equal_Node.l0 k xs ys (xs.length : Int) (i : Int)) (fun i => decide (xs.drop i = ys.drop i)) ?_ ?_ 0 (by omega)
    · exact key
    · exact Ev.step (fun k => slices_Equal_Node.l0_eq k _ _ _ _) (Ev.neg (by simp) (Ev.ret (by rw [List.drop_eq_nil_of_le (by omega), List.drop_eq_nil_of_le (by omega)]; simp)))
    · intro i hi ih
      have hi' : i < ys.length := by omega
      refine Ev.step (fun k => slices_Equal_Node.l0_eq k _ _ _ _) (Ev.pos (by simpa using hi) (Ev.pos (by simp) (Ev.get hi (Ev.pos (by simp) (Ev.get hi' ?_)))))
      rw [next_ok i _ hi (by omega), drop_at xs i hi, drop_at ys i hi']
      by_cases c : xs[i] = ys[i]
      · exact Ev.neg (by have := nodeEq_iff.2 c; unfold nodeEq at this; rw [this]; rfl) (Ev.eq ih (cons_dec c).symm)
      · have hf : nodeEq xs[i] ys[i] = false := by
          cases h : nodeEq xs[i] ys[i] with
          | false => rfl
          | true => exact absurd (nodeEq_iff.1 h) c
        exact Ev.pos (by unfold nodeEq at hf; rw [hf]; rfl) (Ev.ret (by symm; rw [decide_eq_false_iff_not]; intro e; exact c (List.cons.inj e).1))
  · exact Ev.pos (by simp; omega) (Ev.ret (by symm; simp; intro e; exact hl (by rw [e])))
/-- is an expression a tree that is written as its walk -/
def walked (e : List Nd) : Bool := exprOk e && (once e && decide (wk e 25 ((e.length - 1 : Nat) : Int) 0 = e))
theorem ruWalked_ev (e : List Nd) (hl : e.length ≤ 1048576) : Ev (fun k => spec_ruWalked.f k e) (walked e) := by
  refine Ev.step (fun k => spec_ruWalked.eq k e) (Ev.bind (exGood_ev e hl) ?_)
  unfold walked
  cases hg : exprOk e with
  | false => exact Ev.neg rfl (Ev.ret (by simp))
  | true =>
    obtain ⟨hn, h1, h24⟩ := exprOk_parts hg
    refine Ev.pos rfl (Ev.bind (exTree_ev e hl hg) ?_)
    cases ho : once e with
    | false => exact Ev.neg rfl (Ev.ret (by simp))
    | true =>
      have hw : IntKind.wrap .i64 ((e.length : Int) - 1) = ((e.length - 1 : Nat) : Int) := by rw [wrap_ok (by omega) (by omega)]; omega
      rw [hw]
      have hlen := wk_len e 25 ((e.length - 1 : Nat) : Int) 0
      have h2 : (2 : Nat) ^ 25 = 33554432 := by decide
      rw [h2] at hlen
      exact Ev.pos rfl (Ev.bind (ruWalk_ev e hn h24 (i := e.length - 1) (by omega)) (Ev.bind (ruSame_ev _ _ (by omega)) (Ev.ret (by simp))))
theorem isWalked_ev (e : List Nd) (hl : e.length ≤ 1048576) : Ev (fun k => impl_isWalked.f k e) (walked e) := by
  refine Ev.step (fun k => impl_isWalked.eq k e) (Ev.bind (isTree_ev e hl) ?_)
  unfold walked
  cases hg : exprOk e with
  | false => exact Ev.pos rfl (Ev.ret (by simp))
  | true =>
    obtain ⟨hn, h1, h24⟩ := exprOk_parts hg
    cases ho : once e with
    | false => exact Ev.pos rfl (Ev.ret (by simp))
    | true =>
      refine Ev.neg rfl ?_
      have hw : IntKind.wrap .i64 ((e.length : Int) - 1) = ((e.length - 1 : Nat) : Int) := by rw [wrap_ok (by omega) (by omega)]; omega
      by_cases hc : (wk e 25 ((e.length - 1 : Nat) : Int) 0).length ≤ 24
      · refine Ev.bind (b := (wk e 25 ((e.length - 1 : Nat) : Int) 0, true)) (Ev.step (fun k => impl_ExpandExpr.eq k e) (Ev.bind (isExpr_ev e hl) ?_)) (Ev.bind (equalN_ev _ _ (by simp only; omega)) (Ev.ret (by simp)))
        rw [hg, hw]
        exact Ev.neg rfl (Ev.bind (growN_fit e hn (i := e.length - 1) (by omega) (g := 25) (f := 24) rfl (by omega) hc) (Ev.neg (by simp; omega) (Ev.now _)))
      · obtain ⟨t', h3, h4⟩ := growN_over e hn (i := e.length - 1) (by omega) (g := 25) (f := 24) rfl (by omega) (by omega)
        refine Ev.bind (b := ([], false)) (Ev.step (fun k => impl_ExpandExpr.eq k e) (Ev.bind (isExpr_ev e hl) ?_)) (Ev.bind (equalN_ev _ _ (by simp)) (Ev.ret ?_))
        · rw [hg, hw]
          exact Ev.neg rfl (Ev.bind h4 (Ev.pos (by simp; omega) (Ev.now _)))
        · have n1 : ¬ ([] : List Nd) = e := fun h => by rw [← h] at h1; simp at h1
          have n2 : ¬ wk e 25 ((e.length - 1 : Nat) : Int) 0 = e := fun h => hc (by rw [h]; exact h24)
          rw [decide_eq_false n1, decide_eq_false n2]
          rfl
end Go.Proofs.Ytohfaccniialmaa.Am
end
section
/- Trees that may be asked for. -/
namespace Go.Proofs.Ytohfaccniialmaa.Am
open Go
set_option linter.unusedVariables false
set_option linter.unusedSimpArgs false

theorem hole_val {n : Nd} {i : Int} (h : nodeOk n i = true) (c : n.1 = tIn) : ∃ v : Nat, v < 2 ∧ n.2.2.2 = (v : Int) := by
  unfold nodeOk at h
  rw [if_pos c] at h
  simp only [Bool.and_eq_true, inB_iff] at h
  exact ⟨n.2.2.2.toNat, by omega, by omega⟩
theorem last_w {n : Nat} (h0 : 1 ≤ n) (h1 : n ≤ 1048576) : IntKind.wrap .i64 ((n : Int) - 1) = ((n - 1 : Nat) : Int) := by
  rw [wrap_ok (by omega) (by omega)]; omega
/-- a tree that may be asked for -/
def treeOk (e : List Nd) : Bool := exprOk e && once e
theorem treeOk_parts {e : List Nd} (h : treeOk e = true) : nodesOk e 0 = true ∧ 1 ≤ e.length ∧ e.length ≤ 24 ∧ once e = true := by
  unfold treeOk at h
  rw [Bool.and_eq_true] at h
  obtain ⟨h1, h2, h3⟩ := exprOk_parts h.1
  exact ⟨h1, h2, h3, h.2⟩
theorem isTree_v (e : List Nd) (hl : e.length ≤ 1048576) : impl_isTree.v e = some (treeOk e) := ev_lim (isTree_ev e hl)
theorem exGood_v (e : List Nd) (hl : e.length ≤ 1048576) : spec_exGood.v e = some (exprOk e) := ev_lim (exGood_ev e hl)
theorem isExpr_v (e : List Nd) (hl : e.length ≤ 1048576) : impl_IsExpr.v e = some (exprOk e) := ev_lim (isExpr_ev e hl)
theorem exTree_v (e : List Nd) (hl : e.length ≤ 1048576) (hg : exprOk e = true) : spec_exTree.v e = some (once e) := ev_lim (exTree_ev e hl hg)
end Go.Proofs.Ytohfaccniialmaa.Am
end
section
/- Trees: the subtree of a node has no more nodes than stand up to it. -/
namespace Go.Proofs.Ytohfaccniialmaa.Am
open Go
set_option linter.unusedVariables false
set_option linter.unusedSimpArgs false

theorem wkP_congr {w w' : Int → Nat → List Nd} : ∀ (ps : List Int) (b : Nat), (∀ p ∈ ps, ∀ b, w p b = w' p b) → wkP w ps b = wkP w' ps b
  | [], b, h => rfl
  | p :: r, b, h => by
    have h1 := h p (by simp) b
    simp only [wkP, h1]
    rw [wkP_congr r _ fun q hq b => h q (by simp [hq]) b]
theorem wk_fuel {e : List Nd} (hn : nodesOk e 0 = true) : ∀ (f g i b : Nat), i < e.length → i < f → i < g → wk e f (i : Int) b = wk e g (i : Int) b
  | 0, _, _, _, _, h, _ => by omega
  | _, 0, _, _, _, _, h => by omega
  | f + 1, g + 1, i, b, hi, hf, hg => by
    rw [wk_at hi, wk_at hi]
    have : wkP (wk e f) (partsOf e[i]) b = wkP (wk e g) (partsOf e[i]) b := wkP_congr _ _ fun p hp b => by
      obtain ⟨h0, h1⟩ := exParts_in hn hi p hp
      obtain ⟨q, rfl⟩ := Int.eq_ofNat_of_zero_le h0
      exact wk_fuel hn f g q b (by omega) (by omega) (by omega)
    rw [this]
theorem wkP_len_b {w : Int → Nat → List Nd} (h : ∀ p b b', (w p b).length = (w p b').length) : ∀ (ps : List Int) (b : Nat), (wkP w ps b).1.length = (ps.map fun p => (w p 0).length).sum
  | [], b => by simp [wkP]
  | p :: r, b => by
    simp only [wkP, List.length_append, List.map_cons, List.sum_cons]
    rw [wkP_len_b h r, h p b 0]
theorem wk_len_b (e : List Nd) : ∀ (f : Nat) (i : Int) (b b' : Nat), (wk e f i b).length = (wk e f i b').length
  | 0, i, b, b' => rfl
  | f + 1, i, b, b' => by
    simp only [wk]
    split
    · rw [List.length_append, List.length_append, wkP_len_b (wk_len_b e f), wkP_len_b (wk_len_b e f)]
      rfl
    · rfl
/-- how many nodes the subtree of a node has -/
def szT (e : List Nd) (i : Nat) : Nat := (wk e (i + 1) (i : Int) 0).length
theorem wk_szT {e : List Nd} (hn : nodesOk e 0 = true) {f i : Nat} (b : Nat) (hi : i < e.length) (hf : i < f) : (wk e f (i : Int) b).length = szT e i := by
  rw [wk_len_b e f _ b 0, wk_fuel hn f (i + 1) i 0 hi hf (by omega)]
  rfl
def pN (n : Nd) : List Nat := (partsOf n).map Int.toNat
theorem szT_eq {e : List Nd} (hn : nodesOk e 0 = true) {i : Nat} (hi : i < e.length) : szT e i = 1 + ((pN e[i]).map (szT e)).sum := by
  unfold szT pN
  rw [wk_at hi, List.length_append, wkP_len_b (wk_len_b e i), List.map_map, Nat.add_comm]
  congr 2
  refine List.map_congr_left fun p hp => ?_
  obtain ⟨h0, h1⟩ := exParts_in hn hi p hp
  obtain ⟨q, rfl⟩ := Int.eq_ofNat_of_zero_le h0
  simp only [Function.comp, Int.toNat_natCast]
  rw [wk_fuel hn i (q + 1) q 0 (by omega) (by omega) (by omega)]

/-! ### how often a node is an operand -/
def opsOfL (e : List Nd) : List Nat := e.flatMap pN
theorem bumpU_get {u : List Int} {m : Nat} (hb : Bnd u m) (hm : m ≤ 1000000000) (p : Int) (h0 : 0 ≤ p) (hp : p < u.length) (j : Nat) (hj : j < u.length) : (bumpU u p)[j]? = some (u[j] + if j = p.toNat then 1 else 0) := by
  unfold bumpU
  rw [List.getElem?_set]
  have hpl : p.toNat < u.length := by omega
  by_cases c : p.toNat = j
  · subst c
    have hg : u.getD p.toNat 0 = u[p.toNat] := by rw [List.getD_eq_getElem?_getD, List.getElem?_eq_getElem hpl]; rfl
    have := hb _ (List.getElem_mem hpl)
    rw [if_pos rfl, if_pos hpl, hg, if_pos rfl, wrap_ok (by omega) (by omega)]
  · rw [if_neg c, if_neg (fun e => c e.symm), List.getElem?_eq_getElem hj, Int.add_zero]
theorem fold_bump_get : ∀ (ps : List Int) (u : List Int) (m : Nat), Bnd u m → m + ps.length ≤ 1000000000 → (∀ p ∈ ps, 0 ≤ p ∧ p < u.length) → ∀ j (hj : j < u.length), (ps.foldl bumpU u)[j]? = some (u[j] + ((ps.map Int.toNat).count j : Nat))
  | [], u, m, hb, hm, hp, j, hj => by simp [List.getElem?_eq_getElem hj]
  | p :: r, u, m, hb, hm, hp, j, hj => by
    simp only [List.length_cons] at hm
    obtain ⟨h0, h1⟩ := hp p (by simp)
    have hl := bump_len u p
    have ih := fold_bump_get r (bumpU u p) (m + 1) (bump_bnd hb (by omega) p) (by omega) (fun q hq => by rw [hl]; exact hp q (by simp [hq])) j (by rw [hl]; exact hj)
    have hg := bumpU_get hb (by omega) p h0 h1 j hj
    rw [List.getElem?_eq_getElem (by rw [hl]; exact hj)] at hg
    rw [List.foldl_cons, ih, Option.some.inj hg, List.map_cons, List.count_cons]
    congr 1
    by_cases c : j = p.toNat
    · subst c; simp; omega
    · have c' : ¬ p.toNat = j := fun e => c e.symm
      simp [c, c']
theorem folds_bump_get : ∀ (l : List Nd) (u : List Int) (m : Nat), Bnd u m → m + 2 * l.length ≤ 1000000000 → PartsIn l u.length → ∀ j (hj : j < u.length), (l.foldl bumps u)[j]? = some (u[j] + ((opsOfL l).count j : Nat))
  | [], u, m, hb, hm, hp, j, hj => by simp [opsOfL, List.getElem?_eq_getElem hj]
  | n :: r, u, m, hb, hm, hp, j, hj => by
    simp only [List.length_cons] at hm
    have h2 := parts_le n
    have hl := bumps_len u n
    have hb1 : Bnd (bumps u n) (m + (partsOf n).length) := fold_bnd _ _ _ hb (by omega)
    have ih := folds_bump_get r (bumps u n) (m + (partsOf n).length) hb1 (by omega) (by rw [hl]; exact fun q hq => hp q (by simp [hq])) j (by rw [hl]; exact hj)
    have hg : (bumps u n)[j]? = _ := fold_bump_get (partsOf n) u m hb (by omega) (hp n (by simp)) j hj
    rw [List.getElem?_eq_getElem (by rw [hl]; exact hj)] at hg
    rw [List.foldl_cons, ih, Option.some.inj hg]
    unfold opsOfL pN
    rw [List.flatMap_cons, List.count_append]
    congr 1
    omega
theorem usesOf_get {e : List Nd} (hl : e.length ≤ 1048576) (hp : PartsIn e e.length) {j : Nat} (hj : j < e.length) : (usesOf e)[j]? = some (((opsOfL e).count j : Nat) : Int) := by
  unfold usesOf
  have := folds_bump_get e (List.replicate e.length 0) 0 (fun x hx => by rw [(List.mem_replicate.1 hx).2]; omega) (by omega) (by rw [List.length_replicate]; exact hp) j (by rw [List.length_replicate]; exact hj)
  rw [this]
  simp
theorem once_count {e : List Nd} (hl : e.length ≤ 1048576) (hn : nodesOk e 0 = true) (ho : once e = true) (j : Nat) (hj : j < e.length) : (opsOfL e).count j ≤ 1 := by
  have hg := usesOf_get hl (nodesOk_parts hn) hj
  unfold once at ho
  have := List.all_eq_true.1 ho _ (List.mem_of_getElem? hg)
  rw [decide_eq_true_iff] at this
  omega

/-! ### sums -/
theorem sum_one (S : Nat → Nat) (p : Nat) : ∀ n, ((List.range n).map fun j => if j = p then S j else 0).sum = if p < n then S p else 0
  | 0 => by simp
  | n + 1 => by
    rw [List.range_succ, List.map_append, List.sum_append, sum_one S p n]
    simp only [List.map_cons, List.map_nil, List.sum_cons, List.sum_nil, Nat.add_zero]
    by_cases c : n = p
    · subst c; simp
    · rw [if_neg c, Nat.add_zero]
      by_cases d : p < n
      · rw [if_pos d, if_pos (by omega)]
      · rw [if_neg d, if_neg (by omega)]
theorem sum_add (f g : Nat → Nat) : ∀ l : List Nat, (l.map fun j => f j + g j).sum = (l.map f).sum + (l.map g).sum
  | [] => rfl
  | a :: r => by simp only [List.map_cons, List.sum_cons, sum_add f g r]; omega
theorem sum_count (S : Nat → Nat) (n : Nat) : ∀ L : List Nat, (∀ p ∈ L, p < n) → (L.map S).sum = ((List.range n).map fun j => L.count j * S j).sum
  | [], _ => by
    have : ∀ l : List Nat, (l.map fun j => ([] : List Nat).count j * S j).sum = 0 := fun l => by induction l <;> simp_all
    rw [this]; rfl
  | p :: r, h => by
    rw [List.map_cons, List.sum_cons, sum_count S n r fun q hq => h q (by simp [hq])]
    have e : (fun j => (p :: r).count j * S j) = fun j => r.count j * S j + (if j = p then S j else 0) := by
      funext j
      rw [List.count_cons]
      by_cases c : j = p
      · subst c; simp [Nat.add_mul]
      · have c' : ¬ p = j := fun e => c e.symm
        simp [c, c']
    rw [e, sum_add, sum_one, if_pos (h p (by simp)), Nat.add_comm]
theorem sum_le (f g : Nat → Nat) : ∀ l : List Nat, (∀ j ∈ l, f j ≤ g j) → (l.map f).sum ≤ (l.map g).sum
  | [], _ => by simp
  | a :: r, h => by
    have h1 := h a (by simp)
    have h2 := sum_le f g r fun j hj => h j (by simp [hj])
    simp only [List.map_cons, List.sum_cons]
    omega
theorem szT_sum {e : List Nd} (hn : nodesOk e 0 = true) : ∀ n, n ≤ e.length → ((List.range n).map (szT e)).sum = n + ((opsOfL (e.take n)).map (szT e)).sum
  | 0, _ => by simp [opsOfL]
  | n + 1, h => by
    have hi : n < e.length := by omega
    rw [List.range_succ, List.map_append, List.sum_append, szT_sum hn n (by omega), List.take_succ_eq_append_getElem hi]
    unfold opsOfL
    rw [List.flatMap_append, List.map_append, List.sum_append]
    simp only [List.map_cons, List.map_nil, List.sum_cons, List.sum_nil, List.flatMap_cons, List.flatMap_nil, List.append_nil, Nat.add_zero]
    rw [szT_eq hn hi]
    omega
theorem szT_le {e : List Nd} (hl : e.length ≤ 1048576) (hn : nodesOk e 0 = true) (ho : once e = true) {i : Nat} (hi : i < e.length) : szT e i ≤ i + 1 := by
  have h1 := szT_sum hn (i + 1) (by omega)
  have hlt : ∀ p ∈ opsOfL (e.take (i + 1)), p < i := fun p hp => by
    unfold opsOfL pN at hp
    obtain ⟨n, hm, hp⟩ := List.mem_flatMap.1 hp
    obtain ⟨q, hq, rfl⟩ := List.mem_map.1 hp
    obtain ⟨j, hj, rfl⟩ := List.getElem_of_mem hm
    rw [List.length_take] at hj
    rw [List.getElem_take] at hq
    have := exParts_in hn (i := j) (by omega) q hq
    omega
  have h2 := sum_count (szT e) i _ hlt
  have h3 : ∀ j ∈ List.range i, (opsOfL (e.take (i + 1))).count j * szT e j ≤ szT e j := fun j hj => by
    have hc := once_count hl hn ho j (by have := List.mem_range.1 hj; omega)
    have : (opsOfL e).count j = (opsOfL (e.take (i + 1))).count j + (opsOfL (e.drop (i + 1))).count j := by
      unfold opsOfL
      rw [← List.count_append, ← List.flatMap_append, List.take_append_drop]
    have hle : (opsOfL (e.take (i + 1))).count j ≤ 1 := by omega
    calc _ ≤ 1 * szT e j := Nat.mul_le_mul_right _ hle
      _ = _ := Nat.one_mul _
  have h4 := sum_le _ _ _ h3
  rw [List.range_succ, List.map_append, List.sum_append] at h1
  simp only [List.map_cons, List.map_nil, List.sum_cons, List.sum_nil, Nat.add_zero] at h1
  omega
/-- a subtree of a tree: all of it fits -/
theorem wk_tree {e : List Nd} (h : treeOk e = true) {f i : Nat} (b : Nat) (hi : i < e.length) (hf : i < f) : (wk e f (i : Int) b).length ≤ i + 1 := by
  obtain ⟨h1, h2, h3, h4⟩ := treeOk_parts h
  rw [wk_szT h1 b hi hf]
  exact szT_le (by omega) h1 h4 hi
theorem grow_tree {e : List Nd} (h : treeOk e = true) {i : Nat} (hi : i < e.length) : impl_grow_nil.v e (i : Int) = some (wk e 25 (i : Int) 0, ()) := by
  obtain ⟨h1, h2, h3, h4⟩ := treeOk_parts h
  have := wk_tree h (f := 25) 0 hi (by omega)
  exact ev_lim (growN_fit e h1 hi (g := 25) (f := 24) rfl (by omega) (by omega))
theorem ruWalk_v {e : List Nd} (hn : nodesOk e 0 = true) (h24 : e.length ≤ 24) {i : Nat} (hi : i < e.length) : spec_ruWalk.v e (i : Int) = some (wk e 25 i 0) := ev_lim (ruWalk_ev e hn h24 hi)
theorem ruSame_v (xs ys : List Nd) (hx : xs.length ≤ 1048576000000) : spec_ruSame.v xs ys = some (decide (xs = ys)) := ev_lim (ruSame_ev xs ys hx)
theorem equalN_v (xs ys : List Nd) (hx : xs.length ≤ 1048576000000) : slices_Equal_Node.v xs ys = some (decide (xs = ys)) := ev_lim (equalN_ev xs ys hx)
end Go.Proofs.Ytohfaccniialmaa.Am
end
section
/- The forms of ops and their costs: the program's and the reference's. -/
namespace Go.Proofs.Ytohfaccniialmaa.Am
open Go
set_option linter.unusedVariables false
set_option linter.unusedSimpArgs false

abbrev tSet : ByteArray := ⟨#[115, 101, 116]⟩
abbrev tMov : ByteArray := ⟨#[109, 111, 118]⟩
abbrev tMul : ByteArray := ⟨#[109, 117, 108]⟩
abbrev tShl : ByteArray := ⟨#[115, 104, 108]⟩
abbrev tShr : ByteArray := ⟨#[115, 104, 114]⟩
abbrev tAddi : ByteArray := ⟨#[97, 100, 100, 105]⟩
abbrev tAndi : ByteArray := ⟨#[97, 110, 100, 105]⟩
abbrev tXori : ByteArray := ⟨#[120, 111, 114, 105]⟩
abbrev tShli : ByteArray := ⟨#[115, 104, 108, 105]⟩
abbrev tShri : ByteArray := ⟨#[115, 104, 114, 105]⟩
abbrev tLea : ByteArray := ⟨#[108, 101, 97]⟩
/-- the cost of an op -/
def opCost (s : ByteArray) : Int := if s = tMul then 4 else if s = tShl then 2 else if s = tShr then 2 else 1
theorem cdCost_f (s : ByteArray) : spec_cdCost.f s = some (opCost s) := by
  rw [spec_cdCost.eq]
  unfold opCost
  simp only [seq_beq, br_if, decide_eq_true_eq]
  repeat' split
  all_goals first | rfl | simp_all
theorem opCost_pos (s : ByteArray) : 1 ≤ opCost s ∧ opCost s ≤ 4 := by
  unfold opCost
  repeat' split
  all_goals omega
abbrev Form := Bool × Bool × Int × Int × Int × ByteArray
/-- the form of an op -/
def formP (s : ByteArray) : Form × Bool :=
  if s = tSet then ((false, false, 0, 63, 1, s), true)
  else if s = tMov then ((true, false, 1, 0, 1, s), true)
  else if isOne s = true then ((true, false, 1, 0, 1, s), true)
  else if isTwo s = true then ((true, true, 1, 0, opCost s, s), true)
  else if s = tAddi then ((true, false, 0, 63, 1, s.extract 0 3), true)
  else if s = tAndi then ((true, false, 0, 63, 1, s.extract 0 3), true)
  else if s = tXori then ((true, false, 0, 63, 1, s.extract 0 3), true)
  else if s = tShli then ((true, false, 1, 5, 1, s.extract 0 3), true)
  else if s = tShri then ((true, false, 1, 5, 1, s.extract 0 3), true)
  else if s = tLea then ((true, true, 1, 3, 1, s), true)
  else ((false, false, 0, 0, 0, ⟨#[]⟩), false)
theorem containsS_v (l : List ByteArray) (s : ByteArray) (hl : l.length ≤ 9223372036854775000) : slices_Contains_string.v l s = some (isIn l s) := ev_lim (containsS_ev l s hl)
theorem formOf_v (s : ByteArray) : impl_formOf.v s = some (formP s) := by
  refine impl_formOf.vs _ ?_
  have hc := containsS_v opsL s (by decide)
  unfold opsL at hc
  simp only [impl_binary.eq, bd_s, hc, seq_beq, br_if, decide_eq_true_eq]
  have e2 : isIn [(⟨#[97, 100, 100]⟩ : ByteArray), (⟨#[115, 117, 98]⟩ : ByteArray), (⟨#[109, 117, 108]⟩ : ByteArray), (⟨#[97, 110, 100]⟩ : ByteArray), (⟨#[111, 114]⟩ : ByteArray), (⟨#[120, 111, 114]⟩ : ByteArray), (⟨#[115, 104, 108]⟩ : ByteArray), (⟨#[115, 104, 114]⟩ : ByteArray), (⟨#[108, 101, 115, 115]⟩ : ByteArray), (⟨#[101, 113]⟩ : ByteArray)] s = isTwo s := rfl
  rw [e2]
  by_cases c1 : s = tSet
  · subst c1; simp [formP]
  by_cases c2 : s = tMov
  · subst c2; simp [formP]
  by_cases c3 : s = tNot
  · subst c3; simp [formP, isOne]
  by_cases c4 : s = tNeg
  · subst c4; simp [formP, isOne]
  have h1 : isOne s = false := by unfold isOne; simp [c3, c4]
  by_cases h2 : isTwo s = true
  · simp only [formP, c1, c2, c3, c4, h1, h2, if_false, if_true, Bool.false_eq_true, opCost]
    by_cases d1 : s = tShl
    · subst d1; rfl
    by_cases d2 : s = tShr
    · subst d2; rfl
    by_cases d3 : s = tMul
    · subst d3; rfl
    simp only [d1, d2, d3, if_false]
  by_cases c5 : s = tAddi
  · subst c5; simp [formP, h2, isOne]; decide
  by_cases c6 : s = tAndi
  · subst c6; simp [formP, h2, isOne]; decide
  by_cases c7 : s = tXori
  · subst c7; simp [formP, h2, isOne]; decide
  by_cases c8 : s = tShli
  · subst c8; simp [formP, h2, isOne]; decide
  by_cases c9 : s = tShri
  · subst c9; simp [formP, h2, isOne]; decide
  by_cases c10 : s = tLea
  · subst c10; simp [formP, h2, isOne]
  simp only [formP, c1, c2, c3, c4, h1, h2, c5, c6, c7, c8, c9, c10, if_false, Bool.false_eq_true]
theorem formP_cost {s : ByteArray} (h : 0 < arity s) : (formP s).1.2.2.2.2.1 = opCost s := by
  rcases arity_cases s with ⟨e, _⟩ | ⟨e, _⟩ | ⟨_, e, _⟩ | ⟨_, _, e⟩
  · omega
  · omega
  · rcases isOne_mem e with rfl | rfl <;> decide
  · have h1 := (isTwo_not e).2.2
    have d1 : s ≠ tSet := fun q => by subst q; revert e; decide
    have d2 : s ≠ tMov := fun q => by subst q; revert e; decide
    simp only [formP, d1, d2, h1, e, if_false, if_true, Bool.false_eq_true]
end Go.Proofs.Ytohfaccniialmaa.Am
end
section
/- Which inputs an expression reads: the reference's holes, the program's inputs. -/
namespace Go.Proofs.Ytohfaccniialmaa.Am
open Go
set_option linter.unusedVariables false
set_option linter.unusedSimpArgs false

def isH (v : Int) (n : Nd) : Bool := decide (n.1 = tIn) && decide (n.2.2.2 = v)
def cntH (l : List Nd) (v : Int) : Nat := l.countP (isH v)
theorem ruHoles_ev (e : List Nd) (hl : e.length ≤ 1048576) : Ev (fun k => spec_ruHoles.f k e) ((cntH e 0 : Int), (cntH e 1 : Int)) := by
  refine Ev.step (fun k => spec_ruHoles.eq k e) ?_
  have key : ∀ (d i a b : Nat), i + d = e.length → a ≤ i → b ≤ i → Ev (fun k => spec_ruHoles.l0 k (a : Int) (b : Int) e (e.length : Int) (i : Int)) (((a + cntH (e.drop i) 0 : Nat) : Int), ((b + cntH (e.drop i) 1 : Nat) : Int)) := by
    intro d
    induction d with
    | zero =>
      intro i a b hi ha hb
      refine Ev.step (fun k => spec_ruHoles.l0_eq k _ _ _ _ _) (Ev.neg (by simp; omega) (Ev.ret ?_))
      rw [List.drop_eq_nil_of_le (by omega)]
      simp [cntH]
    | succ d ih =>
      intro i a b hi ha hb
      have hlt : i < e.length := by omega
      have na : IntKind.wrap .i64 ((a : Int) + 1) = ((a + 1 : Nat) : Int) := by rw [wrap_ok (by omega) (by omega)]; rfl
      have nb : IntKind.wrap .i64 ((b : Int) + 1) = ((b + 1 : Nat) : Int) := by rw [wrap_ok (by omega) (by omega)]; rfl
      refine Ev.step (fun k => spec_ruHoles.l0_eq k _ _ _ _ _) (Ev.pos (by simpa using hlt) (Ev.pos (by simp) (Ev.get hlt ?_)))
      rw [next_ok i _ hlt (by omega), na, nb, drop_at e i hlt]
      have c0 : ∀ v, cntH (e[i] :: e.drop (i + 1)) v = cntH (e.drop (i + 1)) v + (if isH v e[i] = true then 1 else 0) := fun v => by unfold cntH; rw [List.countP_cons]
      rw [c0 0, c0 1]
      by_cases c : e[i].1 = tIn
      · refine Ev.pos (seq_t c) ?_
        by_cases v0 : e[i].2.2.2 = 0
        · refine Ev.pos (by simpa using v0) (Ev.pos (seq_t c) (Ev.neg (by simp [v0]) ?_))
          refine Ev.eq (ih (i + 1) (a + 1) b (by omega) (by omega) (by omega)) ?_
          simp [isH, c, v0, Nat.add_assoc, Nat.add_comm, Nat.add_left_comm]
        · refine Ev.neg (by simpa using v0) (Ev.pos (seq_t c) ?_)
          by_cases v1 : e[i].2.2.2 = 1
          · refine Ev.pos (by simpa using v1) ?_
            refine Ev.eq (ih (i + 1) a (b + 1) (by omega) (by omega) (by omega)) ?_
            simp [isH, c, v1, Nat.add_assoc, Nat.add_comm, Nat.add_left_comm]
          · refine Ev.neg (by simpa using v1) ?_
            refine Ev.eq (ih (i + 1) a b (by omega) (by omega) (by omega)) ?_
            simp [isH, c, v0, v1]
      · refine Ev.neg (seq_f c) (Ev.neg (seq_f c) ?_)
        refine Ev.eq (ih (i + 1) a b (by omega) (by omega) (by omega)) ?_
        simp [isH, c]
  have := key e.length 0 0 0 (by omega) (by omega) (by omega)
  simpa using this
theorem containsN_ev (l : List Nd) (s : Nd) (hl : l.length ≤ 9223372036854775000) : Ev (fun k => slices_Contains_Node.f k l s) (l.any (nodeEq s)) := by
  have key : ∀ (d : Nat) (i : Nat), i + d = l.length → ∃ r : Int, Ev (fun k => slices_Index_Node.l0 k l (l.length : Int) (i : Int) s.1 s.2.1 s.2.2.1 s.2.2.2) r ∧ (0 ≤ r ↔ (l.drop i).any (nodeEq s) = true) := by
    intro d
    induction d with
    | zero =>
      intro i h
      refine ⟨-1, Ev.step (fun k => slices_Index_Node.l0_eq k _ _ _ _ _ _ _) (Ev.neg (by simp; omega) (Ev.now _)), ?_⟩
      rw [List.drop_eq_nil_of_le (by omega)]; simp
    | succ d ih =>
      intro i h
      have hi : i < l.length := by omega
      by_cases c : nodeEq s l[i] = true
      · refine ⟨i, Ev.step (fun k => slices_Index_Node.l0_eq k _ _ _ _ _ _ _) (Ev.pos (by simpa using hi) (Ev.pos (by simp) (Ev.get hi (Ev.pos c (Ev.now _))))), ?_⟩
        rw [drop_at _ _ hi, List.any_cons]; simp [c]
      · obtain ⟨r, hev, hiff⟩ := ih (i + 1) (by omega)
        have hf : nodeEq s l[i] = false := by simpa using c
        refine ⟨r, Ev.step (fun k => slices_Index_Node.l0_eq k _ _ _ _ _ _ _) (Ev.pos (by simpa using hi) (Ev.pos (by simp) (Ev.get hi (Ev.neg hf (by rw [next_ok i _ hi hl]; exact hev))))), ?_⟩
        rw [hiff, drop_at _ _ hi, List.any_cons]; simp [hf]
  obtain ⟨r, hev, hiff⟩ := key l.length 0 (by omega)
  refine Ev.step (fun k => slices_Contains_Node.eq k l s) (Ev.bind (b := r) (Ev.step (fun k => slices_Index_Node.eq k l s) hev) (Ev.ret ?_))
  rw [Bool.eq_iff_iff, decide_eq_true_iff]
  exact hiff
/-- an input that is read -/
def hasH (e : List Nd) (v : Int) : Bool := e.any (nodeEq (tIn, (0 : Int), (0 : Int), v))
def inputsOf (e : List Nd) : List Int := (if hasH e 0 = true then [0] else []) ++ (if hasH e 1 = true then [1] else [])
theorem inputs_ev (e : List Nd) (hl : e.length ≤ 1048576) : Ev (fun k => impl_inputs.f k e) (inputsOf e) := by
  refine Ev.step (fun k => impl_inputs.eq k e) (Ev.step (fun k => impl_inputs.l0_eq k _ _ _) (Ev.pos (by decide) (Ev.bind (containsN_ev e _ (by omega)) ?_)))
  have two : ∀ (x : List Int), x.length ≤ 1 → Ev (fun k => impl_inputs.l0 k e (IntKind.wrap .i64 ((0 : Int) + 1)) x) (x ++ (if hasH e 1 = true then [1] else [])) := by
    intro x hx
    rw [show IntKind.wrap .i64 ((0 : Int) + 1) = 1 from wrap_ok (by omega) (by omega)]
    have fin : ∀ y : List Int, Ev (fun k => impl_inputs.l0 k e (IntKind.wrap .i64 ((1 : Int) + 1)) y) y := fun y => by
      rw [show IntKind.wrap .i64 ((1 : Int) + 1) = 2 from wrap_ok (by omega) (by omega)]
      exact Ev.step (fun k => impl_inputs.l0_eq k _ _ _) (Ev.neg (by decide) (Ev.now _))
    refine Ev.step (fun k => impl_inputs.l0_eq k _ _ _) (Ev.pos (by decide) (Ev.bind (containsN_ev e _ (by omega)) ?_))
    by_cases h : hasH e 1 = true
    · rw [if_pos h]; exact Ev.pos h (Ev.pos (by simp; omega) (fin _))
    · rw [if_neg h]; have h' : hasH e 1 = false := by simpa using h
      exact Ev.neg h' (Ev.eq (fin _) (by simp))
  unfold inputsOf
  by_cases h : hasH e 0 = true
  · rw [if_pos h]; exact Ev.pos h (Ev.pos (by simp) (two _ (by simp)))
  · rw [if_neg h]; have h' : hasH e 0 = false := by simpa using h
    exact Ev.neg h' (two _ (by simp))
end Go.Proofs.Ytohfaccniialmaa.Am
end
section
/- What the laws do with rules. -/
namespace Go.Proofs.Ytohfaccniialmaa.Am
open Go
set_option linter.unusedVariables false
set_option linter.unusedSimpArgs false

abbrev tyNd : Ty := .pr .s (.pr (.i .i64) (.pr (.i .i64) (.i .i64)))
abbrev tyRl : Ty := .pr (.sl tyNd) (.pr (.sl tyNd) .s)
/-- a rule whose parts are not too long -/
structure Short (r : Rl) : Prop where
  l : r.1.length ≤ 1048576
  r : r.2.1.length ≤ 1048576
theorem eqRule_v (r : Rl) (h : Short r) : laws_eqRule.v r r = some true :=
  laws_eqRule.vs _ _ (by simp [eqNodeS_v r.1 h.l, eqNodeS_v r.2.1 h.r])
theorem toRule_v (r : Rl) (h : Short r) : laws_toRule.v r = some (r, ()) :=
  laws_toRule.vs _ (by simp [toNodeS_v r.1 h.l, toNodeS_v r.2.1 h.r])
theorem szRule_v (r : Rl) (q : Qd tyRl r) : ∃ y, laws_szRule.v r 1048576 = some y ∧ y ≤ 1048576 ∧ (0 ≤ y → Short r) := by
  obtain ⟨⟨q1, q2⟩, ⟨q3, q4⟩, q5⟩ := q
  have hM : maxLen = 9223372036854775807 := by decide
  have q5 : r.2.2.size ≤ maxLen := q5
  obtain ⟨y, hy, hyx, hyl⟩ := szNodeS_v r.1 1048576 (by omega) (by omega) q1 (fun n hn => (q2 n hn).1)
  by_cases h0 : y < 0
  · exact ⟨-1, laws_szRule.vs _ _ (by simp [hy, h0]), by omega, fun h => by omega⟩
  · obtain ⟨z, hz, hzx, hzl⟩ := szNodeS_v r.2.1 y (by omega) (by omega) q3 (fun n hn => (q4 n hn).1)
    have l1 := hyl (by omega)
    by_cases h1 : z < 0
    · exact ⟨-1, laws_szRule.vs _ _ (by simp [hy, h0, hz, h1]), by omega, fun h => by omega⟩
    · have l2 := hzl (by omega)
      have fin : Short r := ⟨by omega, by omega⟩
      have hw : IntKind.wrap .i64 (z - (r.2.2.size : Int)) = z - (r.2.2.size : Int) := wrap_ok (by omega) (by omega)
      by_cases h2 : z - (r.2.2.size : Int) < 0
      · exact ⟨-1, laws_szRule.vs _ _ (by simp [hy, h0, hz, h1, hw, h2]), by omega, fun _ => fin⟩
      · exact ⟨_, laws_szRule.vs _ _ (by simp [hy, h0, hz, h1, hw, h2]; rfl), by omega, fun _ => fin⟩
theorem szNodeS_q (e : List Nd) (q : Qd (.sl tyNd) e) (y : Int) (h0 : 0 ≤ y) (h1 : y ≤ 1048576) : ∃ z, laws_szNodeS.v e y = some z ∧ z ≤ y ∧ (0 ≤ z → e.length ≤ 1048576) := by
  obtain ⟨q1, q2⟩ := q
  obtain ⟨z, hz, hzx, hzl⟩ := szNodeS_v e y h0 (by omega) q1 (fun n hn => (q2 n hn).1)
  exact ⟨z, hz, hzx, fun h => by have := hzl h; omega⟩
end Go.Proofs.Ytohfaccniialmaa.Am
end
section
/- IsRule: the program's function and the reference's answer alike; the law. -/
namespace Go.Proofs.Ytohfaccniialmaa.Am
open Go
set_option linter.unusedVariables false
set_option linter.unusedSimpArgs false

theorem hasH_cnt {e : List Nd} (hn : nodesOk e 0 = true) (v : Int) : hasH e v = decide (0 < cntH e v) := by
  rw [Bool.eq_iff_iff, decide_eq_true_iff]
  unfold hasH cntH
  rw [List.countP_pos_iff, List.any_eq_true]
  constructor
  · rintro ⟨n, h1, h2⟩
    have := nodeEq_iff.1 h2
    exact ⟨n, h1, by rw [← this]; simp [isH]⟩
  · rintro ⟨n, h1, h2⟩
    refine ⟨n, h1, ?_⟩
    obtain ⟨j, hj, e1⟩ := List.getElem_of_mem h1
    have ho := nodesOk_get e 0 hn j hj
    rw [e1] at ho
    unfold isH at h2
    simp only [Bool.and_eq_true, decide_eq_true_eq] at h2
    unfold nodeOk at ho
    rw [if_pos h2.1] at ho
    simp only [Bool.and_eq_true, decide_eq_true_eq] at ho
    rw [nodeEq_iff]
    obtain ⟨a, b, c, d⟩ := n
    simp only at h2 ho ⊢
    rw [h2.1, ho.1.1, ho.1.2, h2.2]
def sidesL : List ByteArray := [(⟨#[97, 110, 121]⟩ : ByteArray), (⟨#[99, 111, 110, 115, 116]⟩ : ByteArray), (⟨#[111, 100, 100]⟩ : ByteArray), (⟨#[112, 111, 119, 101, 114]⟩ : ByteArray), (⟨#[115, 109, 97, 108, 108]⟩ : ByteArray)]
abbrev tAny : ByteArray := ⟨#[97, 110, 121]⟩
theorem ruSide_ev (s : ByteArray) : Ev (fun k => spec_ruSide.f k s) (isIn sidesL s) := Ev.step (fun k => spec_ruSide.eq k s) (Ev.bind (l1HasS_ev sidesL s (by decide)) (Ev.now _))
theorem isSide_ev (s : ByteArray) : Ev (fun k => impl_isSide.f k s) (isIn sidesL s) := Ev.step (fun k => impl_isSide.eq k s) (Ev.bind (containsS_ev sidesL s (by decide)) (Ev.now _))
/-- an input of r that is not one of l -/
theorem missing_ev (r l : List Int) (hr : r.length ≤ 1048576) (hl : l.length ≤ 1048576) : Ev (fun k => slices_ContainsFunc_int_IsRule.f k r l) (r.any fun x => !decide (x ∈ l)) := by
  have key : ∀ (d : Nat) (i : Nat), i + d = r.length → ∃ q : Int, Ev (fun k => slices_IndexFunc_int_IsRule.l0 k r l (r.length : Int) (i : Int)) q ∧ (0 ≤ q ↔ ((r.drop i).any fun x => !decide (x ∈ l)) = true) := by
    intro d
    induction d with
    | zero =>
      intro i h
      refine ⟨-1, Ev.step (fun k => slices_IndexFunc_int_IsRule.l0_eq k _ _ _ _) (Ev.neg (by simp; omega) (Ev.now _)), ?_⟩
      rw [List.drop_eq_nil_of_le (by omega)]; simp
    | succ d ih =>
      intro i h
      have hi : i < r.length := by omega
      have one : Ev (fun k => impl_IsRule_1.f k r[i] l) (!decide (r[i] ∈ l)) := Ev.step (fun k => impl_IsRule_1.eq k _ _) (Ev.bind (containsI_ev l r[i] (by omega)) (Ev.now _))
      by_cases c : r[i] ∈ l
      · obtain ⟨q, hev, hiff⟩ := ih (i + 1) (by omega)
        refine ⟨q, Ev.step (fun k => slices_IndexFunc_int_IsRule.l0_eq k _ _ _ _) (Ev.pos (by simpa using hi) (Ev.pos (by simp) (Ev.get hi (Ev.bind one (Ev.neg (by simp [c]) (by rw [next_ok i _ hi (by omega)]; exact hev)))))), ?_⟩
        rw [hiff, drop_at _ _ hi, List.any_cons]; simp [c]
      · refine ⟨i, Ev.step (fun k => slices_IndexFunc_int_IsRule.l0_eq k _ _ _ _) (Ev.pos (by simpa using hi) (Ev.pos (by simp) (Ev.get hi (Ev.bind one (Ev.pos (by simp [c]) (Ev.now _)))))), ?_⟩
        rw [drop_at _ _ hi, List.any_cons]; simp [c]
  obtain ⟨q, hev, hiff⟩ := key r.length 0 (by omega)
  refine Ev.step (fun k => slices_ContainsFunc_int_IsRule.eq k r l) (Ev.bind (b := q) (Ev.step (fun k => slices_IndexFunc_int_IsRule.eq k r l) hev) (Ev.ret ?_))
  rw [List.drop_zero] at hiff
  rw [Bool.eq_iff_iff, decide_eq_true_iff]
  exact hiff
theorem root_parts {e : List Nd} (hw : walked e = true) : ∃ h : e.length - 1 < e.length, (partsOf (e[e.length - 1]'h) = [] ↔ e.length = 1) := by
  unfold walked at hw
  simp only [Bool.and_eq_true, decide_eq_true_eq] at hw
  obtain ⟨hg, _, hk⟩ := hw
  obtain ⟨hn, h1, h24⟩ := exprOk_parts hg
  have hi : e.length - 1 < e.length := by omega
  refine ⟨hi, fun h => ?_, fun h => ?_⟩
  · rw [wk_at' hi (g := 25) (f := 24) rfl, h] at hk
    rw [← hk]
    rfl
  · have hp := exParts_in hn hi
    cases hq : partsOf e[e.length - 1] with
    | nil => rfl
    | cons p r =>
      have := hp p (by rw [hq]; exact List.mem_cons_self)
      omega
/-- the last word on a rule: its inputs and its side -/
def tailOk (l r : List Nd) (any : Bool) : Bool := (hasH l 0 || !hasH r 0) && (hasH l 1 || (!hasH r 1 && any))
def ruleOk (r : Rl) : Bool := isIn sidesL r.2.2 && (walked r.1 && (walked r.2.1 && (!decide (r.1.length = 1) && tailOk r.1 r.2.1 (decide (r.2.2 = tAny)))))
theorem walked_expr {e : List Nd} (h : walked e = true) : nodesOk e 0 = true ∧ 1 ≤ e.length ∧ e.length ≤ 24 := by
  unfold walked at h
  rw [Bool.and_eq_true] at h
  exact exprOk_parts h.1
theorem pos_cnt {e : List Nd} (hn : nodesOk e 0 = true) (v : Int) : decide (((cntH e v : Nat) : Int) > 0) = hasH e v := by
  rw [hasH_cnt hn]
  simp
theorem zero_cnt {e : List Nd} (hn : nodesOk e 0 = true) (v : Int) : (((cntH e v : Nat) : Int) == 0) = !hasH e v := by
  rw [hasH_cnt hn]
  cases h : cntH e v with
  | zero => simp
  | succ n => simp; omega
theorem ruGood_ev (r : Rl) (h1 : r.1.length ≤ 1048576) (h2 : r.2.1.length ≤ 1048576) : Ev (fun k => spec_ruGood.f k r) (ruleOk r) := by
  refine Ev.step (fun k => spec_ruGood.eq k r) (Ev.bind (ruSide_ev _) ?_)
  unfold ruleOk
  cases hs : isIn sidesL r.2.2 with
  | false => exact Ev.pos rfl (Ev.ret (by simp))
  | true =>
    refine Ev.neg rfl (Ev.bind (ruWalked_ev _ h1) ?_)
    cases hw1 : walked r.1 with
    | false => exact Ev.pos rfl (Ev.ret (by simp))
    | true =>
      refine Ev.neg rfl (Ev.bind (ruWalked_ev _ h2) ?_)
      cases hw2 : walked r.2.1 with
      | false => exact Ev.pos rfl (Ev.ret (by simp))
      | true =>
        refine Ev.neg rfl ?_
        obtain ⟨hn1, l1, l24⟩ := walked_expr hw1
        obtain ⟨hn2, _, _⟩ := walked_expr hw2
        obtain ⟨hi, hroot⟩ := root_parts hw1
        have hw : IntKind.wrap .i64 ((r.1.length : Int) - 1) = ((r.1.length - 1 : Nat) : Int) := by rw [wrap_ok (by omega) (by omega)]; omega
        rw [hw]
        refine Ev.pos (by simp) (Ev.get hi (Ev.bind (exParts_ev _) ?_))
        by_cases hl : r.1.length = 1
        · refine Ev.pos (by rw [hroot.2 hl]; rfl) (Ev.ret (by simp [hl]))
        · have hne : partsOf r.1[r.1.length - 1] ≠ [] := fun h => hl (hroot.1 h)
          refine Ev.neg (by
            cases hq : partsOf r.1[r.1.length - 1] with
            | nil => exact absurd hq hne
            | cons a q => simp; omega) (Ev.bind (ruHoles_ev _ h1) (Ev.bind (ruHoles_ev _ h2) ?_))
          simp only [pos_cnt hn1, zero_cnt hn2]
          unfold tailOk
          rw [seq_beq]
          cases hasH r.1 0 <;> cases hasH r.1 1 <;> cases hasH r.2.1 0 <;> cases hasH r.2.1 1 <;> exact Ev.ret (by simp [hl])
theorem isRule_ev (r : Rl) (h1 : r.1.length ≤ 1048576) (h2 : r.2.1.length ≤ 1048576) : Ev (fun k => impl_IsRule.f k r) (ruleOk r) := by
  refine Ev.step (fun k => impl_IsRule.eq k r) (Ev.bind (isWalked_ev _ h1) ?_)
  unfold ruleOk
  cases hw1 : walked r.1 with
  | false => exact Ev.pos rfl (Ev.ret (by simp))
  | true =>
    refine Ev.neg rfl (Ev.bind (isWalked_ev _ h2) ?_)
    cases hw2 : walked r.2.1 with
    | false => exact Ev.pos rfl (Ev.ret (by simp))
    | true =>
      refine Ev.neg rfl ?_
      by_cases hl : r.1.length = 1
      · exact Ev.pos (by simp [hl]) (Ev.ret (by simp [hl]))
      · refine Ev.neg (by simp; omega) (Ev.bind (isSide_ev _) ?_)
        cases hs : isIn sidesL r.2.2 with
        | false => exact Ev.pos rfl (Ev.ret (by simp))
        | true =>
          have il : ∀ e, (inputsOf e).length ≤ 2 := fun e => by unfold inputsOf; cases hasH e 0 <;> cases hasH e 1 <;> decide
          have i1 := il r.1
          have i2 := il r.2.1
          refine Ev.neg rfl (Ev.bind (inputs_ev _ h1) (Ev.bind (inputs_ev _ h2) (Ev.bind (missing_ev _ _ (by omega) (by omega)) ?_)))
          unfold tailOk
          have hc : Ev (fun k => slices_Contains_int.f k (inputsOf r.1) 1) (hasH r.1 1) := Ev.eq (containsI_ev _ _ (by omega)) (by unfold inputsOf; cases hasH r.1 0 <;> cases hasH r.1 1 <;> decide)
          by_cases ha : r.2.2 = tAny
          · cases a0 : hasH r.1 0 <;> cases a1 : hasH r.1 1 <;> cases b0 : hasH r.2.1 0 <;> cases b1 : hasH r.2.1 1 <;> simp only [inputsOf, a0, a1, b0, b1] <;>
              first
                | exact Ev.pos (by decide) (Ev.pos (seq_t ha) (Ev.ret (by simp [hl, ha])))
                | exact Ev.neg (by decide) (Ev.ret (by simp [hl, ha]))
          · rw [show decide (r.2.2 = tAny) = false from decide_eq_false ha]
            cases a0 : hasH r.1 0 <;> cases a1 : hasH r.1 1 <;> cases b0 : hasH r.2.1 0 <;> cases b1 : hasH r.2.1 1 <;> simp only [inputsOf, a0, a1, b0, b1] at hc ⊢ <;>
              first
                | exact Ev.pos (by decide) (Ev.neg (seq_f ha) (Ev.bind hc (Ev.ret (by simp [hl]))))
                | exact Ev.neg (by decide) (Ev.ret (by simp [hl]))
end Go.Proofs.Ytohfaccniialmaa.Am
end
section
/- The law FnExactIsFalling, in plain Lean: what expressions cost, how often a hole is there. -/
namespace Go.Proofs.Ytohfaccniialmaa.Am
open Go
set_option linter.unusedVariables false
set_option linter.unusedSimpArgs false

def nCost (n : Nd) : Int := if arity n.1 > 0 then opCost n.1 else 0
/-- the cost of an expression -/
def costP : List Nd → Int
  | [] => 0
  | n :: r => nCost n + costP r
theorem nCost_bnd (n : Nd) : 0 ≤ nCost n ∧ nCost n ≤ 4 := by
  unfold nCost
  have := opCost_pos n.1
  split <;> omega
theorem costP_bnd : ∀ l : List Nd, 0 ≤ costP l ∧ costP l ≤ 4 * l.length
  | [] => by simp [costP]
  | n :: r => by
    have h1 := costP_bnd r
    have h2 := nCost_bnd n
    simp only [costP, List.length_cons]
    omega
theorem parts_pos (n : Nd) : (decide (((partsOf n).length : Int) > 0)) = decide (arity n.1 > 0) := by
  unfold partsOf
  rcases arity_cases n.1 with ⟨h, _⟩ | ⟨h, _⟩ | ⟨h, _⟩ | ⟨h, _⟩ <;> rw [h] <;> simp
theorem exParts_v (n : Nd) : spec_exParts.v n = some (partsOf n) := ev_lim (exParts_ev n)
theorem of_v (n : Nd) : impl_Node_of.v n = some (partsOf n) := ev_lim (of_ev n)
theorem operands_v (s : ByteArray) : impl_operands.v s = some (arity s) := ev_lim (operands_ev s)
theorem ruCost_v (e : List Nd) (hl : e.length ≤ 1048576) : spec_ruCost.v e = some (costP e) := by
  have key : ∀ (d i : Nat) (a : Int), i + d = e.length → 0 ≤ a → a ≤ 4 * i → spec_ruCost.v0 a e (e.length : Int) (i : Int) = some (a + costP (e.drop i)) := by
    intro d
    induction d with
    | zero =>
      intro i a hi h0 h1
      refine spec_ruCost.v0s _ _ _ _ ?_
      rw [List.drop_eq_nil_of_le (by omega), br_f (by simp; omega)]
      simp [costP]
    | succ d ih =>
      intro i a hi h0 h1
      have hlt : i < e.length := by omega
      have hb := nCost_bnd e[i]
      refine spec_ruCost.v0s _ _ _ _ ?_
      rw [br_t (by simpa using hlt), br_t (by simp), Int.toNat_natCast, gt_at _ hlt, exParts_v, bd_s, parts_pos, next_ok i _ hlt (by omega), cdCost_f, bd_s]
      rw [drop_at _ _ hlt]
      simp only [costP]
      by_cases c : arity e[i].1 > 0
      · have hn : nCost e[i] = opCost e[i].1 := by unfold nCost; rw [if_pos c]
        rw [br_t (by simpa using c), wrap_ok (by omega) (by omega), ih (i + 1) _ (by omega) (by omega) (by omega), hn]
        congr 1; omega
      · have hn : nCost e[i] = 0 := by unfold nCost; rw [if_neg c]
        rw [br_f (by simpa using c), ih (i + 1) _ (by omega) (by omega) (by omega), hn]
        congr 1; omega
  exact spec_ruCost.vs _ (by have := key e.length 0 0 (by omega) (by omega) (by omega); simpa using this)
theorem costOf_v (e : List Nd) (hl : e.length ≤ 1048576) : impl_costOf.v e = some (costP e) := by
  have key : ∀ (d i : Nat) (a : Int), i + d = e.length → 0 ≤ a → a ≤ 4 * i → impl_costOf.v0 a e (e.length : Int) (i : Int) = some (a + costP (e.drop i)) := by
    intro d
    induction d with
    | zero =>
      intro i a hi h0 h1
      refine impl_costOf.v0s _ _ _ _ ?_
      rw [List.drop_eq_nil_of_le (by omega), br_f (by simp; omega)]
      simp [costP]
    | succ d ih =>
      intro i a hi h0 h1
      have hlt : i < e.length := by omega
      have hb := nCost_bnd e[i]
      refine impl_costOf.v0s _ _ _ _ ?_
      rw [br_t (by simpa using hlt), br_t (by simp), Int.toNat_natCast, gt_at _ hlt, operands_v, bd_s, next_ok i _ hlt (by omega), formOf_v, bd_s]
      rw [drop_at _ _ hlt]
      simp only [costP]
      by_cases c : arity e[i].1 > 0
      · have hn : nCost e[i] = opCost e[i].1 := by unfold nCost; rw [if_pos c]
        rw [br_t (by simpa using c), formP_cost c, wrap_ok (by omega) (by omega), ih (i + 1) _ (by omega) (by omega) (by omega), hn]
        congr 1; omega
      · have hn : nCost e[i] = 0 := by unfold nCost; rw [if_neg c]
        rw [br_f (by simpa using c), ih (i + 1) _ (by omega) (by omega) (by omega), hn]
        congr 1; omega
  exact impl_costOf.vs _ (by have := key e.length 0 0 (by omega) (by omega) (by omega); simpa using this)
theorem timesIn_v (e : List Nd) (hl : e.length ≤ 1048576) (v : Int) : impl_timesIn.v e v = some (((e.countP (nodeEq (tIn, (0 : Int), (0 : Int), v)) : Nat) : Int)) := by
  have key : ∀ (d i a : Nat), i + d = e.length → a ≤ i → impl_timesIn.v0 v (a : Int) e (e.length : Int) (i : Int) = some (((a + (e.drop i).countP (nodeEq (tIn, (0 : Int), (0 : Int), v)) : Nat) : Int)) := by
    intro d
    induction d with
    | zero =>
      intro i a hi h1
      refine impl_timesIn.v0s _ _ _ _ _ ?_
      rw [List.drop_eq_nil_of_le (by omega), br_f (by simp; omega)]
      simp
    | succ d ih =>
      intro i a hi h1
      have hlt : i < e.length := by omega
      refine impl_timesIn.v0s _ _ _ _ _ ?_
      rw [br_t (by simpa using hlt), br_t (by simp), Int.toNat_natCast, gt_at _ hlt, next_ok i _ hlt (by omega), drop_at _ _ hlt, List.countP_cons, impl_bit.eq]
      have hq : ((e[i].1 == (⟨#[105, 110]⟩ : ByteArray)) && ((e[i].2.1 == (0 : Int)) && ((e[i].2.2.1 == (0 : Int)) && ((e[i].2.2.2 == v) && true)))) = nodeEq (tIn, (0 : Int), (0 : Int), v) e[i] := by
        show nodeEq e[i] (tIn, (0 : Int), (0 : Int), v) = _
        rw [Bool.eq_iff_iff, nodeEq_iff, nodeEq_iff]
        exact eq_comm
      rw [hq]
      cases hc : nodeEq (tIn, (0 : Int), (0 : Int), v) e[i]
      · rw [br_f rfl, bd_s, wrap_ok (by omega) (by omega)]
        have := ih (i + 1) a (by omega) (by omega)
        simpa using this
      · rw [br_t rfl, bd_s, wrap_ok (by omega) (by omega)]
        have := ih (i + 1) (a + 1) (by omega) (by omega)
        rw [show ((a : Int) + 1) = ((a + 1 : Nat) : Int) from rfl, this]
        congr 2
        simp; omega
  exact impl_timesIn.vs _ _ (by have := key e.length 0 0 (by omega) (by omega); simpa using this)
theorem isH_of {n : Nd} {i : Int} (h : nodeOk n i = true) (v : Int) : isH v n = nodeEq (tIn, (0 : Int), (0 : Int), v) n := by
  rw [Bool.eq_iff_iff]
  unfold isH
  rw [nodeEq_iff, Bool.and_eq_true, decide_eq_true_iff, decide_eq_true_iff]
  obtain ⟨o, a, b, c⟩ := n
  constructor
  · rintro ⟨e1, e2⟩
    simp only at e1 e2
    subst e1 e2
    simp [nodeOk] at h
    simp [h]
  · intro e
    simp only [Prod.mk.injEq] at e
    simp [← e.1, ← e.2.2.2]
theorem cntH_of {e : List Nd} (hn : nodesOk e 0 = true) (v : Int) : e.countP (nodeEq (tIn, (0 : Int), (0 : Int), v)) = cntH e v := by
  unfold cntH
  refine List.countP_congr fun n hm => ?_
  obtain ⟨j, hj, rfl⟩ := List.getElem_of_mem hm
  have := nodesOk_get e 0 hn j hj
  rw [isH_of this]
def fallP (r : Rl) : Bool := decide (costP r.2.1 < costP r.1) && (decide (cntH r.2.1 0 ≤ cntH r.1 0) && decide (cntH r.2.1 1 ≤ cntH r.1 1))
theorem ruHoles_v (e : List Nd) (hl : e.length ≤ 1048576) : spec_ruHoles.v e = some ((cntH e 0 : Int), (cntH e 1 : Int)) := ev_lim (ruHoles_ev e hl)
theorem ruFalling_v (r : Rl) (h : Short r) : spec_ruFalling.v r = some (fallP r) := by
  refine spec_ruFalling.vs _ ?_
  simp only [ruHoles_v _ h.l, ruHoles_v _ h.r, ruCost_v _ h.l, ruCost_v _ h.r, bd_s, br_if, fallP]
  by_cases c1 : costP r.2.1 < costP r.1 <;> by_cases c2 : cntH r.2.1 0 ≤ cntH r.1 0 <;> simp [c1, c2]
theorem ruleOk_nodes {r : Rl} (h : ruleOk r = true) : nodesOk r.1 0 = true ∧ nodesOk r.2.1 0 = true := by
  unfold ruleOk at h
  simp only [Bool.and_eq_true] at h
  exact ⟨(walked_expr h.2.1).1, (walked_expr h.2.2.1).1⟩
theorem isFalling_v (r : Rl) (h : Short r) (hr : ruleOk r = true) : impl_isFalling.v r = some (fallP r) := by
  obtain ⟨n1, n2⟩ := ruleOk_nodes hr
  refine impl_isFalling.vs _ ?_
  simp only [costOf_v _ h.l, costOf_v _ h.r, timesIn_v _ h.l, timesIn_v _ h.r, cntH_of n1, cntH_of n2, bd_s, br_if, fallP]
  by_cases c1 : costP r.2.1 < costP r.1 <;> by_cases c2 : cntH r.2.1 0 ≤ cntH r.1 0 <;> simp [c1, c2]
theorem ruGood_v (r : Rl) (h : Short r) : spec_ruGood.v r = some (ruleOk r) := ev_lim (ruGood_ev r h.l h.r)
theorem isRule_v (r : Rl) (h : Short r) : impl_IsRule.v r = some (ruleOk r) := ev_lim (isRule_ev r h.l h.r)
end Go.Proofs.Ytohfaccniialmaa.Am
end
section
/- What ops make of words, what expressions are for inputs, their tables: the program's functions and the reference's answer alike. -/
namespace Go.Proofs.Ytohfaccniialmaa.Am
open Go
set_option linter.unusedVariables false
set_option linter.unusedSimpArgs false

def word (x : Int) : Prop := 0 ≤ x ∧ x ≤ 63
theorem and63 (x : BitVec 64) : ((x &&& BitVec.ofInt 64 63).toNat) ≤ 63 := by
  rw [BitVec.toNat_and]
  exact Nat.and_le_right
theorem wand63 (x : BitVec 64) : word (IntKind.wrap .i64 (((x &&& BitVec.ofInt 64 63).toNat : Nat) : Int)) := by
  have := and63 x
  rw [wrap_ok (by omega) (by omega)]
  exact ⟨by omega, by omega⟩
def isW (x : Option Int) : Prop := ∃ r, x = some r ∧ word r
theorem isW_ite {c : Prop} [Decidable c] {x y : Option Int} (hx : isW x) (hy : isW y) : isW (if c then x else y) := by split <;> assumption
theorem isW_and (x : BitVec 64) : isW (some (IntKind.wrap .i64 (((x &&& BitVec.ofInt 64 63).toNat : Nat) : Int))) := ⟨_, rfl, wand63 x⟩
theorem apply_some (s : ByteArray) (a b : Int) (hb : 0 ≤ b) : isW (impl_apply.f s a b) := by
  rw [impl_apply.eq]
  simp only [impl_bit.eq, br_if, bd_ite, bd_s, hb, decide_true, if_true]
  repeat' first | exact isW_and _ | apply isW_ite
noncomputable def appP (s : ByteArray) (a b : Int) : Int := (impl_apply.f s a b).getD 0
theorem apply_f (s : ByteArray) (a b : Int) (hb : 0 ≤ b) : impl_apply.f s a b = some (appP s a b) := by
  obtain ⟨r, h, _⟩ := apply_some s a b hb
  unfold appP; rw [h]; rfl
theorem appP_word (s : ByteArray) (a b : Int) (hb : 0 ≤ b) : word (appP s a b) := by
  obtain ⟨r, h, hw⟩ := apply_some s a b hb
  unfold appP; rw [h]; exact hw
theorem exApply_eq (s : ByteArray) (a b : Int) : spec_exApply.f s a b = impl_apply.f s a b := by
  rw [spec_exApply.eq, impl_apply.eq]
  simp only [impl_bit.eq, br_if, bd_ite, bd_s]
  repeat' split
  all_goals first | rfl | simp_all
theorem exApply_f (s : ByteArray) (a b : Int) (hb : 0 ≤ b) : spec_exApply.f s a b = some (appP s a b) := by rw [exApply_eq, apply_f s a b hb]
theorem appP_one {s : ByteArray} (h : isOne s = true) (a b : Int) : appP s a b = appP s a 0 := by
  unfold appP
  rcases isOne_mem h with rfl | rfl <;> rw [impl_apply.eq, impl_apply.eq] <;> simp [br_if, seq_beq]

/-! ### the values of all nodes -/
noncomputable def nVal (x0 x1 : Int) (o : List Int) (n : Nd) : Int :=
  if n.1 = tConst then n.2.2.2 else if n.1 = tIn then (if n.2.2.2 = 0 then x0 else x1)
  else if isOne n.1 = true then appP n.1 (o.getD n.2.1.toNat 0) 0 else appP n.1 (o.getD n.2.1.toNat 0) (o.getD n.2.2.1.toNat 0)
noncomputable def valsP (x0 x1 : Int) (e : List Nd) : List Int := e.foldl (fun o n => o ++ [nVal x0 x1 o n]) []
theorem vals_len (x0 x1 : Int) : ∀ (e : List Nd) (o : List Int), (e.foldl (fun o n => o ++ [nVal x0 x1 o n]) o).length = o.length + e.length
  | [], o => rfl
  | n :: r, o => by rw [List.foldl_cons, vals_len x0 x1 r]; simp; omega
theorem valsP_len (x0 x1 : Int) (e : List Nd) : (valsP x0 x1 e).length = e.length := by unfold valsP; rw [vals_len]; simp
theorem valsP_take (x0 x1 : Int) {e : List Nd} {i : Nat} (h : i < e.length) : valsP x0 x1 (e.take (i + 1)) = valsP x0 x1 (e.take i) ++ [nVal x0 x1 (valsP x0 x1 (e.take i)) e[i]] := take_fold _ _ _ i h
def words (l : List Int) : Prop := ∀ x ∈ l, word x
theorem words_get {l : List Int} (h : words l) (j : Nat) : word (l.getD j 0) := by
  rw [List.getD_eq_getElem?_getD]
  by_cases c : j < l.length
  · rw [List.getElem?_eq_getElem c]; exact h _ (List.getElem_mem c)
  · rw [List.getElem?_eq_none (Nat.le_of_not_lt c)]; exact ⟨by decide, by decide⟩
theorem nVal_word {x0 x1 : Int} (h0 : word x0) (h1 : word x1) {o : List Int} (ho : words o) {n : Nd} {i : Int} (hn : nodeOk n i = true) : word (nVal x0 x1 o n) := by
  unfold nVal
  split
  · rename_i c
    unfold nodeOk at hn
    rw [if_neg (by rw [c]; decide), if_pos c] at hn
    simp only [Bool.and_eq_true, inB_iff] at hn
    exact hn.2
  · split
    · split
      · exact h0
      · exact h1
    · split
      · exact appP_word _ _ _ (by omega)
      · exact appP_word _ _ _ (words_get ho _).1
theorem valsP_words {x0 x1 : Int} (h0 : word x0) (h1 : word x1) {e : List Nd} (hn : nodesOk e 0 = true) : ∀ i, i ≤ e.length → words (valsP x0 x1 (e.take i)) := by
  intro i
  induction i with
  | zero => intro _ x hx; simp [valsP] at hx
  | succ i ih =>
    intro hi
    have ih := ih (by omega)
    rw [valsP_take x0 x1 (by omega)]
    intro x hx
    rcases List.mem_append.1 hx with hx | hx
    · exact ih x hx
    · simp only [List.mem_singleton] at hx
      subst hx
      have := nodesOk_get e 0 hn i (by omega)
      exact nVal_word h0 h1 ih this
theorem in_val {n : Nd} {i : Int} (h : nodeOk n i = true) (c : n.1 = tIn) : n.2.2.2 = 0 ∨ n.2.2.2 = 1 := by
  obtain ⟨v, hv, e⟩ := hole_val h c
  rcases Nat.lt_or_ge v 1 with q | q
  · exact .inl (by omega)
  · exact .inr (by omega)
theorem room8 {n m : Nat} (hn : n ≤ 1000000) (hm : m ≤ 1000000) : decide (n + m ≤ 35184372088832 / (8 + 1)) = true := decide_eq_true (by omega)
theorem getD_at {l : List Int} {p : Int} (h0 : 0 ≤ p) (h : p < l.length) : l[p.toNat]? = some (l.getD p.toNat 0) := by
  have hp : p.toNat < l.length := by omega
  rw [List.getD_eq_getElem?_getD, List.getElem?_eq_getElem hp]; rfl
theorem one_parts {n : Nd} {i : Nat} (h : nodeOk n i = true) (c1 : n.1 ≠ tIn) (c2 : n.1 ≠ tConst) : (0 ≤ n.2.1 ∧ n.2.1 < i) ∧ ((isOne n.1 = true ∧ n.2.2.1 = 0) ∨ (isOne n.1 = false ∧ 0 ≤ n.2.2.1 ∧ n.2.2.1 < i)) := by
  unfold nodeOk at h
  rw [if_neg c1, if_neg c2] at h
  split at h
  · rename_i h1
    simp only [Bool.and_eq_true, inB_iff, decide_eq_true_iff] at h
    exact ⟨by omega, .inl ⟨h1, by omega⟩⟩
  · rename_i h1
    simp only [Bool.and_eq_true, inB_iff, decide_eq_true_iff] at h
    exact ⟨by omega, .inr ⟨by simpa using h1, by omega⟩⟩
theorem exValues_v {e : List Nd} (hn : nodesOk e 0 = true) (hl : e.length ≤ 1000000) {x0 x1 : Int} (h0 : word x0) (h1 : word x1) : spec_exValues.v e x0 x1 = some (valsP x0 x1 e) := by
  have key : ∀ (d i : Nat), i + d = e.length → spec_exValues.v0 x0 x1 e (e.length : Int) (i : Int) (valsP x0 x1 (e.take i)) = some (valsP x0 x1 e) := by
    intro d
    induction d with
    | zero =>
      intro i hi
      refine spec_exValues.v0s _ _ _ _ _ _ ?_
      rw [br_f (by simp; omega), List.take_of_length_le (by omega)]
    | succ d ih =>
      intro i hi
      have hlt : i < e.length := by omega
      have hk := nodesOk_get e 0 hn i hlt
      rw [Nat.zero_add] at hk
      have hw := valsP_words h0 h1 hn i (by omega)
      have hvl : (valsP x0 x1 (e.take i)).length = i := by rw [valsP_len, List.length_take]; omega
      have go := ih (i + 1) (by omega)
      rw [valsP_take x0 x1 hlt] at go
      refine spec_exValues.v0s _ _ _ _ _ _ ?_
      rw [br_t (by simpa using hlt), br_t (by simp), Int.toNat_natCast, gt_at _ hlt, next_ok i _ hlt (by omega), seq_beq, seq_beq]
      have rm : ∀ x : Int, decide ((valsP x0 x1 (e.take i)).length + [x].length ≤ 35184372088832 / (8 + 1)) = true := fun x => room8 (by omega) (by simp)
      unfold nVal at go
      by_cases c2 : e[i].1 = tConst
      · rw [if_pos c2] at go
        rw [br_t (by simpa using c2), br_t (rm _)]; exact go
      · rw [if_neg c2] at go
        rw [br_f (by simpa using c2)]
        by_cases c1 : e[i].1 = tIn
        · rw [if_pos c1] at go
          rw [br_t (by simpa using c1)]
          by_cases v : e[i].2.2.2 = 0
          · rw [if_pos v] at go
            rw [br_t (by simpa using v), br_t (rm _)]; exact go
          · rw [if_neg v] at go
            rw [br_f (by simpa using v), br_t (by simpa using c1), br_t (rm _)]; exact go
        · rw [if_neg c1] at go
          obtain ⟨pa, pb⟩ := one_parts hk c1 c2
          rw [br_f (by simpa using c1), br_f (by simpa using c1), exOne_f, bd_s]
          rcases pb with ⟨ho, hb⟩ | ⟨ho, hb⟩
          · rw [if_pos ho] at go
            rw [br_t ho, br_t (by simpa using pa.1), br_t (by rw [hvl]; simpa using pa.2), gt_some (getD_at pa.1 (by rw [hvl]; exact pa.2)), exApply_f _ _ _ (by omega), bd_s, br_t (rm _)]
            exact go
          · rw [if_neg (by rw [ho]; decide)] at go
            rw [br_f ho, br_t (by simpa using pa.1), br_t (by rw [hvl]; simpa using pa.2), gt_some (getD_at pa.1 (by rw [hvl]; exact pa.2)), br_t (by simpa using hb.1), br_t (by rw [hvl]; simpa using hb.2), gt_some (getD_at hb.1 (by rw [hvl]; exact hb.2)), exApply_f _ _ _ (words_get hw _).1, bd_s, br_t (rm _)]
            exact go
  exact spec_exValues.vs _ _ _ (key e.length 0 (by omega))
theorem get_pad {l : List Int} {p : Int} (h0 : 0 ≤ p) (h : p < l.length) (m : Nat) : (l ++ List.replicate m (0 : Int))[p.toNat]? = some (l.getD p.toNat 0) := by
  rw [List.getElem?_append_left (by omega)]
  exact getD_at h0 h
theorem set_pad (l : List Int) (m : Nat) (x : Int) : (l ++ List.replicate (m + 1) (0 : Int)).set l.length x = (l ++ [x]) ++ List.replicate m 0 := by
  rw [List.replicate_succ, set_mid, List.append_assoc]; rfl
theorem values_v {e : List Nd} (hn : nodesOk e 0 = true) (hl : e.length ≤ 1000000) {x0 x1 : Int} (h0 : word x0) (h1 : word x1) : impl_values.v e x0 x1 = some (valsP x0 x1 e) := by
  have key : ∀ (d i : Nat), i + d = e.length → impl_values.v0 x0 x1 e (e.length : Int) (i : Int) (valsP x0 x1 (e.take i) ++ List.replicate d 0) = some (valsP x0 x1 e) := by
    intro d
    induction d with
    | zero =>
      intro i hi
      refine impl_values.v0s _ _ _ _ _ _ ?_
      rw [br_f (by simp; omega), List.take_of_length_le (by omega)]
      simp
    | succ d ih =>
      intro i hi
      have hlt : i < e.length := by omega
      have hk := nodesOk_get e 0 hn i hlt
      rw [Nat.zero_add] at hk
      have hw := valsP_words h0 h1 hn i (by omega)
      have hvl : (valsP x0 x1 (e.take i)).length = i := by rw [valsP_len, List.length_take]; omega
      have go := ih (i + 1) (by omega)
      rw [valsP_take x0 x1 hlt] at go
      have hs : ∀ x, (valsP x0 x1 (e.take i) ++ List.replicate (d + 1) (0 : Int)).set i x = (valsP x0 x1 (e.take i) ++ [x]) ++ List.replicate d 0 := fun x => by
        have := set_pad (valsP x0 x1 (e.take i)) d x
        rwa [hvl] at this
      have hln : (valsP x0 x1 (e.take i) ++ List.replicate (d + 1) (0 : Int)).length = e.length := by rw [List.length_append, hvl, List.length_replicate]; omega
      have hgi : ∃ z, (valsP x0 x1 (e.take i) ++ List.replicate (d + 1) (0 : Int))[i]? = some z := ⟨_, List.getElem?_eq_getElem (by rw [hln]; exact hlt)⟩
      obtain ⟨z, hz⟩ := hgi
      refine impl_values.v0s _ _ _ _ _ _ ?_
      rw [br_t (by simpa using hlt), br_t (by simp), Int.toNat_natCast, gt_at _ hlt, next_ok i _ hlt (by omega), seq_beq, seq_beq]
      unfold nVal at go
      by_cases c1 : e[i].1 = tIn
      · have c2 : ¬ e[i].1 = tConst := by rw [c1]; decide
        rw [if_neg c2, if_pos c1] at go
        rw [br_t (by simpa using c1)]
        rcases in_val hk c1 with v | v
        · rw [if_pos v] at go
          rw [v, br_t (by simp), br_t (by simp), show (0 : Int).toNat = 0 from rfl, gt_zero, br_t (by simp), br_t (by rw [hln]; simpa using hlt), gt_some hz, hs]
          exact go
        · rw [if_neg (by omega)] at go
          rw [v, br_t (by simp), br_t (by simp), show (1 : Int).toNat = 1 from rfl, gt_one, br_t (by simp), br_t (by rw [hln]; simpa using hlt), gt_some hz, hs]
          exact go
      · rw [br_f (by simpa using c1)]
        by_cases c2 : e[i].1 = tConst
        · rw [if_pos c2] at go
          rw [br_t (by simpa using c2), br_t (by simp), br_t (by rw [hln]; simpa using hlt), gt_some hz, hs]
          exact go
        · rw [if_neg c2, if_neg c1] at go
          rw [br_f (by simpa using c2)]
          obtain ⟨pa, pb⟩ := one_parts hk c1 c2
          have fin : ∀ b : Int, b = e[i].2.2.1 → 0 ≤ b → b < e.length → ∀ y, (valsP x0 x1 (e.take i) ++ List.replicate (d + 1) (0 : Int))[b.toNat]? = some y → 0 ≤ y → appP e[i].1 ((valsP x0 x1 (e.take i)).getD e[i].2.1.toNat 0) y = (if isOne e[i].1 = true then appP e[i].1 ((valsP x0 x1 (e.take i)).getD e[i].2.1.toNat 0) 0 else appP e[i].1 ((valsP x0 x1 (e.take i)).getD e[i].2.1.toNat 0) ((valsP x0 x1 (e.take i)).getD e[i].2.2.1.toNat 0)) →
              (br (decide ((0 : Int) ≤ e[i].2.1)) (br (decide (e[i].2.1 < (((valsP x0 x1 (e.take i) ++ List.replicate (d + 1) (0 : Int)).length : Nat) : Int))) (gt (valsP x0 x1 (e.take i) ++ List.replicate (d + 1) (0 : Int)) (Int.toNat e[i].2.1) fun r4 => br (decide ((0 : Int) ≤ e[i].2.2.1)) (br (decide (e[i].2.2.1 < (((valsP x0 x1 (e.take i) ++ List.replicate (d + 1) (0 : Int)).length : Nat) : Int))) (gt (valsP x0 x1 (e.take i) ++ List.replicate (d + 1) (0 : Int)) (Int.toNat e[i].2.2.1) fun r5 => bd (impl_apply.f e[i].1 r4 r5) fun r6 => br (decide ((0 : Int) ≤ (i : Int))) (br (decide ((i : Int) < (((valsP x0 x1 (e.take i) ++ List.replicate (d + 1) (0 : Int)).length : Nat) : Int))) (gt (valsP x0 x1 (e.take i) ++ List.replicate (d + 1) (0 : Int)) i fun r7 => impl_values.v0 x0 x1 e (e.length : Int) ((i + 1 : Nat) : Int) ((valsP x0 x1 (e.take i) ++ List.replicate (d + 1) (0 : Int)).set i r6)) none) none) none) none) none) none) = some (valsP x0 x1 e) := by
            intro b hb b0 b1 y hy y0 hq
            subst hb
            rw [br_t (by simpa using pa.1), br_t (by rw [hln]; simp; omega), gt_some (get_pad pa.1 (by rw [hvl]; exact pa.2) _), br_t (by simpa using b0), br_t (by rw [hln]; simpa using b1), gt_some hy, apply_f _ _ _ y0, bd_s, br_t (by simp), br_t (by rw [hln]; simpa using hlt), gt_some hz, hs, hq]
            exact go
          rcases pb with ⟨ho, hb⟩ | ⟨ho, hb⟩
          · -- one operand: the other place is 0
            have h00 : ∃ y, (valsP x0 x1 (e.take i) ++ List.replicate (d + 1) (0 : Int))[(0 : Int).toNat]? = some y ∧ 0 ≤ y := by
              by_cases hi0 : i = 0
              · refine ⟨0, ?_, by omega⟩
                have : valsP x0 x1 (e.take i) = [] := List.length_eq_zero_iff.1 (by omega)
                rw [this]; rfl
              · exact ⟨_, get_pad (p := 0) (by omega) (by omega) _, (words_get hw _).1⟩
            obtain ⟨y, hy, hy0⟩ := h00
            exact fin e[i].2.2.1 rfl (by omega) (by omega) y (by rw [hb]; exact hy) hy0 (by rw [if_pos ho, appP_one ho])
          · exact fin e[i].2.2.1 rfl hb.1 (by omega) _ (get_pad hb.1 (by rw [hvl]; exact hb.2) _) (words_get hw _).1 (by rw [if_neg (by rw [ho]; decide)])
  refine impl_values.vs _ _ _ ?_
  rw [br_t (by simp), br_t (by simp; omega), Int.toNat_natCast]
  have := key e.length 0 (by omega)
  simpa [valsP] using this
noncomputable def evalP (e : List Nd) (x0 x1 : Int) : Int := (valsP x0 x1 e).getD (e.length - 1) 0
theorem evalP_word {e : List Nd} (hn : nodesOk e 0 = true) {x0 x1 : Int} (h0 : word x0) (h1 : word x1) : word (evalP e x0 x1) := by
  have := valsP_words h0 h1 hn e.length (Nat.le_refl _)
  rw [List.take_of_length_le (Nat.le_refl _)] at this
  exact words_get this _
theorem eval_last {e : List Nd} (h1 : 1 ≤ e.length) (x0 x1 : Int) : (valsP x0 x1 e)[e.length - 1]? = some (evalP e x0 x1) := by
  unfold evalP
  have hl := valsP_len x0 x1 e
  rw [List.getD_eq_getElem?_getD, List.getElem?_eq_getElem (by omega)]; rfl
theorem exAt_v {e : List Nd} (hn : nodesOk e 0 = true) (hl1 : 1 ≤ e.length) (hl : e.length ≤ 1000000) {x0 x1 : Int} (h0 : word x0) (h1 : word x1) : spec_exAt.v e x0 x1 = some (evalP e x0 x1) := by
  refine spec_exAt.vs _ _ _ ?_
  rw [exValues_v hn hl h0 h1, bd_s, last_w hl1 (by omega), br_t (by simp), Int.toNat_natCast, gt_some (eval_last hl1 x0 x1)]
theorem eval_v {e : List Nd} (hn : nodesOk e 0 = true) (hl1 : 1 ≤ e.length) (hl : e.length ≤ 1000000) {x0 x1 : Int} (h0 : word x0) (h1 : word x1) : impl_eval.v e x0 x1 = some (evalP e x0 x1) := by
  refine impl_eval.vs _ _ _ ?_
  rw [values_v hn hl h0 h1, bd_s, last_w hl1 (by omega), br_t (by simp), Int.toNat_natCast, gt_some (eval_last hl1 x0 x1)]
/-! ### tables -/
noncomputable def tabU (e : List Nd) (m : Nat) : List Int := (List.range m).map fun i => evalP e ((i / 64 : Nat) : Int) ((i % 64 : Nat) : Int)
theorem tabU_len (e : List Nd) (m : Nat) : (tabU e m).length = m := by simp [tabU]
theorem tabU_zero (e : List Nd) : tabU e (64 * 0) = [] := rfl
theorem tabU_succ (e : List Nd) {a b : Nat} (hb : b < 64) : tabU e (64 * a + b) ++ [evalP e (a : Int) (b : Int)] = tabU e (64 * a + (b + 1)) := by
  unfold tabU
  rw [show 64 * a + (b + 1) = (64 * a + b) + 1 by omega, List.range_succ, List.map_append]
  simp only [List.map_cons, List.map_nil]
  rw [show (64 * a + b) / 64 = a by omega, show (64 * a + b) % 64 = b by omega]
noncomputable def tabP (e : List Nd) : List Int := tabU e 4096
theorem exTable_v {e : List Nd} (hn : nodesOk e 0 = true) (hl1 : 1 ≤ e.length) (hl : e.length ≤ 1000000) : spec_exTable.v e = some (tabP e) := by
  have outer : ∀ (d a : Nat), a + d = 64 → spec_exTable.v0 e (a : Int) (tabU e (64 * a)) = some (tabP e) := by
    intro d
    induction d with
    | zero =>
      intro a ha
      obtain rfl : a = 64 := by omega
      exact spec_exTable.v0s _ _ _ (br_f (by decide))
    | succ d ih =>
      intro a ha
      have inner : ∀ (c b : Nat), b + c = 64 → spec_exTable.v1 e (a : Int) (b : Int) (tabU e (64 * a + b)) = some (tabP e) := by
        intro c
        induction c with
        | zero =>
          intro b hb
          obtain rfl : b = 64 := by omega
          refine spec_exTable.v1s _ _ _ _ ?_
          rw [br_f (by decide), next_ok a 64 (by omega) (by omega)]
          exact ih (a + 1) (by omega)
        | succ c ihc =>
          intro b hb
          refine spec_exTable.v1s _ _ _ _ ?_
          rw [br_t (decide_eq_true (by omega)), exAt_v hn hl1 hl ⟨by omega, by omega⟩ ⟨by omega, by omega⟩, bd_s, br_t (room8 (by rw [tabU_len]; omega) (by simp)), next_ok b 64 (by omega) (by omega), tabU_succ e (by omega)]
          exact ihc (b + 1) (by omega)
      refine spec_exTable.v0s _ _ _ ?_
      rw [br_t (decide_eq_true (by omega))]
      exact inner 64 0 (by omega)
  have h := outer 64 0 (by omega)
  rw [tabU_zero] at h
  exact spec_exTable.vs _ h
theorem table_v {e : List Nd} (hn : nodesOk e 0 = true) (hl1 : 1 ≤ e.length) (hl : e.length ≤ 1000000) : impl_tableOf.v e = some (tabP e) := by
  have outer : ∀ (d a : Nat), a + d = 64 → impl_table.v0 e (a : Int) (tabU e (64 * a)) = some (tabP e, ()) := by
    intro d
    induction d with
    | zero =>
      intro a ha
      obtain rfl : a = 64 := by omega
      exact impl_table.v0s _ _ _ (br_f (by decide))
    | succ d ih =>
      intro a ha
      have inner : ∀ (c b : Nat), b + c = 64 → impl_table.v1 e (a : Int) (a : Int) (b : Int) (tabU e (64 * a + b)) = some (tabP e, ()) := by
        intro c
        induction c with
        | zero =>
          intro b hb
          obtain rfl : b = 64 := by omega
          refine impl_table.v1s _ _ _ _ _ ?_
          rw [br_f (by decide), next_ok a 64 (by omega) (by omega)]
          exact ih (a + 1) (by omega)
        | succ c ihc =>
          intro b hb
          refine impl_table.v1s _ _ _ _ _ ?_
          rw [br_t (decide_eq_true (by omega)), show impl_tableOf_1.v (a : Int) (b : Int) e = some (evalP e (a : Int) (b : Int)) from impl_tableOf_1.vs _ _ _ (by rw [eval_v hn hl1 hl ⟨by omega, by omega⟩ ⟨by omega, by omega⟩]; rfl), bd_s, br_t (room8 (by rw [tabU_len]; omega) (by simp)), next_ok b 64 (by omega) (by omega), tabU_succ e (by omega)]
          exact ihc (b + 1) (by omega)
      refine impl_table.v0s _ _ _ ?_
      rw [br_t (decide_eq_true (by omega))]
      exact inner 64 0 (by omega)
  have h := outer 64 0 (by omega)
  rw [tabU_zero] at h
  exact impl_tableOf.vs _ (by rw [impl_table.vs _ h, bd_s])
end Go.Proofs.Ytohfaccniialmaa.Am
end
section
/- Where a rule matches: the program's function and the reference's answer alike. -/
namespace Go.Proofs.Ytohfaccniialmaa.Am
open Go
set_option linter.unusedVariables false
set_option linter.unusedSimpArgs false

/-- the parts of a pattern, one by one -/
def matchPs (w : Int → Int → List Int → Bool × List Int) : List Int → List Int → List Int → Bool × List Int
  | [], _, h => (true, h)
  | _ :: _, [], h => (true, h)
  | x :: r, y :: q, h => if (w x y h).1 = true then matchPs w r q (w x y h).2 else (false, (w x y h).2)
/-- does the pattern p at k match the tree e at i; h: for which nodes its holes stand -/
def matchP (p e : List Nd) : Nat → Int → Int → List Int → Bool × List Int
  | 0, _, _, h => (false, h)
  | f + 1, k, i, h => match p[k.toNat]?, e[i.toNat]? with
    | some n, some m =>
      if n.1 = tIn then
        if 0 ≤ h.getD n.2.2.2.toNat 0 then (decide (wk e 25 (h.getD n.2.2.2.toNat 0) 0 = wk e 25 i 0), h) else (true, h.set n.2.2.2.toNat i)
      else if n.1 = m.1 ∧ n.2.2.2 = m.2.2.2 then matchPs (matchP p e f) (partsOf n) (partsOf m) h
      else (false, h)
    | _, _ => (false, h)
/-- holes that may be asked for -/
structure HOk (n : Nat) (h : List Int) : Prop where
  two : h.length = 2
  lt : ∀ x ∈ h, -1 ≤ x ∧ x < n
theorem HOk.get {n : Nat} {h : List Int} (k : HOk n h) {v : Nat} (hv : v < 2) : h[v]? = some (h.getD v 0) ∧ -1 ≤ h.getD v 0 ∧ h.getD v 0 < n := by
  have hl : v < h.length := by rw [k.two]; exact hv
  have e : h.getD v 0 = h[v] := by rw [List.getD_eq_getElem?_getD, List.getElem?_eq_getElem hl]; rfl
  rw [e]
  exact ⟨List.getElem?_eq_getElem hl, k.lt _ (List.getElem_mem hl)⟩
theorem HOk.set {n : Nat} {h : List Int} (k : HOk n h) (v : Nat) {i : Nat} (hi : i < n) : HOk n (h.set v (i : Int)) :=
  ⟨by rw [List.length_set]; exact k.two, fun x hx => by
    rcases List.mem_or_eq_of_mem_set hx with hx | rfl
    · exact k.lt x hx
    · omega⟩
theorem parts_same {n m : Nd} (h : n.1 = m.1) : (partsOf n).length = (partsOf m).length := by
  unfold partsOf; rw [h]; split <;> (try split) <;> rfl
theorem matchPs_ok {n : Nat} {w : Int → Int → List Int → Bool × List Int} : ∀ (xs ys : List Int) (h : List Int), (∀ x ∈ xs, ∀ y ∈ ys, ∀ h, HOk n h → HOk n (w x y h).2) → HOk n h → HOk n (matchPs w xs ys h).2
  | [], _, h, _, k => k
  | _ :: _, [], h, _, k => k
  | x :: r, y :: q, h, hw, k => by
    have h1 := hw x (by simp) y (by simp) h k
    simp only [matchPs]
    split
    · exact matchPs_ok r q _ (fun x' hx y' hy => hw x' (by simp [hx]) y' (by simp [hy])) h1
    · exact h1
theorem matchP_ok {p e : List Nd} (he : nodesOk e 0 = true) : ∀ (f : Nat) (k : Int) (i : Nat) (h : List Int), i < e.length → HOk e.length h → HOk e.length (matchP p e f k i h).2
  | 0, k, i, h, hi, hh => hh
  | f + 1, k, i, h, hi, hh => by
    simp only [matchP, Int.toNat_natCast, List.getElem?_eq_getElem hi]
    split
    · rename_i n m hn hm
      split
      · split
        · exact hh
        · exact hh.set _ hi
      · split
        · refine matchPs_ok _ _ _ (fun x hx y hy h hh => ?_) hh
          have hm := (Option.some.inj hm).symm
          subst hm
          obtain ⟨h0, h1⟩ := exParts_in he hi y hy
          obtain ⟨q, rfl⟩ := Int.eq_ofNat_of_zero_le h0
          exact matchP_ok he f x q h (by omega) hh
        · exact hh
    · exact hh
theorem fits_parts {p e : List Nd} {w : Int → Int → List Int → Bool × List Int} {xs ys : List Int} (hl : xs.length = ys.length) (h2 : xs.length ≤ 2) (hw : ∀ x ∈ xs, ∀ y ∈ ys, ∀ h, HOk e.length h → spec_ruBound_fits.v p x y e h = some ((w x y h).1, ((e, ()), (w x y h).2)) ∧ HOk e.length (w x y h).2) :
    ∀ (d j : Nat) (h : List Int), j + d = xs.length → HOk e.length h → spec_ruBound_fits.v0 p ys xs (xs.length : Int) (j : Int) e h = some ((matchPs w (xs.drop j) (ys.drop j) h).1, ((e, ()), (matchPs w (xs.drop j) (ys.drop j) h).2)) := by
  intro d
  induction d with
  | zero =>
    intro j h hj hh
    refine spec_ruBound_fits.v0s _ _ _ _ _ _ _ ?_
    rw [br_f (by simp; omega), List.drop_eq_nil_of_le (by omega)]
    rfl
  | succ d ih =>
    intro j h hj hh
    have hx : j < xs.length := by omega
    have hy : j < ys.length := by omega
    obtain ⟨e1, e2⟩ := hw _ (List.getElem_mem hx) _ (List.getElem_mem hy) h hh
    refine spec_ruBound_fits.v0s _ _ _ _ _ _ _ ?_
    rw [br_t (by simpa using hx), br_t (by simp), Int.toNat_natCast, gt_at _ hx, br_t (by simp), gt_at _ hy, e1, bd_s, next_ok j _ hx (by omega), ih (j + 1) _ (by omega) e2, drop_at _ _ hx, drop_at _ _ hy]
    simp only [matchPs, br_if]
    cases (w xs[j] ys[j] h).1 <;> rfl
theorem fits_v {p e : List Nd} (hp : nodesOk p 0 = true) (he : nodesOk e 0 = true) (h24 : e.length ≤ 24) : ∀ (f k i : Nat) (h : List Int), k < p.length → i < e.length → k < f → HOk e.length h →
    spec_ruBound_fits.v p (k : Int) (i : Int) e h = some ((matchP p e f k i h).1, ((e, ()), (matchP p e f k i h).2))
  | 0, _, _, _, _, _, hf, _ => by omega
  | f + 1, k, i, h, hk, hi, hf, hh => by
    refine spec_ruBound_fits.vs _ _ _ _ _ ?_
    rw [br_t (by simp), Int.toNat_natCast, gt_at _ hk, br_t (by simp), Int.toNat_natCast, gt_at _ hi]
    simp only [matchP, Int.toNat_natCast, List.getElem?_eq_getElem hk, List.getElem?_eq_getElem hi]
    have hpk := nodesOk_get p 0 hp k hk
    by_cases c : p[k].1 = tIn
    · obtain ⟨v, hv, ev⟩ := hole_val hpk c
      obtain ⟨g1, g2, g3⟩ := hh.get hv
      rw [br_t (seq_t c), if_pos c, ev, br_t (by simp), br_t (by simp [hh.two]; omega), Int.toNat_natCast, gt_some g1]
      by_cases q : 0 ≤ h.getD v 0
      · obtain ⟨u, hu⟩ := Int.eq_ofNat_of_zero_le q
        rw [if_pos q, br_t (by simpa using q), br_t (by simp), br_t (by simp [hh.two]; omega), gt_some g1, hu, ruWalk_v he h24 (by omega), bd_s, ruWalk_v he h24 hi, bd_s]
        have hl := wk_len e 25 (u : Int) 0
        rw [ruSame_v _ _ (by have : 2 ^ 25 = 33554432 := rfl; omega), bd_s]
      · rw [if_neg q, br_f (by simpa using q), br_t (by simp), br_t (by simp [hh.two]; omega), gt_some g1]
    · rw [br_f (seq_f c), if_neg c]
      by_cases c1 : p[k].1 = e[i].1
      · by_cases c2 : p[k].2.2.2 = e[i].2.2.2
        · rw [if_pos ⟨c1, c2⟩, br_f (by rw [seq_t c1]; rfl), br_f (by simp [c2]), exParts_v, bd_s, exParts_v, bd_s]
          have := fits_parts (p := p) (e := e) (w := matchP p e f) (xs := partsOf p[k]) (ys := partsOf e[i]) (parts_same c1) (parts_le _) (fun x hx y hy h hh => by
            obtain ⟨x0, x1⟩ := exParts_in hp hk x hx
            obtain ⟨y0, y1⟩ := exParts_in he hi y hy
            obtain ⟨a, rfl⟩ := Int.eq_ofNat_of_zero_le x0
            obtain ⟨b, rfl⟩ := Int.eq_ofNat_of_zero_le y0
            exact ⟨fits_v hp he h24 f a b h (by omega) (by omega) (by omega) hh, matchP_ok he f _ b h (by omega) hh⟩) (partsOf p[k]).length 0 h (by omega) hh
          simpa using this
        · rw [if_neg (fun q => c2 q.2), br_f (by rw [seq_t c1]; rfl), br_t (by simpa using c2)]
      · rw [if_neg (fun q => c1 q.1), br_t (by rw [seq_f c1]; rfl)]
theorem match_parts {p e : List Nd} {m : Nd} {w : Int → Int → List Int → Bool × List Int} {xs : List Int} (hl : xs.length = (partsOf m).length) (h2 : xs.length ≤ 2) (hw : ∀ x ∈ xs, ∀ y ∈ partsOf m, ∀ h, HOk e.length h → impl_match.v p x e y h = some (w x y h) ∧ HOk e.length (w x y h).2) :
    ∀ (d j : Nat) (h : List Int), j + d = xs.length → HOk e.length h → impl_match.v0 p e xs (xs.length : Int) (j : Int) h m.1 m.2.1 m.2.2.1 m.2.2.2 = some (matchPs w (xs.drop j) ((partsOf m).drop j) h) := by
  intro d
  induction d with
  | zero =>
    intro j h hj hh
    refine impl_match.v0s _ _ _ _ _ _ _ _ _ _ ?_
    rw [br_f (by simp; omega), List.drop_eq_nil_of_le (by omega)]
    rfl
  | succ d ih =>
    intro j h hj hh
    have hx : j < xs.length := by omega
    have hy : j < (partsOf m).length := by omega
    obtain ⟨e1, e2⟩ := hw _ (List.getElem_mem hx) _ (List.getElem_mem hy) h hh
    refine impl_match.v0s _ _ _ _ _ _ _ _ _ _ ?_
    rw [br_t (by simpa using hx), br_t (by simp), Int.toNat_natCast, gt_at _ hx, of_v, bd_s, br_t (by simp), gt_at _ hy, e1, bd_s, next_ok j _ hx (by omega), ih (j + 1) _ (by omega) e2, drop_at _ _ hx, drop_at _ _ hy]
    simp only [matchPs, br_if]
    cases hc : (w xs[j] (partsOf m)[j] h).1 <;> simp
theorem sameTree_v {e : List Nd} (h : treeOk e = true) {i k : Nat} (hi : i < e.length) (hk : k < e.length) : impl_sameTree.v e (i : Int) (k : Int) = some (decide (wk e 25 i 0 = wk e 25 k 0)) := by
  have := wk_tree h (f := 25) 0 hi (by have := (treeOk_parts h).2.2.1; omega)
  exact impl_sameTree.vs _ _ _ (by simp only [grow_tree h hi, grow_tree h hk, bd_s]; rw [equalN_v _ _ (by have := (treeOk_parts h).2.2.1; omega)]; rfl)
theorem match_v {p e : List Nd} (hp : nodesOk p 0 = true) (ht : treeOk e = true) : ∀ (f k i : Nat) (h : List Int), k < p.length → i < e.length → k < f → HOk e.length h →
    impl_match.v p (k : Int) e (i : Int) h = some (matchP p e f k i h)
  | 0, _, _, _, _, _, hf, _ => by omega
  | f + 1, k, i, h, hk, hi, hf, hh => by
    have he := (treeOk_parts ht).1
    refine impl_match.vs _ _ _ _ _ ?_
    rw [br_t (by simp), Int.toNat_natCast, gt_at _ hk, br_t (by simp), Int.toNat_natCast, gt_at _ hi]
    simp only [matchP, Int.toNat_natCast, List.getElem?_eq_getElem hk, List.getElem?_eq_getElem hi]
    have hpk := nodesOk_get p 0 hp k hk
    by_cases c : p[k].1 = tIn
    · obtain ⟨v, hv, ev⟩ := hole_val hpk c
      obtain ⟨g1, g2, g3⟩ := hh.get hv
      rw [br_t (seq_t c), if_pos c, ev, br_t (by simp), br_t (by simp [hh.two]; omega), Int.toNat_natCast, gt_some g1]
      by_cases q : 0 ≤ h.getD v 0
      · obtain ⟨u, hu⟩ := Int.eq_ofNat_of_zero_le q
        rw [if_pos q, br_f (by simpa using q), br_t (by simp), br_t (by simp [hh.two]; omega), gt_some g1, hu, sameTree_v ht (by omega) hi, bd_s]
      · rw [if_neg q, br_t (decide_eq_true (by omega)), br_t (by simp), br_t (by simp [hh.two]; omega), gt_some g1]
    · rw [br_f (seq_f c), if_neg c]
      by_cases c1 : p[k].1 = e[i].1
      · by_cases c2 : p[k].2.2.2 = e[i].2.2.2
        · rw [if_pos ⟨c1, c2⟩, br_f (by rw [seq_t c1]; rfl), br_f (by simp [c2]), of_v, bd_s]
          have := match_parts (p := p) (e := e) (m := e[i]) (w := matchP p e f) (xs := partsOf p[k]) (parts_same c1) (parts_le _) (fun x hx y hy h hh => by
            obtain ⟨x0, x1⟩ := exParts_in hp hk x hx
            obtain ⟨y0, y1⟩ := exParts_in he hi y hy
            obtain ⟨a, rfl⟩ := Int.eq_ofNat_of_zero_le x0
            obtain ⟨b, rfl⟩ := Int.eq_ofNat_of_zero_le y0
            exact ⟨match_v hp ht f a b h (by omega) (by omega) (by omega) hh, matchP_ok he f _ b h (by omega) hh⟩) (partsOf p[k]).length 0 h (by omega) hh
          simpa using this
        · rw [if_neg (fun q => c2 q.2), br_f (by rw [seq_t c1]; rfl), br_t (by simpa using c2)]
      · rw [if_neg (fun q => c1 q.1), br_t (by rw [seq_f c1]; rfl)]
/-- does a side tell a word -/
theorem tells_eq (s : ByteArray) (n : Int) : spec_ruFits.f s n = impl_tells.f s n := by
  rw [spec_ruFits.eq, impl_tells.eq, l1In_f, within_f]
theorem tells_some (s : ByteArray) (n : Int) : ∃ b, impl_tells.f s n = some b := by
  rw [impl_tells.eq, within_f]
  simp only [br_if, bd_s]
  repeat' split
  all_goals exact ⟨_, rfl⟩
noncomputable def tellsP (s : ByteArray) (n : Int) : Bool := (impl_tells.f s n).getD false
theorem tells_f (s : ByteArray) (n : Int) : impl_tells.f s n = some (tellsP s n) := by
  obtain ⟨b, h⟩ := tells_some s n
  unfold tellsP; rw [h]; rfl
theorem ruFits_f (s : ByteArray) (n : Int) : spec_ruFits.f s n = some (tellsP s n) := by rw [tells_eq, tells_f]
/-- where a rule matches: for which nodes its holes stand -/
noncomputable def matchR (r : Rl) (e : List Nd) (i : Int) : List Int × Bool :=
  if (matchP r.1 e 24 ((r.1.length - 1 : Nat) : Int) i [-1, -1]).1 = true then
    if r.2.2 = tAny then ((matchP r.1 e 24 ((r.1.length - 1 : Nat) : Int) i [-1, -1]).2, true)
    else match e[((matchP r.1 e 24 ((r.1.length - 1 : Nat) : Int) i [-1, -1]).2.getD 1 0).toNat]? with
      | some n => if n.1 = tConst ∧ tellsP r.2.2 n.2.2.2 = true then ((matchP r.1 e 24 ((r.1.length - 1 : Nat) : Int) i [-1, -1]).2, true) else ([], false)
      | none => ([], false)
  else ([], false)
end Go.Proofs.Ytohfaccniialmaa.Am
end
section
/- The words that refuse a rule: the program's rows and the reference's count answer alike. -/
namespace Go.Proofs.Ytohfaccniialmaa.Am
open Go
set_option linter.unusedVariables false
set_option linter.unusedSimpArgs false

/-- indices at which tables differ -/
noncomputable def difN (a b : List Int) : List Nat → List Int
  | [] => []
  | i :: l => if a.getD i 0 = b.getD i 0 then difN a b l else (i : Int) :: difN a b l
theorem rangeD {i n : Nat} (h : i < n) : (List.range n).drop i = i :: (List.range n).drop (i + 1) := by
  rw [drop_at _ _ (by simpa using h)]; simp
theorem difN_len (a b : List Int) : ∀ l, (difN a b l).length ≤ l.length
  | [] => Nat.le_refl _
  | i :: l => by
    have := difN_len a b l
    simp only [difN]
    split <;> simp only [List.length_cons] <;> omega
theorem difN_mem (a b : List Int) : ∀ l x, x ∈ difN a b l → ∃ i ∈ l, x = (i : Int)
  | [], x, h => by simp [difN] at h
  | i :: l, x, h => by
    simp only [difN] at h
    split at h
    · obtain ⟨j, hj, e⟩ := difN_mem a b l x h
      exact ⟨j, by simp [hj], e⟩
    · rcases List.mem_cons.1 h with e | h
      · exact ⟨i, by simp, e⟩
      · obtain ⟨j, hj, e⟩ := difN_mem a b l x h
        exact ⟨j, by simp [hj], e⟩
theorem getD_get {l : List Int} {i : Nat} (h : i < l.length) : l[i] = l.getD i 0 := by
  rw [List.getD_eq_getElem?_getD, List.getElem?_eq_getElem h]; rfl
theorem differences_v (a b : List Int) (hl : a.length = b.length) (h : a.length ≤ 1000000) : impl_differences.v a b = some (difN a b (List.range a.length), ()) := by
  have key : ∀ (d i : Nat) (o : List Int), i + d = a.length → o.length ≤ i → impl_differences.v0 b a (a.length : Int) (i : Int) o = some (o ++ difN a b ((List.range a.length).drop i), ()) := by
    intro d
    induction d with
    | zero =>
      intro i o hi ho
      refine impl_differences.v0s _ _ _ _ _ ?_
      rw [br_f (by simp; omega), List.drop_eq_nil_of_le (by simp; omega)]
      simp [difN]
    | succ d ih =>
      intro i o hi ho
      have hlt : i < a.length := by omega
      refine impl_differences.v0s _ _ _ _ _ ?_
      rw [br_t (by simpa using hlt), br_t (by simp), Int.toNat_natCast, gt_at _ hlt, br_t (by simp), gt_at _ (show i < b.length by omega), next_ok i _ hlt (by omega), rangeD hlt]
      simp only [difN]
      rw [getD_get hlt, getD_get (show i < b.length by omega)]
      by_cases c : a.getD i 0 = b.getD i 0
      · rw [if_pos c, br_f (by rw [c]; simp), ih (i + 1) _ (by omega) (by omega)]
      · rw [if_neg c, br_t (by simp; exact fun e => c e.symm), br_t (room8 (by omega) (by simp)), ih (i + 1) _ (by omega) (by simp; omega)]
        simp
  exact impl_differences.vs _ _ (by have := key a.length 0 [] (by omega) (by simp); simpa using this)
/-! ### those that a side tells are kept -/
def keepI (q : Int → Bool) : List Int → List Int
  | [] => []
  | x :: r => if q x = true then x :: keepI q r else keepI q r
theorem keepI_len (q : Int → Bool) : ∀ l, (keepI q l).length ≤ l.length
  | [] => Nat.le_refl _
  | i :: l => by
    have := keepI_len q l
    simp only [keepI]
    split <;> simp only [List.length_cons] <;> omega
theorem keepI_all {q : Int → Bool} : ∀ {l : List Int}, (∀ x ∈ l, q x = true) → keepI q l = l
  | [], _ => rfl
  | x :: r, h => by simp only [keepI]; rw [if_pos (h x (by simp)), keepI_all fun y hy => h y (by simp [hy])]
theorem keepI_app (q : Int → Bool) : ∀ (l m : List Int), keepI q (l ++ m) = keepI q l ++ keepI q m
  | [], m => rfl
  | x :: r, m => by
    simp only [List.cons_append, keepI]
    split
    · rw [keepI_app q r m]; rfl
    · exact keepI_app q r m
noncomputable def sideQ (s : ByteArray) (x : Int) : Bool := tellsP s (Int.tmod x 64)
theorem refuting_1_f (x : Int) (p q : List Nd) (s : ByteArray) : impl_refuting_1.f x p q s = some (!sideQ s x) := by
  rw [impl_refuting_1.eq, tells_f]; rfl
/-- the first that goes -/
theorem index_ref (xs : List Int) (h : xs.length ≤ 1000000) (p q : List Nd) (s : ByteArray) : (slices_IndexFunc_int_refuting.v xs p q s = some (-1) ∧ ∀ x ∈ xs, sideQ s x = true) ∨ ∃ i : Nat, ∃ hi : i < xs.length, slices_IndexFunc_int_refuting.v xs p q s = some (i : Int) ∧ sideQ s xs[i] = false ∧ ∀ x ∈ xs.take i, sideQ s x = true := by
  have key : ∀ (d i : Nat), i + d = xs.length → (∀ x ∈ xs.take i, sideQ s x = true) → (slices_IndexFunc_int_refuting.v0 xs p q s (xs.length : Int) (i : Int) = some (-1) ∧ ∀ x ∈ xs, sideQ s x = true) ∨ ∃ j : Nat, ∃ hj : j < xs.length, slices_IndexFunc_int_refuting.v0 xs p q s (xs.length : Int) (i : Int) = some (j : Int) ∧ sideQ s xs[j] = false ∧ ∀ x ∈ xs.take j, sideQ s x = true := by
    intro d
    induction d with
    | zero =>
      intro i hi ha
      refine .inl ⟨slices_IndexFunc_int_refuting.v0s _ _ _ _ _ _ (br_f (by simp; omega)), ?_⟩
      rwa [List.take_of_length_le (by omega)] at ha
    | succ d ih =>
      intro i hi ha
      have hlt : i < xs.length := by omega
      by_cases c : sideQ s xs[i] = true
      · have ha' : ∀ x ∈ xs.take (i + 1), sideQ s x = true := by
          intro x hx
          rw [List.take_succ_eq_append_getElem hlt] at hx
          rcases List.mem_append.1 hx with hx | hx
          · exact ha x hx
          · simp only [List.mem_singleton] at hx; subst hx; exact c
        have st : ∀ r, slices_IndexFunc_int_refuting.v0 xs p q s (xs.length : Int) ((i + 1 : Nat) : Int) = some r → slices_IndexFunc_int_refuting.v0 xs p q s (xs.length : Int) (i : Int) = some r := fun r hr => by
          refine slices_IndexFunc_int_refuting.v0s _ _ _ _ _ _ ?_
          rw [br_t (by simpa using hlt), br_t (by simp), Int.toNat_natCast, gt_at _ hlt, refuting_1_f, bd_s, br_f (by rw [c]; rfl), next_ok i _ hlt (by omega)]
          exact hr
        rcases ih (i + 1) (by omega) ha' with ⟨h1, h2⟩ | ⟨j, hj, h1, h2⟩
        · exact .inl ⟨st _ h1, h2⟩
        · exact .inr ⟨j, hj, st _ h1, h2⟩
      · rw [Bool.not_eq_true] at c
        refine .inr ⟨i, hlt, slices_IndexFunc_int_refuting.v0s _ _ _ _ _ _ ?_, c, ha⟩
        rw [br_t (by simpa using hlt), br_t (by simp), Int.toNat_natCast, gt_at _ hlt, refuting_1_f, bd_s, br_t (by rw [c]; rfl)]
  rcases key xs.length 0 (by omega) (by simp) with ⟨h1, h2⟩ | ⟨j, hj, h1, h2⟩
  · exact .inl ⟨slices_IndexFunc_int_refuting.vs _ _ _ _ h1, h2⟩
  · exact .inr ⟨j, hj, slices_IndexFunc_int_refuting.vs _ _ _ _ h1, h2⟩
theorem take_set_app (l m : List Int) (x y : Int) (r : List Int) : ((l ++ x :: m) ++ r).set l.length y = (l ++ [y]) ++ (m ++ r) := by
  rw [List.append_assoc, List.cons_append, set_mid]; simp
theorem delete_v (xs : List Int) (h : xs.length ≤ 1000000) (p q : List Nd) (s : ByteArray) : slices_DeleteFunc_int.v p q s xs = some ((), keepI (sideQ s) xs) := by
  rcases index_ref xs h p q s with ⟨h1, h2⟩ | ⟨i, hi, h1, h2, h3⟩
  · refine slices_DeleteFunc_int.vs _ _ _ _ ?_
    rw [h1, bd_s, br_t (by simp), keepI_all h2]
  · -- kept so far, what stands behind it, what is left
    have loop : ∀ (r k g : List Int), 1 ≤ g.length → k.length + g.length + r.length ≤ 1000000 → slices_DeleteFunc_int.v0 p q s (k.length : Int) ((k.length + g.length : Nat) : Int) ((k ++ g) ++ r) = some ((), k ++ keepI (sideQ s) r) := by
      intro r
      induction r with
      | nil =>
        intro k g hg hl
        refine slices_DeleteFunc_int.v0s _ _ _ _ _ _ ?_
        have hlen : ((k ++ g) ++ ([] : List Int)).length = k.length + g.length := by simp
        rw [br_f (by rw [hlen]; simp)]
        have h0 : ((k.length : Int) ≤ ((k.length + g.length : Nat) : Int)) := by omega
        simp [keepI, h0]
        omega
      | cons x r ih =>
        intro k g hg hl
        simp only [List.length_cons] at hl
        have hlen : ((k ++ g) ++ (x :: r)).length = k.length + g.length + (r.length + 1) := by simp; omega
        have hgx : gt ((k ++ g) ++ (x :: r)) (k.length + g.length) = fun (f : Int → Option (Unit × List Int)) => f x := by
          funext f
          have := gt_mid (k ++ g) x r f
          rwa [List.length_append] at this
        have nx : IntKind.wrap .i64 (((k.length + g.length : Nat) : Int) + 1) = ((k.length + g.length + 1 : Nat) : Int) := next_ok (k.length + g.length) (k.length + g.length + 1) (by omega) (by omega)
        cases g with
        | nil => simp at hg
        | cons z m =>
          by_cases c : sideQ s x = true
          · have hu := ih (k ++ [x]) (m ++ [x]) (by simp) (by simp at hl ⊢; omega)
            have nk : IntKind.wrap .i64 ((k.length : Int) + 1) = ((k.length + 1 : Nat) : Int) := next_ok k.length (k.length + 1) (by omega) (by omega)
            refine slices_DeleteFunc_int.v0s _ _ _ _ _ _ ?_
            have hz : ∃ y, ((k ++ z :: m) ++ (x :: r))[k.length]? = some y := ⟨z, by simp⟩
            obtain ⟨y, hy⟩ := hz
            rw [hlen, br_t (by simp; omega), br_t (by simp; omega), br_t (by simp; omega), Int.toNat_natCast, hgx]
            simp only
            rw [refuting_1_f, bd_s, c]
            simp only [Bool.not_true, Bool.not_false]
            rw [br_t rfl, br_t (by simp), br_t (by simp; omega), Int.toNat_natCast, gt_some hy, nk, nx, take_set_app]
            simp only [keepI]
            rw [if_pos c]
            have e : (k ++ [x]) ++ (m ++ (x :: r)) = ((k ++ [x]) ++ (m ++ [x])) ++ r := by simp
            rw [e]
            have e2 : ((k.length + (z :: m).length + 1 : Nat) : Int) = (((k ++ [x]).length + (m ++ [x]).length : Nat) : Int) := by simp; omega
            have e3 : ((k.length + 1 : Nat) : Int) = (((k ++ [x]).length : Nat) : Int) := by simp
            rw [e2, e3, hu]
            simp
          · have hu := ih k (z :: m ++ [x]) (by simp) (by simp at hl ⊢; omega)
            rw [Bool.not_eq_true] at c
            refine slices_DeleteFunc_int.v0s _ _ _ _ _ _ ?_
            rw [hlen, br_t (by simp; omega), br_t (by simp; omega), br_t (by simp; omega), Int.toNat_natCast, hgx]
            simp only
            rw [refuting_1_f, bd_s, c]
            simp only [Bool.not_true, Bool.not_false]
            rw [br_f rfl, nx]
            simp only [keepI]
            rw [if_neg (by rw [c]; decide)]
            have e : (k ++ z :: m) ++ (x :: r) = (k ++ (z :: m ++ [x])) ++ r := by simp
            rw [e]
            have e2 : ((k.length + (z :: m).length + 1 : Nat) : Int) = ((k.length + (z :: m ++ [x]).length : Nat) : Int) := by simp; omega
            rw [e2]
            exact hu
    have hx : xs = (xs.take i ++ [xs[i]]) ++ xs.drop (i + 1) := by
      rw [← List.take_succ_eq_append_getElem hi, List.take_append_drop]
    have hti : (xs.take i).length = i := by rw [List.length_take]; omega
    have hu := loop (xs.drop (i + 1)) (xs.take i) [xs[i]] (by simp) (by rw [hti]; simp; omega)
    rw [hti] at hu
    refine slices_DeleteFunc_int.vs _ _ _ _ ?_
    rw [h1, bd_s, br_f (by simp), next_ok i _ hi (by omega)]
    rw [← hx] at hu
    have hk : keepI (sideQ s) xs = xs.take i ++ keepI (sideQ s) (xs.drop (i + 1)) := by
      conv => lhs; rw [hx]
      rw [keepI_app, keepI_app, keepI_all h3]
      simp only [keepI]
      rw [if_neg (by rw [h2]; decide)]
      simp
    rw [hk]
    exact hu
/-! ### the answers -/
theorem ruleOk_exprs {r : Rl} (h : ruleOk r = true) : (nodesOk r.1 0 = true ∧ 1 ≤ r.1.length ∧ r.1.length ≤ 24) ∧ nodesOk r.2.1 0 = true ∧ 1 ≤ r.2.1.length ∧ r.2.1.length ≤ 24 := by
  unfold ruleOk at h
  simp only [Bool.and_eq_true] at h
  exact ⟨walked_expr h.2.1, walked_expr h.2.2.1⟩
noncomputable def refL (r : Rl) : List Int := keepI (sideQ r.2.2) (difN (tabP r.1) (tabP r.2.1) (List.range 4096))
theorem tabP_len (e : List Nd) : (tabP e).length = 4096 := tabU_len e 4096
theorem refuting_v {r : Rl} (h : ruleOk r = true) : impl_refuting.v r = some (refL r) := by
  obtain ⟨⟨a1, a2, a3⟩, b1, b2, b3⟩ := ruleOk_exprs h
  have hd := differences_v (tabP r.1) (tabP r.2.1) (by rw [tabP_len, tabP_len]) (by rw [tabP_len]; omega)
  rw [tabP_len] at hd
  have hu := delete_v (difN (tabP r.1) (tabP r.2.1) (List.range 4096)) (by have := difN_len (tabP r.1) (tabP r.2.1) (List.range 4096); simp at this; omega) r.1 r.2.1 r.2.2
  refine impl_refuting.vs _ ?_
  rw [table_v a1 a2 (by omega), bd_s, table_v b1 b2 (by omega), bd_s, hd, bd_s, hu, bd_s, refL]
/-- what the reference counts: the first, how many -/
def refT (f g : Int) : List Int → Int × Int × Int
  | [] => (f, g, 0)
  | x :: l => (Int.tdiv x 64, Int.tmod x 64, ((x :: l).length : Int))
noncomputable def refS (r : Rl) : Int × Int × Int := refT (-1) (-1) (refL r)
theorem ruRefuting_v {r : Rl} (h : ruleOk r = true) : spec_ruRefuting.v r = some (refS r) := by
  obtain ⟨⟨a1, a2, a3⟩, b1, b2, b3⟩ := ruleOk_exprs h
  refine spec_ruRefuting.vs _ ?_
  rw [exTable_v a1 a2 (by omega), bd_s, exTable_v b1 b2 (by omega), bd_s, tabP_len]
  have key : ∀ (d i : Nat) (n : Nat) (f g : Int), i + d = 4096 → n ≤ i → spec_ruRefuting.v0 (tabP r.2.1) f g (n : Int) (tabP r.1) (4096 : Int) (i : Int) r.1 r.2.1 r.2.2 =
      some (if n = 0 then refT f g (keepI (sideQ r.2.2) (difN (tabP r.1) (tabP r.2.1) ((List.range 4096).drop i)))
        else (f, g, ((n + (keepI (sideQ r.2.2) (difN (tabP r.1) (tabP r.2.1) ((List.range 4096).drop i))).length : Nat) : Int))) := by
    intro d
    induction d with
    | zero =>
      intro i n f g hi hn
      refine spec_ruRefuting.v0s _ _ _ _ _ _ _ _ _ _ ?_
      rw [br_f (by simp; omega), List.drop_eq_nil_of_le (by simp; omega)]
      simp only [difN, keepI]
      by_cases c : n = 0
      · subst c; simp [refT]
      · rw [if_neg c]; simp
    | succ d ih =>
      intro i n f g hi hn
      have ha : i < (tabP r.1).length := by rw [tabP_len]; omega
      have hb : i < (tabP r.2.1).length := by rw [tabP_len]; omega
      refine spec_ruRefuting.v0s _ _ _ _ _ _ _ _ _ _ ?_
      rw [br_t (by simp; omega), br_t (by simp), Int.toNat_natCast, gt_at _ ha, br_t (by simp), gt_at _ hb, next_ok i 4096 (by omega) (by omega), rangeD (by omega), getD_get ha, getD_get hb]
      simp only [difN]
      by_cases c : (tabP r.1).getD i 0 = (tabP r.2.1).getD i 0
      · rw [br_t (by simpa using c), if_pos c, ih (i + 1) n f g (by omega) (by omega)]
      · rw [br_f (by simpa using c), if_neg c, ruFits_f, bd_s]
        simp only [keepI]
        by_cases q : sideQ r.2.2 (i : Int) = true
        · have q' : tellsP r.2.2 (Int.tmod (i : Int) 64) = true := q
          rw [q', brn_t, if_pos q]
          have nn : IntKind.wrap .i64 ((n : Int) + 1) = ((n + 1 : Nat) : Int) := next_ok n (n + 1) (by omega) (by omega)
          by_cases c0 : n = 0
          · subst c0
            have wd : IntKind.wrap .i64 (Int.tdiv (i : Int) 64) = Int.tdiv (i : Int) 64 := by
              rw [Int.tdiv_eq_ediv_of_nonneg (by omega)]; exact wrap_ok (by omega) (by omega)
            rw [br_t (by simp), nn, wd, ih (i + 1) (0 + 1) _ _ (by omega) (by omega), if_neg (by omega), if_pos rfl]
            generalize keepI (sideQ r.2.2) (difN (tabP r.1) (tabP r.2.1) (List.drop (i + 1) (List.range 4096))) = K
            simp only [refT, List.length_cons]
            rw [show 0 + 1 + K.length = K.length + 1 by omega]
          · rw [br_f (by simp; omega), nn, ih (i + 1) (n + 1) f g (by omega) (by omega), if_neg (by omega), if_neg c0]
            generalize keepI (sideQ r.2.2) (difN (tabP r.1) (tabP r.2.1) (List.drop (i + 1) (List.range 4096))) = K
            simp only [List.length_cons]
            rw [show n + 1 + K.length = n + (K.length + 1) by omega]
        · have q' : tellsP r.2.2 (Int.tmod (i : Int) 64) = false := by rw [Bool.not_eq_true] at q; exact q
          rw [q', brn_f, if_neg q, ih (i + 1) n f g (by omega) (by omega)]
  have := key 4096 0 0 (-1) (-1) (by omega) (by omega)
  rw [if_pos rfl, List.drop_zero] at this
  rw [refS, refL]
  exact this
theorem refS_count (r : Rl) : (refS r).2.2 = ((refL r).length : Int) := by
  unfold refS
  cases refL r <;> simp [refT]
noncomputable def cntR (r : Rl) : Int × Bool := if ruleOk r = true then (((refL r).length : Int), true) else (0, false)
theorem specCount_v (r : Rl) (h : Short r) : spec_CountRefuting.v r = some (cntR r) := by
  refine spec_CountRefuting.vs _ ?_
  rw [ruGood_v r h, bd_s]; unfold cntR
  by_cases c : ruleOk r = true
  · rw [c, brn_t, ruRefuting_v c, bd_s, refS_count, if_pos rfl]
  · rw [if_neg c]; rw [Bool.not_eq_true] at c; rw [c]; rfl
theorem implCount_v (r : Rl) (h : Short r) : impl_CountRefuting.v r = some (cntR r) := by
  refine impl_CountRefuting.vs _ ?_
  rw [isRule_v r h, bd_s]; unfold cntR
  by_cases c : ruleOk r = true
  · rw [c, brn_t, refuting_v c, bd_s, if_pos rfl]
  · rw [if_neg c]; rw [Bool.not_eq_true] at c; rw [c]; rfl
noncomputable def proveP (r : Rl) : Bool × Bool := if ruleOk r = true then (((refL r).length : Int) == 0, true) else (false, false)
theorem specProve_v (r : Rl) (h : Short r) : spec_ProveRule.v r = some (proveP r) := by
  refine spec_ProveRule.vs _ ?_
  rw [ruGood_v r h, bd_s]; unfold proveP
  by_cases c : ruleOk r = true
  · rw [c, brn_t, ruRefuting_v c, bd_s, refS_count, if_pos rfl]
  · rw [if_neg c]; rw [Bool.not_eq_true] at c; rw [c]; rfl
theorem implProve_v (r : Rl) (h : Short r) : impl_ProveRule.v r = some (proveP r) := by
  refine impl_ProveRule.vs _ ?_
  rw [isRule_v r h, bd_s]; unfold proveP
  by_cases c : ruleOk r = true
  · rw [c, brn_t, refuting_v c, bd_s, if_pos rfl]
  · rw [if_neg c]; rw [Bool.not_eq_true] at c; rw [c]; rfl
noncomputable def refuteP (r : Rl) : Int × Int × Bool := if ruleOk r = true then (match refL r with | [] => (0, 0, false) | x :: _ => (Int.tdiv x 64, Int.tmod x 64, true)) else (0, 0, false)
theorem specRefute_v (r : Rl) (h : Short r) : spec_RefuteRule.v r = some (refuteP r) := by
  refine spec_RefuteRule.vs _ ?_
  rw [ruGood_v r h, bd_s]; unfold refuteP
  by_cases c : ruleOk r = true
  · rw [c, brn_t, ruRefuting_v c, bd_s, if_pos rfl]
    unfold refS
    cases refL r with
    | nil => simp [refT]
    | cons x l =>
      simp only [refT]
      rw [br_f (by simp; omega)]
  · rw [if_neg c]; rw [Bool.not_eq_true] at c; rw [c]; rfl
theorem keepI_mem {q : Int → Bool} : ∀ {l : List Int} {x : Int}, x ∈ keepI q l → x ∈ l
  | [], x, h => by simp [keepI] at h
  | y :: r, x, h => by
    simp only [keepI] at h
    split at h
    · rcases List.mem_cons.1 h with e | h
      · simp [e]
      · exact List.mem_cons_of_mem _ (keepI_mem h)
    · exact List.mem_cons_of_mem _ (keepI_mem h)
theorem refL_mem {r : Rl} {x : Int} (h : x ∈ refL r) : 0 ≤ x ∧ x < 4096 := by
  obtain ⟨i, hi, e⟩ := difN_mem _ _ _ _ (keepI_mem h)
  have := List.mem_range.1 hi
  omega
theorem implRefute_v (r : Rl) (h : Short r) : impl_RefuteRule.v r = some (refuteP r) := by
  refine impl_RefuteRule.vs _ ?_
  rw [isRule_v r h, bd_s]; unfold refuteP
  by_cases c : ruleOk r = true
  · rw [c, brn_t, refuting_v c, bd_s, if_pos rfl]
    have hm := fun x => refL_mem (r := r) (x := x)
    cases hr : refL r with
    | nil => rfl
    | cons x l =>
      obtain ⟨x0, x1⟩ := hm x (by rw [hr]; simp)
      have wd : IntKind.wrap .i64 (Int.tdiv x 64) = Int.tdiv x 64 := by
        rw [Int.tdiv_eq_ediv_of_nonneg (by omega)]; exact wrap_ok (by omega) (by omega)
      rw [br_f (by simp; omega), show (0 : Int).toNat = 0 from rfl, gt_zero, impl_inputsAt.eq, bd_s, wd]
  · rw [if_neg c]; rw [Bool.not_eq_true] at c; rw [c]; rfl
end Go.Proofs.Ytohfaccniialmaa.Am
end
section
/- The law laws_FnExactRefuteRule over the machine of values. -/
set_option linter.unusedVariables false
set_option maxRecDepth 100000
set_option maxHeartbeats 1000000
namespace Go.Proofs.Ytohfaccniialmaa.Am
open Go
noncomputable def laws_FnExactRefuteRule.E : En := ⟨P0, M0, [], ntOf P0 9, []⟩
noncomputable def laws_FnExactRefuteRule.g : St → Option Bool := fun st => fin0 (cV false .b) (finA P0 (resOf P0 9) 0 [.id] [] st)
noncomputable def laws_FnExactRefuteRule.T (k : Nat) : Table := tabs [(13, (laws_szRule.tab k)), (15, (laws_toRule.tab k)), (17, (laws_eqRule.tab k)), (36, (spec_RefuteRule.tab k)), (37, (impl_RefuteRule.tab k))]
noncomputable def laws_FnExactRefuteRule.f (k : Nat) (a0 : ((List (ByteArray × (Int × (Int × Int)))) × ((List (ByteArray × (Int × (Int × Int)))) × ByteArray))) : Option Bool := go laws_FnExactRefuteRule.E laws_FnExactRefuteRule.T laws_FnExactRefuteRule.g k [.code (bodyOf P0 9)] (initA [mkP true (.pr (.sl (.pr .s (.pr (.i .i64) (.pr (.i .i64) (.i .i64))))) (.pr (.sl (.pr .s (.pr (.i .i64) (.pr (.i .i64) (.i .i64))))) .s)) a0] [])
noncomputable def laws_FnExactRefuteRule.tab (k : Nat) : List AV → List AO → Option Pack := tabI [.v true (.pr (.sl (.pr .s (.pr (.i .i64) (.pr (.i .i64) (.i .i64))))) (.pr (.sl (.pr .s (.pr (.i .i64) (.pr (.i .i64) (.i .i64))))) .s))] [] (enc0 (cV false .b)) (laws_FnExactRefuteRule.f k)
theorem laws_FnExactRefuteRule.eq (k : Nat) (a0 : ((List (ByteArray × (Int × (Int × Int)))) × ((List (ByteArray × (Int × (Int × Int)))) × ByteArray))) : laws_FnExactRefuteRule.f (k + 1) a0 = (bd (laws_szRule.f k a0 (1048576 : Int)) fun r0 => (br (decide (r0 < (0 : Int))) (some true) (bd (laws_toRule.f k a0) fun r1 => (bd (spec_RefuteRule.f k r1.1) fun r2 => (bd (laws_toRule.f k a0) fun r3 => (bd (impl_RefuteRule.f k r3.1) fun r4 => (br (r4.1 != r2.1) (some false) (br (r4.2.1 != r2.2.1) (some false) (br (Bool.not (r4.2.2 == r2.2.2)) (some false) (bd (laws_toRule.f k a0) fun r5 => (bd (laws_eqRule.f k r3.1 r5.1) fun r6 => (br (Bool.not r6) (some false) (some true))))))))))))) := by kernel_rfl
theorem laws_FnExactRefuteRule.b : fnB P0 9 (ntOf P0 9) = true := by kernel_rfl
theorem laws_FnExactRefuteRule.Tok (k : Nat) : TS P0 (laws_FnExactRefuteRule.T k) := (tabs_cons (laws_szRule.tok k) (tabs_cons (laws_toRule.tok k) (tabs_cons (laws_eqRule.tok k) (tabs_cons (spec_RefuteRule.tok k) (tabs_cons (impl_RefuteRule.tok k) tabs_nil)))))
theorem laws_FnExactRefuteRule.calls (k : Nat) (a0 : ((List (ByteArray × (Int × (Int × Int)))) × ((List (ByteArray × (Int × (Int × Int)))) × ByteArray))) {r : Bool} (h : laws_FnExactRefuteRule.f k a0 = some r) : ACalls P0 9 [mkP true (.pr (.sl (.pr .s (.pr (.i .i64) (.pr (.i .i64) (.i .i64))))) (.pr (.sl (.pr .s (.pr (.i .i64) (.pr (.i .i64) (.i .i64))))) .s)) a0] [] (enc0 (cV false .b) r) := fn0 (E := laws_FnExactRefuteRule.E) mix (T := laws_FnExactRefuteRule.T) laws_FnExactRefuteRule.Tok (f := 9) laws_FnExactRefuteRule.b (cd := (cV false .b)) (cV_ok _ _) (cvs := [.id]) h
noncomputable def laws_FnExactRefuteRule.v (a0 : ((List (ByteArray × (Int × (Int × Int)))) × ((List (ByteArray × (Int × (Int × Int)))) × ByteArray))) := lim fun _ k => laws_FnExactRefuteRule.f k a0
theorem laws_FnExactRefuteRule.vs (a0 : ((List (ByteArray × (Int × (Int × Int)))) × ((List (ByteArray × (Int × (Int × Int)))) × ByteArray))) {r} (h : (bd (laws_szRule.v a0 (1048576 : Int)) fun r0 => (br (decide (r0 < (0 : Int))) (some true) (bd (laws_toRule.v a0) fun r1 => (bd (spec_RefuteRule.v r1.1) fun r2 => (bd (laws_toRule.v a0) fun r3 => (bd (impl_RefuteRule.v r3.1) fun r4 => (br (r4.1 != r2.1) (some false) (br (r4.2.1 != r2.2.1) (some false) (br (Bool.not (r4.2.2 == r2.2.2)) (some false) (bd (laws_toRule.v a0) fun r5 => (bd (laws_eqRule.v r3.1 r5.1) fun r6 => (br (Bool.not r6) (some false) (some true))))))))))))) = some r) : laws_FnExactRefuteRule.v a0 = some r := vstep (fun d k => laws_FnExactRefuteRule.eq k a0) h
end Go.Proofs.Ytohfaccniialmaa.Am
end
section
/- The law FnExactRefuteRule, in plain Lean. -/
namespace Go.Proofs.Ytohfaccniialmaa.Am
open Go
set_option linter.unusedVariables false
set_option linter.unusedSimpArgs false
theorem refuteRule_pure (r : Rl) (q : Qd tyRl r) : ∃ k, laws_FnExactRefuteRule.f k r = some true := by
  obtain ⟨y, hy, _, hs⟩ := szRule_v r q
  refine Ev.some (lim_ev (laws_FnExactRefuteRule.vs r ?_))
  by_cases h0 : y < 0
  · simp [hy, h0]
  · have h := hs (by omega)
    simp [hy, h0, toRule_v r h, specRefute_v r h, implRefute_v r h, eqRule_v r h]
end Go.Proofs.Ytohfaccniialmaa.Am
end
