/- Plain texts: what the functions answer (part 0). -/
import Derived.Test.YtohfaccniialmaaKF1
section
/- What the laws do around the functions: arguments are measured, copied and compared. -/
namespace Go.Proofs.Ytohfaccniialmaa.Am
open Go
set_option linter.unusedVariables false
set_option linter.unusedSimpArgs false

abbrev Nd := ByteArray × Int × Int × Int
abbrev Rl := List Nd × List Nd × ByteArray
theorem toNode_f (n : Nd) : laws_toNode.f n = some n := laws_toNode.eq n
theorem eqNode_f (n : Nd) : laws_eqNode.f n n = some true := by
  rw [laws_eqNode.eq]
  have : seq n.1 n.1 = true := seq_iff.2 rfl
  rw [this]
  simp [br]
/-- a measure that is not less than 0 says how long the list is -/
theorem szNode_f (n : Nd) (x : Int) (hx : 0 ≤ x) (hx1 : x ≤ 9223372036854775000) (hn : n.1.size ≤ 9223372036854775807) : ∃ y, laws_szNode.f n x = some y ∧ y ≤ x := by
  rw [laws_szNode.eq]
  rw [wrap_ok (by omega) (by omega)]
  by_cases h : x - (n.1.size : Int) < 0
  · exact ⟨-1, br_t (by simpa using h), by omega⟩
  · exact ⟨_, br_f (by simpa using h), by omega⟩
theorem szNodeS_ev (xs : List Nd) (x : Int) (hx : 0 ≤ x) (hx1 : x ≤ 9223372036854775000) (hl : xs.length ≤ maxLen) (hn : ∀ n, n ∈ xs → n.1.size ≤ maxLen) : ∃ y, Ev (fun k => laws_szNodeS.f k xs x) y ∧ y ≤ x ∧ (0 ≤ y → xs.length ≤ x ∧ y + xs.length ≤ x) := by
  have hM : maxLen = 9223372036854775807 := by decide
  have hl' : (xs.length : Int) ≤ 9223372036854775807 := by omega
  have hw : IntKind.wrap .i64 (x - (xs.length : Int)) = x - (xs.length : Int) := wrap_ok (by omega) (by omega)
  by_cases h : x - (xs.length : Int) < 0
  · exact ⟨-1, Ev.step (fun k => laws_szNodeS.eq k xs x) (by rw [hw]; exact Ev.pos (by simpa using h) (Ev.now _)), by omega, by omega⟩
  · have hle : (xs.length : Int) ≤ x := by omega
    have loop : ∀ (d i : Nat) (z : Int), i + d = xs.length → 0 ≤ z → z ≤ x → ∃ y, Ev (fun k => laws_szNodeS.l0 k xs z (i : Int)) y ∧ y ≤ z := by
      intro d
      induction d with
      | zero =>
        intro i z hi h0 h1
        exact ⟨z, Ev.step (fun k => laws_szNodeS.l0_eq k xs z i) (Ev.neg (by simp; omega) (Ev.now _)), by omega⟩
      | succ d ih =>
        intro i z hi h0 h1
        have hlt : i < xs.length := by omega
        obtain ⟨y, hy, hyz⟩ := szNode_f xs[i] z h0 (by omega) (by have := hn _ (List.getElem_mem hlt); omega)
        by_cases hy0 : y < 0
        · refine ⟨-1, Ev.step (fun k => laws_szNodeS.l0_eq k xs z i) (Ev.pos (by simpa using hlt) (Ev.pos (by simp) (Ev.get hlt (Ev.here hy (Ev.pos (by simpa using hy0) (Ev.now _)))))), by omega⟩
        · obtain ⟨r, hr, hrx⟩ := ih (i + 1) y (by omega) (by omega) (by omega)
          refine ⟨r, Ev.step (fun k => laws_szNodeS.l0_eq k xs z i) (Ev.pos (by simpa using hlt) (Ev.pos (by simp) (Ev.get hlt (Ev.here hy (Ev.neg (by simpa using hy0) ?_))))), by omega⟩
          rw [next_ok i xs.length hlt (by omega)]
          exact hr
    obtain ⟨y, hy, hyx⟩ := loop xs.length 0 (x - (xs.length : Int)) (by omega) (by omega) (by omega)
    exact ⟨y, Ev.step (fun k => laws_szNodeS.eq k xs x) (by rw [hw]; exact Ev.neg (by simpa using h) hy), by omega, fun _ => ⟨hle, by omega⟩⟩
theorem toNodeS_ev (xs : List Nd) (hl : xs.length ≤ 1048576) : Ev (fun k => laws_toNodeS.f k xs) (xs, ()) := by
  refine Ev.step (fun k => laws_toNodeS.eq k xs) (Ev.pos (by simp) (Ev.pos (by simp; omega) ?_))
  rw [Int.toNat_natCast]
  have key : ∀ (d i : Nat), i + d = xs.length → Ev (fun k => laws_toNodeS.l0 k xs (i : Int) (xs.take i ++ List.replicate (xs.length - i) ((⟨#[]⟩ : ByteArray), ((0 : Int), ((0 : Int), (0 : Int)))))) (xs, ()) := by
    intro d
    induction d with
    | zero =>
      intro i hi
      refine Ev.step (fun k => laws_toNodeS.l0_eq k xs i _) (Ev.neg (by simp; omega) (Ev.ret ?_))
      rw [show i = xs.length by omega]
      simp
    | succ d ih =>
      intro i hi
      have hlt : i < xs.length := by omega
      have hlen : (xs.take i ++ List.replicate (xs.length - i) ((⟨#[]⟩ : ByteArray), ((0 : Int), ((0 : Int), (0 : Int))))).length = xs.length := by simp; omega
      refine Ev.step (fun k => laws_toNodeS.l0_eq k xs i _) (Ev.pos (by simpa using hlt) (Ev.pos (by simp) (Ev.get hlt (Ev.here (toNode_f _) (Ev.pos (by simp) (Ev.pos (by rw [hlen]; simpa using hlt) (Ev.get (by rw [hlen]; exact hlt) ?_)))))))
      rw [next_ok i xs.length hlt (by omega), Int.toNat_natCast]
      have := set_step xs ((⟨#[]⟩ : ByteArray), ((0 : Int), ((0 : Int), (0 : Int)))) i hlt
      rw [this]
      exact ih (i + 1) (by omega)
  simpa using key xs.length 0 (by omega)
theorem eqNodeS_ev (xs : List Nd) (hl : xs.length ≤ 1048576) : Ev (fun k => laws_eqNodeS.f k xs xs) true := by
  refine Ev.step (fun k => laws_eqNodeS.eq k xs xs) (Ev.neg (by simp) ?_)
  have key : ∀ (d i : Nat), i + d = xs.length → Ev (fun k => laws_eqNodeS.l0 k xs xs (i : Int)) true := by
    intro d
    induction d with
    | zero =>
      intro i hi
      exact Ev.step (fun k => laws_eqNodeS.l0_eq k xs xs i) (Ev.neg (by simp; omega) (Ev.now _))
    | succ d ih =>
      intro i hi
      have hlt : i < xs.length := by omega
      refine Ev.step (fun k => laws_eqNodeS.l0_eq k xs xs i) (Ev.pos (by simpa using hlt) (Ev.pos (by simp) (Ev.get hlt (Ev.pos (by simp) (Ev.get hlt (Ev.here (eqNode_f _) (Ev.neg (by rfl) ?_)))))))
      rw [next_ok i xs.length hlt (by omega)]
      exact ih (i + 1) (by omega)
  exact key xs.length 0 (by omega)
/-! ### as values -/
theorem brn_t {α : Type} (x y : Option α) : br (!true) x y = y := rfl
theorem brn_f {α : Type} (x y : Option α) : br (!false) x y = x := rfl
@[simp] theorem seq_self (x : ByteArray) : seq x x = true := seq_iff.2 rfl
theorem toNodeS_v (xs : List Nd) (hl : xs.length ≤ 1048576) : laws_toNodeS.v xs = some (xs, ()) := ev_lim (toNodeS_ev xs hl)
theorem eqNodeS_v (xs : List Nd) (hl : xs.length ≤ 1048576) : laws_eqNodeS.v xs xs = some true := ev_lim (eqNodeS_ev xs hl)
theorem szNodeS_v (xs : List Nd) (x : Int) (hx : 0 ≤ x) (hx1 : x ≤ 9223372036854775000) (hl : xs.length ≤ maxLen) (hn : ∀ n, n ∈ xs → n.1.size ≤ maxLen) : ∃ y, laws_szNodeS.v xs x = some y ∧ y ≤ x ∧ (0 ≤ y → xs.length ≤ x) := by
  obtain ⟨y, h, k, m⟩ := szNodeS_ev xs x hx hx1 hl hn
  exact ⟨y, ev_lim h, k, fun h => (m h).1⟩
theorem szNodeS_v2 (xs : List Nd) (x : Int) (hx : 0 ≤ x) (hx1 : x ≤ 9223372036854775000) (hl : xs.length ≤ maxLen) (hn : ∀ n, n ∈ xs → n.1.size ≤ maxLen) : ∃ y, laws_szNodeS.v xs x = some y ∧ y ≤ x ∧ (0 ≤ y → y + xs.length ≤ x) := by
  obtain ⟨y, h, k, m⟩ := szNodeS_ev xs x hx hx1 hl hn
  exact ⟨y, ev_lim h, k, fun h => (m h).2⟩

/-! ### what is written on -/
theorem gt_mid {α β : Type} (l : List β) (x : β) (r : List β) (f : β → Option α) : gt (l ++ x :: r) l.length f = f x := gt_some (by simp)
theorem set_mid {β : Type} (l : List β) (x y : β) (r : List β) : (l ++ x :: r).set l.length y = l ++ y :: r := by simp
theorem strOf_one (x : Int) : (strOf [x]).size = 1 := rfl
theorem markText_l : ∀ (n : Nat) (x : ByteArray), n + x.size ≤ 1099511627776 * 2 → ∃ t, laws_markText.v0 (n : Int) x = some t := by
  intro n
  induction n using Nat.strongRecOn with
  | ind n ih =>
    intro x hx
    by_cases h : n = 0
    · subst h
      exact ⟨_, laws_markText.v0s _ _ (by
        have : (ByteArray.size ⟨#[109]⟩) = 1 := rfl
        simp [this]; constructor
        · omega
        · rfl)⟩
    · obtain ⟨t, ht⟩ := ih (n / 10) (by omega) (strOf [Go.IntKind.wrap .u8 (Go.IntKind.wrap .i64 ((48 : Int) + (Int.tmod n 10)))] ++ x) (by rw [ByteArray.size_append, strOf_one]; omega)
      refine ⟨t, laws_markText.v0s _ _ ?_⟩
      have e : IntKind.wrap .i64 (Int.tdiv (n : Int) 10) = ((n / 10 : Nat) : Int) := by
        rw [Int.tdiv_eq_ediv_of_nonneg (by omega), wrap_ok (by omega) (by omega)]; rfl
      rw [e, br_t (by simp; omega), br_t (by rw [strOf_one]; simp; omega)]
      exact ht
theorem markText_some (k : Int) (h : k ≤ 1099511627776) : ∃ t, laws_markText.v k = some t := by
  by_cases h0 : k ≤ 0
  · exact ⟨_, laws_markText.vs _ (br_t (by simpa using h0))⟩
  · obtain ⟨n, rfl⟩ := Int.eq_ofNat_of_zero_le (show 0 ≤ k by omega)
    obtain ⟨t, ht⟩ := markText_l n ⟨#[]⟩ (by have : ByteArray.size ⟨#[]⟩ = 0 := rfl; rw [this]; omega)
    exact ⟨t, laws_markText.vs _ ((br_f (by simpa using h0)).trans ht)⟩
noncomputable def mt (k : Int) : ByteArray := (laws_markText.v k).getD default
theorem mt_v (k : Int) (h : k ≤ 1099511627776) : laws_markText.v k = some (mt k) := by
  obtain ⟨t, ht⟩ := markText_some k h
  unfold mt; rw [ht]; rfl
noncomputable def mkN : Int → List Nd → List Nd
  | _, [] => []
  | k, _ :: r => (mt k, k + 1, k + 2, k + 3) :: mkN (k + 4) r
theorem mkN_len : ∀ (l : List Nd) (k : Int), (mkN k l).length = l.length
  | [], _ => rfl
  | _ :: r, k => by simp [mkN, mkN_len r]
theorem markNodeS_l : ∀ (r l : List Nd) (k : Int), 0 ≤ k → k + 4 * r.length ≤ 1000000000 → l.length + r.length ≤ 1000000000 → laws_markNodeS.v0 k (l.length : Int) (l ++ r) = some (k + 4 * r.length, l ++ mkN k r)
  | [], l, k, h0, h1, h2 => laws_markNodeS.v0s _ _ _ (by simp [mkN])
  | n :: r, l, k, h0, h1, h2 => by
    simp only [List.length_cons] at h1 h2
    have ih := markNodeS_l r (l ++ [(mt k, k + 1, k + 2, k + 3)]) (k + 4) (by omega) (by omega) (by simp; omega)
    refine laws_markNodeS.v0s _ _ _ ?_
    have w1 : IntKind.wrap .i64 (k + 1) = k + 1 := wrap_ok (by omega) (by omega)
    have w2 : IntKind.wrap .i64 (k + 1 + 1) = k + 2 := by rw [wrap_ok (by omega) (by omega)]; omega
    have w3 : IntKind.wrap .i64 (k + 2 + 1) = k + 3 := by rw [wrap_ok (by omega) (by omega)]; omega
    have w4 : IntKind.wrap .i64 (k + 3 + 1) = k + 4 := by rw [wrap_ok (by omega) (by omega)]; omega
    have wi : IntKind.wrap .i64 ((l.length : Int) + 1) = ((l.length + 1 : Nat) : Int) := by rw [wrap_ok (by omega) (by omega)]; rfl
    have hlt : ((l.length : Int) < ((l.length + (r.length + 1) : Nat) : Int)) := by omega
    simp only [w1, w2, w3, w4, wi, mt_v k (by omega), Int.toNat_natCast, set_mid, gt_mid, bd_s, List.length_append, List.length_cons]
    simp only [br_if, hlt, decide_true, if_true, Int.natCast_nonneg]
    simp only [List.length_append, List.length_cons, List.length_nil, List.append_assoc, List.cons_append, List.nil_append, Nat.zero_add] at ih
    rw [ih]
    simp only [mkN, List.length_cons]
    congr 2
    omega
theorem markNodeS_v (k : Int) (r : List Nd) (h0 : 0 ≤ k) (h1 : k + 4 * r.length ≤ 1000000000) : laws_markNodeS.v k r = some (k + 4 * r.length, mkN k r) :=
  laws_markNodeS.vs _ _ (by have := markNodeS_l r [] k h0 h1 (by simp; omega); simpa using this)
theorem heldNodeS_l : ∀ (r l : List Nd) (k : Int), 0 ≤ k → k + 4 * r.length ≤ 1000000000 → l.length + r.length ≤ 1000000000 → laws_heldNodeS.v0 (l ++ mkN k r) k (l.length : Int) = some (k + 4 * r.length)
  | [], l, k, h0, h1, h2 => laws_heldNodeS.v0s _ _ _ (by simp [mkN])
  | n :: r, l, k, h0, h1, h2 => by
    simp only [List.length_cons] at h1 h2
    have ih := heldNodeS_l r (l ++ [(mt k, k + 1, k + 2, k + 3)]) (k + 4) (by omega) (by omega) (by simp; omega)
    refine laws_heldNodeS.v0s _ _ _ ?_
    have w1 : IntKind.wrap .i64 (k + 1) = k + 1 := wrap_ok (by omega) (by omega)
    have w2 : IntKind.wrap .i64 (k + 1 + 1) = k + 2 := by rw [wrap_ok (by omega) (by omega)]; omega
    have w3 : IntKind.wrap .i64 (k + 2 + 1) = k + 3 := by rw [wrap_ok (by omega) (by omega)]; omega
    have w4 : IntKind.wrap .i64 (k + 3 + 1) = k + 4 := by rw [wrap_ok (by omega) (by omega)]; omega
    have wi : IntKind.wrap .i64 ((l.length : Int) + 1) = ((l.length + 1 : Nat) : Int) := by rw [wrap_ok (by omega) (by omega)]; rfl
    have hlt : ((l.length : Int) < ((l.length + (r.length + 1) : Nat) : Int)) := by omega
    simp only [mkN, w1, w2, w3, w4, wi, mt_v k (by omega), Int.toNat_natCast, gt_mid, bd_s, List.length_append, List.length_cons, mkN_len]
    simp only [br_if, hlt, decide_true, if_true, Int.natCast_nonneg, seq_self, Bool.not_true, Bool.false_eq_true, if_false, bne_self_eq_false]
    simp only [List.length_append, List.length_cons, List.length_nil, List.append_assoc, List.cons_append, List.nil_append, Nat.zero_add] at ih
    rw [ih]
    congr 1
    omega
theorem heldNodeS_v (k : Int) (r : List Nd) (h0 : 0 ≤ k) (h1 : k + 4 * r.length ≤ 1000000000) : laws_heldNodeS.v (mkN k r) k = some (k + 4 * r.length) :=
  laws_heldNodeS.vs _ _ (by have := heldNodeS_l r [] k h0 h1 (by simp; omega); simpa using this)
end Go.Proofs.Ytohfaccniialmaa.Am
end
section
/- Lists of texts and numbers that are searched; numbers within bounds. -/
namespace Go.Proofs.Ytohfaccniialmaa.Am
open Go
set_option linter.unusedVariables false
set_option linter.unusedSimpArgs false

theorem seq_beq (x y : ByteArray) : seq x y = decide (x = y) := by
  by_cases h : x = y
  · rw [decide_eq_true h]; exact seq_iff.2 h
  · rw [decide_eq_false h]
    cases e : seq x y with
    | false => rfl
    | true => exact absurd (seq_iff.1 e) h
/-- is a text among these -/
def isIn (l : List ByteArray) (s : ByteArray) : Bool := l.any fun x => decide (x = s)
theorem drop_at {α : Type} (l : List α) (i : Nat) (h : i < l.length) : l.drop i = l[i] :: l.drop (i + 1) := List.drop_eq_getElem_cons h
theorem l1HasS_ev (l : List ByteArray) (s : ByteArray) (hl : l.length ≤ 9223372036854775000) : Ev (fun k => spec_l1HasS.f k l s) (isIn l s) := by
  refine Ev.step (fun k => spec_l1HasS.eq k l s) ?_
  have := Ev.loop l.length (fun k i => spec_l1HasS.l0 k s l (l.length : Int) (i : Int)) (fun i => isIn (l.drop i) s) ?_ ?_ 0 (by omega)
  · exact this
  · exact Ev.step (fun k => spec_l1HasS.l0_eq k s l _ _) (Ev.neg (by simp) (Ev.ret (by simp [isIn])))
  · intro i hi ih
    refine Ev.step (fun k => spec_l1HasS.l0_eq k s l _ _) (Ev.pos (by simpa using hi) (Ev.pos (by simp) (Ev.get hi ?_)))
    rw [next_ok i _ hi hl, seq_beq]
    by_cases c : l[i] = s
    · exact Ev.pos (by simp [c]) (Ev.ret (by unfold isIn; rw [drop_at _ _ hi, List.any_cons]; simp [c]))
    · exact Ev.neg (by simp [c]) (Ev.eq ih (by unfold isIn; rw [drop_at _ _ hi, List.any_cons]; simp [c]))
theorem containsS_ev (l : List ByteArray) (s : ByteArray) (hl : l.length ≤ 9223372036854775000) : Ev (fun k => slices_Contains_string.f k l s) (isIn l s) := by
  have key : ∀ (d : Nat) (i : Nat), i + d = l.length → ∃ r : Int, Ev (fun k => slices_Index_string.l0 k l s (l.length : Int) (i : Int)) r ∧ (0 ≤ r ↔ isIn (l.drop i) s = true) := by
    intro d
    induction d with
    | zero =>
      intro i h
      refine ⟨-1, Ev.step (fun k => slices_Index_string.l0_eq k l s _ _) (Ev.neg (by simp; omega) (Ev.now _)), ?_⟩
      rw [List.drop_eq_nil_of_le (by omega)]; simp [isIn]
    | succ d ih =>
      intro i h
      have hi : i < l.length := by omega
      by_cases c : l[i] = s
      · refine ⟨i, Ev.step (fun k => slices_Index_string.l0_eq k l s _ _) (Ev.pos (by simpa using hi) (Ev.pos (by simp) (Ev.get hi (Ev.pos (by rw [seq_beq]; simp [c]) (Ev.now _))))), ?_⟩
        unfold isIn; rw [drop_at _ _ hi, List.any_cons]; simp [c]
      · obtain ⟨r, hev, hiff⟩ := ih (i + 1) (by omega)
        refine ⟨r, Ev.step (fun k => slices_Index_string.l0_eq k l s _ _) (Ev.pos (by simpa using hi) (Ev.pos (by simp) (Ev.get hi (Ev.neg (by rw [seq_beq]; simp only [decide_eq_false_iff_not]; exact fun e => c e.symm) (by rw [next_ok i _ hi hl]; exact hev))))), ?_⟩
        rw [hiff]; unfold isIn; rw [drop_at _ _ hi, List.any_cons]; simp [c]
  obtain ⟨r, hev, hiff⟩ := key l.length 0 (by omega)
  refine Ev.step (fun k => slices_Contains_string.eq k l s) (Ev.bind (b := r) (Ev.step (fun k => slices_Index_string.eq k l s) hev) (Ev.ret ?_))
  rw [Bool.eq_iff_iff, decide_eq_true_iff]
  exact hiff
theorem containsI_ev (l : List Int) (s : Int) (hl : l.length ≤ 9223372036854775000) : Ev (fun k => slices_Contains_int.f k l s) (decide (s ∈ l)) := by
  have key : ∀ (d : Nat) (i : Nat), i + d = l.length → ∃ r : Int, Ev (fun k => slices_Index_int.l0 k l s (l.length : Int) (i : Int)) r ∧ (0 ≤ r ↔ s ∈ l.drop i) := by
    intro d
    induction d with
    | zero =>
      intro i h
      refine ⟨-1, Ev.step (fun k => slices_Index_int.l0_eq k l s _ _) (Ev.neg (by simp; omega) (Ev.now _)), ?_⟩
      rw [List.drop_eq_nil_of_le (by omega)]; simp
    | succ d ih =>
      intro i h
      have hi : i < l.length := by omega
      by_cases c : s = l[i]
      · refine ⟨i, Ev.step (fun k => slices_Index_int.l0_eq k l s _ _) (Ev.pos (by simpa using hi) (Ev.pos (by simp) (Ev.get hi (Ev.pos (by simp [c]) (Ev.now _))))), ?_⟩
        rw [drop_at _ _ hi, List.mem_cons]; simp [c]
      · obtain ⟨r, hev, hiff⟩ := ih (i + 1) (by omega)
        refine ⟨r, Ev.step (fun k => slices_Index_int.l0_eq k l s _ _) (Ev.pos (by simpa using hi) (Ev.pos (by simp) (Ev.get hi (Ev.neg (by simp [c]) (by rw [next_ok i _ hi hl]; exact hev))))), ?_⟩
        rw [hiff, drop_at _ _ hi, List.mem_cons]; simp [c]
  obtain ⟨r, hev, hiff⟩ := key l.length 0 (by omega)
  refine Ev.step (fun k => slices_Contains_int.eq k l s) (Ev.bind (b := r) (Ev.step (fun k => slices_Index_int.eq k l s) hev) (Ev.ret ?_))
  rw [Bool.eq_iff_iff, decide_eq_true_iff, decide_eq_true_iff]
  exact hiff
theorem l1Has_ev (l : List Int) (s : Int) (hl : l.length ≤ 9223372036854775000) : Ev (fun k => spec_l1Has.f k l s) (decide (s ∈ l)) := by
  refine Ev.step (fun k => spec_l1Has.eq k l s) ?_
  have := Ev.loop l.length (fun k i => spec_l1Has.l0 k s l (l.length : Int) (i : Int)) (fun i => decide (s ∈ l.drop i)) ?_ ?_ 0 (by omega)
  · exact this
  · exact Ev.step (fun k => spec_l1Has.l0_eq k s l _ _) (Ev.neg (by simp) (Ev.ret (by simp)))
  · intro i hi ih
    refine Ev.step (fun k => spec_l1Has.l0_eq k s l _ _) (Ev.pos (by simpa using hi) (Ev.pos (by simp) (Ev.get hi ?_)))
    rw [next_ok i _ hi hl]
    by_cases c : l[i] = s
    · exact Ev.pos (by simp [c]) (Ev.ret (by rw [drop_at _ _ hi]; simp only [List.mem_cons]; simp [c]))
    · exact Ev.neg (by simp [c]) (Ev.eq ih (by rw [drop_at _ _ hi]; simp only [List.mem_cons]; have e : ¬ s = l[i] := fun e => c e.symm; simp [e]))
/-- is a number within these bounds -/
def inB (n lo hi : Int) : Bool := decide (lo ≤ n) && decide (n ≤ hi)
theorem l1In_f (n lo hi : Int) : spec_l1In.f n lo hi = some (inB n lo hi) := by
  rw [spec_l1In.eq]; unfold inB
  by_cases h : lo ≤ n
  · rw [br_t (by simpa using h)]; simp [h]
  · rw [br_f (by simpa using h)]; simp [h]
theorem within_f (n lo hi : Int) : impl_within.f n lo hi = some (inB n lo hi) := by
  rw [impl_within.eq]; unfold inB
  by_cases h : lo ≤ n
  · rw [br_t (by simpa using h)]; simp [h]
  · rw [br_f (by simpa using h)]; simp [h]
theorem exWord_f (n : Int) : spec_exWord.f n = some (inB n 0 63) := by rw [spec_exWord.eq, l1In_f]; rfl
theorem isWord_f (n : Int) : impl_isWord.f n = some (inB n 0 63) := by rw [impl_isWord.eq, within_f]; rfl
end Go.Proofs.Ytohfaccniialmaa.Am
end
section
/- Expressions: which operands a node has, where a node may stand; the program's functions and the reference's answer alike. -/
namespace Go.Proofs.Ytohfaccniialmaa.Am
open Go
set_option linter.unusedVariables false
set_option linter.unusedSimpArgs false

abbrev tIn : ByteArray := ⟨#[105, 110]⟩
abbrev tConst : ByteArray := ⟨#[99, 111, 110, 115, 116]⟩
abbrev tNot : ByteArray := ⟨#[110, 111, 116]⟩
abbrev tNeg : ByteArray := ⟨#[110, 101, 103]⟩
def opsL : List ByteArray := [(⟨#[97, 100, 100]⟩ : ByteArray), (⟨#[115, 117, 98]⟩ : ByteArray), (⟨#[109, 117, 108]⟩ : ByteArray), (⟨#[97, 110, 100]⟩ : ByteArray), (⟨#[111, 114]⟩ : ByteArray), (⟨#[120, 111, 114]⟩ : ByteArray), (⟨#[115, 104, 108]⟩ : ByteArray), (⟨#[115, 104, 114]⟩ : ByteArray), (⟨#[108, 101, 115, 115]⟩ : ByteArray), (⟨#[101, 113]⟩ : ByteArray)]
def isTwo (s : ByteArray) : Bool := isIn opsL s
def isOne (s : ByteArray) : Bool := decide (s = tNot) || decide (s = tNeg)
/-- how many operands an op has; -1: it is none -/
def arity (s : ByteArray) : Int := if s = tIn then 0 else if s = tConst then 0 else if isOne s = true then 1 else if isTwo s = true then 2 else -1
theorem isOne_mem {s : ByteArray} (h : isOne s = true) : s = tNot ∨ s = tNeg := by
  unfold isOne at h
  simpa using h
theorem arity_one {s : ByteArray} (h : isOne s = true) : arity s = 1 := by
  unfold arity
  rw [if_neg (by rcases isOne_mem h with e | e <;> rw [e] <;> decide), if_neg (by rcases isOne_mem h with e | e <;> rw [e] <;> decide), if_pos h]
theorem isTwo_not {s : ByteArray} (h : isTwo s = true) : s ≠ tIn ∧ s ≠ tConst ∧ isOne s = false := by
  refine ⟨fun e => ?_, fun e => ?_, ?_⟩
  · rw [e] at h; revert h; decide
  · rw [e] at h; revert h; decide
  · cases h1 : isOne s with
    | false => rfl
    | true => rcases isOne_mem h1 with e | e <;> (rw [e] at h; revert h; decide)
theorem arity_two {s : ByteArray} (h : isTwo s = true) : arity s = 2 := by
  obtain ⟨h1, h2, h3⟩ := isTwo_not h
  unfold arity
  rw [if_neg h1, if_neg h2, if_neg (by simp [h3]), if_pos h]
theorem arity_cases (s : ByteArray) : (arity s = -1 ∧ isOne s = false ∧ isTwo s = false) ∨ (arity s = 0 ∧ isOne s = false ∧ isTwo s = false) ∨ (arity s = 1 ∧ isOne s = true ∧ isTwo s = false) ∨ (arity s = 2 ∧ isOne s = false ∧ isTwo s = true) := by
  by_cases h2 : isTwo s = true
  · exact .inr (.inr (.inr ⟨arity_two h2, (isTwo_not h2).2.2, h2⟩))
  · have h2' : isTwo s = false := by simpa using h2
    by_cases h1 : isOne s = true
    · exact .inr (.inr (.inl ⟨arity_one h1, h1, h2'⟩))
    · have h1' : isOne s = false := by simpa using h1
      by_cases c : s = tIn
      · exact .inr (.inl ⟨by unfold arity; rw [if_pos c], h1', h2'⟩)
      · by_cases c2 : s = tConst
        · exact .inr (.inl ⟨by unfold arity; rw [if_neg c, if_pos c2], h1', h2'⟩)
        · exact .inl ⟨by unfold arity; rw [if_neg c, if_neg c2, if_neg h1, if_neg h2], h1', h2'⟩
theorem arity_eq_one {s : ByteArray} : arity s = 1 ↔ isOne s = true := by
  rcases arity_cases s with ⟨h, h1, h2⟩ | ⟨h, h1, h2⟩ | ⟨h, h1, h2⟩ | ⟨h, h1, h2⟩ <;> rw [h, h1] <;> simp
theorem arity_eq_two {s : ByteArray} : arity s = 2 ↔ isTwo s = true := by
  rcases arity_cases s with ⟨h, h1, h2⟩ | ⟨h, h1, h2⟩ | ⟨h, h1, h2⟩ | ⟨h, h1, h2⟩ <;> rw [h, h2] <;> simp
theorem seq_t {x y : ByteArray} (h : x = y) : seq x y = true := seq_iff.2 h
theorem seq_f {x y : ByteArray} (h : ¬ x = y) : seq x y = false := by rw [seq_beq]; simp [h]
theorem exOne_f (s : ByteArray) : spec_exOne.f s = some (isOne s) := by
  rw [spec_exOne.eq, seq_beq, seq_beq]
  unfold isOne
  by_cases h : s = tNot
  · rw [br_t (by simpa using h)]; simp [h]
  · rw [br_f (by simpa using h)]; simp [h]
theorem exTwo_ev (s : ByteArray) : Ev (fun k => spec_exTwo.f k s) (isTwo s) := Ev.step (fun k => spec_exTwo.eq k s) (Ev.here spec_exOps.eq (Ev.bind (l1HasS_ev opsL s (by decide)) (Ev.now _)))
theorem operands_ev (s : ByteArray) : Ev (fun k => impl_operands.f k s) (arity s) := by
  refine Ev.step (fun k => impl_operands.eq k s) ?_
  unfold arity
  by_cases c : s = tIn
  · rw [if_pos c]; exact Ev.pos (seq_t c) (Ev.now _)
  · refine Ev.neg (seq_f c) ?_
    rw [if_neg c]
    by_cases c2 : s = tConst
    · rw [if_pos c2]; exact Ev.pos (seq_t c2) (Ev.now _)
    · refine Ev.neg (seq_f c2) ?_
      rw [if_neg c2]
      by_cases c3 : s = tNot
      · rw [if_pos (by unfold isOne; simp [c3])]; exact Ev.pos (seq_t c3) (Ev.now _)
      · refine Ev.neg (seq_f c3) ?_
        by_cases c4 : s = tNeg
        · rw [if_pos (by unfold isOne; simp [c4])]; exact Ev.pos (seq_t c4) (Ev.now _)
        · refine Ev.neg (seq_f c4) (Ev.here impl_binary.eq (Ev.bind (containsS_ev opsL s (by decide)) ?_))
          rw [if_neg (by unfold isOne; simp [c3, c4])]
          by_cases h : isTwo s = true
          · rw [if_pos h]; exact Ev.pos h (Ev.now _)
          · have h' : isTwo s = false := by simpa using h
            rw [if_neg h]; exact Ev.neg h' (Ev.now _)

/-! ### nodes -/
/-- the operands of a node -/
def partsOf (n : Nd) : List Int := if arity n.1 = 1 then [n.2.1] else if arity n.1 = 2 then [n.2.1, n.2.2.1] else []
theorem parts_le (n : Nd) : (partsOf n).length ≤ 2 := by unfold partsOf; split <;> (try split) <;> simp
theorem exParts_ev (n : Nd) : Ev (fun k => spec_exParts.f k n) (partsOf n) := by
  refine Ev.step (fun k => spec_exParts.eq k n) (Ev.here (exOne_f _) ?_)
  unfold partsOf
  by_cases h : isOne n.1 = true
  · exact Ev.pos h (Ev.ret (by rw [if_pos (arity_one h)]))
  · refine Ev.neg (by simpa using h) (Ev.bind (exTwo_ev n.1) ?_)
    rw [if_neg (fun e => h (arity_eq_one.1 e))]
    by_cases h2 : isTwo n.1 = true
    · exact Ev.pos h2 (Ev.ret (by rw [if_pos (arity_two h2)]))
    · exact Ev.neg (by simpa using h2) (Ev.ret (by rw [if_neg (fun e => h2 (arity_eq_two.1 e))]))
theorem of_ev (n : Nd) : Ev (fun k => impl_Node_of.f k n) (partsOf n) := by
  refine Ev.step (fun k => impl_Node_of.eq k n) (Ev.bind (operands_ev n.1) ?_)
  unfold partsOf
  rcases arity_cases n.1 with ⟨h, _⟩ | ⟨h, _⟩ | ⟨h, _⟩ | ⟨h, _⟩ <;> rw [h] <;> exact Ev.pos (by decide) (Ev.pos (by simp [maxI]) (Ev.ret (by simp [maxI])))
/-- may this node stand at place i -/
def nodeOk (n : Nd) (i : Int) : Bool :=
  if n.1 = tIn then decide (n.2.1 = 0) && decide (n.2.2.1 = 0) && inB n.2.2.2 0 1
  else if n.1 = tConst then decide (n.2.1 = 0) && decide (n.2.2.1 = 0) && inB n.2.2.2 0 63
  else if isOne n.1 = true then inB n.2.1 0 (i - 1) && decide (n.2.2.1 = 0) && decide (n.2.2.2 = 0)
  else isTwo n.1 && inB n.2.1 0 (i - 1) && inB n.2.2.1 0 (i - 1) && decide (n.2.2.2 = 0)
theorem exNode_ev (n : Nd) (i : Int) (h0 : 0 ≤ i) (h1 : i ≤ 9223372036854775807) : Ev (fun k => spec_exNode.f k n i) (nodeOk n i) := by
  refine Ev.step (fun k => spec_exNode.eq k n i) ?_
  unfold nodeOk
  rw [wrap_ok (by omega) (by omega)]
  simp only [l1In_f, exWord_f, exOne_f]
  by_cases c : n.1 = tIn
  · refine Ev.pos (seq_t c) ?_
    rw [if_pos c]
    by_cases a : n.2.1 = 0
    · by_cases b : n.2.2.1 = 0
      · exact Ev.pos (by simpa using a) (Ev.pos (by simpa using b) (Ev.here rfl (Ev.ret (by simp [a, b]))))
      · exact Ev.pos (by simpa using a) (Ev.neg (by simpa using b) (Ev.ret (by simp [b])))
    · exact Ev.neg (by simpa using a) (Ev.ret (by simp [a]))
  · refine Ev.neg (seq_f c) ?_
    rw [if_neg c]
    by_cases c2 : n.1 = tConst
    · refine Ev.pos (seq_t c2) ?_
      rw [if_pos c2]
      by_cases a : n.2.1 = 0
      · by_cases b : n.2.2.1 = 0
        · exact Ev.pos (by simpa using a) (Ev.pos (by simpa using b) (Ev.here rfl (Ev.ret (by simp [a, b]))))
        · exact Ev.pos (by simpa using a) (Ev.neg (by simpa using b) (Ev.ret (by simp [b])))
      · exact Ev.neg (by simpa using a) (Ev.ret (by simp [a]))
    · refine Ev.neg (seq_f c2) ?_
      rw [if_neg c2]
      refine Ev.here rfl ?_
      by_cases h : isOne n.1 = true
      · refine Ev.pos h (Ev.here rfl ?_)
        rw [if_pos h]
        cases hb : inB n.2.1 0 (i - 1)
        · exact Ev.neg rfl (Ev.ret (by simp))
        · by_cases b : n.2.2.1 = 0
          · exact Ev.pos rfl (Ev.pos (by simpa using b) (Ev.ret (by simp [b]; rfl)))
          · exact Ev.pos rfl (Ev.neg (by simpa using b) (Ev.ret (by simp [b])))
      · refine Ev.neg (by simpa using h) (Ev.bind (exTwo_ev n.1) ?_)
        rw [if_neg h]
        cases h2 : isTwo n.1
        · exact Ev.neg rfl (Ev.ret (by simp))
        · refine Ev.pos rfl (Ev.here rfl ?_)
          cases hb : inB n.2.1 0 (i - 1)
          · exact Ev.neg rfl (Ev.ret (by simp))
          · refine Ev.pos rfl (Ev.here rfl ?_)
            cases hb2 : inB n.2.2.1 0 (i - 1)
            · exact Ev.neg rfl (Ev.ret (by simp))
            · exact Ev.pos rfl (Ev.ret (by simp; rfl))
end Go.Proofs.Ytohfaccniialmaa.Am
end
section
/- Where a node may stand: the program's function; how often each node is an operand. -/
namespace Go.Proofs.Ytohfaccniialmaa.Am
open Go
set_option linter.unusedVariables false
set_option linter.unusedSimpArgs false

theorem isNode_ev (n : Nd) (i : Int) (h0 : 0 ≤ i) (h1 : i ≤ 9223372036854775807) : Ev (fun k => impl_Node_isNode.f k n i) (nodeOk n i) := by
  refine Ev.step (fun k => impl_Node_isNode.eq k n i) (Ev.bind (operands_ev n.1) ?_)
  -- behind both places
  have hend : ∀ m : Int, m = arity n.1 → Ev (fun k => impl_Node_isNode.l0 k i m 2 2 n.1 n.2.1 n.2.2.1 n.2.2.2 [n.2.1, n.2.2.1]) (if n.1 = tIn then inB n.2.2.2 0 1 else if n.1 = tConst then inB n.2.2.2 0 63 else decide (m > 0) && decide (n.2.2.2 = 0)) := by
    intro m hm
    refine Ev.step (fun k => impl_Node_isNode.l0_eq k _ _ _ _ _ _ _ _ _) (Ev.neg (by simp) ?_)
    by_cases c : n.1 = tIn
    · exact Ev.pos (seq_t c) (Ev.here (within_f _ _ _) (Ev.ret (by rw [if_pos c])))
    · refine Ev.neg (seq_f c) ?_
      rw [if_neg c]
      by_cases c2 : n.1 = tConst
      · exact Ev.pos (seq_t c2) (Ev.here (isWord_f _) (Ev.ret (by rw [if_pos c2])))
      · refine Ev.neg (seq_f c2) ?_
        rw [if_neg c2]
        by_cases p : m > 0
        · exact Ev.pos (by simpa using p) (Ev.ret (by simp [p]; rfl))
        · exact Ev.neg (by simpa using p) (Ev.ret (by simp [p]))
  -- one place
  have hone : ∀ (m : Int) (j : Nat) (x : Int) (R : Bool), j < 2 → [n.2.1, n.2.2.1][j]? = some x → Ev (fun k => impl_Node_isNode.l0 k i m 2 ((j + 1 : Nat) : Int) n.1 n.2.1 n.2.2.1 n.2.2.2 [n.2.1, n.2.2.1]) R →
      Ev (fun k => impl_Node_isNode.l0 k i m 2 (j : Int) n.1 n.2.1 n.2.2.1 n.2.2.2 [n.2.1, n.2.2.1]) ((if (j : Int) < m then inB x 0 (i - 1) else decide (x = 0)) && R) := by
    intro m j x R hj hx hR
    refine Ev.step (fun k => impl_Node_isNode.l0_eq k _ _ _ _ _ _ _ _ _) (Ev.pos (by simp; omega) (Ev.pos (by simp) (Ev.pos (by simp; omega) (Ev.at (b := x) (by rw [Int.toNat_natCast]; exact hx) ?_))))
    rw [wrap_ok (x := i - 1) (by omega) (by omega), next_ok j 2 hj (by omega)]
    by_cases hm : (j : Int) < m
    · refine Ev.pos (by simpa using hm) (Ev.here (within_f _ _ _) ?_)
      rw [if_pos hm]
      cases hb : inB x 0 (i - 1) with
      | true => exact Ev.neg rfl (Ev.neg (by simp; omega) (by simpa using hR))
      | false => exact Ev.pos rfl (Ev.ret (by simp))
    · refine Ev.neg (by simpa using hm) (Ev.pos (by simp; omega) ?_)
      rw [if_neg hm]
      by_cases h0 : x = 0
      · exact Ev.neg (by simp [h0]) (by simpa [h0] using hR)
      · exact Ev.pos (by simpa using h0) (Ev.ret (by simp [h0]))
  have h1' := hone (arity n.1) 1 n.2.2.1 _ (by omega) rfl (hend (arity n.1) rfl)
  have h0' := hone (arity n.1) 0 n.2.1 _ (by omega) rfl h1'
  refine Ev.eq h0' ?_
  unfold nodeOk
  by_cases c : n.1 = tIn
  · have ha : arity n.1 = 0 := by unfold arity; rw [if_pos c]
    rw [ha, if_pos c, if_pos c]
    simp [Bool.and_assoc]
  · rw [if_neg c, if_neg c]
    by_cases c2 : n.1 = tConst
    · have ha : arity n.1 = 0 := by unfold arity; rw [if_neg c, if_pos c2]
      rw [ha, if_pos c2, if_pos c2]
      simp [Bool.and_assoc]
    · rw [if_neg c2, if_neg c2]
      rcases arity_cases n.1 with ⟨ha, h1, h2⟩ | ⟨ha, h1, h2⟩ | ⟨ha, h1, h2⟩ | ⟨ha, h1, h2⟩ <;> rw [ha, h1, h2] <;> simp [Bool.and_assoc]

/-! ### how often each node is an operand -/
def bumpU (u : List Int) (p : Int) : List Int := u.set p.toNat (IntKind.wrap .i64 (u.getD p.toNat 0 + 1))
def bumps (u : List Int) (n : Nd) : List Int := (partsOf n).foldl bumpU u
def usesOf (e : List Nd) : List Int := e.foldl bumps (List.replicate e.length 0)
theorem bump_len (u : List Int) (p : Int) : (bumpU u p).length = u.length := by simp [bumpU]
theorem fold_bump_len (l : List Int) (u : List Int) : (l.foldl bumpU u).length = u.length := by
  induction l generalizing u with
  | nil => rfl
  | cons p l ih => rw [List.foldl_cons, ih, bump_len]
theorem bumps_len (u : List Int) (n : Nd) : (bumps u n).length = u.length := fold_bump_len _ _
theorem fold_bumps_len (l : List Nd) (u : List Int) : (l.foldl bumps u).length = u.length := by
  induction l generalizing u with
  | nil => rfl
  | cons p l ih => rw [List.foldl_cons, ih, bumps_len]
theorem usesOf_len (e : List Nd) : (usesOf e).length = e.length := by unfold usesOf; rw [fold_bumps_len, List.length_replicate]
/-- all operands lie below this bound -/
def PartsIn (e : List Nd) (m : Nat) : Prop := ∀ n ∈ e, ∀ p ∈ partsOf n, 0 ≤ p ∧ p < m
theorem take_fold {α β : Type} (f : β → α → β) (l : List α) (b : β) (i : Nat) (h : i < l.length) : (l.take (i + 1)).foldl f b = f ((l.take i).foldl f b) l[i] := by
  rw [List.take_succ_eq_append_getElem h, List.foldl_append]; rfl
theorem bump_at {u : List Int} {p : Int} (h0 : 0 ≤ p) (h : p < u.length) : u[p.toNat]? = some (u.getD p.toNat 0) := by
  have hp : p.toNat < u.length := by omega
  rw [List.getElem?_eq_getElem hp, List.getD_eq_getElem?_getD, List.getElem?_eq_getElem hp]; rfl
theorem exUses_ev (e : List Nd) (hl : e.length ≤ 1048576) (hp : PartsIn e e.length) : Ev (fun k => spec_exUses.f k e) (usesOf e) := by
  refine Ev.step (fun k => spec_exUses.eq k e) (Ev.pos (by simp) (Ev.pos (by simp; omega) ?_))
  rw [Int.toNat_natCast]
  have key := Ev.loop e.length (fun k i => spec_exUses.l0 k e (e.length : Int) (i : Int) ((e.take i).foldl bumps (List.replicate e.length 0))) (fun _ => usesOf e) ?_ ?_ 0 (by omega)
  · simpa using key
  · exact Ev.step (fun k => spec_exUses.l0_eq k _ _ _ _) (Ev.neg (by simp) (Ev.ret (by rw [List.take_of_length_le (Nat.le_refl _)]; rfl)))
  · intro i hi ih
    refine Ev.step (fun k => spec_exUses.l0_eq k _ _ _ _) (Ev.pos (by simpa using hi) (Ev.pos (by simp) (Ev.get hi (Ev.bind (exParts_ev e[i]) ?_))))
    have hps : ∀ p ∈ partsOf e[i], 0 ≤ p ∧ p < e.length := hp _ (List.getElem_mem hi)
    have inner := Ev.loop (partsOf e[i]).length (fun k j => spec_exUses.l1 k e (e.length : Int) (i : Int) (partsOf e[i]) ((partsOf e[i]).length : Int) (j : Int) (((partsOf e[i]).take j).foldl bumpU ((e.take i).foldl bumps (List.replicate e.length 0)))) (fun _ => usesOf e) ?_ ?_ 0 (by omega)
    · simpa using inner
    · refine Ev.step (fun k => spec_exUses.l1_eq k _ _ _ _ _ _ _) (Ev.neg (by simp) ?_)
      rw [List.take_of_length_le (Nat.le_refl _), next_ok i _ hi (by omega)]
      rw [take_fold bumps e _ i hi] at ih
      exact ih
    · intro j hj ihj
      have hpj := hps _ (List.getElem_mem hj)
      have h2 := parts_le e[i]
      have hlen : (((partsOf e[i]).take j).foldl bumpU ((e.take i).foldl bumps (List.replicate e.length 0))).length = e.length := by rw [fold_bump_len, fold_bumps_len, List.length_replicate]
      refine Ev.step (fun k => spec_exUses.l1_eq k _ _ _ _ _ _ _) (Ev.pos (by simpa using hj) (Ev.pos (by simp) (Ev.get hj (Ev.pos (by simpa using hpj.1) (Ev.pos (by rw [hlen]; simpa using hpj.2) (Ev.at (bump_at hpj.1 (by rw [hlen]; exact hpj.2)) (Ev.pos (by simpa using hpj.1) (Ev.pos (by rw [hlen]; simpa using hpj.2) (Ev.at (bump_at hpj.1 (by rw [hlen]; exact hpj.2)) ?_)))))))))
      rw [take_fold bumpU (partsOf e[i]) _ j hj] at ihj
      rw [next_ok j _ hj (by omega)]
      exact ihj
theorem uses_ev (e : List Nd) (hl : e.length ≤ 1048576) (hp : PartsIn e e.length) : Ev (fun k => impl_uses.f k e) (usesOf e) := by
  refine Ev.step (fun k => impl_uses.eq k e) (Ev.pos (by simp) (Ev.pos (by simp; omega) ?_))
  rw [Int.toNat_natCast]
  have key := Ev.loop e.length (fun k i => impl_uses.l0 k e (e.length : Int) (i : Int) ((e.take i).foldl bumps (List.replicate e.length 0))) (fun _ => usesOf e) ?_ ?_ 0 (by omega)
  · simpa using key
  · exact Ev.step (fun k => impl_uses.l0_eq k _ _ _ _) (Ev.neg (by simp) (Ev.ret (by rw [List.take_of_length_le (Nat.le_refl _)]; rfl)))
  · intro i hi ih
    refine Ev.step (fun k => impl_uses.l0_eq k _ _ _ _) (Ev.pos (by simpa using hi) (Ev.pos (by simp) (Ev.get hi (Ev.bind (of_ev e[i]) ?_))))
    have hps : ∀ p ∈ partsOf e[i], 0 ≤ p ∧ p < e.length := hp _ (List.getElem_mem hi)
    have inner := Ev.loop (partsOf e[i]).length (fun k j => impl_uses.l1 k e (e.length : Int) (i : Int) (partsOf e[i]) ((partsOf e[i]).length : Int) (j : Int) (((partsOf e[i]).take j).foldl bumpU ((e.take i).foldl bumps (List.replicate e.length 0)))) (fun _ => usesOf e) ?_ ?_ 0 (by omega)
    · simpa using inner
    · refine Ev.step (fun k => impl_uses.l1_eq k _ _ _ _ _ _ _) (Ev.neg (by simp) ?_)
      rw [List.take_of_length_le (Nat.le_refl _), next_ok i _ hi (by omega)]
      rw [take_fold bumps e _ i hi] at ih
      exact ih
    · intro j hj ihj
      have hpj := hps _ (List.getElem_mem hj)
      have h2 := parts_le e[i]
      have hlen : (((partsOf e[i]).take j).foldl bumpU ((e.take i).foldl bumps (List.replicate e.length 0))).length = e.length := by rw [fold_bump_len, fold_bumps_len, List.length_replicate]
      refine Ev.step (fun k => impl_uses.l1_eq k _ _ _ _ _ _ _) (Ev.pos (by simpa using hj) (Ev.pos (by simp) (Ev.get hj (Ev.pos (by simpa using hpj.1) (Ev.pos (by rw [hlen]; simpa using hpj.2) (Ev.at (bump_at hpj.1 (by rw [hlen]; exact hpj.2)) (Ev.pos (by simpa using hpj.1) (Ev.pos (by rw [hlen]; simpa using hpj.2) (Ev.at (bump_at hpj.1 (by rw [hlen]; exact hpj.2)) ?_)))))))))
      rw [take_fold bumpU (partsOf e[i]) _ j hj] at ihj
      rw [next_ok j _ hj (by omega)]
      exact ihj
end Go.Proofs.Ytohfaccniialmaa.Am
end
section
/- When a list of nodes is an expression, and a tree. -/
namespace Go.Proofs.Ytohfaccniialmaa.Am
open Go
set_option linter.unusedVariables false
set_option linter.unusedSimpArgs false

/-- all nodes from place i on may stand where they stand -/
def nodesOk : List Nd → Nat → Bool
  | [], _ => true
  | n :: r, i => nodeOk n i && nodesOk r (i + 1)
theorem nodesOk_at {e : List Nd} {i : Nat} (h : i < e.length) : nodesOk (e.drop i) i = (nodeOk e[i] i && nodesOk (e.drop (i + 1)) (i + 1)) := by
  rw [drop_at e i h]; rfl
theorem inB_iff {n lo hi : Int} : inB n lo hi = true ↔ lo ≤ n ∧ n ≤ hi := by unfold inB; simp
theorem nodeOk_parts {n : Nd} {i : Nat} (h : nodeOk n i = true) : ∀ p ∈ partsOf n, 0 ≤ p ∧ p < i := by
  intro p hp
  unfold partsOf at hp
  unfold nodeOk at h
  rcases arity_cases n.1 with ⟨ha, h1, h2⟩ | ⟨ha, h1, h2⟩ | ⟨ha, h1, h2⟩ | ⟨ha, h1, h2⟩
  · rw [ha] at hp; simp at hp
  · rw [ha] at hp; simp at hp
  · have n1 : n.1 ≠ tIn := fun e => by rw [e] at h1; revert h1; decide
    have n2 : n.1 ≠ tConst := fun e => by rw [e] at h1; revert h1; decide
    rw [if_neg n1, if_neg n2, if_pos h1] at h
    rw [ha] at hp
    simp only [Bool.and_eq_true, inB_iff] at h
    simp at hp
    omega
  · obtain ⟨n1, n2, _⟩ := isTwo_not h2
    rw [if_neg n1, if_neg n2, if_neg (by simp [h1])] at h
    rw [ha] at hp
    simp only [Bool.and_eq_true, inB_iff] at h
    simp at hp
    omega
theorem nodesOk_get : ∀ (e : List Nd) (i : Nat), nodesOk e i = true → ∀ (j : Nat) (h : j < e.length), nodeOk e[j] ((i + j : Nat) : Int) = true
  | [], i, _, j, h => by simp at h
  | n :: r, i, hn, j, h => by
    simp only [nodesOk, Bool.and_eq_true] at hn
    cases j with
    | zero => simpa using hn.1
    | succ j =>
      have := nodesOk_get r (i + 1) hn.2 j (by simpa using h)
      rw [show i + (j + 1) = i + 1 + j by omega]
      simpa using this
theorem nodesOk_parts {e : List Nd} (h : nodesOk e 0 = true) : PartsIn e e.length := fun n hn p hp => by
  obtain ⟨j, hj, e1⟩ := List.getElem_of_mem hn
  have := nodesOk_get e 0 h j hj
  rw [e1] at this
  have := nodeOk_parts (i := 0 + j) this p hp
  omega
/-- is each node but the last one an operand -/
def allUsed (e : List Nd) : Bool := !decide ((0 : Int) ∈ (usesOf e).take (e.length - 1))
def exprOk (e : List Nd) : Bool := inB e.length 1 24 && (nodesOk e 0 && allUsed e)
theorem noneOf {α : Type} {e : List Nd} {g : Nat → Nat → Option Bool} (hl : e.length ≤ 1048576) (hbad : ∀ i (h : i < e.length), nodeOk e[i] i = false → Ev (fun k => g k i) false) (hgo : ∀ i (h : i < e.length), nodeOk e[i] i = true → Ev (fun k => g k (i + 1)) false → Ev (fun k => g k i) false) : ∀ (d i : Nat), i + d = e.length → nodesOk (e.drop i) i = false → Ev (fun k => g k i) false := by
  intro d
  induction d with
  | zero =>
    intro i hi h
    rw [List.drop_eq_nil_of_le (by omega)] at h
    cases h
  | succ d ih =>
    intro i hi h
    have hlt : i < e.length := by omega
    rw [nodesOk_at hlt] at h
    cases hn : nodeOk e[i] i with
    | false => exact hbad i hlt hn
    | true =>
      rw [hn, Bool.true_and] at h
      exact hgo i hlt hn (ih (i + 1) (by omega) h)
theorem exGood_ev (e : List Nd) (hl : e.length ≤ 1048576) : Ev (fun k => spec_exGood.f k e) (exprOk e) := by
  refine Ev.step (fun k => spec_exGood.eq k e) (Ev.here (l1In_f _ _ _) ?_)
  unfold exprOk
  cases hb : inB (e.length : Int) 1 24 with
  | false => exact Ev.pos rfl (Ev.ret (by simp))
  | true =>
    refine Ev.neg rfl ?_
    have hlen := inB_iff.1 hb
    rw [Bool.true_and]
    cases hn : nodesOk e 0 with
    | true =>
      have key := Ev.loop e.length (fun k i => spec_exGood.l0 k e e (e.length : Int) (i : Int)) (fun _ => allUsed e) ?_ ?_ 0 (by omega)
      · simpa using key
      · have hw : IntKind.wrap .i64 ((e.length : Int) - 1) = ((e.length - 1 : Nat) : Int) := by rw [wrap_ok (by omega) (by omega)]; omega
        refine Ev.step (fun k => spec_exGood.l0_eq k _ _ _ _) (Ev.neg (by simp) (Ev.bind (exUses_ev e hl (nodesOk_parts hn)) ?_))
        rw [hw, usesOf_len]
        refine Ev.pos (by simp) (Ev.pos (by simp) (Ev.bind (l1Has_ev _ _ (by rw [List.length_drop, List.length_take, usesOf_len]; omega)) (Ev.ret ?_)))
        simp [allUsed]
      · intro i hi ih
        have := nodesOk_get e 0 hn i hi
        rw [Nat.zero_add] at this
        refine Ev.step (fun k => spec_exGood.l0_eq k _ _ _ _) (Ev.pos (by simpa using hi) (Ev.pos (by simp) (Ev.get hi (Ev.bind (exNode_ev e[i] i (by omega) (by omega)) (Ev.neg (by rw [this]; rfl) ?_)))))
        rw [next_ok i _ hi (by omega)]
        exact ih
    | false =>
      refine noneOf (α := Nat) (e := e) (g := fun k i => spec_exGood.l0 k e e (e.length : Int) (i : Int)) hl (fun i hi hf => ?_) (fun i hi hf ih => ?_) e.length 0 (by omega) hn
      · exact Ev.step (fun k => spec_exGood.l0_eq k _ _ _ _) (Ev.pos (by simpa using hi) (Ev.pos (by simp) (Ev.get hi (Ev.bind (exNode_ev e[i] i (by omega) (by omega)) (Ev.pos (by rw [hf]; rfl) (Ev.now _))))))
      · refine Ev.step (fun k => spec_exGood.l0_eq k _ _ _ _) (Ev.pos (by simpa using hi) (Ev.pos (by simp) (Ev.get hi (Ev.bind (exNode_ev e[i] i (by omega) (by omega)) (Ev.neg (by rw [hf]; rfl) ?_)))))
        rw [next_ok i _ hi (by omega)]
        exact ih
theorem isExpr_ev (e : List Nd) (hl : e.length ≤ 1048576) : Ev (fun k => impl_IsExpr.f k e) (exprOk e) := by
  refine Ev.step (fun k => impl_IsExpr.eq k e) (Ev.here (within_f _ _ _) ?_)
  unfold exprOk
  cases hb : inB (e.length : Int) 1 24 with
  | false => exact Ev.pos rfl (Ev.ret (by simp))
  | true =>
    refine Ev.neg rfl ?_
    have hlen := inB_iff.1 hb
    rw [Bool.true_and]
    cases hn : nodesOk e 0 with
    | true =>
      have key := Ev.loop e.length (fun k i => impl_IsExpr.l0 k e e (e.length : Int) (i : Int)) (fun _ => allUsed e) ?_ ?_ 0 (by omega)
      · simpa using key
      · have hw : IntKind.wrap .i64 ((e.length : Int) - 1) = ((e.length - 1 : Nat) : Int) := by rw [wrap_ok (by omega) (by omega)]; omega
        refine Ev.step (fun k => impl_IsExpr.l0_eq k _ _ _ _) (Ev.neg (by simp) (Ev.bind (uses_ev e hl (nodesOk_parts hn)) ?_))
        rw [hw, usesOf_len]
        refine Ev.pos (by simp) (Ev.pos (by simp) (Ev.bind (containsI_ev _ _ (by rw [List.length_drop, List.length_take, usesOf_len]; omega)) (Ev.ret ?_)))
        simp [allUsed]
      · intro i hi ih
        have := nodesOk_get e 0 hn i hi
        rw [Nat.zero_add] at this
        refine Ev.step (fun k => impl_IsExpr.l0_eq k _ _ _ _) (Ev.pos (by simpa using hi) (Ev.pos (by simp) (Ev.get hi (Ev.bind (isNode_ev e[i] i (by omega) (by omega)) (Ev.neg (by rw [this]; rfl) ?_)))))
        rw [next_ok i _ hi (by omega)]
        exact ih
    | false =>
      refine noneOf (α := Nat) (e := e) (g := fun k i => impl_IsExpr.l0 k e e (e.length : Int) (i : Int)) hl (fun i hi hf => ?_) (fun i hi hf ih => ?_) e.length 0 (by omega) hn
      · exact Ev.step (fun k => impl_IsExpr.l0_eq k _ _ _ _) (Ev.pos (by simpa using hi) (Ev.pos (by simp) (Ev.get hi (Ev.bind (isNode_ev e[i] i (by omega) (by omega)) (Ev.pos (by rw [hf]; rfl) (Ev.now _))))))
      · refine Ev.step (fun k => impl_IsExpr.l0_eq k _ _ _ _) (Ev.pos (by simpa using hi) (Ev.pos (by simp) (Ev.get hi (Ev.bind (isNode_ev e[i] i (by omega) (by omega)) (Ev.neg (by rw [hf]; rfl) ?_)))))
        rw [next_ok i _ hi (by omega)]
        exact ih
end Go.Proofs.Ytohfaccniialmaa.Am
end
section
/- When an expression is a tree: the program's function and the reference's. -/
namespace Go.Proofs.Ytohfaccniialmaa.Am
open Go
set_option linter.unusedVariables false
set_option linter.unusedSimpArgs false

def Bnd (u : List Int) (m : Nat) : Prop := ∀ x ∈ u, 0 ≤ x ∧ x ≤ m
theorem bump_bnd {u : List Int} {m : Nat} (h : Bnd u m) (hm : m ≤ 1000000000) (p : Int) : Bnd (bumpU u p) (m + 1) := by
  intro x hx
  unfold bumpU at hx
  rcases List.mem_or_eq_of_mem_set hx with hx | hx
  · have := h x hx; omega
  · have hd : 0 ≤ u.getD p.toNat 0 ∧ u.getD p.toNat 0 ≤ m := by
      rw [List.getD_eq_getElem?_getD]
      cases hq : u[p.toNat]? with
      | none => simp
      | some y => exact h y (List.mem_of_getElem? hq)
    rw [hx, wrap_ok (by omega) (by omega)]
    omega
theorem fold_bnd : ∀ (l : List Int) (u : List Int) (m : Nat), Bnd u m → m + l.length ≤ 1000000000 → Bnd (l.foldl bumpU u) (m + l.length)
  | [], u, m, h, _ => h
  | p :: l, u, m, h, hm => by
    simp only [List.length_cons] at hm
    rw [List.foldl_cons, List.length_cons, show m + (l.length + 1) = (m + 1) + l.length by omega]
    exact fold_bnd l _ (m + 1) (bump_bnd h (by omega) p) (by omega)
theorem Bnd.mono {u : List Int} {m k : Nat} (h : Bnd u m) (hk : m ≤ k) : Bnd u k := fun x hx => by have := h x hx; omega
theorem folds_bnd : ∀ (l : List Nd) (u : List Int) (m : Nat), Bnd u m → m + 2 * l.length ≤ 1000000000 → Bnd (l.foldl bumps u) (m + 2 * l.length)
  | [], u, m, h, _ => h
  | n :: l, u, m, h, hm => by
    simp only [List.length_cons] at hm
    have hp := parts_le n
    rw [List.foldl_cons, List.length_cons, show m + 2 * (l.length + 1) = (m + 2) + 2 * l.length by omega]
    exact folds_bnd l _ (m + 2) ((fold_bnd (partsOf n) u m h (by omega)).mono (by omega)) (by omega)
theorem uses_bnd (e : List Nd) (hl : e.length ≤ 1048576) : Bnd (usesOf e) (2 * e.length) := by
  have := folds_bnd e (List.replicate e.length 0) 0 (fun x hx => by have := List.eq_of_mem_replicate hx; omega) (by omega)
  simpa [usesOf] using this
/-- is each node at most once an operand -/
def once (e : List Nd) : Bool := (usesOf e).all fun x => decide (x ≤ 1)
theorem l1All_ev (l : List Int) (hl : l.length ≤ 9223372036854775000) (hb : ∀ x ∈ l, 0 ≤ x) : Ev (fun k => spec_l1All.f k l 0 1) (l.all fun x => decide (x ≤ 1)) := by
  refine Ev.step (fun k => spec_l1All.eq k l 0 1) ?_
  have key := Ev.loop l.length (fun k i => spec_l1All.l0 k 0 1 l (l.length : Int) (i : Int)) (fun i => (l.drop i).all fun x => decide (x ≤ 1)) ?_ ?_ 0 (by omega)
  · exact key
  · exact Ev.step (fun k => spec_l1All.l0_eq k _ _ _ _ _) (Ev.neg (by simp) (Ev.ret (by simp)))
  · intro i hi ih
    refine Ev.step (fun k => spec_l1All.l0_eq k _ _ _ _ _) (Ev.pos (by simpa using hi) (Ev.pos (by simp) (Ev.get hi (Ev.here (l1In_f _ _ _) ?_))))
    have h0 := hb _ (List.getElem_mem hi)
    rw [next_ok i _ hi hl]
    rw [drop_at _ _ hi, List.all_cons]
    by_cases c : l[i] ≤ 1
    · exact Ev.neg (by rw [inB_iff.2 ⟨h0, c⟩]; rfl) (Ev.eq ih (by simp [c]))
    · have : inB l[i] 0 1 = false := by
        cases hq : inB l[i] 0 1 with
        | false => rfl
        | true => exact absurd (inB_iff.1 hq).2 c
      exact Ev.pos (by rw [this]; rfl) (Ev.ret (by simp [c]))
theorem many_ev (l : List Int) (hl : l.length ≤ 9223372036854775000) : Ev (fun k => slices_ContainsFunc_int_isTree.f k l) (!(l.all fun x => decide (x ≤ 1))) := by
  have key : ∀ (d : Nat) (i : Nat), i + d = l.length → ∃ r : Int, Ev (fun k => slices_IndexFunc_int_isTree.l0 k l (l.length : Int) (i : Int)) r ∧ (0 ≤ r ↔ ((l.drop i).all fun x => decide (x ≤ 1)) = false) := by
    intro d
    induction d with
    | zero =>
      intro i h
      refine ⟨-1, Ev.step (fun k => slices_IndexFunc_int_isTree.l0_eq k _ _ _) (Ev.neg (by simp; omega) (Ev.now _)), ?_⟩
      rw [List.drop_eq_nil_of_le (by omega)]; simp
    | succ d ih =>
      intro i h
      have hi : i < l.length := by omega
      by_cases c : l[i] > 1
      · refine ⟨i, Ev.step (fun k => slices_IndexFunc_int_isTree.l0_eq k _ _ _) (Ev.pos (by simpa using hi) (Ev.pos (by simp) (Ev.get hi (Ev.here (impl_isTree_1.eq _) (Ev.pos (by simpa using c) (Ev.now _)))))), ?_⟩
        have c' : ¬ l[i] ≤ 1 := by omega
        rw [drop_at _ _ hi, List.all_cons]; simp [c']
      · obtain ⟨r, hev, hiff⟩ := ih (i + 1) (by omega)
        refine ⟨r, Ev.step (fun k => slices_IndexFunc_int_isTree.l0_eq k _ _ _) (Ev.pos (by simpa using hi) (Ev.pos (by simp) (Ev.get hi (Ev.here (impl_isTree_1.eq _) (Ev.neg (by simpa using c) (by rw [next_ok i _ hi hl]; exact hev)))))), ?_⟩
        have c' : l[i] ≤ 1 := by omega
        rw [hiff, drop_at _ _ hi, List.all_cons]; simp [c']
  obtain ⟨r, hev, hiff⟩ := key l.length 0 (by omega)
  refine Ev.step (fun k => slices_ContainsFunc_int_isTree.eq k l) (Ev.bind (b := r) (Ev.step (fun k => slices_IndexFunc_int_isTree.eq k l) hev) (Ev.ret ?_))
  rw [List.drop_zero] at hiff
  cases hq : l.all fun x => decide (x ≤ 1) with
  | true => rw [hq] at hiff; have : ¬ 0 ≤ r := fun h => by have := hiff.1 h; cases this
            simp [this]
  | false => rw [hq] at hiff; have : 0 ≤ r := hiff.2 rfl
             simp [this]
theorem exTree_ev (e : List Nd) (hl : e.length ≤ 1048576) (hg : exprOk e = true) : Ev (fun k => spec_exTree.f k e) (once e) := by
  unfold exprOk at hg
  simp only [Bool.and_eq_true] at hg
  exact Ev.step (fun k => spec_exTree.eq k e) (Ev.bind (exUses_ev e hl (nodesOk_parts hg.2.1)) (Ev.bind (l1All_ev _ (by rw [usesOf_len]; omega) fun x hx => (uses_bnd e hl x hx).1) (Ev.now _)))
theorem isTree_ev (e : List Nd) (hl : e.length ≤ 1048576) : Ev (fun k => impl_isTree.f k e) (exprOk e && once e) := by
  refine Ev.step (fun k => impl_isTree.eq k e) (Ev.bind (isExpr_ev e hl) ?_)
  cases hg : exprOk e with
  | false => exact Ev.neg rfl (Ev.ret (by simp))
  | true =>
    have hg' := hg
    unfold exprOk at hg'
    simp only [Bool.and_eq_true] at hg'
    exact Ev.pos rfl (Ev.bind (uses_ev e hl (nodesOk_parts hg'.2.1)) (Ev.bind (many_ev _ (by rw [usesOf_len]; omega)) (Ev.ret (by simp [once]))))
theorem exprOk_parts {e : List Nd} (h : exprOk e = true) : nodesOk e 0 = true ∧ 1 ≤ e.length ∧ e.length ≤ 24 := by
  unfold exprOk at h
  simp only [Bool.and_eq_true, inB_iff] at h
  exact ⟨h.2.1, by omega, by omega⟩
end Go.Proofs.Ytohfaccniialmaa.Am
end
section
/- A subtree, copied behind other nodes: what the reference's copy answers. -/
namespace Go.Proofs.Ytohfaccniialmaa.Am
open Go
set_option linter.unusedVariables false
set_option linter.unusedSimpArgs false

def putN (n : Nd) (is : List Int) : Nd := (n.1, is.getD 0 0, is.getD 1 0, n.2.2.2)
/-- the parts' copies, one behind the other, and where each one's root stands -/
def wkP (w : Int → Nat → List Nd) : List Int → Nat → List Nd × List Int
  | [], _ => ([], [])
  | p :: r, b => (w p b ++ (wkP w r (b + (w p b).length)).1, (((b + (w p b).length : Nat) : Int) - 1) :: (wkP w r (b + (w p b).length)).2)
/-- what a copy of the subtree at i appends behind b nodes -/
def wk (e : List Nd) : Nat → Int → Nat → List Nd
  | 0, _, _ => []
  | f + 1, i, b => match e[i.toNat]? with
    | some n => (wkP (wk e f) (partsOf n) b).1 ++ [putN n (wkP (wk e f) (partsOf n) b).2]
    | none => []
theorem wkP_len {w : Int → Nat → List Nd} {m : Nat} (hw : ∀ p b, (w p b).length ≤ m) : ∀ (ps : List Int) (b : Nat), (wkP w ps b).1.length ≤ m * ps.length
  | [], b => by simp [wkP]
  | p :: r, b => by
    have h1 := hw p b
    have h2 := wkP_len hw r (b + (w p b).length)
    simp only [wkP, List.length_append, List.length_cons]
    rw [Nat.mul_add, Nat.mul_one]
    omega
theorem wk_len (e : List Nd) : ∀ (f : Nat) (i : Int) (b : Nat), (wk e f i b).length + 1 ≤ 2 ^ f
  | 0, i, b => by simp [wk]
  | f + 1, i, b => by
    have hp : 1 ≤ 2 ^ f := Nat.one_le_two_pow
    simp only [wk]
    split
    · rename_i n hn
      have h1 := wkP_len (w := wk e f) (m := 2 ^ f - 1) (fun p b => by have := wk_len e f p b; omega) (partsOf n) b
      have h2 := parts_le n
      have h3 : (2 ^ f - 1) * (partsOf n).length ≤ (2 ^ f - 1) * 2 := Nat.mul_le_mul_left _ h2
      rw [List.length_append, Nat.pow_succ]
      simp only [List.length_cons, List.length_nil]
      omega
    · rw [Nat.pow_succ]; simp; omega
theorem wk_at {e : List Nd} {i : Nat} (hi : i < e.length) (f b : Nat) : wk e (f + 1) (i : Int) b = (wkP (wk e f) (partsOf e[i]) b).1 ++ [putN e[i] (wkP (wk e f) (partsOf e[i]) b).2] := by
  simp only [wk, Int.toNat_natCast, List.getElem?_eq_getElem hi]
theorem wk_at' {e : List Nd} {i : Nat} (hi : i < e.length) {g f : Nat} (hg : g = f + 1) (b : Nat) : wk e g (i : Int) b = (wkP (wk e f) (partsOf e[i]) b).1 ++ [putN e[i] (wkP (wk e f) (partsOf e[i]) b).2] := by
  subst hg
  exact wk_at hi f b
theorem put_f (n : Nd) (is : List Int) (t : List Nd) (ht : t.length ≤ 1000000000) : spec_ruTree_put.f n is t = some ((t.length : Int), ((), t ++ [putN n is])) := by
  have hw : IntKind.wrap .i64 (t.length : Int) = (t.length : Int) := wrap_ok (by omega) (by omega)
  have hr : t.length + 1 ≤ 35184372088832 / (40 + 1) := by omega
  rw [spec_ruTree_put.eq]
  match is with
  | [] => simp [br, gt, putN, hr, hw]
  | [a] => simp [br, gt, putN, hr, hw]
  | a :: b :: r =>
    have h1 : ((r.length : Int) + 1 + 1 > 0) := by omega
    have h2 : ((r.length : Int) + 1 + 1 > 1) := by omega
    simp [br, gt, putN, hr, hw, h1, h2]
theorem exParts_in {e : List Nd} (hn : nodesOk e 0 = true) {i : Nat} (hi : i < e.length) : ∀ p ∈ partsOf e[i], 0 ≤ p ∧ p < i := by
  have := nodesOk_get e 0 hn i hi
  rw [Nat.zero_add] at this
  exact nodeOk_parts this
/-- the rounds over the parts -/
theorem copied_parts (e : List Nd) {i : Nat} (hi : i < e.length) (w : Int → Nat → List Nd) {m : Nat} (hm : ∀ p b, (w p b).length ≤ m) (hF : ∀ p ∈ partsOf e[i], ∀ t : List Nd, t.length + m * 4 + 4 ≤ 1000000000 → Ew (fun d k => spec_ruTree_copied.F d k e p t) (((t.length + (w p t.length).length : Nat) : Int) - 1, ((), t ++ w p t.length))) :
    ∀ (r j : Nat) (t : List Nd) (is : List Int), j + r = (partsOf e[i]).length → t.length + m * (r + 4) + 4 ≤ 1000000000 → is.length ≤ j →
      Ew (fun d k => spec_ruTree_copied.l0 d k e (i : Int) (partsOf e[i]) ((partsOf e[i]).length : Int) (j : Int) t is) (((t.length + (wkP w ((partsOf e[i]).drop j) t.length).1.length : Nat) : Int), ((), t ++ (wkP w ((partsOf e[i]).drop j) t.length).1 ++ [putN e[i] (is ++ (wkP w ((partsOf e[i]).drop j) t.length).2)])) := by
  intro r
  induction r with
  | zero =>
    intro j t is hj ht his
    rw [List.drop_eq_nil_of_le (by omega)]
    refine Ew.step (fun d k => spec_ruTree_copied.l0_eq d k _ _ _ _ _ _ _) (Ew.neg (by simp; omega) (Ew.pos (by simp) (Ew.get hi (Ew.here (put_f _ _ _ (by omega)) (Ew.ret ?_)))))
    simp [wkP]
  | succ r ih =>
    intro j t is hj ht his
    have hlt : j < (partsOf e[i]).length := by omega
    have h2 := parts_le e[i]
    have hw := hm (partsOf e[i])[j] t.length
    have e1 : m * (r + 1 + 4) = m * (r + 4) + m := by rw [show r + 1 + 4 = (r + 4) + 1 by omega, Nat.mul_add, Nat.mul_one]
    have e2 : m * 4 ≤ m * (r + 1 + 4) := Nat.mul_le_mul_left _ (by omega)
    refine Ew.step (fun d k => spec_ruTree_copied.l0_eq d k _ _ _ _ _ _ _) (Ew.pos (by simpa using hlt) (Ew.pos (by simp) (Ew.get hlt (Ew.bind (hF _ (List.getElem_mem hlt) t (by omega)) (Ew.pos (by simp; omega) ?_)))))
    rw [next_ok j _ hlt (by omega)]
    refine Ew.eq (ih (j + 1) (t ++ w (partsOf e[i])[j] t.length) (is ++ [((t.length + (w (partsOf e[i])[j] t.length).length : Nat) : Int) - 1]) (by omega) (by rw [List.length_append]; omega) (by simp; omega)) ?_
    rw [drop_at _ _ hlt]
    simp only [wkP, List.length_append]
    simp [List.append_assoc, Nat.add_assoc]
theorem copied_ev (e : List Nd) (hn : nodesOk e 0 = true) : ∀ (f : Nat) (i : Nat) (t : List Nd), i < e.length → i < f → f ≤ 25 → t.length + 2 ^ f * 4 ≤ 1000000000 → Ew (fun d k => spec_ruTree_copied.F d k e (i : Int) t) (((t.length + (wk e f i t.length).length : Nat) : Int) - 1, ((), t ++ wk e f i t.length))
  | 0, i, t, hi, hf, _, _ => by omega
  | f + 1, i, t, hi, hf, h25, ht => by
    have hin := exParts_in hn hi
    have h2 := parts_le e[i]
    have hp : 1 ≤ 2 ^ f := Nat.one_le_two_pow
    rw [Nat.pow_succ] at ht
    refine Ew.deep (fun d k => spec_ruTree_copied.eq d k _ _ _) (Ew.pos (by simp) (Ew.get hi (Ew.bind (exParts_ev e[i]).ew ?_)))
    refine Ew.eq (copied_parts e hi (wk e f) (m := 2 ^ f - 1) (fun p b => by have := wk_len e f p b; omega) (fun p hp t' ht' => ?_) (partsOf e[i]).length 0 t [] (by omega) (by
      have : (2 ^ f - 1) * ((partsOf e[i]).length + 4) ≤ (2 ^ f - 1) * 6 := Nat.mul_le_mul_left _ (by omega)
      omega) (by simp)) ?_
    · obtain ⟨h0, h1⟩ := hin p hp
      obtain ⟨q, rfl⟩ := Int.eq_ofNat_of_zero_le h0
      have hq : q < i := by omega
      exact copied_ev e hn f q t' (by omega) (by omega) (by omega) (by omega)
    · rw [List.drop_zero]
      simp only [wk, Int.toNat_natCast, List.getElem?_eq_getElem hi, List.nil_append, List.length_append, List.length_cons, List.length_nil, List.append_assoc]
      simp
      omega
theorem copiedN_parts (e : List Nd) {i : Nat} (hi : i < e.length) (w : Int → Nat → List Nd) {m : Nat} (hm : ∀ p b, (w p b).length ≤ m) (hF : ∀ p ∈ partsOf e[i], ∀ t : List Nd, t.length + m * 4 + 4 ≤ 1000000000 → Ev (fun k => spec_ruTree_copied.f k e p t) (((t.length + (w p t.length).length : Nat) : Int) - 1, ((), t ++ w p t.length))) :
    ∀ (r j : Nat) (t : List Nd) (is : List Int), j + r = (partsOf e[i]).length → t.length + m * (r + 4) + 4 ≤ 1000000000 → is.length ≤ j →
      Ev (fun k => spec_ruTree_copied_nil.l0 k e (i : Int) (partsOf e[i]) ((partsOf e[i]).length : Int) (j : Int) t is) (((t.length + (wkP w ((partsOf e[i]).drop j) t.length).1.length : Nat) : Int), ((), t ++ (wkP w ((partsOf e[i]).drop j) t.length).1 ++ [putN e[i] (is ++ (wkP w ((partsOf e[i]).drop j) t.length).2)])) := by
  intro r
  induction r with
  | zero =>
    intro j t is hj ht his
    rw [List.drop_eq_nil_of_le (by omega)]
    refine Ev.step (fun k => spec_ruTree_copied_nil.l0_eq k _ _ _ _ _ _ _) (Ev.neg (by simp; omega) (Ev.pos (by simp) (Ev.get hi (Ev.here (put_f _ _ _ (by omega)) (Ev.ret ?_)))))
    simp [wkP]
  | succ r ih =>
    intro j t is hj ht his
    have hlt : j < (partsOf e[i]).length := by omega
    have h2 := parts_le e[i]
    have hw := hm (partsOf e[i])[j] t.length
    have e1 : m * (r + 1 + 4) = m * (r + 4) + m := by rw [show r + 1 + 4 = (r + 4) + 1 by omega, Nat.mul_add, Nat.mul_one]
    have e2 : m * 4 ≤ m * (r + 1 + 4) := Nat.mul_le_mul_left _ (by omega)
    refine Ev.step (fun k => spec_ruTree_copied_nil.l0_eq k _ _ _ _ _ _ _) (Ev.pos (by simpa using hlt) (Ev.pos (by simp) (Ev.get hlt (Ev.bind (hF _ (List.getElem_mem hlt) t (by omega)) (Ev.pos (by simp; omega) ?_)))))
    rw [next_ok j _ hlt (by omega)]
    refine Ev.eq (ih (j + 1) (t ++ w (partsOf e[i])[j] t.length) (is ++ [((t.length + (w (partsOf e[i])[j] t.length).length : Nat) : Int) - 1]) (by omega) (by rw [List.length_append]; omega) (by simp; omega)) ?_
    rw [drop_at _ _ hlt]
    simp only [wkP, List.length_append]
    simp [List.append_assoc, Nat.add_assoc]
theorem ruWalk_gen (e : List Nd) (hn : nodesOk e 0 = true) {i : Nat} (hi : i < e.length) {g f : Nat} (hg : g = f + 1) (hif : i ≤ f) (hf : f ≤ 25) (hb : 2 ^ f * 6 ≤ 1000000000) : Ev (fun k => spec_ruWalk.f k e (i : Int)) (wk e g i 0) := by
  refine Ev.step (fun k => spec_ruWalk.eq k e i) (Ev.bind (b := ((((wk e g i 0).length : Nat) : Int) - 1, ((), wk e g i 0))) ?_ (Ev.now _))
  have hin := exParts_in hn hi
  have h2 := parts_le e[i]
  have hp1 : 1 ≤ 2 ^ f := Nat.one_le_two_pow
  refine Ev.step (fun k => spec_ruTree_copied_nil.eq k _ _) (Ev.pos (by simp) (Ev.get hi (Ev.bind (exParts_ev e[i]) ?_)))
  refine Ev.eq (copiedN_parts e hi (wk e f) (m := 2 ^ f - 1) (fun p b => by have := wk_len e f p b; omega) (fun p hp t' ht' => ?_) (partsOf e[i]).length 0 [] [] (by omega) (by
    have : (2 ^ f - 1) * ((partsOf e[i]).length + 4) ≤ (2 ^ f - 1) * 6 := Nat.mul_le_mul_left _ (by omega)
    simp only [List.length_nil]
    omega) (by simp)) ?_
  · obtain ⟨h0, h1⟩ := hin p hp
    obtain ⟨q, rfl⟩ := Int.eq_ofNat_of_zero_le h0
    have hq : q < i := by omega
    exact (copied_ev e hn f q t' (by omega) (by omega) (by omega) (by omega)).ev
  · rw [List.drop_zero]
    rw [wk_at' hi hg 0]
    simp only [List.length_nil, List.nil_append]
    generalize wkP (wk e f) (partsOf e[i]) 0 = q
    simp
theorem ruWalk_ev (e : List Nd) (hn : nodesOk e 0 = true) (h24 : e.length ≤ 24) {i : Nat} (hi : i < e.length) : Ev (fun k => spec_ruWalk.f k e (i : Int)) (wk e 25 i 0) :=
  ruWalk_gen e hn hi (g := 25) (f := 24) rfl (by omega) (by omega) (by decide)
end Go.Proofs.Ytohfaccniialmaa.Am
end
section
/- A subtree, copied behind other nodes: what the program's copy answers, as long as it does not grow beyond 24 nodes. -/
namespace Go.Proofs.Ytohfaccniialmaa.Am
open Go
set_option linter.unusedVariables false
set_option linter.unusedSimpArgs false

/-- the rounds over the parts, none of which grows beyond the bound -/
theorem grow_parts (e : List Nd) {i : Nat} (hi : i < e.length) (w : Int → Nat → List Nd) (hF : ∀ p ∈ partsOf e[i], ∀ t : List Nd, t.length + (w p t.length).length ≤ 24 → Ew (fun d k => impl_grow.F d k e p t) ((), t ++ w p t.length)) :
    ∀ (r j : Nat) (t : List Nd) (is : List Int), j + r = (partsOf e[i]).length → is.length = j → t.length + (wkP w ((partsOf e[i]).drop j) t.length).1.length + 1 ≤ 24 →
      Ew (fun d k => impl_grow.l0 d k e (partsOf e[i]) ((partsOf e[i]).length : Int) (j : Int) t e[i].1 e[i].2.1 e[i].2.2.1 e[i].2.2.2 (is ++ List.replicate (2 - j) 0)) ((), t ++ (wkP w ((partsOf e[i]).drop j) t.length).1 ++ [putN e[i] (is ++ (wkP w ((partsOf e[i]).drop j) t.length).2)]) := by
  have h2 := parts_le e[i]
  intro r
  induction r with
  | zero =>
    intro j t is hj his ht
    rw [List.drop_eq_nil_of_le (by omega)] at ht ⊢
    have hl2 : (is ++ List.replicate (2 - j) 0).length = 2 := by simp; omega
    have g0 : (is ++ List.replicate (2 - j) (0 : Int))[0]? = some (is.getD 0 0) := by
      match is, j, his with
      | [], 0, _ => rfl
      | a :: q, _, _ => rfl
    have g1 : (is ++ List.replicate (2 - j) (0 : Int))[1]? = some (is.getD 1 0) := by
      match is, j, his with
      | [], 0, _ => rfl
      | [a], 1, _ => rfl
      | a :: b :: q, _, _ => rfl
    refine Ew.step (fun d k => impl_grow.l0_eq d k _ _ _ _ _ _ _ _ _ _) (Ew.neg (by simp; omega) (Ew.pos (by rw [hl2]; decide) (Ew.at g0 (Ew.pos (by rw [hl2]; decide) (Ew.at g1 (Ew.pos (by simp; omega) (Ew.ret ?_)))))))
    simp [wkP, putN]
  | succ r ih =>
    intro j t is hj his ht
    have hlt : j < (partsOf e[i]).length := by omega
    rw [drop_at _ _ hlt] at ht ⊢
    simp only [wkP, List.length_append] at ht ⊢
    have hl2 : (is ++ List.replicate (2 - j) (0 : Int)).length = 2 := by simp; omega
    have hj2 : j < (is ++ List.replicate (2 - j) (0 : Int)).length := by omega
    refine Ew.step (fun d k => impl_grow.l0_eq d k _ _ _ _ _ _ _ _ _ _) (Ew.pos (by simpa using hlt) (Ew.pos (by simp) (Ew.get hlt (Ew.bind (hF _ (List.getElem_mem hlt) t (by omega)) (Ew.neg (by simp; omega) (Ew.pos (by simp) (Ew.pos (by rw [hl2]; simp; omega) (Ew.get hj2 ?_))))))))
    rw [next_ok j _ hlt (by omega), Int.toNat_natCast]
    have hset : (is ++ List.replicate (2 - j) (0 : Int)).set j (IntKind.wrap .i64 (((t ++ w (partsOf e[i])[j] t.length).length : Int) - 1)) = (is ++ [((t.length + (w (partsOf e[i])[j] t.length).length : Nat) : Int) - 1]) ++ List.replicate (2 - (j + 1)) 0 := by
      rw [wrap_ok (by simp; omega) (by simp; omega), List.set_append_right j _ (by omega), show j - is.length = 0 by omega, show 2 - j = (2 - (j + 1)) + 1 by omega, List.replicate_succ, List.set_cons_zero]
      simp
    rw [hset]
    refine Ew.eq (ih (j + 1) (t ++ w (partsOf e[i])[j] t.length) _ (by omega) (by simp; omega) (by rw [List.length_append]; omega)) ?_
    rw [List.length_append]
    simp [List.append_assoc]
theorem grow_fit (e : List Nd) (hn : nodesOk e 0 = true) : ∀ (f i : Nat) (t : List Nd), i < e.length → i < f → t.length + (wk e f i t.length).length ≤ 24 → Ew (fun d k => impl_grow.F d k e (i : Int) t) ((), t ++ wk e f i t.length)
  | 0, i, t, hi, hf, _ => by omega
  | f + 1, i, t, hi, hf, ht => by
    have hin := exParts_in hn hi
    rw [wk_at hi] at ht ⊢
    rw [List.length_append] at ht
    refine Ew.deep (fun d k => impl_grow.eq d k _ _ _) (Ew.pos (by simp) (Ew.get hi (Ew.bind (of_ev e[i]).ew ?_)))
    have := grow_parts e hi (wk e f) (fun p hp t' ht' => by
      obtain ⟨h0, h1⟩ := hin p hp
      obtain ⟨q, rfl⟩ := Int.eq_ofNat_of_zero_le h0
      exact grow_fit e hn f q t' (by omega) (by omega) ht') (partsOf e[i]).length 0 t [] (by omega) rfl (by rw [List.drop_zero]; simpa [Nat.add_assoc] using ht)
    rw [List.drop_zero] at this
    simpa [List.append_assoc] using this
/-- the rounds over the parts, one of which grows beyond the bound -/
theorem grow_parts_over (e : List Nd) {i : Nat} (hi : i < e.length) (w : Int → Nat → List Nd) (hF : ∀ p ∈ partsOf e[i], ∀ t : List Nd, t.length + (w p t.length).length ≤ 24 → Ew (fun d k => impl_grow.F d k e p t) ((), t ++ w p t.length))
    (hO : ∀ p ∈ partsOf e[i], ∀ t : List Nd, t.length ≤ 24 → 24 < t.length + (w p t.length).length → ∃ t', 24 < t'.length ∧ Ew (fun d k => impl_grow.F d k e p t) ((), t')) :
    ∀ (r j : Nat) (t : List Nd) (is : List Int), j + r = (partsOf e[i]).length → is.length = j → t.length ≤ 24 → 24 < t.length + (wkP w ((partsOf e[i]).drop j) t.length).1.length + 1 →
      ∃ t', 24 < t'.length ∧ Ew (fun d k => impl_grow.l0 d k e (partsOf e[i]) ((partsOf e[i]).length : Int) (j : Int) t e[i].1 e[i].2.1 e[i].2.2.1 e[i].2.2.2 (is ++ List.replicate (2 - j) 0)) ((), t') := by
  have h2 := parts_le e[i]
  intro r
  induction r with
  | zero =>
    intro j t is hj his h24 ht
    rw [List.drop_eq_nil_of_le (by omega)] at ht
    simp only [wkP, List.length_nil] at ht
    have hl2 : (is ++ List.replicate (2 - j) 0).length = 2 := by simp; omega
    have g0 : (is ++ List.replicate (2 - j) (0 : Int))[0]? = some (is.getD 0 0) := by
      match is, j, his with
      | [], 0, _ => rfl
      | a :: q, _, _ => rfl
    have g1 : (is ++ List.replicate (2 - j) (0 : Int))[1]? = some (is.getD 1 0) := by
      match is, j, his with
      | [], 0, _ => rfl
      | [a], 1, _ => rfl
      | a :: b :: q, _, _ => rfl
    refine ⟨t ++ [putN e[i] is], by rw [List.length_append]; simp; omega, Ew.step (fun d k => impl_grow.l0_eq d k _ _ _ _ _ _ _ _ _ _) (Ew.neg (by simp; omega) (Ew.pos (by rw [hl2]; decide) (Ew.at g0 (Ew.pos (by rw [hl2]; decide) (Ew.at g1 (Ew.pos (by simp; omega) (Ew.ret ?_)))))))⟩
    simp [putN]
  | succ r ih =>
    intro j t is hj his h24 ht
    have hlt : j < (partsOf e[i]).length := by omega
    rw [drop_at _ _ hlt] at ht
    simp only [wkP, List.length_append] at ht
    have hl2 : (is ++ List.replicate (2 - j) (0 : Int)).length = 2 := by simp; omega
    have hj2 : j < (is ++ List.replicate (2 - j) (0 : Int)).length := by omega
    by_cases hc : t.length + (w (partsOf e[i])[j] t.length).length ≤ 24
    · obtain ⟨t', h1, h3⟩ := ih (j + 1) (t ++ w (partsOf e[i])[j] t.length) (is ++ [((t.length + (w (partsOf e[i])[j] t.length).length : Nat) : Int) - 1]) (by omega) (by simp; omega) (by rw [List.length_append]; exact hc) (by rw [List.length_append]; omega)
      refine ⟨t', h1, Ew.step (fun d k => impl_grow.l0_eq d k _ _ _ _ _ _ _ _ _ _) (Ew.pos (by simpa using hlt) (Ew.pos (by simp) (Ew.get hlt (Ew.bind (hF _ (List.getElem_mem hlt) t hc) (Ew.neg (by simp; omega) (Ew.pos (by simp) (Ew.pos (by rw [hl2]; simp; omega) (Ew.get hj2 ?_))))))))⟩
      rw [next_ok j _ hlt (by omega), Int.toNat_natCast]
      by_cases h0 : (t ++ w (partsOf e[i])[j] t.length).length = 0
      · have hset : (is ++ List.replicate (2 - j) (0 : Int)).set j (IntKind.wrap .i64 (((t ++ w (partsOf e[i])[j] t.length).length : Int) - 1)) = (is ++ [((t.length + (w (partsOf e[i])[j] t.length).length : Nat) : Int) - 1]) ++ List.replicate (2 - (j + 1)) 0 := by
          rw [wrap_ok (by simp; omega) (by simp; omega), List.set_append_right j _ (by omega), show j - is.length = 0 by omega, show 2 - j = (2 - (j + 1)) + 1 by omega, List.replicate_succ, List.set_cons_zero]
          simp
        rw [hset]
        exact h3
      · have hset : (is ++ List.replicate (2 - j) (0 : Int)).set j (IntKind.wrap .i64 (((t ++ w (partsOf e[i])[j] t.length).length : Int) - 1)) = (is ++ [((t.length + (w (partsOf e[i])[j] t.length).length : Nat) : Int) - 1]) ++ List.replicate (2 - (j + 1)) 0 := by
          rw [wrap_ok (by simp; omega) (by simp; omega), List.set_append_right j _ (by omega), show j - is.length = 0 by omega, show 2 - j = (2 - (j + 1)) + 1 by omega, List.replicate_succ, List.set_cons_zero]
          simp
        rw [hset]
        exact h3
    · obtain ⟨t', h1, h3⟩ := hO _ (List.getElem_mem hlt) t h24 (by omega)
      exact ⟨t', h1, Ew.step (fun d k => impl_grow.l0_eq d k _ _ _ _ _ _ _ _ _ _) (Ew.pos (by simpa using hlt) (Ew.pos (by simp) (Ew.get hlt (Ew.bind h3 (Ew.pos (by simp; omega) (Ew.now _))))))⟩
theorem grow_over (e : List Nd) (hn : nodesOk e 0 = true) : ∀ (f i : Nat) (t : List Nd), i < e.length → i < f → t.length ≤ 24 → 24 < t.length + (wk e f i t.length).length → ∃ t', 24 < t'.length ∧ Ew (fun d k => impl_grow.F d k e (i : Int) t) ((), t')
  | 0, i, t, hi, hf, _, _ => by omega
  | f + 1, i, t, hi, hf, h24, ht => by
    have hin := exParts_in hn hi
    rw [wk_at hi, List.length_append] at ht
    obtain ⟨t', h1, h3⟩ := grow_parts_over e hi (wk e f) (fun p hp t' ht' => by
      obtain ⟨h0, h1⟩ := hin p hp
      obtain ⟨q, rfl⟩ := Int.eq_ofNat_of_zero_le h0
      exact grow_fit e hn f q t' (by omega) (by omega) ht') (fun p hp t' h24' ht' => by
      obtain ⟨h0, h1⟩ := hin p hp
      obtain ⟨q, rfl⟩ := Int.eq_ofNat_of_zero_le h0
      exact grow_over e hn f q t' (by omega) (by omega) h24' ht') (partsOf e[i]).length 0 t [] (by omega) rfl h24 (by rw [List.drop_zero]; simpa [Nat.add_assoc] using ht)
    refine ⟨t', h1, Ew.deep (fun d k => impl_grow.eq d k _ _ _) (Ew.pos (by simp) (Ew.get hi (Ew.bind (of_ev e[i]).ew ?_)))⟩
    simpa using h3
/-- the rounds over the parts, none of which grows beyond the bound -/
theorem growN_parts (e : List Nd) {i : Nat} (hi : i < e.length) (w : Int → Nat → List Nd) (hF : ∀ p ∈ partsOf e[i], ∀ t : List Nd, t.length + (w p t.length).length ≤ 24 → Ev (fun k => impl_grow.f k e p t) ((), t ++ w p t.length)) :
    ∀ (r j : Nat) (t : List Nd) (is : List Int), j + r = (partsOf e[i]).length → is.length = j → t.length + (wkP w ((partsOf e[i]).drop j) t.length).1.length + 1 ≤ 24 →
      Ev (fun k => impl_grow_nil.l0 k e (partsOf e[i]) ((partsOf e[i]).length : Int) (j : Int) t e[i].1 e[i].2.1 e[i].2.2.1 e[i].2.2.2 (is ++ List.replicate (2 - j) 0)) (t ++ (wkP w ((partsOf e[i]).drop j) t.length).1 ++ [putN e[i] (is ++ (wkP w ((partsOf e[i]).drop j) t.length).2)], ()) := by
  have h2 := parts_le e[i]
  intro r
  induction r with
  | zero =>
    intro j t is hj his ht
    rw [List.drop_eq_nil_of_le (by omega)] at ht ⊢
    have hl2 : (is ++ List.replicate (2 - j) 0).length = 2 := by simp; omega
    have g0 : (is ++ List.replicate (2 - j) (0 : Int))[0]? = some (is.getD 0 0) := by
      match is, j, his with
      | [], 0, _ => rfl
      | a :: q, _, _ => rfl
    have g1 : (is ++ List.replicate (2 - j) (0 : Int))[1]? = some (is.getD 1 0) := by
      match is, j, his with
      | [], 0, _ => rfl
      | [a], 1, _ => rfl
      | a :: b :: q, _, _ => rfl
    refine Ev.step (fun k => impl_grow_nil.l0_eq k _ _ _ _ _ _ _ _ _ _) (Ev.neg (by simp; omega) (Ev.pos (by rw [hl2]; decide) (Ev.at g0 (Ev.pos (by rw [hl2]; decide) (Ev.at g1 (Ev.pos (by simp; omega) (Ev.ret ?_)))))))
    simp [wkP, putN]
  | succ r ih =>
    intro j t is hj his ht
    have hlt : j < (partsOf e[i]).length := by omega
    rw [drop_at _ _ hlt] at ht ⊢
    simp only [wkP, List.length_append] at ht ⊢
    have hl2 : (is ++ List.replicate (2 - j) (0 : Int)).length = 2 := by simp; omega
    have hj2 : j < (is ++ List.replicate (2 - j) (0 : Int)).length := by omega
    refine Ev.step (fun k => impl_grow_nil.l0_eq k _ _ _ _ _ _ _ _ _ _) (Ev.pos (by simpa using hlt) (Ev.pos (by simp) (Ev.get hlt (Ev.bind (hF _ (List.getElem_mem hlt) t (by omega)) (Ev.neg (by simp; omega) (Ev.pos (by simp) (Ev.pos (by rw [hl2]; simp; omega) (Ev.get hj2 ?_))))))))
    rw [next_ok j _ hlt (by omega), Int.toNat_natCast]
    have hset : (is ++ List.replicate (2 - j) (0 : Int)).set j (IntKind.wrap .i64 (((t ++ w (partsOf e[i])[j] t.length).length : Int) - 1)) = (is ++ [((t.length + (w (partsOf e[i])[j] t.length).length : Nat) : Int) - 1]) ++ List.replicate (2 - (j + 1)) 0 := by
      rw [wrap_ok (by simp; omega) (by simp; omega), List.set_append_right j _ (by omega), show j - is.length = 0 by omega, show 2 - j = (2 - (j + 1)) + 1 by omega, List.replicate_succ, List.set_cons_zero]
      simp
    rw [hset]
    refine Ev.eq (ih (j + 1) (t ++ w (partsOf e[i])[j] t.length) _ (by omega) (by simp; omega) (by rw [List.length_append]; omega)) ?_
    rw [List.length_append]
    simp [List.append_assoc]
/-- the rounds over the parts, one of which grows beyond the bound -/
theorem growN_parts_over (e : List Nd) {i : Nat} (hi : i < e.length) (w : Int → Nat → List Nd) (hF : ∀ p ∈ partsOf e[i], ∀ t : List Nd, t.length + (w p t.length).length ≤ 24 → Ev (fun k => impl_grow.f k e p t) ((), t ++ w p t.length))
    (hO : ∀ p ∈ partsOf e[i], ∀ t : List Nd, t.length ≤ 24 → 24 < t.length + (w p t.length).length → ∃ t', 24 < t'.length ∧ Ev (fun k => impl_grow.f k e p t) ((), t')) :
    ∀ (r j : Nat) (t : List Nd) (is : List Int), j + r = (partsOf e[i]).length → is.length = j → t.length ≤ 24 → 24 < t.length + (wkP w ((partsOf e[i]).drop j) t.length).1.length + 1 →
      ∃ t', 24 < t'.length ∧ Ev (fun k => impl_grow_nil.l0 k e (partsOf e[i]) ((partsOf e[i]).length : Int) (j : Int) t e[i].1 e[i].2.1 e[i].2.2.1 e[i].2.2.2 (is ++ List.replicate (2 - j) 0)) (t', ()) := by
  have h2 := parts_le e[i]
  intro r
  induction r with
  | zero =>
    intro j t is hj his h24 ht
    rw [List.drop_eq_nil_of_le (by omega)] at ht
    simp only [wkP, List.length_nil] at ht
    have hl2 : (is ++ List.replicate (2 - j) 0).length = 2 := by simp; omega
    have g0 : (is ++ List.replicate (2 - j) (0 : Int))[0]? = some (is.getD 0 0) := by
      match is, j, his with
      | [], 0, _ => rfl
      | a :: q, _, _ => rfl
    have g1 : (is ++ List.replicate (2 - j) (0 : Int))[1]? = some (is.getD 1 0) := by
      match is, j, his with
      | [], 0, _ => rfl
      | [a], 1, _ => rfl
      | a :: b :: q, _, _ => rfl
    refine ⟨t ++ [putN e[i] is], by rw [List.length_append]; simp; omega, Ev.step (fun k => impl_grow_nil.l0_eq k _ _ _ _ _ _ _ _ _ _) (Ev.neg (by simp; omega) (Ev.pos (by rw [hl2]; decide) (Ev.at g0 (Ev.pos (by rw [hl2]; decide) (Ev.at g1 (Ev.pos (by simp; omega) (Ev.ret ?_)))))))⟩
    simp [putN]
  | succ r ih =>
    intro j t is hj his h24 ht
    have hlt : j < (partsOf e[i]).length := by omega
    rw [drop_at _ _ hlt] at ht
    simp only [wkP, List.length_append] at ht
    have hl2 : (is ++ List.replicate (2 - j) (0 : Int)).length = 2 := by simp; omega
    have hj2 : j < (is ++ List.replicate (2 - j) (0 : Int)).length := by omega
    by_cases hc : t.length + (w (partsOf e[i])[j] t.length).length ≤ 24
    · obtain ⟨t', h1, h3⟩ := ih (j + 1) (t ++ w (partsOf e[i])[j] t.length) (is ++ [((t.length + (w (partsOf e[i])[j] t.length).length : Nat) : Int) - 1]) (by omega) (by simp; omega) (by rw [List.length_append]; exact hc) (by rw [List.length_append]; omega)
      refine ⟨t', h1, Ev.step (fun k => impl_grow_nil.l0_eq k _ _ _ _ _ _ _ _ _ _) (Ev.pos (by simpa using hlt) (Ev.pos (by simp) (Ev.get hlt (Ev.bind (hF _ (List.getElem_mem hlt) t hc) (Ev.neg (by simp; omega) (Ev.pos (by simp) (Ev.pos (by rw [hl2]; simp; omega) (Ev.get hj2 ?_))))))))⟩
      rw [next_ok j _ hlt (by omega), Int.toNat_natCast]
      by_cases h0 : (t ++ w (partsOf e[i])[j] t.length).length = 0
      · have hset : (is ++ List.replicate (2 - j) (0 : Int)).set j (IntKind.wrap .i64 (((t ++ w (partsOf e[i])[j] t.length).length : Int) - 1)) = (is ++ [((t.length + (w (partsOf e[i])[j] t.length).length : Nat) : Int) - 1]) ++ List.replicate (2 - (j + 1)) 0 := by
          rw [wrap_ok (by simp; omega) (by simp; omega), List.set_append_right j _ (by omega), show j - is.length = 0 by omega, show 2 - j = (2 - (j + 1)) + 1 by omega, List.replicate_succ, List.set_cons_zero]
          simp
        rw [hset]
        exact h3
      · have hset : (is ++ List.replicate (2 - j) (0 : Int)).set j (IntKind.wrap .i64 (((t ++ w (partsOf e[i])[j] t.length).length : Int) - 1)) = (is ++ [((t.length + (w (partsOf e[i])[j] t.length).length : Nat) : Int) - 1]) ++ List.replicate (2 - (j + 1)) 0 := by
          rw [wrap_ok (by simp; omega) (by simp; omega), List.set_append_right j _ (by omega), show j - is.length = 0 by omega, show 2 - j = (2 - (j + 1)) + 1 by omega, List.replicate_succ, List.set_cons_zero]
          simp
        rw [hset]
        exact h3
    · obtain ⟨t', h1, h3⟩ := hO _ (List.getElem_mem hlt) t h24 (by omega)
      exact ⟨t', h1, Ev.step (fun k => impl_grow_nil.l0_eq k _ _ _ _ _ _ _ _ _ _) (Ev.pos (by simpa using hlt) (Ev.pos (by simp) (Ev.get hlt (Ev.bind h3 (Ev.pos (by simp; omega) (Ev.now _))))))⟩
theorem growN_fit (e : List Nd) (hn : nodesOk e 0 = true) {i : Nat} (hi : i < e.length) {g f : Nat} (hg : g = f + 1) (hif : i ≤ f) (ht : (wk e g i 0).length ≤ 24) : Ev (fun k => impl_grow_nil.f k e (i : Int)) (wk e g i 0, ()) := by
  have hin := exParts_in hn hi
  rw [wk_at' hi hg] at ht ⊢
  rw [List.length_append] at ht
  refine Ev.step (fun k => impl_grow_nil.eq k _ _) (Ev.pos (by simp) (Ev.get hi (Ev.bind (of_ev e[i]) ?_)))
  have := growN_parts e hi (wk e f) (fun p hp t' ht' => by
    obtain ⟨h0, h1⟩ := hin p hp
    obtain ⟨q, rfl⟩ := Int.eq_ofNat_of_zero_le h0
    exact (grow_fit e hn f q t' (by omega) (by omega) ht').ev) (partsOf e[i]).length 0 [] [] (by omega) rfl (by rw [List.drop_zero]; simpa using ht)
  rw [List.drop_zero] at this
  simpa using this
theorem growN_over (e : List Nd) (hn : nodesOk e 0 = true) {i : Nat} (hi : i < e.length) {g f : Nat} (hg : g = f + 1) (hif : i ≤ f) (ht : 24 < (wk e g i 0).length) : ∃ t', 24 < t'.length ∧ Ev (fun k => impl_grow_nil.f k e (i : Int)) (t', ()) := by
  have hin := exParts_in hn hi
  rw [wk_at' hi hg, List.length_append] at ht
  obtain ⟨t', h1, h3⟩ := growN_parts_over e hi (wk e f) (fun p hp t' ht' => by
    obtain ⟨h0, h1⟩ := hin p hp
    obtain ⟨q, rfl⟩ := Int.eq_ofNat_of_zero_le h0
    exact (grow_fit e hn f q t' (by omega) (by omega) ht').ev) (fun p hp t' h24' ht' => by
    obtain ⟨h0, h1⟩ := hin p hp
    obtain ⟨q, rfl⟩ := Int.eq_ofNat_of_zero_le h0
    obtain ⟨u, h2, h4⟩ := grow_over e hn f q t' (by omega) (by omega) h24' ht'
    exact ⟨u, h2, h4.ev⟩) (partsOf e[i]).length 0 [] [] (by omega) rfl (by simp) (by rw [List.drop_zero]; simpa using ht)
  refine ⟨t', h1, Ev.step (fun k => impl_grow_nil.eq k _ _) (Ev.pos (by simp) (Ev.get hi (Ev.bind (of_ev e[i]) ?_)))⟩
  simpa using h3
end Go.Proofs.Ytohfaccniialmaa.Am
end
section
/- When an expression is written as its walk: the program's function and the reference's. -/
namespace Go.Proofs.Ytohfaccniialmaa.Am
open Go
set_option linter.unusedVariables false
set_option linter.unusedSimpArgs false

def nodeEq (a b : Nd) : Bool := (a.1 == b.1) && ((a.2.1 == b.2.1) && ((a.2.2.1 == b.2.2.1) && ((a.2.2.2 == b.2.2.2) && true)))
theorem nodeEq_iff {a b : Nd} : nodeEq a b = true ↔ a = b := by
  obtain ⟨a0, a1, a2, a3⟩ := a
  obtain ⟨b0, b1, b2, b3⟩ := b
  have hb : (a0 == b0) = true ↔ a0 = b0 := by
    obtain ⟨p⟩ := a0
    obtain ⟨q⟩ := b0
    have : ((⟨p⟩ : ByteArray) == ⟨q⟩) = (p == q) := rfl
    rw [this, beq_iff_eq]
    simp
  simp only [nodeEq, Bool.and_eq_true, Bool.and_true, beq_iff_eq, hb, Prod.mk.injEq]
theorem cons_dec {a b : Nd} {r q : List Nd} (h : a = b) : decide (a :: r = b :: q) = decide (r = q) := by subst h; simp
theorem ruSame_ev (xs ys : List Nd) (hx : xs.length ≤ 1048576000000) : Ev (fun k => spec_ruSame.f k xs ys) (decide (xs = ys)) := by
  refine Ev.step (fun k => spec_ruSame.eq k xs ys) ?_
  by_cases hl : xs.length = ys.length
  · refine Ev.neg (by simp [hl]) ?_
    have key := Ev.loop xs.length (fun k i => spec_ruSame.l0 k ys xs (xs.length : Int) (i : Int)) (fun i => decide (xs.drop i = ys.drop i)) ?_ ?_ 0 (by omega)
    · exact key
    · exact Ev.step (fun k => spec_ruSame.l0_eq k _ _ _ _) (Ev.neg (by simp) (Ev.ret (by rw [List.drop_eq_nil_of_le (by omega), List.drop_eq_nil_of_le (by omega)]; simp)))
    · intro i hi ih
      have hi' : i < ys.length := by omega
      refine Ev.step (fun k => spec_ruSame.l0_eq k _ _ _ _) (Ev.pos (by simpa using hi) (Ev.pos (by simp) (Ev.get hi (Ev.pos (by simp) (Ev.get hi' ?_)))))
      rw [next_ok i _ hi (by omega), drop_at xs i hi, drop_at ys i hi']
      by_cases c : xs[i] = ys[i]
      · exact Ev.neg (by have := nodeEq_iff.2 c; unfold nodeEq at this; rw [this]; rfl) (Ev.eq ih (cons_dec c).symm)
      · have hf : nodeEq xs[i] ys[i] = false := by
          cases h : nodeEq xs[i] ys[i] with
          | false => rfl
          | true => exact absurd (nodeEq_iff.1 h) c
        exact Ev.pos (by unfold nodeEq at hf; rw [hf]; rfl) (Ev.ret (by symm; rw [decide_eq_false_iff_not]; intro e; exact c (List.cons.inj e).1))
  · exact Ev.pos (by simp; omega) (Ev.ret (by symm; simp; intro e; exact hl (by rw [e])))
theorem equalN_ev (xs ys : List Nd) (hx : xs.length ≤ 1048576000000) : Ev (fun k => slices_Equal_Node.f k xs ys) (decide (xs = ys)) := by
  refine Ev.step (fun k => slices_Equal_Node.eq k xs ys) ?_
  by_cases hl : xs.length = ys.length
  · refine Ev.neg (by simp [hl]) ?_
    have key := Ev.loop xs.length (fun k i => slices_Equal_Node.l0 k xs ys (xs.length : Int) (i : Int)) (fun i => decide (xs.drop i = ys.drop i)) ?_ ?_ 0 (by omega)
    · exact key
    · exact Ev.step (fun k => slices_Equal_Node.l0_eq k _ _ _ _) (Ev.neg (by simp) (Ev.ret (by rw [List.drop_eq_nil_of_le (by omega), List.drop_eq_nil_of_le (by omega)]; simp)))
    · intro i hi ih
      have hi' : i < ys.length := by omega
      refine Ev.step (fun k => slices_Equal_Node.l0_eq k _ _ _ _) (Ev.pos (by simpa using hi) (Ev.pos (by simp) (Ev.get hi (Ev.pos (by simp) (Ev.get hi' ?_)))))
      rw [next_ok i _ hi (by omega), drop_at xs i hi, drop_at ys i hi']
      by_cases c : xs[i] = ys[i]
      · exact Ev.neg (by have := nodeEq_iff.2 c; unfold nodeEq at this; rw [this]; rfl) (Ev.eq ih (cons_dec c).symm)
      · have hf : nodeEq xs[i] ys[i] = false := by
          cases h : nodeEq xs[i] ys[i] with
          | false => rfl
          | true => exact absurd (nodeEq_iff.1 h) c
        exact Ev.pos (by unfold nodeEq at hf; rw [hf]; rfl) (Ev.ret (by symm; rw [decide_eq_false_iff_not]; intro e; exact c (List.cons.inj e).1))
  · exact Ev.pos (by simp; omega) (Ev.ret (by symm; simp; intro e; exact hl (by rw [e])))
/-- is an expression a tree that is written as its walk -/
def walked (e : List Nd) : Bool := exprOk e && (once e && decide (wk e 25 ((e.length - 1 : Nat) : Int) 0 = e))
theorem ruWalked_ev (e : List Nd) (hl : e.length ≤ 1048576) : Ev (fun k => spec_ruWalked.f k e) (walked e) := by
  refine Ev.step (fun k => spec_ruWalked.eq k e) (Ev.bind (exGood_ev e hl) ?_)
  unfold walked
  cases hg : exprOk e with
  | false => exact Ev.neg rfl (Ev.ret (by simp))
  | true =>
    obtain ⟨hn, h1, h24⟩ := exprOk_parts hg
    refine Ev.pos rfl (Ev.bind (exTree_ev e hl hg) ?_)
    cases ho : once e with
    | false => exact Ev.neg rfl (Ev.ret (by simp))
    | true =>
      have hw : IntKind.wrap .i64 ((e.length : Int) - 1) = ((e.length - 1 : Nat) : Int) := by rw [wrap_ok (by omega) (by omega)]; omega
      rw [hw]
      have hlen := wk_len e 25 ((e.length - 1 : Nat) : Int) 0
      have h2 : (2 : Nat) ^ 25 = 33554432 := by decide
      rw [h2] at hlen
      exact Ev.pos rfl (Ev.bind (ruWalk_ev e hn h24 (i := e.length - 1) (by omega)) (Ev.bind (ruSame_ev _ _ (by omega)) (Ev.ret (by simp))))
theorem isWalked_ev (e : List Nd) (hl : e.length ≤ 1048576) : Ev (fun k => impl_isWalked.f k e) (walked e) := by
  refine Ev.step (fun k => impl_isWalked.eq k e) (Ev.bind (isTree_ev e hl) ?_)
  unfold walked
  cases hg : exprOk e with
  | false => exact Ev.pos rfl (Ev.ret (by simp))
  | true =>
    obtain ⟨hn, h1, h24⟩ := exprOk_parts hg
    cases ho : once e with
    | false => exact Ev.pos rfl (Ev.ret (by simp))
    | true =>
      refine Ev.neg rfl ?_
      have hw : IntKind.wrap .i64 ((e.length : Int) - 1) = ((e.length - 1 : Nat) : Int) := by rw [wrap_ok (by omega) (by omega)]; omega
      by_cases hc : (wk e 25 ((e.length - 1 : Nat) : Int) 0).length ≤ 24
      · refine Ev.bind (b := (wk e 25 ((e.length - 1 : Nat) : Int) 0, true)) (Ev.step (fun k => impl_ExpandExpr.eq k e) (Ev.bind (isExpr_ev e hl) ?_)) (Ev.bind (equalN_ev _ _ (by simp only; omega)) (Ev.ret (by simp)))
        rw [hg, hw]
        exact Ev.neg rfl (Ev.bind (growN_fit e hn (i := e.length - 1) (by omega) (g := 25) (f := 24) rfl (by omega) hc) (Ev.neg (by simp; omega) (Ev.now _)))
      · obtain ⟨t', h3, h4⟩ := growN_over e hn (i := e.length - 1) (by omega) (g := 25) (f := 24) rfl (by omega) (by omega)
        refine Ev.bind (b := ([], false)) (Ev.step (fun k => impl_ExpandExpr.eq k e) (Ev.bind (isExpr_ev e hl) ?_)) (Ev.bind (equalN_ev _ _ (by simp)) (Ev.ret ?_))
        · rw [hg, hw]
          exact Ev.neg rfl (Ev.bind h4 (Ev.pos (by simp; omega) (Ev.now _)))
        · have n1 : ¬ ([] : List Nd) = e := fun h => by rw [← h] at h1; simp at h1
          have n2 : ¬ wk e 25 ((e.length - 1 : Nat) : Int) 0 = e := fun h => hc (by rw [h]; exact h24)
          rw [decide_eq_false n1, decide_eq_false n2]
          rfl
end Go.Proofs.Ytohfaccniialmaa.Am
end
section
/- Trees that may be asked for. -/
namespace Go.Proofs.Ytohfaccniialmaa.Am
open Go
set_option linter.unusedVariables false
set_option linter.unusedSimpArgs false

theorem hole_val {n : Nd} {i : Int} (h : nodeOk n i = true) (c : n.1 = tIn) : ∃ v : Nat, v < 2 ∧ n.2.2.2 = (v : Int) := by
  unfold nodeOk at h
  rw [if_pos c] at h
  simp only [Bool.and_eq_true, inB_iff] at h
  exact ⟨n.2.2.2.toNat, by omega, by omega⟩
theorem last_w {n : Nat} (h0 : 1 ≤ n) (h1 : n ≤ 1048576) : IntKind.wrap .i64 ((n : Int) - 1) = ((n - 1 : Nat) : Int) := by
  rw [wrap_ok (by omega) (by omega)]; omega
/-- a tree that may be asked for -/
def treeOk (e : List Nd) : Bool := exprOk e && once e
theorem treeOk_parts {e : List Nd} (h : treeOk e = true) : nodesOk e 0 = true ∧ 1 ≤ e.length ∧ e.length ≤ 24 ∧ once e = true := by
  unfold treeOk at h
  rw [Bool.and_eq_true] at h
  obtain ⟨h1, h2, h3⟩ := exprOk_parts h.1
  exact ⟨h1, h2, h3, h.2⟩
theorem isTree_v (e : List Nd) (hl : e.length ≤ 1048576) : impl_isTree.v e = some (treeOk e) := ev_lim (isTree_ev e hl)
theorem exGood_v (e : List Nd) (hl : e.length ≤ 1048576) : spec_exGood.v e = some (exprOk e) := ev_lim (exGood_ev e hl)
theorem isExpr_v (e : List Nd) (hl : e.length ≤ 1048576) : impl_IsExpr.v e = some (exprOk e) := ev_lim (isExpr_ev e hl)
theorem exTree_v (e : List Nd) (hl : e.length ≤ 1048576) (hg : exprOk e = true) : spec_exTree.v e = some (once e) := ev_lim (exTree_ev e hl hg)
end Go.Proofs.Ytohfaccniialmaa.Am
end
section
/- Trees: the subtree of a node has no more nodes than stand up to it. -/
namespace Go.Proofs.Ytohfaccniialmaa.Am
open Go
set_option linter.unusedVariables false
set_option linter.unusedSimpArgs false

theorem wkP_congr {w w' : Int → Nat → List Nd} : ∀ (ps : List Int) (b : Nat), (∀ p ∈ ps, ∀ b, w p b = w' p b) → wkP w ps b = wkP w' ps b
  | [], b, h => rfl
  | p :: r, b, h => by
    have h1 := h p (by simp) b
    simp only [wkP, h1]
    rw [wkP_congr r _ fun q hq b => h q (by simp [hq]) b]
theorem wk_fuel {e : List Nd} (hn : nodesOk e 0 = true) : ∀ (f g i b : Nat), i < e.length → i < f → i < g → wk e f (i : Int) b = wk e g (i : Int) b
  | 0, _, _, _, _, h, _ => by omega
  | _, 0, _, _, _, _, h => by omega
  | f + 1, g + 1, i, b, hi, hf, hg => by
    rw [wk_at hi, wk_at hi]
    have : wkP (wk e f) (partsOf e[i]) b = wkP (wk e g) (partsOf e[i]) b := wkP_congr _ _ fun p hp b => by
      obtain ⟨h0, h1⟩ := exParts_in hn hi p hp
      obtain ⟨q, rfl⟩ := Int.eq_ofNat_of_zero_le h0
      exact wk_fuel hn f g q b (by omega) (by omega) (by omega)
    rw [this]
theorem wkP_len_b {w : Int → Nat → List Nd} (h : ∀ p b b', (w p b).length = (w p b').length) : ∀ (ps : List Int) (b : Nat), (wkP w ps b).1.length = (ps.map fun p => (w p 0).length).sum
  | [], b => by simp [wkP]
  | p :: r, b => by
    simp only [wkP, List.length_append, List.map_cons, List.sum_cons]
    rw [wkP_len_b h r, h p b 0]
theorem wk_len_b (e : List Nd) : ∀ (f : Nat) (i : Int) (b b' : Nat), (wk e f i b).length = (wk e f i b').length
  | 0, i, b, b' => rfl
  | f + 1, i, b, b' => by
    simp only [wk]
    split
    · rw [List.length_append, List.length_append, wkP_len_b (wk_len_b e f), wkP_len_b (wk_len_b e f)]
      rfl
    · rfl
/-- how many nodes the subtree of a node has -/
def szT (e : List Nd) (i : Nat) : Nat := (wk e (i + 1) (i : Int) 0).length
theorem wk_szT {e : List Nd} (hn : nodesOk e 0 = true) {f i : Nat} (b : Nat) (hi : i < e.length) (hf : i < f) : (wk e f (i : Int) b).length = szT e i := by
  rw [wk_len_b e f _ b 0, wk_fuel hn f (i + 1) i 0 hi hf (by omega)]
  rfl
def pN (n : Nd) : List Nat := (partsOf n).map Int.toNat
theorem szT_eq {e : List Nd} (hn : nodesOk e 0 = true) {i : Nat} (hi : i < e.length) : szT e i = 1 + ((pN e[i]).map (szT e)).sum := by
  unfold szT pN
  rw [wk_at hi, List.length_append, wkP_len_b (wk_len_b e i), List.map_map, Nat.add_comm]
  congr 2
  refine List.map_congr_left fun p hp => ?_
  obtain ⟨h0, h1⟩ := exParts_in hn hi p hp
  obtain ⟨q, rfl⟩ := Int.eq_ofNat_of_zero_le h0
  simp only [Function.comp, Int.toNat_natCast]
  rw [wk_fuel hn i (q + 1) q 0 (by omega) (by omega) (by omega)]

/-! ### how often a node is an operand -/
def opsOfL (e : List Nd) : List Nat := e.flatMap pN
theorem bumpU_get {u : List Int} {m : Nat} (hb : Bnd u m) (hm : m ≤ 1000000000) (p : Int) (h0 : 0 ≤ p) (hp : p < u.length) (j : Nat) (hj : j < u.length) : (bumpU u p)[j]? = some (u[j] + if j = p.toNat then 1 else 0) := by
  unfold bumpU
  rw [List.getElem?_set]
  have hpl : p.toNat < u.length := by omega
  by_cases c : p.toNat = j
  · subst c
    have hg : u.getD p.toNat 0 = u[p.toNat] := by rw [List.getD_eq_getElem?_getD, List.getElem?_eq_getElem hpl]; rfl
    have := hb _ (List.getElem_mem hpl)
    rw [if_pos rfl, if_pos hpl, hg, if_pos rfl, wrap_ok (by omega) (by omega)]
  · rw [if_neg c, if_neg (fun e => c e.symm), List.getElem?_eq_getElem hj, Int.add_zero]
theorem fold_bump_get : ∀ (ps : List Int) (u : List Int) (m : Nat), Bnd u m → m + ps.length ≤ 1000000000 → (∀ p ∈ ps, 0 ≤ p ∧ p < u.length) → ∀ j (hj : j < u.length), (ps.foldl bumpU u)[j]? = some (u[j] + ((ps.map Int.toNat).count j : Nat))
  | [], u, m, hb, hm, hp, j, hj => by simp [List.getElem?_eq_getElem hj]
  | p :: r, u, m, hb, hm, hp, j, hj => by
    simp only [List.length_cons] at hm
    obtain ⟨h0, h1⟩ := hp p (by simp)
    have hl := bump_len u p
    have ih := fold_bump_get r (bumpU u p) (m + 1) (bump_bnd hb (by omega) p) (by omega) (fun q hq => by rw [hl]; exact hp q (by simp [hq])) j (by rw [hl]; exact hj)
    have hg := bumpU_get hb (by omega) p h0 h1 j hj
    rw [List.getElem?_eq_getElem (by rw [hl]; exact hj)] at hg
    rw [List.foldl_cons, ih, Option.some.inj hg, List.map_cons, List.count_cons]
    congr 1
    by_cases c : j = p.toNat
    · subst c; simp; omega
    · have c' : ¬ p.toNat = j := fun e => c e.symm
      simp [c, c']
theorem folds_bump_get : ∀ (l : List Nd) (u : List Int) (m : Nat), Bnd u m → m + 2 * l.length ≤ 1000000000 → PartsIn l u.length → ∀ j (hj : j < u.length), (l.foldl bumps u)[j]? = some (u[j] + ((opsOfL l).count j : Nat))
  | [], u, m, hb, hm, hp, j, hj => by simp [opsOfL, List.getElem?_eq_getElem hj]
  | n :: r, u, m, hb, hm, hp, j, hj => by
    simp only [List.length_cons] at hm
    have h2 := parts_le n
    have hl := bumps_len u n
    have hb1 : Bnd (bumps u n) (m + (partsOf n).length) := fold_bnd _ _ _ hb (by omega)
    have ih := folds_bump_get r (bumps u n) (m + (partsOf n).length) hb1 (by omega) (by rw [hl]; exact fun q hq => hp q (by simp [hq])) j (by rw [hl]; exact hj)
    have hg : (bumps u n)[j]? = _ := fold_bump_get (partsOf n) u m hb (by omega) (hp n (by simp)) j hj
    rw [List.getElem?_eq_getElem (by rw [hl]; exact hj)] at hg
    rw [List.foldl_cons, ih, Option.some.inj hg]
    unfold opsOfL pN
    rw [List.flatMap_cons, List.count_append]
    congr 1
    omega
theorem usesOf_get {e : List Nd} (hl : e.length ≤ 1048576) (hp : PartsIn e e.length) {j : Nat} (hj : j < e.length) : (usesOf e)[j]? = some (((opsOfL e).count j : Nat) : Int) := by
  unfold usesOf
  have := folds_bump_get e (List.replicate e.length 0) 0 (fun x hx => by rw [(List.mem_replicate.1 hx).2]; omega) (by omega) (by rw [List.length_replicate]; exact hp) j (by rw [List.length_replicate]; exact hj)
  rw [this]
  simp
theorem once_count {e : List Nd} (hl : e.length ≤ 1048576) (hn : nodesOk e 0 = true) (ho : once e = true) (j : Nat) (hj : j < e.length) : (opsOfL e).count j ≤ 1 := by
  have hg := usesOf_get hl (nodesOk_parts hn) hj
  unfold once at ho
  have := List.all_eq_true.1 ho _ (List.mem_of_getElem? hg)
  rw [decide_eq_true_iff] at this
  omega

/-! ### sums -/
theorem sum_one (S : Nat → Nat) (p : Nat) : ∀ n, ((List.range n).map fun j => if j = p then S j else 0).sum = if p < n then S p else 0
  | 0 => by simp
  | n + 1 => by
    rw [List.range_succ, List.map_append, List.sum_append, sum_one S p n]
    simp only [List.map_cons, List.map_nil, List.sum_cons, List.sum_nil, Nat.add_zero]
    by_cases c : n = p
    · subst c; simp
    · rw [if_neg c, Nat.add_zero]
      by_cases d : p < n
      · rw [if_pos d, if_pos (by omega)]
      · rw [if_neg d, if_neg (by omega)]
theorem sum_add (f g : Nat → Nat) : ∀ l : List Nat, (l.map fun j => f j + g j).sum = (l.map f).sum + (l.map g).sum
  | [] => rfl
  | a :: r => by simp only [List.map_cons, List.sum_cons, sum_add f g r]; omega
theorem sum_count (S : Nat → Nat) (n : Nat) : ∀ L : List Nat, (∀ p ∈ L, p < n) → (L.map S).sum = ((List.range n).map fun j => L.count j * S j).sum
  | [], _ => by
    have : ∀ l : List Nat, (l.map fun j => ([] : List Nat).count j * S j).sum = 0 := fun l => by induction l <;> simp_all
    rw [this]; rfl
  | p :: r, h => by
    rw [List.map_cons, List.sum_cons, sum_count S n r fun q hq => h q (by simp [hq])]
    have e : (fun j => (p :: r).count j * S j) = fun j => r.count j * S j + (if j = p then S j else 0) := by
      funext j
      rw [List.count_cons]
      by_cases c : j = p
      · subst c; simp [Nat.add_mul]
      · have c' : ¬ p = j := fun e => c e.symm
        simp [c, c']
    rw [e, sum_add, sum_one, if_pos (h p (by simp)), Nat.add_comm]
theorem sum_le (f g : Nat → Nat) : ∀ l : List Nat, (∀ j ∈ l, f j ≤ g j) → (l.map f).sum ≤ (l.map g).sum
  | [], _ => by simp
  | a :: r, h => by
    have h1 := h a (by simp)
    have h2 := sum_le f g r fun j hj => h j (by simp [hj])
    simp only [List.map_cons, List.sum_cons]
    omega
theorem szT_sum {e : List Nd} (hn : nodesOk e 0 = true) : ∀ n, n ≤ e.length → ((List.range n).map (szT e)).sum = n + ((opsOfL (e.take n)).map (szT e)).sum
  | 0, _ => by simp [opsOfL]
  | n + 1, h => by
    have hi : n < e.length := by omega
    rw [List.range_succ, List.map_append, List.sum_append, szT_sum hn n (by omega), List.take_succ_eq_append_getElem hi]
    unfold opsOfL
    rw [List.flatMap_append, List.map_append, List.sum_append]
    simp only [List.map_cons, List.map_nil, List.sum_cons, List.sum_nil, List.flatMap_cons, List.flatMap_nil, List.append_nil, Nat.add_zero]
    rw [szT_eq hn hi]
    omega
theorem szT_le {e : List Nd} (hl : e.length ≤ 1048576) (hn : nodesOk e 0 = true) (ho : once e = true) {i : Nat} (hi : i < e.length) : szT e i ≤ i + 1 := by
  have h1 := szT_sum hn (i + 1) (by omega)
  have hlt : ∀ p ∈ opsOfL (e.take (i + 1)), p < i := fun p hp => by
    unfold opsOfL pN at hp
    obtain ⟨n, hm, hp⟩ := List.mem_flatMap.1 hp
    obtain ⟨q, hq, rfl⟩ := List.mem_map.1 hp
    obtain ⟨j, hj, rfl⟩ := List.getElem_of_mem hm
    rw [List.length_take] at hj
    rw [List.getElem_take] at hq
    have := exParts_in hn (i := j) (by omega) q hq
    omega
  have h2 := sum_count (szT e) i _ hlt
  have h3 : ∀ j ∈ List.range i, (opsOfL (e.take (i + 1))).count j * szT e j ≤ szT e j := fun j hj => by
    have hc := once_count hl hn ho j (by have := List.mem_range.1 hj; omega)
    have : (opsOfL e).count j = (opsOfL (e.take (i + 1))).count j + (opsOfL (e.drop (i + 1))).count j := by
      unfold opsOfL
      rw [← List.count_append, ← List.flatMap_append, List.take_append_drop]
    have hle : (opsOfL (e.take (i + 1))).count j ≤ 1 := by omega
    calc _ ≤ 1 * szT e j := Nat.mul_le_mul_right _ hle
      _ = _ := Nat.one_mul _
  have h4 := sum_le _ _ _ h3
  rw [List.range_succ, List.map_append, List.sum_append] at h1
  simp only [List.map_cons, List.map_nil, List.sum_cons, List.sum_nil, Nat.add_zero] at h1
  omega
/-- a subtree of a tree: all of it fits -/
theorem wk_tree {e : List Nd} (h : treeOk e = true) {f i : Nat} (b : Nat) (hi : i < e.length) (hf : i < f) : (wk e f (i : Int) b).length ≤ i + 1 := by
  obtain ⟨h1, h2, h3, h4⟩ := treeOk_parts h
  rw [wk_szT h1 b hi hf]
  exact szT_le (by omega) h1 h4 hi
theorem grow_tree {e : List Nd} (h : treeOk e = true) {i : Nat} (hi : i < e.length) : impl_grow_nil.v e (i : Int) = some (wk e 25 (i : Int) 0, ()) := by
  obtain ⟨h1, h2, h3, h4⟩ := treeOk_parts h
  have := wk_tree h (f := 25) 0 hi (by omega)
  exact ev_lim (growN_fit e h1 hi (g := 25) (f := 24) rfl (by omega) (by omega))
theorem ruWalk_v {e : List Nd} (hn : nodesOk e 0 = true) (h24 : e.length ≤ 24) {i : Nat} (hi : i < e.length) : spec_ruWalk.v e (i : Int) = some (wk e 25 i 0) := ev_lim (ruWalk_ev e hn h24 hi)
theorem ruSame_v (xs ys : List Nd) (hx : xs.length ≤ 1048576000000) : spec_ruSame.v xs ys = some (decide (xs = ys)) := ev_lim (ruSame_ev xs ys hx)
theorem equalN_v (xs ys : List Nd) (hx : xs.length ≤ 1048576000000) : slices_Equal_Node.v xs ys = some (decide (xs = ys)) := ev_lim (equalN_ev xs ys hx)
end Go.Proofs.Ytohfaccniialmaa.Am
end
section
/- The forms of ops and their costs: the program's and the reference's. -/
namespace Go.Proofs.Ytohfaccniialmaa.Am
open Go
set_option linter.unusedVariables false
set_option linter.unusedSimpArgs false

abbrev tSet : ByteArray := ⟨#[115, 101, 116]⟩
abbrev tMov : ByteArray := ⟨#[109, 111, 118]⟩
abbrev tMul : ByteArray := ⟨#[109, 117, 108]⟩
abbrev tShl : ByteArray := ⟨#[115, 104, 108]⟩
abbrev tShr : ByteArray := ⟨#[115, 104, 114]⟩
abbrev tAddi : ByteArray := ⟨#[97, 100, 100, 105]⟩
abbrev tAndi : ByteArray := ⟨#[97, 110, 100, 105]⟩
abbrev tXori : ByteArray := ⟨#[120, 111, 114, 105]⟩
abbrev tShli : ByteArray := ⟨#[115, 104, 108, 105]⟩
abbrev tShri : ByteArray := ⟨#[115, 104, 114, 105]⟩
abbrev tLea : ByteArray := ⟨#[108, 101, 97]⟩
/-- the cost of an op -/
def opCost (s : ByteArray) : Int := if s = tMul then 4 else if s = tShl then 2 else if s = tShr then 2 else 1
theorem cdCost_f (s : ByteArray) : spec_cdCost.f s = some (opCost s) := by
  rw [spec_cdCost.eq]
  unfold opCost
  simp only [seq_beq, br_if, decide_eq_true_eq]
  repeat' split
  all_goals first | rfl | simp_all
theorem opCost_pos (s : ByteArray) : 1 ≤ opCost s ∧ opCost s ≤ 4 := by
  unfold opCost
  repeat' split
  all_goals omega
abbrev Form := Bool × Bool × Int × Int × Int × ByteArray
/-- the form of an op -/
def formP (s : ByteArray) : Form × Bool :=
  if s = tSet then ((false, false, 0, 63, 1, s), true)
  else if s = tMov then ((true, false, 1, 0, 1, s), true)
  else if isOne s = true then ((true, false, 1, 0, 1, s), true)
  else if isTwo s = true then ((true, true, 1, 0, opCost s, s), true)
  else if s = tAddi then ((true, false, 0, 63, 1, s.extract 0 3), true)
  else if s = tAndi then ((true, false, 0, 63, 1, s.extract 0 3), true)
  else if s = tXori then ((true, false, 0, 63, 1, s.extract 0 3), true)
  else if s = tShli then ((true, false, 1, 5, 1, s.extract 0 3), true)
  else if s = tShri then ((true, false, 1, 5, 1, s.extract 0 3), true)
  else if s = tLea then ((true, true, 1, 3, 1, s), true)
  else ((false, false, 0, 0, 0, ⟨#[]⟩), false)
theorem containsS_v (l : List ByteArray) (s : ByteArray) (hl : l.length ≤ 9223372036854775000) : slices_Contains_string.v l s = some (isIn l s) := ev_lim (containsS_ev l s hl)
theorem formOf_v (s : ByteArray) : impl_formOf.v s = some (formP s) := by
  refine impl_formOf.vs _ ?_
  have hc := containsS_v opsL s (by decide)
  unfold opsL at hc
  simp only [impl_binary.eq, bd_s, hc, seq_beq, br_if, decide_eq_true_eq]
  have e2 : isIn [(⟨#[97, 100, 100]⟩ : ByteArray), (⟨#[115, 117, 98]⟩ : ByteArray), (⟨#[109, 117, 108]⟩ : ByteArray), (⟨#[97, 110, 100]⟩ : ByteArray), (⟨#[111, 114]⟩ : ByteArray), (⟨#[120, 111, 114]⟩ : ByteArray), (⟨#[115, 104, 108]⟩ : ByteArray), (⟨#[115, 104, 114]⟩ : ByteArray), (⟨#[108, 101, 115, 115]⟩ : ByteArray), (⟨#[101, 113]⟩ : ByteArray)] s = isTwo s := rfl
  rw [e2]
  by_cases c1 : s = tSet
  · subst c1; simp [formP]
  by_cases c2 : s = tMov
  · subst c2; simp [formP]
  by_cases c3 : s = tNot
  · subst c3; simp [formP, isOne]
  by_cases c4 : s = tNeg
  · subst c4; simp [formP, isOne]
  have h1 : isOne s = false := by unfold isOne; simp [c3, c4]
  by_cases h2 : isTwo s = true
  · simp only [formP, c1, c2, c3, c4, h1, h2, if_false, if_true, Bool.false_eq_true, opCost]
    by_cases d1 : s = tShl
    · subst d1; rfl
    by_cases d2 : s = tShr
    · subst d2; rfl
    by_cases d3 : s = tMul
    · subst d3; rfl
    simp only [d1, d2, d3, if_false]
  by_cases c5 : s = tAddi
  · subst c5; simp [formP, h2, isOne]; decide
  by_cases c6 : s = tAndi
  · subst c6; simp [formP, h2, isOne]; decide
  by_cases c7 : s = tXori
  · subst c7; simp [formP, h2, isOne]; decide
  by_cases c8 : s = tShli
  · subst c8; simp [formP, h2, isOne]; decide
  by_cases c9 : s = tShri
  · subst c9; simp [formP, h2, isOne]; decide
  by_cases c10 : s = tLea
  · subst c10; simp [formP, h2, isOne]
  simp only [formP, c1, c2, c3, c4, h1, h2, c5, c6, c7, c8, c9, c10, if_false, Bool.false_eq_true]
theorem formP_cost {s : ByteArray} (h : 0 < arity s) : (formP s).1.2.2.2.2.1 = opCost s := by
  rcases arity_cases s with ⟨e, _⟩ | ⟨e, _⟩ | ⟨_, e, _⟩ | ⟨_, _, e⟩
  · omega
  · omega
  · rcases isOne_mem e with rfl | rfl <;> decide
  · have h1 := (isTwo_not e).2.2
    have d1 : s ≠ tSet := fun q => by subst q; revert e; decide
    have d2 : s ≠ tMov := fun q => by subst q; revert e; decide
    simp only [formP, d1, d2, h1, e, if_false, if_true, Bool.false_eq_true]
end Go.Proofs.Ytohfaccniialmaa.Am
end
section
/- Which inputs an expression reads: the reference's holes, the program's inputs. -/
namespace Go.Proofs.Ytohfaccniialmaa.Am
open Go
set_option linter.unusedVariables false
set_option linter.unusedSimpArgs false

def isH (v : Int) (n : Nd) : Bool := decide (n.1 = tIn) && decide (n.2.2.2 = v)
def cntH (l : List Nd) (v : Int) : Nat := l.countP (isH v)
theorem ruHoles_ev (e : List Nd) (hl : e.length ≤ 1048576) : Ev (fun k => spec_ruHoles.f k e) ((cntH e 0 : Int), (cntH e 1 : Int)) := by
  refine Ev.step (fun k => spec_ruHoles.eq k e) ?_
  have key : ∀ (d i a b : Nat), i + d = e.length → a ≤ i → b ≤ i → Ev (fun k => spec_ruHoles.l0 k (a : Int) (b : Int) e (e.length : Int) (i : Int)) (((a + cntH (e.drop i) 0 : Nat) : Int), ((b + cntH (e.drop i) 1 : Nat) : Int)) := by
    intro d
    induction d with
    | zero =>
      intro i a b hi ha hb
      refine Ev.step (fun k => spec_ruHoles.l0_eq k _ _ _ _ _) (Ev.neg (by simp; omega) (Ev.ret ?_))
      rw [List.drop_eq_nil_of_le (by omega)]
      simp [cntH]
    | succ d ih =>
      intro i a b hi ha hb
      have hlt : i < e.length := by omega
      have na : IntKind.wrap .i64 ((a : Int) + 1) = ((a + 1 : Nat) : Int) := by rw [wrap_ok (by omega) (by omega)]; rfl
      have nb : IntKind.wrap .i64 ((b : Int) + 1) = ((b + 1 : Nat) : Int) := by rw [wrap_ok (by omega) (by omega)]; rfl
      refine Ev.step (fun k => spec_ruHoles.l0_eq k _ _ _ _ _) (Ev.pos (by simpa using hlt) (Ev.pos (by simp) (Ev.get hlt ?_)))
      rw [next_ok i _ hlt (by omega), na, nb, drop_at e i hlt]
      have c0 : ∀ v, cntH (e[i] :: e.drop (i + 1)) v = cntH (e.drop (i + 1)) v + (if isH v e[i] = true then 1 else 0) := fun v => by unfold cntH; rw [List.countP_cons]
      rw [c0 0, c0 1]
      by_cases c : e[i].1 = tIn
      · refine Ev.pos (seq_t c) ?_
        by_cases v0 : e[i].2.2.2 = 0
        · refine Ev.pos (by simpa using v0) (Ev.pos (seq_t c) (Ev.neg (by simp [v0]) ?_))
          refine Ev.eq (ih (i + 1) (a + 1) b (by omega) (by omega) (by omega)) ?_
          simp [isH, c, v0, Nat.add_assoc, Nat.add_comm, Nat.add_left_comm]
        · refine Ev.neg (by simpa using v0) (Ev.pos (seq_t c) ?_)
          by_cases v1 : e[i].2.2.2 = 1
          · refine Ev.pos (by simpa using v1) ?_
            refine Ev.eq (ih (i + 1) a (b + 1) (by omega) (by omega) (by omega)) ?_
            simp [isH, c, v1, Nat.add_assoc, Nat.add_comm, Nat.add_left_comm]
          · refine Ev.neg (by simpa using v1) ?_
            refine Ev.eq (ih (i + 1) a b (by omega) (by omega) (by omega)) ?_
            simp [isH, c, v0, v1]
      · refine Ev.neg (seq_f c) (Ev.neg (seq_f c) ?_)
        refine Ev.eq (ih (i + 1) a b (by omega) (by omega) (by omega)) ?_
        simp [isH, c]
  have := key e.length 0 0 0 (by omega) (by omega) (by omega)
  simpa using this
theorem containsN_ev (l : List Nd) (s : Nd) (hl : l.length ≤ 9223372036854775000) : Ev (fun k => slices_Contains_Node.f k l s) (l.any (nodeEq s)) := by
  have key : ∀ (d : Nat) (i : Nat), i + d = l.length → ∃ r : Int, Ev (fun k => slices_Index_Node.l0 k l (l.length : Int) (i : Int) s.1 s.2.1 s.2.2.1 s.2.2.2) r ∧ (0 ≤ r ↔ (l.drop i).any (nodeEq s) = true) := by
    intro d
    induction d with
    | zero =>
      intro i h
      refine ⟨-1, Ev.step (fun k => slices_Index_Node.l0_eq k _ _ _ _ _ _ _) (Ev.neg (by simp; omega) (Ev.now _)), ?_⟩
      rw [List.drop_eq_nil_of_le (by omega)]; simp
    | succ d ih =>
      intro i h
      have hi : i < l.length := by omega
      by_cases c : nodeEq s l[i] = true
      · refine ⟨i, Ev.step (fun k => slices_Index_Node.l0_eq k _ _ _ _ _ _ _) (Ev.pos (by simpa using hi) (Ev.pos (by simp) (Ev.get hi (Ev.pos c (Ev.now _))))), ?_⟩
        rw [drop_at _ _ hi, List.any_cons]; simp [c]
      · obtain ⟨r, hev, hiff⟩ := ih (i + 1) (by omega)
        have hf : nodeEq s l[i] = false := by simpa using c
        refine ⟨r, Ev.step (fun k => slices_Index_Node.l0_eq k _ _ _ _ _ _ _) (Ev.pos (by simpa using hi) (Ev.pos (by simp) (Ev.get hi (Ev.neg hf (by rw [next_ok i _ hi hl]; exact hev))))), ?_⟩
        rw [hiff, drop_at _ _ hi, List.any_cons]; simp [hf]
  obtain ⟨r, hev, hiff⟩ := key l.length 0 (by omega)
  refine Ev.step (fun k => slices_Contains_Node.eq k l s) (Ev.bind (b := r) (Ev.step (fun k => slices_Index_Node.eq k l s) hev) (Ev.ret ?_))
  rw [Bool.eq_iff_iff, decide_eq_true_iff]
  exact hiff
/-- an input that is read -/
def hasH (e : List Nd) (v : Int) : Bool := e.any (nodeEq (tIn, (0 : Int), (0 : Int), v))
def inputsOf (e : List Nd) : List Int := (if hasH e 0 = true then [0] else []) ++ (if hasH e 1 = true then [1] else [])
theorem inputs_ev (e : List Nd) (hl : e.length ≤ 1048576) : Ev (fun k => impl_inputs.f k e) (inputsOf e) := by
  refine Ev.step (fun k => impl_inputs.eq k e) (Ev.step (fun k => impl_inputs.l0_eq k _ _ _) (Ev.pos (by decide) (Ev.bind (containsN_ev e _ (by omega)) ?_)))
  have two : ∀ (x : List Int), x.length ≤ 1 → Ev (fun k => impl_inputs.l0 k e (IntKind.wrap .i64 ((0 : Int) + 1)) x) (x ++ (if hasH e 1 = true then [1] else [])) := by
    intro x hx
    rw [show IntKind.wrap .i64 ((0 : Int) + 1) = 1 from wrap_ok (by omega) (by omega)]
    have fin : ∀ y : List Int, Ev (fun k => impl_inputs.l0 k e (IntKind.wrap .i64 ((1 : Int) + 1)) y) y := fun y => by
      rw [show IntKind.wrap .i64 ((1 : Int) + 1) = 2 from wrap_ok (by omega) (by omega)]
      exact Ev.step (fun k => impl_inputs.l0_eq k _ _ _) (Ev.neg (by decide) (Ev.now _))
    refine Ev.step (fun k => impl_inputs.l0_eq k _ _ _) (Ev.pos (by decide) (Ev.bind (containsN_ev e _ (by omega)) ?_))
    by_cases h : hasH e 1 = true
    · rw [if_pos h]; exact Ev.pos h (Ev.pos (by simp; omega) (fin _))
    · rw [if_neg h]; have h' : hasH e 1 = false := by simpa using h
      exact Ev.neg h' (Ev.eq (fin _) (by simp))
  unfold inputsOf
  by_cases h : hasH e 0 = true
  · rw [if_pos h]; exact Ev.pos h (Ev.pos (by simp) (two _ (by simp)))
  · rw [if_neg h]; have h' : hasH e 0 = false := by simpa using h
    exact Ev.neg h' (two _ (by simp))
end Go.Proofs.Ytohfaccniialmaa.Am
end
section
/- What the laws do with rules. -/
namespace Go.Proofs.Ytohfaccniialmaa.Am
open Go
set_option linter.unusedVariables false
set_option linter.unusedSimpArgs false

abbrev tyNd : Ty := .pr .s (.pr (.i .i64) (.pr (.i .i64) (.i .i64)))
abbrev tyRl : Ty := .pr (.sl tyNd) (.pr (.sl tyNd) .s)
/-- a rule whose parts are not too long -/
structure Short (r : Rl) : Prop where
  l : r.1.length ≤ 1048576
  r : r.2.1.length ≤ 1048576
theorem eqRule_v (r : Rl) (h : Short r) : laws_eqRule.v r r = some true :=
  laws_eqRule.vs _ _ (by simp [eqNodeS_v r.1 h.l, eqNodeS_v r.2.1 h.r])
theorem toRule_v (r : Rl) (h : Short r) : laws_toRule.v r = some (r, ()) :=
  laws_toRule.vs _ (by simp [toNodeS_v r.1 h.l, toNodeS_v r.2.1 h.r])
theorem szRule_v (r : Rl) (q : Qd tyRl r) : ∃ y, laws_szRule.v r 1048576 = some y ∧ y ≤ 1048576 ∧ (0 ≤ y → Short r) := by
  obtain ⟨⟨q1, q2⟩, ⟨q3, q4⟩, q5⟩ := q
  have hM : maxLen = 9223372036854775807 := by decide
  have q5 : r.2.2.size ≤ maxLen := q5
  obtain ⟨y, hy, hyx, hyl⟩ := szNodeS_v r.1 1048576 (by omega) (by omega) q1 (fun n hn => (q2 n hn).1)
  by_cases h0 : y < 0
  · exact ⟨-1, laws_szRule.vs _ _ (by simp [hy, h0]), by omega, fun h => by omega⟩
  · obtain ⟨z, hz, hzx, hzl⟩ := szNodeS_v r.2.1 y (by omega) (by omega) q3 (fun n hn => (q4 n hn).1)
    have l1 := hyl (by omega)
    by_cases h1 : z < 0
    · exact ⟨-1, laws_szRule.vs _ _ (by simp [hy, h0, hz, h1]), by omega, fun h => by omega⟩
    · have l2 := hzl (by omega)
      have fin : Short r := ⟨by omega, by omega⟩
      have hw : IntKind.wrap .i64 (z - (r.2.2.size : Int)) = z - (r.2.2.size : Int) := wrap_ok (by omega) (by omega)
      by_cases h2 : z - (r.2.2.size : Int) < 0
      · exact ⟨-1, laws_szRule.vs _ _ (by simp [hy, h0, hz, h1, hw, h2]), by omega, fun _ => fin⟩
      · exact ⟨_, laws_szRule.vs _ _ (by simp [hy, h0, hz, h1, hw, h2]; rfl), by omega, fun _ => fin⟩
theorem szNodeS_q (e : List Nd) (q : Qd (.sl tyNd) e) (y : Int) (h0 : 0 ≤ y) (h1 : y ≤ 1048576) : ∃ z, laws_szNodeS.v e y = some z ∧ z ≤ y ∧ (0 ≤ z → e.length ≤ 1048576) := by
  obtain ⟨q1, q2⟩ := q
  obtain ⟨z, hz, hzx, hzl⟩ := szNodeS_v e y h0 (by omega) q1 (fun n hn => (q2 n hn).1)
  exact ⟨z, hz, hzx, fun h => by have := hzl h; omega⟩
end Go.Proofs.Ytohfaccniialmaa.Am
end
section
/- IsRule: the program's function and the reference's answer alike; the law. -/
namespace Go.Proofs.Ytohfaccniialmaa.Am
open Go
set_option linter.unusedVariables false
set_option linter.unusedSimpArgs false

theorem hasH_cnt {e : List Nd} (hn : nodesOk e 0 = true) (v : Int) : hasH e v = decide (0 < cntH e v) := by
  rw [Bool.eq_iff_iff, decide_eq_true_iff]
  unfold hasH cntH
  rw [List.countP_pos_iff, List.any_eq_true]
  constructor
  · rintro ⟨n, h1, h2⟩
    have := nodeEq_iff.1 h2
    exact ⟨n, h1, by rw [← this]; simp [isH]⟩
  · rintro ⟨n, h1, h2⟩
    refine ⟨n, h1, ?_⟩
    obtain ⟨j, hj, e1⟩ := List.getElem_of_mem h1
    have ho := nodesOk_get e 0 hn j hj
    rw [e1] at ho
    unfold isH at h2
    simp only [Bool.and_eq_true, decide_eq_true_eq] at h2
    unfold nodeOk at ho
    rw [if_pos h2.1] at ho
    simp only [Bool.and_eq_true, decide_eq_true_eq] at ho
    rw [nodeEq_iff]
    obtain ⟨a, b, c, d⟩ := n
    simp only at h2 ho ⊢
    rw [h2.1, ho.1.1, ho.1.2, h2.2]
def sidesL : List ByteArray := [(⟨#[97, 110, 121]⟩ : ByteArray), (⟨#[99, 111, 110, 115, 116]⟩ : ByteArray), (⟨#[111, 100, 100]⟩ : ByteArray), (⟨#[112, 111, 119, 101, 114]⟩ : ByteArray), (⟨#[115, 109, 97, 108, 108]⟩ : ByteArray)]
abbrev tAny : ByteArray := ⟨#[97, 110, 121]⟩
theorem ruSide_ev (s : ByteArray) : Ev (fun k => spec_ruSide.f k s) (isIn sidesL s) := Ev.step (fun k => spec_ruSide.eq k s) (Ev.bind (l1HasS_ev sidesL s (by decide)) (Ev.now _))
theorem isSide_ev (s : ByteArray) : Ev (fun k => impl_isSide.f k s) (isIn sidesL s) := Ev.step (fun k => impl_isSide.eq k s) (Ev.bind (containsS_ev sidesL s (by decide)) (Ev.now _))
/-- an input of r that is not one of l -/
theorem missing_ev (r l : List Int) (hr : r.length ≤ 1048576) (hl : l.length ≤ 1048576) : Ev (fun k => slices_ContainsFunc_int_IsRule.f k r l) (r.any fun x => !decide (x ∈ l)) := by
  have key : ∀ (d : Nat) (i : Nat), i + d = r.length → ∃ q : Int, Ev (fun k => slices_IndexFunc_int_IsRule.l0 k r l (r.length : Int) (i : Int)) q ∧ (0 ≤ q ↔ ((r.drop i).any fun x => !decide (x ∈ l)) = true) := by
    intro d
    induction d with
    | zero =>
      intro i h
      refine ⟨-1, Ev.step (fun k => slices_IndexFunc_int_IsRule.l0_eq k _ _ _ _) (Ev.neg (by simp; omega) (Ev.now _)), ?_⟩
      rw [List.drop_eq_nil_of_le (by omega)]; simp
    | succ d ih =>
      intro i h
      have hi : i < r.length := by omega
      have one : Ev (fun k => impl_IsRule_1.f k r[i] l) (!decide (r[i] ∈ l)) := Ev.step (fun k => impl_IsRule_1.eq k _ _) (Ev.bind (containsI_ev l r[i] (by omega)) (Ev.now _))
      by_cases c : r[i] ∈ l
      · obtain ⟨q, hev, hiff⟩ := ih (i + 1) (by omega)
        refine ⟨q, Ev.step (fun k => slices_IndexFunc_int_IsRule.l0_eq k _ _ _ _) (Ev.pos (by simpa using hi) (Ev.pos (by simp) (Ev.get hi (Ev.bind one (Ev.neg (by simp [c]) (by rw [next_ok i _ hi (by omega)]; exact hev)))))), ?_⟩
        rw [hiff, drop_at _ _ hi, List.any_cons]; simp [c]
      · refine ⟨i, Ev.step (fun k => slices_IndexFunc_int_IsRule.l0_eq k _ _ _ _) (Ev.pos (by simpa using hi) (Ev.pos (by simp) (Ev.get hi (Ev.bind one (Ev.pos (by simp [c]) (Ev.now _)))))), ?_⟩
        rw [drop_at _ _ hi, List.any_cons]; simp [c]
  obtain ⟨q, hev, hiff⟩ := key r.length 0 (by omega)
  refine Ev.step (fun k => slices_ContainsFunc_int_IsRule.eq k r l) (Ev.bind (b := q) (Ev.step (fun k => slices_IndexFunc_int_IsRule.eq k r l) hev) (Ev.ret ?_))
  rw [List.drop_zero] at hiff
  rw [Bool.eq_iff_iff, decide_eq_true_iff]
  exact hiff
theorem root_parts {e : List Nd} (hw : walked e = true) : ∃ h : e.length - 1 < e.length, (partsOf (e[e.length - 1]'h) = [] ↔ e.length = 1) := by
  unfold walked at hw
  simp only [Bool.and_eq_true, decide_eq_true_eq] at hw
  obtain ⟨hg, _, hk⟩ := hw
  obtain ⟨hn, h1, h24⟩ := exprOk_parts hg
  have hi : e.length - 1 < e.length := by omega
  refine ⟨hi, fun h => ?_, fun h => ?_⟩
  · rw [wk_at' hi (g := 25) (f := 24) rfl, h] at hk
    rw [← hk]
    rfl
  · have hp := exParts_in hn hi
    cases hq : partsOf e[e.length - 1] with
    | nil => rfl
    | cons p r =>
      have := hp p (by rw [hq]; exact List.mem_cons_self)
      omega
/-- the last word on a rule: its inputs and its side -/
def tailOk (l r : List Nd) (any : Bool) : Bool := (hasH l 0 || !hasH r 0) && (hasH l 1 || (!hasH r 1 && any))
def ruleOk (r : Rl) : Bool := isIn sidesL r.2.2 && (walked r.1 && (walked r.2.1 && (!decide (r.1.length = 1) && tailOk r.1 r.2.1 (decide (r.2.2 = tAny)))))
theorem walked_expr {e : List Nd} (h : walked e = true) : nodesOk e 0 = true ∧ 1 ≤ e.length ∧ e.length ≤ 24 := by
  unfold walked at h
  rw [Bool.and_eq_true] at h
  exact exprOk_parts h.1
theorem pos_cnt {e : List Nd} (hn : nodesOk e 0 = true) (v : Int) : decide (((cntH e v : Nat) : Int) > 0) = hasH e v := by
  rw [hasH_cnt hn]
  simp
theorem zero_cnt {e : List Nd} (hn : nodesOk e 0 = true) (v : Int) : (((cntH e v : Nat) : Int) == 0) = !hasH e v := by
  rw [hasH_cnt hn]
  cases h : cntH e v with
  | zero => simp
  | succ n => simp; omega
theorem ruGood_ev (r : Rl) (h1 : r.1.length ≤ 1048576) (h2 : r.2.1.length ≤ 1048576) : Ev (fun k => spec_ruGood.f k r) (ruleOk r) := by
  refine Ev.step (fun k => spec_ruGood.eq k r) (Ev.bind (ruSide_ev _) ?_)
  unfold ruleOk
  cases hs : isIn sidesL r.2.2 with
  | false => exact Ev.pos rfl (Ev.ret (by simp))
  | true =>
    refine Ev.neg rfl (Ev.bind (ruWalked_ev _ h1) ?_)
    cases hw1 : walked r.1 with
    | false => exact Ev.pos rfl (Ev.ret (by simp))
    | true =>
      refine Ev.neg rfl (Ev.bind (ruWalked_ev _ h2) ?_)
      cases hw2 : walked r.2.1 with
      | false => exact Ev.pos rfl (Ev.ret (by simp))
      | true =>
        refine Ev.neg rfl ?_
        obtain ⟨hn1, l1, l24⟩ := walked_expr hw1
        obtain ⟨hn2, _, _⟩ := walked_expr hw2
        obtain ⟨hi, hroot⟩ := root_parts hw1
        have hw : IntKind.wrap .i64 ((r.1.length : Int) - 1) = ((r.1.length - 1 : Nat) : Int) := by rw [wrap_ok (by omega) (by omega)]; omega
        rw [hw]
        refine Ev.pos (by simp) (Ev.get hi (Ev.bind (exParts_ev _) ?_))
        by_cases hl : r.1.length = 1
        · refine Ev.pos (by rw [hroot.2 hl]; rfl) (Ev.ret (by simp [hl]))
        · have hne : partsOf r.1[r.1.length - 1] ≠ [] := fun h => hl (hroot.1 h)
          refine Ev.neg (by
            cases hq : partsOf r.1[r.1.length - 1] with
            | nil => exact absurd hq hne
            | cons a q => simp; omega) (Ev.bind (ruHoles_ev _ h1) (Ev.bind (ruHoles_ev _ h2) ?_))
          simp only [pos_cnt hn1, zero_cnt hn2]
          unfold tailOk
          rw [seq_beq]
          cases hasH r.1 0 <;> cases hasH r.1 1 <;> cases hasH r.2.1 0 <;> cases hasH r.2.1 1 <;> exact Ev.ret (by simp [hl])
theorem isRule_ev (r : Rl) (h1 : r.1.length ≤ 1048576) (h2 : r.2.1.length ≤ 1048576) : Ev (fun k => impl_IsRule.f k r) (ruleOk r) := by
  refine Ev.step (fun k => impl_IsRule.eq k r) (Ev.bind (isWalked_ev _ h1) ?_)
  unfold ruleOk
  cases hw1 : walked r.1 with
  | false => exact Ev.pos rfl (Ev.ret (by simp))
  | true =>
    refine Ev.neg rfl (Ev.bind (isWalked_ev _ h2) ?_)
    cases hw2 : walked r.2.1 with
    | false => exact Ev.pos rfl (Ev.ret (by simp))
    | true =>
      refine Ev.neg rfl ?_
      by_cases hl : r.1.length = 1
      · exact Ev.pos (by simp [hl]) (Ev.ret (by simp [hl]))
      · refine Ev.neg (by simp; omega) (Ev.bind (isSide_ev _) ?_)
        cases hs : isIn sidesL r.2.2 with
        | false => exact Ev.pos rfl (Ev.ret (by simp))
        | true =>
          have il : ∀ e, (inputsOf e).length ≤ 2 := fun e => by unfold inputsOf; cases hasH e 0 <;> cases hasH e 1 <;> decide
          have i1 := il r.1
          have i2 := il r.2.1
          refine Ev.neg rfl (Ev.bind (inputs_ev _ h1) (Ev.bind (inputs_ev _ h2) (Ev.bind (missing_ev _ _ (by omega) (by omega)) ?_)))
          unfold tailOk
          have hc : Ev (fun k => slices_Contains_int.f k (inputsOf r.1) 1) (hasH r.1 1) := Ev.eq (containsI_ev _ _ (by omega)) (by unfold inputsOf; cases hasH r.1 0 <;> cases hasH r.1 1 <;> decide)
          by_cases ha : r.2.2 = tAny
          · cases a0 : hasH r.1 0 <;> cases a1 : hasH r.1 1 <;> cases b0 : hasH r.2.1 0 <;> cases b1 : hasH r.2.1 1 <;> simp only [inputsOf, a0, a1, b0, b1] <;>
              first
                | exact Ev.pos (by decide) (Ev.pos (seq_t ha) (Ev.ret (by simp [hl, ha])))
                | exact Ev.neg (by decide) (Ev.ret (by simp [hl, ha]))
          · rw [show decide (r.2.2 = tAny) = false from decide_eq_false ha]
            cases a0 : hasH r.1 0 <;> cases a1 : hasH r.1 1 <;> cases b0 : hasH r.2.1 0 <;> cases b1 : hasH r.2.1 1 <;> simp only [inputsOf, a0, a1, b0, b1] at hc ⊢ <;>
              first
                | exact Ev.pos (by decide) (Ev.neg (seq_f ha) (Ev.bind hc (Ev.ret (by simp [hl]))))
                | exact Ev.neg (by decide) (Ev.ret (by simp [hl]))
end Go.Proofs.Ytohfaccniialmaa.Am
end
section
/- The law FnExactIsFalling, in plain Lean: what expressions cost, how often a hole is there. -/
namespace Go.Proofs.Ytohfaccniialmaa.Am
open Go
set_option linter.unusedVariables false
set_option linter.unusedSimpArgs false

def nCost (n : Nd) : Int := if arity n.1 > 0 then opCost n.1 else 0
/-- the cost of an expression -/
def costP : List Nd → Int
  | [] => 0
  | n :: r => nCost n + costP r
theorem nCost_bnd (n : Nd) : 0 ≤ nCost n ∧ nCost n ≤ 4 := by
  unfold nCost
  have := opCost_pos n.1
  split <;> omega
theorem costP_bnd : ∀ l : List Nd, 0 ≤ costP l ∧ costP l ≤ 4 * l.length
  | [] => by simp [costP]
  | n :: r => by
    have h1 := costP_bnd r
    have h2 := nCost_bnd n
    simp only [costP, List.length_cons]
    omega
theorem parts_pos (n : Nd) : (decide (((partsOf n).length : Int) > 0)) = decide (arity n.1 > 0) := by
  unfold partsOf
  rcases arity_cases n.1 with ⟨h, _⟩ | ⟨h, _⟩ | ⟨h, _⟩ | ⟨h, _⟩ <;> rw [h] <;> simp
theorem exParts_v (n : Nd) : spec_exParts.v n = some (partsOf n) := ev_lim (exParts_ev n)
theorem of_v (n : Nd) : impl_Node_of.v n = some (partsOf n) := ev_lim (of_ev n)
theorem operands_v (s : ByteArray) : impl_operands.v s = some (arity s) := ev_lim (operands_ev s)
theorem ruCost_v (e : List Nd) (hl : e.length ≤ 1048576) : spec_ruCost.v e = some (costP e) := by
  have key : ∀ (d i : Nat) (a : Int), i + d = e.length → 0 ≤ a → a ≤ 4 * i → spec_ruCost.v0 a e (e.length : Int) (i : Int) = some (a + costP (e.drop i)) := by
    intro d
    induction d with
    | zero =>
      intro i a hi h0 h1
      refine spec_ruCost.v0s _ _ _ _ ?_
      rw [List.drop_eq_nil_of_le (by omega), br_f (by simp; omega)]
      simp [costP]
    | succ d ih =>
      intro i a hi h0 h1
      have hlt : i < e.length := by omega
      have hb := nCost_bnd e[i]
      refine spec_ruCost.v0s _ _ _ _ ?_
      rw [br_t (by simpa using hlt), br_t (by simp), Int.toNat_natCast, gt_at _ hlt, exParts_v, bd_s, parts_pos, next_ok i _ hlt (by omega), cdCost_f, bd_s]
      rw [drop_at _ _ hlt]
      simp only [costP]
      by_cases c : arity e[i].1 > 0
      · have hn : nCost e[i] = opCost e[i].1 := by unfold nCost; rw [if_pos c]
        rw [br_t (by simpa using c), wrap_ok (by omega) (by omega), ih (i + 1) _ (by omega) (by omega) (by omega), hn]
        congr 1; omega
      · have hn : nCost e[i] = 0 := by unfold nCost; rw [if_neg c]
        rw [br_f (by simpa using c), ih (i + 1) _ (by omega) (by omega) (by omega), hn]
        congr 1; omega
  exact spec_ruCost.vs _ (by have := key e.length 0 0 (by omega) (by omega) (by omega); simpa using this)
theorem costOf_v (e : List Nd) (hl : e.length ≤ 1048576) : impl_costOf.v e = some (costP e) := by
  have key : ∀ (d i : Nat) (a : Int), i + d = e.length → 0 ≤ a → a ≤ 4 * i → impl_costOf.v0 a e (e.length : Int) (i : Int) = some (a + costP (e.drop i)) := by
    intro d
    induction d with
    | zero =>
      intro i a hi h0 h1
      refine impl_costOf.v0s _ _ _ _ ?_
      rw [List.drop_eq_nil_of_le (by omega), br_f (by simp; omega)]
      simp [costP]
    | succ d ih =>
      intro i a hi h0 h1
      have hlt : i < e.length := by omega
      have hb := nCost_bnd e[i]
      refine impl_costOf.v0s _ _ _ _ ?_
      rw [br_t (by simpa using hlt), br_t (by simp), Int.toNat_natCast, gt_at _ hlt, operands_v, bd_s, next_ok i _ hlt (by omega), formOf_v, bd_s]
      rw [drop_at _ _ hlt]
      simp only [costP]
      by_cases c : arity e[i].1 > 0
      · have hn : nCost e[i] = opCost e[i].1 := by unfold nCost; rw [if_pos c]
        rw [br_t (by simpa using c), formP_cost c, wrap_ok (by omega) (by omega), ih (i + 1) _ (by omega) (by omega) (by omega), hn]
        congr 1; omega
      · have hn : nCost e[i] = 0 := by unfold nCost; rw [if_neg c]
        rw [br_f (by simpa using c), ih (i + 1) _ (by omega) (by omega) (by omega), hn]
        congr 1; omega
  exact impl_costOf.vs _ (by have := key e.length 0 0 (by omega) (by omega) (by omega); simpa using this)
theorem timesIn_v (e : List Nd) (hl : e.length ≤ 1048576) (v : Int) : impl_timesIn.v e v = some (((e.countP (nodeEq (tIn, (0 : Int), (0 : Int), v)) : Nat) : Int)) := by
  have key : ∀ (d i a : Nat), i + d = e.length → a ≤ i → impl_timesIn.v0 v (a : Int) e (e.length : Int) (i : Int) = some (((a + (e.drop i).countP (nodeEq (tIn, (0 : Int), (0 : Int), v)) : Nat) : Int)) := by
    intro d
    induction d with
    | zero =>
      intro i a hi h1
      refine impl_timesIn.v0s _ _ _ _ _ ?_
      rw [List.drop_eq_nil_of_le (by omega), br_f (by simp; omega)]
      simp
    | succ d ih =>
      intro i a hi h1
      have hlt : i < e.length := by omega
      refine impl_timesIn.v0s _ _ _ _ _ ?_
      rw [br_t (by simpa using hlt), br_t (by simp), Int.toNat_natCast, gt_at _ hlt, next_ok i _ hlt (by omega), drop_at _ _ hlt, List.countP_cons, impl_bit.eq]
      have hq : ((e[i].1 == (⟨#[105, 110]⟩ : ByteArray)) && ((e[i].2.1 == (0 : Int)) && ((e[i].2.2.1 == (0 : Int)) && ((e[i].2.2.2 == v) && true)))) = nodeEq (tIn, (0 : Int), (0 : Int), v) e[i] := by
        show nodeEq e[i] (tIn, (0 : Int), (0 : Int), v) = _
        rw [Bool.eq_iff_iff, nodeEq_iff, nodeEq_iff]
        exact eq_comm
      rw [hq]
      cases hc : nodeEq (tIn, (0 : Int), (0 : Int), v) e[i]
      · rw [br_f rfl, bd_s, wrap_ok (by omega) (by omega)]
        have := ih (i + 1) a (by omega) (by omega)
        simpa using this
      · rw [br_t rfl, bd_s, wrap_ok (by omega) (by omega)]
        have := ih (i + 1) (a + 1) (by omega) (by omega)
        rw [show ((a : Int) + 1) = ((a + 1 : Nat) : Int) from rfl, this]
        congr 2
        simp; omega
  exact impl_timesIn.vs _ _ (by have := key e.length 0 0 (by omega) (by omega); simpa using this)
theorem isH_of {n : Nd} {i : Int} (h : nodeOk n i = true) (v : Int) : isH v n = nodeEq (tIn, (0 : Int), (0 : Int), v) n := by
  rw [Bool.eq_iff_iff]
  unfold isH
  rw [nodeEq_iff, Bool.and_eq_true, decide_eq_true_iff, decide_eq_true_iff]
  obtain ⟨o, a, b, c⟩ := n
  constructor
  · rintro ⟨e1, e2⟩
    simp only at e1 e2
    subst e1 e2
    simp [nodeOk] at h
    simp [h]
  · intro e
    simp only [Prod.mk.injEq] at e
    simp [← e.1, ← e.2.2.2]
theorem cntH_of {e : List Nd} (hn : nodesOk e 0 = true) (v : Int) : e.countP (nodeEq (tIn, (0 : Int), (0 : Int), v)) = cntH e v := by
  unfold cntH
  refine List.countP_congr fun n hm => ?_
  obtain ⟨j, hj, rfl⟩ := List.getElem_of_mem hm
  have := nodesOk_get e 0 hn j hj
  rw [isH_of this]
def fallP (r : Rl) : Bool := decide (costP r.2.1 < costP r.1) && (decide (cntH r.2.1 0 ≤ cntH r.1 0) && decide (cntH r.2.1 1 ≤ cntH r.1 1))
theorem ruHoles_v (e : List Nd) (hl : e.length ≤ 1048576) : spec_ruHoles.v e = some ((cntH e 0 : Int), (cntH e 1 : Int)) := ev_lim (ruHoles_ev e hl)
theorem ruFalling_v (r : Rl) (h : Short r) : spec_ruFalling.v r = some (fallP r) := by
  refine spec_ruFalling.vs _ ?_
  simp only [ruHoles_v _ h.l, ruHoles_v _ h.r, ruCost_v _ h.l, ruCost_v _ h.r, bd_s, br_if, fallP]
  by_cases c1 : costP r.2.1 < costP r.1 <;> by_cases c2 : cntH r.2.1 0 ≤ cntH r.1 0 <;> simp [c1, c2]
theorem ruleOk_nodes {r : Rl} (h : ruleOk r = true) : nodesOk r.1 0 = true ∧ nodesOk r.2.1 0 = true := by
  unfold ruleOk at h
  simp only [Bool.and_eq_true] at h
  exact ⟨(walked_expr h.2.1).1, (walked_expr h.2.2.1).1⟩
theorem isFalling_v (r : Rl) (h : Short r) (hr : ruleOk r = true) : impl_isFalling.v r = some (fallP r) := by
  obtain ⟨n1, n2⟩ := ruleOk_nodes hr
  refine impl_isFalling.vs _ ?_
  simp only [costOf_v _ h.l, costOf_v _ h.r, timesIn_v _ h.l, timesIn_v _ h.r, cntH_of n1, cntH_of n2, bd_s, br_if, fallP]
  by_cases c1 : costP r.2.1 < costP r.1 <;> by_cases c2 : cntH r.2.1 0 ≤ cntH r.1 0 <;> simp [c1, c2]
theorem ruGood_v (r : Rl) (h : Short r) : spec_ruGood.v r = some (ruleOk r) := ev_lim (ruGood_ev r h.l h.r)
theorem isRule_v (r : Rl) (h : Short r) : impl_IsRule.v r = some (ruleOk r) := ev_lim (isRule_ev r h.l h.r)
end Go.Proofs.Ytohfaccniialmaa.Am
end
section
/- Where a rule matches: the program's function and the reference's answer alike. -/
namespace Go.Proofs.Ytohfaccniialmaa.Am
open Go
set_option linter.unusedVariables false
set_option linter.unusedSimpArgs false

/-- the parts of a pattern, one by one -/
def matchPs (w : Int → Int → List Int → Bool × List Int) : List Int → List Int → List Int → Bool × List Int
  | [], _, h => (true, h)
  | _ :: _, [], h => (true, h)
  | x :: r, y :: q, h => if (w x y h).1 = true then matchPs w r q (w x y h).2 else (false, (w x y h).2)
/-- does the pattern p at k match the tree e at i; h: for which nodes its holes stand -/
def matchP (p e : List Nd) : Nat → Int → Int → List Int → Bool × List Int
  | 0, _, _, h => (false, h)
  | f + 1, k, i, h => match p[k.toNat]?, e[i.toNat]? with
    | some n, some m =>
      if n.1 = tIn then
        if 0 ≤ h.getD n.2.2.2.toNat 0 then (decide (wk e 25 (h.getD n.2.2.2.toNat 0) 0 = wk e 25 i 0), h) else (true, h.set n.2.2.2.toNat i)
      else if n.1 = m.1 ∧ n.2.2.2 = m.2.2.2 then matchPs (matchP p e f) (partsOf n) (partsOf m) h
      else (false, h)
    | _, _ => (false, h)
/-- holes that may be asked for -/
structure HOk (n : Nat) (h : List Int) : Prop where
  two : h.length = 2
  lt : ∀ x ∈ h, -1 ≤ x ∧ x < n
theorem HOk.get {n : Nat} {h : List Int} (k : HOk n h) {v : Nat} (hv : v < 2) : h[v]? = some (h.getD v 0) ∧ -1 ≤ h.getD v 0 ∧ h.getD v 0 < n := by
  have hl : v < h.length := by rw [k.two]; exact hv
  have e : h.getD v 0 = h[v] := by rw [List.getD_eq_getElem?_getD, List.getElem?_eq_getElem hl]; rfl
  rw [e]
  exact ⟨List.getElem?_eq_getElem hl, k.lt _ (List.getElem_mem hl)⟩
theorem HOk.set {n : Nat} {h : List Int} (k : HOk n h) (v : Nat) {i : Nat} (hi : i < n) : HOk n (h.set v (i : Int)) :=
  ⟨by rw [List.length_set]; exact k.two, fun x hx => by
    rcases List.mem_or_eq_of_mem_set hx with hx | rfl
    · exact k.lt x hx
    · omega⟩
theorem parts_same {n m : Nd} (h : n.1 = m.1) : (partsOf n).length = (partsOf m).length := by
  unfold partsOf; rw [h]; split <;> (try split) <;> rfl
theorem matchPs_ok {n : Nat} {w : Int → Int → List Int → Bool × List Int} : ∀ (xs ys : List Int) (h : List Int), (∀ x ∈ xs, ∀ y ∈ ys, ∀ h, HOk n h → HOk n (w x y h).2) → HOk n h → HOk n (matchPs w xs ys h).2
  | [], _, h, _, k => k
  | _ :: _, [], h, _, k => k
  | x :: r, y :: q, h, hw, k => by
    have h1 := hw x (by simp) y (by simp) h k
    simp only [matchPs]
    split
    · exact matchPs_ok r q _ (fun x' hx y' hy => hw x' (by simp [hx]) y' (by simp [hy])) h1
    · exact h1
theorem matchP_ok {p e : List Nd} (he : nodesOk e 0 = true) : ∀ (f : Nat) (k : Int) (i : Nat) (h : List Int), i < e.length → HOk e.length h → HOk e.length (matchP p e f k i h).2
  | 0, k, i, h, hi, hh => hh
  | f + 1, k, i, h, hi, hh => by
    simp only [matchP, Int.toNat_natCast, List.getElem?_eq_getElem hi]
    split
    · rename_i n m hn hm
      split
      · split
        · exact hh
        · exact hh.set _ hi
      · split
        · refine matchPs_ok _ _ _ (fun x hx y hy h hh => ?_) hh
          have hm := (Option.some.inj hm).symm
          subst hm
          obtain ⟨h0, h1⟩ := exParts_in he hi y hy
          obtain ⟨q, rfl⟩ := Int.eq_ofNat_of_zero_le h0
          exact matchP_ok he f x q h (by omega) hh
        · exact hh
    · exact hh
theorem fits_parts {p e : List Nd} {w : Int → Int → List Int → Bool × List Int} {xs ys : List Int} (hl : xs.length = ys.length) (h2 : xs.length ≤ 2) (hw : ∀ x ∈ xs, ∀ y ∈ ys, ∀ h, HOk e.length h → spec_ruBound_fits.v p x y e h = some ((w x y h).1, ((e, ()), (w x y h).2)) ∧ HOk e.length (w x y h).2) :
    ∀ (d j : Nat) (h : List Int), j + d = xs.length → HOk e.length h → spec_ruBound_fits.v0 p ys xs (xs.length : Int) (j : Int) e h = some ((matchPs w (xs.drop j) (ys.drop j) h).1, ((e, ()), (matchPs w (xs.drop j) (ys.drop j) h).2)) := by
  intro d
  induction d with
  | zero =>
    intro j h hj hh
    refine spec_ruBound_fits.v0s _ _ _ _ _ _ _ ?_
    rw [br_f (by simp; omega), List.drop_eq_nil_of_le (by omega)]
    rfl
  | succ d ih =>
    intro j h hj hh
    have hx : j < xs.length := by omega
    have hy : j < ys.length := by omega
    obtain ⟨e1, e2⟩ := hw _ (List.getElem_mem hx) _ (List.getElem_mem hy) h hh
    refine spec_ruBound_fits.v0s _ _ _ _ _ _ _ ?_
    rw [br_t (by simpa using hx), br_t (by simp), Int.toNat_natCast, gt_at _ hx, br_t (by simp), gt_at _ hy, e1, bd_s, next_ok j _ hx (by omega), ih (j + 1) _ (by omega) e2, drop_at _ _ hx, drop_at _ _ hy]
    simp only [matchPs, br_if]
    cases (w xs[j] ys[j] h).1 <;> rfl
theorem fits_v {p e : List Nd} (hp : nodesOk p 0 = true) (he : nodesOk e 0 = true) (h24 : e.length ≤ 24) : ∀ (f k i : Nat) (h : List Int), k < p.length → i < e.length → k < f → HOk e.length h →
    spec_ruBound_fits.v p (k : Int) (i : Int) e h = some ((matchP p e f k i h).1, ((e, ()), (matchP p e f k i h).2))
  | 0, _, _, _, _, _, hf, _ => by omega
  | f + 1, k, i, h, hk, hi, hf, hh => by
    refine spec_ruBound_fits.vs _ _ _ _ _ ?_
    rw [br_t (by simp), Int.toNat_natCast, gt_at _ hk, br_t (by simp), Int.toNat_natCast, gt_at _ hi]
    simp only [matchP, Int.toNat_natCast, List.getElem?_eq_getElem hk, List.getElem?_eq_getElem hi]
    have hpk := nodesOk_get p 0 hp k hk
    by_cases c : p[k].1 = tIn
    · obtain ⟨v, hv, ev⟩ := hole_val hpk c
      obtain ⟨g1, g2, g3⟩ := hh.get hv
      rw [br_t (seq_t c), if_pos c, ev, br_t (by simp), br_t (by simp [hh.two]; omega), Int.toNat_natCast, gt_some g1]
      by_cases q : 0 ≤ h.getD v 0
      · obtain ⟨u, hu⟩ := Int.eq_ofNat_of_zero_le q
        rw [if_pos q, br_t (by simpa using q), br_t (by simp), br_t (by simp [hh.two]; omega), gt_some g1, hu, ruWalk_v he h24 (by omega), bd_s, ruWalk_v he h24 hi, bd_s]
        have hl := wk_len e 25 (u : Int) 0
        rw [ruSame_v _ _ (by have : 2 ^ 25 = 33554432 := rfl; omega), bd_s]
      · rw [if_neg q, br_f (by simpa using q), br_t (by simp), br_t (by simp [hh.two]; omega), gt_some g1]
    · rw [br_f (seq_f c), if_neg c]
      by_cases c1 : p[k].1 = e[i].1
      · by_cases c2 : p[k].2.2.2 = e[i].2.2.2
        · rw [if_pos ⟨c1, c2⟩, br_f (by rw [seq_t c1]; rfl), br_f (by simp [c2]), exParts_v, bd_s, exParts_v, bd_s]
          have := fits_parts (p := p) (e := e) (w := matchP p e f) (xs := partsOf p[k]) (ys := partsOf e[i]) (parts_same c1) (parts_le _) (fun x hx y hy h hh => by
            obtain ⟨x0, x1⟩ := exParts_in hp hk x hx
            obtain ⟨y0, y1⟩ := exParts_in he hi y hy
            obtain ⟨a, rfl⟩ := Int.eq_ofNat_of_zero_le x0
            obtain ⟨b, rfl⟩ := Int.eq_ofNat_of_zero_le y0
            exact ⟨fits_v hp he h24 f a b h (by omega) (by omega) (by omega) hh, matchP_ok he f _ b h (by omega) hh⟩) (partsOf p[k]).length 0 h (by omega) hh
          simpa using this
        · rw [if_neg (fun q => c2 q.2), br_f (by rw [seq_t c1]; rfl), br_t (by simpa using c2)]
      · rw [if_neg (fun q => c1 q.1), br_t (by rw [seq_f c1]; rfl)]
theorem match_parts {p e : List Nd} {m : Nd} {w : Int → Int → List Int → Bool × List Int} {xs : List Int} (hl : xs.length = (partsOf m).length) (h2 : xs.length ≤ 2) (hw : ∀ x ∈ xs, ∀ y ∈ partsOf m, ∀ h, HOk e.length h → impl_match.v p x e y h = some (w x y h) ∧ HOk e.length (w x y h).2) :
    ∀ (d j : Nat) (h : List Int), j + d = xs.length → HOk e.length h → impl_match.v0 p e xs (xs.length : Int) (j : Int) h m.1 m.2.1 m.2.2.1 m.2.2.2 = some (matchPs w (xs.drop j) ((partsOf m).drop j) h) := by
  intro d
  induction d with
  | zero =>
    intro j h hj hh
    refine impl_match.v0s _ _ _ _ _ _ _ _ _ _ ?_
    rw [br_f (by simp; omega), List.drop_eq_nil_of_le (by omega)]
    rfl
  | succ d ih =>
    intro j h hj hh
    have hx : j < xs.length := by omega
    have hy : j < (partsOf m).length := by omega
    obtain ⟨e1, e2⟩ := hw _ (List.getElem_mem hx) _ (List.getElem_mem hy) h hh
    refine impl_match.v0s _ _ _ _ _ _ _ _ _ _ ?_
    rw [br_t (by simpa using hx), br_t (by simp), Int.toNat_natCast, gt_at _ hx, of_v, bd_s, br_t (by simp), gt_at _ hy, e1, bd_s, next_ok j _ hx (by omega), ih (j + 1) _ (by omega) e2, drop_at _ _ hx, drop_at _ _ hy]
    simp only [matchPs, br_if]
    cases hc : (w xs[j] (partsOf m)[j] h).1 <;> simp
theorem sameTree_v {e : List Nd} (h : treeOk e = true) {i k : Nat} (hi : i < e.length) (hk : k < e.length) : impl_sameTree.v e (i : Int) (k : Int) = some (decide (wk e 25 i 0 = wk e 25 k 0)) := by
  have := wk_tree h (f := 25) 0 hi (by have := (treeOk_parts h).2.2.1; omega)
  exact impl_sameTree.vs _ _ _ (by simp only [grow_tree h hi, grow_tree h hk, bd_s]; rw [equalN_v _ _ (by have := (treeOk_parts h).2.2.1; omega)]; rfl)
theorem match_v {p e : List Nd} (hp : nodesOk p 0 = true) (ht : treeOk e = true) : ∀ (f k i : Nat) (h : List Int), k < p.length → i < e.length → k < f → HOk e.length h →
    impl_match.v p (k : Int) e (i : Int) h = some (matchP p e f k i h)
  | 0, _, _, _, _, _, hf, _ => by omega
  | f + 1, k, i, h, hk, hi, hf, hh => by
    have he := (treeOk_parts ht).1
    refine impl_match.vs _ _ _ _ _ ?_
    rw [br_t (by simp), Int.toNat_natCast, gt_at _ hk, br_t (by simp), Int.toNat_natCast, gt_at _ hi]
    simp only [matchP, Int.toNat_natCast, List.getElem?_eq_getElem hk, List.getElem?_eq_getElem hi]
    have hpk := nodesOk_get p 0 hp k hk
    by_cases c : p[k].1 = tIn
    · obtain ⟨v, hv, ev⟩ := hole_val hpk c
      obtain ⟨g1, g2, g3⟩ := hh.get hv
      rw [br_t (seq_t c), if_pos c, ev, br_t (by simp), br_t (by simp [hh.two]; omega), Int.toNat_natCast, gt_some g1]
      by_cases q : 0 ≤ h.getD v 0
      · obtain ⟨u, hu⟩ := Int.eq_ofNat_of_zero_le q
        rw [if_pos q, br_f (by simpa using q), br_t (by simp), br_t (by simp [hh.two]; omega), gt_some g1, hu, sameTree_v ht (by omega) hi, bd_s]
      · rw [if_neg q, br_t (decide_eq_true (by omega)), br_t (by simp), br_t (by simp [hh.two]; omega), gt_some g1]
    · rw [br_f (seq_f c), if_neg c]
      by_cases c1 : p[k].1 = e[i].1
      · by_cases c2 : p[k].2.2.2 = e[i].2.2.2
        · rw [if_pos ⟨c1, c2⟩, br_f (by rw [seq_t c1]; rfl), br_f (by simp [c2]), of_v, bd_s]
          have := match_parts (p := p) (e := e) (m := e[i]) (w := matchP p e f) (xs := partsOf p[k]) (parts_same c1) (parts_le _) (fun x hx y hy h hh => by
            obtain ⟨x0, x1⟩ := exParts_in hp hk x hx
            obtain ⟨y0, y1⟩ := exParts_in he hi y hy
            obtain ⟨a, rfl⟩ := Int.eq_ofNat_of_zero_le x0
            obtain ⟨b, rfl⟩ := Int.eq_ofNat_of_zero_le y0
            exact ⟨match_v hp ht f a b h (by omega) (by omega) (by omega) hh, matchP_ok he f _ b h (by omega) hh⟩) (partsOf p[k]).length 0 h (by omega) hh
          simpa using this
        · rw [if_neg (fun q => c2 q.2), br_f (by rw [seq_t c1]; rfl), br_t (by simpa using c2)]
      · rw [if_neg (fun q => c1 q.1), br_t (by rw [seq_f c1]; rfl)]
/-- does a side tell a word -/
theorem tells_eq (s : ByteArray) (n : Int) : spec_ruFits.f s n = impl_tells.f s n := by
  rw [spec_ruFits.eq, impl_tells.eq, l1In_f, within_f]
theorem tells_some (s : ByteArray) (n : Int) : ∃ b, impl_tells.f s n = some b := by
  rw [impl_tells.eq, within_f]
  simp only [br_if, bd_s]
  repeat' split
  all_goals exact ⟨_, rfl⟩
noncomputable def tellsP (s : ByteArray) (n : Int) : Bool := (impl_tells.f s n).getD false
theorem tells_f (s : ByteArray) (n : Int) : impl_tells.f s n = some (tellsP s n) := by
  obtain ⟨b, h⟩ := tells_some s n
  unfold tellsP; rw [h]; rfl
theorem ruFits_f (s : ByteArray) (n : Int) : spec_ruFits.f s n = some (tellsP s n) := by rw [tells_eq, tells_f]
/-- where a rule matches: for which nodes its holes stand -/
noncomputable def matchR (r : Rl) (e : List Nd) (i : Int) : List Int × Bool :=
  if (matchP r.1 e 24 ((r.1.length - 1 : Nat) : Int) i [-1, -1]).1 = true then
    if r.2.2 = tAny then ((matchP r.1 e 24 ((r.1.length - 1 : Nat) : Int) i [-1, -1]).2, true)
    else match e[((matchP r.1 e 24 ((r.1.length - 1 : Nat) : Int) i [-1, -1]).2.getD 1 0).toNat]? with
      | some n => if n.1 = tConst ∧ tellsP r.2.2 n.2.2.2 = true then ((matchP r.1 e 24 ((r.1.length - 1 : Nat) : Int) i [-1, -1]).2, true) else ([], false)
      | none => ([], false)
  else ([], false)
end Go.Proofs.Ytohfaccniialmaa.Am
end
section
/- Where a rule matches: what is bound; the functions of a rule, a tree and a node. -/
namespace Go.Proofs.Ytohfaccniialmaa.Am
open Go
set_option linter.unusedVariables false
set_option linter.unusedSimpArgs false

/-- holes that are bound stay so -/
def Mono (h h' : List Int) : Prop := ∀ v : Nat, 0 ≤ h.getD v (-1) → 0 ≤ h'.getD v (-1)
theorem set_get (h : List Int) (v u : Nat) (x : Int) : (h.set v x).getD u (-1) = if v = u ∧ u < h.length then x else h.getD u (-1) := by
  rw [List.getD_eq_getElem?_getD, List.getElem?_set, List.getD_eq_getElem?_getD]
  by_cases c : v = u
  · subst c
    by_cases d : v < h.length
    · simp [d]
    · simp [d, List.getElem?_eq_none (Nat.le_of_not_lt d)]
  · simp [c]
theorem matchPs_mono {w : Int → Int → List Int → Bool × List Int} : ∀ (xs ys : List Int) (h : List Int), (∀ x ∈ xs, ∀ y ∈ ys, ∀ h, Mono h (w x y h).2) → Mono h (matchPs w xs ys h).2
  | [], _, h, _ => fun v k => k
  | _ :: _, [], h, _ => fun v k => k
  | x :: r, y :: q, h, hw => by
    have h1 := hw x (by simp) y (by simp) h
    simp only [matchPs]
    split
    · exact fun v k => matchPs_mono r q _ (fun x' hx y' hy => hw x' (by simp [hx]) y' (by simp [hy])) v (h1 v k)
    · exact h1
theorem matchP_mono {p e : List Nd} (he : nodesOk e 0 = true) : ∀ (f : Nat) (k : Int) (i : Nat) (h : List Int), i < e.length → Mono h (matchP p e f k i h).2
  | 0, k, i, h, hi => fun v q => q
  | f + 1, k, i, h, hi => by
    simp only [matchP, Int.toNat_natCast, List.getElem?_eq_getElem hi]
    split
    · rename_i n m hn hm
      split
      · split
        · exact fun v q => q
        · intro v q
          show 0 ≤ (h.set n.2.2.2.toNat (i : Int)).getD v (-1)
          rw [set_get]
          split
          · omega
          · exact q
      · split
        · refine matchPs_mono _ _ _ (fun x hx y hy h => ?_)
          have hm := (Option.some.inj hm).symm
          subst hm
          obtain ⟨h0, h1⟩ := exParts_in he hi y hy
          obtain ⟨q, rfl⟩ := Int.eq_ofNat_of_zero_le h0
          exact matchP_mono he f x q h (by omega)
        · exact fun v q => q
    · exact fun v q => q
/-- is this hole in the subtree of a node -/
def holeIn (v : Nat) (l : List Nd) : Prop := ∃ n ∈ l, n.1 = tIn ∧ n.2.2.2 = (v : Int)
theorem wkP_hole {w : Int → Nat → List Nd} {v : Nat} : ∀ (ps : List Int) (b : Nat), holeIn v (wkP w ps b).1 → ∃ p ∈ ps, ∃ b, holeIn v (w p b)
  | [], b, ⟨n, hm, _⟩ => by simp [wkP] at hm
  | p :: r, b, ⟨n, hm, hn⟩ => by
    simp only [wkP, List.mem_append] at hm
    rcases hm with hm | hm
    · exact ⟨p, by simp, b, n, hm, hn⟩
    · obtain ⟨q, hq, b', k⟩ := wkP_hole r _ ⟨n, hm, hn⟩
      exact ⟨q, by simp [hq], b', k⟩
theorem matchPs_bind {e : List Nd} {w : Int → Int → List Int → Bool × List Int} {v : Nat} {Q : Int → Prop} : ∀ (xs ys : List Int) (h : List Int), xs.length = ys.length → (∀ x ∈ xs, ∀ y ∈ ys, ∀ h, HOk e.length h → HOk e.length (w x y h).2 ∧ Mono h (w x y h).2 ∧ ((w x y h).1 = true → Q x → 0 ≤ (w x y h).2.getD v (-1))) → HOk e.length h → (matchPs w xs ys h).1 = true → (∃ x ∈ xs, Q x) → 0 ≤ (matchPs w xs ys h).2.getD v (-1)
  | [], _, h, _, _, _, _, ⟨x, hx, _⟩ => by cases hx
  | _ :: _, [], h, hl, _, _, _, _ => by simp at hl
  | x :: r, y :: q, h, hl, hw, hh, ht, ⟨z, hz, hq⟩ => by
    obtain ⟨k1, k2, k3⟩ := hw x (by simp) y (by simp) h hh
    have hw' : ∀ x ∈ r, ∀ y ∈ q, ∀ h, HOk e.length h → HOk e.length (w x y h).2 ∧ Mono h (w x y h).2 ∧ ((w x y h).1 = true → Q x → 0 ≤ (w x y h).2.getD v (-1)) := fun x' hx y' hy => hw x' (by simp [hx]) y' (by simp [hy])
    simp only [matchPs] at ht ⊢
    split at ht
    · rename_i hc
      rw [if_pos hc]
      rcases List.mem_cons.1 hz with rfl | hz
      · have := k3 hc hq
        have hm : Mono (w z y h).2 (matchPs w r q (w z y h).2).2 := by
          have : ∀ (xs ys : List Int) (h : List Int), (∀ x ∈ xs, ∀ y ∈ ys, ∀ h, HOk e.length h → HOk e.length (w x y h).2 ∧ Mono h (w x y h).2) → HOk e.length h → Mono h (matchPs w xs ys h).2 := by
            intro xs
            induction xs with
            | nil => intro ys h _ _ v k; exact k
            | cons x r ih =>
              intro ys h hw hh
              cases ys with
              | nil => exact fun v k => k
              | cons y q =>
                obtain ⟨a, b⟩ := hw x (by simp) y (by simp) h hh
                simp only [matchPs]
                split
                · exact fun v k => ih q _ (fun x' hx y' hy => hw x' (by simp [hx]) y' (by simp [hy])) a v (b v k)
                · exact b
          exact this r q _ (fun x hx y hy h hh => ⟨(hw' x hx y hy h hh).1, (hw' x hx y hy h hh).2.1⟩) k1
        exact hm v this
      · exact matchPs_bind r q _ (by simpa using hl) hw' k1 ht ⟨z, hz, hq⟩
    · cases ht
theorem matchP_bind {p e : List Nd} (hp : nodesOk p 0 = true) (he : nodesOk e 0 = true) {v : Nat} : ∀ (f k i : Nat) (h : List Int), k < p.length → i < e.length → k < f → HOk e.length h → (matchP p e f k i h).1 = true → (∃ b, holeIn v (wk p f (k : Int) b)) → 0 ≤ (matchP p e f k i h).2.getD v (-1)
  | 0, _, _, _, _, _, hf, _, _, _ => by omega
  | f + 1, k, i, h, hk, hi, hf, hh, ht, ⟨b, hb⟩ => by
    have hpk := nodesOk_get p 0 hp k hk
    have hparts := exParts_in hp hk
    rw [wk_at hk] at hb
    simp only [matchP, Int.toNat_natCast, List.getElem?_eq_getElem hk, List.getElem?_eq_getElem hi] at ht ⊢
    by_cases c : p[k].1 = tIn
    · rw [if_pos c] at ht ⊢
      obtain ⟨u, hu, ev⟩ := hole_val hpk c
      have hnil : partsOf p[k] = [] := by unfold partsOf arity; rw [if_pos c]; rfl
      rw [hnil] at hb
      obtain ⟨n, hm, h1, h2⟩ := hb
      simp only [wkP, List.nil_append, List.mem_singleton] at hm
      subst hm
      have huv : u = v := by
        have : p[k].2.2.2 = (v : Int) := h2
        omega
      subst huv
      rw [ev] at ht ⊢
      simp only [Int.toNat_natCast] at ht ⊢
      obtain ⟨g1, g2, g3⟩ := hh.get hu
      have hd : h.getD u (-1) = h.getD u 0 := by
        rw [List.getD_eq_getElem?_getD, List.getD_eq_getElem?_getD, g1]; rfl
      split
      · rename_i q
        show 0 ≤ h.getD u (-1)
        rw [hd]; exact q
      · show 0 ≤ (h.set u (i : Int)).getD u (-1)
        rw [set_get, if_pos ⟨rfl, by rw [hh.two]; exact hu⟩]
        omega
    · rw [if_neg c] at ht ⊢
      split at ht
      · rename_i cc
        rw [if_pos cc]
        have hq : ∃ x ∈ partsOf p[k], ∃ b, holeIn v (wk p f x b) := by
          obtain ⟨n, hm, h1, h2⟩ := hb
          rcases List.mem_append.1 hm with hm | hm
          · exact wkP_hole _ _ ⟨n, hm, h1, h2⟩
          · simp only [List.mem_singleton] at hm
            subst hm
            exact absurd h1 c
        refine matchPs_bind (e := e) (Q := fun x => ∃ b, holeIn v (wk p f x b)) _ _ h (parts_same cc.1) (fun x hx y hy h hh => ?_) hh ht hq
        obtain ⟨x0, x1⟩ := hparts x hx
        obtain ⟨y0, y1⟩ := exParts_in he hi y hy
        obtain ⟨a, rfl⟩ := Int.eq_ofNat_of_zero_le x0
        obtain ⟨b, rfl⟩ := Int.eq_ofNat_of_zero_le y0
        exact ⟨matchP_ok he f _ b h (by omega) hh, matchP_mono he f _ b h (by omega), fun hc hx => matchP_bind hp he f a b h (by omega) (by omega) (by omega) hh hc hx⟩
      · cases ht
/-- what is known of a rule -/
theorem ruleOk_parts {r : Rl} (h : ruleOk r = true) : walked r.1 = true ∧ walked r.2.1 = true ∧ r.1.length ≠ 1 ∧ tailOk r.1 r.2.1 (decide (r.2.2 = tAny)) = true := by
  unfold ruleOk at h
  simp only [Bool.and_eq_true, Bool.not_eq_true', decide_eq_false_iff_not] at h
  exact ⟨h.2.1, h.2.2.1, h.2.2.2.1, h.2.2.2.2⟩
theorem walked_parts {e : List Nd} (h : walked e = true) : exprOk e = true ∧ once e = true ∧ wk e 25 ((e.length - 1 : Nat) : Int) 0 = e := by
  unfold walked at h
  simp only [Bool.and_eq_true, decide_eq_true_iff] at h
  exact ⟨h.1, h.2.1, h.2.2⟩
theorem walked_tree {e : List Nd} (h : walked e = true) : treeOk e = true := by
  obtain ⟨h1, h2, _⟩ := walked_parts h
  unfold treeOk; rw [h1, h2]; rfl
theorem hasH_hole {e : List Nd} {v : Nat} (h : hasH e v = true) : holeIn v e := by
  unfold hasH at h
  obtain ⟨n, hm, hn⟩ := List.any_eq_true.1 h
  have := nodeEq_iff.1 hn
  subst this
  exact ⟨_, hm, rfl, rfl⟩
abbrev mRoot (r : Rl) (e : List Nd) (i : Int) : Bool × List Int := matchP r.1 e 24 ((r.1.length - 1 : Nat) : Int) i [-1, -1]
theorem mHOk (n : Nat) : HOk n [-1, -1] := ⟨rfl, fun x hx => by simp at hx; omega⟩
/-- every hole of a rule's left side is bound -/
theorem bound_of {r : Rl} (hr : ruleOk r = true) {e : List Nd} (he : nodesOk e 0 = true) {i : Nat} (hi : i < e.length) (hm : (mRoot r e i).1 = true) {v : Nat} (hv : hasH r.1 v = true) : 0 ≤ (mRoot r e i).2.getD v (-1) := by
  obtain ⟨hw, _, _, _⟩ := ruleOk_parts hr
  obtain ⟨h1, h2, h3⟩ := walked_parts hw
  obtain ⟨g1, g2, g3⟩ := exprOk_parts h1
  refine matchP_bind g1 he 24 (r.1.length - 1) i [-1, -1] (by omega) hi (by omega) (mHOk _) hm ⟨0, ?_⟩
  rw [wk_fuel g1 24 25 _ 0 (by omega) (by omega) (by omega), h3]
  exact hasH_hole hv
theorem HOk.get' {n : Nat} {h : List Int} (k : HOk n h) {v : Nat} (hv : v < 2) : h.getD v 0 = h.getD v (-1) := by
  rw [List.getD_eq_getElem?_getD, List.getD_eq_getElem?_getD, (k.get hv).1]; rfl
theorem last_wrap {n : Nat} (h0 : 1 ≤ n) (h1 : n ≤ 1048576) : IntKind.wrap .i64 ((n : Int) - 1) = ((n - 1 : Nat) : Int) := by
  rw [wrap_ok (by omega) (by omega)]; omega
/-- behind a match that is found: what the side asks for -/
theorem side_node {r : Rl} (hr : ruleOk r = true) {e : List Nd} (he : nodesOk e 0 = true) {i : Nat} (hi : i < e.length) (hm : (mRoot r e i).1 = true) (hs : ¬ r.2.2 = tAny) : ∃ u : Nat, ∃ hu : u < e.length, (mRoot r e i).2[1]? = some (u : Int) ∧ (mRoot r e i).2.getD 1 0 = (u : Int) := by
  obtain ⟨_, _, _, ht⟩ := ruleOk_parts hr
  have h1 : hasH r.1 (1 : Nat) = true := by
    unfold tailOk at ht
    simp only [decide_eq_false hs, Bool.and_false, Bool.or_false, Bool.and_eq_true] at ht
    exact ht.2
  have hb := bound_of hr he hi hm h1
  have hk : HOk e.length (mRoot r e i).2 := matchP_ok he 24 _ i _ hi (mHOk _)
  obtain ⟨g1, g2, g3⟩ := hk.get (v := 1) (by omega)
  rw [← hk.get' (by omega)] at hb
  refine ⟨((mRoot r e i).2.getD 1 0).toNat, by omega, ?_, by omega⟩
  rw [g1]; congr 1; omega
theorem ruMatch_v {r : Rl} (hr : ruleOk r = true) {e : List Nd} (ht : treeOk e = true) {i : Nat} (hi : i < e.length) : spec_ruMatch.v r e (i : Int) = some (matchR r e i) := by
  obtain ⟨hw, _, _, _⟩ := ruleOk_parts hr
  obtain ⟨g1, g2, g3⟩ := exprOk_parts (walked_parts hw).1
  obtain ⟨h1, h2, h3, h4⟩ := treeOk_parts ht
  refine spec_ruMatch.vs _ _ _ ?_
  rw [last_wrap g2 (by omega), fits_v g1 h1 h3 24 (r.1.length - 1) i _ (by omega) hi (by omega) (mHOk _), bd_s]
  unfold matchR
  by_cases c : (mRoot r e i).1 = true
  · rw [if_pos c]
    rw [br_f (by rw [c]; rfl)]
    by_cases s : r.2.2 = tAny
    · rw [if_pos s, br_f (by rw [seq_t s]; rfl)]
    · obtain ⟨u, hu, k1, k2⟩ := side_node hr h1 hi c s
      have hk : HOk e.length (mRoot r e i).2 := matchP_ok h1 24 _ i _ hi (mHOk _)
      rw [if_neg s, br_t (by rw [seq_f s]; rfl), br_t (by rw [hk.two]; decide), show (1 : Int).toNat = 1 from rfl, gt_some k1, br_t (by simp), Int.toNat_natCast, gt_at _ hu, k2, Int.toNat_natCast, List.getElem?_eq_getElem hu]
      simp only [ruFits_f, bd_s, seq_beq, br_if]
      by_cases c1 : e[u].1 = tConst <;> by_cases c2 : tellsP r.2.2 e[u].2.2.2 = true <;> simp [c1, c2]
  · rw [if_neg c, br_t (by rw [Bool.not_eq_true] at c; rw [c]; rfl)]
theorem matchAt_v {r : Rl} (hr : ruleOk r = true) {e : List Nd} (ht : treeOk e = true) {i : Nat} (hi : i < e.length) : impl_matchAt.v r e (i : Int) = some (matchR r e i) := by
  obtain ⟨hw, _, _, _⟩ := ruleOk_parts hr
  obtain ⟨g1, g2, g3⟩ := exprOk_parts (walked_parts hw).1
  obtain ⟨h1, h2, h3, h4⟩ := treeOk_parts ht
  refine impl_matchAt.vs _ _ _ ?_
  rw [last_wrap g2 (by omega), match_v g1 ht 24 (r.1.length - 1) i _ (by omega) hi (by omega) (mHOk _), bd_s]
  unfold matchR
  by_cases c : (mRoot r e i).1 = true
  · rw [if_pos c]
    rw [br_f (by rw [c]; rfl)]
    by_cases s : r.2.2 = tAny
    · rw [if_pos s, br_f (by rw [seq_t s]; rfl)]
    · obtain ⟨u, hu, k1, k2⟩ := side_node hr h1 hi c s
      have hk : HOk e.length (mRoot r e i).2 := matchP_ok h1 24 _ i _ hi (mHOk _)
      rw [if_neg s, br_t (by rw [seq_f s]; rfl), br_t (by rw [hk.two]; decide), show (1 : Int).toNat = 1 from rfl, gt_some k1, br_t (by simp), Int.toNat_natCast, gt_at _ hu, k2, Int.toNat_natCast, List.getElem?_eq_getElem hu]
      by_cases c1 : e[u].1 = tConst
      · rw [br_f (by rw [seq_t c1]; rfl), br_t (by rw [hk.two]; decide), gt_some k1, br_t (by simp), Int.toNat_natCast, gt_at _ hu]
        simp only [tells_f, bd_s, br_if]
        by_cases c2 : tellsP r.2.2 e[u].2.2.2 = true <;> simp [c1, c2]
      · rw [br_t (by rw [seq_f c1]; rfl)]
        simp [c1]
  · rw [if_neg c, br_t (by rw [Bool.not_eq_true] at c; rw [c]; rfl)]
theorem matchR_two {r : Rl} {e : List Nd} (he : nodesOk e 0 = true) {i : Nat} (hi : i < e.length) (h : (matchR r e i).2 = true) : HOk e.length (matchR r e i).1 := by
  have hk : HOk e.length (mRoot r e i).2 := matchP_ok he 24 _ i _ hi (mHOk _)
  unfold matchR at h ⊢
  split at h
  · rename_i c
    rw [if_pos c]
    split at h
    · rename_i s; rw [if_pos s]; exact hk
    · rename_i s
      rw [if_neg s]
      split at h
      · rename_i n hn
        split at h
        · rename_i q; rw [if_pos q]; exact hk
        · cases h
      · cases h
  · cases h
/-! ### what is asked ahead -/
theorem ruTreeOf_v (e : List Nd) (hl : e.length ≤ 1048576) : spec_ruTreeOf.v e = some (treeOk e) := by
  refine spec_ruTreeOf.vs _ ?_
  rw [show spec_exGood.v e = some (exprOk e) from ev_lim (exGood_ev e hl), bd_s]
  unfold treeOk
  by_cases c : exprOk e = true
  · rw [br_t c, show spec_exTree.v e = some (once e) from ev_lim (exTree_ev e hl c), bd_s, c]; rfl
  · rw [Bool.not_eq_true] at c
    rw [br_f c, c]; rfl
/-- a rule, a tree and a node that may be asked for -/
def placeOk (r : Rl) (e : List Nd) (i : Int) : Bool := ruleOk r && (treeOk e && inB i 0 ((e.length : Int) - 1))
theorem isPlace_v (r : Rl) (e : List Nd) (i : Int) (h : Short r) (hl : e.length ≤ 1048576) : impl_isPlace.v r e i = some (placeOk r e i) := by
  refine impl_isPlace.vs _ _ _ ?_
  rw [isRule_v r h, bd_s, isTree_v e hl, bd_s, within_f, bd_s, wrap_ok (by omega) (by omega)]
  unfold placeOk
  cases ruleOk r <;> cases treeOk e <;> simp
theorem placeOk_parts {r : Rl} {e : List Nd} {i : Int} (h : placeOk r e i = true) : ruleOk r = true ∧ treeOk e = true ∧ ∃ k : Nat, i = (k : Int) ∧ k < e.length := by
  unfold placeOk at h
  simp only [Bool.and_eq_true, inB_iff] at h
  exact ⟨h.1, h.2.1, i.toNat, by omega, by omega⟩
end Go.Proofs.Ytohfaccniialmaa.Am
end
section
/- A tree that is changed at a node: the reference. -/
namespace Go.Proofs.Ytohfaccniialmaa.Am
open Go
set_option linter.unusedVariables false
set_option linter.unusedSimpArgs false
/-- the pattern of the new side, the holes filled -/
def fil (e to : List Nd) (h : List Int) : Nat → Int → Nat → List Nd
  | 0, _, _ => []
  | f + 1, k, b => match to[k.toNat]? with
    | some n => if n.1 = tIn then wk e 25 (h.getD n.2.2.2.toNat 0) b else (wkP (fil e to h f) (partsOf n) b).1 ++ [putN n (wkP (fil e to h f) (partsOf n) b).2]
    | none => []
/-- the tree, changed at the node i -/
def chg (e to : List Nd) (h : List Int) (i : Int) : Nat → Int → Nat → List Nd
  | 0, _, _ => []
  | f + 1, j, b => if j = i then fil e to h 25 ((to.length - 1 : Nat) : Int) b else match e[j.toNat]? with
    | some n => (wkP (chg e to h i f) (partsOf n) b).1 ++ [putN n (wkP (chg e to h i f) (partsOf n) b).2]
    | none => []
theorem fil_at {e to : List Nd} {h : List Int} {k : Nat} (hk : k < to.length) (f b : Nat) : fil e to h (f + 1) (k : Int) b = if to[k].1 = tIn then wk e 25 (h.getD to[k].2.2.2.toNat 0) b else (wkP (fil e to h f) (partsOf to[k]) b).1 ++ [putN to[k] (wkP (fil e to h f) (partsOf to[k]) b).2] := by
  simp only [fil, Int.toNat_natCast, List.getElem?_eq_getElem hk]
theorem chg_at {e to : List Nd} {h : List Int} {i : Int} {j : Nat} (hj : j < e.length) (f b : Nat) : chg e to h i (f + 1) (j : Int) b = if (j : Int) = i then fil e to h 25 ((to.length - 1 : Nat) : Int) b else (wkP (chg e to h i f) (partsOf e[j]) b).1 ++ [putN e[j] (wkP (chg e to h i f) (partsOf e[j]) b).2] := by
  simp only [chg, Int.toNat_natCast, List.getElem?_eq_getElem hj]
theorem wkP_sum {w : Int → Nat → List Nd} {S : Int → Nat} : ∀ (ps : List Int) (b : Nat), (∀ p ∈ ps, ∀ b, (w p b).length ≤ S p) → (wkP w ps b).1.length ≤ (ps.map S).sum
  | [], b, _ => by simp [wkP]
  | p :: r, b, h => by
    have h1 := h p (by simp) b
    have h2 := wkP_sum (w := w) (S := S) r (b + (w p b).length) (fun q hq => h q (by simp [hq]))
    simp only [wkP, List.length_append, List.map_cons, List.sum_cons]
    omega
theorem parts_sum {e : List Nd} (hn : nodesOk e 0 = true) {i : Nat} (hi : i < e.length) (m : Nat) : ((partsOf e[i]).map (fun p => m * szT e p.toNat)).sum + m = m * szT e i := by
  rw [szT_eq hn hi, Nat.mul_add, Nat.mul_one]
  unfold pN
  have : ∀ l : List Int, (l.map (fun p => m * szT e p.toNat)).sum = m * ((l.map Int.toNat).map (szT e)).sum := by
    intro l
    induction l with
    | nil => simp
    | cons a r ih => simp only [List.map_cons, List.sum_cons, ih, Nat.mul_add]
  rw [this]; omega
theorem copied_v {e : List Nd} (ht : treeOk e = true) {i : Nat} (hi : i < e.length) (t : List Nd) (hl : t.length ≤ 100000) : spec_ruTree_copied.v e (i : Int) t = some (((t.length + (wk e 25 i t.length).length : Nat) : Int) - 1, ((), t ++ wk e 25 i t.length)) := by
  obtain ⟨h1, h2, h3, _⟩ := treeOk_parts ht
  have := copied_ev e h1 25 i t hi (by omega) (by omega) (by have : 2 ^ 25 = 33554432 := rfl; omega)
  exact lim_eq this
theorem copiedN_parts' {e : List Nd} {ps : List Int} {k : Nat} (hk : k < e.length) (w : Int → Nat → List Nd) (S : Int → Nat) (hp2 : ps.length ≤ 2) (hw : ∀ p ∈ ps, ∀ t : List Nd, t.length + S p ≤ 100000 → spec_ruTree_copied.v e p t = some (((t.length + (w p t.length).length : Nat) : Int) - 1, ((), t ++ w p t.length)) ∧ (w p t.length).length ≤ S p) :
    ∀ (r j : Nat) (t : List Nd) (is : List Int), j + r = ps.length → t.length + ((ps.drop j).map S).sum ≤ 100000 → is.length ≤ j →
      spec_ruTree_copied_nil.v0 e (k : Int) ps (ps.length : Int) (j : Int) t is = some (((t.length + (wkP w (ps.drop j) t.length).1.length : Nat) : Int), ((), t ++ (wkP w (ps.drop j) t.length).1 ++ [putN e[k] (is ++ (wkP w (ps.drop j) t.length).2)])) := by
  intro r
  induction r with
  | zero =>
    intro j t is hj ht his
    refine spec_ruTree_copied_nil.v0s _ _ _ _ _ _ _ ?_
    rw [List.drop_eq_nil_of_le (by omega), br_f (by simp; omega), br_t (by simp), Int.toNat_natCast, gt_at _ hk, put_f _ _ _ (by omega), bd_s]
    simp [wkP]
  | succ r ih =>
    intro j t is hj ht his
    have hlt : j < ps.length := by omega
    rw [drop_at _ _ hlt, List.map_cons, List.sum_cons] at ht
    obtain ⟨hv, hl⟩ := hw _ (List.getElem_mem hlt) t (by omega)
    refine spec_ruTree_copied_nil.v0s _ _ _ _ _ _ _ ?_
    rw [br_t (by simpa using hlt), br_t (by simp), Int.toNat_natCast, gt_at _ hlt, hv, bd_s]
    simp only
    rw [br_t (by simp; omega), next_ok j _ hlt (by omega), ih (j + 1) (t ++ w ps[j] t.length) (is ++ [((t.length + (w ps[j] t.length).length : Nat) : Int) - 1]) (by omega) (by rw [List.length_append]; omega) (by simp; omega), drop_at _ _ hlt]
    simp only [wkP, List.length_append]
    simp [List.append_assoc, Nat.add_assoc]
theorem copiedN_v {e : List Nd} (ht : treeOk e = true) {i : Nat} (hi : i < e.length) : spec_ruTree_copied_nil.v e (i : Int) = some ((((wk e 25 i 0).length : Nat) : Int) - 1, ((), wk e 25 i 0)) := by
  obtain ⟨h1, h2, h3, _⟩ := treeOk_parts ht
  refine spec_ruTree_copied_nil.vs _ _ ?_
  rw [br_t (by simp), Int.toNat_natCast, gt_at _ hi, exParts_v, bd_s, wk_at' hi (g := 25) (f := 24) rfl 0]
  have hs := parts_sum h1 hi 1
  have hz := szT_le (e := e) (by omega) h1 (treeOk_parts ht).2.2.2 hi
  have := copiedN_parts' (e := e) (ps := partsOf e[i]) hi (wk e 24) (fun p => 1 * szT e p.toNat) (parts_le _) (fun p hp t' ht' => by
    obtain ⟨p0, p1⟩ := exParts_in h1 hi p hp
    obtain ⟨q, rfl⟩ := Int.eq_ofNat_of_zero_le p0
    have e1 := copied_v ht (i := q) (by omega) t' (by simp at ht'; omega)
    rw [wk_fuel h1 25 24 q t'.length (by omega) (by omega) (by omega)] at e1
    exact ⟨e1, by rw [wk_szT h1 _ (by omega) (by omega)]; simp⟩) (partsOf e[i]).length 0 [] [] (by omega) (by rw [List.drop_zero, List.length_nil]; omega) (by simp)
  rw [List.drop_zero] at this
  refine this.trans ?_
  simp only [List.nil_append, List.length_append, List.length_singleton, List.length_nil]
  congr 2
  omega
theorem filled_parts {e to : List Nd} {h : List Int} {ps : List Int} {k : Nat} (hk : k < to.length) (w : Int → Nat → List Nd) (S : Int → Nat) (hp2 : ps.length ≤ 2) (hw : ∀ p ∈ ps, ∀ t : List Nd, t.length + S p ≤ 100000 → spec_ruTree_filled.v to p e h t = some (((t.length + (w p t.length).length : Nat) : Int) - 1, ((), t ++ w p t.length)) ∧ (w p t.length).length ≤ S p) :
    ∀ (r j : Nat) (t : List Nd) (is : List Int), j + r = ps.length → t.length + ((ps.drop j).map S).sum ≤ 100000 → is.length ≤ j →
      spec_ruTree_filled.v0 to (k : Int) e h ps (ps.length : Int) (j : Int) t is = some (((t.length + (wkP w (ps.drop j) t.length).1.length : Nat) : Int), ((), t ++ (wkP w (ps.drop j) t.length).1 ++ [putN to[k] (is ++ (wkP w (ps.drop j) t.length).2)])) := by
  intro r
  induction r with
  | zero =>
    intro j t is hj ht his
    refine spec_ruTree_filled.v0s _ _ _ _ _ _ _ _ _ ?_
    rw [List.drop_eq_nil_of_le (by omega), br_f (by simp; omega), br_t (by simp), Int.toNat_natCast, gt_at _ hk, put_f _ _ _ (by omega), bd_s]
    simp [wkP]
  | succ r ih =>
    intro j t is hj ht his
    have hlt : j < ps.length := by omega
    rw [drop_at _ _ hlt, List.map_cons, List.sum_cons] at ht
    obtain ⟨hv, hl⟩ := hw _ (List.getElem_mem hlt) t (by omega)
    refine spec_ruTree_filled.v0s _ _ _ _ _ _ _ _ _ ?_
    rw [br_t (by simpa using hlt), br_t (by simp), Int.toNat_natCast, gt_at _ hlt, hv, bd_s]
    simp only
    rw [br_t (by simp; omega), next_ok j _ hlt (by omega), ih (j + 1) (t ++ w ps[j] t.length) (is ++ [((t.length + (w ps[j] t.length).length : Nat) : Int) - 1]) (by omega) (by rw [List.length_append]; omega) (by simp; omega), drop_at _ _ hlt]
    simp only [wkP, List.length_append]
    simp [List.append_assoc, Nat.add_assoc]
theorem filledN_parts {e to : List Nd} {h : List Int} {ps : List Int} {k : Nat} (hk : k < to.length) (w : Int → Nat → List Nd) (S : Int → Nat) (hp2 : ps.length ≤ 2) (hw : ∀ p ∈ ps, ∀ t : List Nd, t.length + S p ≤ 100000 → spec_ruTree_filled.v to p e h t = some (((t.length + (w p t.length).length : Nat) : Int) - 1, ((), t ++ w p t.length)) ∧ (w p t.length).length ≤ S p) :
    ∀ (r j : Nat) (t : List Nd) (is : List Int), j + r = ps.length → t.length + ((ps.drop j).map S).sum ≤ 100000 → is.length ≤ j →
      spec_ruTree_filled_nil.v0 to (k : Int) e h ps (ps.length : Int) (j : Int) t is = some (((t.length + (wkP w (ps.drop j) t.length).1.length : Nat) : Int), ((), t ++ (wkP w (ps.drop j) t.length).1 ++ [putN to[k] (is ++ (wkP w (ps.drop j) t.length).2)])) := by
  intro r
  induction r with
  | zero =>
    intro j t is hj ht his
    refine spec_ruTree_filled_nil.v0s _ _ _ _ _ _ _ _ _ ?_
    rw [List.drop_eq_nil_of_le (by omega), br_f (by simp; omega), br_t (by simp), Int.toNat_natCast, gt_at _ hk, put_f _ _ _ (by omega), bd_s]
    simp [wkP]
  | succ r ih =>
    intro j t is hj ht his
    have hlt : j < ps.length := by omega
    rw [drop_at _ _ hlt, List.map_cons, List.sum_cons] at ht
    obtain ⟨hv, hl⟩ := hw _ (List.getElem_mem hlt) t (by omega)
    refine spec_ruTree_filled_nil.v0s _ _ _ _ _ _ _ _ _ ?_
    rw [br_t (by simpa using hlt), br_t (by simp), Int.toNat_natCast, gt_at _ hlt, hv, bd_s]
    simp only
    rw [br_t (by simp; omega), next_ok j _ hlt (by omega), ih (j + 1) (t ++ w ps[j] t.length) (is ++ [((t.length + (w ps[j] t.length).length : Nat) : Int) - 1]) (by omega) (by rw [List.length_append]; omega) (by simp; omega), drop_at _ _ hlt]
    simp only [wkP, List.length_append]
    simp [List.append_assoc, Nat.add_assoc]
theorem changed_parts {e to : List Nd} {h : List Int} {i : Int} {ps : List Int} {k : Nat} (hk : k < e.length) (w : Int → Nat → List Nd) (S : Int → Nat) (hp2 : ps.length ≤ 2) (hw : ∀ p ∈ ps, ∀ t : List Nd, t.length + S p ≤ 100000 → spec_ruTree_changed.v e p i to h t = some (((t.length + (w p t.length).length : Nat) : Int) - 1, ((), t ++ w p t.length)) ∧ (w p t.length).length ≤ S p) :
    ∀ (r j : Nat) (t : List Nd) (is : List Int), j + r = ps.length → t.length + ((ps.drop j).map S).sum ≤ 100000 → is.length ≤ j →
      spec_ruTree_changed.v0 e (k : Int) i to h ps (ps.length : Int) (j : Int) t is = some (((t.length + (wkP w (ps.drop j) t.length).1.length : Nat) : Int), ((), t ++ (wkP w (ps.drop j) t.length).1 ++ [putN e[k] (is ++ (wkP w (ps.drop j) t.length).2)])) := by
  intro r
  induction r with
  | zero =>
    intro j t is hj ht his
    refine spec_ruTree_changed.v0s _ _ _ _ _ _ _ _ _ _ ?_
    rw [List.drop_eq_nil_of_le (by omega), br_f (by simp; omega), br_t (by simp), Int.toNat_natCast, gt_at _ hk, put_f _ _ _ (by omega), bd_s]
    simp [wkP]
  | succ r ih =>
    intro j t is hj ht his
    have hlt : j < ps.length := by omega
    rw [drop_at _ _ hlt, List.map_cons, List.sum_cons] at ht
    obtain ⟨hv, hl⟩ := hw _ (List.getElem_mem hlt) t (by omega)
    refine spec_ruTree_changed.v0s _ _ _ _ _ _ _ _ _ _ ?_
    rw [br_t (by simpa using hlt), br_t (by simp), Int.toNat_natCast, gt_at _ hlt, hv, bd_s]
    simp only
    rw [br_t (by simp; omega), next_ok j _ hlt (by omega), ih (j + 1) (t ++ w ps[j] t.length) (is ++ [((t.length + (w ps[j] t.length).length : Nat) : Int) - 1]) (by omega) (by rw [List.length_append]; omega) (by simp; omega), drop_at _ _ hlt]
    simp only [wkP, List.length_append]
    simp [List.append_assoc, Nat.add_assoc]
theorem changedN_parts {e to : List Nd} {h : List Int} {i : Int} {ps : List Int} {k : Nat} (hk : k < e.length) (w : Int → Nat → List Nd) (S : Int → Nat) (hp2 : ps.length ≤ 2) (hw : ∀ p ∈ ps, ∀ t : List Nd, t.length + S p ≤ 100000 → spec_ruTree_changed.v e p i to h t = some (((t.length + (w p t.length).length : Nat) : Int) - 1, ((), t ++ w p t.length)) ∧ (w p t.length).length ≤ S p) :
    ∀ (r j : Nat) (t : List Nd) (is : List Int), j + r = ps.length → t.length + ((ps.drop j).map S).sum ≤ 100000 → is.length ≤ j →
      spec_ruTree_changed_nil.v0 e (k : Int) i to h ps (ps.length : Int) (j : Int) t is = some (((t.length + (wkP w (ps.drop j) t.length).1.length : Nat) : Int), ((), t ++ (wkP w (ps.drop j) t.length).1 ++ [putN e[k] (is ++ (wkP w (ps.drop j) t.length).2)])) := by
  intro r
  induction r with
  | zero =>
    intro j t is hj ht his
    refine spec_ruTree_changed_nil.v0s _ _ _ _ _ _ _ _ _ _ ?_
    rw [List.drop_eq_nil_of_le (by omega), br_f (by simp; omega), br_t (by simp), Int.toNat_natCast, gt_at _ hk, put_f _ _ _ (by omega), bd_s]
    simp [wkP]
  | succ r ih =>
    intro j t is hj ht his
    have hlt : j < ps.length := by omega
    rw [drop_at _ _ hlt, List.map_cons, List.sum_cons] at ht
    obtain ⟨hv, hl⟩ := hw _ (List.getElem_mem hlt) t (by omega)
    refine spec_ruTree_changed_nil.v0s _ _ _ _ _ _ _ _ _ _ ?_
    rw [br_t (by simpa using hlt), br_t (by simp), Int.toNat_natCast, gt_at _ hlt, hv, bd_s]
    simp only
    rw [br_t (by simp; omega), next_ok j _ hlt (by omega), ih (j + 1) (t ++ w ps[j] t.length) (is ++ [((t.length + (w ps[j] t.length).length : Nat) : Int) - 1]) (by omega) (by rw [List.length_append]; omega) (by simp; omega), drop_at _ _ hlt]
    simp only [wkP, List.length_append]
    simp [List.append_assoc, Nat.add_assoc]
/-- the holes of the new side are bound to nodes -/
def Filled (e to : List Nd) (h : List Int) : Prop := ∀ k (hk : k < to.length), to[k].1 = tIn → ∃ u : Nat, u < e.length ∧ 0 ≤ to[k].2.2.2 ∧ h[to[k].2.2.2.toNat]? = some (u : Int)
section
variable {e to : List Nd} {h : List Int}
theorem hole_get (hf : Filled e to h) {k : Nat} (hk : k < to.length) (c : to[k].1 = tIn) : ∃ u : Nat, u < e.length ∧ 0 ≤ to[k].2.2.2 ∧ h[to[k].2.2.2.toNat]? = some (u : Int) ∧ h.getD to[k].2.2.2.toNat 0 = (u : Int) := by
  obtain ⟨u, hu, h0, hg⟩ := hf k hk c
  exact ⟨u, hu, h0, hg, by rw [List.getD_eq_getElem?_getD, hg]; rfl⟩
theorem wk_24 (ht : treeOk e = true) {u : Nat} (hu : u < e.length) (b : Nat) : (wk e 25 (u : Int) b).length ≤ 24 := by
  obtain ⟨h1, h2, h3, _⟩ := treeOk_parts ht
  have := wk_tree ht (f := 25) (i := u) b hu (by omega)
  omega
theorem szT_pos (hn : nodesOk to 0 = true) {k : Nat} (hk : k < to.length) : 1 ≤ szT to k := by rw [szT_eq hn hk]; omega
theorem fil_len (ht : treeOk e = true) (hn : nodesOk to 0 = true) (hf : Filled e to h) : ∀ (f k b : Nat), k < to.length → (fil e to h f (k : Int) b).length ≤ 24 * szT to k
  | 0, k, b, _ => by simp [fil]
  | f + 1, k, b, hk => by
    have h1 := szT_pos hn hk
    rw [fil_at hk]
    by_cases c : to[k].1 = tIn
    · obtain ⟨u, hu, _, _, hg⟩ := hole_get hf hk c
      rw [if_pos c, hg]
      have := wk_24 ht hu b
      omega
    · rw [if_neg c]
      have := wkP_sum (w := fil e to h f) (S := fun p => 24 * szT to p.toNat) (partsOf to[k]) b (fun p hp b => by
        obtain ⟨p0, p1⟩ := exParts_in hn hk p hp
        obtain ⟨q, rfl⟩ := Int.eq_ofNat_of_zero_le p0
        exact fil_len ht hn hf f q b (by omega))
      have := parts_sum hn hk 24
      rw [List.length_append, List.length_singleton]
      omega
theorem filled_v (ht : treeOk e = true) (hn : nodesOk to 0 = true) (hf : Filled e to h) : ∀ (f k : Nat) (t : List Nd), k < to.length → k < f → t.length + 24 * szT to k ≤ 100000 →
    spec_ruTree_filled.v to (k : Int) e h t = some (((t.length + (fil e to h f (k : Int) t.length).length : Nat) : Int) - 1, ((), t ++ fil e to h f (k : Int) t.length))
  | 0, k, t, _, hf, _ => by omega
  | f + 1, k, t, hk, hkf, hl => by
    refine spec_ruTree_filled.vs _ _ _ _ _ ?_
    rw [br_t (by simp), Int.toNat_natCast, gt_at _ hk, fil_at hk]
    by_cases c : to[k].1 = tIn
    · obtain ⟨u, hu, h0, hg, hg2⟩ := hole_get hf hk c
      rw [if_pos c, hg2, br_t (seq_t c), br_t (by simp), gt_at _ hk, br_t (by simpa using h0), gt_some hg, copied_v ht hu t (by omega), bd_s]
    · rw [if_neg c, br_f (seq_f c), br_t (by simp), gt_at _ hk, exParts_v, bd_s]
      have hs := parts_sum hn hk 24
      have := filled_parts (e := e) (to := to) (h := h) (ps := partsOf to[k]) hk (fil e to h f) (fun p => 24 * szT to p.toNat) (parts_le _) (fun p hp t' ht' => by
        obtain ⟨p0, p1⟩ := exParts_in hn hk p hp
        obtain ⟨q, rfl⟩ := Int.eq_ofNat_of_zero_le p0
        exact ⟨filled_v ht hn hf f q t' (by omega) (by omega) (by simpa using ht'), fil_len ht hn hf f q _ (by omega)⟩) (partsOf to[k]).length 0 t [] (by omega) (by rw [List.drop_zero]; omega) (by simp)
      rw [List.drop_zero] at this
      refine this.trans ?_
      simp only [List.nil_append, List.length_append, List.length_singleton, List.append_assoc]
      congr 2
      omega
theorem filledN_v (ht : treeOk e = true) (hn : nodesOk to 0 = true) (hf : Filled e to h) {f k : Nat} (hk : k < to.length) (hkf : k ≤ f) (hl : 24 * szT to k ≤ 100000) :
    spec_ruTree_filled_nil.v to (k : Int) e h = some ((((fil e to h (f + 1) (k : Int) 0).length : Nat) : Int) - 1, ((), fil e to h (f + 1) (k : Int) 0)) := by
  refine spec_ruTree_filled_nil.vs _ _ _ _ ?_
  rw [br_t (by simp), Int.toNat_natCast, gt_at _ hk, fil_at hk]
  by_cases c : to[k].1 = tIn
  · obtain ⟨u, hu, h0, hg, hg2⟩ := hole_get hf hk c
    obtain ⟨n1, n2, n3, _⟩ := treeOk_parts ht
    rw [if_pos c, hg2, br_t (seq_t c), br_t (by simp), gt_at _ hk, br_t (by simpa using h0), gt_some hg, copiedN_v ht hu, bd_s]
  · rw [if_neg c, br_f (seq_f c), br_t (by simp), gt_at _ hk, exParts_v, bd_s]
    have hs := parts_sum hn hk 24
    have := filledN_parts (e := e) (to := to) (h := h) (ps := partsOf to[k]) hk (fil e to h f) (fun p => 24 * szT to p.toNat) (parts_le _) (fun p hp t' ht' => by
      obtain ⟨p0, p1⟩ := exParts_in hn hk p hp
      obtain ⟨q, rfl⟩ := Int.eq_ofNat_of_zero_le p0
      exact ⟨filled_v ht hn hf f q t' (by omega) (by omega) (by simpa using ht'), fil_len ht hn hf f q _ (by omega)⟩) (partsOf to[k]).length 0 [] [] (by omega) (by rw [List.drop_zero, List.length_nil]; omega) (by simp)
    rw [List.drop_zero] at this
    refine this.trans ?_
    simp only [List.nil_append, List.length_append, List.length_singleton, List.length_nil]
    congr 2
    omega
end
end Go.Proofs.Ytohfaccniialmaa.Am
end
section
/- Nodes that stand for trees: in a row of nodes that grows. -/
namespace Go.Proofs.Ytohfaccniialmaa.Am
open Go
set_option linter.unusedVariables false
set_option linter.unusedSimpArgs false
theorem nodesOk_app : ∀ (a b : List Nd) (i : Nat), nodesOk (a ++ b) i = (nodesOk a i && nodesOk b (i + a.length))
  | [], b, i => by simp [nodesOk]
  | n :: r, b, i => by
    simp only [List.cons_append, nodesOk, nodesOk_app r b (i + 1), List.length_cons, Bool.and_assoc]
    rw [show i + 1 + r.length = i + (r.length + 1) by omega]
theorem wk_app {a : List Nd} (hn : nodesOk a 0 = true) (c : List Nd) : ∀ (f p b : Nat), p < a.length → wk (a ++ c) f (p : Int) b = wk a f (p : Int) b
  | 0, p, b, h => rfl
  | f + 1, p, b, h => by
    have h' : p < (a ++ c).length := by rw [List.length_append]; omega
    rw [wk_at h, wk_at h', List.getElem_append_left h]
    have : wkP (wk (a ++ c) f) (partsOf a[p]) b = wkP (wk a f) (partsOf a[p]) b := wkP_congr _ _ fun q hq b => by
      obtain ⟨q0, q1⟩ := exParts_in hn h q hq
      obtain ⟨s, rfl⟩ := Int.eq_ofNat_of_zero_le q0
      exact wk_app hn c f s b (by omega)
    rw [this]
/-- the node x of the row a stands for the tree w -/
def Rep (a : List Nd) (x : Int) (w : Nat → List Nd) : Prop := ∃ u : Nat, x = (u : Int) ∧ u < a.length ∧ ∀ f b, u < f → wk a f (u : Int) b = w b
theorem Rep.app {a : List Nd} (hn : nodesOk a 0 = true) {x : Int} {w : Nat → List Nd} (h : Rep a x w) (c : List Nd) : Rep (a ++ c) x w := by
  obtain ⟨u, e, hu, hw⟩ := h
  exact ⟨u, e, by rw [List.length_append]; omega, fun f b hf => by rw [wk_app hn c f u b hu]; exact hw f b hf⟩
theorem Rep.self {a : List Nd} (hn : nodesOk a 0 = true) {p g : Nat} (hp : p < a.length) (hg : p < g) : Rep a (p : Int) (wk a g (p : Int)) :=
  ⟨p, rfl, hp, fun f b hf => wk_fuel hn f g p b hp hf hg⟩
/-- a node whose operands have other names -/
def rnm2 (n : Nd) (g : Int → Int) : Nd := (n.1, if arity n.1 > 0 then g n.2.1 else n.2.1, if arity n.1 > 1 then g n.2.2.1 else n.2.2.1, n.2.2.2)
theorem rnm2_parts (n : Nd) (g : Int → Int) : partsOf (rnm2 n g) = (partsOf n).map g := by
  unfold partsOf rnm2
  rcases arity_cases n.1 with ⟨h, _⟩ | ⟨h, _⟩ | ⟨h, _⟩ | ⟨h, _⟩ <;> simp [h]
theorem rnm2_put (n : Nd) (g : Int → Int) (is : List Int) : putN (rnm2 n g) is = putN n is := rfl
theorem wkP_map {w w' : Int → Nat → List Nd} {g : Int → Int} : ∀ (ps : List Int) (b : Nat), (∀ p ∈ ps, ∀ b, w (g p) b = w' p b) → wkP w (ps.map g) b = wkP w' ps b
  | [], b, h => rfl
  | p :: r, b, h => by
    have h1 := h p (by simp) b
    simp only [List.map_cons, wkP, h1]
    rw [wkP_map r _ fun q hq b => h q (by simp [hq]) b]
theorem rnm2_ok {n : Nd} {k m : Nat} {g : Int → Int} (h : nodeOk n (k : Int) = true) (hg : ∀ p ∈ partsOf n, 0 ≤ g p ∧ g p < m) : nodeOk (rnm2 n g) (m : Int) = true := by
  unfold partsOf at hg
  unfold nodeOk at h
  unfold nodeOk rnm2
  rcases arity_cases n.1 with ⟨ha, h1, h2⟩ | ⟨ha, h1, h2⟩ | ⟨ha, h1, h2⟩ | ⟨ha, h1, h2⟩
  · simp only [ha, h1, h2] at h ⊢
    split at h
    · rename_i c; rw [if_pos c]; simpa using h
    · rename_i c
      split at h
      · rename_i c'; rw [if_neg c, if_pos c']; simpa using h
      · simp at h
  · simp only [ha, h1, h2] at h ⊢
    split at h
    · rename_i c; rw [if_pos c]; simpa using h
    · rename_i c
      split at h
      · rename_i c'; rw [if_neg c, if_pos c']; simpa using h
      · simp at h
  · have n1 : n.1 ≠ tIn := fun e => by rw [e] at h1; revert h1; decide
    have n2 : n.1 ≠ tConst := fun e => by rw [e] at h1; revert h1; decide
    rw [if_neg n1, if_neg n2, if_pos h1] at h ⊢
    simp only [ha] at hg ⊢
    obtain ⟨g1, g2⟩ := hg n.2.1 (by simp)
    simp only [Bool.and_eq_true, inB_iff, decide_eq_true_iff] at h ⊢
    refine ⟨⟨⟨by simpa using g1, by simp; omega⟩, by simpa using h.1.2⟩, h.2⟩
  · obtain ⟨n1, n2, _⟩ := isTwo_not h2
    rw [if_neg n1, if_neg n2, if_neg (by simp [h1])] at h ⊢
    simp only [ha] at hg ⊢
    obtain ⟨g1, g2⟩ := hg n.2.1 (by simp)
    obtain ⟨g3, g4⟩ := hg n.2.2.1 (by simp)
    simp only [Bool.and_eq_true, inB_iff, decide_eq_true_iff] at h ⊢
    refine ⟨⟨⟨h2, ⟨by simpa using g1, by simp; omega⟩⟩, ⟨by simpa using g3, by simp; omega⟩⟩, h.2⟩
/-- a renamed node behind the row -/
theorem Rep.new {a : List Nd} (hn : nodesOk a 0 = true) {n : Nd} {k : Nat} (h : nodeOk n (k : Int) = true) {g : Int → Int} {w : Int → Nat → List Nd} (hg : ∀ p ∈ partsOf n, Rep a (g p) (w p)) :
    nodesOk (a ++ [rnm2 n g]) 0 = true ∧ Rep (a ++ [rnm2 n g]) (a.length : Int) (fun b => (wkP w (partsOf n) b).1 ++ [putN n (wkP w (partsOf n) b).2]) := by
  have hb : ∀ p ∈ partsOf n, 0 ≤ g p ∧ g p < a.length := fun p hp => by
    obtain ⟨u, e, hu, _⟩ := hg p hp
    omega
  have h2 : nodesOk (a ++ [rnm2 n g]) 0 = true := by
    rw [nodesOk_app, hn, Nat.zero_add]
    simp only [nodesOk, Bool.true_and, Bool.and_true]
    exact rnm2_ok h hb
  have hl : a.length < (a ++ [rnm2 n g]).length := by simp
  refine ⟨h2, a.length, rfl, hl, fun f b hf => ?_⟩
  obtain ⟨f, rfl⟩ : ∃ q, f = q + 1 := ⟨f - 1, by omega⟩
  rw [wk_at hl]
  have e1 : (a ++ [rnm2 n g])[a.length] = rnm2 n g := by simp
  rw [e1, rnm2_parts]
  have : wkP (wk (a ++ [rnm2 n g]) f) ((partsOf n).map g) b = wkP w (partsOf n) b := wkP_map _ _ fun p hp b => by
    obtain ⟨u, e, hu, hw⟩ := (hg p hp).app hn [rnm2 n g]
    have := (hb p hp).2
    rw [e]
    exact hw f b (by omega)
  rw [this, rnm2_put]
/-! ### the trees do not depend on the rounds -/
section
variable {e to : List Nd} {h : List Int}
theorem fil_fuel (hn : nodesOk to 0 = true) : ∀ (f g k b : Nat), k < to.length → k < f → k < g → fil e to h f (k : Int) b = fil e to h g (k : Int) b
  | 0, _, _, _, _, h, _ => by omega
  | _, 0, _, _, _, _, h => by omega
  | f + 1, g + 1, k, b, hk, hf, hg => by
    rw [fil_at hk, fil_at hk]
    have : wkP (fil e to h f) (partsOf to[k]) b = wkP (fil e to h g) (partsOf to[k]) b := wkP_congr _ _ fun p hp b => by
      obtain ⟨h0, h1⟩ := exParts_in hn hk p hp
      obtain ⟨q, rfl⟩ := Int.eq_ofNat_of_zero_le h0
      exact fil_fuel hn f g q b (by omega) (by omega) (by omega)
    rw [this]
theorem chg_fuel {i : Int} (hn : nodesOk e 0 = true) : ∀ (f g k b : Nat), k < e.length → k < f → k < g → chg e to h i f (k : Int) b = chg e to h i g (k : Int) b
  | 0, _, _, _, _, h, _ => by omega
  | _, 0, _, _, _, _, h => by omega
  | f + 1, g + 1, k, b, hk, hf, hg => by
    rw [chg_at hk, chg_at hk]
    have : wkP (chg e to h i f) (partsOf e[k]) b = wkP (chg e to h i g) (partsOf e[k]) b := wkP_congr _ _ fun p hp b => by
      obtain ⟨h0, h1⟩ := exParts_in hn hk p hp
      obtain ⟨q, rfl⟩ := Int.eq_ofNat_of_zero_le h0
      exact chg_fuel hn f g q b (by omega) (by omega) (by omega)
    rw [this]
/-- below the node that is changed, nothing is -/
theorem chg_low {i : Nat} (hn : nodesOk e 0 = true) : ∀ (f k b : Nat), k < e.length → k < i → chg e to h (i : Int) f (k : Int) b = wk e f (k : Int) b
  | 0, _, _, _, _ => rfl
  | f + 1, k, b, hk, hi => by
    rw [chg_at hk, wk_at hk, if_neg (by omega)]
    have : wkP (chg e to h (i : Int) f) (partsOf e[k]) b = wkP (wk e f) (partsOf e[k]) b := wkP_congr _ _ fun p hp b => by
      obtain ⟨h0, h1⟩ := exParts_in hn hk p hp
      obtain ⟨q, rfl⟩ := Int.eq_ofNat_of_zero_le h0
      exact chg_low hn f q b (by omega) (by omega)
    rw [this]
theorem chg_len {i : Int} (ht : treeOk e = true) (hto : treeOk to = true) (hf : Filled e to h) : ∀ (f j b : Nat), j < e.length → (chg e to h i f (j : Int) b).length ≤ 576 * szT e j
  | 0, j, b, _ => by simp [chg]
  | f + 1, j, b, hj => by
    obtain ⟨n1, n2, n3, n4⟩ := treeOk_parts ht
    obtain ⟨m1, m2, m3, m4⟩ := treeOk_parts hto
    have h1 := szT_pos n1 hj
    rw [chg_at hj]
    by_cases c : (j : Int) = i
    · rw [if_pos c]
      have h2 := fil_len ht m1 hf 25 (to.length - 1) b (by omega)
      have h3 := szT_le (by omega) m1 m4 (i := to.length - 1) (by omega)
      omega
    · rw [if_neg c]
      have := wkP_sum (w := chg e to h i f) (S := fun p => 576 * szT e p.toNat) (partsOf e[j]) b (fun p hp b => by
        obtain ⟨p0, p1⟩ := exParts_in n1 hj p hp
        obtain ⟨q, rfl⟩ := Int.eq_ofNat_of_zero_le p0
        exact chg_len ht hto hf f q b (by omega))
      have := parts_sum n1 hj 576
      rw [List.length_append, List.length_singleton]
      omega
end
end Go.Proofs.Ytohfaccniialmaa.Am
end
section
/- Trees in the order of their walk: they are right again. -/
namespace Go.Proofs.Ytohfaccniialmaa.Am
open Go
set_option linter.unusedVariables false
set_option linter.unusedSimpArgs false
/-- the nodes of a tree in the order of its walk, behind b nodes -/
inductive Tr : Nat → List Nd → Prop
  | leaf (b : Nat) (n : Nd) (h : nodeOk n 0 = true) : Tr b [n]
  | one (b : Nat) (p : List Nd) (s : ByteArray) (hs : isOne s = true) (hp : Tr b p) : Tr b (p ++ [(s, ((b + p.length : Nat) : Int) - 1, 0, 0)])
  | two (b : Nat) (p q : List Nd) (s : ByteArray) (hs : isTwo s = true) (hp : Tr b p) (hq : Tr (b + p.length) q) : Tr b (p ++ q ++ [(s, ((b + p.length : Nat) : Int) - 1, ((b + p.length + q.length : Nat) : Int) - 1, 0)])
theorem Tr.pos {b : Nat} {l : List Nd} (h : Tr b l) : 1 ≤ l.length := by cases h <;> simp <;> omega
theorem nodeOk_leaf {n : Nd} (h : nodeOk n 0 = true) (i : Int) : nodeOk n i = true ∧ partsOf n = [] := by
  unfold nodeOk at h ⊢
  unfold partsOf
  rcases arity_cases n.1 with ⟨ha, h1, h2⟩ | ⟨ha, h1, h2⟩ | ⟨ha, h1, h2⟩ | ⟨ha, h1, h2⟩ <;> simp only [ha, h1, h2] at h ⊢
  · split at h
    · rename_i c; rw [if_pos c]; exact ⟨h, by simp⟩
    · split at h
      · rename_i c; rw [if_pos c]; exact ⟨by split <;> simp_all, by simp⟩
      · simp at h
  · split at h
    · rename_i c; rw [if_pos c]; exact ⟨h, by simp⟩
    · split at h
      · rename_i c; rw [if_pos c]; exact ⟨by split <;> simp_all, by simp⟩
      · simp at h
  · have n1 : n.1 ≠ tIn := fun e => by rw [e] at h1; revert h1; decide
    have n2 : n.1 ≠ tConst := fun e => by rw [e] at h1; revert h1; decide
    rw [if_neg n1, if_neg n2] at h
    simp only [if_true, Bool.and_eq_true, inB_iff] at h
    omega
  · obtain ⟨n1, n2, _⟩ := isTwo_not h2
    rw [if_neg n1, if_neg n2] at h
    simp only [Bool.false_eq_true, if_false, Bool.true_and, Bool.and_eq_true, inB_iff] at h
    omega
theorem isOne_not {s : ByteArray} (h : isOne s = true) : s ≠ tIn ∧ s ≠ tConst := ⟨fun e => by rw [e] at h; revert h; decide, fun e => by rw [e] at h; revert h; decide⟩
theorem Tr.ok {b : Nat} {l : List Nd} (h : Tr b l) : nodesOk l b = true := by
  induction h with
  | leaf b n h => simp only [nodesOk, (nodeOk_leaf h b).1, Bool.and_true]
  | one b p s hs hp ih =>
    have := hp.pos
    obtain ⟨n1, n2⟩ := isOne_not hs
    rw [nodesOk_app, ih]
    simp only [nodesOk, Bool.and_true, Bool.true_and, nodeOk]
    rw [if_neg n1, if_neg n2, if_pos hs]
    simp only [decide_true, Bool.and_true, inB_iff]
    omega
  | two b p q s hs hp hq ih1 ih2 =>
    have := hp.pos
    have := hq.pos
    obtain ⟨n1, n2, n3⟩ := isTwo_not hs
    rw [nodesOk_app, nodesOk_app, ih1, ih2]
    simp only [nodesOk, Bool.and_true, Bool.true_and, nodeOk, List.length_append]
    rw [if_neg n1, if_neg n2, if_neg (by simp [n3]), hs]
    simp only [decide_true, Bool.and_true, Bool.true_and, Bool.and_eq_true, inB_iff]
    omega
theorem opsOfL_app (a b : List Nd) : opsOfL (a ++ b) = opsOfL a ++ opsOfL b := by unfold opsOfL; rw [List.flatMap_append]
theorem pN_one {s : ByteArray} (hs : isOne s = true) (a c v : Int) : pN (s, a, c, v) = [a.toNat] := by
  unfold pN partsOf; rw [arity_one hs]; rfl
theorem pN_two {s : ByteArray} (hs : isTwo s = true) (a c v : Int) : pN (s, a, c, v) = [a.toNat, c.toNat] := by
  unfold pN partsOf; rw [arity_two hs]; rfl
/-- each node but the root is an operand once -/
theorem Tr.count {b : Nat} {l : List Nd} (h : Tr b l) (j : Nat) : (opsOfL l).count j = if b ≤ j ∧ j + 1 < b + l.length then 1 else 0 := by
  induction h with
  | leaf b n h =>
    have : pN n = [] := by unfold pN; rw [(nodeOk_leaf h 0).2]; rfl
    simp [opsOfL, this]
    try omega
  | one b p s hs hp ih =>
    have := hp.pos
    rw [opsOfL_app, List.count_append, ih]
    simp only [opsOfL, List.flatMap_cons, List.flatMap_nil, List.append_nil, pN_one hs, List.length_append, List.length_singleton]
    rw [List.count_singleton]
    simp only [beq_iff_eq]
    split <;> split <;> split <;> omega
  | two b p q s hs hp hq ih1 ih2 =>
    have := hp.pos
    have := hq.pos
    rw [opsOfL_app, opsOfL_app, List.count_append, List.count_append, ih1, ih2]
    simp only [opsOfL, List.flatMap_cons, List.flatMap_nil, List.append_nil, pN_two hs, List.length_append, List.length_singleton]
    rw [List.count_cons, List.count_singleton]
    simp only [beq_iff_eq]
    split <;> split <;> split <;> split <;> split <;> omega
theorem Tr.tree {l : List Nd} (h : Tr 0 l) (hl : l.length ≤ 24) : treeOk l = true := by
  have h1 := h.ok
  have h0 := h.pos
  have hu : ∀ j (hj : j < l.length), (usesOf l)[j]? = some (if j + 1 < l.length then 1 else 0) := fun j hj => by
    rw [usesOf_get (by omega) (nodesOk_parts h1) hj, h.count j]
    simp only [Nat.zero_le, true_and, Nat.zero_add]
    split <;> rfl
  have hlen := usesOf_len l
  unfold treeOk exprOk
  rw [h1]
  have e1 : inB l.length 1 24 = true := by rw [inB_iff]; omega
  have e2 : allUsed l = true := by
    unfold allUsed
    rw [Bool.not_eq_true', decide_eq_false_iff_not]
    intro hm
    obtain ⟨j, hj, ej⟩ := List.getElem_of_mem hm
    rw [List.length_take] at hj
    rw [List.getElem_take] at ej
    have := hu j (by omega)
    rw [List.getElem?_eq_getElem (by omega), ej, if_pos (by omega)] at this
    cases this
  have e3 : once l = true := by
    unfold once
    rw [List.all_eq_true]
    intro x hx
    obtain ⟨j, hj, ej⟩ := List.getElem_of_mem hx
    have := hu j (by omega)
    rw [List.getElem?_eq_getElem hj, ej] at this
    rw [decide_eq_true_iff, Option.some.inj this]
    split <;> omega
  rw [e1, e2, e3]; rfl
theorem node_tr {n : Nd} {i : Nat} (h : nodeOk n (i : Int) = true) {w : Int → Nat → List Nd} (hw : ∀ p ∈ partsOf n, ∀ b, Tr b (w p b)) (b : Nat) : Tr b ((wkP w (partsOf n) b).1 ++ [putN n (wkP w (partsOf n) b).2]) := by
  unfold nodeOk at h
  rcases arity_cases n.1 with ⟨ha, h1, h2⟩ | ⟨ha, h1, h2⟩ | ⟨ha, h1, h2⟩ | ⟨ha, h1, h2⟩
  · have hp : partsOf n = [] := by unfold partsOf; rw [ha]; simp
    rw [hp]
    refine Tr.leaf b _ ?_
    unfold nodeOk putN
    simp only [h1, h2] at h ⊢
    split at h
    · rename_i c; rw [if_pos c]; simp only [Bool.and_eq_true] at h; simp [wkP, h.2]
    · split at h
      · rename_i c c2; rw [if_neg c, if_pos c2]; simp only [Bool.and_eq_true] at h; simp [wkP, h.2]
      · simp at h
  · have hp : partsOf n = [] := by unfold partsOf; rw [ha]; simp
    rw [hp]
    refine Tr.leaf b _ ?_
    unfold nodeOk putN
    simp only [h1, h2] at h ⊢
    split at h
    · rename_i c; rw [if_pos c]; simp only [Bool.and_eq_true] at h; simp [wkP, h.2]
    · split at h
      · rename_i c c2; rw [if_neg c, if_pos c2]; simp only [Bool.and_eq_true] at h; simp [wkP, h.2]
      · simp at h
  · obtain ⟨n1, n2⟩ := isOne_not h1
    rw [if_neg n1, if_neg n2, if_pos h1] at h
    simp only [Bool.and_eq_true, decide_eq_true_iff] at h
    have hp : partsOf n = [n.2.1] := by unfold partsOf; rw [ha]; simp
    rw [hp] at hw ⊢
    have := Tr.one b (w n.2.1 b) n.1 h1 (hw _ (by simp) b)
    simpa [wkP, putN, h.2] using this
  · obtain ⟨n1, n2, n3⟩ := isTwo_not h2
    rw [if_neg n1, if_neg n2, if_neg (by simp [n3])] at h
    simp only [Bool.and_eq_true, decide_eq_true_iff] at h
    have hp : partsOf n = [n.2.1, n.2.2.1] := by unfold partsOf; rw [ha]; simp
    rw [hp] at hw ⊢
    have := Tr.two b (w n.2.1 b) (w n.2.2.1 (b + (w n.2.1 b).length)) n.1 h2 (hw _ (by simp) b) (hw _ (by simp) _)
    simpa [wkP, putN, h.2, List.append_assoc] using this
theorem wk_tr {e : List Nd} (hn : nodesOk e 0 = true) : ∀ (f i b : Nat), i < e.length → i < f → Tr b (wk e f (i : Int) b)
  | 0, i, b, _, h => by omega
  | f + 1, i, b, hi, hf => by
    rw [wk_at hi]
    have := nodesOk_get e 0 hn i hi
    exact node_tr this (fun p hp b => by
      obtain ⟨p0, p1⟩ := exParts_in hn hi p hp
      obtain ⟨q, rfl⟩ := Int.eq_ofNat_of_zero_le p0
      exact wk_tr hn f q b (by omega) (by omega)) b
section
variable {e to : List Nd} {h : List Int}
theorem fil_tr (ht : treeOk e = true) (hn : nodesOk to 0 = true) (hf : Filled e to h) : ∀ (f k b : Nat), k < to.length → k < f → Tr b (fil e to h f (k : Int) b)
  | 0, k, b, _, h => by omega
  | f + 1, k, b, hk, hkf => by
    rw [fil_at hk]
    by_cases c : to[k].1 = tIn
    · obtain ⟨u, hu, _, _, hg⟩ := hole_get hf hk c
      rw [if_pos c, hg]
      obtain ⟨n1, n2, n3, _⟩ := treeOk_parts ht
      exact wk_tr n1 25 u b hu (by omega)
    · rw [if_neg c]
      have := nodesOk_get to 0 hn k hk
      exact node_tr this (fun p hp b => by
        obtain ⟨p0, p1⟩ := exParts_in hn hk p hp
        obtain ⟨q, rfl⟩ := Int.eq_ofNat_of_zero_le p0
        exact fil_tr ht hn hf f q b (by omega) (by omega)) b
theorem chg_tr {i : Int} (ht : treeOk e = true) (hto : treeOk to = true) (hf : Filled e to h) : ∀ (f k b : Nat), k < e.length → k < f → Tr b (chg e to h i f (k : Int) b)
  | 0, k, b, _, h => by omega
  | f + 1, k, b, hk, hkf => by
    obtain ⟨n1, n2, n3, _⟩ := treeOk_parts ht
    obtain ⟨m1, m2, m3, _⟩ := treeOk_parts hto
    rw [chg_at hk]
    by_cases c : (k : Int) = i
    · rw [if_pos c]
      exact fil_tr ht m1 hf 25 (to.length - 1) b (by omega) (by omega)
    · rw [if_neg c]
      have := nodesOk_get e 0 n1 k hk
      exact node_tr this (fun p hp b => by
        obtain ⟨p0, p1⟩ := exParts_in n1 hk p hp
        obtain ⟨q, rfl⟩ := Int.eq_ofNat_of_zero_le p0
        exact chg_tr ht hto hf f q b (by omega) (by omega)) b
end
end Go.Proofs.Ytohfaccniialmaa.Am
end
section
/- A rule at a node: the reference. -/
namespace Go.Proofs.Ytohfaccniialmaa.Am
open Go
set_option linter.unusedVariables false
set_option linter.unusedSimpArgs false
theorem matchR_eq {r : Rl} {e : List Nd} {i : Int} (h : (matchR r e i).2 = true) : (matchR r e i).1 = (mRoot r e i).2 ∧ (mRoot r e i).1 = true := by
  unfold matchR at h ⊢
  split at h
  · rename_i c
    rw [if_pos c]
    split at h
    · rename_i s; rw [if_pos s]; exact ⟨rfl, c⟩
    · rename_i s
      rw [if_neg s]
      split at h
      · rename_i n hn
        split at h
        · rename_i q; rw [if_pos q]; exact ⟨rfl, c⟩
        · cases h
      · cases h
  · cases h
theorem hasH_of {l : List Nd} (hn : nodesOk l 0 = true) {k : Nat} (hk : k < l.length) (c : l[k].1 = tIn) : ∃ v : Nat, v < 2 ∧ l[k].2.2.2 = (v : Int) ∧ hasH l (v : Int) = true := by
  have hp := nodesOk_get l 0 hn k hk
  obtain ⟨v, hv, ev⟩ := hole_val hp c
  refine ⟨v, hv, ev, ?_⟩
  unfold hasH
  rw [List.any_eq_true]
  refine ⟨l[k], List.getElem_mem hk, nodeEq_iff.2 ?_⟩
  unfold nodeOk at hp
  rw [if_pos c] at hp
  simp only [Bool.and_eq_true, decide_eq_true_iff] at hp
  rw [← c, ← ev]
  exact Prod.ext rfl (Prod.ext hp.1.1.symm (Prod.ext hp.1.2.symm rfl))
/-- where a rule matches, the holes of its new side are nodes -/
theorem filled_of {r : Rl} (hr : ruleOk r = true) {e : List Nd} (ht : treeOk e = true) {i : Nat} (hi : i < e.length) (h : (matchR r e i).2 = true) : Filled e r.2.1 (matchR r e i).1 := by
  obtain ⟨h1, h2⟩ := matchR_eq h
  obtain ⟨n1, n2, n3, n4⟩ := treeOk_parts ht
  obtain ⟨_, w2, _, tl⟩ := ruleOk_parts hr
  have hh : HOk e.length (mRoot r e i).2 := matchP_ok n1 24 _ i _ hi (mHOk _)
  obtain ⟨m1, _, _⟩ := walked_expr w2
  rw [h1]
  intro k hk c
  obtain ⟨v, hv, ev, hb⟩ := hasH_of m1 hk c
  have hf : hasH r.1 (v : Int) = true := by
    unfold tailOk at tl
    simp only [Bool.and_eq_true, Bool.or_eq_true, Bool.not_eq_true'] at tl
    match v, hv with
    | 0, _ =>
      rcases tl.1 with q | q
      · exact q
      · have hb : hasH r.2.1 0 = true := hb
        rw [q] at hb; cases hb
    | 1, _ =>
      rcases tl.2 with q | q
      · exact q
      · have hb : hasH r.2.1 1 = true := hb
        rw [q.1] at hb; cases hb
  have hb2 := bound_of hr n1 hi h2 hf
  obtain ⟨g1, g2, g3⟩ := hh.get hv
  rw [← hh.get' hv] at hb2
  refine ⟨((mRoot r e i).2.getD v 0).toNat, by omega, by omega, ?_⟩
  rw [ev, Int.toNat_natCast, g1]
  congr 1
  omega
section
variable {e to : List Nd} {h : List Int} {i : Int}
theorem changed_v (ht : treeOk e = true) (hto : treeOk to = true) (hf : Filled e to h) : ∀ (f j : Nat) (t : List Nd), j < e.length → j < f → t.length + 576 * szT e j ≤ 100000 →
    spec_ruTree_changed.v e (j : Int) i to h t = some (((t.length + (chg e to h i f (j : Int) t.length).length : Nat) : Int) - 1, ((), t ++ chg e to h i f (j : Int) t.length))
  | 0, j, t, _, hf, _ => by omega
  | f + 1, j, t, hj, hjf, hl => by
    obtain ⟨n1, n2, n3, n4⟩ := treeOk_parts ht
    obtain ⟨m1, m2, m3, m4⟩ := treeOk_parts hto
    have hz := szT_le (by omega) m1 m4 (i := to.length - 1) (by omega)
    have hp := szT_pos n1 hj
    refine spec_ruTree_changed.vs _ _ _ _ _ _ ?_
    rw [chg_at hj]
    by_cases c : (j : Int) = i
    · rw [if_pos c, br_t (by simpa using c), last_wrap m2 (by omega), filled_v ht m1 hf 25 (to.length - 1) t (by omega) (by omega) (by omega), bd_s]
    · rw [if_neg c, br_f (by simpa using c), br_t (by simp), Int.toNat_natCast, gt_at _ hj, exParts_v, bd_s]
      have hs := parts_sum n1 hj 576
      have := changed_parts (e := e) (to := to) (h := h) (i := i) (ps := partsOf e[j]) hj (chg e to h i f) (fun p => 576 * szT e p.toNat) (parts_le _) (fun p hp t' ht' => by
        obtain ⟨p0, p1⟩ := exParts_in n1 hj p hp
        obtain ⟨q, rfl⟩ := Int.eq_ofNat_of_zero_le p0
        exact ⟨changed_v ht hto hf f q t' (by omega) (by omega) (by simpa using ht'), chg_len ht hto hf f q _ (by omega)⟩) (partsOf e[j]).length 0 t [] (by omega) (by rw [List.drop_zero]; omega) (by simp)
      rw [List.drop_zero] at this
      refine this.trans ?_
      simp only [List.nil_append, List.length_append, List.length_singleton, List.append_assoc]
      congr 2
      omega
theorem changedN_v (ht : treeOk e = true) (hto : treeOk to = true) (hf : Filled e to h) {f j : Nat} (hj : j < e.length) (hjf : j ≤ f) (hl : 576 * szT e j ≤ 100000) :
    spec_ruTree_changed_nil.v e (j : Int) i to h = some ((((chg e to h i (f + 1) (j : Int) 0).length : Nat) : Int) - 1, ((), chg e to h i (f + 1) (j : Int) 0)) := by
  obtain ⟨n1, n2, n3, n4⟩ := treeOk_parts ht
  obtain ⟨m1, m2, m3, m4⟩ := treeOk_parts hto
  have hz := szT_le (by omega) m1 m4 (i := to.length - 1) (by omega)
  refine spec_ruTree_changed_nil.vs _ _ _ _ _ ?_
  rw [chg_at hj]
  by_cases c : (j : Int) = i
  · rw [if_pos c, br_t (by simpa using c), last_wrap m2 (by omega), filledN_v ht m1 hf (f := 24) (k := to.length - 1) (by omega) (by omega) (by omega), bd_s]
  · rw [if_neg c, br_f (by simpa using c), br_t (by simp), Int.toNat_natCast, gt_at _ hj, exParts_v, bd_s]
    have hs := parts_sum n1 hj 576
    have := changedN_parts (e := e) (to := to) (h := h) (i := i) (ps := partsOf e[j]) hj (chg e to h i f) (fun p => 576 * szT e p.toNat) (parts_le _) (fun p hp t' ht' => by
      obtain ⟨p0, p1⟩ := exParts_in n1 hj p hp
      obtain ⟨q, rfl⟩ := Int.eq_ofNat_of_zero_le p0
      exact ⟨changed_v ht hto hf f q t' (by omega) (by omega) (by simpa using ht'), chg_len ht hto hf f q _ (by omega)⟩) (partsOf e[j]).length 0 [] [] (by omega) (by rw [List.drop_zero, List.length_nil]; omega) (by simp)
    rw [List.drop_zero] at this
    refine this.trans ?_
    simp only [List.nil_append, List.length_append, List.length_singleton, List.length_nil]
    congr 2
    omega
end
/-- the whole tree, changed at the node i -/
noncomputable abbrev chgR (r : Rl) (e : List Nd) (i : Int) : List Nd := chg e r.2.1 (matchR r e i).1 i 25 ((e.length - 1 : Nat) : Int) 0
/-- what a rule makes of a tree at a node -/
noncomputable def rewR (r : Rl) (e : List Nd) (i : Int) : List Nd × Bool :=
  if (matchR r e i).2 = true then if (chgR r e i).length ≤ 24 then (chgR r e i, true) else ([], false) else ([], false)
theorem ruAt_v {r : Rl} (hr : ruleOk r = true) {e : List Nd} (ht : treeOk e = true) {i : Nat} (hi : i < e.length) : spec_ruAt.v r e (i : Int) = some (rewR r e i, ()) := by
  obtain ⟨n1, n2, n3, n4⟩ := treeOk_parts ht
  obtain ⟨_, w2, _, _⟩ := ruleOk_parts hr
  have hz := szT_le (by omega) n1 n4 (i := e.length - 1) (by omega)
  refine spec_ruAt.vs _ _ _ ?_
  rw [ruMatch_v hr ht hi, bd_s]
  unfold rewR
  by_cases m : (matchR r e i).2 = true
  · rw [if_pos m, br_f (by rw [m]; rfl), last_wrap n2 (by omega), changedN_v ht (walked_tree w2) (filled_of hr ht hi m) (f := 24) (j := e.length - 1) (by omega) (by omega) (by omega), bd_s]
    show br (decide (((chgR r e i).length : Int) > 24)) (some (([], false), ())) (some ((chgR r e i, true), ())) = _
    by_cases c : (chgR r e i).length ≤ 24
    · rw [if_pos c, br_f (by simp only [decide_eq_false_iff_not]; omega)]
    · rw [if_neg c, br_t (by simp only [decide_eq_true_iff]; omega)]
  · rw [if_neg m, br_t (by rw [Bool.not_eq_true] at m; rw [m]; rfl)]
noncomputable def rewriteAtP (r : Rl) (e : List Nd) (i : Int) : List Nd × Bool := if placeOk r e i = true then rewR r e i else ([], false)
end Go.Proofs.Ytohfaccniialmaa.Am
end
section
/- A rule at a node: the program. -/
namespace Go.Proofs.Ytohfaccniialmaa.Am
open Go
set_option linter.unusedVariables false
set_option linter.unusedSimpArgs false
theorem nodesOk_at' {e : List Nd} (h : nodesOk e 0 = true) {k : Nat} (hk : k < e.length) : nodeOk e[k] (k : Int) = true := by
  have := nodesOk_get e 0 h k hk
  rwa [Nat.zero_add] at this
theorem clone_f (e : List Nd) (h : e.length ≤ 1000) : slices_Clone_Node.f e = some (e, ()) := by
  rw [slices_Clone_Node.eq]
  have hr : decide ((0 + e.length) ≤ (35184372088832 / (40 + 1))) = true := decide_eq_true (by omega)
  rw [br_t hr, List.nil_append]
  cases e with
  | nil => rw [br_f (by rfl)]; exact both_same _
  | cons a l => rw [br_t (by simp)]
theorem renamed_v {n : Nd} {ns : List Int} (h : ∀ p ∈ partsOf n, 0 ≤ p ∧ p < ns.length) : impl_Node_renamed.v n ns = some (rnm2 n (fun p => ns.getD p.toNat 0)) := by
  have g : ∀ p : Int, 0 ≤ p → ∀ hp : p.toNat < ns.length, ns.getD p.toNat 0 = ns[p.toNat] := fun p _ hp => by
    rw [List.getD_eq_getElem?_getD, List.getElem?_eq_getElem hp]; rfl
  refine impl_Node_renamed.vs _ _ ?_
  rw [operands_v, bd_s]
  unfold partsOf at h
  unfold rnm2
  rcases arity_cases n.1 with ⟨ha, _⟩ | ⟨ha, _⟩ | ⟨ha, _⟩ | ⟨ha, _⟩ <;> rw [ha] at h ⊢
  · rw [br_f (by decide), br_f (by decide)]; rfl
  · rw [br_f (by decide), br_f (by decide)]; rfl
  · obtain ⟨h0, h1⟩ := h n.2.1 (by simp)
    have hp : n.2.1.toNat < ns.length := by omega
    rw [br_t (by decide), br_t (by simpa using h0), gt_at _ hp, br_f (by decide), ← g _ h0 hp]; rfl
  · obtain ⟨h0, h1⟩ := h n.2.1 (by simp)
    obtain ⟨h2, h3⟩ := h n.2.2.1 (by simp)
    have hp : n.2.1.toNat < ns.length := by omega
    have hq : n.2.2.1.toNat < ns.length := by omega
    rw [br_t (by decide), br_t (by simpa using h0), gt_at _ hp, br_t (by decide), br_t (by simpa using h2), gt_at _ hq, ← g _ h0 hp, ← g _ h2 hq]; rfl
/-- the names of the first k nodes stand for their trees -/
def Named (all : List Nd) (ns : List Int) (k : Nat) (w : Int → Nat → List Nd) : Prop := ∀ m : Nat, m < k → ∃ x, ns[m]? = some x ∧ Rep all x (w (m : Int))
theorem Named.app {all : List Nd} {ns : List Int} {k : Nat} {w : Int → Nat → List Nd} (h : Named all ns k w) (hn : nodesOk all 0 = true) (c : List Nd) : Named (all ++ c) ns k w := fun m hm => by
  obtain ⟨x, h1, h2⟩ := h m hm
  exact ⟨x, h1, h2.app hn c⟩
theorem Named.set {all : List Nd} {ns : List Int} {k : Nat} {w : Int → Nat → List Nd} (h : Named all ns k w) (hk : k < ns.length) {x : Int} (hx : Rep all x (w (k : Int))) : Named all (ns.set k x) (k + 1) w := fun m hm => by
  rw [List.getElem?_set]
  by_cases c : k = m
  · subst c
    rw [if_pos rfl, if_pos hk]
    exact ⟨x, rfl, hx⟩
  · rw [if_neg c]
    exact h m (by omega)
theorem Named.new {all : List Nd} {ns : List Int} {k : Nat} {w : Int → Nat → List Nd} (h : Named all ns k w) (hk : k < ns.length) (hn : nodesOk all 0 = true) {n : Nd} (hnode : nodeOk n (k : Int) = true) (hw : ∀ b, w (k : Int) b = (wkP w (partsOf n) b).1 ++ [putN n (wkP w (partsOf n) b).2]) :
    ∃ r, impl_Node_renamed.v n (ns.set k (all.length : Int)) = some r ∧ nodesOk (all ++ [r]) 0 = true ∧ Named (all ++ [r]) (ns.set k (all.length : Int)) (k + 1) w := by
  have hp := nodeOk_parts hnode
  have hg : ∀ p ∈ partsOf n, Rep all ((ns.set k (all.length : Int)).getD p.toNat 0) (w p) := fun p hp' => by
    obtain ⟨p0, p1⟩ := hp p hp'
    obtain ⟨q, rfl⟩ := Int.eq_ofNat_of_zero_le p0
    obtain ⟨x, h1, h2⟩ := h q (by omega)
    rw [Int.toNat_natCast, List.getD_eq_getElem?_getD, List.getElem?_set, if_neg (by omega), h1]
    exact h2
  obtain ⟨r1, r2⟩ := Rep.new hn hnode (w := w) hg
  refine ⟨_, renamed_v (fun p hp' => by
    obtain ⟨p0, p1⟩ := hp p hp'
    rw [List.length_set]; omega), r1, (h.app hn _).set hk ?_⟩
  have : w (k : Int) = (fun b => (wkP w (partsOf n) b).1 ++ [putN n (wkP w (partsOf n) b).2]) := funext hw
  rw [this]
  exact r2
section
variable {e to : List Nd} {h : List Int}
/-- the rounds over the nodes of the new side -/
theorem names_v {i : Int} {l1 l2 : List Nd} {s : ByteArray} (ht : treeOk e = true) (hto : treeOk to = true) (hf : Filled e to h) {Q : (List Nd × Bool) × Unit → Prop} (next : ∀ (N : List Nd) (ns : List Int), N.length ≤ to.length → nodesOk (e ++ N) 0 = true → ns.length = to.length → Named (e ++ N) ns to.length (fil e to h 25) →
      ∃ R, Q R ∧ impl_rewritten.v1 e i e (e.length : Int) 0 l1 l2 s (e ++ N) ns (List.replicate e.length 0) = some R) :
    ∀ (d k : Nat) (N : List Nd) (ns : List Int), k + d = to.length → N.length ≤ k → nodesOk (e ++ N) 0 = true → ns.length = to.length → Named (e ++ N) ns k (fil e to h 25) →
      ∃ R, Q R ∧ impl_rewritten.v0 e i h to (to.length : Int) (k : Int) l1 l2 s (e ++ N) ns = some R := by
  obtain ⟨n1, n2, n3, _⟩ := treeOk_parts ht
  obtain ⟨m1, m2, m3, _⟩ := treeOk_parts hto
  intro d
  induction d with
  | zero =>
    intro k N ns hk hN hok hl hm
    obtain rfl : k = to.length := by omega
    obtain ⟨R, hQ, hR⟩ := next N ns hN hok hl hm
    refine ⟨R, hQ, impl_rewritten.v0s _ _ _ _ _ _ _ _ _ _ _ ?_⟩
    rw [br_f (by simp), br_t (by simp), br_t (by simp; omega), Int.toNat_natCast]
    exact hR
  | succ d ih =>
    intro k N ns hk hN hok hl hm
    have hlt : k < to.length := by omega
    have hn := next_ok k _ hlt (by omega)
    by_cases c : to[k].1 = tIn
    · obtain ⟨u, hu, h0, hg, hg2⟩ := hole_get hf hlt c
      have hfe : fil e to h 25 (k : Int) = wk e 25 (u : Int) := funext fun b => by rw [fil_at hlt, if_pos c, hg2]
      obtain ⟨R, hQ, hR⟩ := ih (k + 1) N _ (by omega) (by omega) hok (by rw [List.length_set]; exact hl) (hm.set (x := (u : Int)) (by omega) (by rw [hfe]; exact (Rep.self n1 hu (by omega)).app n1 N))
      refine ⟨R, hQ, impl_rewritten.v0s _ _ _ _ _ _ _ _ _ _ _ ?_⟩
      rw [br_t (by simpa using hlt), br_t (by simp), Int.toNat_natCast, gt_at _ hlt, hn, br_t (seq_t c), br_t (by simpa using h0), gt_some hg, br_t (by simp), br_t (by simp; omega), gt_at _ (by omega)]
      exact hR
    · obtain ⟨r, k1, k2, k3⟩ := hm.new (by omega) hok (nodesOk_at' m1 hlt) (fun b => by
        rw [fil_fuel m1 25 26 k b hlt (by omega) (by omega), fil_at hlt, if_neg c])
      have hr : decide (((e ++ N).length + (List.length (r :: []))) ≤ (35184372088832 / (40 + 1))) = true := decide_eq_true (by simp; omega)
      obtain ⟨R, hQ, hR⟩ := ih (k + 1) (N ++ [r]) (ns.set k ((e ++ N).length : Int)) (by omega) (by simp; omega) (by rw [← List.append_assoc]; exact k2) (by rw [List.length_set]; exact hl) (by rw [← List.append_assoc]; exact k3)
      rw [← List.append_assoc] at hR
      refine ⟨R, hQ, impl_rewritten.v0s _ _ _ _ _ _ _ _ _ _ _ ?_⟩
      rw [br_t (by simpa using hlt), br_t (by simp), Int.toNat_natCast, gt_at _ hlt, hn, br_f (seq_f c), br_t (by simp), br_t (by simp; omega), gt_at _ (by omega), k1, bd_s, br_t hr]
      exact hR
/-- the rounds over the nodes of the tree -/
theorem moved_v {i : Nat} {l1 : List Nd} {s : ByteArray} {ns : List Int} (hi : i < e.length) (ht : treeOk e = true) (hto : treeOk to = true) (hf : Filled e to h) (hnl : ns.length = to.length) {Q : (List Nd × Bool) × Unit → Prop} (next : ∀ (N : List Nd) (mv : List Int), N.length ≤ to.length + e.length → nodesOk (e ++ N) 0 = true → mv.length = e.length → Named (e ++ N) mv e.length (chg e to h (i : Int) 25) →
      ∃ R, Q R ∧ impl_rewritten.v1 e (i : Int) e (e.length : Int) (e.length : Int) l1 to s (e ++ N) ns mv = some R) :
    ∀ (d k : Nat) (N : List Nd) (mv : List Int), k + d = e.length → N.length ≤ to.length + k → nodesOk (e ++ N) 0 = true → mv.length = e.length → Named (e ++ N) ns to.length (fil e to h 25) → Named (e ++ N) mv k (chg e to h (i : Int) 25) →
      ∃ R, Q R ∧ impl_rewritten.v1 e (i : Int) e (e.length : Int) (k : Int) l1 to s (e ++ N) ns mv = some R := by
  obtain ⟨n1, n2, n3, _⟩ := treeOk_parts ht
  obtain ⟨m1, m2, m3, _⟩ := treeOk_parts hto
  intro d
  induction d with
  | zero =>
    intro k N mv hk hN hok hl hns hm
    obtain rfl : k = e.length := by omega
    exact next N mv (by omega) hok hl hm
  | succ d ih =>
    intro k N mv hk hN hok hl hns hm
    have hlt : k < e.length := by omega
    have hset : k < (mv.set k (k : Int)).length := by rw [List.length_set]; omega
    have hn := next_ok k _ hlt (by omega)
    by_cases c : (k : Int) = (i : Int)
    · obtain ⟨x, hx, hrep⟩ := hns (to.length - 1) (by omega)
      have hfe : chg e to h (i : Int) 25 (k : Int) = fil e to h 25 ((to.length - 1 : Nat) : Int) := funext fun b => by rw [chg_at hlt, if_pos c]
      obtain ⟨R, hQ, hR⟩ := ih (k + 1) N _ (by omega) (by omega) hok (by rw [List.length_set]; exact hl) hns (hm.set (x := x) (by omega) (by rw [hfe]; exact hrep))
      refine ⟨R, hQ, impl_rewritten.v1s _ _ _ _ _ _ _ _ _ _ _ ?_⟩
      rw [br_t (by simpa using hlt), br_t (by simp), Int.toNat_natCast, gt_at _ hlt, br_t (by simp), br_t (by simp; omega), gt_at _ (by omega), hn, last_wrap m2 (by omega), Int.toNat_natCast, br_t (by simpa using c), br_t (by simp), br_t (by simp; omega), gt_some hx, br_t (by simp), br_t (by simp; omega), gt_at _ hset, List.set_set]
      exact hR
    · by_cases c1 : (k : Int) > (i : Int)
      · by_cases c2 : arity e[k].1 > 0
        · obtain ⟨r, k1, k2, k3⟩ := hm.new (by omega) hok (nodesOk_at' n1 hlt) (fun b => by
            rw [chg_fuel n1 25 26 k b hlt (by omega) (by omega), chg_at hlt, if_neg c])
          have hr : decide (((e ++ N).length + (List.length (r :: []))) ≤ (35184372088832 / (40 + 1))) = true := decide_eq_true (by simp; omega)
          obtain ⟨R, hQ, hR⟩ := ih (k + 1) (N ++ [r]) (mv.set k ((e ++ N).length : Int)) (by omega) (by simp; omega) (by rw [← List.append_assoc]; exact k2) (by rw [List.length_set]; exact hl) (by rw [← List.append_assoc]; exact hns.app hok _) (by rw [← List.append_assoc]; exact k3)
          rw [← List.append_assoc] at hR
          refine ⟨R, hQ, impl_rewritten.v1s _ _ _ _ _ _ _ _ _ _ _ ?_⟩
          rw [br_t (by simpa using hlt), br_t (by simp), Int.toNat_natCast, gt_at _ hlt, br_t (by simp), br_t (by simp; omega), gt_at _ (by omega), hn, last_wrap m2 (by omega), Int.toNat_natCast, br_f (by simpa using c), br_t (by simpa using c1), operands_v, bd_s, br_t (by simpa using c2), br_t (by simp), br_t (by simp; omega), gt_at _ hset, List.set_set, k1, bd_s, br_t hr]
          exact hR
        · have hp : partsOf e[k] = [] := by
            unfold partsOf
            rw [if_neg (by omega), if_neg (by omega)]
          have hfe : chg e to h (i : Int) 25 (k : Int) = wk e 25 (k : Int) := funext fun b => by rw [chg_at hlt, if_neg c, wk_at hlt, hp]; rfl
          obtain ⟨R, hQ, hR⟩ := ih (k + 1) N _ (by omega) (by omega) hok (by rw [List.length_set]; exact hl) hns (hm.set (x := (k : Int)) (by omega) (by rw [hfe]; exact (Rep.self n1 hlt (by omega)).app n1 N))
          refine ⟨R, hQ, impl_rewritten.v1s _ _ _ _ _ _ _ _ _ _ _ ?_⟩
          rw [br_t (by simpa using hlt), br_t (by simp), Int.toNat_natCast, gt_at _ hlt, br_t (by simp), br_t (by simp; omega), gt_at _ (by omega), hn, last_wrap m2 (by omega), Int.toNat_natCast, br_f (by simpa using c), br_t (by simpa using c1), operands_v, bd_s, br_f (by simpa using c2)]
          exact hR
      · have hfe : chg e to h (i : Int) 25 (k : Int) = wk e 25 (k : Int) := funext fun b => chg_low n1 25 k b hlt (by omega)
        obtain ⟨R, hQ, hR⟩ := ih (k + 1) N _ (by omega) (by omega) hok (by rw [List.length_set]; exact hl) hns (hm.set (x := (k : Int)) (by omega) (by rw [hfe]; exact (Rep.self n1 hlt (by omega)).app n1 N))
        refine ⟨R, hQ, impl_rewritten.v1s _ _ _ _ _ _ _ _ _ _ _ ?_⟩
        rw [br_t (by simpa using hlt), br_t (by simp), Int.toNat_natCast, gt_at _ hlt, br_t (by simp), br_t (by simp; omega), gt_at _ (by omega), hn, last_wrap m2 (by omega), Int.toNat_natCast, br_f (by simpa using c), br_f (by simpa using c1)]
        exact hR
end
/-- the program's answer: where the tree is too large it is another one -/
theorem rewritten_v {r : Rl} (hr : ruleOk r = true) {e : List Nd} (ht : treeOk e = true) {i : Nat} (hi : i < e.length) : ∃ t, impl_rewritten.v r e (i : Int) = some ((t, (rewR r e i).2), ()) ∧ ((rewR r e i).2 = true → t = (rewR r e i).1) := by
  obtain ⟨n1, n2, n3, _⟩ := treeOk_parts ht
  obtain ⟨_, w2, _, _⟩ := ruleOk_parts hr
  have hto := walked_tree w2
  obtain ⟨m1, m2, m3, _⟩ := treeOk_parts hto
  by_cases m : (matchR r e i).2 = true
  · have hf := filled_of hr ht hi m
    -- the last step
    have last : ∀ (N : List Nd) (ns mv : List Int), N.length ≤ r.2.1.length + e.length → nodesOk (e ++ N) 0 = true → mv.length = e.length → Named (e ++ N) mv e.length (chg e r.2.1 (matchR r e i).1 (i : Int) 25) →
        ∃ R : (List Nd × Bool) × Unit, (R.1.2 = (rewR r e i).2 ∧ ((rewR r e i).2 = true → R.1.1 = (rewR r e i).1)) ∧ impl_rewritten.v1 e (i : Int) e (e.length : Int) (e.length : Int) r.1 r.2.1 r.2.2 (e ++ N) ns mv = some R := by
      intro N ns mv hN hok hl hm
      obtain ⟨x, hx, u, rfl, hu, hw⟩ := hm (e.length - 1) (by omega)
      have hul : u < 1000 := by rw [List.length_append] at hu; omega
      have hroot : wk (e ++ N) 1000 (u : Int) 0 = chgR r e i := hw 1000 0 hul
      have hgoal : ∀ (t : List Nd) (b : Bool), impl_grow_nil.v (e ++ N) (u : Int) = some (t, ()) → decide (((t.length : Nat) : Int) ≤ 24) = b → impl_rewritten.v1 e (i : Int) e (e.length : Int) (e.length : Int) r.1 r.2.1 r.2.2 (e ++ N) ns mv = some ((t, b), ()) := fun t b h1 h2 => by
        refine impl_rewritten.v1s _ _ _ _ _ _ _ _ _ _ _ ?_
        rw [br_f (by simp), last_wrap n2 (by omega), br_t (by simp), br_t (by simp; omega), Int.toNat_natCast, gt_some hx, h1, bd_s, h2]
      by_cases c : (chgR r e i).length ≤ 24
      · have hg := ev_lim (growN_fit (e ++ N) hok hu (g := 1000) (f := 999) rfl (by omega) (by rw [hroot]; exact c))
        rw [hroot] at hg
        have e2 : rewR r e i = (chgR r e i, true) := by unfold rewR; rw [if_pos m, if_pos c]
        rw [e2]
        exact ⟨_, ⟨rfl, fun _ => rfl⟩, hgoal _ true hg (decide_eq_true (by omega))⟩
      · obtain ⟨t, h1, h2⟩ := growN_over (e ++ N) hok hu (g := 1000) (f := 999) rfl (by omega) (by rw [hroot]; omega)
        have e2 : rewR r e i = ([], false) := by unfold rewR; rw [if_pos m, if_neg c]
        rw [e2]
        exact ⟨_, ⟨rfl, fun h => by cases h⟩, hgoal t false (ev_lim h2) (decide_eq_false (by omega))⟩
    -- the rounds
    obtain ⟨R, ⟨hQ1, hQ2⟩, hR⟩ := names_v (i := (i : Int)) (l1 := r.1) (l2 := r.2.1) (s := r.2.2) ht hto hf (fun N ns hN hok hl hm =>
      moved_v (l1 := r.1) (s := r.2.2) hi ht hto hf hl (last · ns ·) e.length 0 N (List.replicate e.length 0) (by omega) (by omega) hok (by simp) hm (fun m hm => by omega)) r.2.1.length 0 [] (List.replicate r.2.1.length 0) (by omega) (by simp) (by simpa using n1) (by simp) (fun m hm => by omega)
    refine ⟨R.1.1, impl_rewritten.vs _ _ _ ?_, hQ2⟩
    rw [matchAt_v hr ht hi, bd_s, br_f (by rw [m]; rfl), clone_f e (by omega), bd_s, br_t (by simp), br_t (by simp; omega), Int.toNat_natCast]
    rw [List.append_nil] at hR
    refine hR.trans ?_
    rw [← hQ1]
  · have e2 : rewR r e i = ([], false) := by unfold rewR; rw [if_neg m]
    rw [e2]
    refine ⟨[], impl_rewritten.vs _ _ _ ?_, fun h => by cases h⟩
    rw [matchAt_v hr ht hi, bd_s, br_t (by rw [Bool.not_eq_true] at m; rw [m]; rfl)]
end Go.Proofs.Ytohfaccniialmaa.Am
end
section
/- Lists of rules: what the laws do with them. -/
namespace Go.Proofs.Ytohfaccniialmaa.Am
open Go
set_option linter.unusedVariables false
set_option linter.unusedSimpArgs false
/-- how many nodes the rules have, and the rules themselves -/
def sumR : List Rl → Nat
  | [] => 0
  | r :: l => r.1.length + r.2.1.length + 1 + sumR l
theorem sumR_mem : ∀ (l : List Rl) (r : Rl), r ∈ l → r.1.length + r.2.1.length + 1 ≤ sumR l
  | [], r, h => by cases h
  | a :: l, r, h => by
    rcases List.mem_cons.1 h with h | h
    · subst h; simp only [sumR]; omega
    · have := sumR_mem l r h
      simp only [sumR]; omega
theorem sumR_len : ∀ l : List Rl, l.length ≤ sumR l
  | [] => by simp [sumR]
  | a :: l => by have := sumR_len l; simp only [sumR, List.length_cons]; omega
/-- rules that are not too many -/
def Shorts (l : List Rl) : Prop := sumR l ≤ 1048576
theorem Shorts.mem {l : List Rl} (h : Shorts l) {r : Rl} (hr : r ∈ l) : Short r := by
  have := sumR_mem l r hr
  unfold Shorts at h
  exact ⟨by omega, by omega⟩
theorem Shorts.len {l : List Rl} (h : Shorts l) : l.length ≤ 1048576 := by have := sumR_len l; unfold Shorts at h; omega
theorem szRule_v2 (r : Rl) (q : Qd tyRl r) (x : Int) (h0 : 0 ≤ x) (h1 : x ≤ 1048576) : ∃ y, laws_szRule.v r x = some y ∧ y ≤ x ∧ (0 ≤ y → y + r.1.length + r.2.1.length ≤ x) := by
  obtain ⟨⟨q1, q2⟩, ⟨q3, q4⟩, q5⟩ := q
  have hM : maxLen = 9223372036854775807 := by decide
  have q5 : r.2.2.size ≤ maxLen := q5
  obtain ⟨y, hy, hyx, hyl⟩ := szNodeS_v2 r.1 x (by omega) (by omega) q1 (fun n hn => (q2 n hn).1)
  by_cases h0 : y < 0
  · exact ⟨-1, laws_szRule.vs _ _ (by simp [hy, h0]), by omega, fun h => by omega⟩
  · obtain ⟨z, hz, hzx, hzl⟩ := szNodeS_v2 r.2.1 y (by omega) (by omega) q3 (fun n hn => (q4 n hn).1)
    have l1 := hyl (by omega)
    by_cases h1 : z < 0
    · exact ⟨-1, laws_szRule.vs _ _ (by simp [hy, h0, hz, h1]), by omega, fun h => by omega⟩
    · have l2 := hzl (by omega)
      have hw : IntKind.wrap .i64 (z - (r.2.2.size : Int)) = z - (r.2.2.size : Int) := wrap_ok (by omega) (by omega)
      by_cases h2 : z - (r.2.2.size : Int) < 0
      · exact ⟨-1, laws_szRule.vs _ _ (by simp [hy, h0, hz, h1, hw, h2]), by omega, fun _ => by omega⟩
      · exact ⟨_, laws_szRule.vs _ _ (by simp [hy, h0, hz, h1, hw, h2]; rfl), by omega, fun _ => by omega⟩
theorem szRuleS_l (l : List Rl) (hl : l.length ≤ 1048576) (q : ∀ r, r ∈ l → Qd tyRl r) : ∀ (d i : Nat) (x : Int), i + d = l.length → 0 ≤ x → x ≤ 1048576 → ∃ y, laws_szRuleS.v0 l x (i : Int) = some y ∧ y ≤ x ∧ (0 ≤ y → y + (sumR (l.drop i) - (l.drop i).length : Nat) ≤ x) := by
  intro d
  induction d with
  | zero =>
    intro i x hi h0 h1
    refine ⟨x, laws_szRuleS.v0s _ _ _ ?_, by omega, fun _ => ?_⟩
    · rw [br_f (by simp; omega)]
    · rw [List.drop_eq_nil_of_le (by omega)]; simp [sumR]
  | succ d ih =>
    intro i x hi h0 h1
    have hlt : i < l.length := by omega
    obtain ⟨y, hy, hyx, hyl⟩ := szRule_v2 l[i] (q _ (List.getElem_mem hlt)) x h0 h1
    by_cases h2 : y < 0
    · refine ⟨-1, laws_szRuleS.v0s _ _ _ ?_, by omega, fun h => by omega⟩
      rw [br_t (by simpa using hlt), br_t (by simp), Int.toNat_natCast, gt_at _ hlt, hy, bd_s, br_t (by simpa using h2)]
    · obtain ⟨z, hz, hzx, hzl⟩ := ih (i + 1) y (by omega) (by omega) (by omega)
      refine ⟨z, laws_szRuleS.v0s _ _ _ ?_, by omega, fun h => ?_⟩
      · rw [br_t (by simpa using hlt), br_t (by simp), Int.toNat_natCast, gt_at _ hlt, hy, bd_s, br_f (by simpa using h2), next_ok i _ hlt (by omega), hz]
      · have e1 := hzl h
        have e2 := hyl (by omega)
        have e3 := sumR_len (l.drop (i + 1))
        rw [drop_at l i hlt]
        simp only [sumR, List.length_cons]
        omega
theorem szRuleS_q (l : List Rl) (q : Qd (.sl tyRl) l) : ∃ y, laws_szRuleS.v l 1048576 = some y ∧ y ≤ 1048576 ∧ (0 ≤ y → Shorts l) := by
  obtain ⟨q1, q2⟩ := q
  have hM : maxLen = 9223372036854775807 := by decide
  have hw : IntKind.wrap .i64 ((1048576 : Int) - (l.length : Int)) = 1048576 - (l.length : Int) := wrap_ok (by omega) (by omega)
  by_cases h : (1048576 : Int) - (l.length : Int) < 0
  · refine ⟨-1, laws_szRuleS.vs _ _ ?_, by omega, fun h => by omega⟩
    rw [hw, br_t (by simpa using h)]
  · obtain ⟨y, hy, hyx, hyl⟩ := szRuleS_l l (by omega) q2 l.length 0 (1048576 - (l.length : Int)) (by omega) (by omega) (by omega)
    refine ⟨y, laws_szRuleS.vs _ _ ?_, by omega, fun h => ?_⟩
    · rw [hw, br_f (by simpa using h)]; exact hy
    · have := hyl h
      rw [List.drop_zero] at this
      have e3 := sumR_len l
      unfold Shorts
      omega
theorem toRuleS_l (l : List Rl) (hs : Shorts l) : ∀ (d i : Nat) (a : List Rl), i + d = l.length → a.length = l.length → a.take i = l.take i → laws_toRuleS.v0 l (i : Int) a = some (l, ()) := by
  have hl := hs.len
  intro d
  induction d with
  | zero =>
    intro i a hi ha he
    refine laws_toRuleS.v0s _ _ _ ?_
    rw [br_f (by simp; omega)]
    rw [List.take_of_length_le (by omega), List.take_of_length_le (by omega)] at he
    rw [he]
  | succ d ih =>
    intro i a hi ha he
    have hlt : i < l.length := by omega
    have hla : i < a.length := by omega
    refine laws_toRuleS.v0s _ _ _ ?_
    rw [br_t (by simpa using hlt), br_t (by simp), Int.toNat_natCast, gt_at _ hlt, toRule_v _ (hs.mem (List.getElem_mem hlt)), bd_s, br_t (by simp), br_t (by simpa using hla), gt_at _ hla, next_ok i _ hlt (by omega)]
    refine ih (i + 1) _ (by omega) (by simpa using ha) ?_
    rw [List.take_succ_eq_append_getElem hlt, List.take_succ_eq_append_getElem (by simpa using hla), List.getElem_set_self, List.take_set_of_le (Nat.le_refl _), he]
theorem toRuleS_v (l : List Rl) (hs : Shorts l) : laws_toRuleS.v l = some (l, ()) := by
  have hl := hs.len
  refine laws_toRuleS.vs _ ?_
  rw [br_t (by simp), br_t (by simp; omega), Int.toNat_natCast]
  exact toRuleS_l l hs l.length 0 _ (by omega) (by simp) (by simp)
theorem eqRuleS_l (l : List Rl) (hs : Shorts l) : ∀ (d i : Nat), i + d = l.length → laws_eqRuleS.v0 l l (i : Int) = some true := by
  have hl := hs.len
  intro d
  induction d with
  | zero =>
    intro i hi
    refine laws_eqRuleS.v0s _ _ _ ?_
    rw [br_f (by simp; omega)]
  | succ d ih =>
    intro i hi
    have hlt : i < l.length := by omega
    refine laws_eqRuleS.v0s _ _ _ ?_
    rw [br_t (by simpa using hlt), br_t (by simp), Int.toNat_natCast, gt_at _ hlt, br_t (by simp), gt_at _ hlt, eqRule_v _ (hs.mem (List.getElem_mem hlt)), bd_s, brn_t, next_ok i _ hlt (by omega)]
    exact ih (i + 1) (by omega)
theorem eqRuleS_v (l : List Rl) (hs : Shorts l) : laws_eqRuleS.v l l = some true :=
  laws_eqRuleS.vs _ _ (by rw [br_f (by simp)]; exact eqRuleS_l l hs l.length 0 (by omega))
/-- the marks -/
noncomputable def mkR : Int → List Rl → List Rl
  | _, [] => []
  | k, r :: l => (mkN k r.1, mkN (k + 4 * r.1.length) r.2.1, mt (k + 4 * r.1.length + 4 * r.2.1.length)) :: mkR (k + 4 * r.1.length + 4 * r.2.1.length + 1) l
def endR : Int → List Rl → Int
  | k, [] => k
  | k, r :: l => endR (k + 4 * r.1.length + 4 * r.2.1.length + 1) l
theorem endR_le : ∀ (l : List Rl) (k : Int), k ≤ endR k l ∧ endR k l ≤ k + 4 * sumR l
  | [], k => by simp [endR, sumR]
  | r :: l, k => by
    have := endR_le l (k + 4 * r.1.length + 4 * r.2.1.length + 1)
    simp only [endR, sumR]
    omega
theorem markRuleS_l : ∀ (r l : List Rl) (k : Int), 0 ≤ k → k + 4 * sumR r ≤ 1000000000 → l.length + r.length ≤ 1000000000 → laws_markRuleS.v0 k (l.length : Int) (l ++ r) = some (endR k r, l ++ mkR k r)
  | [], l, k, h0, h1, h2 => laws_markRuleS.v0s _ _ _ (by simp [mkR, endR])
  | n :: r, l, k, h0, h1, h2 => by
    simp only [sumR, List.length_cons] at h1 h2
    have ih := markRuleS_l r (l ++ [(mkN k n.1, mkN (k + 4 * n.1.length) n.2.1, mt (k + 4 * n.1.length + 4 * n.2.1.length))]) (k + 4 * n.1.length + 4 * n.2.1.length + 1) (by omega) (by omega) (by simp; omega)
    refine laws_markRuleS.v0s _ _ _ ?_
    have w1 : IntKind.wrap .i64 (k + 4 * (n.1.length : Int) + 4 * (n.2.1.length : Int) + 1) = k + 4 * n.1.length + 4 * n.2.1.length + 1 := wrap_ok (by omega) (by omega)
    have wi : IntKind.wrap .i64 ((l.length : Int) + 1) = ((l.length + 1 : Nat) : Int) := by rw [wrap_ok (by omega) (by omega)]; rfl
    have hlt : ((l.length : Int) < ((l.length + (r.length + 1) : Nat) : Int)) := by omega
    have m1 := markNodeS_v k n.1 h0 (by omega)
    have m2 := markNodeS_v (k + 4 * (n.1.length : Int)) n.2.1 (by omega) (by omega)
    simp only [wi, Int.toNat_natCast, set_mid, gt_mid, m1, m2, mt_v (k + 4 * (n.1.length : Int) + 4 * (n.2.1.length : Int)) (by omega), w1, bd_s, List.length_append, List.length_cons]
    simp only [br_if, hlt, decide_true, if_true, Int.natCast_nonneg]
    simp only [List.length_append, List.length_cons, List.length_nil, List.append_assoc, List.cons_append, List.nil_append, Nat.zero_add] at ih
    rw [ih]
    simp only [mkR, endR]
theorem markRuleS_v (k : Int) (r : List Rl) (h0 : 0 ≤ k) (h1 : k + 4 * sumR r ≤ 1000000000) : laws_markRuleS.v k r = some (endR k r, mkR k r) :=
  laws_markRuleS.vs _ _ (by have := markRuleS_l r [] k h0 h1 (by have := sumR_len r; simp; omega); simpa using this)
end Go.Proofs.Ytohfaccniialmaa.Am
end
section
/- The first rule that can be used: the reference and the program. -/
namespace Go.Proofs.Ytohfaccniialmaa.Am
open Go
set_option linter.unusedVariables false
set_option linter.unusedSimpArgs false
/-- rules that are right and falling, and not too many -/
def rulesOk (l : List Rl) : Bool := decide (l.length ≤ 30) && l.all fun r => ruleOk r && fallP r
theorem rulesOk_mem {l : List Rl} (h : rulesOk l = true) : l.length ≤ 30 ∧ ∀ r, r ∈ l → ruleOk r = true ∧ fallP r = true := by
  unfold rulesOk at h
  simp only [Bool.and_eq_true, decide_eq_true_iff, List.all_eq_true] at h
  exact h
theorem ruRules_v (l : List Rl) (hs : Shorts l) : spec_ruRules.v l = some (rulesOk l) := by
  have hl := hs.len
  have key : ∀ (d i : Nat), i + d = l.length → spec_ruRules.v0 l (l.length : Int) (i : Int) = some ((l.drop i).all fun r => ruleOk r && fallP r) := by
    intro d
    induction d with
    | zero =>
      intro i hi
      refine spec_ruRules.v0s _ _ _ ?_
      rw [br_f (by simp; omega), List.drop_eq_nil_of_le (by omega)]
      rfl
    | succ d ih =>
      intro i hi
      have hlt : i < l.length := by omega
      have hr := hs.mem (List.getElem_mem hlt)
      refine spec_ruRules.v0s _ _ _ ?_
      rw [br_t (by simpa using hlt), br_t (by simp), Int.toNat_natCast, gt_at _ hlt, ruGood_v _ hr, bd_s, ruFalling_v _ hr, bd_s, next_ok i _ hlt (by omega), ih (i + 1) (by omega), drop_at l i hlt, List.all_cons]
      cases ruleOk l[i] <;> cases fallP l[i] <;> rfl
  refine spec_ruRules.vs _ ?_
  unfold rulesOk
  by_cases c : l.length ≤ 30
  · rw [br_f (by simp; omega)]
    have := key l.length 0 (by omega)
    rw [List.drop_zero] at this
    refine this.trans ?_
    simp [c]
  · rw [br_t (by simp; omega)]
    simp [c]
theorem areRules1_v (r : Rl) (h : Short r) : impl_areRules_1.v r = some (!(ruleOk r && fallP r)) := by
  refine impl_areRules_1.vs _ ?_
  rw [isRule_v r h, bd_s]
  by_cases c : ruleOk r = true
  · rw [c, brn_t, isFalling_v r h c, bd_s]; rfl
  · rw [Bool.not_eq_true] at c
    rw [c]; rfl
theorem containsRule_v (l : List Rl) (hs : Shorts l) : slices_ContainsFunc_Rule.v l = some (!(l.all fun r => ruleOk r && fallP r)) := by
  have hl := hs.len
  have key : ∀ (d i : Nat), i + d = l.length → ∃ n : Int, slices_IndexFunc_Rule.v0 l (l.length : Int) (i : Int) = some n ∧ decide (n ≥ 0) = !((l.drop i).all fun r => ruleOk r && fallP r) := by
    intro d
    induction d with
    | zero =>
      intro i hi
      refine ⟨-1, slices_IndexFunc_Rule.v0s _ _ _ ?_, ?_⟩
      · rw [br_f (by simp; omega)]
      · rw [List.drop_eq_nil_of_le (by omega)]; rfl
    | succ d ih =>
      intro i hi
      have hlt : i < l.length := by omega
      have hr := hs.mem (List.getElem_mem hlt)
      rw [drop_at l i hlt, List.all_cons]
      by_cases c : (ruleOk l[i] && fallP l[i]) = true
      · obtain ⟨n, h1, h2⟩ := ih (i + 1) (by omega)
        refine ⟨n, slices_IndexFunc_Rule.v0s _ _ _ ?_, by rw [h2, c, Bool.true_and]⟩
        rw [br_t (by simpa using hlt), br_t (by simp), Int.toNat_natCast, gt_at _ hlt, areRules1_v _ hr, bd_s, c, brn_t, next_ok i _ hlt (by omega), h1]
      · rw [Bool.not_eq_true] at c
        refine ⟨(i : Int), slices_IndexFunc_Rule.v0s _ _ _ ?_, by rw [c]; simp⟩
        rw [br_t (by simpa using hlt), br_t (by simp), Int.toNat_natCast, gt_at _ hlt, areRules1_v _ hr, bd_s, c, brn_f]
  obtain ⟨n, h1, h2⟩ := key l.length 0 (by omega)
  rw [List.drop_zero] at h2
  refine slices_ContainsFunc_Rule.vs _ ?_
  rw [show slices_IndexFunc_Rule.v l = some n from slices_IndexFunc_Rule.vs _ h1, bd_s, h2]
theorem areRules_v (l : List Rl) (e : List Nd) (hs : Shorts l) (he : e.length ≤ 1048576) : impl_areRules.v l e = some (rulesOk l && treeOk e) := by
  refine impl_areRules.vs _ _ ?_
  unfold rulesOk
  by_cases c : l.length ≤ 30
  · rw [br_t (by simp; omega), isTree_v e he, bd_s, containsRule_v l hs, bd_s]
    cases treeOk e <;> simp [c]
  · rw [br_f (by simp; omega)]
    simp [c]
/-! ### the first rule, the least node -/
noncomputable def onceE (r : Rl) (e : List Nd) : List Nat → Option (List Nd × Nat)
  | [] => none
  | i :: l => if (rewR r e i).2 = true then some ((rewR r e i).1, i) else onceE r e l
noncomputable def onceR (e : List Nd) : List Rl → Nat → Option (List Nd × Nat × Nat)
  | [], _ => none
  | r :: l, k => match onceE r e (List.range e.length) with
    | some (t, i) => some (t, k, i)
    | none => onceR e l (k + 1)
def onceV : Option (List Nd × Nat × Nat) → List Nd × Int × Int × Bool
  | some (t, k, i) => (t, (k : Int), (i : Int), true)
  | none => ([], 0, 0, false)
theorem range_drop' {i n : Nat} (h : i < n) : (List.range n).drop i = i :: (List.range n).drop (i + 1) := by
  rw [drop_at _ _ (by simpa using h)]; simp
theorem ruOnce_v {l : List Rl} {e : List Nd} (hl : l.length ≤ 1048576) (hr : ∀ r, r ∈ l → ruleOk r = true) (ht : treeOk e = true) : spec_ruOnce.v l e = some (onceV (onceR e l 0), ()) := by
  obtain ⟨n1, n2, n3, _⟩ := treeOk_parts ht
  have inner : ∀ (k : Nat) (hk : k < l.length) (hnext : spec_ruOnce.v0 e l (l.length : Int) ((k + 1 : Nat) : Int) = some (onceV (onceR e (l.drop (k + 1)) (k + 1)), ())), ∀ (d i : Nat), i + d = e.length →
      spec_ruOnce.v1 e (k : Int) l (l.length : Int) (k : Int) (e.length : Int) (i : Int) l[k].1 l[k].2.1 l[k].2.2 = some (onceV (match onceE l[k] e ((List.range e.length).drop i) with | some (t, i) => some (t, k, i) | none => onceR e (l.drop (k + 1)) (k + 1)), ()) := by
    intro k hk hnext d
    induction d with
    | zero =>
      intro i hi
      refine spec_ruOnce.v1s _ _ _ _ _ _ _ _ _ _ ?_
      have e0 : (List.range e.length).drop i = [] := List.drop_eq_nil_of_le (by rw [List.length_range]; omega)
      rw [br_f (by simp; omega), next_ok k _ hk (by omega), hnext, e0]
      rfl
    | succ d ih =>
      intro i hi
      have hlt : i < e.length := by omega
      refine spec_ruOnce.v1s _ _ _ _ _ _ _ _ _ _ ?_
      have hat : spec_ruAt.v (l[k].1, (l[k].2.1, l[k].2.2)) e (i : Int) = some (rewR l[k] e i, ()) := ruAt_v (hr _ (List.getElem_mem hk)) ht hlt
      rw [br_t (by simpa using hlt), hat, bd_s, range_drop' hlt]
      simp only [onceE]
      by_cases c : (rewR l[k] e i).2 = true
      · rw [br_t c, if_pos c]; rfl
      · rw [br_f (by simpa using c), if_neg c, next_ok i _ hlt (by omega), ih (i + 1) (by omega)]
  have outer : ∀ (d k : Nat), k + d = l.length → spec_ruOnce.v0 e l (l.length : Int) (k : Int) = some (onceV (onceR e (l.drop k) k), ()) := by
    intro d
    induction d with
    | zero =>
      intro k hk
      refine spec_ruOnce.v0s _ _ _ _ ?_
      rw [br_f (by simp; omega), List.drop_eq_nil_of_le (by omega)]
      rfl
    | succ d ih =>
      intro k hk
      have hlt : k < l.length := by omega
      refine spec_ruOnce.v0s _ _ _ _ ?_
      have := inner k hlt (ih (k + 1) (by omega)) e.length 0 (by omega)
      rw [List.drop_zero] at this
      rw [br_t (by simpa using hlt), br_t (by simp), Int.toNat_natCast, gt_at _ hlt, drop_at l k hlt]
      exact this
  have := outer l.length 0 (by omega)
  rw [List.drop_zero] at this
  exact spec_ruOnce.vs _ _ this
theorem rewriteOnce_v {l : List Rl} {e : List Nd} (hl : l.length ≤ 1048576) (hr : ∀ r, r ∈ l → ruleOk r = true) (ht : treeOk e = true) : impl_rewriteOnce.v l e = some (onceV (onceR e l 0), ()) := by
  obtain ⟨n1, n2, n3, _⟩ := treeOk_parts ht
  have inner : ∀ (k : Nat) (hk : k < l.length) (hnext : impl_rewriteOnce.v0 e l (l.length : Int) ((k + 1 : Nat) : Int) = some (onceV (onceR e (l.drop (k + 1)) (k + 1)), ())), ∀ (d i : Nat), i + d = e.length →
      impl_rewriteOnce.v1 e (k : Int) l (l.length : Int) (k : Int) (e.length : Int) (i : Int) l[k].1 l[k].2.1 l[k].2.2 = some (onceV (match onceE l[k] e ((List.range e.length).drop i) with | some (t, i) => some (t, k, i) | none => onceR e (l.drop (k + 1)) (k + 1)), ()) := by
    intro k hk hnext d
    induction d with
    | zero =>
      intro i hi
      refine impl_rewriteOnce.v1s _ _ _ _ _ _ _ _ _ _ ?_
      have e0 : (List.range e.length).drop i = [] := List.drop_eq_nil_of_le (by rw [List.length_range]; omega)
      rw [br_f (by simp; omega), next_ok k _ hk (by omega), hnext, e0]
      rfl
    | succ d ih =>
      intro i hi
      have hlt : i < e.length := by omega
      refine impl_rewriteOnce.v1s _ _ _ _ _ _ _ _ _ _ ?_
      obtain ⟨t, h1, h2⟩ := rewritten_v (hr _ (List.getElem_mem hk)) ht hlt
      have hat : impl_rewritten.v (l[k].1, (l[k].2.1, l[k].2.2)) e (i : Int) = some ((t, (rewR l[k] e i).2), ()) := h1
      rw [br_t (by simpa using hlt), hat, bd_s, range_drop' hlt]
      simp only [onceE]
      by_cases c : (rewR l[k] e i).2 = true
      · rw [br_t c, if_pos c, h2 c]; rfl
      · rw [br_f (by simpa using c), if_neg c, next_ok i _ hlt (by omega), ih (i + 1) (by omega)]
  have outer : ∀ (d k : Nat), k + d = l.length → impl_rewriteOnce.v0 e l (l.length : Int) (k : Int) = some (onceV (onceR e (l.drop k) k), ()) := by
    intro d
    induction d with
    | zero =>
      intro k hk
      refine impl_rewriteOnce.v0s _ _ _ _ ?_
      rw [br_f (by simp; omega), List.drop_eq_nil_of_le (by omega)]
      rfl
    | succ d ih =>
      intro k hk
      have hlt : k < l.length := by omega
      refine impl_rewriteOnce.v0s _ _ _ _ ?_
      have := inner k hlt (ih (k + 1) (by omega)) e.length 0 (by omega)
      rw [List.drop_zero] at this
      rw [br_t (by simpa using hlt), br_t (by simp), Int.toNat_natCast, gt_at _ hlt, drop_at l k hlt]
      exact this
  have := outer l.length 0 (by omega)
  rw [List.drop_zero] at this
  exact impl_rewriteOnce.vs _ _ this
/-- what rewriting once answers -/
noncomputable def onceP (l : List Rl) (e : List Nd) : List Nd × Int × Int × Bool := if (rulesOk l && treeOk e) = true then onceV (onceR e l 0) else ([], 0, 0, false)
theorem specRewriteOnce_v (l : List Rl) (e : List Nd) (hs : Shorts l) (he : e.length ≤ 1048576) : spec_RewriteOnce.v l e = some (onceP l e, ()) := by
  refine spec_RewriteOnce.vs _ _ ?_
  rw [ruRules_v l hs, bd_s, ruTreeOf_v e he, bd_s]
  unfold onceP
  by_cases c1 : rulesOk l = true
  · rw [c1, brn_t]
    by_cases c2 : treeOk e = true
    · rw [c2, brn_t, ruOnce_v hs.len (fun r hr => ((rulesOk_mem c1).2 r hr).1) c2, bd_s]; rfl
    · rw [Bool.not_eq_true] at c2
      rw [c2]; rfl
  · rw [Bool.not_eq_true] at c1
    rw [c1]; rfl
theorem implRewriteOnce_v (l : List Rl) (e : List Nd) (hs : Shorts l) (he : e.length ≤ 1048576) : impl_RewriteOnce.v l e = some (onceP l e, ()) := by
  refine impl_RewriteOnce.vs _ _ ?_
  rw [areRules_v l e hs he, bd_s]
  unfold onceP
  by_cases c : (rulesOk l && treeOk e) = true
  · rw [if_pos c, c, brn_t]
    rw [Bool.and_eq_true] at c
    rw [rewriteOnce_v hs.len (fun r hr => ((rulesOk_mem c.1).2 r hr).1) c.2, bd_s]
  · rw [if_neg c]
    rw [Bool.not_eq_true] at c
    rw [c]; rfl
theorem rewR_len' (r : Rl) (e : List Nd) (i : Int) : (rewR r e i).1.length ≤ 24 := by
  unfold rewR
  split
  · split
    · rename_i c; exact c
    · simp
  · simp
theorem onceE_len {r : Rl} {e : List Nd} : ∀ (l : List Nat) (t : List Nd) (i : Nat), onceE r e l = some (t, i) → t.length ≤ 24
  | [], t, i, h => by simp [onceE] at h
  | a :: l, t, i, h => by
    simp only [onceE] at h
    split at h
    · simp only [Option.some.injEq, Prod.mk.injEq] at h
      rw [← h.1]; exact rewR_len' r e a
    · exact onceE_len l t i h
theorem onceR_len {e : List Nd} : ∀ (l : List Rl) (k : Nat) (x : List Nd × Nat × Nat), onceR e l k = some x → x.1.length ≤ 24
  | [], k, x, h => by simp [onceR] at h
  | r :: l, k, x, h => by
    simp only [onceR] at h
    split at h
    · rename_i t i hE
      simp only [Option.some.injEq] at h
      rw [← h]; exact onceE_len _ t i hE
    · exact onceR_len l _ x h
theorem onceP_len (l : List Rl) (e : List Nd) : (onceP l e).1.length ≤ 24 := by
  unfold onceP
  split
  · cases h : onceR e l 0 with
    | none => simp [onceV]
    | some x => obtain ⟨t, k, i⟩ := x; exact onceR_len l 0 _ h
  · simp
end Go.Proofs.Ytohfaccniialmaa.Am
end
section
/- What is rewritten by a falling rule costs less. -/
namespace Go.Proofs.Ytohfaccniialmaa.Am
open Go
set_option linter.unusedVariables false
set_option linter.unusedSimpArgs false
theorem costP_app : ∀ a b : List Nd, costP (a ++ b) = costP a + costP b
  | [], b => by simp [costP]
  | n :: r, b => by
    simp only [List.cons_append, costP, costP_app r b]; omega
theorem nCost_put (n : Nd) (is : List Int) : nCost (putN n is) = nCost n := rfl
theorem isH_put (v : Int) (n : Nd) (is : List Int) : isH v (putN n is) = isH v n := rfl
/-- a measure of rows of nodes that looks at each node's name and number only -/
structure Msr (c : List Nd → Int) (d : Nd → Int) : Prop where
  nil : c [] = 0
  app : ∀ a b, c (a ++ b) = c a + c b
  one : ∀ n, c [n] = d n
  put : ∀ n is, d (putN n is) = d n
theorem msr_cost : Msr costP nCost := ⟨rfl, costP_app, fun n => by simp [costP], nCost_put⟩
theorem msr_hole (v : Int) : Msr (fun l => ((cntH l v : Nat) : Int)) (fun n => if isH v n = true then 1 else 0) :=
  ⟨rfl, fun a b => by simp only [cntH, List.countP_append]; omega, fun n => by simp only [cntH, List.countP_cons, List.countP_nil]; split <;> rfl, fun n is => by rw [isH_put]⟩
section
variable {c : List Nd → Int} {d : Nd → Int}
theorem Msr.wkP (m : Msr c d) {w : Int → Nat → List Nd} : ∀ (ps : List Int) (b : Nat) (S : Int → Int), (∀ p ∈ ps, ∀ b, c (w p b) = S p) → c (wkP w ps b).1 = (ps.map S).sum
  | [], b, S, h => by simp [Am.wkP, m.nil]
  | p :: r, b, S, h => by
    simp only [Am.wkP, m.app, List.map_cons, List.sum_cons, h p (by simp) b]
    rw [m.wkP r _ S fun q hq b => h q (by simp [hq]) b]
theorem Msr.wkP_le (m : Msr c d) {w : Int → Nat → List Nd} : ∀ (ps : List Int) (b : Nat) (S : Int → Int), (∀ p ∈ ps, ∀ b, c (w p b) ≤ S p) → c (Am.wkP w ps b).1 ≤ (ps.map S).sum
  | [], b, S, h => by simp [Am.wkP, m.nil]
  | p :: r, b, S, h => by
    simp only [Am.wkP, m.app, List.map_cons, List.sum_cons]
    have h1 := h p (by simp) b
    have h2 := m.wkP_le r (b + (w p b).length) S fun q hq b => h q (by simp [hq]) b
    omega
theorem Msr.wkP_lt (m : Msr c d) {w : Int → Nat → List Nd} : ∀ (ps : List Int) (b : Nat) (S : Int → Int), (∀ p ∈ ps, ∀ b, c (w p b) ≤ S p) → (∃ p ∈ ps, ∀ b, c (w p b) < S p) → c (Am.wkP w ps b).1 < (ps.map S).sum
  | [], b, S, h, ⟨p, hp, _⟩ => by cases hp
  | p :: r, b, S, h, ⟨q, hq, hs⟩ => by
    simp only [Am.wkP, m.app, List.map_cons, List.sum_cons]
    have h1 := h p (by simp) b
    have h2 := m.wkP_le r (b + (w p b).length) S fun q hq b => h q (by simp [hq]) b
    rcases List.mem_cons.1 hq with rfl | hq
    · have := hs b
      omega
    · have := m.wkP_lt r (b + (w p b).length) S (fun q hq b => h q (by simp [hq]) b) ⟨q, hq, hs⟩
      omega
theorem Msr.wk_b (m : Msr c d) (e : List Nd) : ∀ (f : Nat) (i : Int) (b : Nat), c (wk e f i b) = c (wk e f i 0)
  | 0, i, b => rfl
  | f + 1, i, b => by
    simp only [wk]
    split
    · rw [m.app, m.app, m.one, m.one, m.put, m.put, m.wkP _ b (fun p => c (wk e f p 0)) fun p _ b => m.wk_b e f p b, m.wkP _ 0 (fun p => c (wk e f p 0)) fun p _ b => m.wk_b e f p b]
    · rfl
/-- the measure of the subtree at a node -/
theorem Msr.eq (m : Msr c d) {e : List Nd} (hn : nodesOk e 0 = true) (h24 : e.length ≤ 24) {i : Nat} (hi : i < e.length) : c (wk e 25 (i : Int) 0) = d e[i] + ((partsOf e[i]).map fun p => c (wk e 25 p 0)).sum := by
  rw [wk_at hi, m.app, m.one, m.put, m.wkP _ 0 (fun p => c (wk e 25 p 0)) fun p hp b => by
    obtain ⟨p0, p1⟩ := exParts_in hn hi p hp
    obtain ⟨q, rfl⟩ := Int.eq_ofNat_of_zero_le p0
    rw [m.wk_b, wk_fuel hn 24 25 q 0 (by omega) (by omega) (by omega)]]
  omega
end
abbrev sT (e : List Nd) (i : Int) : Int := costP (wk e 25 i 0)
abbrev hT (e : List Nd) (v : Int) (i : Int) : Int := ((cntH (wk e 25 i 0) v : Nat) : Int)
theorem cT_eq {e : List Nd} (hn : nodesOk e 0 = true) (h24 : e.length ≤ 24) {i : Nat} (hi : i < e.length) : sT e i = nCost e[i] + ((partsOf e[i]).map (sT e)).sum := msr_cost.eq hn h24 hi
theorem hT_eq {e : List Nd} (hn : nodesOk e 0 = true) (h24 : e.length ≤ 24) (v : Int) {i : Nat} (hi : i < e.length) : hT e v i = (if isH v e[i] = true then 1 else 0) + ((partsOf e[i]).map (hT e v)).sum := (msr_hole v).eq hn h24 hi
/-- what the holes stand for costs -/
abbrev hC (e : List Nd) (h : List Int) (v : Nat) : Int := sT e (h.getD v 0)
/-- a pattern's cost, its holes filled -/
def patC (p e : List Nd) (h : List Int) (k : Int) : Int := sT p k + (hT p 0 k * hC e h 0 + hT p 1 k * hC e h 1)
theorem sum_pat (p e : List Nd) (h : List Int) : ∀ ps : List Int, (ps.map (patC p e h)).sum = (ps.map (sT p)).sum + ((ps.map (hT p 0)).sum * hC e h 0 + (ps.map (hT p 1)).sum * hC e h 1)
  | [] => by simp
  | x :: r => by
    simp only [List.map_cons, List.sum_cons, sum_pat p e h r, patC, Int.add_mul]
    omega
theorem patC_hole {p e : List Nd} {h : List Int} (hn : nodesOk p 0 = true) (h24 : p.length ≤ 24) {k : Nat} (hk : k < p.length) (c : p[k].1 = tIn) : patC p e h k = hC e h p[k].2.2.2.toNat := by
  obtain ⟨v, hv, ev⟩ := hole_val (nodesOk_get p 0 hn k hk) c
  have ha : arity p[k].1 = 0 := by unfold arity; rw [if_pos c]
  have hp : partsOf p[k] = [] := by unfold partsOf; rw [ha]; rfl
  have h0 : nCost p[k] = 0 := by unfold nCost; rw [ha]; rfl
  unfold patC
  rw [cT_eq hn h24 hk, hT_eq hn h24 0 hk, hT_eq hn h24 1 hk, hp, h0, ev]
  unfold isH
  rw [c, ev]
  match v, hv with
  | 0, _ => simp
  | 1, _ => simp
theorem patC_node {p e : List Nd} {h : List Int} (hn : nodesOk p 0 = true) (h24 : p.length ≤ 24) {k : Nat} (hk : k < p.length) (c : ¬ p[k].1 = tIn) : patC p e h k = nCost p[k] + ((partsOf p[k]).map (patC p e h)).sum := by
  have e0 : ∀ v, isH v p[k] = false := fun v => by unfold isH; rw [decide_eq_false c]; rfl
  rw [sum_pat]
  unfold patC
  rw [cT_eq hn h24 hk, hT_eq hn h24 0 hk, hT_eq hn h24 1 hk, e0, e0]
  simp only [Bool.false_eq_true, if_false, Int.zero_add]
  omega
theorem fil_cost {e to : List Nd} {h : List Int} (hn : nodesOk to 0 = true) (h24 : to.length ≤ 24) : ∀ (f k b : Nat), k < to.length → k < f → costP (fil e to h f (k : Int) b) = patC to e h k
  | 0, k, b, _, h => by omega
  | f + 1, k, b, hk, hf => by
    rw [fil_at hk]
    by_cases c : to[k].1 = tIn
    · rw [if_pos c, msr_cost.wk_b, patC_hole hn h24 hk c]
    · rw [if_neg c, costP_app, msr_cost.one, nCost_put, patC_node hn h24 hk c, msr_cost.wkP _ b (patC to e h) fun p hp b => by
        obtain ⟨p0, p1⟩ := exParts_in hn hk p hp
        obtain ⟨q, rfl⟩ := Int.eq_ofNat_of_zero_le p0
        exact fil_cost hn h24 f q b (by omega) (by omega)]
      omega
/-! ### the pattern that matches costs what the subtree costs -/
/-- what is bound stays as it is -/
def Keep (h h' : List Int) : Prop := ∀ v : Nat, 0 ≤ h.getD v (-1) → h'.getD v (-1) = h.getD v (-1)
theorem Keep.refl (h : List Int) : Keep h h := fun _ _ => rfl
theorem Keep.trans {a b c : List Int} (h1 : Keep a b) (h2 : Keep b c) : Keep a c := fun v q => by
  have := h1 v q
  rw [h2 v (by omega), this]
theorem matchPs_keep {n : Nat} {w : Int → Int → List Int → Bool × List Int} : ∀ (xs ys : List Int) (h : List Int), HOk n h → (∀ x ∈ xs, ∀ y ∈ ys, ∀ h, HOk n h → HOk n (w x y h).2 ∧ Keep h (w x y h).2) → Keep h (matchPs w xs ys h).2
  | [], _, h, _, _ => Keep.refl h
  | _ :: _, [], h, _, _ => Keep.refl h
  | x :: r, y :: q, h, hh, hw => by
    have h1 := hw x (by simp) y (by simp) h hh
    simp only [matchPs]
    split
    · exact h1.2.trans (matchPs_keep r q _ h1.1 fun x' hx y' hy => hw x' (by simp [hx]) y' (by simp [hy]))
    · exact h1.2
theorem matchP_keep {p e : List Nd} (he : nodesOk e 0 = true) : ∀ (f : Nat) (k : Int) (i : Nat) (h : List Int), HOk e.length h → i < e.length → Keep h (matchP p e f k i h).2
  | 0, k, i, h, hh, hi => Keep.refl h
  | f + 1, k, i, h, hh, hi => by
    simp only [matchP, Int.toNat_natCast, List.getElem?_eq_getElem hi]
    split
    · rename_i n m hn hm
      split
      · split
        · exact Keep.refl h
        · rename_i hc
          intro v q
          show (h.set n.2.2.2.toNat (i : Int)).getD v (-1) = _
          rw [set_get]
          split
          · rename_i hv
            exfalso
            apply hc
            rw [hv.1]
            have : h.getD v 0 = h.getD v (-1) := by
              rw [List.getD_eq_getElem?_getD, List.getD_eq_getElem?_getD, List.getElem?_eq_getElem hv.2]; rfl
            omega
          · rfl
      · split
        · refine matchPs_keep (n := e.length) _ _ _ hh (fun x hx y hy h hh => ?_)
          have hm := (Option.some.inj hm).symm
          subst hm
          obtain ⟨h0, h1⟩ := exParts_in he hi y hy
          obtain ⟨q, rfl⟩ := Int.eq_ofNat_of_zero_le h0
          exact ⟨matchP_ok he f x q h (by omega) hh, matchP_keep he f x q h hh (by omega)⟩
        · exact Keep.refl h
    · exact Keep.refl h
theorem matchPs_cost {p e : List Nd} {H : List Int} {w : Int → Int → List Int → Bool × List Int} : ∀ (xs ys : List Int) (h : List Int), xs.length = ys.length → HOk e.length h →
    (∀ x ∈ xs, ∀ y ∈ ys, ∀ h, HOk e.length h → HOk e.length (w x y h).2 ∧ Keep h (w x y h).2 ∧ ((w x y h).1 = true → Keep (w x y h).2 H → sT e y = patC p e H x)) → (matchPs w xs ys h).1 = true → Keep (matchPs w xs ys h).2 H → (ys.map (sT e)).sum = (xs.map (patC p e H)).sum
  | [], [], h, hl, hh, hw, ht, hk => by simp
  | [], _ :: _, h, hl, hh, hw, ht, hk => by simp at hl
  | _ :: _, [], h, hl, hh, hw, ht, hk => by simp at hl
  | x :: r, y :: q, h, hl, hh, hw, ht, hk => by
    have h1 := hw x (by simp) y (by simp) h hh
    have hw' : ∀ x ∈ r, ∀ y ∈ q, ∀ h, HOk e.length h → HOk e.length (w x y h).2 ∧ Keep h (w x y h).2 ∧ ((w x y h).1 = true → Keep (w x y h).2 H → sT e y = patC p e H x) := fun x' hx y' hy => hw x' (by simp [hx]) y' (by simp [hy])
    simp only [matchPs] at ht hk
    split at ht
    · rename_i hc
      rw [if_pos hc] at hk
      have h2 := matchPs_keep r q _ h1.1 fun x hx y hy h hh => ⟨(hw' x hx y hy h hh).1, (hw' x hx y hy h hh).2.1⟩
      have h3 := matchPs_cost r q _ (by simpa using hl) h1.1 hw' ht hk
      have h4 := h1.2.2 hc (h2.trans hk)
      simp only [List.map_cons, List.sum_cons, h3, h4]
    · cases ht
theorem matchP_cost {p e : List Nd} {H : List Int} (hp : nodesOk p 0 = true) (h24 : p.length ≤ 24) (he : nodesOk e 0 = true) (e24 : e.length ≤ 24) : ∀ (f k i : Nat) (h : List Int), k < p.length → i < e.length → k < f → HOk e.length h → (matchP p e f k i h).1 = true → HOk e.length H → Keep (matchP p e f k i h).2 H → sT e (i : Int) = patC p e H k
  | 0, _, _, _, _, _, hf, _, _, _, _ => by omega
  | f + 1, k, i, h, hk, hi, hf, hh, ht, hH, hK => by
    have hpk := nodesOk_get p 0 hp k hk
    simp only [matchP, Int.toNat_natCast, List.getElem?_eq_getElem hk, List.getElem?_eq_getElem hi] at ht hK
    by_cases c : p[k].1 = tIn
    · rw [if_pos c] at ht hK
      obtain ⟨u, hu, ev⟩ := hole_val hpk c
      rw [patC_hole hp h24 hk c, ev]
      rw [ev] at ht hK
      simp only [Int.toNat_natCast] at ht hK ⊢
      have hd := (hh.get' hu)
      have hd2 := (hH.get' hu)
      split at ht
      · rename_i q
        rw [if_pos q] at hK
        have hk := hK u (show 0 ≤ h.getD u (-1) by omega)
        have : wk e 25 (h.getD u 0) 0 = wk e 25 i 0 := of_decide_eq_true ht
        unfold hC sT
        rw [hd2, hk, ← hd, this]
      · rename_i q
        rw [if_neg q] at hK
        have e1 : (h.set u (i : Int)).getD u (-1) = (i : Int) := by rw [set_get, if_pos ⟨rfl, by rw [hh.two]; exact hu⟩]
        have hk := hK u (by show 0 ≤ (h.set u (i : Int)).getD u (-1); omega)
        have hk : H.getD u (-1) = (i : Int) := hk.trans e1
        unfold hC sT
        rw [hd2, hk]
    · rw [if_neg c] at ht hK
      split at ht
      · rename_i cc
        rw [if_pos cc] at hK
        rw [patC_node hp h24 hk c, cT_eq he e24 hi]
        have hn : nCost e[i] = nCost p[k] := by unfold nCost; rw [cc.1]
        rw [hn, matchPs_cost _ _ h (parts_same cc.1) hh (fun x hx y hy h hh => by
          obtain ⟨x0, x1⟩ := exParts_in hp hk x hx
          obtain ⟨y0, y1⟩ := exParts_in he hi y hy
          obtain ⟨a, rfl⟩ := Int.eq_ofNat_of_zero_le x0
          obtain ⟨b, rfl⟩ := Int.eq_ofNat_of_zero_le y0
          exact ⟨matchP_ok he f _ b h (by omega) hh, matchP_keep he f _ b h hh (by omega), fun hc hx => matchP_cost hp h24 he e24 f a b h (by omega) (by omega) (by omega) hh hc hH hx⟩) ht hK]
      · cases ht
theorem root_cost {p e : List Nd} {h : List Int} (hw : walked p = true) : patC p e h ((p.length - 1 : Nat) : Int) = costP p + ((cntH p 0 : Int) * hC e h 0 + (cntH p 1 : Int) * hC e h 1) := by
  obtain ⟨h1, h2, h3⟩ := walked_parts hw
  unfold patC sT hT
  rw [h3]
/-- a falling rule: what is put in costs less than what was there -/
theorem rule_falls {r : Rl} (hr : ruleOk r = true) (hf : fallP r = true) {e : List Nd} (ht : treeOk e = true) {i : Nat} (hi : i < e.length) (hm : (matchR r e i).2 = true) (b : Nat) : costP (fil e r.2.1 (matchR r e i).1 25 ((r.2.1.length - 1 : Nat) : Int) b) < sT e i := by
  obtain ⟨w1, w2, _, _⟩ := ruleOk_parts hr
  obtain ⟨n1, n2, n3, _⟩ := treeOk_parts ht
  obtain ⟨a1, a2, a3, _⟩ := treeOk_parts (walked_tree w1)
  obtain ⟨b1, b2, b3, _⟩ := treeOk_parts (walked_tree w2)
  obtain ⟨m1, m2⟩ := matchR_eq hm
  have hk : HOk e.length (mRoot r e i).2 := matchP_ok n1 24 _ i _ hi (mHOk _)
  have k1 := matchP_cost (H := (mRoot r e i).2) a1 a3 n1 n3 24 (r.1.length - 1) i [-1, -1] (by omega) hi (by omega) (mHOk _) m2 hk (Keep.refl _)
  rw [m1, fil_cost b1 b3 25 _ b (by omega) (by omega), root_cost w2, k1, root_cost w1]
  unfold fallP at hf
  simp only [Bool.and_eq_true, decide_eq_true_iff] at hf
  obtain ⟨f1, f2, f3⟩ := hf
  have c0 := (costP_bnd (wk e 25 ((mRoot r e i).2.getD 0 0) 0)).1
  have c1 := (costP_bnd (wk e 25 ((mRoot r e i).2.getD 1 0) 0)).1
  have x0 : (cntH r.2.1 0 : Int) * hC e (mRoot r e i).2 0 ≤ (cntH r.1 0 : Int) * hC e (mRoot r e i).2 0 := Int.mul_le_mul_of_nonneg_right (by omega) c0
  have x1 : (cntH r.2.1 1 : Int) * hC e (mRoot r e i).2 1 ≤ (cntH r.1 1 : Int) * hC e (mRoot r e i).2 1 := Int.mul_le_mul_of_nonneg_right (by omega) c1
  omega
section
variable {e to : List Nd} {h : List Int} {i : Nat}
theorem chg_le (hn : nodesOk e 0 = true) (h24 : e.length ≤ 24) (hi : ∀ b, costP (fil e to h 25 ((to.length - 1 : Nat) : Int) b) < sT e i) : ∀ (f k b : Nat), k < e.length → k < f → costP (chg e to h i f (k : Int) b) ≤ sT e k
  | 0, k, b, _, h => by omega
  | f + 1, k, b, hk, hf => by
    rw [chg_at hk]
    by_cases c : (k : Int) = (i : Int)
    · rw [if_pos c, c]
      have := hi b
      omega
    · rw [if_neg c, costP_app, msr_cost.one, nCost_put, cT_eq hn h24 hk]
      have := msr_cost.wkP_le (w := chg e to h i f) (partsOf e[k]) b (sT e) fun p hp b => by
        obtain ⟨p0, p1⟩ := exParts_in hn hk p hp
        obtain ⟨q, rfl⟩ := Int.eq_ofNat_of_zero_le p0
        exact chg_le hn h24 hi f q b (by omega) (by omega)
      omega
theorem chg_lt (ht : treeOk e = true) (hi : ∀ b, costP (fil e to h 25 ((to.length - 1 : Nat) : Int) b) < sT e i) : ∀ (d j : Nat), j + d + 1 = e.length → (∀ f b, j < f → costP (chg e to h i f (j : Int) b) < sT e j) → ∀ f b, e.length - 1 < f → costP (chg e to h i f ((e.length - 1 : Nat) : Int) b) < sT e ((e.length - 1 : Nat) : Int) := by
  obtain ⟨n1, n2, n3, n4⟩ := treeOk_parts ht
  intro d
  induction d using Nat.strongRecOn with
  | ind d ih =>
    intro j hj hP
    by_cases hd : d = 0
    · subst hd
      have : e.length - 1 = j := by omega
      rw [this]; exact hP
    · -- the node that has j as an operand
      have hlt : j < e.length := by omega
      have hu := usesOf_get (by omega) (nodesOk_parts n1) hlt
      have ha : allUsed e = true := by
        unfold treeOk exprOk at ht
        simp only [Bool.and_eq_true] at ht
        exact ht.1.2.2
      have hc : (opsOfL e).count j ≠ 0 := fun h0 => by
        rw [h0] at hu
        unfold allUsed at ha
        rw [Bool.not_eq_true', decide_eq_false_iff_not] at ha
        apply ha
        rw [List.mem_iff_getElem?]
        refine ⟨j, ?_⟩
        rw [List.getElem?_take, if_pos (by omega), hu]
        rfl
      have hm : j ∈ opsOfL e := List.count_pos_iff.1 (by omega)
      unfold opsOfL at hm
      obtain ⟨n, hn, hjn⟩ := List.mem_flatMap.1 hm
      obtain ⟨k, hk, rfl⟩ := List.getElem_of_mem hn
      unfold pN at hjn
      obtain ⟨p, hp, hpj⟩ := List.mem_map.1 hjn
      obtain ⟨p0, p1⟩ := exParts_in n1 hk p hp
      have hpj : p = (j : Int) := by omega
      subst hpj
      refine ih (e.length - 1 - k) (by omega) k (by omega) fun f b hf => ?_
      obtain ⟨f, rfl⟩ : ∃ g, f = g + 1 := ⟨f - 1, by omega⟩
      rw [chg_at hk]
      by_cases c : (k : Int) = (i : Int)
      · rw [if_pos c, c]; exact hi b
      · rw [if_neg c, costP_app, msr_cost.one, nCost_put, cT_eq n1 n3 hk]
        have := msr_cost.wkP_lt (w := chg e to h i f) (partsOf e[k]) b (sT e) (fun p hp b => by
          obtain ⟨p0, p1⟩ := exParts_in n1 hk p hp
          obtain ⟨q, rfl⟩ := Int.eq_ofNat_of_zero_le p0
          exact chg_le n1 n3 hi f q b (by omega) (by omega)) ⟨(j : Int), hp, fun b => hP f b (by omega)⟩
        omega
end
/-! ### a tree in the order of its walk is its own walk -/
theorem Tr.walk {b : Nat} {l : List Nd} (h : Tr b l) : ∀ (pre post : List Nd) (f : Nat), pre.length = b → b + l.length ≤ f → wk (pre ++ l ++ post) f ((b + l.length - 1 : Nat) : Int) b = l := by
  induction h with
  | leaf b n h =>
    intro pre post f hb hf
    obtain ⟨f, rfl⟩ : ∃ g, f = g + 1 := ⟨f - 1, by simp at hf; omega⟩
    have hl : b + [n].length - 1 < (pre ++ [n] ++ post).length := by simp; omega
    rw [wk_at hl]
    have e1 : (pre ++ [n] ++ post)[b + [n].length - 1] = n := by
      subst hb
      simp [List.getElem_append]
    rw [e1, (nodeOk_leaf h 0).2]
    simp only [wkP, List.nil_append]
    unfold nodeOk at h
    have : n.2.1 = 0 ∧ n.2.2.1 = 0 := by
      split at h
      · simp only [Bool.and_eq_true, decide_eq_true_iff] at h; exact h.1
      · split at h
        · simp only [Bool.and_eq_true, decide_eq_true_iff] at h; exact h.1
        · split at h
          · simp only [Bool.and_eq_true, inB_iff] at h; omega
          · simp only [Bool.and_eq_true, inB_iff] at h; omega
    obtain ⟨o, x, y, v⟩ := n
    simp only at this
    simp [putN, this]
  | one b p s hs hp ih =>
    intro pre post f hb hf
    have hpos := hp.pos
    obtain ⟨f, rfl⟩ : ∃ g, f = g + 1 := ⟨f - 1, by simp at hf; omega⟩
    generalize hnd : ((s, ((b + p.length : Nat) : Int) - 1, (0 : Int), (0 : Int)) : Nd) = nd
    have hl : b + (p ++ [nd]).length - 1 < (pre ++ (p ++ [nd]) ++ post).length := by simp; omega
    rw [wk_at hl]
    have e1 : (pre ++ (p ++ [nd]) ++ post)[b + (p ++ [nd]).length - 1] = nd := by
      have : b + (p ++ [nd]).length - 1 = (pre ++ p).length := by simp; omega
      simp only [this]
      rw [List.getElem_of_eq (show pre ++ (p ++ [nd]) ++ post = (pre ++ p) ++ ([nd] ++ post) by simp)]
      simp [List.getElem_append]
    rw [e1]
    have e2 : partsOf nd = [((b + p.length - 1 : Nat) : Int)] := by
      rw [← hnd]; unfold partsOf; rw [arity_one hs]
      simp; omega
    have e3 := ih pre ([nd] ++ post) f hb (by simp at hf; omega)
    rw [show pre ++ p ++ ([nd] ++ post) = pre ++ (p ++ [nd]) ++ post by simp] at e3
    rw [e2]
    simp only [wkP, e3, List.append_nil]
    congr 1
    rw [← hnd]
    rfl
  | two b p q s hs hp hq ih1 ih2 =>
    intro pre post f hb hf
    have hpos := hp.pos
    have hqos := hq.pos
    obtain ⟨f, rfl⟩ : ∃ g, f = g + 1 := ⟨f - 1, by simp at hf; omega⟩
    generalize hnd : ((s, ((b + p.length : Nat) : Int) - 1, ((b + p.length + q.length : Nat) : Int) - 1, (0 : Int)) : Nd) = nd
    have hl : b + (p ++ q ++ [nd]).length - 1 < (pre ++ (p ++ q ++ [nd]) ++ post).length := by simp; omega
    rw [wk_at hl]
    have e1 : (pre ++ (p ++ q ++ [nd]) ++ post)[b + (p ++ q ++ [nd]).length - 1] = nd := by
      have : b + (p ++ q ++ [nd]).length - 1 = (pre ++ p ++ q).length := by simp; omega
      simp only [this]
      rw [List.getElem_of_eq (show pre ++ (p ++ q ++ [nd]) ++ post = (pre ++ p ++ q) ++ ([nd] ++ post) by simp)]
      simp [List.getElem_append]
    rw [e1]
    have e2 : partsOf nd = [((b + p.length - 1 : Nat) : Int), ((b + p.length + q.length - 1 : Nat) : Int)] := by
      rw [← hnd]; unfold partsOf; rw [arity_two hs]
      simp; omega
    have e3 := ih1 pre (q ++ [nd] ++ post) f hb (by simp at hf; omega)
    rw [show pre ++ p ++ (q ++ [nd] ++ post) = pre ++ (p ++ q ++ [nd]) ++ post by simp] at e3
    have e4 := ih2 (pre ++ p) ([nd] ++ post) f (by simp; omega) (by simp at hf; omega)
    rw [show pre ++ p ++ q ++ ([nd] ++ post) = pre ++ (p ++ q ++ [nd]) ++ post by simp] at e4
    rw [e2]
    simp only [wkP, e3, e4, List.append_nil]
    have e5 : putN nd [((b + p.length : Nat) : Int) - 1, ((b + p.length + q.length : Nat) : Int) - 1] = nd := by rw [← hnd]; rfl
    rw [e5]
theorem Tr.cost {l : List Nd} (h : Tr 0 l) (h24 : l.length ≤ 24) : sT l ((l.length - 1 : Nat) : Int) = costP l := by
  have := h.walk [] [] 25 rfl (by omega)
  simp only [List.nil_append, List.append_nil, Nat.zero_add] at this
  unfold sT
  rw [this]
/-- the cost of a tree -/
abbrev treeC (e : List Nd) : Int := sT e ((e.length - 1 : Nat) : Int)
/-- what is rewritten is a tree, and costs less -/
theorem rewR_falls {r : Rl} (hr : ruleOk r = true) (hf : fallP r = true) {e : List Nd} (ht : treeOk e = true) {i : Nat} (hi : i < e.length) (hm : (rewR r e i).2 = true) : treeOk (rewR r e i).1 = true ∧ treeC (rewR r e i).1 < treeC e := by
  obtain ⟨w1, w2, _, _⟩ := ruleOk_parts hr
  obtain ⟨n1, n2, n3, _⟩ := treeOk_parts ht
  unfold rewR at hm ⊢
  by_cases c1 : (matchR r e i).2 = true
  · rw [if_pos c1] at hm ⊢
    by_cases c2 : (chgR r e i).length ≤ 24
    · rw [if_pos c2]
      have hT : Tr 0 (chgR r e i) := chg_tr ht (walked_tree w2) (filled_of hr ht hi c1) 25 (e.length - 1) 0 (by omega) (by omega)
      refine ⟨hT.tree c2, ?_⟩
      show treeC (chgR r e i) < treeC e
      unfold treeC
      rw [hT.cost c2]
      have hl := rule_falls hr hf ht hi c1
      refine chg_lt ht hl (e.length - 1 - i) i (by omega) (fun f b hf => ?_) 25 0 (by omega)
      obtain ⟨f, rfl⟩ : ∃ g, f = g + 1 := ⟨f - 1, by omega⟩
      rw [chg_at hi, if_pos rfl]
      exact hl b
    · rw [if_neg c2] at hm; cases hm
  · rw [if_neg c1] at hm; cases hm
end Go.Proofs.Ytohfaccniialmaa.Am
end
section
/- The normal form: the reference and the program come to the same tree. -/
namespace Go.Proofs.Ytohfaccniialmaa.Am
open Go
set_option linter.unusedVariables false
set_option linter.unusedSimpArgs false
theorem onceE_some {r : Rl} {e : List Nd} : ∀ (l : List Nat) (t : List Nd) (i : Nat), onceE r e l = some (t, i) → ∃ j ∈ l, (rewR r e j).2 = true ∧ t = (rewR r e j).1
  | [], t, i, h => by simp [onceE] at h
  | a :: l, t, i, h => by
    simp only [onceE] at h
    split at h
    · rename_i c
      simp only [Option.some.injEq, Prod.mk.injEq] at h
      exact ⟨a, by simp, c, h.1.symm⟩
    · obtain ⟨j, hj, h1, h2⟩ := onceE_some l t i h
      exact ⟨j, by simp [hj], h1, h2⟩
theorem onceR_some {e : List Nd} : ∀ (l : List Rl) (k : Nat) (t : List Nd) (a b : Nat), onceR e l k = some (t, a, b) → ∃ r ∈ l, ∃ j : Nat, j < e.length ∧ (rewR r e j).2 = true ∧ t = (rewR r e j).1
  | [], k, t, a, b, h => by simp [onceR] at h
  | r :: l, k, t, a, b, h => by
    simp only [onceR] at h
    split at h
    · rename_i t' i hE
      simp only [Option.some.injEq, Prod.mk.injEq] at h
      obtain ⟨j, hj, h1, h2⟩ := onceE_some _ t' i hE
      rw [← h.1]
      exact ⟨r, by simp, j, by simpa using hj, h1, h2⟩
    · obtain ⟨r', hr, j, h1⟩ := onceR_some l _ t a b h
      exact ⟨r', by simp [hr], j, h1⟩
/-- rewritten n times, the tree e is the tree t, of which nothing can be rewritten -/
inductive Norm (l : List Rl) : Nat → List Nd → List Nd → Prop
  | done (e : List Nd) (ht : treeOk e = true) (h : onceR e l 0 = none) : Norm l 0 e e
  | next (n : Nat) (e u t : List Nd) (a b : Nat) (ht : treeOk e = true) (h : onceR e l 0 = some (u, a, b)) (hn : Norm l n u t) : Norm l (n + 1) e t
theorem norm_is {l : List Rl} (hr : ∀ r, r ∈ l → ruleOk r = true ∧ fallP r = true) : ∀ (c : Nat) (e : List Nd), treeOk e = true → treeC e ≤ c → ∃ n t, n ≤ c ∧ Norm l n e t := by
  intro c
  induction c using Nat.strongRecOn with
  | ind c ih =>
    intro e ht hc
    cases h : onceR e l 0 with
    | none => exact ⟨0, e, by omega, .done e ht h⟩
    | some x =>
      obtain ⟨u, a, b⟩ := x
      obtain ⟨r, hm, j, hj, h1, h2⟩ := onceR_some l 0 u a b h
      obtain ⟨g1, g2⟩ := rewR_falls (hr r hm).1 (hr r hm).2 ht hj h1
      rw [← h2] at g1 g2
      have : 0 ≤ treeC u := (costP_bnd (wk u 25 ((u.length - 1 : Nat) : Int) 0)).1
      obtain ⟨n, t, hn, hN⟩ := ih (treeC u).toNat (by omega) u g1 (by omega)
      exact ⟨n + 1, t, by omega, .next n e u t a b ht h hN⟩
theorem treeC_le {e : List Nd} (ht : treeOk e = true) : treeC e ≤ 96 := by
  obtain ⟨n1, n2, n3, _⟩ := treeOk_parts ht
  have h1 := (costP_bnd (wk e 25 ((e.length - 1 : Nat) : Int) 0)).2
  have h2 := wk_24 ht (u := e.length - 1) (by omega) 0
  show costP _ ≤ 96
  omega
theorem Norm.src {l : List Rl} {n : Nat} {e t : List Nd} (h : Norm l n e t) : treeOk e = true := by cases h <;> assumption
theorem Norm.dst {l : List Rl} {n : Nat} {e t : List Nd} (h : Norm l n e t) : treeOk t = true := by
  induction h with
  | done e ht h => exact ht
  | next n e u t a b ht h hn ih => exact ih
theorem Norm.spec {l : List Rl} (hl : l.length ≤ 1048576) (hr : ∀ r, r ∈ l → ruleOk r = true) {n : Nat} {e t : List Nd} (h : Norm l n e t) : spec_NormalForm.v0 l (onceV (onceR e l 0)).2.2.2 e (onceV (onceR e l 0)).1 = some ((t, true), ()) := by
  induction h with
  | done e ht h =>
    refine spec_NormalForm.v0s _ _ _ _ ?_
    rw [h]; rfl
  | next n e u t a b ht h hn ih =>
    refine spec_NormalForm.v0s _ _ _ _ ?_
    rw [h]
    show br true (bd (spec_ruOnce.v l u) fun r3 => spec_NormalForm.v0 l r3.1.2.2.2 u r3.1.1) _ = _
    rw [br_t rfl, ruOnce_v hl hr hn.src, bd_s]
    exact ih
theorem Norm.impl {l : List Rl} (hl : l.length ≤ 1048576) (hr : ∀ r, r ∈ l → ruleOk r = true) {n : Nat} {e t : List Nd} (h : Norm l n e t) : ∀ xs : List (List Nd), xs.length + n ≤ 1000 → ∃ ys : List (List Nd), ys.length ≤ 1000 ∧ impl_rewriteRun.v0 l (xs ++ [e]) = some (ys ++ [t], ()) := by
  have hat : ∀ (xs : List (List Nd)) (e : List Nd), (xs ++ [e]).getD xs.length [] = e := fun xs e => by simp [List.getD_eq_getElem?_getD]
  have hst : ∀ (xs : List (List Nd)) (e : List Nd) (z : Option (List (List Nd) × Unit)), xs.length ≤ 1000 → treeOk e = true → (∀ w, (bd (impl_rewriteOnce.v l e) fun r2 => br (Bool.not r2.1.2.2.2) (some (xs ++ [e], ())) (br (decide ((xs ++ [e]).length + (r2.1.1 :: []).length ≤ (35184372088832 / (24 + 1)))) (impl_rewriteRun.v0 l ((xs ++ [e]) ++ (r2.1.1 :: []))) none)) = some w → impl_rewriteRun.v0 l (xs ++ [e]) = some w) := fun xs e z hx ht w hw => by
    refine impl_rewriteRun.v0s _ _ ?_
    have e1 : (((xs ++ [e]).length : Nat) : Int) = ((xs.length + 1 : Nat) : Int) := by simp
    rw [e1, last_wrap (by omega) (by omega), show xs.length + 1 - 1 = xs.length from rfl, br_t (by simp), br_t (by simp; omega), Int.toNat_natCast, gt_some (show (xs ++ [e])[xs.length]? = some e by simp), hat]
    exact hw
  induction h with
  | done e ht h =>
    intro xs hx
    refine ⟨xs, by omega, hst xs e none (by omega) ht _ ?_⟩
    rw [rewriteOnce_v hl hr ht, bd_s, h]; rfl
  | next n e u t a b ht h hn ih =>
    intro xs hx
    obtain ⟨ys, hy, hv⟩ := ih (xs ++ [e]) (by simp; omega)
    refine ⟨ys, hy, hst xs e none (by omega) ht _ ?_⟩
    rw [rewriteOnce_v hl hr ht, bd_s, h]
    show br (!true) _ _ = _
    rw [brn_t, br_t (by simp; omega)]
    exact hv
theorem cloneN_f (a : List Nd) (h1 : 1 ≤ a.length) (h2 : a.length ≤ 1048576) : slices_Clone_Node.f a = some (a, ()) := by
  rw [slices_Clone_Node.eq, br_t (by simp; omega), br_t (by simp; omega), List.nil_append]
/-- the normal form -/
theorem normal_v (l : List Rl) (e : List Nd) (hs : Shorts l) (he : e.length ≤ 1048576) : ∃ t : List Nd × Bool, t.1.length ≤ 24 ∧ spec_NormalForm.v l e = some (t, ()) ∧ impl_NormalForm.v l e = some (t, ()) := by
  by_cases c1 : rulesOk l = true
  · by_cases c2 : treeOk e = true
    · obtain ⟨r0, hr⟩ := rulesOk_mem c1
      have hr1 : ∀ r, r ∈ l → ruleOk r = true := fun r h => (hr r h).1
      obtain ⟨n1, n2, n3, _⟩ := treeOk_parts c2
      have hc := treeC_le c2
      obtain ⟨n, t, hn, hN⟩ := norm_is hr 96 e c2 hc
      obtain ⟨ys, hy, hv⟩ := hN.impl hs.len hr1 [] (by simp; omega)
      have hS := hN.spec hs.len hr1
      have t3 := (treeOk_parts hN.dst).2.2.1
      refine ⟨(t, true), t3, spec_NormalForm.vs _ _ ?_, impl_NormalForm.vs _ _ ?_⟩
      · rw [ruRules_v l hs, bd_s, c1, brn_t, ruTreeOf_v e he, bd_s, c2, brn_t, br_t (by simp; omega), List.nil_append, ruOnce_v hs.len hr1 c2, bd_s]
        exact hS
      · have hrun : impl_rewriteRun.v l e = some (ys ++ [t], ()) := by
          refine impl_rewriteRun.vs _ _ ?_
          rw [cloneN_f e n2 he, bd_s]
          exact hv
        rw [areRules_v l e hs he, bd_s, c1, c2, Bool.and_self, brn_t, hrun, bd_s]
        have e1 : (((ys ++ [t]).length : Nat) : Int) = ((ys.length + 1 : Nat) : Int) := by simp
        show br (decide ((0 : Int) ≤ IntKind.wrap .i64 ((((ys ++ [t]).length : Nat) : Int) - 1))) _ _ = _
        rw [e1, last_wrap (by omega) (by omega), show ys.length + 1 - 1 = ys.length from rfl, br_t (by simp), br_t (by simp; omega), Int.toNat_natCast, gt_some (show (ys ++ [t])[ys.length]? = some t by simp)]
        rw [show (ys ++ [t]).getD ys.length [] = t by simp [List.getD_eq_getElem?_getD]]
    · rw [Bool.not_eq_true] at c2
      refine ⟨([], false), by simp, spec_NormalForm.vs _ _ ?_, impl_NormalForm.vs _ _ ?_⟩
      · rw [ruRules_v l hs, bd_s, c1, brn_t, ruTreeOf_v e he, bd_s, c2]; rfl
      · rw [areRules_v l e hs he, bd_s, c1, c2]; rfl
  · rw [Bool.not_eq_true] at c1
    refine ⟨([], false), by simp, spec_NormalForm.vs _ _ ?_, impl_NormalForm.vs _ _ ?_⟩
    · rw [ruRules_v l hs, bd_s, c1]; rfl
    · rw [areRules_v l e hs he, bd_s, c1]; rfl
end Go.Proofs.Ytohfaccniialmaa.Am
end
section
/- The law laws_FnExactNormalForm over the machine of values. -/
set_option linter.unusedVariables false
set_option maxRecDepth 100000
set_option maxHeartbeats 1000000
namespace Go.Proofs.Ytohfaccniialmaa.Am
open Go
noncomputable def laws_FnExactNormalForm.E : En := ⟨P0, M0, [], ntOf P0 12, []⟩
noncomputable def laws_FnExactNormalForm.g : St → Option Bool := fun st => fin0 (cV false .b) (finA P0 (resOf P0 12) 0 [.id] [] st)
noncomputable def laws_FnExactNormalForm.T (k : Nat) : Table := tabs [(20, (laws_szNodeS.tab k)), (22, (laws_toNodeS.tab k)), (24, (laws_eqNodeS.tab k)), (29, (laws_markNodeS.tab k)), (40, (laws_heldNodeS.tab k)), (41, (laws_szRuleS.tab k)), (43, (laws_toRuleS.tab k)), (45, (laws_eqRuleS.tab k)), (46, (laws_markRuleS.tab k)), (47, (spec_NormalForm.tab k)), (48, (impl_NormalForm.tab k))]
noncomputable def laws_FnExactNormalForm.f (k : Nat) (a0 : (List ((List (ByteArray × (Int × (Int × Int)))) × ((List (ByteArray × (Int × (Int × Int)))) × ByteArray)))) (a1 : (List (ByteArray × (Int × (Int × Int))))) : Option Bool := go laws_FnExactNormalForm.E laws_FnExactNormalForm.T laws_FnExactNormalForm.g k [.code (bodyOf P0 12)] (initA [mkP false (.sl (.pr (.sl (.pr .s (.pr (.i .i64) (.pr (.i .i64) (.i .i64))))) (.pr (.sl (.pr .s (.pr (.i .i64) (.pr (.i .i64) (.i .i64))))) .s))) a0, mkP false (.sl (.pr .s (.pr (.i .i64) (.pr (.i .i64) (.i .i64))))) a1] [])
noncomputable def laws_FnExactNormalForm.tab (k : Nat) : List AV → List AO → Option Pack := tabI [.v false (.sl (.pr (.sl (.pr .s (.pr (.i .i64) (.pr (.i .i64) (.i .i64))))) (.pr (.sl (.pr .s (.pr (.i .i64) (.pr (.i .i64) (.i .i64))))) .s))), .v false (.sl (.pr .s (.pr (.i .i64) (.pr (.i .i64) (.i .i64)))))] [] (enc0 (cV false .b)) (laws_FnExactNormalForm.f k)
theorem laws_FnExactNormalForm.eq (k : Nat) (a0 : (List ((List (ByteArray × (Int × (Int × Int)))) × ((List (ByteArray × (Int × (Int × Int)))) × ByteArray)))) (a1 : (List (ByteArray × (Int × (Int × Int))))) : laws_FnExactNormalForm.f (k + 1) a0 a1 = (bd (laws_szRuleS.f k a0 (1048576 : Int)) fun r0 => (br (decide (r0 < (0 : Int))) (some true) (bd (laws_szNodeS.f k a1 r0) fun r1 => (br (decide (r1 < (0 : Int))) (some true) (bd (laws_toRuleS.f k a0) fun r2 => (bd (laws_toNodeS.f k a1) fun r3 => (bd (spec_NormalForm.f k r2.1 r3.1) fun r4 => (bd (laws_toRuleS.f k a0) fun r5 => (bd (laws_toNodeS.f k a1) fun r6 => (bd (impl_NormalForm.f k r5.1 r6.1) fun r7 => (bd (laws_eqNodeS.f k r7.1.1 r4.1.1) fun r8 => (br (Bool.not r8) (some false) (br (Bool.not (r7.1.2 == r4.1.2)) (some false) (bd (laws_toRuleS.f k a0) fun r9 => (bd (laws_eqRuleS.f k r5.1 r9.1) fun r10 => (br (Bool.not r10) (some false) (bd (laws_toNodeS.f k a1) fun r11 => (bd (laws_eqNodeS.f k r6.1 r11.1) fun r12 => (br (Bool.not r12) (some false) (bd (laws_markRuleS.f k (1 : Int) r5.1) fun r13 => (bd (laws_markNodeS.f k r13.1 r6.1) fun r14 => (br (decide (r14.1 < (0 : Int))) (some false) (bd (laws_eqNodeS.f k r7.1.1 r4.1.1) fun r15 => (br (Bool.not r15) (some false) (br (Bool.not (r7.1.2 == r4.1.2)) (some false) (bd (laws_markNodeS.f k (1 : Int) r7.1.1) fun r16 => (bd (laws_heldNodeS.f k r16.2 (1 : Int)) fun r17 => (br (decide (r17 < (0 : Int))) (some false) (br (r17 != r16.1) (some false) (bd (laws_toRuleS.f k a0) fun r18 => (bd (laws_toNodeS.f k a1) fun r19 => (bd (impl_NormalForm.f k r18.1 r19.1) fun r20 => (bd (laws_eqNodeS.f k r20.1.1 r4.1.1) fun r21 => (br (Bool.not r21) (some false) (br (Bool.not (r20.1.2 == r4.1.2)) (some false) (bd (laws_heldNodeS.f k r16.2 (1 : Int)) fun r22 => (br (decide (r22 < (0 : Int))) (some false) (br (r22 != r16.1) (some false) (some true))))))))))))))))))))))))))))))))))))))) := by kernel_rfl
theorem laws_FnExactNormalForm.b : fnB P0 12 (ntOf P0 12) = true := by kernel_rfl
theorem laws_FnExactNormalForm.Tok (k : Nat) : TS P0 (laws_FnExactNormalForm.T k) := (tabs_cons (laws_szNodeS.tok k) (tabs_cons (laws_toNodeS.tok k) (tabs_cons (laws_eqNodeS.tok k) (tabs_cons (laws_markNodeS.tok k) (tabs_cons (laws_heldNodeS.tok k) (tabs_cons (laws_szRuleS.tok k) (tabs_cons (laws_toRuleS.tok k) (tabs_cons (laws_eqRuleS.tok k) (tabs_cons (laws_markRuleS.tok k) (tabs_cons (spec_NormalForm.tok k) (tabs_cons (impl_NormalForm.tok k) tabs_nil)))))))))))
theorem laws_FnExactNormalForm.calls (k : Nat) (a0 : (List ((List (ByteArray × (Int × (Int × Int)))) × ((List (ByteArray × (Int × (Int × Int)))) × ByteArray)))) (a1 : (List (ByteArray × (Int × (Int × Int))))) {r : Bool} (h : laws_FnExactNormalForm.f k a0 a1 = some r) : ACalls P0 12 [mkP false (.sl (.pr (.sl (.pr .s (.pr (.i .i64) (.pr (.i .i64) (.i .i64))))) (.pr (.sl (.pr .s (.pr (.i .i64) (.pr (.i .i64) (.i .i64))))) .s))) a0, mkP false (.sl (.pr .s (.pr (.i .i64) (.pr (.i .i64) (.i .i64))))) a1] [] (enc0 (cV false .b) r) := fn0 (E := laws_FnExactNormalForm.E) mix (T := laws_FnExactNormalForm.T) laws_FnExactNormalForm.Tok (f := 12) laws_FnExactNormalForm.b (cd := (cV false .b)) (cV_ok _ _) (cvs := [.id]) h
noncomputable def laws_FnExactNormalForm.v (a0 : (List ((List (ByteArray × (Int × (Int × Int)))) × ((List (ByteArray × (Int × (Int × Int)))) × ByteArray)))) (a1 : (List (ByteArray × (Int × (Int × Int))))) := lim fun _ k => laws_FnExactNormalForm.f k a0 a1
theorem laws_FnExactNormalForm.vs (a0 : (List ((List (ByteArray × (Int × (Int × Int)))) × ((List (ByteArray × (Int × (Int × Int)))) × ByteArray)))) (a1 : (List (ByteArray × (Int × (Int × Int))))) {r} (h : (bd (laws_szRuleS.v a0 (1048576 : Int)) fun r0 => (br (decide (r0 < (0 : Int))) (some true) (bd (laws_szNodeS.v a1 r0) fun r1 => (br (decide (r1 < (0 : Int))) (some true) (bd (laws_toRuleS.v a0) fun r2 => (bd (laws_toNodeS.v a1) fun r3 => (bd (spec_NormalForm.v r2.1 r3.1) fun r4 => (bd (laws_toRuleS.v a0) fun r5 => (bd (laws_toNodeS.v a1) fun r6 => (bd (impl_NormalForm.v r5.1 r6.1) fun r7 => (bd (laws_eqNodeS.v r7.1.1 r4.1.1) fun r8 => (br (Bool.not r8) (some false) (br (Bool.not (r7.1.2 == r4.1.2)) (some false) (bd (laws_toRuleS.v a0) fun r9 => (bd (laws_eqRuleS.v r5.1 r9.1) fun r10 => (br (Bool.not r10) (some false) (bd (laws_toNodeS.v a1) fun r11 => (bd (laws_eqNodeS.v r6.1 r11.1) fun r12 => (br (Bool.not r12) (some false) (bd (laws_markRuleS.v (1 : Int) r5.1) fun r13 => (bd (laws_markNodeS.v r13.1 r6.1) fun r14 => (br (decide (r14.1 < (0 : Int))) (some false) (bd (laws_eqNodeS.v r7.1.1 r4.1.1) fun r15 => (br (Bool.not r15) (some false) (br (Bool.not (r7.1.2 == r4.1.2)) (some false) (bd (laws_markNodeS.v (1 : Int) r7.1.1) fun r16 => (bd (laws_heldNodeS.v r16.2 (1 : Int)) fun r17 => (br (decide (r17 < (0 : Int))) (some false) (br (r17 != r16.1) (some false) (bd (laws_toRuleS.v a0) fun r18 => (bd (laws_toNodeS.v a1) fun r19 => (bd (impl_NormalForm.v r18.1 r19.1) fun r20 => (bd (laws_eqNodeS.v r20.1.1 r4.1.1) fun r21 => (br (Bool.not r21) (some false) (br (Bool.not (r20.1.2 == r4.1.2)) (some false) (bd (laws_heldNodeS.v r16.2 (1 : Int)) fun r22 => (br (decide (r22 < (0 : Int))) (some false) (br (r22 != r16.1) (some false) (some true))))))))))))))))))))))))))))))))))))))) = some r) : laws_FnExactNormalForm.v a0 a1 = some r := vstep (fun d k => laws_FnExactNormalForm.eq k a0 a1) h
end Go.Proofs.Ytohfaccniialmaa.Am
end
section
/- The law FnExactNormalForm, in plain Lean. -/
namespace Go.Proofs.Ytohfaccniialmaa.Am
open Go
set_option linter.unusedVariables false
set_option linter.unusedSimpArgs false
theorem normalForm_pure (l : List Rl) (e : List Nd) (q : Qd (.sl tyRl) l) (qe : Qd (.sl tyNd) e) : ∃ k, laws_FnExactNormalForm.f k l e = some true := by
  obtain ⟨y, hy, hy1, hs⟩ := szRuleS_q l q
  refine Ev.some (lim_ev (laws_FnExactNormalForm.vs l e ?_))
  by_cases h0 : y < 0
  · simp [hy, h0]
  · have hs := hs (by omega)
    obtain ⟨z, hz, _, hl⟩ := szNodeS_q e qe y (by omega) hy1
    by_cases h1 : z < 0
    · simp [hy, h0, hz, h1]
    · have hl := hl (by omega)
      have a1 : sumR l ≤ 1048576 := hs
      have a2 := endR_le l 1
      obtain ⟨w, a3, n1, n2⟩ := normal_v l e hs hl
      have m0 := markRuleS_v 1 l (by omega) (by omega)
      have m1 := markNodeS_v (endR 1 l) e (by omega) (by omega)
      have m2 := markNodeS_v 1 w.1 (by omega) (by omega)
      have m3 := heldNodeS_v 1 w.1 (by omega) (by omega)
      have m4 := eqNodeS_v w.1 (by omega)
      have p1 : ¬ (endR 1 l + 4 * (e.length : Int) < 0) := by omega
      have p2 : ¬ (1 + 4 * (w.1.length : Int) < 0) := by omega
      simp [hy, h0, hz, h1, toRuleS_v l hs, toNodeS_v e hl, n1, n2, eqRuleS_v l hs, eqNodeS_v e hl, m0, m1, m2, m3, m4, p1, p2]
end Go.Proofs.Ytohfaccniialmaa.Am
end
