/- Plain texts: what the functions answer (part 0). -/
import Derived.Test.YtafjengmkiepbaaGreatKF1
section
/- What the laws do around the functions: arguments are measured, copied and compared. -/
namespace Go.Proofs.YtafjengmkiepbaaGreat.Am
open Go
set_option linter.unusedVariables false
set_option linter.unusedSimpArgs false

abbrev Nd := ByteArray × Int × Int × Int
abbrev Rl := List Nd × List Nd × ByteArray
theorem toNode_f (n : Nd) : laws_toNode.f n = some n := laws_toNode.eq n
theorem eqNode_f (n : Nd) : laws_eqNode.f n n = some true := by
  rw [laws_eqNode.eq]
  have : seq n.1 n.1 = true := seq_iff.2 rfl
  rw [this]
  simp [br]
/-- a measure that is not less than 0 says how long the list is -/
theorem szNode_f (n : Nd) (x : Int) (hx : 0 ≤ x) (hx1 : x ≤ 9223372036854775000) (hn : n.1.size ≤ 9223372036854775807) : ∃ y, laws_szNode.f n x = some y ∧ y ≤ x := by
  rw [laws_szNode.eq]
  rw [wrap_ok (by omega) (by omega)]
  by_cases h : x - (n.1.size : Int) < 0
  · exact ⟨-1, br_t (by simpa using h), by omega⟩
  · exact ⟨_, br_f (by simpa using h), by omega⟩
theorem szNodeS_ev (xs : List Nd) (x : Int) (hx : 0 ≤ x) (hx1 : x ≤ 9223372036854775000) (hl : xs.length ≤ maxLen) (hn : ∀ n, n ∈ xs → n.1.size ≤ maxLen) : ∃ y, Ev (fun k => laws_szNodeS.f k xs x) y ∧ y ≤ x ∧ (0 ≤ y → xs.length ≤ x ∧ y + xs.length ≤ x) := by
  have hM : maxLen = 9223372036854775807 := by decide
  have hl' : (xs.length : Int) ≤ 9223372036854775807 := by omega
  have hw : IntKind.wrap .i64 (x - (xs.length : Int)) = x - (xs.length : Int) := wrap_ok (by omega) (by omega)
  by_cases h : x - (xs.length : Int) < 0
  · exact ⟨-1, Ev.step (fun k => laws_szNodeS.eq k xs x) (by rw [hw]; exact Ev.pos (by simpa using h) (Ev.now _)), by omega, by omega⟩
  · have hle : (xs.length : Int) ≤ x := by omega
    have loop : ∀ (d i : Nat) (z : Int), i + d = xs.length → 0 ≤ z → z ≤ x → ∃ y, Ev (fun k => laws_szNodeS.l0 k xs z (i : Int)) y ∧ y ≤ z := by
      intro d
      induction d with
      | zero =>
        intro i z hi h0 h1
        exact ⟨z, Ev.step (fun k => laws_szNodeS.l0_eq k xs z i) (Ev.neg (by simp; omega) (Ev.now _)), by omega⟩
      | succ d ih =>
        intro i z hi h0 h1
        have hlt : i < xs.length := by omega
        obtain ⟨y, hy, hyz⟩ := szNode_f xs[i] z h0 (by omega) (by have := hn _ (List.getElem_mem hlt); omega)
        by_cases hy0 : y < 0
        · refine ⟨-1, Ev.step (fun k => laws_szNodeS.l0_eq k xs z i) (Ev.pos (by simpa using hlt) (Ev.pos (by simp) (Ev.get hlt (Ev.here hy (Ev.pos (by simpa using hy0) (Ev.now _)))))), by omega⟩
        · obtain ⟨r, hr, hrx⟩ := ih (i + 1) y (by omega) (by omega) (by omega)
          refine ⟨r, Ev.step (fun k => laws_szNodeS.l0_eq k xs z i) (Ev.pos (by simpa using hlt) (Ev.pos (by simp) (Ev.get hlt (Ev.here hy (Ev.neg (by simpa using hy0) ?_))))), by omega⟩
          rw [next_ok i xs.length hlt (by omega)]
          exact hr
    obtain ⟨y, hy, hyx⟩ := loop xs.length 0 (x - (xs.length : Int)) (by omega) (by omega) (by omega)
    exact ⟨y, Ev.step (fun k => laws_szNodeS.eq k xs x) (by rw [hw]; exact Ev.neg (by simpa using h) hy), by omega, fun _ => ⟨hle, by omega⟩⟩
theorem toNodeS_ev (xs : List Nd) (hl : xs.length ≤ 1048576) : Ev (fun k => laws_toNodeS.f k xs) (xs, ()) := by
  refine Ev.step (fun k => laws_toNodeS.eq k xs) (Ev.pos (by simp) (Ev.pos (by simp; omega) ?_))
  rw [Int.toNat_natCast]
  have key : ∀ (d i : Nat), i + d = xs.length → Ev (fun k => laws_toNodeS.l0 k xs (i : Int) (xs.take i ++ List.replicate (xs.length - i) ((⟨#[]⟩ : ByteArray), ((0 : Int), ((0 : Int), (0 : Int)))))) (xs, ()) := by
    intro d
    induction d with
    | zero =>
      intro i hi
      refine Ev.step (fun k => laws_toNodeS.l0_eq k xs i _) (Ev.neg (by simp; omega) (Ev.ret ?_))
      rw [show i = xs.length by omega]
      simp
    | succ d ih =>
      intro i hi
      have hlt : i < xs.length := by omega
      have hlen : (xs.take i ++ List.replicate (xs.length - i) ((⟨#[]⟩ : ByteArray), ((0 : Int), ((0 : Int), (0 : Int))))).length = xs.length := by simp; omega
      refine Ev.step (fun k => laws_toNodeS.l0_eq k xs i _) (Ev.pos (by simpa using hlt) (Ev.pos (by simp) (Ev.get hlt (Ev.here (toNode_f _) (Ev.pos (by simp) (Ev.pos (by rw [hlen]; simpa using hlt) (Ev.get (by rw [hlen]; exact hlt) ?_)))))))
      rw [next_ok i xs.length hlt (by omega), Int.toNat_natCast]
      have := set_step xs ((⟨#[]⟩ : ByteArray), ((0 : Int), ((0 : Int), (0 : Int)))) i hlt
      rw [this]
      exact ih (i + 1) (by omega)
  simpa using key xs.length 0 (by omega)
theorem eqNodeS_ev (xs : List Nd) (hl : xs.length ≤ 1048576) : Ev (fun k => laws_eqNodeS.f k xs xs) true := by
  refine Ev.step (fun k => laws_eqNodeS.eq k xs xs) (Ev.neg (by simp) ?_)
  have key : ∀ (d i : Nat), i + d = xs.length → Ev (fun k => laws_eqNodeS.l0 k xs xs (i : Int)) true := by
    intro d
    induction d with
    | zero =>
      intro i hi
      exact Ev.step (fun k => laws_eqNodeS.l0_eq k xs xs i) (Ev.neg (by simp; omega) (Ev.now _))
    | succ d ih =>
      intro i hi
      have hlt : i < xs.length := by omega
      refine Ev.step (fun k => laws_eqNodeS.l0_eq k xs xs i) (Ev.pos (by simpa using hlt) (Ev.pos (by simp) (Ev.get hlt (Ev.pos (by simp) (Ev.get hlt (Ev.here (eqNode_f _) (Ev.neg (by rfl) ?_)))))))
      rw [next_ok i xs.length hlt (by omega)]
      exact ih (i + 1) (by omega)
  exact key xs.length 0 (by omega)
/-! ### as values -/
theorem brn_t {α : Type} (x y : Option α) : br (!true) x y = y := rfl
theorem brn_f {α : Type} (x y : Option α) : br (!false) x y = x := rfl
@[simp] theorem seq_self (x : ByteArray) : seq x x = true := seq_iff.2 rfl
theorem toNodeS_v (xs : List Nd) (hl : xs.length ≤ 1048576) : laws_toNodeS.v xs = some (xs, ()) := ev_lim (toNodeS_ev xs hl)
theorem eqNodeS_v (xs : List Nd) (hl : xs.length ≤ 1048576) : laws_eqNodeS.v xs xs = some true := ev_lim (eqNodeS_ev xs hl)
theorem szNodeS_v (xs : List Nd) (x : Int) (hx : 0 ≤ x) (hx1 : x ≤ 9223372036854775000) (hl : xs.length ≤ maxLen) (hn : ∀ n, n ∈ xs → n.1.size ≤ maxLen) : ∃ y, laws_szNodeS.v xs x = some y ∧ y ≤ x ∧ (0 ≤ y → xs.length ≤ x) := by
  obtain ⟨y, h, k, m⟩ := szNodeS_ev xs x hx hx1 hl hn
  exact ⟨y, ev_lim h, k, fun h => (m h).1⟩
theorem szNodeS_v2 (xs : List Nd) (x : Int) (hx : 0 ≤ x) (hx1 : x ≤ 9223372036854775000) (hl : xs.length ≤ maxLen) (hn : ∀ n, n ∈ xs → n.1.size ≤ maxLen) : ∃ y, laws_szNodeS.v xs x = some y ∧ y ≤ x ∧ (0 ≤ y → y + xs.length ≤ x) := by
  obtain ⟨y, h, k, m⟩ := szNodeS_ev xs x hx hx1 hl hn
  exact ⟨y, ev_lim h, k, fun h => (m h).2⟩

/-! ### what is written on -/
theorem gt_mid {α β : Type} (l : List β) (x : β) (r : List β) (f : β → Option α) : gt (l ++ x :: r) l.length f = f x := gt_some (by simp)
theorem set_mid {β : Type} (l : List β) (x y : β) (r : List β) : (l ++ x :: r).set l.length y = l ++ y :: r := by simp
theorem strOf_one (x : Int) : (strOf [x]).size = 1 := rfl
theorem markText_l : ∀ (n : Nat) (x : ByteArray), n + x.size ≤ 1099511627776 * 2 → ∃ t, laws_markText.v0 (n : Int) x = some t := by
  intro n
  induction n using Nat.strongRecOn with
  | ind n ih =>
    intro x hx
    by_cases h : n = 0
    · subst h
      exact ⟨_, laws_markText.v0s _ _ (by
        have : (ByteArray.size ⟨#[109]⟩) = 1 := rfl
        simp [this]; constructor
        · omega
        · rfl)⟩
    · obtain ⟨t, ht⟩ := ih (n / 10) (by omega) (strOf [Go.IntKind.wrap .u8 (Go.IntKind.wrap .i64 ((48 : Int) + (Int.tmod n 10)))] ++ x) (by rw [ByteArray.size_append, strOf_one]; omega)
      refine ⟨t, laws_markText.v0s _ _ ?_⟩
      have e : IntKind.wrap .i64 (Int.tdiv (n : Int) 10) = ((n / 10 : Nat) : Int) := by
        rw [Int.tdiv_eq_ediv_of_nonneg (by omega), wrap_ok (by omega) (by omega)]; rfl
      rw [e, br_t (by simp; omega), br_t (by rw [strOf_one]; simp; omega)]
      exact ht
theorem markText_some (k : Int) (h : k ≤ 1099511627776) : ∃ t, laws_markText.v k = some t := by
  by_cases h0 : k ≤ 0
  · exact ⟨_, laws_markText.vs _ (br_t (by simpa using h0))⟩
  · obtain ⟨n, rfl⟩ := Int.eq_ofNat_of_zero_le (show 0 ≤ k by omega)
    obtain ⟨t, ht⟩ := markText_l n ⟨#[]⟩ (by have : ByteArray.size ⟨#[]⟩ = 0 := rfl; rw [this]; omega)
    exact ⟨t, laws_markText.vs _ ((br_f (by simpa using h0)).trans ht)⟩
noncomputable def mt (k : Int) : ByteArray := (laws_markText.v k).getD default
theorem mt_v (k : Int) (h : k ≤ 1099511627776) : laws_markText.v k = some (mt k) := by
  obtain ⟨t, ht⟩ := markText_some k h
  unfold mt; rw [ht]; rfl
noncomputable def mkN : Int → List Nd → List Nd
  | _, [] => []
  | k, _ :: r => (mt k, k + 1, k + 2, k + 3) :: mkN (k + 4) r
theorem mkN_len : ∀ (l : List Nd) (k : Int), (mkN k l).length = l.length
  | [], _ => rfl
  | _ :: r, k => by simp [mkN, mkN_len r]
theorem markNodeS_l : ∀ (r l : List Nd) (k : Int), 0 ≤ k → k + 4 * r.length ≤ 1000000000 → l.length + r.length ≤ 1000000000 → laws_markNodeS.v0 k (l.length : Int) (l ++ r) = some (k + 4 * r.length, l ++ mkN k r)
  | [], l, k, h0, h1, h2 => laws_markNodeS.v0s _ _ _ (by simp [mkN])
  | n :: r, l, k, h0, h1, h2 => by
    simp only [List.length_cons] at h1 h2
    have ih := markNodeS_l r (l ++ [(mt k, k + 1, k + 2, k + 3)]) (k + 4) (by omega) (by omega) (by simp; omega)
    refine laws_markNodeS.v0s _ _ _ ?_
    have w1 : IntKind.wrap .i64 (k + 1) = k + 1 := wrap_ok (by omega) (by omega)
    have w2 : IntKind.wrap .i64 (k + 1 + 1) = k + 2 := by rw [wrap_ok (by omega) (by omega)]; omega
    have w3 : IntKind.wrap .i64 (k + 2 + 1) = k + 3 := by rw [wrap_ok (by omega) (by omega)]; omega
    have w4 : IntKind.wrap .i64 (k + 3 + 1) = k + 4 := by rw [wrap_ok (by omega) (by omega)]; omega
    have wi : IntKind.wrap .i64 ((l.length : Int) + 1) = ((l.length + 1 : Nat) : Int) := by rw [wrap_ok (by omega) (by omega)]; rfl
    have hlt : ((l.length : Int) < ((l.length + (r.length + 1) : Nat) : Int)) := by omega
    simp only [w1, w2, w3, w4, wi, mt_v k (by omega), Int.toNat_natCast, set_mid, gt_mid, bd_s, List.length_append, List.length_cons]
    simp only [br_if, hlt, decide_true, if_true, Int.natCast_nonneg]
    simp only [List.length_append, List.length_cons, List.length_nil, List.append_assoc, List.cons_append, List.nil_append, Nat.zero_add] at ih
    rw [ih]
    simp only [mkN, List.length_cons]
    congr 2
    omega
theorem markNodeS_v (k : Int) (r : List Nd) (h0 : 0 ≤ k) (h1 : k + 4 * r.length ≤ 1000000000) : laws_markNodeS.v k r = some (k + 4 * r.length, mkN k r) :=
  laws_markNodeS.vs _ _ (by have := markNodeS_l r [] k h0 h1 (by simp; omega); simpa using this)
end Go.Proofs.YtafjengmkiepbaaGreat.Am
end
section
/- Lists of texts and numbers that are searched; numbers within bounds. -/
namespace Go.Proofs.YtafjengmkiepbaaGreat.Am
open Go
set_option linter.unusedVariables false
set_option linter.unusedSimpArgs false

theorem seq_beq (x y : ByteArray) : seq x y = decide (x = y) := by
  by_cases h : x = y
  · rw [decide_eq_true h]; exact seq_iff.2 h
  · rw [decide_eq_false h]
    cases e : seq x y with
    | false => rfl
    | true => exact absurd (seq_iff.1 e) h
/-- is a text among these -/
def isIn (l : List ByteArray) (s : ByteArray) : Bool := l.any fun x => decide (x = s)
theorem drop_at {α : Type} (l : List α) (i : Nat) (h : i < l.length) : l.drop i = l[i] :: l.drop (i + 1) := List.drop_eq_getElem_cons h
theorem l1HasS_ev (l : List ByteArray) (s : ByteArray) (hl : l.length ≤ 9223372036854775000) : Ev (fun k => spec_l1HasS.f k l s) (isIn l s) := by
  refine Ev.step (fun k => spec_l1HasS.eq k l s) ?_
  have := Ev.loop l.length (fun k i => spec_l1HasS.l0 k s l (l.length : Int) (i : Int)) (fun i => isIn (l.drop i) s) ?_ ?_ 0 (by omega)
  · exact this
  · exact Ev.step (fun k => spec_l1HasS.l0_eq k s l _ _) (Ev.neg (by simp) (Ev.ret (by simp [isIn])))
  · intro i hi ih
    refine Ev.step (fun k => spec_l1HasS.l0_eq k s l _ _) (Ev.pos (by simpa using hi) (Ev.pos (by simp) (Ev.get hi ?_)))
    rw [next_ok i _ hi hl, seq_beq]
    by_cases c : l[i] = s
    · exact Ev.pos (by simp [c]) (Ev.ret (by unfold isIn; rw [drop_at _ _ hi, List.any_cons]; simp [c]))
    · exact Ev.neg (by simp [c]) (Ev.eq ih (by unfold isIn; rw [drop_at _ _ hi, List.any_cons]; simp [c]))
theorem containsS_ev (l : List ByteArray) (s : ByteArray) (hl : l.length ≤ 9223372036854775000) : Ev (fun k => slices_Contains_string.f k l s) (isIn l s) := by
  have key : ∀ (d : Nat) (i : Nat), i + d = l.length → ∃ r : Int, Ev (fun k => slices_Index_string.l0 k l s (l.length : Int) (i : Int)) r ∧ (0 ≤ r ↔ isIn (l.drop i) s = true) := by
    intro d
    induction d with
    | zero =>
      intro i h
      refine ⟨-1, Ev.step (fun k => slices_Index_string.l0_eq k l s _ _) (Ev.neg (by simp; omega) (Ev.now _)), ?_⟩
      rw [List.drop_eq_nil_of_le (by omega)]; simp [isIn]
    | succ d ih =>
      intro i h
      have hi : i < l.length := by omega
      by_cases c : l[i] = s
      · refine ⟨i, Ev.step (fun k => slices_Index_string.l0_eq k l s _ _) (Ev.pos (by simpa using hi) (Ev.pos (by simp) (Ev.get hi (Ev.pos (by rw [seq_beq]; simp [c]) (Ev.now _))))), ?_⟩
        unfold isIn; rw [drop_at _ _ hi, List.any_cons]; simp [c]
      · obtain ⟨r, hev, hiff⟩ := ih (i + 1) (by omega)
        refine ⟨r, Ev.step (fun k => slices_Index_string.l0_eq k l s _ _) (Ev.pos (by simpa using hi) (Ev.pos (by simp) (Ev.get hi (Ev.neg (by rw [seq_beq]; simp only [decide_eq_false_iff_not]; exact fun e => c e.symm) (by rw [next_ok i _ hi hl]; exact hev))))), ?_⟩
        rw [hiff]; unfold isIn; rw [drop_at _ _ hi, List.any_cons]; simp [c]
  obtain ⟨r, hev, hiff⟩ := key l.length 0 (by omega)
  refine Ev.step (fun k => slices_Contains_string.eq k l s) (Ev.bind (b := r) (Ev.step (fun k => slices_Index_string.eq k l s) hev) (Ev.ret ?_))
  rw [Bool.eq_iff_iff, decide_eq_true_iff]
  exact hiff
theorem containsI_ev (l : List Int) (s : Int) (hl : l.length ≤ 9223372036854775000) : Ev (fun k => slices_Contains_int.f k l s) (decide (s ∈ l)) := by
  have key : ∀ (d : Nat) (i : Nat), i + d = l.length → ∃ r : Int, Ev (fun k => slices_Index_int.l0 k l s (l.length : Int) (i : Int)) r ∧ (0 ≤ r ↔ s ∈ l.drop i) := by
    intro d
    induction d with
    | zero =>
      intro i h
      refine ⟨-1, Ev.step (fun k => slices_Index_int.l0_eq k l s _ _) (Ev.neg (by simp; omega) (Ev.now _)), ?_⟩
      rw [List.drop_eq_nil_of_le (by omega)]; simp
    | succ d ih =>
      intro i h
      have hi : i < l.length := by omega
      by_cases c : s = l[i]
      · refine ⟨i, Ev.step (fun k => slices_Index_int.l0_eq k l s _ _) (Ev.pos (by simpa using hi) (Ev.pos (by simp) (Ev.get hi (Ev.pos (by simp [c]) (Ev.now _))))), ?_⟩
        rw [drop_at _ _ hi, List.mem_cons]; simp [c]
      · obtain ⟨r, hev, hiff⟩ := ih (i + 1) (by omega)
        refine ⟨r, Ev.step (fun k => slices_Index_int.l0_eq k l s _ _) (Ev.pos (by simpa using hi) (Ev.pos (by simp) (Ev.get hi (Ev.neg (by simp [c]) (by rw [next_ok i _ hi hl]; exact hev))))), ?_⟩
        rw [hiff, drop_at _ _ hi, List.mem_cons]; simp [c]
  obtain ⟨r, hev, hiff⟩ := key l.length 0 (by omega)
  refine Ev.step (fun k => slices_Contains_int.eq k l s) (Ev.bind (b := r) (Ev.step (fun k => slices_Index_int.eq k l s) hev) (Ev.ret ?_))
  rw [Bool.eq_iff_iff, decide_eq_true_iff, decide_eq_true_iff]
  exact hiff
theorem l1Has_ev (l : List Int) (s : Int) (hl : l.length ≤ 9223372036854775000) : Ev (fun k => spec_l1Has.f k l s) (decide (s ∈ l)) := by
  refine Ev.step (fun k => spec_l1Has.eq k l s) ?_
  have := Ev.loop l.length (fun k i => spec_l1Has.l0 k s l (l.length : Int) (i : Int)) (fun i => decide (s ∈ l.drop i)) ?_ ?_ 0 (by omega)
  · exact this
  · exact Ev.step (fun k => spec_l1Has.l0_eq k s l _ _) (Ev.neg (by simp) (Ev.ret (by simp)))
  · intro i hi ih
    refine Ev.step (fun k => spec_l1Has.l0_eq k s l _ _) (Ev.pos (by simpa using hi) (Ev.pos (by simp) (Ev.get hi ?_)))
    rw [next_ok i _ hi hl]
    by_cases c : l[i] = s
    · exact Ev.pos (by simp [c]) (Ev.ret (by rw [drop_at _ _ hi]; simp only [List.mem_cons]; simp [c]))
    · exact Ev.neg (by simp [c]) (Ev.eq ih (by rw [drop_at _ _ hi]; simp only [List.mem_cons]; have e : ¬ s = l[i] := fun e => c e.symm; simp [e]))
/-- is a number within these bounds -/
def inB (n lo hi : Int) : Bool := decide (lo ≤ n) && decide (n ≤ hi)
theorem l1In_f (n lo hi : Int) : spec_l1In.f n lo hi = some (inB n lo hi) := by
  rw [spec_l1In.eq]; unfold inB
  by_cases h : lo ≤ n
  · rw [br_t (by simpa using h)]; simp [h]
  · rw [br_f (by simpa using h)]; simp [h]
theorem within_f (n lo hi : Int) : impl_within.f n lo hi = some (inB n lo hi) := by
  rw [impl_within.eq]; unfold inB
  by_cases h : lo ≤ n
  · rw [br_t (by simpa using h)]; simp [h]
  · rw [br_f (by simpa using h)]; simp [h]
theorem exWord_f (n : Int) : spec_exWord.f n = some (inB n 0 63) := by rw [spec_exWord.eq, l1In_f]; rfl
theorem isWord_f (n : Int) : impl_isWord.f n = some (inB n 0 63) := by rw [impl_isWord.eq, within_f]; rfl
end Go.Proofs.YtafjengmkiepbaaGreat.Am
end
section
/- Expressions: which operands a node has, where a node may stand; the program's functions and the reference's answer alike. -/
namespace Go.Proofs.YtafjengmkiepbaaGreat.Am
open Go
set_option linter.unusedVariables false
set_option linter.unusedSimpArgs false

abbrev tIn : ByteArray := ⟨#[105, 110]⟩
abbrev tConst : ByteArray := ⟨#[99, 111, 110, 115, 116]⟩
abbrev tNot : ByteArray := ⟨#[110, 111, 116]⟩
abbrev tNeg : ByteArray := ⟨#[110, 101, 103]⟩
def opsL : List ByteArray := [(⟨#[97, 100, 100]⟩ : ByteArray), (⟨#[115, 117, 98]⟩ : ByteArray), (⟨#[109, 117, 108]⟩ : ByteArray), (⟨#[97, 110, 100]⟩ : ByteArray), (⟨#[111, 114]⟩ : ByteArray), (⟨#[120, 111, 114]⟩ : ByteArray), (⟨#[115, 104, 108]⟩ : ByteArray), (⟨#[115, 104, 114]⟩ : ByteArray), (⟨#[108, 101, 115, 115]⟩ : ByteArray), (⟨#[101, 113]⟩ : ByteArray)]
def isTwo (s : ByteArray) : Bool := isIn opsL s
def isOne (s : ByteArray) : Bool := decide (s = tNot) || decide (s = tNeg)
/-- how many operands an op has; -1: it is none -/
def arity (s : ByteArray) : Int := if s = tIn then 0 else if s = tConst then 0 else if isOne s = true then 1 else if isTwo s = true then 2 else -1
theorem isOne_mem {s : ByteArray} (h : isOne s = true) : s = tNot ∨ s = tNeg := by
  unfold isOne at h
  simpa using h
theorem arity_one {s : ByteArray} (h : isOne s = true) : arity s = 1 := by
  unfold arity
  rw [if_neg (by rcases isOne_mem h with e | e <;> rw [e] <;> decide), if_neg (by rcases isOne_mem h with e | e <;> rw [e] <;> decide), if_pos h]
theorem isTwo_not {s : ByteArray} (h : isTwo s = true) : s ≠ tIn ∧ s ≠ tConst ∧ isOne s = false := by
  refine ⟨fun e => ?_, fun e => ?_, ?_⟩
  · rw [e] at h; revert h; decide
  · rw [e] at h; revert h; decide
  · cases h1 : isOne s with
    | false => rfl
    | true => rcases isOne_mem h1 with e | e <;> (rw [e] at h; revert h; decide)
theorem arity_two {s : ByteArray} (h : isTwo s = true) : arity s = 2 := by
  obtain ⟨h1, h2, h3⟩ := isTwo_not h
  unfold arity
  rw [if_neg h1, if_neg h2, if_neg (by simp [h3]), if_pos h]
theorem arity_cases (s : ByteArray) : (arity s = -1 ∧ isOne s = false ∧ isTwo s = false) ∨ (arity s = 0 ∧ isOne s = false ∧ isTwo s = false) ∨ (arity s = 1 ∧ isOne s = true ∧ isTwo s = false) ∨ (arity s = 2 ∧ isOne s = false ∧ isTwo s = true) := by
  by_cases h2 : isTwo s = true
  · exact .inr (.inr (.inr ⟨arity_two h2, (isTwo_not h2).2.2, h2⟩))
  · have h2' : isTwo s = false := by simpa using h2
    by_cases h1 : isOne s = true
    · exact .inr (.inr (.inl ⟨arity_one h1, h1, h2'⟩))
    · have h1' : isOne s = false := by simpa using h1
      by_cases c : s = tIn
      · exact .inr (.inl ⟨by unfold arity; rw [if_pos c], h1', h2'⟩)
      · by_cases c2 : s = tConst
        · exact .inr (.inl ⟨by unfold arity; rw [if_neg c, if_pos c2], h1', h2'⟩)
        · exact .inl ⟨by unfold arity; rw [if_neg c, if_neg c2, if_neg h1, if_neg h2], h1', h2'⟩
theorem arity_eq_one {s : ByteArray} : arity s = 1 ↔ isOne s = true := by
  rcases arity_cases s with ⟨h, h1, h2⟩ | ⟨h, h1, h2⟩ | ⟨h, h1, h2⟩ | ⟨h, h1, h2⟩ <;> rw [h, h1] <;> simp
theorem arity_eq_two {s : ByteArray} : arity s = 2 ↔ isTwo s = true := by
  rcases arity_cases s with ⟨h, h1, h2⟩ | ⟨h, h1, h2⟩ | ⟨h, h1, h2⟩ | ⟨h, h1, h2⟩ <;> rw [h, h2] <;> simp
theorem seq_t {x y : ByteArray} (h : x = y) : seq x y = true := seq_iff.2 h
theorem seq_f {x y : ByteArray} (h : ¬ x = y) : seq x y = false := by rw [seq_beq]; simp [h]
theorem exOne_f (s : ByteArray) : spec_exOne.f s = some (isOne s) := by
  rw [spec_exOne.eq, seq_beq, seq_beq]
  unfold isOne
  by_cases h : s = tNot
  · rw [br_t (by simpa using h)]; simp [h]
  · rw [br_f (by simpa using h)]; simp [h]
theorem exTwo_ev (s : ByteArray) : Ev (fun k => spec_exTwo.f k s) (isTwo s) := Ev.step (fun k => spec_exTwo.eq k s) (Ev.here spec_exOps.eq (Ev.bind (l1HasS_ev opsL s (by decide)) (Ev.now _)))
theorem operands_ev (s : ByteArray) : Ev (fun k => impl_operands.f k s) (arity s) := by
  refine Ev.step (fun k => impl_operands.eq k s) ?_
  unfold arity
  by_cases c : s = tIn
  · rw [if_pos c]; exact Ev.pos (seq_t c) (Ev.now _)
  · refine Ev.neg (seq_f c) ?_
    rw [if_neg c]
    by_cases c2 : s = tConst
    · rw [if_pos c2]; exact Ev.pos (seq_t c2) (Ev.now _)
    · refine Ev.neg (seq_f c2) ?_
      rw [if_neg c2]
      by_cases c3 : s = tNot
      · rw [if_pos (by unfold isOne; simp [c3])]; exact Ev.pos (seq_t c3) (Ev.now _)
      · refine Ev.neg (seq_f c3) ?_
        by_cases c4 : s = tNeg
        · rw [if_pos (by unfold isOne; simp [c4])]; exact Ev.pos (seq_t c4) (Ev.now _)
        · refine Ev.neg (seq_f c4) (Ev.here impl_binary.eq (Ev.bind (containsS_ev opsL s (by decide)) ?_))
          rw [if_neg (by unfold isOne; simp [c3, c4])]
          by_cases h : isTwo s = true
          · rw [if_pos h]; exact Ev.pos h (Ev.now _)
          · have h' : isTwo s = false := by simpa using h
            rw [if_neg h]; exact Ev.neg h' (Ev.now _)

/-! ### nodes -/
/-- the operands of a node -/
def partsOf (n : Nd) : List Int := if arity n.1 = 1 then [n.2.1] else if arity n.1 = 2 then [n.2.1, n.2.2.1] else []
theorem parts_le (n : Nd) : (partsOf n).length ≤ 2 := by unfold partsOf; split <;> (try split) <;> simp
theorem exParts_ev (n : Nd) : Ev (fun k => spec_exParts.f k n) (partsOf n) := by
  refine Ev.step (fun k => spec_exParts.eq k n) (Ev.here (exOne_f _) ?_)
  unfold partsOf
  by_cases h : isOne n.1 = true
  · exact Ev.pos h (Ev.ret (by rw [if_pos (arity_one h)]))
  · refine Ev.neg (by simpa using h) (Ev.bind (exTwo_ev n.1) ?_)
    rw [if_neg (fun e => h (arity_eq_one.1 e))]
    by_cases h2 : isTwo n.1 = true
    · exact Ev.pos h2 (Ev.ret (by rw [if_pos (arity_two h2)]))
    · exact Ev.neg (by simpa using h2) (Ev.ret (by rw [if_neg (fun e => h2 (arity_eq_two.1 e))]))
theorem of_ev (n : Nd) : Ev (fun k => impl_Node_of.f k n) (partsOf n) := by
  refine Ev.step (fun k => impl_Node_of.eq k n) (Ev.bind (operands_ev n.1) ?_)
  unfold partsOf
  rcases arity_cases n.1 with ⟨h, _⟩ | ⟨h, _⟩ | ⟨h, _⟩ | ⟨h, _⟩ <;> rw [h] <;> exact Ev.pos (by decide) (Ev.pos (by simp [maxI]) (Ev.ret (by simp [maxI])))
/-- may this node stand at place i -/
def nodeOk (n : Nd) (i : Int) : Bool :=
  if n.1 = tIn then decide (n.2.1 = 0) && decide (n.2.2.1 = 0) && inB n.2.2.2 0 1
  else if n.1 = tConst then decide (n.2.1 = 0) && decide (n.2.2.1 = 0) && inB n.2.2.2 0 63
  else if isOne n.1 = true then inB n.2.1 0 (i - 1) && decide (n.2.2.1 = 0) && decide (n.2.2.2 = 0)
  else isTwo n.1 && inB n.2.1 0 (i - 1) && inB n.2.2.1 0 (i - 1) && decide (n.2.2.2 = 0)
theorem exNode_ev (n : Nd) (i : Int) (h0 : 0 ≤ i) (h1 : i ≤ 9223372036854775807) : Ev (fun k => spec_exNode.f k n i) (nodeOk n i) := by
  refine Ev.step (fun k => spec_exNode.eq k n i) ?_
  unfold nodeOk
  rw [wrap_ok (by omega) (by omega)]
  simp only [l1In_f, exWord_f, exOne_f]
  by_cases c : n.1 = tIn
  · refine Ev.pos (seq_t c) ?_
    rw [if_pos c]
    by_cases a : n.2.1 = 0
    · by_cases b : n.2.2.1 = 0
      · exact Ev.pos (by simpa using a) (Ev.pos (by simpa using b) (Ev.here rfl (Ev.ret (by simp [a, b]))))
      · exact Ev.pos (by simpa using a) (Ev.neg (by simpa using b) (Ev.ret (by simp [b])))
    · exact Ev.neg (by simpa using a) (Ev.ret (by simp [a]))
  · refine Ev.neg (seq_f c) ?_
    rw [if_neg c]
    by_cases c2 : n.1 = tConst
    · refine Ev.pos (seq_t c2) ?_
      rw [if_pos c2]
      by_cases a : n.2.1 = 0
      · by_cases b : n.2.2.1 = 0
        · exact Ev.pos (by simpa using a) (Ev.pos (by simpa using b) (Ev.here rfl (Ev.ret (by simp [a, b]))))
        · exact Ev.pos (by simpa using a) (Ev.neg (by simpa using b) (Ev.ret (by simp [b])))
      · exact Ev.neg (by simpa using a) (Ev.ret (by simp [a]))
    · refine Ev.neg (seq_f c2) ?_
      rw [if_neg c2]
      refine Ev.here rfl ?_
      by_cases h : isOne n.1 = true
      · refine Ev.pos h (Ev.here rfl ?_)
        rw [if_pos h]
        cases hb : inB n.2.1 0 (i - 1)
        · exact Ev.neg rfl (Ev.ret (by simp))
        · by_cases b : n.2.2.1 = 0
          · exact Ev.pos rfl (Ev.pos (by simpa using b) (Ev.ret (by simp [b]; rfl)))
          · exact Ev.pos rfl (Ev.neg (by simpa using b) (Ev.ret (by simp [b])))
      · refine Ev.neg (by simpa using h) (Ev.bind (exTwo_ev n.1) ?_)
        rw [if_neg h]
        cases h2 : isTwo n.1
        · exact Ev.neg rfl (Ev.ret (by simp))
        · refine Ev.pos rfl (Ev.here rfl ?_)
          cases hb : inB n.2.1 0 (i - 1)
          · exact Ev.neg rfl (Ev.ret (by simp))
          · refine Ev.pos rfl (Ev.here rfl ?_)
            cases hb2 : inB n.2.2.1 0 (i - 1)
            · exact Ev.neg rfl (Ev.ret (by simp))
            · exact Ev.pos rfl (Ev.ret (by simp; rfl))
end Go.Proofs.YtafjengmkiepbaaGreat.Am
end
section
/- The forms of ops and their costs: the program's and the reference's. -/
namespace Go.Proofs.YtafjengmkiepbaaGreat.Am
open Go
set_option linter.unusedVariables false
set_option linter.unusedSimpArgs false

abbrev tSet : ByteArray := ⟨#[115, 101, 116]⟩
abbrev tMov : ByteArray := ⟨#[109, 111, 118]⟩
abbrev tMul : ByteArray := ⟨#[109, 117, 108]⟩
abbrev tShl : ByteArray := ⟨#[115, 104, 108]⟩
abbrev tShr : ByteArray := ⟨#[115, 104, 114]⟩
abbrev tAddi : ByteArray := ⟨#[97, 100, 100, 105]⟩
abbrev tAndi : ByteArray := ⟨#[97, 110, 100, 105]⟩
abbrev tXori : ByteArray := ⟨#[120, 111, 114, 105]⟩
abbrev tShli : ByteArray := ⟨#[115, 104, 108, 105]⟩
abbrev tShri : ByteArray := ⟨#[115, 104, 114, 105]⟩
abbrev tLea : ByteArray := ⟨#[108, 101, 97]⟩
/-- the cost of an op -/
def opCost (s : ByteArray) : Int := if s = tMul then 4 else if s = tShl then 2 else if s = tShr then 2 else 1
theorem cdCost_f (s : ByteArray) : spec_cdCost.f s = some (opCost s) := by
  rw [spec_cdCost.eq]
  unfold opCost
  simp only [seq_beq, br_if, decide_eq_true_eq]
  repeat' split
  all_goals first | rfl | simp_all
theorem opCost_pos (s : ByteArray) : 1 ≤ opCost s ∧ opCost s ≤ 4 := by
  unfold opCost
  repeat' split
  all_goals omega
abbrev Form := Bool × Bool × Int × Int × Int × ByteArray
/-- the form of an op -/
def formP (s : ByteArray) : Form × Bool :=
  if s = tSet then ((false, false, 0, 63, 1, s), true)
  else if s = tMov then ((true, false, 1, 0, 1, s), true)
  else if isOne s = true then ((true, false, 1, 0, 1, s), true)
  else if isTwo s = true then ((true, true, 1, 0, opCost s, s), true)
  else if s = tAddi then ((true, false, 0, 63, 1, s.extract 0 3), true)
  else if s = tAndi then ((true, false, 0, 63, 1, s.extract 0 3), true)
  else if s = tXori then ((true, false, 0, 63, 1, s.extract 0 3), true)
  else if s = tShli then ((true, false, 1, 5, 1, s.extract 0 3), true)
  else if s = tShri then ((true, false, 1, 5, 1, s.extract 0 3), true)
  else if s = tLea then ((true, true, 1, 3, 1, s), true)
  else ((false, false, 0, 0, 0, ⟨#[]⟩), false)
theorem containsS_v (l : List ByteArray) (s : ByteArray) (hl : l.length ≤ 9223372036854775000) : slices_Contains_string.v l s = some (isIn l s) := ev_lim (containsS_ev l s hl)
theorem formOf_v (s : ByteArray) : impl_formOf.v s = some (formP s) := by
  refine impl_formOf.vs _ ?_
  have hc := containsS_v opsL s (by decide)
  unfold opsL at hc
  simp only [impl_binary.eq, bd_s, hc, seq_beq, br_if, decide_eq_true_eq]
  have e2 : isIn [(⟨#[97, 100, 100]⟩ : ByteArray), (⟨#[115, 117, 98]⟩ : ByteArray), (⟨#[109, 117, 108]⟩ : ByteArray), (⟨#[97, 110, 100]⟩ : ByteArray), (⟨#[111, 114]⟩ : ByteArray), (⟨#[120, 111, 114]⟩ : ByteArray), (⟨#[115, 104, 108]⟩ : ByteArray), (⟨#[115, 104, 114]⟩ : ByteArray), (⟨#[108, 101, 115, 115]⟩ : ByteArray), (⟨#[101, 113]⟩ : ByteArray)] s = isTwo s := rfl
  rw [e2]
  by_cases c1 : s = tSet
  · subst c1; simp [formP]
  by_cases c2 : s = tMov
  · subst c2; simp [formP]
  by_cases c3 : s = tNot
  · subst c3; simp [formP, isOne]
  by_cases c4 : s = tNeg
  · subst c4; simp [formP, isOne]
  have h1 : isOne s = false := by unfold isOne; simp [c3, c4]
  by_cases h2 : isTwo s = true
  · simp only [formP, c1, c2, c3, c4, h1, h2, if_false, if_true, Bool.false_eq_true, opCost]
    by_cases d1 : s = tShl
    · subst d1; rfl
    by_cases d2 : s = tShr
    · subst d2; rfl
    by_cases d3 : s = tMul
    · subst d3; rfl
    simp only [d1, d2, d3, if_false]
  by_cases c5 : s = tAddi
  · subst c5; simp [formP, h2, isOne]; decide
  by_cases c6 : s = tAndi
  · subst c6; simp [formP, h2, isOne]; decide
  by_cases c7 : s = tXori
  · subst c7; simp [formP, h2, isOne]; decide
  by_cases c8 : s = tShli
  · subst c8; simp [formP, h2, isOne]; decide
  by_cases c9 : s = tShri
  · subst c9; simp [formP, h2, isOne]; decide
  by_cases c10 : s = tLea
  · subst c10; simp [formP, h2, isOne]
  simp only [formP, c1, c2, c3, c4, h1, h2, c5, c6, c7, c8, c9, c10, if_false, Bool.false_eq_true]
theorem formP_cost {s : ByteArray} (h : 0 < arity s) : (formP s).1.2.2.2.2.1 = opCost s := by
  rcases arity_cases s with ⟨e, _⟩ | ⟨e, _⟩ | ⟨_, e, _⟩ | ⟨_, _, e⟩
  · omega
  · omega
  · rcases isOne_mem e with rfl | rfl <;> decide
  · have h1 := (isTwo_not e).2.2
    have d1 : s ≠ tSet := fun q => by subst q; revert e; decide
    have d2 : s ≠ tMov := fun q => by subst q; revert e; decide
    simp only [formP, d1, d2, h1, e, if_false, if_true, Bool.false_eq_true]
end Go.Proofs.YtafjengmkiepbaaGreat.Am
end
section
/- Where a node may stand: the program's function; how often each node is an operand. -/
namespace Go.Proofs.YtafjengmkiepbaaGreat.Am
open Go
set_option linter.unusedVariables false
set_option linter.unusedSimpArgs false

theorem isNode_ev (n : Nd) (i : Int) (h0 : 0 ≤ i) (h1 : i ≤ 9223372036854775807) : Ev (fun k => impl_Node_isNode.f k n i) (nodeOk n i) := by
  refine Ev.step (fun k => impl_Node_isNode.eq k n i) (Ev.bind (operands_ev n.1) ?_)
  -- behind both places
  have hend : ∀ m : Int, m = arity n.1 → Ev (fun k => impl_Node_isNode.l0 k i m 2 2 n.1 n.2.1 n.2.2.1 n.2.2.2 [n.2.1, n.2.2.1]) (if n.1 = tIn then inB n.2.2.2 0 1 else if n.1 = tConst then inB n.2.2.2 0 63 else decide (m > 0) && decide (n.2.2.2 = 0)) := by
    intro m hm
    refine Ev.step (fun k => impl_Node_isNode.l0_eq k _ _ _ _ _ _ _ _ _) (Ev.neg (by simp) ?_)
    by_cases c : n.1 = tIn
    · exact Ev.pos (seq_t c) (Ev.here (within_f _ _ _) (Ev.ret (by rw [if_pos c])))
    · refine Ev.neg (seq_f c) ?_
      rw [if_neg c]
      by_cases c2 : n.1 = tConst
      · exact Ev.pos (seq_t c2) (Ev.here (isWord_f _) (Ev.ret (by rw [if_pos c2])))
      · refine Ev.neg (seq_f c2) ?_
        rw [if_neg c2]
        by_cases p : m > 0
        · exact Ev.pos (by simpa using p) (Ev.ret (by simp [p]; rfl))
        · exact Ev.neg (by simpa using p) (Ev.ret (by simp [p]))
  -- one place
  have hone : ∀ (m : Int) (j : Nat) (x : Int) (R : Bool), j < 2 → [n.2.1, n.2.2.1][j]? = some x → Ev (fun k => impl_Node_isNode.l0 k i m 2 ((j + 1 : Nat) : Int) n.1 n.2.1 n.2.2.1 n.2.2.2 [n.2.1, n.2.2.1]) R →
      Ev (fun k => impl_Node_isNode.l0 k i m 2 (j : Int) n.1 n.2.1 n.2.2.1 n.2.2.2 [n.2.1, n.2.2.1]) ((if (j : Int) < m then inB x 0 (i - 1) else decide (x = 0)) && R) := by
    intro m j x R hj hx hR
    refine Ev.step (fun k => impl_Node_isNode.l0_eq k _ _ _ _ _ _ _ _ _) (Ev.pos (by simp; omega) (Ev.pos (by simp) (Ev.pos (by simp; omega) (Ev.at (b := x) (by rw [Int.toNat_natCast]; exact hx) ?_))))
    rw [wrap_ok (x := i - 1) (by omega) (by omega), next_ok j 2 hj (by omega)]
    by_cases hm : (j : Int) < m
    · refine Ev.pos (by simpa using hm) (Ev.here (within_f _ _ _) ?_)
      rw [if_pos hm]
      cases hb : inB x 0 (i - 1) with
      | true => exact Ev.neg rfl (Ev.neg (by simp; omega) (by simpa using hR))
      | false => exact Ev.pos rfl (Ev.ret (by simp))
    · refine Ev.neg (by simpa using hm) (Ev.pos (by simp; omega) ?_)
      rw [if_neg hm]
      by_cases h0 : x = 0
      · exact Ev.neg (by simp [h0]) (by simpa [h0] using hR)
      · exact Ev.pos (by simpa using h0) (Ev.ret (by simp [h0]))
  have h1' := hone (arity n.1) 1 n.2.2.1 _ (by omega) rfl (hend (arity n.1) rfl)
  have h0' := hone (arity n.1) 0 n.2.1 _ (by omega) rfl h1'
  refine Ev.eq h0' ?_
  unfold nodeOk
  by_cases c : n.1 = tIn
  · have ha : arity n.1 = 0 := by unfold arity; rw [if_pos c]
    rw [ha, if_pos c, if_pos c]
    simp [Bool.and_assoc]
  · rw [if_neg c, if_neg c]
    by_cases c2 : n.1 = tConst
    · have ha : arity n.1 = 0 := by unfold arity; rw [if_neg c, if_pos c2]
      rw [ha, if_pos c2, if_pos c2]
      simp [Bool.and_assoc]
    · rw [if_neg c2, if_neg c2]
      rcases arity_cases n.1 with ⟨ha, h1, h2⟩ | ⟨ha, h1, h2⟩ | ⟨ha, h1, h2⟩ | ⟨ha, h1, h2⟩ <;> rw [ha, h1, h2] <;> simp [Bool.and_assoc]

/-! ### how often each node is an operand -/
def bumpU (u : List Int) (p : Int) : List Int := u.set p.toNat (IntKind.wrap .i64 (u.getD p.toNat 0 + 1))
def bumps (u : List Int) (n : Nd) : List Int := (partsOf n).foldl bumpU u
def usesOf (e : List Nd) : List Int := e.foldl bumps (List.replicate e.length 0)
theorem bump_len (u : List Int) (p : Int) : (bumpU u p).length = u.length := by simp [bumpU]
theorem fold_bump_len (l : List Int) (u : List Int) : (l.foldl bumpU u).length = u.length := by
  induction l generalizing u with
  | nil => rfl
  | cons p l ih => rw [List.foldl_cons, ih, bump_len]
theorem bumps_len (u : List Int) (n : Nd) : (bumps u n).length = u.length := fold_bump_len _ _
theorem fold_bumps_len (l : List Nd) (u : List Int) : (l.foldl bumps u).length = u.length := by
  induction l generalizing u with
  | nil => rfl
  | cons p l ih => rw [List.foldl_cons, ih, bumps_len]
theorem usesOf_len (e : List Nd) : (usesOf e).length = e.length := by unfold usesOf; rw [fold_bumps_len, List.length_replicate]
/-- all operands lie below this bound -/
def PartsIn (e : List Nd) (m : Nat) : Prop := ∀ n ∈ e, ∀ p ∈ partsOf n, 0 ≤ p ∧ p < m
theorem take_fold {α β : Type} (f : β → α → β) (l : List α) (b : β) (i : Nat) (h : i < l.length) : (l.take (i + 1)).foldl f b = f ((l.take i).foldl f b) l[i] := by
  rw [List.take_succ_eq_append_getElem h, List.foldl_append]; rfl
theorem bump_at {u : List Int} {p : Int} (h0 : 0 ≤ p) (h : p < u.length) : u[p.toNat]? = some (u.getD p.toNat 0) := by
  have hp : p.toNat < u.length := by omega
  rw [List.getElem?_eq_getElem hp, List.getD_eq_getElem?_getD, List.getElem?_eq_getElem hp]; rfl
theorem exUses_ev (e : List Nd) (hl : e.length ≤ 1048576) (hp : PartsIn e e.length) : Ev (fun k => spec_exUses.f k e) (usesOf e) := by
  refine Ev.step (fun k => spec_exUses.eq k e) (Ev.pos (by simp) (Ev.pos (by simp; omega) ?_))
  rw [Int.toNat_natCast]
  have key := Ev.loop e.length (fun k i => spec_exUses.l0 k e (e.length : Int) (i : Int) ((e.take i).foldl bumps (List.replicate e.length 0))) (fun _ => usesOf e) ?_ ?_ 0 (by omega)
  · simpa using key
  · exact Ev.step (fun k => spec_exUses.l0_eq k _ _ _ _) (Ev.neg (by simp) (Ev.ret (by rw [List.take_of_length_le (Nat.le_refl _)]; rfl)))
  · intro i hi ih
    refine Ev.step (fun k => spec_exUses.l0_eq k _ _ _ _) (Ev.pos (by simpa using hi) (Ev.pos (by simp) (Ev.get hi (Ev.bind (exParts_ev e[i]) ?_))))
    have hps : ∀ p ∈ partsOf e[i], 0 ≤ p ∧ p < e.length := hp _ (List.getElem_mem hi)
    have inner := Ev.loop (partsOf e[i]).length (fun k j => spec_exUses.l1 k e (e.length : Int) (i : Int) (partsOf e[i]) ((partsOf e[i]).length : Int) (j : Int) (((partsOf e[i]).take j).foldl bumpU ((e.take i).foldl bumps (List.replicate e.length 0)))) (fun _ => usesOf e) ?_ ?_ 0 (by omega)
    · simpa using inner
    · refine Ev.step (fun k => spec_exUses.l1_eq k _ _ _ _ _ _ _) (Ev.neg (by simp) ?_)
      rw [List.take_of_length_le (Nat.le_refl _), next_ok i _ hi (by omega)]
      rw [take_fold bumps e _ i hi] at ih
      exact ih
    · intro j hj ihj
      have hpj := hps _ (List.getElem_mem hj)
      have h2 := parts_le e[i]
      have hlen : (((partsOf e[i]).take j).foldl bumpU ((e.take i).foldl bumps (List.replicate e.length 0))).length = e.length := by rw [fold_bump_len, fold_bumps_len, List.length_replicate]
      refine Ev.step (fun k => spec_exUses.l1_eq k _ _ _ _ _ _ _) (Ev.pos (by simpa using hj) (Ev.pos (by simp) (Ev.get hj (Ev.pos (by simpa using hpj.1) (Ev.pos (by rw [hlen]; simpa using hpj.2) (Ev.at (bump_at hpj.1 (by rw [hlen]; exact hpj.2)) (Ev.pos (by simpa using hpj.1) (Ev.pos (by rw [hlen]; simpa using hpj.2) (Ev.at (bump_at hpj.1 (by rw [hlen]; exact hpj.2)) ?_)))))))))
      rw [take_fold bumpU (partsOf e[i]) _ j hj] at ihj
      rw [next_ok j _ hj (by omega)]
      exact ihj
theorem uses_ev (e : List Nd) (hl : e.length ≤ 1048576) (hp : PartsIn e e.length) : Ev (fun k => impl_uses.f k e) (usesOf e) := by
  refine Ev.step (fun k => impl_uses.eq k e) (Ev.pos (by simp) (Ev.pos (by simp; omega) ?_))
  rw [Int.toNat_natCast]
  have key := Ev.loop e.length (fun k i => impl_uses.l0 k e (e.length : Int) (i : Int) ((e.take i).foldl bumps (List.replicate e.length 0))) (fun _ => usesOf e) ?_ ?_ 0 (by omega)
  · simpa using key
  · exact Ev.step (fun k => impl_uses.l0_eq k _ _ _ _) (Ev.neg (by simp) (Ev.ret (by rw [List.take_of_length_le (Nat.le_refl _)]; rfl)))
  · intro i hi ih
    refine Ev.step (fun k => impl_uses.l0_eq k _ _ _ _) (Ev.pos (by simpa using hi) (Ev.pos (by simp) (Ev.get hi (Ev.bind (of_ev e[i]) ?_))))
    have hps : ∀ p ∈ partsOf e[i], 0 ≤ p ∧ p < e.length := hp _ (List.getElem_mem hi)
    have inner := Ev.loop (partsOf e[i]).length (fun k j => impl_uses.l1 k e (e.length : Int) (i : Int) (partsOf e[i]) ((partsOf e[i]).length : Int) (j : Int) (((partsOf e[i]).take j).foldl bumpU ((e.take i).foldl bumps (List.replicate e.length 0)))) (fun _ => usesOf e) ?_ ?_ 0 (by omega)
    · simpa using inner
    · refine Ev.step (fun k => impl_uses.l1_eq k _ _ _ _ _ _ _) (Ev.neg (by simp) ?_)
      rw [List.take_of_length_le (Nat.le_refl _), next_ok i _ hi (by omega)]
      rw [take_fold bumps e _ i hi] at ih
      exact ih
    · intro j hj ihj
      have hpj := hps _ (List.getElem_mem hj)
      have h2 := parts_le e[i]
      have hlen : (((partsOf e[i]).take j).foldl bumpU ((e.take i).foldl bumps (List.replicate e.length 0))).length = e.length := by rw [fold_bump_len, fold_bumps_len, List.length_replicate]
      refine Ev.step (fun k => impl_uses.l1_eq k _ _ _ _ _ _ _) (Ev.pos (by simpa using hj) (Ev.pos (by simp) (Ev.get hj (Ev.pos (by simpa using hpj.1) (Ev.pos (by rw [hlen]; simpa using hpj.2) (Ev.at (bump_at hpj.1 (by rw [hlen]; exact hpj.2)) (Ev.pos (by simpa using hpj.1) (Ev.pos (by rw [hlen]; simpa using hpj.2) (Ev.at (bump_at hpj.1 (by rw [hlen]; exact hpj.2)) ?_)))))))))
      rw [take_fold bumpU (partsOf e[i]) _ j hj] at ihj
      rw [next_ok j _ hj (by omega)]
      exact ihj
end Go.Proofs.YtafjengmkiepbaaGreat.Am
end
section
/- When a list of nodes is an expression, and a tree. -/
namespace Go.Proofs.YtafjengmkiepbaaGreat.Am
open Go
set_option linter.unusedVariables false
set_option linter.unusedSimpArgs false

/-- all nodes from place i on may stand where they stand -/
def nodesOk : List Nd → Nat → Bool
  | [], _ => true
  | n :: r, i => nodeOk n i && nodesOk r (i + 1)
theorem nodesOk_at {e : List Nd} {i : Nat} (h : i < e.length) : nodesOk (e.drop i) i = (nodeOk e[i] i && nodesOk (e.drop (i + 1)) (i + 1)) := by
  rw [drop_at e i h]; rfl
theorem inB_iff {n lo hi : Int} : inB n lo hi = true ↔ lo ≤ n ∧ n ≤ hi := by unfold inB; simp
theorem nodeOk_parts {n : Nd} {i : Nat} (h : nodeOk n i = true) : ∀ p ∈ partsOf n, 0 ≤ p ∧ p < i := by
  intro p hp
  unfold partsOf at hp
  unfold nodeOk at h
  rcases arity_cases n.1 with ⟨ha, h1, h2⟩ | ⟨ha, h1, h2⟩ | ⟨ha, h1, h2⟩ | ⟨ha, h1, h2⟩
  · rw [ha] at hp; simp at hp
  · rw [ha] at hp; simp at hp
  · have n1 : n.1 ≠ tIn := fun e => by rw [e] at h1; revert h1; decide
    have n2 : n.1 ≠ tConst := fun e => by rw [e] at h1; revert h1; decide
    rw [if_neg n1, if_neg n2, if_pos h1] at h
    rw [ha] at hp
    simp only [Bool.and_eq_true, inB_iff] at h
    simp at hp
    omega
  · obtain ⟨n1, n2, _⟩ := isTwo_not h2
    rw [if_neg n1, if_neg n2, if_neg (by simp [h1])] at h
    rw [ha] at hp
    simp only [Bool.and_eq_true, inB_iff] at h
    simp at hp
    omega
theorem nodesOk_get : ∀ (e : List Nd) (i : Nat), nodesOk e i = true → ∀ (j : Nat) (h : j < e.length), nodeOk e[j] ((i + j : Nat) : Int) = true
  | [], i, _, j, h => by simp at h
  | n :: r, i, hn, j, h => by
    simp only [nodesOk, Bool.and_eq_true] at hn
    cases j with
    | zero => simpa using hn.1
    | succ j =>
      have := nodesOk_get r (i + 1) hn.2 j (by simpa using h)
      rw [show i + (j + 1) = i + 1 + j by omega]
      simpa using this
theorem nodesOk_parts {e : List Nd} (h : nodesOk e 0 = true) : PartsIn e e.length := fun n hn p hp => by
  obtain ⟨j, hj, e1⟩ := List.getElem_of_mem hn
  have := nodesOk_get e 0 h j hj
  rw [e1] at this
  have := nodeOk_parts (i := 0 + j) this p hp
  omega
/-- is each node but the last one an operand -/
def allUsed (e : List Nd) : Bool := !decide ((0 : Int) ∈ (usesOf e).take (e.length - 1))
def exprOk (e : List Nd) : Bool := inB e.length 1 24 && (nodesOk e 0 && allUsed e)
theorem noneOf {α : Type} {e : List Nd} {g : Nat → Nat → Option Bool} (hl : e.length ≤ 1048576) (hbad : ∀ i (h : i < e.length), nodeOk e[i] i = false → Ev (fun k => g k i) false) (hgo : ∀ i (h : i < e.length), nodeOk e[i] i = true → Ev (fun k => g k (i + 1)) false → Ev (fun k => g k i) false) : ∀ (d i : Nat), i + d = e.length → nodesOk (e.drop i) i = false → Ev (fun k => g k i) false := by
  intro d
  induction d with
  | zero =>
    intro i hi h
    rw [List.drop_eq_nil_of_le (by omega)] at h
    cases h
  | succ d ih =>
    intro i hi h
    have hlt : i < e.length := by omega
    rw [nodesOk_at hlt] at h
    cases hn : nodeOk e[i] i with
    | false => exact hbad i hlt hn
    | true =>
      rw [hn, Bool.true_and] at h
      exact hgo i hlt hn (ih (i + 1) (by omega) h)
theorem exGood_ev (e : List Nd) (hl : e.length ≤ 1048576) : Ev (fun k => spec_exGood.f k e) (exprOk e) := by
  refine Ev.step (fun k => spec_exGood.eq k e) (Ev.here (l1In_f _ _ _) ?_)
  unfold exprOk
  cases hb : inB (e.length : Int) 1 24 with
  | false => exact Ev.pos rfl (Ev.ret (by simp))
  | true =>
    refine Ev.neg rfl ?_
    have hlen := inB_iff.1 hb
    rw [Bool.true_and]
    cases hn : nodesOk e 0 with
    | true =>
      have key := Ev.loop e.length (fun k i => spec_exGood.l0 k e e (e.length : Int) (i : Int)) (fun _ => allUsed e) ?_ ?_ 0 (by omega)
      · simpa using key
      · have hw : IntKind.wrap .i64 ((e.length : Int) - 1) = ((e.length - 1 : Nat) : Int) := by rw [wrap_ok (by omega) (by omega)]; omega
        refine Ev.step (fun k => spec_exGood.l0_eq k _ _ _ _) (Ev.neg (by simp) (Ev.bind (exUses_ev e hl (nodesOk_parts hn)) ?_))
        rw [hw, usesOf_len]
        refine Ev.pos (by simp) (Ev.pos (by simp) (Ev.bind (l1Has_ev _ _ (by rw [List.length_drop, List.length_take, usesOf_len]; omega)) (Ev.ret ?_)))
        simp [allUsed]
      · intro i hi ih
        have := nodesOk_get e 0 hn i hi
        rw [Nat.zero_add] at this
        refine Ev.step (fun k => spec_exGood.l0_eq k _ _ _ _) (Ev.pos (by simpa using hi) (Ev.pos (by simp) (Ev.get hi (Ev.bind (exNode_ev e[i] i (by omega) (by omega)) (Ev.neg (by rw [this]; rfl) ?_)))))
        rw [next_ok i _ hi (by omega)]
        exact ih
    | false =>
      refine noneOf (α := Nat) (e := e) (g := fun k i => spec_exGood.l0 k e e (e.length : Int) (i : Int)) hl (fun i hi hf => ?_) (fun i hi hf ih => ?_) e.length 0 (by omega) hn
      · exact Ev.step (fun k => spec_exGood.l0_eq k _ _ _ _) (Ev.pos (by simpa using hi) (Ev.pos (by simp) (Ev.get hi (Ev.bind (exNode_ev e[i] i (by omega) (by omega)) (Ev.pos (by rw [hf]; rfl) (Ev.now _))))))
      · refine Ev.step (fun k => spec_exGood.l0_eq k _ _ _ _) (Ev.pos (by simpa using hi) (Ev.pos (by simp) (Ev.get hi (Ev.bind (exNode_ev e[i] i (by omega) (by omega)) (Ev.neg (by rw [hf]; rfl) ?_)))))
        rw [next_ok i _ hi (by omega)]
        exact ih
theorem isExpr_ev (e : List Nd) (hl : e.length ≤ 1048576) : Ev (fun k => impl_IsExpr.f k e) (exprOk e) := by
  refine Ev.step (fun k => impl_IsExpr.eq k e) (Ev.here (within_f _ _ _) ?_)
  unfold exprOk
  cases hb : inB (e.length : Int) 1 24 with
  | false => exact Ev.pos rfl (Ev.ret (by simp))
  | true =>
    refine Ev.neg rfl ?_
    have hlen := inB_iff.1 hb
    rw [Bool.true_and]
    cases hn : nodesOk e 0 with
    | true =>
      have key := Ev.loop e.length (fun k i => impl_IsExpr.l0 k e e (e.length : Int) (i : Int)) (fun _ => allUsed e) ?_ ?_ 0 (by omega)
      · simpa using key
      · have hw : IntKind.wrap .i64 ((e.length : Int) - 1) = ((e.length - 1 : Nat) : Int) := by rw [wrap_ok (by omega) (by omega)]; omega
        refine Ev.step (fun k => impl_IsExpr.l0_eq k _ _ _ _) (Ev.neg (by simp) (Ev.bind (uses_ev e hl (nodesOk_parts hn)) ?_))
        rw [hw, usesOf_len]
        refine Ev.pos (by simp) (Ev.pos (by simp) (Ev.bind (containsI_ev _ _ (by rw [List.length_drop, List.length_take, usesOf_len]; omega)) (Ev.ret ?_)))
        simp [allUsed]
      · intro i hi ih
        have := nodesOk_get e 0 hn i hi
        rw [Nat.zero_add] at this
        refine Ev.step (fun k => impl_IsExpr.l0_eq k _ _ _ _) (Ev.pos (by simpa using hi) (Ev.pos (by simp) (Ev.get hi (Ev.bind (isNode_ev e[i] i (by omega) (by omega)) (Ev.neg (by rw [this]; rfl) ?_)))))
        rw [next_ok i _ hi (by omega)]
        exact ih
    | false =>
      refine noneOf (α := Nat) (e := e) (g := fun k i => impl_IsExpr.l0 k e e (e.length : Int) (i : Int)) hl (fun i hi hf => ?_) (fun i hi hf ih => ?_) e.length 0 (by omega) hn
      · exact Ev.step (fun k => impl_IsExpr.l0_eq k _ _ _ _) (Ev.pos (by simpa using hi) (Ev.pos (by simp) (Ev.get hi (Ev.bind (isNode_ev e[i] i (by omega) (by omega)) (Ev.pos (by rw [hf]; rfl) (Ev.now _))))))
      · refine Ev.step (fun k => impl_IsExpr.l0_eq k _ _ _ _) (Ev.pos (by simpa using hi) (Ev.pos (by simp) (Ev.get hi (Ev.bind (isNode_ev e[i] i (by omega) (by omega)) (Ev.neg (by rw [hf]; rfl) ?_)))))
        rw [next_ok i _ hi (by omega)]
        exact ih
end Go.Proofs.YtafjengmkiepbaaGreat.Am
end
section
/- When an expression is a tree: the program's function and the reference's. -/
namespace Go.Proofs.YtafjengmkiepbaaGreat.Am
open Go
set_option linter.unusedVariables false
set_option linter.unusedSimpArgs false

def Bnd (u : List Int) (m : Nat) : Prop := ∀ x ∈ u, 0 ≤ x ∧ x ≤ m
theorem bump_bnd {u : List Int} {m : Nat} (h : Bnd u m) (hm : m ≤ 1000000000) (p : Int) : Bnd (bumpU u p) (m + 1) := by
  intro x hx
  unfold bumpU at hx
  rcases List.mem_or_eq_of_mem_set hx with hx | hx
  · have := h x hx; omega
  · have hd : 0 ≤ u.getD p.toNat 0 ∧ u.getD p.toNat 0 ≤ m := by
      rw [List.getD_eq_getElem?_getD]
      cases hq : u[p.toNat]? with
      | none => simp
      | some y => exact h y (List.mem_of_getElem? hq)
    rw [hx, wrap_ok (by omega) (by omega)]
    omega
theorem fold_bnd : ∀ (l : List Int) (u : List Int) (m : Nat), Bnd u m → m + l.length ≤ 1000000000 → Bnd (l.foldl bumpU u) (m + l.length)
  | [], u, m, h, _ => h
  | p :: l, u, m, h, hm => by
    simp only [List.length_cons] at hm
    rw [List.foldl_cons, List.length_cons, show m + (l.length + 1) = (m + 1) + l.length by omega]
    exact fold_bnd l _ (m + 1) (bump_bnd h (by omega) p) (by omega)
theorem Bnd.mono {u : List Int} {m k : Nat} (h : Bnd u m) (hk : m ≤ k) : Bnd u k := fun x hx => by have := h x hx; omega
theorem folds_bnd : ∀ (l : List Nd) (u : List Int) (m : Nat), Bnd u m → m + 2 * l.length ≤ 1000000000 → Bnd (l.foldl bumps u) (m + 2 * l.length)
  | [], u, m, h, _ => h
  | n :: l, u, m, h, hm => by
    simp only [List.length_cons] at hm
    have hp := parts_le n
    rw [List.foldl_cons, List.length_cons, show m + 2 * (l.length + 1) = (m + 2) + 2 * l.length by omega]
    exact folds_bnd l _ (m + 2) ((fold_bnd (partsOf n) u m h (by omega)).mono (by omega)) (by omega)
theorem uses_bnd (e : List Nd) (hl : e.length ≤ 1048576) : Bnd (usesOf e) (2 * e.length) := by
  have := folds_bnd e (List.replicate e.length 0) 0 (fun x hx => by have := List.eq_of_mem_replicate hx; omega) (by omega)
  simpa [usesOf] using this
/-- is each node at most once an operand -/
def once (e : List Nd) : Bool := (usesOf e).all fun x => decide (x ≤ 1)
theorem l1All_ev (l : List Int) (hl : l.length ≤ 9223372036854775000) (hb : ∀ x ∈ l, 0 ≤ x) : Ev (fun k => spec_l1All.f k l 0 1) (l.all fun x => decide (x ≤ 1)) := by
  refine Ev.step (fun k => spec_l1All.eq k l 0 1) ?_
  have key := Ev.loop l.length (fun k i => spec_l1All.l0 k 0 1 l (l.length : Int) (i : Int)) (fun i => (l.drop i).all fun x => decide (x ≤ 1)) ?_ ?_ 0 (by omega)
  · exact key
  · exact Ev.step (fun k => spec_l1All.l0_eq k _ _ _ _ _) (Ev.neg (by simp) (Ev.ret (by simp)))
  · intro i hi ih
    refine Ev.step (fun k => spec_l1All.l0_eq k _ _ _ _ _) (Ev.pos (by simpa using hi) (Ev.pos (by simp) (Ev.get hi (Ev.here (l1In_f _ _ _) ?_))))
    have h0 := hb _ (List.getElem_mem hi)
    rw [next_ok i _ hi hl]
    rw [drop_at _ _ hi, List.all_cons]
    by_cases c : l[i] ≤ 1
    · exact Ev.neg (by rw [inB_iff.2 ⟨h0, c⟩]; rfl) (Ev.eq ih (by simp [c]))
    · have : inB l[i] 0 1 = false := by
        cases hq : inB l[i] 0 1 with
        | false => rfl
        | true => exact absurd (inB_iff.1 hq).2 c
      exact Ev.pos (by rw [this]; rfl) (Ev.ret (by simp [c]))
theorem many_ev (l : List Int) (hl : l.length ≤ 9223372036854775000) : Ev (fun k => slices_ContainsFunc_int_isTree.f k l) (!(l.all fun x => decide (x ≤ 1))) := by
  have key : ∀ (d : Nat) (i : Nat), i + d = l.length → ∃ r : Int, Ev (fun k => slices_IndexFunc_int_isTree.l0 k l (l.length : Int) (i : Int)) r ∧ (0 ≤ r ↔ ((l.drop i).all fun x => decide (x ≤ 1)) = false) := by
    intro d
    induction d with
    | zero =>
      intro i h
      refine ⟨-1, Ev.step (fun k => slices_IndexFunc_int_isTree.l0_eq k _ _ _) (Ev.neg (by simp; omega) (Ev.now _)), ?_⟩
      rw [List.drop_eq_nil_of_le (by omega)]; simp
    | succ d ih =>
      intro i h
      have hi : i < l.length := by omega
      by_cases c : l[i] > 1
      · refine ⟨i, Ev.step (fun k => slices_IndexFunc_int_isTree.l0_eq k _ _ _) (Ev.pos (by simpa using hi) (Ev.pos (by simp) (Ev.get hi (Ev.here (impl_isTree_1.eq _) (Ev.pos (by simpa using c) (Ev.now _)))))), ?_⟩
        have c' : ¬ l[i] ≤ 1 := by omega
        rw [drop_at _ _ hi, List.all_cons]; simp [c']
      · obtain ⟨r, hev, hiff⟩ := ih (i + 1) (by omega)
        refine ⟨r, Ev.step (fun k => slices_IndexFunc_int_isTree.l0_eq k _ _ _) (Ev.pos (by simpa using hi) (Ev.pos (by simp) (Ev.get hi (Ev.here (impl_isTree_1.eq _) (Ev.neg (by simpa using c) (by rw [next_ok i _ hi hl]; exact hev)))))), ?_⟩
        have c' : l[i] ≤ 1 := by omega
        rw [hiff, drop_at _ _ hi, List.all_cons]; simp [c']
  obtain ⟨r, hev, hiff⟩ := key l.length 0 (by omega)
  refine Ev.step (fun k => slices_ContainsFunc_int_isTree.eq k l) (Ev.bind (b := r) (Ev.step (fun k => slices_IndexFunc_int_isTree.eq k l) hev) (Ev.ret ?_))
  rw [List.drop_zero] at hiff
  cases hq : l.all fun x => decide (x ≤ 1) with
  | true => rw [hq] at hiff; have : ¬ 0 ≤ r := fun h => by have := hiff.1 h; cases this
            simp [this]
  | false => rw [hq] at hiff; have : 0 ≤ r := hiff.2 rfl
             simp [this]
theorem exTree_ev (e : List Nd) (hl : e.length ≤ 1048576) (hg : exprOk e = true) : Ev (fun k => spec_exTree.f k e) (once e) := by
  unfold exprOk at hg
  simp only [Bool.and_eq_true] at hg
  exact Ev.step (fun k => spec_exTree.eq k e) (Ev.bind (exUses_ev e hl (nodesOk_parts hg.2.1)) (Ev.bind (l1All_ev _ (by rw [usesOf_len]; omega) fun x hx => (uses_bnd e hl x hx).1) (Ev.now _)))
theorem isTree_ev (e : List Nd) (hl : e.length ≤ 1048576) : Ev (fun k => impl_isTree.f k e) (exprOk e && once e) := by
  refine Ev.step (fun k => impl_isTree.eq k e) (Ev.bind (isExpr_ev e hl) ?_)
  cases hg : exprOk e with
  | false => exact Ev.neg rfl (Ev.ret (by simp))
  | true =>
    have hg' := hg
    unfold exprOk at hg'
    simp only [Bool.and_eq_true] at hg'
    exact Ev.pos rfl (Ev.bind (uses_ev e hl (nodesOk_parts hg'.2.1)) (Ev.bind (many_ev _ (by rw [usesOf_len]; omega)) (Ev.ret (by simp [once]))))
theorem exprOk_parts {e : List Nd} (h : exprOk e = true) : nodesOk e 0 = true ∧ 1 ≤ e.length ∧ e.length ≤ 24 := by
  unfold exprOk at h
  simp only [Bool.and_eq_true, inB_iff] at h
  exact ⟨h.2.1, by omega, by omega⟩
end Go.Proofs.YtafjengmkiepbaaGreat.Am
end
section
/- Trees that may be asked for. -/
namespace Go.Proofs.YtafjengmkiepbaaGreat.Am
open Go
set_option linter.unusedVariables false
set_option linter.unusedSimpArgs false

theorem hole_val {n : Nd} {i : Int} (h : nodeOk n i = true) (c : n.1 = tIn) : ∃ v : Nat, v < 2 ∧ n.2.2.2 = (v : Int) := by
  unfold nodeOk at h
  rw [if_pos c] at h
  simp only [Bool.and_eq_true, inB_iff] at h
  exact ⟨n.2.2.2.toNat, by omega, by omega⟩
theorem last_w {n : Nat} (h0 : 1 ≤ n) (h1 : n ≤ 1048576) : IntKind.wrap .i64 ((n : Int) - 1) = ((n - 1 : Nat) : Int) := by
  rw [wrap_ok (by omega) (by omega)]; omega
/-- a tree that may be asked for -/
def treeOk (e : List Nd) : Bool := exprOk e && once e
theorem treeOk_parts {e : List Nd} (h : treeOk e = true) : nodesOk e 0 = true ∧ 1 ≤ e.length ∧ e.length ≤ 24 ∧ once e = true := by
  unfold treeOk at h
  rw [Bool.and_eq_true] at h
  obtain ⟨h1, h2, h3⟩ := exprOk_parts h.1
  exact ⟨h1, h2, h3, h.2⟩
theorem isTree_v (e : List Nd) (hl : e.length ≤ 1048576) : impl_isTree.v e = some (treeOk e) := ev_lim (isTree_ev e hl)
theorem exGood_v (e : List Nd) (hl : e.length ≤ 1048576) : spec_exGood.v e = some (exprOk e) := ev_lim (exGood_ev e hl)
theorem isExpr_v (e : List Nd) (hl : e.length ≤ 1048576) : impl_IsExpr.v e = some (exprOk e) := ev_lim (isExpr_ev e hl)
theorem exTree_v (e : List Nd) (hl : e.length ≤ 1048576) (hg : exprOk e = true) : spec_exTree.v e = some (once e) := ev_lim (exTree_ev e hl hg)
end Go.Proofs.YtafjengmkiepbaaGreat.Am
end
section
/- What ops make of words, what expressions are for inputs, their tables: the program's functions and the reference's answer alike. -/
namespace Go.Proofs.YtafjengmkiepbaaGreat.Am
open Go
set_option linter.unusedVariables false
set_option linter.unusedSimpArgs false

def word (x : Int) : Prop := 0 ≤ x ∧ x ≤ 63
theorem and63 (x : BitVec 64) : ((x &&& BitVec.ofInt 64 63).toNat) ≤ 63 := by
  rw [BitVec.toNat_and]
  exact Nat.and_le_right
theorem wand63 (x : BitVec 64) : word (IntKind.wrap .i64 (((x &&& BitVec.ofInt 64 63).toNat : Nat) : Int)) := by
  have := and63 x
  rw [wrap_ok (by omega) (by omega)]
  exact ⟨by omega, by omega⟩
def isW (x : Option Int) : Prop := ∃ r, x = some r ∧ word r
theorem isW_ite {c : Prop} [Decidable c] {x y : Option Int} (hx : isW x) (hy : isW y) : isW (if c then x else y) := by split <;> assumption
theorem isW_and (x : BitVec 64) : isW (some (IntKind.wrap .i64 (((x &&& BitVec.ofInt 64 63).toNat : Nat) : Int))) := ⟨_, rfl, wand63 x⟩
theorem apply_some (s : ByteArray) (a b : Int) (hb : 0 ≤ b) : isW (impl_apply.f s a b) := by
  rw [impl_apply.eq]
  simp only [impl_bit.eq, br_if, bd_ite, bd_s, hb, decide_true, if_true]
  repeat' first | exact isW_and _ | apply isW_ite
noncomputable def appP (s : ByteArray) (a b : Int) : Int := (impl_apply.f s a b).getD 0
theorem apply_f (s : ByteArray) (a b : Int) (hb : 0 ≤ b) : impl_apply.f s a b = some (appP s a b) := by
  obtain ⟨r, h, _⟩ := apply_some s a b hb
  unfold appP; rw [h]; rfl
theorem appP_word (s : ByteArray) (a b : Int) (hb : 0 ≤ b) : word (appP s a b) := by
  obtain ⟨r, h, hw⟩ := apply_some s a b hb
  unfold appP; rw [h]; exact hw
theorem exApply_eq (s : ByteArray) (a b : Int) : spec_exApply.f s a b = impl_apply.f s a b := by
  rw [spec_exApply.eq, impl_apply.eq]
  simp only [impl_bit.eq, br_if, bd_ite, bd_s]
  repeat' split
  all_goals first | rfl | simp_all
theorem exApply_f (s : ByteArray) (a b : Int) (hb : 0 ≤ b) : spec_exApply.f s a b = some (appP s a b) := by rw [exApply_eq, apply_f s a b hb]
theorem appP_one {s : ByteArray} (h : isOne s = true) (a b : Int) : appP s a b = appP s a 0 := by
  unfold appP
  rcases isOne_mem h with rfl | rfl <;> rw [impl_apply.eq, impl_apply.eq] <;> simp [br_if, seq_beq]

/-! ### the values of all nodes -/
noncomputable def nVal (x0 x1 : Int) (o : List Int) (n : Nd) : Int :=
  if n.1 = tConst then n.2.2.2 else if n.1 = tIn then (if n.2.2.2 = 0 then x0 else x1)
  else if isOne n.1 = true then appP n.1 (o.getD n.2.1.toNat 0) 0 else appP n.1 (o.getD n.2.1.toNat 0) (o.getD n.2.2.1.toNat 0)
noncomputable def valsP (x0 x1 : Int) (e : List Nd) : List Int := e.foldl (fun o n => o ++ [nVal x0 x1 o n]) []
theorem vals_len (x0 x1 : Int) : ∀ (e : List Nd) (o : List Int), (e.foldl (fun o n => o ++ [nVal x0 x1 o n]) o).length = o.length + e.length
  | [], o => rfl
  | n :: r, o => by rw [List.foldl_cons, vals_len x0 x1 r]; simp; omega
theorem valsP_len (x0 x1 : Int) (e : List Nd) : (valsP x0 x1 e).length = e.length := by unfold valsP; rw [vals_len]; simp
theorem valsP_take (x0 x1 : Int) {e : List Nd} {i : Nat} (h : i < e.length) : valsP x0 x1 (e.take (i + 1)) = valsP x0 x1 (e.take i) ++ [nVal x0 x1 (valsP x0 x1 (e.take i)) e[i]] := take_fold _ _ _ i h
def words (l : List Int) : Prop := ∀ x ∈ l, word x
theorem words_get {l : List Int} (h : words l) (j : Nat) : word (l.getD j 0) := by
  rw [List.getD_eq_getElem?_getD]
  by_cases c : j < l.length
  · rw [List.getElem?_eq_getElem c]; exact h _ (List.getElem_mem c)
  · rw [List.getElem?_eq_none (Nat.le_of_not_lt c)]; exact ⟨by decide, by decide⟩
theorem nVal_word {x0 x1 : Int} (h0 : word x0) (h1 : word x1) {o : List Int} (ho : words o) {n : Nd} {i : Int} (hn : nodeOk n i = true) : word (nVal x0 x1 o n) := by
  unfold nVal
  split
  · rename_i c
    unfold nodeOk at hn
    rw [if_neg (by rw [c]; decide), if_pos c] at hn
    simp only [Bool.and_eq_true, inB_iff] at hn
    exact hn.2
  · split
    · split
      · exact h0
      · exact h1
    · split
      · exact appP_word _ _ _ (by omega)
      · exact appP_word _ _ _ (words_get ho _).1
theorem valsP_words {x0 x1 : Int} (h0 : word x0) (h1 : word x1) {e : List Nd} (hn : nodesOk e 0 = true) : ∀ i, i ≤ e.length → words (valsP x0 x1 (e.take i)) := by
  intro i
  induction i with
  | zero => intro _ x hx; simp [valsP] at hx
  | succ i ih =>
    intro hi
    have ih := ih (by omega)
    rw [valsP_take x0 x1 (by omega)]
    intro x hx
    rcases List.mem_append.1 hx with hx | hx
    · exact ih x hx
    · simp only [List.mem_singleton] at hx
      subst hx
      have := nodesOk_get e 0 hn i (by omega)
      exact nVal_word h0 h1 ih this
theorem in_val {n : Nd} {i : Int} (h : nodeOk n i = true) (c : n.1 = tIn) : n.2.2.2 = 0 ∨ n.2.2.2 = 1 := by
  obtain ⟨v, hv, e⟩ := hole_val h c
  rcases Nat.lt_or_ge v 1 with q | q
  · exact .inl (by omega)
  · exact .inr (by omega)
theorem room8 {n m : Nat} (hn : n ≤ 1000000) (hm : m ≤ 1000000) : decide (n + m ≤ 35184372088832 / (8 + 1)) = true := decide_eq_true (by omega)
theorem getD_at {l : List Int} {p : Int} (h0 : 0 ≤ p) (h : p < l.length) : l[p.toNat]? = some (l.getD p.toNat 0) := by
  have hp : p.toNat < l.length := by omega
  rw [List.getD_eq_getElem?_getD, List.getElem?_eq_getElem hp]; rfl
theorem one_parts {n : Nd} {i : Nat} (h : nodeOk n i = true) (c1 : n.1 ≠ tIn) (c2 : n.1 ≠ tConst) : (0 ≤ n.2.1 ∧ n.2.1 < i) ∧ ((isOne n.1 = true ∧ n.2.2.1 = 0) ∨ (isOne n.1 = false ∧ 0 ≤ n.2.2.1 ∧ n.2.2.1 < i)) := by
  unfold nodeOk at h
  rw [if_neg c1, if_neg c2] at h
  split at h
  · rename_i h1
    simp only [Bool.and_eq_true, inB_iff, decide_eq_true_iff] at h
    exact ⟨by omega, .inl ⟨h1, by omega⟩⟩
  · rename_i h1
    simp only [Bool.and_eq_true, inB_iff, decide_eq_true_iff] at h
    exact ⟨by omega, .inr ⟨by simpa using h1, by omega⟩⟩
theorem get_pad {l : List Int} {p : Int} (h0 : 0 ≤ p) (h : p < l.length) (m : Nat) : (l ++ List.replicate m (0 : Int))[p.toNat]? = some (l.getD p.toNat 0) := by
  rw [List.getElem?_append_left (by omega)]
  exact getD_at h0 h
theorem set_pad (l : List Int) (m : Nat) (x : Int) : (l ++ List.replicate (m + 1) (0 : Int)).set l.length x = (l ++ [x]) ++ List.replicate m 0 := by
  rw [List.replicate_succ, set_mid, List.append_assoc]; rfl
noncomputable def evalP (e : List Nd) (x0 x1 : Int) : Int := (valsP x0 x1 e).getD (e.length - 1) 0
theorem evalP_word {e : List Nd} (hn : nodesOk e 0 = true) {x0 x1 : Int} (h0 : word x0) (h1 : word x1) : word (evalP e x0 x1) := by
  have := valsP_words h0 h1 hn e.length (Nat.le_refl _)
  rw [List.take_of_length_le (Nat.le_refl _)] at this
  exact words_get this _
theorem eval_last {e : List Nd} (h1 : 1 ≤ e.length) (x0 x1 : Int) : (valsP x0 x1 e)[e.length - 1]? = some (evalP e x0 x1) := by
  unfold evalP
  have hl := valsP_len x0 x1 e
  rw [List.getD_eq_getElem?_getD, List.getElem?_eq_getElem (by omega)]; rfl
/-! ### tables -/
noncomputable def tabU (e : List Nd) (m : Nat) : List Int := (List.range m).map fun i => evalP e ((i / 64 : Nat) : Int) ((i % 64 : Nat) : Int)
theorem tabU_len (e : List Nd) (m : Nat) : (tabU e m).length = m := by simp [tabU]
theorem tabU_zero (e : List Nd) : tabU e (64 * 0) = [] := rfl
theorem tabU_succ (e : List Nd) {a b : Nat} (hb : b < 64) : tabU e (64 * a + b) ++ [evalP e (a : Int) (b : Int)] = tabU e (64 * a + (b + 1)) := by
  unfold tabU
  rw [show 64 * a + (b + 1) = (64 * a + b) + 1 by omega, List.range_succ, List.map_append]
  simp only [List.map_cons, List.map_nil]
  rw [show (64 * a + b) / 64 = a by omega, show (64 * a + b) % 64 = b by omega]
noncomputable def tabP (e : List Nd) : List Int := tabU e 4096
end Go.Proofs.YtafjengmkiepbaaGreat.Am
end
section
/- Expressions that are folded: the program and the reference do the same. -/
namespace Go.Proofs.YtafjengmkiepbaaGreat.Am
open Go
set_option linter.unusedVariables false
set_option linter.unusedSimpArgs false

theorem xParts_v (n : Nd) : spec_exParts.v n = some (partsOf n) := ev_lim (exParts_ev n)
theorem ofN_v (n : Nd) : impl_Node_of.v n = some (partsOf n) := ev_lim (of_ev n)
theorem opnds_v (s : ByteArray) : impl_operands.v s = some (arity s) := ev_lim (operands_ev s)
theorem clone_n (e : List Nd) (h : e.length ≤ 1000) : slices_Clone_Node.f e = some (e, ()) := by
  rw [slices_Clone_Node.eq]
  have hr : decide (0 + e.length ≤ 35184372088832 / (40 + 1)) = true := decide_eq_true (by omega)
  rw [br_t hr, List.nil_append]
  cases e with
  | nil => rw [br_f (by simp), both_same]
  | cons x r => rw [br_t (by simp)]
theorem parts_ar (n : Nd) : (partsOf n = [] ∧ ¬ 0 < arity n.1) ∨ (partsOf n = [n.2.1] ∧ arity n.1 = 1) ∨ (partsOf n = [n.2.1, n.2.2.1] ∧ arity n.1 = 2) := by
  unfold partsOf
  rcases arity_cases n.1 with ⟨ha, _⟩ | ⟨ha, _⟩ | ⟨ha, _⟩ | ⟨ha, _⟩ <;> rw [ha]
  · exact .inl ⟨rfl, by omega⟩
  · exact .inl ⟨rfl, by omega⟩
  · exact .inr (.inl ⟨rfl, rfl⟩)
  · exact .inr (.inr ⟨rfl, rfl⟩)
/-- all nodes are right -/
def Gd (l : List Nd) : Prop := ∀ (i : Nat) (h : i < l.length), nodeOk l[i] (i : Int) = true
theorem Gd.of {l : List Nd} (h : nodesOk l 0 = true) : Gd l := fun i hi => by
  have := nodesOk_get l 0 h i hi
  rwa [Nat.zero_add] at this
theorem Gd.set {l : List Nd} (h : Gd l) {i : Nat} {n : Nd} (hn : nodeOk n (i : Int) = true) : Gd (l.set i n) := fun j hj => by
  rw [List.getElem_set]
  split
  · rename_i e; rw [← e]; exact hn
  · exact h j (by simpa using hj)
theorem cst_ok {v : Int} (h : word v) (i : Int) : nodeOk (tConst, ((0 : Int), ((0 : Int), v))) i = true := by
  unfold nodeOk
  rw [if_neg (show ¬ tConst = tIn by decide), if_pos rfl, inB_iff.2 h]; rfl
theorem cst_val {n : Nd} {i : Int} (h : nodeOk n i = true) (c : n.1 = tConst) : 0 ≤ n.2.2.2 := by
  unfold nodeOk at h
  rw [if_neg (by rw [c]; decide), if_pos c] at h
  simp only [Bool.and_eq_true, inB_iff] at h
  exact h.2.1
theorem fold_step {n : Nat} (hn : n ≤ 1000) {i : Nat} (hi : i < n) {l : List Nd} (hl : l.length = n) (hg : Gd l) : ∃ l', l'.length = n ∧ Gd l' ∧
    (∀ r, spec_exFold.v0 (n : Int) ((i + 1 : Nat) : Int) l' = some r → spec_exFold.v0 (n : Int) (i : Int) l = some r) ∧ (∀ r, impl_fold.v0 (n : Int) ((i + 1 : Nat) : Int) l' = some r → impl_fold.v0 (n : Int) (i : Int) l = some r) := by
  have hlt : i < l.length := by omega
  have hk := hg i hlt
  have hp : ∀ p ∈ partsOf l[i], 0 ≤ p ∧ p < i := nodeOk_parts hk
  have wi : IntKind.wrap .i64 ((i : Int) + 1) = ((i + 1 : Nat) : Int) := next_ok i n hi (by omega)
  have w1 : IntKind.wrap .i64 ((0 : Int) + 1) = 1 := by decide
  have w2 : IntKind.wrap .i64 ((1 : Int) + 1) = 2 := by decide
  have sp : ∀ r, spec_exFold.v1 (i : Int) (partsOf l[i]) (decide (((partsOf l[i]).length : Int) > 0)) (n : Int) (i : Int) (partsOf l[i]) ((partsOf l[i]).length : Int) 0 l l[i].1 l[i].2.1 l[i].2.2.1 l[i].2.2.2 = some r → spec_exFold.v0 (n : Int) (i : Int) l = some r := fun r hr => by
    refine spec_exFold.v0s _ _ _ ?_
    rw [br_t (decide_eq_true (by omega)), br_t (decide_eq_true (by omega)), br_t (decide_eq_true (by omega)), Int.toNat_natCast, gt_at _ hlt, xParts_v, bd_s]
    exact hr
  have im : ∀ r, impl_fold.v1 (i : Int) (decide (arity l[i].1 > 0)) (n : Int) (i : Int) (partsOf l[i]) ((partsOf l[i]).length : Int) 0 l l[i].1 l[i].2.1 l[i].2.2.1 l[i].2.2.2 [0, 0] = some r → impl_fold.v0 (n : Int) (i : Int) l = some r := fun r hr => by
    refine impl_fold.v0s _ _ _ ?_
    rw [br_t (decide_eq_true (by omega)), br_t (decide_eq_true (by omega)), br_t (decide_eq_true (by omega)), Int.toNat_natCast, gt_at _ hlt, opnds_v, bd_s, ofN_v, bd_s]
    exact hr
  rcases parts_ar l[i] with ⟨q, ha⟩ | ⟨q, ha⟩ | ⟨q, ha⟩
  · rw [q] at sp im
    refine ⟨l, hl, hg, fun r hr => sp r (spec_exFold.v1s _ _ _ _ _ _ _ _ _ _ _ _ _ ?_), fun r hr => im r (impl_fold.v1s _ _ _ _ _ _ _ _ _ _ _ _ _ ?_)⟩
    · rw [br_f (by simp), br_t (by simp), wi]; exact hr
    · rw [br_f (by simp), br_f (decide_eq_false ha), wi]; exact hr
  · have hA := hp l[i].2.1 (by rw [q]; simp)
    have hAl : l[i].2.1.toNat < l.length := by omega
    have hw := appP_word l[i].1 l[l[i].2.1.toNat].2.2.2 0 (Int.le_refl 0)
    rw [q] at sp im
    have sp1 : ∀ r, spec_exFold.v1 (i : Int) [l[i].2.1] (seq l[l[i].2.1.toNat].1 tConst) (n : Int) (i : Int) [l[i].2.1] 1 1 l l[i].1 l[i].2.1 l[i].2.2.1 l[i].2.2.2 = some r → spec_exFold.v0 (n : Int) (i : Int) l = some r := fun r hr => sp r (spec_exFold.v1s _ _ _ _ _ _ _ _ _ _ _ _ _ (by
      rw [br_t (by simp), br_t (by simp), gt_some (a := l[i].2.1) rfl, br_t (by simp), br_t (decide_eq_true hA.1), br_t (decide_eq_true (by omega)), gt_at _ hAl, w1]
      exact hr))
    have im1 : ∀ r, impl_fold.v1 (i : Int) (seq l[l[i].2.1.toNat].1 tConst) (n : Int) (i : Int) [l[i].2.1] 1 1 l l[i].1 l[i].2.1 l[i].2.2.1 l[i].2.2.2 [l[l[i].2.1.toNat].2.2.2, 0] = some r → impl_fold.v0 (n : Int) (i : Int) l = some r := fun r hr => im r (impl_fold.v1s _ _ _ _ _ _ _ _ _ _ _ _ _ (by
      rw [br_t (by simp), br_t (by simp), gt_some (a := l[i].2.1) rfl, br_t (decide_eq_true hA.1), br_t (decide_eq_true (by omega)), gt_at _ hAl, br_t (decide_eq_true (by omega)), br_t (decide_eq_true hA.1), br_t (decide_eq_true (by omega)), gt_at _ hAl, br_t (by decide), br_t (by decide), gt_some (a := (0 : Int)) rfl, w1]
      exact hr))
    cases c : seq l[l[i].2.1.toNat].1 tConst with
    | false =>
      rw [c] at sp1 im1
      refine ⟨l, hl, hg, fun r hr => sp1 r (spec_exFold.v1s _ _ _ _ _ _ _ _ _ _ _ _ _ ?_), fun r hr => im1 r (impl_fold.v1s _ _ _ _ _ _ _ _ _ _ _ _ _ ?_)⟩
      · rw [br_f (by simp), brn_f, wi]; exact hr
      · rw [br_f (by simp), br_f rfl, wi]; exact hr
    | true =>
      rw [c] at sp1 im1
      refine ⟨l.set i (tConst, ((0 : Int), ((0 : Int), appP l[i].1 l[l[i].2.1.toNat].2.2.2 0))), by rw [List.length_set]; exact hl, hg.set (cst_ok hw _), fun r hr => sp1 r (spec_exFold.v1s _ _ _ _ _ _ _ _ _ _ _ _ _ ?_), fun r hr => im1 r (impl_fold.v1s _ _ _ _ _ _ _ _ _ _ _ _ _ ?_)⟩
      · rw [br_f (by simp), brn_t, br_f (by simp), br_t (decide_eq_true hA.1), br_t (decide_eq_true (by omega)), gt_at _ hAl, exApply_f _ _ _ (Int.le_refl 0), bd_s, br_t (decide_eq_true (by omega)), br_t (decide_eq_true (by omega)), Int.toNat_natCast, gt_at _ hlt, wi]
        exact hr
      · rw [br_f (by simp), br_t rfl, br_t (by simp), gt_some (a := l[l[i].2.1.toNat].2.2.2) rfl, br_t (by simp), gt_some (a := (0 : Int)) rfl, apply_f _ _ _ (Int.le_refl 0), bd_s, br_t (decide_eq_true (by omega)), br_t (decide_eq_true (by omega)), Int.toNat_natCast, gt_at _ hlt, wi]
        exact hr
  · have hA := hp l[i].2.1 (by rw [q]; simp)
    have hB := hp l[i].2.2.1 (by rw [q]; simp)
    have hAl : l[i].2.1.toNat < l.length := by omega
    have hBl : l[i].2.2.1.toNat < l.length := by omega
    rw [q] at sp im
    have sp1 : ∀ r, spec_exFold.v1 (i : Int) [l[i].2.1, l[i].2.2.1] (seq l[l[i].2.1.toNat].1 tConst) (n : Int) (i : Int) [l[i].2.1, l[i].2.2.1] 2 1 l l[i].1 l[i].2.1 l[i].2.2.1 l[i].2.2.2 = some r → spec_exFold.v0 (n : Int) (i : Int) l = some r := fun r hr => sp r (spec_exFold.v1s _ _ _ _ _ _ _ _ _ _ _ _ _ (by
      rw [br_t (by simp), br_t (by simp), gt_some (a := l[i].2.1) rfl, br_t (by simp), br_t (decide_eq_true hA.1), br_t (decide_eq_true (by omega)), gt_at _ hAl, w1]
      exact hr))
    have im1 : ∀ r, impl_fold.v1 (i : Int) (seq l[l[i].2.1.toNat].1 tConst) (n : Int) (i : Int) [l[i].2.1, l[i].2.2.1] 2 1 l l[i].1 l[i].2.1 l[i].2.2.1 l[i].2.2.2 [l[l[i].2.1.toNat].2.2.2, 0] = some r → impl_fold.v0 (n : Int) (i : Int) l = some r := fun r hr => im r (impl_fold.v1s _ _ _ _ _ _ _ _ _ _ _ _ _ (by
      rw [br_t (by simp), br_t (by simp), gt_some (a := l[i].2.1) rfl, br_t (decide_eq_true hA.1), br_t (decide_eq_true (by omega)), gt_at _ hAl, br_t (decide_eq_true (by omega)), br_t (decide_eq_true hA.1), br_t (decide_eq_true (by omega)), gt_at _ hAl, br_t (by decide), br_t (by decide), gt_some (a := (0 : Int)) rfl, w1]
      exact hr))
    have sp2 : ∀ r, spec_exFold.v1 (i : Int) [l[i].2.1, l[i].2.2.1] (seq l[l[i].2.1.toNat].1 tConst && seq l[l[i].2.2.1.toNat].1 tConst) (n : Int) (i : Int) [l[i].2.1, l[i].2.2.1] 2 2 l l[i].1 l[i].2.1 l[i].2.2.1 l[i].2.2.2 = some r → spec_exFold.v0 (n : Int) (i : Int) l = some r := fun r hr => sp1 r (spec_exFold.v1s _ _ _ _ _ _ _ _ _ _ _ _ _ (by
      rw [br_t (by decide), br_t (by decide), gt_some (a := l[i].2.2.1) rfl]
      cases c : seq l[l[i].2.1.toNat].1 tConst with
      | true =>
        rw [c, Bool.true_and] at hr
        rw [br_t rfl, br_t (decide_eq_true hB.1), br_t (decide_eq_true (by omega)), gt_at _ hBl, w2]
        exact hr
      | false =>
        rw [c, Bool.false_and] at hr
        rw [br_f rfl, w2]
        exact hr))
    have im2 : ∀ r, impl_fold.v1 (i : Int) (seq l[l[i].2.1.toNat].1 tConst && seq l[l[i].2.2.1.toNat].1 tConst) (n : Int) (i : Int) [l[i].2.1, l[i].2.2.1] 2 2 l l[i].1 l[i].2.1 l[i].2.2.1 l[i].2.2.2 [l[l[i].2.1.toNat].2.2.2, l[l[i].2.2.1.toNat].2.2.2] = some r → impl_fold.v0 (n : Int) (i : Int) l = some r := fun r hr => im1 r (impl_fold.v1s _ _ _ _ _ _ _ _ _ _ _ _ _ (by
      rw [br_t (by decide), br_t (by decide), gt_some (a := l[i].2.2.1) rfl, br_t (decide_eq_true hB.1), br_t (decide_eq_true (by omega)), gt_at _ hBl]
      cases c : seq l[l[i].2.1.toNat].1 tConst with
      | true =>
        rw [c, Bool.true_and] at hr
        rw [br_t rfl, br_t (decide_eq_true hB.1), br_t (decide_eq_true (by omega)), gt_at _ hBl, br_t (by decide), br_t (by simp), gt_some (a := (0 : Int)) rfl, w2]
        exact hr
      | false =>
        rw [c, Bool.false_and] at hr
        rw [br_f rfl, br_t (by decide), br_t (by simp), gt_some (a := (0 : Int)) rfl, w2]
        exact hr))
    cases c : (seq l[l[i].2.1.toNat].1 tConst && seq l[l[i].2.2.1.toNat].1 tConst) with
    | false =>
      rw [c] at sp2 im2
      refine ⟨l, hl, hg, fun r hr => sp2 r (spec_exFold.v1s _ _ _ _ _ _ _ _ _ _ _ _ _ ?_), fun r hr => im2 r (impl_fold.v1s _ _ _ _ _ _ _ _ _ _ _ _ _ ?_)⟩
      · rw [br_f (by decide), brn_f, wi]; exact hr
      · rw [br_f (by decide), br_f rfl, wi]; exact hr
    | true =>
      rw [c] at sp2 im2
      rw [Bool.and_eq_true] at c
      have hb0 := cst_val (hg _ hBl) (seq_iff.1 c.2)
      have hw := appP_word l[i].1 l[l[i].2.1.toNat].2.2.2 l[l[i].2.2.1.toNat].2.2.2 hb0
      refine ⟨l.set i (tConst, ((0 : Int), ((0 : Int), appP l[i].1 l[l[i].2.1.toNat].2.2.2 l[l[i].2.2.1.toNat].2.2.2))), by rw [List.length_set]; exact hl, hg.set (cst_ok hw _), fun r hr => sp2 r (spec_exFold.v1s _ _ _ _ _ _ _ _ _ _ _ _ _ ?_), fun r hr => im2 r (impl_fold.v1s _ _ _ _ _ _ _ _ _ _ _ _ _ ?_)⟩
      · rw [br_f (by decide), brn_t, br_t (by simp), br_t (decide_eq_true hB.1), br_t (decide_eq_true (by omega)), gt_at _ hBl, br_t (decide_eq_true hA.1), br_t (decide_eq_true (by omega)), gt_at _ hAl, exApply_f _ _ _ hb0, bd_s, br_t (decide_eq_true (by omega)), br_t (decide_eq_true (by omega)), Int.toNat_natCast, gt_at _ hlt, wi]
        exact hr
      · rw [br_f (by decide), br_t rfl, br_t (by simp), gt_some (a := l[l[i].2.1.toNat].2.2.2) rfl, br_t (by simp), gt_some (a := l[l[i].2.2.1.toNat].2.2.2) rfl, apply_f _ _ _ hb0, bd_s, br_t (decide_eq_true (by omega)), br_t (decide_eq_true (by omega)), Int.toNat_natCast, gt_at _ hlt, wi]
        exact hr
theorem fold_all {n : Nat} (hn : n ≤ 1000) : ∀ (d i : Nat) (l : List Nd), i + d = n → l.length = n → Gd l → ∃ l', l'.length = n ∧ Gd l' ∧
    (∀ r, spec_exFold.v0 (n : Int) (n : Int) l' = some r → spec_exFold.v0 (n : Int) (i : Int) l = some r) ∧ (∀ r, impl_fold.v0 (n : Int) (n : Int) l' = some r → impl_fold.v0 (n : Int) (i : Int) l = some r)
  | 0, i, l, hi, hl, hg => by
    have hi : i = n := by omega
    subst hi
    exact ⟨l, hl, hg, fun _ h => h, fun _ h => h⟩
  | d + 1, i, l, hi, hl, hg => by
    obtain ⟨l1, a1, a2, a3, a4⟩ := fold_step hn (show i < n by omega) hl hg
    obtain ⟨l', b1, b2, b3, b4⟩ := fold_all hn d (i + 1) l1 (by omega) a1 a2
    exact ⟨l', b1, b2, fun r h => a3 r (b3 r h), fun r h => a4 r (b4 r h)⟩

/-! ### what is needed is kept -/
theorem gd_parts {l : List Nd} (hg : Gd l) {i : Nat} (h : i < l.length) : ∀ p ∈ partsOf l[i], 0 ≤ p ∧ p < i := nodeOk_parts (hg i h)
theorem moved_both {n : Nd} {i : Int} (hk : nodeOk n i = true) {P : List Int} (h : ∀ p ∈ partsOf n, 0 ≤ p ∧ p < P.length) : ∃ m, spec_exMoved.v n P = some m ∧ impl_Node_renamed.v n P = some m := by
  rcases parts_ar n with ⟨q, ha⟩ | ⟨q, ha⟩ | ⟨q, ha⟩
  · have hz : n.2.1 = 0 ∧ n.2.2.1 = 0 := by
      unfold nodeOk at hk
      rcases arity_cases n.1 with ⟨_, h1, h2⟩ | ⟨_, h1, h2⟩ | ⟨e, _, _⟩ | ⟨e, _, _⟩
      · rw [h1, h2] at hk
        split at hk
        · simp only [Bool.and_eq_true, decide_eq_true_iff] at hk; exact ⟨hk.1.1, hk.1.2⟩
        · split at hk
          · simp only [Bool.and_eq_true, decide_eq_true_iff] at hk; exact ⟨hk.1.1, hk.1.2⟩
          · simp at hk
      · rw [h1, h2] at hk
        split at hk
        · simp only [Bool.and_eq_true, decide_eq_true_iff] at hk; exact ⟨hk.1.1, hk.1.2⟩
        · split at hk
          · simp only [Bool.and_eq_true, decide_eq_true_iff] at hk; exact ⟨hk.1.1, hk.1.2⟩
          · simp at hk
      · omega
      · omega
    refine ⟨(n.1, (0, (0, n.2.2.2))), spec_exMoved.vs _ _ ?_, impl_Node_renamed.vs _ _ ?_⟩
    · rw [xParts_v, bd_s, q, br_f (by simp), bd_s, br_f (by simp)]
    · rw [opnds_v, bd_s, br_f (decide_eq_false ha), br_f (decide_eq_false (by omega))]
      obtain ⟨a, b, c, d⟩ := n
      obtain ⟨z1, z2⟩ := hz
      dsimp only at z1 z2 ⊢
      rw [z1, z2]
  · have hA := h n.2.1 (by rw [q]; simp)
    have hz : n.2.2.1 = 0 := by
      have h1 : isOne n.1 = true := arity_eq_one.1 ha
      unfold nodeOk at hk
      rw [if_neg (fun e => by rw [e] at h1; revert h1; decide), if_neg (fun e => by rw [e] at h1; revert h1; decide), if_pos h1] at hk
      simp only [Bool.and_eq_true, decide_eq_true_iff] at hk
      omega
    refine ⟨(n.1, (P.getD n.2.1.toNat 0, (0, n.2.2.2))), spec_exMoved.vs _ _ ?_, impl_Node_renamed.vs _ _ ?_⟩
    · rw [xParts_v, bd_s, q, br_t (by simp), br_t (decide_eq_true hA.1), gt_some (getD_at hA.1 hA.2), bd_s, br_f (by simp)]
    · rw [opnds_v, bd_s, ha, br_t (by decide), br_t (decide_eq_true hA.1), gt_some (getD_at hA.1 hA.2), br_f (by decide)]
      obtain ⟨a, b, c, d⟩ := n
      dsimp only at hz ⊢
      rw [hz]
  · have hA := h n.2.1 (by rw [q]; simp)
    have hB := h n.2.2.1 (by rw [q]; simp)
    refine ⟨(n.1, (P.getD n.2.1.toNat 0, (P.getD n.2.2.1.toNat 0, n.2.2.2))), spec_exMoved.vs _ _ ?_, impl_Node_renamed.vs _ _ ?_⟩
    · rw [xParts_v, bd_s, q, br_t (by simp), br_t (decide_eq_true hA.1), gt_some (getD_at hA.1 hA.2), bd_s, br_t (by simp), br_t (decide_eq_true hB.1), gt_some (getD_at hB.1 hB.2)]
    · rw [opnds_v, bd_s, ha, br_t (by decide), br_t (decide_eq_true hA.1), gt_some (getD_at hA.1 hA.2), br_t (by decide), br_t (decide_eq_true hB.1), gt_some (getD_at hB.1 hB.2)]
theorem bl_get {u : List Bool} {j : Nat} (h : j < u.length) : u[j]? = some (u.getD j false) := by
  rw [List.getD_eq_getElem?_getD, List.getElem?_eq_getElem h]; rfl
theorem keep_both {l : List Nd} {n : Nat} (hl : l.length = n) (h1 : 1 ≤ n) (hn : n ≤ 1000) (hg : Gd l) : ∃ f, spec_exKeep.v l ((n : Int) - 1) = some (f, ()) ∧ impl_kept.v l ((n : Int) - 1) = some f ∧ f.length ≤ n := by
  have w0 : IntKind.wrap .i64 (((n : Int) - 1) + 1) = (n : Int) := by rw [wrap_ok (by omega) (by omega)]; omega
  have rl : ∀ b : Bool, (List.replicate n b).length = n := fun b => List.length_replicate
  -- the last rounds: what is needed goes over
  have last : ∀ (u : List Bool), u.length = n → ∀ (d i : Nat) (P : List Int) (o : List Nd), i + d = n → P.length = n → o.length ≤ i →
      ∃ f, spec_exKeep.v2 l ((n : Int) - 1) (i : Int) u P o = some (f, ()) ∧ impl_kept.v2 l (n : Int) (i : Int) u o P = some f ∧ f.length ≤ n := by
    intro u hu d
    induction d with
    | zero =>
      intro i P o hi hP ho
      exact ⟨o, spec_exKeep.v2s _ _ _ _ _ _ (by rw [br_f (decide_eq_false (by omega))]), impl_kept.v2s _ _ _ _ _ _ (by rw [br_f (decide_eq_false (by omega))]), by omega⟩
    | succ d ih =>
      intro i P o hi hP ho
      have hlt : i < n := by omega
      have hil : i < l.length := by omega
      have wi : IntKind.wrap .i64 ((i : Int) + 1) = ((i + 1 : Nat) : Int) := next_ok i n hlt (by omega)
      cases hb : u.getD i false with
      | false =>
        obtain ⟨f, hf, hf2, h3⟩ := ih (i + 1) P o (by omega) hP (by omega)
        refine ⟨f, spec_exKeep.v2s _ _ _ _ _ _ ?_, impl_kept.v2s _ _ _ _ _ _ ?_, h3⟩
        · rw [br_t (decide_eq_true (by omega)), br_t (decide_eq_true (by omega)), br_t (decide_eq_true (by omega)), Int.toNat_natCast, gt_some (bl_get (by omega)), hb, br_f rfl, wi]
          exact hf
        · rw [br_t (decide_eq_true (by omega)), br_t (decide_eq_true (by omega)), Int.toNat_natCast, gt_at _ hil, br_t (decide_eq_true (by omega)), br_t (decide_eq_true (by omega)), gt_some (bl_get (by omega)), hb, br_f rfl, wi]
          exact hf2
      | true =>
        have hparts := gd_parts hg hil
        obtain ⟨m, hm, hm2⟩ := moved_both (hg i hil) (P := P.set i (o.length : Int)) (fun p hp => by have := hparts p hp; rw [List.length_set]; omega)
        obtain ⟨f, hf, hf2, h3⟩ := ih (i + 1) (P.set i (o.length : Int)) (o ++ [m]) (by omega) (by rw [List.length_set]; exact hP) (by simp; omega)
        refine ⟨f, spec_exKeep.v2s _ _ _ _ _ _ ?_, impl_kept.v2s _ _ _ _ _ _ ?_, h3⟩
        · rw [br_t (decide_eq_true (by omega)), br_t (decide_eq_true (by omega)), br_t (decide_eq_true (by omega)), Int.toNat_natCast, gt_some (bl_get (by omega)), hb, br_t rfl, br_t (decide_eq_true (by omega)), br_t (decide_eq_true (by omega)), gt_at _ (show i < P.length by omega), br_t (decide_eq_true (by omega)), gt_at _ hil, hm, bd_s, br_t (decide_eq_true (by simp; omega)), wi]
          exact hf
        · rw [br_t (decide_eq_true (by omega)), br_t (decide_eq_true (by omega)), Int.toNat_natCast, gt_at _ hil, br_t (decide_eq_true (by omega)), br_t (decide_eq_true (by omega)), gt_some (bl_get (by omega)), hb, br_t rfl, br_t (decide_eq_true (by omega)), br_t (decide_eq_true (by omega)), gt_at _ (show i < P.length by omega), hm2, bd_s, br_t (decide_eq_true (by simp; omega)), wi]
          exact hf2
  -- the first rounds: what is needed is marked
  have first : ∀ (i : Nat) (u : List Bool), i ≤ n → u.length = n → ∃ f, spec_exKeep.v0 l ((n : Int) - 1) ((i : Int) - 1) u = some (f, ()) ∧ impl_kept.v0 l ((i : Int) - 1) u = some f ∧ f.length ≤ n := by
    intro i
    induction i with
    | zero =>
      intro u hi hu
      obtain ⟨f, hf, hf2, h3⟩ := last u hu n 0 (List.replicate n 0) [] (by omega) List.length_replicate (by simp)
      refine ⟨f, spec_exKeep.v0s _ _ _ _ ?_, impl_kept.v0s _ _ _ ?_, h3⟩
      · rw [br_f (decide_eq_false (by omega)), w0, br_t (decide_eq_true (by omega)), br_t (decide_eq_true (by omega)), br_t (decide_eq_true (by omega)), Int.toNat_natCast]
        exact hf
      · rw [br_f (decide_eq_false (by omega)), show ((l.length : Nat) : Int) = (n : Int) by omega, br_t (decide_eq_true (by omega)), br_t (decide_eq_true (by omega)), Int.toNat_natCast]
        exact hf2
    | succ i ih =>
      intro u hi hu
      have hil : i < l.length := by omega
      have hparts := gd_parts hg hil
      have inner : ∀ (dd j : Nat) (v : List Bool), j + dd = (partsOf l[i]).length → v.length = n →
          ∃ f, spec_exKeep.v1 l ((n : Int) - 1) (i : Int) (partsOf l[i]) ((partsOf l[i]).length : Int) (j : Int) v = some (f, ()) ∧ impl_kept.v1 l (i : Int) (partsOf l[i]) ((partsOf l[i]).length : Int) (j : Int) v = some f ∧ f.length ≤ n := by
        intro dd
        induction dd with
        | zero =>
          intro j v hj hv
          obtain ⟨f, hf, hf2, h3⟩ := ih v (by omega) hv
          refine ⟨f, spec_exKeep.v1s _ _ _ _ _ _ _ ?_, impl_kept.v1s _ _ _ _ _ _ ?_, h3⟩
          · rw [br_f (by simp; omega), wrap_ok (by omega) (by omega)]; exact hf
          · rw [br_f (by simp; omega), wrap_ok (by omega) (by omega)]; exact hf2
        | succ dd ihd =>
          intro j v hj hv
          have hjl : j < (partsOf l[i]).length := by omega
          have hpj := hparts _ (List.getElem_mem hjl)
          have hpv : (partsOf l[i])[j].toNat < v.length := by omega
          have wj : IntKind.wrap .i64 ((j : Int) + 1) = ((j + 1 : Nat) : Int) := next_ok j _ hjl (by have := parts_le l[i]; omega)
          cases hb : v.getD (partsOf l[i])[j].toNat false with
          | true =>
            obtain ⟨f, hf, hf2, h3⟩ := ihd (j + 1) (v.set (partsOf l[i])[j].toNat true) (by omega) (by rw [List.length_set]; exact hv)
            refine ⟨f, spec_exKeep.v1s _ _ _ _ _ _ _ ?_, impl_kept.v1s _ _ _ _ _ _ ?_, h3⟩
            · rw [br_t (by simpa using hjl), br_t (by simp), Int.toNat_natCast, gt_at _ hjl, br_t (decide_eq_true hpj.1), br_t (decide_eq_true (by omega)), gt_some (bl_get hpv), hb, br_t rfl, br_t (decide_eq_true hpj.1), br_t (decide_eq_true (by omega)), gt_some (bl_get hpv), wj]
              exact hf
            · rw [br_t (by simpa using hjl), br_t (by simp), Int.toNat_natCast, gt_at _ hjl, br_t (decide_eq_true hpj.1), br_t (decide_eq_true (by omega)), gt_some (bl_get hpv), hb, br_t rfl, br_t (decide_eq_true hpj.1), br_t (decide_eq_true (by omega)), gt_some (bl_get hpv), wj]
              exact hf2
          | false =>
            obtain ⟨f, hf, hf2, h3⟩ := ihd (j + 1) (v.set (partsOf l[i])[j].toNat (v.getD i false)) (by omega) (by rw [List.length_set]; exact hv)
            refine ⟨f, spec_exKeep.v1s _ _ _ _ _ _ _ ?_, impl_kept.v1s _ _ _ _ _ _ ?_, h3⟩
            · rw [br_t (by simpa using hjl), br_t (by simp), Int.toNat_natCast, gt_at _ hjl, br_t (decide_eq_true hpj.1), br_t (decide_eq_true (by omega)), gt_some (bl_get hpv), hb, br_f rfl, br_t (decide_eq_true (by omega)), br_t (decide_eq_true (by omega)), Int.toNat_natCast, gt_some (bl_get (show i < v.length by omega)), br_t (decide_eq_true hpj.1), br_t (decide_eq_true (by omega)), gt_some (bl_get hpv), wj]
              exact hf
            · rw [br_t (by simpa using hjl), br_t (by simp), Int.toNat_natCast, gt_at _ hjl, br_t (decide_eq_true hpj.1), br_t (decide_eq_true (by omega)), gt_some (bl_get hpv), hb, br_f rfl, br_t (decide_eq_true (by omega)), br_t (decide_eq_true (by omega)), Int.toNat_natCast, gt_some (bl_get (show i < v.length by omega)), br_t (decide_eq_true hpj.1), br_t (decide_eq_true (by omega)), gt_some (bl_get hpv), wj]
              exact hf2
      obtain ⟨f, hf, hf2, h3⟩ := inner (partsOf l[i]).length 0 u (by omega) hu
      refine ⟨f, spec_exKeep.v0s _ _ _ _ ?_, impl_kept.v0s _ _ _ ?_, h3⟩
      · rw [show (((i + 1 : Nat) : Int) - 1) = (i : Int) by omega, br_t (decide_eq_true (by omega)), br_t (decide_eq_true (by omega)), Int.toNat_natCast, gt_at _ hil, xParts_v, bd_s]
        exact hf
      · rw [show (((i + 1 : Nat) : Int) - 1) = (i : Int) by omega, br_t (decide_eq_true (by omega)), br_t (decide_eq_true (by omega)), Int.toNat_natCast, gt_at _ hil, ofN_v, bd_s]
        exact hf2
  obtain ⟨f, hf, hf2, h3⟩ := first n ((List.replicate n false).set (n - 1) true) (Nat.le_refl _) (by rw [List.length_set, rl])
  have tn : ((n : Int) - 1).toNat = n - 1 := by omega
  refine ⟨f, spec_exKeep.vs _ _ ?_, impl_kept.vs _ _ ?_, h3⟩
  · rw [w0, br_t (decide_eq_true (by omega)), br_t (decide_eq_true (by omega)), br_t (decide_eq_true (by omega)), br_t (decide_eq_true (by omega)), Int.toNat_natCast, rl, br_t (decide_eq_true (by omega)), gt_at _ (show ((n : Int) - 1).toNat < (List.replicate n false).length by rw [rl]; omega), tn]
    exact hf
  · rw [show ((l.length : Nat) : Int) = (n : Int) by omega, br_t (decide_eq_true (by omega)), br_t (decide_eq_true (by omega)), br_t (decide_eq_true (by omega)), Int.toNat_natCast, rl, br_t (decide_eq_true (by omega)), gt_at _ (show ((n : Int) - 1).toNat < (List.replicate n false).length by rw [rl]; omega), tn]
    exact hf2
/-- both fold to the same -/
theorem fold_both {e : List Nd} (hn : nodesOk e 0 = true) (h1 : 1 ≤ e.length) (hl : e.length ≤ 24) : ∃ f, spec_exFold.v e = some (f, ()) ∧ impl_fold.v e = some f ∧ f.length ≤ 24 := by
  obtain ⟨l, a1, a2, a3, a4⟩ := fold_all (n := e.length) (by omega) e.length 0 e (by omega) rfl (Gd.of hn)
  obtain ⟨f, hf, hf2, h3⟩ := keep_both a1 h1 (by omega) a2
  have wl : IntKind.wrap .i64 ((l.length : Int) - 1) = (e.length : Int) - 1 := by rw [a1, wrap_ok (by omega) (by omega)]
  refine ⟨f, spec_exFold.vs _ ?_, impl_fold.vs _ ?_, by omega⟩
  · rw [br_t (decide_eq_true (by omega)), List.nil_append]
    refine a3 _ (spec_exFold.v0s _ _ _ ?_)
    rw [br_f (decide_eq_false (by omega)), wl, hf, bd_s]
  · rw [clone_n e (by omega), bd_s]
    refine a4 _ (impl_fold.v0s _ _ _ ?_)
    rw [br_f (decide_eq_false (by omega)), wl, hf2, bd_s]
end Go.Proofs.YtafjengmkiepbaaGreat.Am
end
section
/- A subtree, copied behind other nodes: what the reference's copy answers. -/
namespace Go.Proofs.YtafjengmkiepbaaGreat.Am
open Go
set_option linter.unusedVariables false
set_option linter.unusedSimpArgs false

def putN (n : Nd) (is : List Int) : Nd := (n.1, is.getD 0 0, is.getD 1 0, n.2.2.2)
/-- the parts' copies, one behind the other, and where each one's root stands -/
def wkP (w : Int → Nat → List Nd) : List Int → Nat → List Nd × List Int
  | [], _ => ([], [])
  | p :: r, b => (w p b ++ (wkP w r (b + (w p b).length)).1, (((b + (w p b).length : Nat) : Int) - 1) :: (wkP w r (b + (w p b).length)).2)
/-- what a copy of the subtree at i appends behind b nodes -/
def wk (e : List Nd) : Nat → Int → Nat → List Nd
  | 0, _, _ => []
  | f + 1, i, b => match e[i.toNat]? with
    | some n => (wkP (wk e f) (partsOf n) b).1 ++ [putN n (wkP (wk e f) (partsOf n) b).2]
    | none => []
theorem wkP_len {w : Int → Nat → List Nd} {m : Nat} (hw : ∀ p b, (w p b).length ≤ m) : ∀ (ps : List Int) (b : Nat), (wkP w ps b).1.length ≤ m * ps.length
  | [], b => by simp [wkP]
  | p :: r, b => by
    have h1 := hw p b
    have h2 := wkP_len hw r (b + (w p b).length)
    simp only [wkP, List.length_append, List.length_cons]
    rw [Nat.mul_add, Nat.mul_one]
    omega
theorem wk_len (e : List Nd) : ∀ (f : Nat) (i : Int) (b : Nat), (wk e f i b).length + 1 ≤ 2 ^ f
  | 0, i, b => by simp [wk]
  | f + 1, i, b => by
    have hp : 1 ≤ 2 ^ f := Nat.one_le_two_pow
    simp only [wk]
    split
    · rename_i n hn
      have h1 := wkP_len (w := wk e f) (m := 2 ^ f - 1) (fun p b => by have := wk_len e f p b; omega) (partsOf n) b
      have h2 := parts_le n
      have h3 : (2 ^ f - 1) * (partsOf n).length ≤ (2 ^ f - 1) * 2 := Nat.mul_le_mul_left _ h2
      rw [List.length_append, Nat.pow_succ]
      simp only [List.length_cons, List.length_nil]
      omega
    · rw [Nat.pow_succ]; simp; omega
theorem wk_at {e : List Nd} {i : Nat} (hi : i < e.length) (f b : Nat) : wk e (f + 1) (i : Int) b = (wkP (wk e f) (partsOf e[i]) b).1 ++ [putN e[i] (wkP (wk e f) (partsOf e[i]) b).2] := by
  simp only [wk, Int.toNat_natCast, List.getElem?_eq_getElem hi]
theorem wk_at' {e : List Nd} {i : Nat} (hi : i < e.length) {g f : Nat} (hg : g = f + 1) (b : Nat) : wk e g (i : Int) b = (wkP (wk e f) (partsOf e[i]) b).1 ++ [putN e[i] (wkP (wk e f) (partsOf e[i]) b).2] := by
  subst hg
  exact wk_at hi f b
theorem exParts_in {e : List Nd} (hn : nodesOk e 0 = true) {i : Nat} (hi : i < e.length) : ∀ p ∈ partsOf e[i], 0 ≤ p ∧ p < i := by
  have := nodesOk_get e 0 hn i hi
  rw [Nat.zero_add] at this
  exact nodeOk_parts this
end Go.Proofs.YtafjengmkiepbaaGreat.Am
end
section
/- A subtree, copied behind other nodes: what the program's copy answers, as long as it does not grow beyond 24 nodes. -/
namespace Go.Proofs.YtafjengmkiepbaaGreat.Am
open Go
set_option linter.unusedVariables false
set_option linter.unusedSimpArgs false

/-- the rounds over the parts, none of which grows beyond the bound -/
theorem grow_parts (e : List Nd) {i : Nat} (hi : i < e.length) (w : Int → Nat → List Nd) (hF : ∀ p ∈ partsOf e[i], ∀ t : List Nd, t.length + (w p t.length).length ≤ 24 → Ew (fun d k => impl_grow.F d k e p t) ((), t ++ w p t.length)) :
    ∀ (r j : Nat) (t : List Nd) (is : List Int), j + r = (partsOf e[i]).length → is.length = j → t.length + (wkP w ((partsOf e[i]).drop j) t.length).1.length + 1 ≤ 24 →
      Ew (fun d k => impl_grow.l0 d k e (partsOf e[i]) ((partsOf e[i]).length : Int) (j : Int) t e[i].1 e[i].2.1 e[i].2.2.1 e[i].2.2.2 (is ++ List.replicate (2 - j) 0)) ((), t ++ (wkP w ((partsOf e[i]).drop j) t.length).1 ++ [putN e[i] (is ++ (wkP w ((partsOf e[i]).drop j) t.length).2)]) := by
  have h2 := parts_le e[i]
  intro r
  induction r with
  | zero =>
    intro j t is hj his ht
    rw [List.drop_eq_nil_of_le (by omega)] at ht ⊢
    have hl2 : (is ++ List.replicate (2 - j) 0).length = 2 := by simp; omega
    have g0 : (is ++ List.replicate (2 - j) (0 : Int))[0]? = some (is.getD 0 0) := by
      match is, j, his with
      | [], 0, _ => rfl
      | a :: q, _, _ => rfl
    have g1 : (is ++ List.replicate (2 - j) (0 : Int))[1]? = some (is.getD 1 0) := by
      match is, j, his with
      | [], 0, _ => rfl
      | [a], 1, _ => rfl
      | a :: b :: q, _, _ => rfl
    refine Ew.step (fun d k => impl_grow.l0_eq d k _ _ _ _ _ _ _ _ _ _) (Ew.neg (by simp; omega) (Ew.pos (by rw [hl2]; decide) (Ew.at g0 (Ew.pos (by rw [hl2]; decide) (Ew.at g1 (Ew.pos (by simp; omega) (Ew.ret ?_)))))))
    simp [wkP, putN]
  | succ r ih =>
    intro j t is hj his ht
    have hlt : j < (partsOf e[i]).length := by omega
    rw [drop_at _ _ hlt] at ht ⊢
    simp only [wkP, List.length_append] at ht ⊢
    have hl2 : (is ++ List.replicate (2 - j) (0 : Int)).length = 2 := by simp; omega
    have hj2 : j < (is ++ List.replicate (2 - j) (0 : Int)).length := by omega
    refine Ew.step (fun d k => impl_grow.l0_eq d k _ _ _ _ _ _ _ _ _ _) (Ew.pos (by simpa using hlt) (Ew.pos (by simp) (Ew.get hlt (Ew.bind (hF _ (List.getElem_mem hlt) t (by omega)) (Ew.neg (by simp; omega) (Ew.pos (by simp) (Ew.pos (by rw [hl2]; simp; omega) (Ew.get hj2 ?_))))))))
    rw [next_ok j _ hlt (by omega), Int.toNat_natCast]
    have hset : (is ++ List.replicate (2 - j) (0 : Int)).set j (IntKind.wrap .i64 (((t ++ w (partsOf e[i])[j] t.length).length : Int) - 1)) = (is ++ [((t.length + (w (partsOf e[i])[j] t.length).length : Nat) : Int) - 1]) ++ List.replicate (2 - (j + 1)) 0 := by
      rw [wrap_ok (by simp; omega) (by simp; omega), List.set_append_right j _ (by omega), show j - is.length = 0 by omega, show 2 - j = (2 - (j + 1)) + 1 by omega, List.replicate_succ, List.set_cons_zero]
      simp
    rw [hset]
    refine Ew.eq (ih (j + 1) (t ++ w (partsOf e[i])[j] t.length) _ (by omega) (by simp; omega) (by rw [List.length_append]; omega)) ?_
    rw [List.length_append]
    simp [List.append_assoc]
theorem grow_fit (e : List Nd) (hn : nodesOk e 0 = true) : ∀ (f i : Nat) (t : List Nd), i < e.length → i < f → t.length + (wk e f i t.length).length ≤ 24 → Ew (fun d k => impl_grow.F d k e (i : Int) t) ((), t ++ wk e f i t.length)
  | 0, i, t, hi, hf, _ => by omega
  | f + 1, i, t, hi, hf, ht => by
    have hin := exParts_in hn hi
    rw [wk_at hi] at ht ⊢
    rw [List.length_append] at ht
    refine Ew.deep (fun d k => impl_grow.eq d k _ _ _) (Ew.pos (by simp) (Ew.get hi (Ew.bind (of_ev e[i]).ew ?_)))
    have := grow_parts e hi (wk e f) (fun p hp t' ht' => by
      obtain ⟨h0, h1⟩ := hin p hp
      obtain ⟨q, rfl⟩ := Int.eq_ofNat_of_zero_le h0
      exact grow_fit e hn f q t' (by omega) (by omega) ht') (partsOf e[i]).length 0 t [] (by omega) rfl (by rw [List.drop_zero]; simpa [Nat.add_assoc] using ht)
    rw [List.drop_zero] at this
    simpa [List.append_assoc] using this
/-- the rounds over the parts, one of which grows beyond the bound -/
theorem grow_parts_over (e : List Nd) {i : Nat} (hi : i < e.length) (w : Int → Nat → List Nd) (hF : ∀ p ∈ partsOf e[i], ∀ t : List Nd, t.length + (w p t.length).length ≤ 24 → Ew (fun d k => impl_grow.F d k e p t) ((), t ++ w p t.length))
    (hO : ∀ p ∈ partsOf e[i], ∀ t : List Nd, t.length ≤ 24 → 24 < t.length + (w p t.length).length → ∃ t', 24 < t'.length ∧ Ew (fun d k => impl_grow.F d k e p t) ((), t')) :
    ∀ (r j : Nat) (t : List Nd) (is : List Int), j + r = (partsOf e[i]).length → is.length = j → t.length ≤ 24 → 24 < t.length + (wkP w ((partsOf e[i]).drop j) t.length).1.length + 1 →
      ∃ t', 24 < t'.length ∧ Ew (fun d k => impl_grow.l0 d k e (partsOf e[i]) ((partsOf e[i]).length : Int) (j : Int) t e[i].1 e[i].2.1 e[i].2.2.1 e[i].2.2.2 (is ++ List.replicate (2 - j) 0)) ((), t') := by
  have h2 := parts_le e[i]
  intro r
  induction r with
  | zero =>
    intro j t is hj his h24 ht
    rw [List.drop_eq_nil_of_le (by omega)] at ht
    simp only [wkP, List.length_nil] at ht
    have hl2 : (is ++ List.replicate (2 - j) 0).length = 2 := by simp; omega
    have g0 : (is ++ List.replicate (2 - j) (0 : Int))[0]? = some (is.getD 0 0) := by
      match is, j, his with
      | [], 0, _ => rfl
      | a :: q, _, _ => rfl
    have g1 : (is ++ List.replicate (2 - j) (0 : Int))[1]? = some (is.getD 1 0) := by
      match is, j, his with
      | [], 0, _ => rfl
      | [a], 1, _ => rfl
      | a :: b :: q, _, _ => rfl
    refine ⟨t ++ [putN e[i] is], by rw [List.length_append]; simp; omega, Ew.step (fun d k => impl_grow.l0_eq d k _ _ _ _ _ _ _ _ _ _) (Ew.neg (by simp; omega) (Ew.pos (by rw [hl2]; decide) (Ew.at g0 (Ew.pos (by rw [hl2]; decide) (Ew.at g1 (Ew.pos (by simp; omega) (Ew.ret ?_)))))))⟩
    simp [putN]
  | succ r ih =>
    intro j t is hj his h24 ht
    have hlt : j < (partsOf e[i]).length := by omega
    rw [drop_at _ _ hlt] at ht
    simp only [wkP, List.length_append] at ht
    have hl2 : (is ++ List.replicate (2 - j) (0 : Int)).length = 2 := by simp; omega
    have hj2 : j < (is ++ List.replicate (2 - j) (0 : Int)).length := by omega
    by_cases hc : t.length + (w (partsOf e[i])[j] t.length).length ≤ 24
    · obtain ⟨t', h1, h3⟩ := ih (j + 1) (t ++ w (partsOf e[i])[j] t.length) (is ++ [((t.length + (w (partsOf e[i])[j] t.length).length : Nat) : Int) - 1]) (by omega) (by simp; omega) (by rw [List.length_append]; exact hc) (by rw [List.length_append]; omega)
      refine ⟨t', h1, Ew.step (fun d k => impl_grow.l0_eq d k _ _ _ _ _ _ _ _ _ _) (Ew.pos (by simpa using hlt) (Ew.pos (by simp) (Ew.get hlt (Ew.bind (hF _ (List.getElem_mem hlt) t hc) (Ew.neg (by simp; omega) (Ew.pos (by simp) (Ew.pos (by rw [hl2]; simp; omega) (Ew.get hj2 ?_))))))))⟩
      rw [next_ok j _ hlt (by omega), Int.toNat_natCast]
      by_cases h0 : (t ++ w (partsOf e[i])[j] t.length).length = 0
      · have hset : (is ++ List.replicate (2 - j) (0 : Int)).set j (IntKind.wrap .i64 (((t ++ w (partsOf e[i])[j] t.length).length : Int) - 1)) = (is ++ [((t.length + (w (partsOf e[i])[j] t.length).length : Nat) : Int) - 1]) ++ List.replicate (2 - (j + 1)) 0 := by
          rw [wrap_ok (by simp; omega) (by simp; omega), List.set_append_right j _ (by omega), show j - is.length = 0 by omega, show 2 - j = (2 - (j + 1)) + 1 by omega, List.replicate_succ, List.set_cons_zero]
          simp
        rw [hset]
        exact h3
      · have hset : (is ++ List.replicate (2 - j) (0 : Int)).set j (IntKind.wrap .i64 (((t ++ w (partsOf e[i])[j] t.length).length : Int) - 1)) = (is ++ [((t.length + (w (partsOf e[i])[j] t.length).length : Nat) : Int) - 1]) ++ List.replicate (2 - (j + 1)) 0 := by
          rw [wrap_ok (by simp; omega) (by simp; omega), List.set_append_right j _ (by omega), show j - is.length = 0 by omega, show 2 - j = (2 - (j + 1)) + 1 by omega, List.replicate_succ, List.set_cons_zero]
          simp
        rw [hset]
        exact h3
    · obtain ⟨t', h1, h3⟩ := hO _ (List.getElem_mem hlt) t h24 (by omega)
      exact ⟨t', h1, Ew.step (fun d k => impl_grow.l0_eq d k _ _ _ _ _ _ _ _ _ _) (Ew.pos (by simpa using hlt) (Ew.pos (by simp) (Ew.get hlt (Ew.bind h3 (Ew.pos (by simp; omega) (Ew.now _))))))⟩
theorem grow_over (e : List Nd) (hn : nodesOk e 0 = true) : ∀ (f i : Nat) (t : List Nd), i < e.length → i < f → t.length ≤ 24 → 24 < t.length + (wk e f i t.length).length → ∃ t', 24 < t'.length ∧ Ew (fun d k => impl_grow.F d k e (i : Int) t) ((), t')
  | 0, i, t, hi, hf, _, _ => by omega
  | f + 1, i, t, hi, hf, h24, ht => by
    have hin := exParts_in hn hi
    rw [wk_at hi, List.length_append] at ht
    obtain ⟨t', h1, h3⟩ := grow_parts_over e hi (wk e f) (fun p hp t' ht' => by
      obtain ⟨h0, h1⟩ := hin p hp
      obtain ⟨q, rfl⟩ := Int.eq_ofNat_of_zero_le h0
      exact grow_fit e hn f q t' (by omega) (by omega) ht') (fun p hp t' h24' ht' => by
      obtain ⟨h0, h1⟩ := hin p hp
      obtain ⟨q, rfl⟩ := Int.eq_ofNat_of_zero_le h0
      exact grow_over e hn f q t' (by omega) (by omega) h24' ht') (partsOf e[i]).length 0 t [] (by omega) rfl h24 (by rw [List.drop_zero]; simpa [Nat.add_assoc] using ht)
    refine ⟨t', h1, Ew.deep (fun d k => impl_grow.eq d k _ _ _) (Ew.pos (by simp) (Ew.get hi (Ew.bind (of_ev e[i]).ew ?_)))⟩
    simpa using h3
/-- the rounds over the parts, none of which grows beyond the bound -/
theorem growN_parts (e : List Nd) {i : Nat} (hi : i < e.length) (w : Int → Nat → List Nd) (hF : ∀ p ∈ partsOf e[i], ∀ t : List Nd, t.length + (w p t.length).length ≤ 24 → Ev (fun k => impl_grow.f k e p t) ((), t ++ w p t.length)) :
    ∀ (r j : Nat) (t : List Nd) (is : List Int), j + r = (partsOf e[i]).length → is.length = j → t.length + (wkP w ((partsOf e[i]).drop j) t.length).1.length + 1 ≤ 24 →
      Ev (fun k => impl_grow_nil.l0 k e (partsOf e[i]) ((partsOf e[i]).length : Int) (j : Int) t e[i].1 e[i].2.1 e[i].2.2.1 e[i].2.2.2 (is ++ List.replicate (2 - j) 0)) (t ++ (wkP w ((partsOf e[i]).drop j) t.length).1 ++ [putN e[i] (is ++ (wkP w ((partsOf e[i]).drop j) t.length).2)], ()) := by
  have h2 := parts_le e[i]
  intro r
  induction r with
  | zero =>
    intro j t is hj his ht
    rw [List.drop_eq_nil_of_le (by omega)] at ht ⊢
    have hl2 : (is ++ List.replicate (2 - j) 0).length = 2 := by simp; omega
    have g0 : (is ++ List.replicate (2 - j) (0 : Int))[0]? = some (is.getD 0 0) := by
      match is, j, his with
      | [], 0, _ => rfl
      | a :: q, _, _ => rfl
    have g1 : (is ++ List.replicate (2 - j) (0 : Int))[1]? = some (is.getD 1 0) := by
      match is, j, his with
      | [], 0, _ => rfl
      | [a], 1, _ => rfl
      | a :: b :: q, _, _ => rfl
    refine Ev.step (fun k => impl_grow_nil.l0_eq k _ _ _ _ _ _ _ _ _ _) (Ev.neg (by simp; omega) (Ev.pos (by rw [hl2]; decide) (Ev.at g0 (Ev.pos (by rw [hl2]; decide) (Ev.at g1 (Ev.pos (by simp; omega) (Ev.ret ?_)))))))
    simp [wkP, putN]
  | succ r ih =>
    intro j t is hj his ht
    have hlt : j < (partsOf e[i]).length := by omega
    rw [drop_at _ _ hlt] at ht ⊢
    simp only [wkP, List.length_append] at ht ⊢
    have hl2 : (is ++ List.replicate (2 - j) (0 : Int)).length = 2 := by simp; omega
    have hj2 : j < (is ++ List.replicate (2 - j) (0 : Int)).length := by omega
    refine Ev.step (fun k => impl_grow_nil.l0_eq k _ _ _ _ _ _ _ _ _ _) (Ev.pos (by simpa using hlt) (Ev.pos (by simp) (Ev.get hlt (Ev.bind (hF _ (List.getElem_mem hlt) t (by omega)) (Ev.neg (by simp; omega) (Ev.pos (by simp) (Ev.pos (by rw [hl2]; simp; omega) (Ev.get hj2 ?_))))))))
    rw [next_ok j _ hlt (by omega), Int.toNat_natCast]
    have hset : (is ++ List.replicate (2 - j) (0 : Int)).set j (IntKind.wrap .i64 (((t ++ w (partsOf e[i])[j] t.length).length : Int) - 1)) = (is ++ [((t.length + (w (partsOf e[i])[j] t.length).length : Nat) : Int) - 1]) ++ List.replicate (2 - (j + 1)) 0 := by
      rw [wrap_ok (by simp; omega) (by simp; omega), List.set_append_right j _ (by omega), show j - is.length = 0 by omega, show 2 - j = (2 - (j + 1)) + 1 by omega, List.replicate_succ, List.set_cons_zero]
      simp
    rw [hset]
    refine Ev.eq (ih (j + 1) (t ++ w (partsOf e[i])[j] t.length) _ (by omega) (by simp; omega) (by rw [List.length_append]; omega)) ?_
    rw [List.length_append]
    simp [List.append_assoc]
/-- the rounds over the parts, one of which grows beyond the bound -/
theorem growN_parts_over (e : List Nd) {i : Nat} (hi : i < e.length) (w : Int → Nat → List Nd) (hF : ∀ p ∈ partsOf e[i], ∀ t : List Nd, t.length + (w p t.length).length ≤ 24 → Ev (fun k => impl_grow.f k e p t) ((), t ++ w p t.length))
    (hO : ∀ p ∈ partsOf e[i], ∀ t : List Nd, t.length ≤ 24 → 24 < t.length + (w p t.length).length → ∃ t', 24 < t'.length ∧ Ev (fun k => impl_grow.f k e p t) ((), t')) :
    ∀ (r j : Nat) (t : List Nd) (is : List Int), j + r = (partsOf e[i]).length → is.length = j → t.length ≤ 24 → 24 < t.length + (wkP w ((partsOf e[i]).drop j) t.length).1.length + 1 →
      ∃ t', 24 < t'.length ∧ Ev (fun k => impl_grow_nil.l0 k e (partsOf e[i]) ((partsOf e[i]).length : Int) (j : Int) t e[i].1 e[i].2.1 e[i].2.2.1 e[i].2.2.2 (is ++ List.replicate (2 - j) 0)) (t', ()) := by
  have h2 := parts_le e[i]
  intro r
  induction r with
  | zero =>
    intro j t is hj his h24 ht
    rw [List.drop_eq_nil_of_le (by omega)] at ht
    simp only [wkP, List.length_nil] at ht
    have hl2 : (is ++ List.replicate (2 - j) 0).length = 2 := by simp; omega
    have g0 : (is ++ List.replicate (2 - j) (0 : Int))[0]? = some (is.getD 0 0) := by
      match is, j, his with
      | [], 0, _ => rfl
      | a :: q, _, _ => rfl
    have g1 : (is ++ List.replicate (2 - j) (0 : Int))[1]? = some (is.getD 1 0) := by
      match is, j, his with
      | [], 0, _ => rfl
      | [a], 1, _ => rfl
      | a :: b :: q, _, _ => rfl
    refine ⟨t ++ [putN e[i] is], by rw [List.length_append]; simp; omega, Ev.step (fun k => impl_grow_nil.l0_eq k _ _ _ _ _ _ _ _ _ _) (Ev.neg (by simp; omega) (Ev.pos (by rw [hl2]; decide) (Ev.at g0 (Ev.pos (by rw [hl2]; decide) (Ev.at g1 (Ev.pos (by simp; omega) (Ev.ret ?_)))))))⟩
    simp [putN]
  | succ r ih =>
    intro j t is hj his h24 ht
    have hlt : j < (partsOf e[i]).length := by omega
    rw [drop_at _ _ hlt] at ht
    simp only [wkP, List.length_append] at ht
    have hl2 : (is ++ List.replicate (2 - j) (0 : Int)).length = 2 := by simp; omega
    have hj2 : j < (is ++ List.replicate (2 - j) (0 : Int)).length := by omega
    by_cases hc : t.length + (w (partsOf e[i])[j] t.length).length ≤ 24
    · obtain ⟨t', h1, h3⟩ := ih (j + 1) (t ++ w (partsOf e[i])[j] t.length) (is ++ [((t.length + (w (partsOf e[i])[j] t.length).length : Nat) : Int) - 1]) (by omega) (by simp; omega) (by rw [List.length_append]; exact hc) (by rw [List.length_append]; omega)
      refine ⟨t', h1, Ev.step (fun k => impl_grow_nil.l0_eq k _ _ _ _ _ _ _ _ _ _) (Ev.pos (by simpa using hlt) (Ev.pos (by simp) (Ev.get hlt (Ev.bind (hF _ (List.getElem_mem hlt) t hc) (Ev.neg (by simp; omega) (Ev.pos (by simp) (Ev.pos (by rw [hl2]; simp; omega) (Ev.get hj2 ?_))))))))⟩
      rw [next_ok j _ hlt (by omega), Int.toNat_natCast]
      by_cases h0 : (t ++ w (partsOf e[i])[j] t.length).length = 0
      · have hset : (is ++ List.replicate (2 - j) (0 : Int)).set j (IntKind.wrap .i64 (((t ++ w (partsOf e[i])[j] t.length).length : Int) - 1)) = (is ++ [((t.length + (w (partsOf e[i])[j] t.length).length : Nat) : Int) - 1]) ++ List.replicate (2 - (j + 1)) 0 := by
          rw [wrap_ok (by simp; omega) (by simp; omega), List.set_append_right j _ (by omega), show j - is.length = 0 by omega, show 2 - j = (2 - (j + 1)) + 1 by omega, List.replicate_succ, List.set_cons_zero]
          simp
        rw [hset]
        exact h3
      · have hset : (is ++ List.replicate (2 - j) (0 : Int)).set j (IntKind.wrap .i64 (((t ++ w (partsOf e[i])[j] t.length).length : Int) - 1)) = (is ++ [((t.length + (w (partsOf e[i])[j] t.length).length : Nat) : Int) - 1]) ++ List.replicate (2 - (j + 1)) 0 := by
          rw [wrap_ok (by simp; omega) (by simp; omega), List.set_append_right j _ (by omega), show j - is.length = 0 by omega, show 2 - j = (2 - (j + 1)) + 1 by omega, List.replicate_succ, List.set_cons_zero]
          simp
        rw [hset]
        exact h3
    · obtain ⟨t', h1, h3⟩ := hO _ (List.getElem_mem hlt) t h24 (by omega)
      exact ⟨t', h1, Ev.step (fun k => impl_grow_nil.l0_eq k _ _ _ _ _ _ _ _ _ _) (Ev.pos (by simpa using hlt) (Ev.pos (by simp) (Ev.get hlt (Ev.bind h3 (Ev.pos (by simp; omega) (Ev.now _))))))⟩
theorem growN_fit (e : List Nd) (hn : nodesOk e 0 = true) {i : Nat} (hi : i < e.length) {g f : Nat} (hg : g = f + 1) (hif : i ≤ f) (ht : (wk e g i 0).length ≤ 24) : Ev (fun k => impl_grow_nil.f k e (i : Int)) (wk e g i 0, ()) := by
  have hin := exParts_in hn hi
  rw [wk_at' hi hg] at ht ⊢
  rw [List.length_append] at ht
  refine Ev.step (fun k => impl_grow_nil.eq k _ _) (Ev.pos (by simp) (Ev.get hi (Ev.bind (of_ev e[i]) ?_)))
  have := growN_parts e hi (wk e f) (fun p hp t' ht' => by
    obtain ⟨h0, h1⟩ := hin p hp
    obtain ⟨q, rfl⟩ := Int.eq_ofNat_of_zero_le h0
    exact (grow_fit e hn f q t' (by omega) (by omega) ht').ev) (partsOf e[i]).length 0 [] [] (by omega) rfl (by rw [List.drop_zero]; simpa using ht)
  rw [List.drop_zero] at this
  simpa using this
theorem growN_over (e : List Nd) (hn : nodesOk e 0 = true) {i : Nat} (hi : i < e.length) {g f : Nat} (hg : g = f + 1) (hif : i ≤ f) (ht : 24 < (wk e g i 0).length) : ∃ t', 24 < t'.length ∧ Ev (fun k => impl_grow_nil.f k e (i : Int)) (t', ()) := by
  have hin := exParts_in hn hi
  rw [wk_at' hi hg, List.length_append] at ht
  obtain ⟨t', h1, h3⟩ := growN_parts_over e hi (wk e f) (fun p hp t' ht' => by
    obtain ⟨h0, h1⟩ := hin p hp
    obtain ⟨q, rfl⟩ := Int.eq_ofNat_of_zero_le h0
    exact (grow_fit e hn f q t' (by omega) (by omega) ht').ev) (fun p hp t' h24' ht' => by
    obtain ⟨h0, h1⟩ := hin p hp
    obtain ⟨q, rfl⟩ := Int.eq_ofNat_of_zero_le h0
    obtain ⟨u, h2, h4⟩ := grow_over e hn f q t' (by omega) (by omega) h24' ht'
    exact ⟨u, h2, h4.ev⟩) (partsOf e[i]).length 0 [] [] (by omega) rfl (by simp) (by rw [List.drop_zero]; simpa using ht)
  refine ⟨t', h1, Ev.step (fun k => impl_grow_nil.eq k _ _) (Ev.pos (by simp) (Ev.get hi (Ev.bind (of_ev e[i]) ?_)))⟩
  simpa using h3
end Go.Proofs.YtafjengmkiepbaaGreat.Am
end
section
/- When an expression is written as its walk: the program's function and the reference's. -/
namespace Go.Proofs.YtafjengmkiepbaaGreat.Am
open Go
set_option linter.unusedVariables false
set_option linter.unusedSimpArgs false

def nodeEq (a b : Nd) : Bool := (a.1 == b.1) && ((a.2.1 == b.2.1) && ((a.2.2.1 == b.2.2.1) && ((a.2.2.2 == b.2.2.2) && true)))
theorem nodeEq_iff {a b : Nd} : nodeEq a b = true ↔ a = b := by
  obtain ⟨a0, a1, a2, a3⟩ := a
  obtain ⟨b0, b1, b2, b3⟩ := b
  have hb : (a0 == b0) = true ↔ a0 = b0 := by
    obtain ⟨p⟩ := a0
    obtain ⟨q⟩ := b0
    have : ((⟨p⟩ : ByteArray) == ⟨q⟩) = (p == q) := rfl
    rw [this, beq_iff_eq]
    simp
  simp only [nodeEq, Bool.and_eq_true, Bool.and_true, beq_iff_eq, hb, Prod.mk.injEq]
theorem cons_dec {a b : Nd} {r q : List Nd} (h : a = b) : decide (a :: r = b :: q) = decide (r = q) := by subst h; simp
/-- is an expression a tree that is written as its walk -/
def walked (e : List Nd) : Bool := exprOk e && (once e && decide (wk e 25 ((e.length - 1 : Nat) : Int) 0 = e))
end Go.Proofs.YtafjengmkiepbaaGreat.Am
end
section
/- How often a node is an operand. -/
namespace Go.Proofs.YtafjengmkiepbaaGreat.Am
open Go
set_option linter.unusedVariables false
set_option linter.unusedSimpArgs false

def pN (n : Nd) : List Nat := (partsOf n).map Int.toNat
def opsOfL (e : List Nd) : List Nat := e.flatMap pN
theorem bumpU_get {u : List Int} {m : Nat} (hb : Bnd u m) (hm : m ≤ 1000000000) (p : Int) (h0 : 0 ≤ p) (hp : p < u.length) (j : Nat) (hj : j < u.length) : (bumpU u p)[j]? = some (u[j] + if j = p.toNat then 1 else 0) := by
  unfold bumpU
  rw [List.getElem?_set]
  have hpl : p.toNat < u.length := by omega
  by_cases c : p.toNat = j
  · subst c
    have hg : u.getD p.toNat 0 = u[p.toNat] := by rw [List.getD_eq_getElem?_getD, List.getElem?_eq_getElem hpl]; rfl
    have := hb _ (List.getElem_mem hpl)
    rw [if_pos rfl, if_pos hpl, hg, if_pos rfl, wrap_ok (by omega) (by omega)]
  · rw [if_neg c, if_neg (fun e => c e.symm), List.getElem?_eq_getElem hj, Int.add_zero]
theorem fold_bump_get : ∀ (ps : List Int) (u : List Int) (m : Nat), Bnd u m → m + ps.length ≤ 1000000000 → (∀ p ∈ ps, 0 ≤ p ∧ p < u.length) → ∀ j (hj : j < u.length), (ps.foldl bumpU u)[j]? = some (u[j] + ((ps.map Int.toNat).count j : Nat))
  | [], u, m, hb, hm, hp, j, hj => by simp [List.getElem?_eq_getElem hj]
  | p :: r, u, m, hb, hm, hp, j, hj => by
    simp only [List.length_cons] at hm
    obtain ⟨h0, h1⟩ := hp p (by simp)
    have hl := bump_len u p
    have ih := fold_bump_get r (bumpU u p) (m + 1) (bump_bnd hb (by omega) p) (by omega) (fun q hq => by rw [hl]; exact hp q (by simp [hq])) j (by rw [hl]; exact hj)
    have hg := bumpU_get hb (by omega) p h0 h1 j hj
    rw [List.getElem?_eq_getElem (by rw [hl]; exact hj)] at hg
    rw [List.foldl_cons, ih, Option.some.inj hg, List.map_cons, List.count_cons]
    congr 1
    by_cases c : j = p.toNat
    · subst c; simp; omega
    · have c' : ¬ p.toNat = j := fun e => c e.symm
      simp [c, c']
theorem folds_bump_get : ∀ (l : List Nd) (u : List Int) (m : Nat), Bnd u m → m + 2 * l.length ≤ 1000000000 → PartsIn l u.length → ∀ j (hj : j < u.length), (l.foldl bumps u)[j]? = some (u[j] + ((opsOfL l).count j : Nat))
  | [], u, m, hb, hm, hp, j, hj => by simp [opsOfL, List.getElem?_eq_getElem hj]
  | n :: r, u, m, hb, hm, hp, j, hj => by
    simp only [List.length_cons] at hm
    have h2 := parts_le n
    have hl := bumps_len u n
    have hb1 : Bnd (bumps u n) (m + (partsOf n).length) := fold_bnd _ _ _ hb (by omega)
    have ih := folds_bump_get r (bumps u n) (m + (partsOf n).length) hb1 (by omega) (by rw [hl]; exact fun q hq => hp q (by simp [hq])) j (by rw [hl]; exact hj)
    have hg : (bumps u n)[j]? = _ := fold_bump_get (partsOf n) u m hb (by omega) (hp n (by simp)) j hj
    rw [List.getElem?_eq_getElem (by rw [hl]; exact hj)] at hg
    rw [List.foldl_cons, ih, Option.some.inj hg]
    unfold opsOfL pN
    rw [List.flatMap_cons, List.count_append]
    congr 1
    omega
theorem usesOf_get {e : List Nd} (hl : e.length ≤ 1048576) (hp : PartsIn e e.length) {j : Nat} (hj : j < e.length) : (usesOf e)[j]? = some (((opsOfL e).count j : Nat) : Int) := by
  unfold usesOf
  have := folds_bump_get e (List.replicate e.length 0) 0 (fun x hx => by rw [(List.mem_replicate.1 hx).2]; omega) (by omega) (by rw [List.length_replicate]; exact hp) j (by rw [List.length_replicate]; exact hj)
  rw [this]
  simp
theorem once_count {e : List Nd} (hl : e.length ≤ 1048576) (hn : nodesOk e 0 = true) (ho : once e = true) (j : Nat) (hj : j < e.length) : (opsOfL e).count j ≤ 1 := by
  have hg := usesOf_get hl (nodesOk_parts hn) hj
  unfold once at ho
  have := List.all_eq_true.1 ho _ (List.mem_of_getElem? hg)
  rw [decide_eq_true_iff] at this
  omega

end Go.Proofs.YtafjengmkiepbaaGreat.Am
end
section
/- Trees: the subtree of a node has no more nodes than stand up to it. -/
namespace Go.Proofs.YtafjengmkiepbaaGreat.Am
open Go
set_option linter.unusedVariables false
set_option linter.unusedSimpArgs false

theorem wkP_congr {w w' : Int → Nat → List Nd} : ∀ (ps : List Int) (b : Nat), (∀ p ∈ ps, ∀ b, w p b = w' p b) → wkP w ps b = wkP w' ps b
  | [], b, h => rfl
  | p :: r, b, h => by
    have h1 := h p (by simp) b
    simp only [wkP, h1]
    rw [wkP_congr r _ fun q hq b => h q (by simp [hq]) b]
theorem wk_fuel {e : List Nd} (hn : nodesOk e 0 = true) : ∀ (f g i b : Nat), i < e.length → i < f → i < g → wk e f (i : Int) b = wk e g (i : Int) b
  | 0, _, _, _, _, h, _ => by omega
  | _, 0, _, _, _, _, h => by omega
  | f + 1, g + 1, i, b, hi, hf, hg => by
    rw [wk_at hi, wk_at hi]
    have : wkP (wk e f) (partsOf e[i]) b = wkP (wk e g) (partsOf e[i]) b := wkP_congr _ _ fun p hp b => by
      obtain ⟨h0, h1⟩ := exParts_in hn hi p hp
      obtain ⟨q, rfl⟩ := Int.eq_ofNat_of_zero_le h0
      exact wk_fuel hn f g q b (by omega) (by omega) (by omega)
    rw [this]
theorem wkP_len_b {w : Int → Nat → List Nd} (h : ∀ p b b', (w p b).length = (w p b').length) : ∀ (ps : List Int) (b : Nat), (wkP w ps b).1.length = (ps.map fun p => (w p 0).length).sum
  | [], b => by simp [wkP]
  | p :: r, b => by
    simp only [wkP, List.length_append, List.map_cons, List.sum_cons]
    rw [wkP_len_b h r, h p b 0]
theorem wk_len_b (e : List Nd) : ∀ (f : Nat) (i : Int) (b b' : Nat), (wk e f i b).length = (wk e f i b').length
  | 0, i, b, b' => rfl
  | f + 1, i, b, b' => by
    simp only [wk]
    split
    · rw [List.length_append, List.length_append, wkP_len_b (wk_len_b e f), wkP_len_b (wk_len_b e f)]
      rfl
    · rfl
/-- how many nodes the subtree of a node has -/
def szT (e : List Nd) (i : Nat) : Nat := (wk e (i + 1) (i : Int) 0).length
theorem wk_szT {e : List Nd} (hn : nodesOk e 0 = true) {f i : Nat} (b : Nat) (hi : i < e.length) (hf : i < f) : (wk e f (i : Int) b).length = szT e i := by
  rw [wk_len_b e f _ b 0, wk_fuel hn f (i + 1) i 0 hi hf (by omega)]
  rfl
theorem szT_eq {e : List Nd} (hn : nodesOk e 0 = true) {i : Nat} (hi : i < e.length) : szT e i = 1 + ((pN e[i]).map (szT e)).sum := by
  unfold szT pN
  rw [wk_at hi, List.length_append, wkP_len_b (wk_len_b e i), List.map_map, Nat.add_comm]
  congr 2
  refine List.map_congr_left fun p hp => ?_
  obtain ⟨h0, h1⟩ := exParts_in hn hi p hp
  obtain ⟨q, rfl⟩ := Int.eq_ofNat_of_zero_le h0
  simp only [Function.comp, Int.toNat_natCast]
  rw [wk_fuel hn i (q + 1) q 0 (by omega) (by omega) (by omega)]

/-! ### how often a node is an operand -/
/-! ### sums -/
theorem sum_one (S : Nat → Nat) (p : Nat) : ∀ n, ((List.range n).map fun j => if j = p then S j else 0).sum = if p < n then S p else 0
  | 0 => by simp
  | n + 1 => by
    rw [List.range_succ, List.map_append, List.sum_append, sum_one S p n]
    simp only [List.map_cons, List.map_nil, List.sum_cons, List.sum_nil, Nat.add_zero]
    by_cases c : n = p
    · subst c; simp
    · rw [if_neg c, Nat.add_zero]
      by_cases d : p < n
      · rw [if_pos d, if_pos (by omega)]
      · rw [if_neg d, if_neg (by omega)]
theorem sum_add (f g : Nat → Nat) : ∀ l : List Nat, (l.map fun j => f j + g j).sum = (l.map f).sum + (l.map g).sum
  | [] => rfl
  | a :: r => by simp only [List.map_cons, List.sum_cons, sum_add f g r]; omega
theorem sum_count (S : Nat → Nat) (n : Nat) : ∀ L : List Nat, (∀ p ∈ L, p < n) → (L.map S).sum = ((List.range n).map fun j => L.count j * S j).sum
  | [], _ => by
    have : ∀ l : List Nat, (l.map fun j => ([] : List Nat).count j * S j).sum = 0 := fun l => by induction l <;> simp_all
    rw [this]; rfl
  | p :: r, h => by
    rw [List.map_cons, List.sum_cons, sum_count S n r fun q hq => h q (by simp [hq])]
    have e : (fun j => (p :: r).count j * S j) = fun j => r.count j * S j + (if j = p then S j else 0) := by
      funext j
      rw [List.count_cons]
      by_cases c : j = p
      · subst c; simp [Nat.add_mul]
      · have c' : ¬ p = j := fun e => c e.symm
        simp [c, c']
    rw [e, sum_add, sum_one, if_pos (h p (by simp)), Nat.add_comm]
theorem sum_le (f g : Nat → Nat) : ∀ l : List Nat, (∀ j ∈ l, f j ≤ g j) → (l.map f).sum ≤ (l.map g).sum
  | [], _ => by simp
  | a :: r, h => by
    have h1 := h a (by simp)
    have h2 := sum_le f g r fun j hj => h j (by simp [hj])
    simp only [List.map_cons, List.sum_cons]
    omega
theorem szT_sum {e : List Nd} (hn : nodesOk e 0 = true) : ∀ n, n ≤ e.length → ((List.range n).map (szT e)).sum = n + ((opsOfL (e.take n)).map (szT e)).sum
  | 0, _ => by simp [opsOfL]
  | n + 1, h => by
    have hi : n < e.length := by omega
    rw [List.range_succ, List.map_append, List.sum_append, szT_sum hn n (by omega), List.take_succ_eq_append_getElem hi]
    unfold opsOfL
    rw [List.flatMap_append, List.map_append, List.sum_append]
    simp only [List.map_cons, List.map_nil, List.sum_cons, List.sum_nil, List.flatMap_cons, List.flatMap_nil, List.append_nil, Nat.add_zero]
    rw [szT_eq hn hi]
    omega
theorem szT_le {e : List Nd} (hl : e.length ≤ 1048576) (hn : nodesOk e 0 = true) (ho : once e = true) {i : Nat} (hi : i < e.length) : szT e i ≤ i + 1 := by
  have h1 := szT_sum hn (i + 1) (by omega)
  have hlt : ∀ p ∈ opsOfL (e.take (i + 1)), p < i := fun p hp => by
    unfold opsOfL pN at hp
    obtain ⟨n, hm, hp⟩ := List.mem_flatMap.1 hp
    obtain ⟨q, hq, rfl⟩ := List.mem_map.1 hp
    obtain ⟨j, hj, rfl⟩ := List.getElem_of_mem hm
    rw [List.length_take] at hj
    rw [List.getElem_take] at hq
    have := exParts_in hn (i := j) (by omega) q hq
    omega
  have h2 := sum_count (szT e) i _ hlt
  have h3 : ∀ j ∈ List.range i, (opsOfL (e.take (i + 1))).count j * szT e j ≤ szT e j := fun j hj => by
    have hc := once_count hl hn ho j (by have := List.mem_range.1 hj; omega)
    have : (opsOfL e).count j = (opsOfL (e.take (i + 1))).count j + (opsOfL (e.drop (i + 1))).count j := by
      unfold opsOfL
      rw [← List.count_append, ← List.flatMap_append, List.take_append_drop]
    have hle : (opsOfL (e.take (i + 1))).count j ≤ 1 := by omega
    calc _ ≤ 1 * szT e j := Nat.mul_le_mul_right _ hle
      _ = _ := Nat.one_mul _
  have h4 := sum_le _ _ _ h3
  rw [List.range_succ, List.map_append, List.sum_append] at h1
  simp only [List.map_cons, List.map_nil, List.sum_cons, List.sum_nil, Nat.add_zero] at h1
  omega
/-- a subtree of a tree: all of it fits -/
theorem wk_tree {e : List Nd} (h : treeOk e = true) {f i : Nat} (b : Nat) (hi : i < e.length) (hf : i < f) : (wk e f (i : Int) b).length ≤ i + 1 := by
  obtain ⟨h1, h2, h3, h4⟩ := treeOk_parts h
  rw [wk_szT h1 b hi hf]
  exact szT_le (by omega) h1 h4 hi
theorem grow_tree {e : List Nd} (h : treeOk e = true) {i : Nat} (hi : i < e.length) : impl_grow_nil.v e (i : Int) = some (wk e 25 (i : Int) 0, ()) := by
  obtain ⟨h1, h2, h3, h4⟩ := treeOk_parts h
  have := wk_tree h (f := 25) 0 hi (by omega)
  exact ev_lim (growN_fit e h1 hi (g := 25) (f := 24) rfl (by omega) (by omega))
end Go.Proofs.YtafjengmkiepbaaGreat.Am
end
section
/- Nodes in the order of a tree's walk are a tree. -/
namespace Go.Proofs.YtafjengmkiepbaaGreat.Am
open Go
set_option linter.unusedVariables false
set_option linter.unusedSimpArgs false
theorem nodesOk_app : ∀ (a b : List Nd) (i : Nat), nodesOk (a ++ b) i = (nodesOk a i && nodesOk b (i + a.length))
  | [], b, i => by simp [nodesOk]
  | n :: r, b, i => by
    simp only [List.cons_append, nodesOk, nodesOk_app r b (i + 1), List.length_cons, Bool.and_assoc]
    rw [show i + 1 + r.length = i + (r.length + 1) by omega]
/-- the nodes of a tree in the order of its walk, behind b nodes -/
inductive Tr : Nat → List Nd → Prop
  | leaf (b : Nat) (n : Nd) (h : nodeOk n 0 = true) : Tr b [n]
  | one (b : Nat) (p : List Nd) (s : ByteArray) (hs : isOne s = true) (hp : Tr b p) : Tr b (p ++ [(s, ((b + p.length : Nat) : Int) - 1, 0, 0)])
  | two (b : Nat) (p q : List Nd) (s : ByteArray) (hs : isTwo s = true) (hp : Tr b p) (hq : Tr (b + p.length) q) : Tr b (p ++ q ++ [(s, ((b + p.length : Nat) : Int) - 1, ((b + p.length + q.length : Nat) : Int) - 1, 0)])
theorem Tr.pos {b : Nat} {l : List Nd} (h : Tr b l) : 1 ≤ l.length := by cases h <;> simp <;> omega
theorem nodeOk_leaf {n : Nd} (h : nodeOk n 0 = true) (i : Int) : nodeOk n i = true ∧ partsOf n = [] := by
  unfold nodeOk at h ⊢
  unfold partsOf
  rcases arity_cases n.1 with ⟨ha, h1, h2⟩ | ⟨ha, h1, h2⟩ | ⟨ha, h1, h2⟩ | ⟨ha, h1, h2⟩ <;> simp only [ha, h1, h2] at h ⊢
  · split at h
    · rename_i c; rw [if_pos c]; exact ⟨h, by simp⟩
    · split at h
      · rename_i c; rw [if_pos c]; exact ⟨by split <;> simp_all, by simp⟩
      · simp at h
  · split at h
    · rename_i c; rw [if_pos c]; exact ⟨h, by simp⟩
    · split at h
      · rename_i c; rw [if_pos c]; exact ⟨by split <;> simp_all, by simp⟩
      · simp at h
  · have n1 : n.1 ≠ tIn := fun e => by rw [e] at h1; revert h1; decide
    have n2 : n.1 ≠ tConst := fun e => by rw [e] at h1; revert h1; decide
    rw [if_neg n1, if_neg n2] at h
    simp only [if_true, Bool.and_eq_true, inB_iff] at h
    omega
  · obtain ⟨n1, n2, _⟩ := isTwo_not h2
    rw [if_neg n1, if_neg n2] at h
    simp only [Bool.false_eq_true, if_false, Bool.true_and, Bool.and_eq_true, inB_iff] at h
    omega
theorem isOne_not {s : ByteArray} (h : isOne s = true) : s ≠ tIn ∧ s ≠ tConst := ⟨fun e => by rw [e] at h; revert h; decide, fun e => by rw [e] at h; revert h; decide⟩
theorem Tr.ok {b : Nat} {l : List Nd} (h : Tr b l) : nodesOk l b = true := by
  induction h with
  | leaf b n h => simp only [nodesOk, (nodeOk_leaf h b).1, Bool.and_true]
  | one b p s hs hp ih =>
    have := hp.pos
    obtain ⟨n1, n2⟩ := isOne_not hs
    rw [nodesOk_app, ih]
    simp only [nodesOk, Bool.and_true, Bool.true_and, nodeOk]
    rw [if_neg n1, if_neg n2, if_pos hs]
    simp only [decide_true, Bool.and_true, inB_iff]
    omega
  | two b p q s hs hp hq ih1 ih2 =>
    have := hp.pos
    have := hq.pos
    obtain ⟨n1, n2, n3⟩ := isTwo_not hs
    rw [nodesOk_app, nodesOk_app, ih1, ih2]
    simp only [nodesOk, Bool.and_true, Bool.true_and, nodeOk, List.length_append]
    rw [if_neg n1, if_neg n2, if_neg (by simp [n3]), hs]
    simp only [decide_true, Bool.and_true, Bool.true_and, Bool.and_eq_true, inB_iff]
    omega
theorem opsOfL_app (a b : List Nd) : opsOfL (a ++ b) = opsOfL a ++ opsOfL b := by unfold opsOfL; rw [List.flatMap_append]
theorem pN_one {s : ByteArray} (hs : isOne s = true) (a c v : Int) : pN (s, a, c, v) = [a.toNat] := by
  unfold pN partsOf; rw [arity_one hs]; rfl
theorem pN_two {s : ByteArray} (hs : isTwo s = true) (a c v : Int) : pN (s, a, c, v) = [a.toNat, c.toNat] := by
  unfold pN partsOf; rw [arity_two hs]; rfl
/-- each node but the root is an operand once -/
theorem Tr.count {b : Nat} {l : List Nd} (h : Tr b l) (j : Nat) : (opsOfL l).count j = if b ≤ j ∧ j + 1 < b + l.length then 1 else 0 := by
  induction h with
  | leaf b n h =>
    have : pN n = [] := by unfold pN; rw [(nodeOk_leaf h 0).2]; rfl
    simp [opsOfL, this]
    try omega
  | one b p s hs hp ih =>
    have := hp.pos
    rw [opsOfL_app, List.count_append, ih]
    simp only [opsOfL, List.flatMap_cons, List.flatMap_nil, List.append_nil, pN_one hs, List.length_append, List.length_singleton]
    rw [List.count_singleton]
    simp only [beq_iff_eq]
    split <;> split <;> split <;> omega
  | two b p q s hs hp hq ih1 ih2 =>
    have := hp.pos
    have := hq.pos
    rw [opsOfL_app, opsOfL_app, List.count_append, List.count_append, ih1, ih2]
    simp only [opsOfL, List.flatMap_cons, List.flatMap_nil, List.append_nil, pN_two hs, List.length_append, List.length_singleton]
    rw [List.count_cons, List.count_singleton]
    simp only [beq_iff_eq]
    split <;> split <;> split <;> split <;> split <;> omega
theorem Tr.tree {l : List Nd} (h : Tr 0 l) (hl : l.length ≤ 24) : treeOk l = true := by
  have h1 := h.ok
  have h0 := h.pos
  have hu : ∀ j (hj : j < l.length), (usesOf l)[j]? = some (if j + 1 < l.length then 1 else 0) := fun j hj => by
    rw [usesOf_get (by omega) (nodesOk_parts h1) hj, h.count j]
    simp only [Nat.zero_le, true_and, Nat.zero_add]
    split <;> rfl
  have hlen := usesOf_len l
  unfold treeOk exprOk
  rw [h1]
  have e1 : inB l.length 1 24 = true := by rw [inB_iff]; omega
  have e2 : allUsed l = true := by
    unfold allUsed
    rw [Bool.not_eq_true', decide_eq_false_iff_not]
    intro hm
    obtain ⟨j, hj, ej⟩ := List.getElem_of_mem hm
    rw [List.length_take] at hj
    rw [List.getElem_take] at ej
    have := hu j (by omega)
    rw [List.getElem?_eq_getElem (by omega), ej, if_pos (by omega)] at this
    cases this
  have e3 : once l = true := by
    unfold once
    rw [List.all_eq_true]
    intro x hx
    obtain ⟨j, hj, ej⟩ := List.getElem_of_mem hx
    have := hu j (by omega)
    rw [List.getElem?_eq_getElem hj, ej] at this
    rw [decide_eq_true_iff, Option.some.inj this]
    split <;> omega
  rw [e1, e2, e3]; rfl
theorem node_tr {n : Nd} {i : Nat} (h : nodeOk n (i : Int) = true) {w : Int → Nat → List Nd} (hw : ∀ p ∈ partsOf n, ∀ b, Tr b (w p b)) (b : Nat) : Tr b ((wkP w (partsOf n) b).1 ++ [putN n (wkP w (partsOf n) b).2]) := by
  unfold nodeOk at h
  rcases arity_cases n.1 with ⟨ha, h1, h2⟩ | ⟨ha, h1, h2⟩ | ⟨ha, h1, h2⟩ | ⟨ha, h1, h2⟩
  · have hp : partsOf n = [] := by unfold partsOf; rw [ha]; simp
    rw [hp]
    refine Tr.leaf b _ ?_
    unfold nodeOk putN
    simp only [h1, h2] at h ⊢
    split at h
    · rename_i c; rw [if_pos c]; simp only [Bool.and_eq_true] at h; simp [wkP, h.2]
    · split at h
      · rename_i c c2; rw [if_neg c, if_pos c2]; simp only [Bool.and_eq_true] at h; simp [wkP, h.2]
      · simp at h
  · have hp : partsOf n = [] := by unfold partsOf; rw [ha]; simp
    rw [hp]
    refine Tr.leaf b _ ?_
    unfold nodeOk putN
    simp only [h1, h2] at h ⊢
    split at h
    · rename_i c; rw [if_pos c]; simp only [Bool.and_eq_true] at h; simp [wkP, h.2]
    · split at h
      · rename_i c c2; rw [if_neg c, if_pos c2]; simp only [Bool.and_eq_true] at h; simp [wkP, h.2]
      · simp at h
  · obtain ⟨n1, n2⟩ := isOne_not h1
    rw [if_neg n1, if_neg n2, if_pos h1] at h
    simp only [Bool.and_eq_true, decide_eq_true_iff] at h
    have hp : partsOf n = [n.2.1] := by unfold partsOf; rw [ha]; simp
    rw [hp] at hw ⊢
    have := Tr.one b (w n.2.1 b) n.1 h1 (hw _ (by simp) b)
    simpa [wkP, putN, h.2] using this
  · obtain ⟨n1, n2, n3⟩ := isTwo_not h2
    rw [if_neg n1, if_neg n2, if_neg (by simp [n3])] at h
    simp only [Bool.and_eq_true, decide_eq_true_iff] at h
    have hp : partsOf n = [n.2.1, n.2.2.1] := by unfold partsOf; rw [ha]; simp
    rw [hp] at hw ⊢
    have := Tr.two b (w n.2.1 b) (w n.2.2.1 (b + (w n.2.1 b).length)) n.1 h2 (hw _ (by simp) b) (hw _ (by simp) _)
    simpa [wkP, putN, h.2, List.append_assoc] using this
theorem wk_tr {e : List Nd} (hn : nodesOk e 0 = true) : ∀ (f i b : Nat), i < e.length → i < f → Tr b (wk e f (i : Int) b)
  | 0, i, b, _, h => by omega
  | f + 1, i, b, hi, hf => by
    rw [wk_at hi]
    have := nodesOk_get e 0 hn i hi
    exact node_tr this (fun p hp b => by
      obtain ⟨p0, p1⟩ := exParts_in hn hi p hp
      obtain ⟨q, rfl⟩ := Int.eq_ofNat_of_zero_le p0
      exact wk_tr hn f q b (by omega) (by omega)) b
end Go.Proofs.YtafjengmkiepbaaGreat.Am
end
section
/- Expressions that are expanded to trees: the program and the reference do the same. -/
namespace Go.Proofs.YtafjengmkiepbaaGreat.Am
open Go
set_option linter.unusedVariables false
set_option linter.unusedSimpArgs false

theorem bput_v (n : Nd) (t : List Nd) (ht : t.length ≤ 1000) : spec_exBuilt_put.v n false t = some ((t.length : Int), (((), false), t ++ [n])) := by
  refine spec_exBuilt_put.vs _ _ _ ?_
  have wl : IntKind.wrap .i64 ((((t ++ [n]).length : Nat) : Int) - 1) = (t.length : Int) := by
    rw [List.length_append, List.length_singleton, wrap_ok (by omega) (by omega)]; omega
  rw [br_f rfl, br_t (decide_eq_true (by simp; omega)), wl]
section
variable {e : List Nd}
theorem walk_full {i : Nat} (hi : i < e.length) {t : List Nd} (ht : 24 < t.length) : spec_exBuilt_walk.v e (i : Int) false t = some (0, (((), false), t)) := by
  refine spec_exBuilt_walk.vs _ _ _ _ ?_
  rw [br_t (by simp), Int.toNat_natCast, gt_at _ hi, br_t (by simp), gt_at _ hi, br_t (decide_eq_true (by omega))]
theorem walk_fit (hn : nodesOk e 0 = true) : ∀ (f i : Nat) (t : List Nd), i < e.length → i < f → t.length + (wk e f i t.length).length ≤ 24 →
    spec_exBuilt_walk.v e (i : Int) false t = some (((t.length + (wk e f i t.length).length : Nat) : Int) - 1, (((), false), t ++ wk e f i t.length))
  | 0, i, t, hi, hf, ht => by omega
  | f + 1, i, t, hi, hf, ht => by
    have hin := exParts_in hn hi
    rw [wk_at hi] at ht ⊢
    refine spec_exBuilt_walk.vs _ _ _ _ ?_
    rcases parts_ar e[i] with ⟨q, ha⟩ | ⟨q, ha⟩ | ⟨q, ha⟩
    · rw [q] at ht ⊢
      simp only [wkP, List.nil_append, List.length_singleton] at ht ⊢
      rw [br_t (by simp), Int.toNat_natCast, gt_at _ hi, br_t (by simp), gt_at _ hi, br_f (decide_eq_false (by omega)), br_t (by simp), gt_at _ hi, xParts_v, bd_s, q, br_f (by simp), br_t (by simp), gt_at _ hi, xParts_v, bd_s, q, br_f (by simp), bput_v _ _ (by omega), bd_s]
      have : ((t.length + 1 : Nat) : Int) - 1 = (t.length : Int) := by omega
      rw [this]; rfl
    · have hA := hin e[i].2.1 (by rw [q]; simp)
      obtain ⟨k, hk⟩ := Int.eq_ofNat_of_zero_le hA.1
      rw [hk] at hA
      rw [q, hk] at ht ⊢
      simp only [wkP, List.append_nil, List.length_append, List.length_singleton] at ht ⊢
      have ih := walk_fit hn f k t (by omega) (by omega) (by omega)
      rw [br_t (by simp), Int.toNat_natCast, gt_at _ hi, br_t (by simp), gt_at _ hi, br_f (decide_eq_false (by omega)), br_t (by simp), gt_at _ hi, xParts_v, bd_s, q, br_t (by simp), br_t (by simp), gt_at _ hi, hk, ih, bd_s]
      dsimp only
      rw [br_t (by simp), gt_at _ hi, xParts_v, bd_s, q, br_f (by simp), bput_v _ _ (by simp; omega), bd_s]
      have h1 : ((t.length + ((wk e f (k : Int) t.length).length + 1) : Nat) : Int) - 1 = (((t ++ wk e f (k : Int) t.length).length : Nat) : Int) := by rw [List.length_append]; omega
      rw [h1, List.append_assoc]; rfl
    · have hA := hin e[i].2.1 (by rw [q]; simp)
      have hB := hin e[i].2.2.1 (by rw [q]; simp)
      obtain ⟨k, hk⟩ := Int.eq_ofNat_of_zero_le hA.1
      obtain ⟨m, hm⟩ := Int.eq_ofNat_of_zero_le hB.1
      rw [hk] at hA
      rw [hm] at hB
      rw [q, hk, hm] at ht ⊢
      simp only [wkP, List.append_nil, List.length_append, List.length_singleton] at ht ⊢
      have ih := walk_fit hn f k t (by omega) (by omega) (by omega)
      have ih2 := walk_fit hn f m (t ++ wk e f (k : Int) t.length) (by omega) (by omega) (by rw [List.length_append]; omega)
      rw [List.length_append] at ih2
      rw [br_t (by simp), Int.toNat_natCast, gt_at _ hi, br_t (by simp), gt_at _ hi, br_f (decide_eq_false (by omega)), br_t (by simp), gt_at _ hi, xParts_v, bd_s, q, br_t (by simp), br_t (by simp), gt_at _ hi, hk, ih, bd_s]
      dsimp only
      rw [br_t (by simp), gt_at _ hi, xParts_v, bd_s, q, br_t (by simp), br_t (by simp), gt_at _ hi, hm, ih2, bd_s]
      dsimp only
      rw [bput_v _ _ (by simp; omega), bd_s]
      refine congrArg some (Prod.ext ?_ (Prod.ext rfl ?_))
      · dsimp only
        rw [List.length_append, List.length_append]; omega
      · dsimp only
        simp only [List.append_assoc]
        rfl
theorem walk_over (hn : nodesOk e 0 = true) : ∀ (f i : Nat) (t : List Nd), f ≤ 100 → i < e.length → i < f → t.length ≤ 24 → 24 < t.length + (wk e f i t.length).length →
    ∃ (x : Int) (t' : List Nd), 24 < t'.length ∧ t'.length ≤ 25 + f ∧ spec_exBuilt_walk.v e (i : Int) false t = some (x, (((), false), t'))
  | 0, i, t, _, hi, hf, h24, ht => by omega
  | f + 1, i, t, hf1, hi, hf, h24, ht => by
    have hin := exParts_in hn hi
    rw [wk_at hi] at ht
    rcases parts_ar e[i] with ⟨q, ha⟩ | ⟨q, ha⟩ | ⟨q, ha⟩
    · rw [q] at ht
      simp only [wkP, List.nil_append, List.length_singleton] at ht
      refine ⟨(t.length : Int), t ++ [(e[i].1, (0, (0, e[i].2.2.2)))], by simp; omega, by simp; omega, spec_exBuilt_walk.vs _ _ _ _ ?_⟩
      rw [br_t (by simp), Int.toNat_natCast, gt_at _ hi, br_t (by simp), gt_at _ hi, br_f (decide_eq_false (by omega)), br_t (by simp), gt_at _ hi, xParts_v, bd_s, q, br_f (by simp), br_t (by simp), gt_at _ hi, xParts_v, bd_s, q, br_f (by simp), bput_v _ _ (by omega), bd_s]
    · have hA := hin e[i].2.1 (by rw [q]; simp)
      obtain ⟨k, hk⟩ := Int.eq_ofNat_of_zero_le hA.1
      rw [hk] at hA
      rw [q, hk] at ht
      simp only [wkP, List.append_nil, List.length_append, List.length_singleton] at ht
      have first : ∃ (x : Int) (t1 : List Nd), 24 ≤ t1.length ∧ t1.length ≤ 25 + f ∧ spec_exBuilt_walk.v e (k : Int) false t = some (x, (((), false), t1)) := by
        by_cases c : t.length + (wk e f (k : Int) t.length).length ≤ 24
        · exact ⟨_, _, by rw [List.length_append]; omega, by rw [List.length_append]; omega, walk_fit hn f k t (by omega) (by omega) c⟩
        · obtain ⟨x, t1, a1, a2, a3⟩ := walk_over hn f k t (by omega) (by omega) (by omega) h24 (by omega)
          exact ⟨x, t1, by omega, a2, a3⟩
      obtain ⟨x, t1, a1, a2, a3⟩ := first
      refine ⟨(t1.length : Int), t1 ++ [(e[i].1, (x, (0, e[i].2.2.2)))], by simp; omega, by simp; omega, spec_exBuilt_walk.vs _ _ _ _ ?_⟩
      rw [br_t (by simp), Int.toNat_natCast, gt_at _ hi, br_t (by simp), gt_at _ hi, br_f (decide_eq_false (by omega)), br_t (by simp), gt_at _ hi, xParts_v, bd_s, q, br_t (by simp), br_t (by simp), gt_at _ hi, hk, a3, bd_s]
      dsimp only
      rw [br_t (by simp), gt_at _ hi, xParts_v, bd_s, q, br_f (by simp), bput_v _ _ (by omega), bd_s]
    · have hA := hin e[i].2.1 (by rw [q]; simp)
      have hB := hin e[i].2.2.1 (by rw [q]; simp)
      obtain ⟨k, hk⟩ := Int.eq_ofNat_of_zero_le hA.1
      obtain ⟨m, hm⟩ := Int.eq_ofNat_of_zero_le hB.1
      rw [hk] at hA
      rw [hm] at hB
      rw [q, hk, hm] at ht
      simp only [wkP, List.append_nil, List.length_append, List.length_singleton] at ht
      have both : ∃ (x y : Int) (t1 t2 : List Nd), 24 ≤ t2.length ∧ t2.length ≤ 25 + f ∧ spec_exBuilt_walk.v e (k : Int) false t = some (x, (((), false), t1)) ∧ spec_exBuilt_walk.v e (m : Int) false t1 = some (y, (((), false), t2)) := by
        by_cases c : t.length + (wk e f (k : Int) t.length).length ≤ 24
        · have v1 := walk_fit hn f k t (by omega) (by omega) c
          by_cases d : (t ++ wk e f (k : Int) t.length).length + (wk e f (m : Int) (t ++ wk e f (k : Int) t.length).length).length ≤ 24
          · have v2 := walk_fit hn f m (t ++ wk e f (k : Int) t.length) (by omega) (by omega) d
            refine ⟨_, _, _, _, ?_, ?_, v1, v2⟩
            · simp only [List.length_append] at ht d ⊢
              omega
            · simp only [List.length_append] at ht d ⊢
              omega
          · obtain ⟨y, t2, b1, b2, b3⟩ := walk_over hn f m (t ++ wk e f (k : Int) t.length) (by omega) (by omega) (by omega) (by rw [List.length_append]; omega) (by omega)
            exact ⟨_, y, _, t2, by omega, b2, v1, b3⟩
        · obtain ⟨x, t1, a1, a2, a3⟩ := walk_over hn f k t (by omega) (by omega) (by omega) h24 (by omega)
          exact ⟨x, 0, t1, t1, by omega, a2, a3, walk_full (by omega) a1⟩
      obtain ⟨x, y, t1, t2, a1, a2, a3, a4⟩ := both
      refine ⟨(t2.length : Int), t2 ++ [(e[i].1, (x, (y, e[i].2.2.2)))], by simp; omega, by simp; omega, spec_exBuilt_walk.vs _ _ _ _ ?_⟩
      rw [br_t (by simp), Int.toNat_natCast, gt_at _ hi, br_t (by simp), gt_at _ hi, br_f (decide_eq_false (by omega)), br_t (by simp), gt_at _ hi, xParts_v, bd_s, q, br_t (by simp), br_t (by simp), gt_at _ hi, hk, a3, bd_s]
      dsimp only
      rw [br_t (by simp), gt_at _ hi, xParts_v, bd_s, q, br_t (by simp), br_t (by simp), gt_at _ hi, hm, a4, bd_s]
      dsimp only
      rw [bput_v _ _ (by omega), bd_s]
/-- the tree of an expression, if it is not too large -/
def expA (e : List Nd) : List Nd × Bool := if exprOk e = true ∧ (wk e 25 ((e.length - 1 : Nat) : Int) 0).length ≤ 24 then (wk e 25 ((e.length - 1 : Nat) : Int) 0, true) else ([], false)
theorem specExpand_v (hl : e.length ≤ 1048576) : spec_ExpandExpr.v e = some (expA e) := by
  refine spec_ExpandExpr.vs _ ?_
  rw [exGood_v e hl, bd_s]; unfold expA
  cases c : exprOk e with
  | false => rw [if_neg (by simp)]; rfl
  | true =>
    obtain ⟨hn, h1, h24⟩ := exprOk_parts c
    rw [brn_t]
    refine spec_ExpandExpr.v0s _ _ _ ?_
    rw [last_w h1 hl]
    by_cases d : (wk e 25 ((e.length - 1 : Nat) : Int) 0).length ≤ 24
    · have := walk_fit hn 25 (e.length - 1) [] (by omega) (by omega) (by simpa using d)
      rw [this, bd_s, if_pos ⟨rfl, d⟩, br_f (decide_eq_false (by simp; omega))]
      simp
    · obtain ⟨x, t', a1, _, a3⟩ := walk_over hn 25 (e.length - 1) [] (by omega) (by omega) (by omega) (by simp) (by simpa using d)
      rw [a3, bd_s, if_neg (fun h => d h.2), br_t (decide_eq_true (by simp; omega))]
theorem implExpand_v (hl : e.length ≤ 1048576) : impl_ExpandExpr.v e = some (expA e) := by
  refine impl_ExpandExpr.vs _ ?_
  rw [isExpr_v e hl, bd_s]; unfold expA
  cases c : exprOk e with
  | false => rw [if_neg (by simp)]; rfl
  | true =>
    obtain ⟨hn, h1, h24⟩ := exprOk_parts c
    rw [brn_t, last_w h1 hl]
    by_cases d : (wk e 25 ((e.length - 1 : Nat) : Int) 0).length ≤ 24
    · have := ev_lim (growN_fit e hn (i := e.length - 1) (by omega) (g := 25) (f := 24) rfl (by omega) d)
      rw [show impl_grow_nil.v e ((e.length - 1 : Nat) : Int) = some (wk e 25 ((e.length - 1 : Nat) : Int) 0, ()) from this, bd_s, if_pos ⟨rfl, d⟩, br_f (decide_eq_false (by simp; omega))]
    · obtain ⟨t', a1, a3⟩ := growN_over e hn (i := e.length - 1) (by omega) (g := 25) (f := 24) rfl (by omega) (by omega)
      rw [show impl_grow_nil.v e ((e.length - 1 : Nat) : Int) = some (t', ()) from ev_lim a3, bd_s, if_neg (fun h => d h.2), br_t (decide_eq_true (by simp; omega))]
theorem expA_tree (h : (expA e).2 = true) : treeOk (expA e).1 = true := by
  unfold expA at h ⊢
  split at h
  · rename_i c
    rw [if_pos c]
    obtain ⟨hn, h1, h24⟩ := exprOk_parts c.1
    exact (wk_tr hn 25 (e.length - 1) 0 (by omega) (by omega)).tree c.2
  · cases h
theorem expA_len : (expA e).1.length ≤ 1048576 := by
  unfold expA
  split
  · rename_i c; exact Nat.le_trans c.2 (by omega)
  · simp
end
end Go.Proofs.YtafjengmkiepbaaGreat.Am
end
section
/- Rows of at most two numbers, sorted, turned round; a number put into a row; powers of two. -/
namespace Go.Proofs.YtafjengmkiepbaaGreat.Am
open Go
set_option linter.unusedVariables false
set_option linter.unusedSimpArgs false

theorem less_f (a b : Int) : cmp_Less_int.f a b = some (decide (a < b)) := by rw [cmp_Less_int.eq, cmp_isNaN_int.eq]; simp
theorem w01 : IntKind.wrap .i64 ((0 : Int) + 1) = 1 := rfl
theorem w11 : IntKind.wrap .i64 ((1 : Int) + 1) = 2 := rfl
theorem w1 : IntKind.wrap .i64 (1 : Int) = 1 := rfl
theorem w0 : IntKind.wrap .i64 (0 : Int) = 0 := rfl
theorem w2 : IntKind.wrap .i64 (2 : Int) = 2 := rfl
theorem w10 : IntKind.wrap .i64 ((1 : Int) - 1) = 0 := rfl
theorem ins_zero (l : List Int) : slices_insertionSortOrdered_int.v 0 0 l = some ((), l) := slices_insertionSortOrdered_int.vs _ _ _ (slices_insertionSortOrdered_int.v0s _ _ _ _ (by rw [w01]; rfl))
theorem ins_one (l : List Int) : slices_insertionSortOrdered_int.v 0 1 l = some ((), l) := slices_insertionSortOrdered_int.vs _ _ _ (slices_insertionSortOrdered_int.v0s _ _ _ _ (by rw [w01]; rfl))
def sort2 (a b : Int) : List Int := if b < a then [b, a] else [a, b]
theorem ins_two (a b : Int) : slices_insertionSortOrdered_int.v 0 2 [a, b] = some ((), sort2 a b) := by
  have e2 : ∀ l, slices_insertionSortOrdered_int.v0 0 2 2 l = some ((), l) := fun l => slices_insertionSortOrdered_int.v0s _ _ _ _ rfl
  have e0 : ∀ l, slices_insertionSortOrdered_int.v1 0 2 1 0 l = some ((), l) := fun l => slices_insertionSortOrdered_int.v1s _ _ _ _ _ (by rw [w11, e2]; rfl)
  refine slices_insertionSortOrdered_int.vs _ _ _ (slices_insertionSortOrdered_int.v0s _ _ _ _ ?_)
  rw [w01, br_t (by decide)]
  refine slices_insertionSortOrdered_int.v1s _ _ _ _ _ ?_
  unfold sort2
  by_cases c : b < a
  · simp [w10, w11, w1, w0, less_f, c, e0]
  · simp [w10, w11, w1, w0, w2, less_f, c, e2]
theorem pdq (n : Int) (h0 : 0 ≤ n) (h : n ≤ 12) (k : Int) (l : List Int) {r : Unit × List Int} (hi : slices_insertionSortOrdered_int.v 0 n l = some r) : slices_pdqsortOrdered_int.v 0 n k l = some ((), r.2) := by
  refine slices_pdqsortOrdered_int.vs _ _ _ _ (slices_pdqsortOrdered_int.v0s _ _ _ _ _ _ ?_)
  rw [wrap_ok (by omega) (by omega), br_t (decide_eq_true (by omega)), hi, bd_s]
theorem len0 : bits_Len.f (IntKind.wrap .u64 0) = some 0 := by kernel_rfl
theorem len1 : bits_Len.f (IntKind.wrap .u64 1) = some 1 := by kernel_rfl
theorem len2 : bits_Len.f (IntKind.wrap .u64 2) = some 2 := by kernel_rfl
theorem sort_nil : slices_Sort_int.v [] = some ((), []) := by
  refine slices_Sort_int.vs _ ?_
  rw [show ((([] : List Int).length : Nat) : Int) = 0 from rfl, len0, bd_s, pdq 0 (by omega) (by omega) _ _ (ins_zero []), bd_s]
theorem sort_one (a : Int) : slices_Sort_int.v [a] = some ((), [a]) := by
  refine slices_Sort_int.vs _ ?_
  rw [show ((([a] : List Int).length : Nat) : Int) = 1 from rfl, len1, bd_s, pdq 1 (by omega) (by omega) _ _ (ins_one [a]), bd_s]
theorem sort_two (a b : Int) : slices_Sort_int.v [a, b] = some ((), sort2 a b) := by
  refine slices_Sort_int.vs _ ?_
  rw [show ((([a, b] : List Int).length : Nat) : Int) = 2 from rfl, len2, bd_s, pdq 2 (by omega) (by omega) _ _ (ins_two a b), bd_s]
theorem put_two {b d : Int} (h : b < d) : spec_l1Put.v [d] b = some [b, d] := by
  have h1 : ¬ d < b := by omega
  have h2 : ¬ d = b := by omega
  exact spec_l1Put.vs _ _ (spec_l1Put.v0s _ _ _ (by simp [h1, h2]))
/-- whose power of 2 a word is -/
def powP (x : Int) : Int := if x = 2 then 1 else if x = 4 then 2 else if x = 8 then 3 else if x = 16 then 4 else if x = 32 then 5 else 0
theorem power_v (x : Int) : impl_power.v x = some (powP x) := by
  have e6 : impl_power.v0 x 6 = some 0 := impl_power.v0s _ _ rfl
  have st : ∀ (k y : Int) (r : Int), 0 ≤ k → k < 6 → IntKind.wrap .i64 ((1 : Int) * ((2 : Int) ^ (Min.min (Int.toNat k) 64))) = y → (if x = y then some k else impl_power.v0 x (k + 1)) = some r → impl_power.v0 x k = some r := fun k y r h0 h6 hy h => by
    refine impl_power.v0s _ _ ?_
    rw [br_t (decide_eq_true h6), br_t (decide_eq_true h0), hy, wrap_ok (by omega) (by omega), br_if]
    simpa using h
  refine impl_power.vs _ ?_
  unfold powP
  refine st 1 2 _ (by omega) (by omega) rfl ?_
  split
  · rfl
  refine st 2 4 _ (by omega) (by omega) rfl ?_
  split
  · rfl
  refine st 3 8 _ (by omega) (by omega) rfl ?_
  split
  · rfl
  refine st 4 16 _ (by omega) (by omega) rfl ?_
  split
  · rfl
  refine st 5 32 _ (by omega) (by omega) rfl ?_
  split
  · rfl
  exact e6
theorem rev_nil : slices_Reverse_int.v [] = some ((), []) := slices_Reverse_int.vs _ (slices_Reverse_int.v0s _ _ _ rfl)
theorem rev_one (a : Int) : slices_Reverse_int.v [a] = some ((), [a]) := slices_Reverse_int.vs _ (slices_Reverse_int.v0s _ _ _ rfl)
theorem rev_two (a b : Int) : slices_Reverse_int.v [a, b] = some ((), [b, a]) := by
  have e : ∀ l, slices_Reverse_int.v0 1 0 l = some ((), l) := fun l => slices_Reverse_int.v0s _ _ _ rfl
  refine slices_Reverse_int.vs _ ?_
  rw [show IntKind.wrap .i64 ((([a, b] : List Int).length : Int) - 1) = 1 from rfl]
  refine slices_Reverse_int.v0s _ _ _ ?_
  simp [w01, w10, w1, w0, e]
end Go.Proofs.YtafjengmkiepbaaGreat.Am
end
section
/- Tiles at a node: the program's and the reference's are the same. -/
namespace Go.Proofs.YtafjengmkiepbaaGreat.Am
open Go
set_option linter.unusedVariables false
set_option linter.unusedSimpArgs false

def ndAt (e : List Nd) (p : Int) : Nd := e.getD p.toNat (⟨#[]⟩, 0, 0, 0)
theorem ndAt_nat {e : List Nd} {i : Nat} (h : i < e.length) : ndAt e (i : Int) = e[i] := by
  unfold ndAt
  rw [Int.toNat_natCast, List.getD_eq_getElem?_getD, List.getElem?_eq_getElem h]; rfl
theorem ndAt_get {e : List Nd} {p : Int} (h0 : 0 ≤ p) (h : p < e.length) : e[p.toNat]? = some (ndAt e p) := by
  obtain ⟨i, rfl⟩ := Int.eq_ofNat_of_zero_le h0
  rw [ndAt_nat (by omega), Int.toNat_natCast]; exact List.getElem?_eq_getElem (by omega)
theorem ndAt_ok {e : List Nd} (hn : nodesOk e 0 = true) {p : Int} (h0 : 0 ≤ p) (h : p < e.length) : nodeOk (ndAt e p) p = true := by
  obtain ⟨i, rfl⟩ := Int.eq_ofNat_of_zero_le h0
  rw [ndAt_nat (by omega)]
  have := nodesOk_get e 0 hn i (by omega)
  rwa [Nat.zero_add] at this
def wordsL : List Int := (List.range 64).map Int.ofNat
theorem mem_words {x : Int} : x ∈ wordsL ↔ 0 ≤ x ∧ x ≤ 63 := by
  unfold wordsL
  rw [List.mem_map]
  constructor
  · rintro ⟨j, hj, rfl⟩
    have := List.mem_range.1 hj
    constructor
    · exact Int.natCast_nonneg j
    · show (j : Int) ≤ 63; omega
  · rintro ⟨h0, h1⟩
    exact ⟨x.toNat, List.mem_range.2 (by omega), by show ((x.toNat : Nat) : Int) = x; omega⟩
def isCn (m : Nd) (S : List Int) : Bool := decide (m.1 = tConst) && decide (m.2.2.2 ∈ S)
theorem const_word {m : Nd} {i : Int} (h : nodeOk m i = true) (c : m.1 = tConst) : 0 ≤ m.2.2.2 ∧ m.2.2.2 ≤ 63 := by
  unfold nodeOk at h
  rw [if_neg (by rw [c]; decide), if_pos c] at h
  simp only [Bool.and_eq_true, inB_iff] at h
  omega
def ops4 : List ByteArray := [(⟨#[97, 100, 100]⟩ : ByteArray), (⟨#[115, 117, 98]⟩ : ByteArray), (⟨#[97, 110, 100]⟩ : ByteArray), (⟨#[120, 111, 114]⟩ : ByteArray)]
def ops5 : List ByteArray := [(⟨#[97, 100, 100]⟩ : ByteArray), (⟨#[97, 110, 100]⟩ : ByteArray), (⟨#[120, 111, 114]⟩ : ByteArray)]
def ops6 : List ByteArray := [(⟨#[115, 104, 108]⟩ : ByteArray), (⟨#[115, 104, 114]⟩ : ByteArray)]
abbrev tAdd : ByteArray := ⟨#[97, 100, 100]⟩
abbrev Tl := List Int × List Int
def constM (b : Bool) (m : Nd) (S : List Int) (p c : Int) : Option Tl := if b = true ∧ isCn m S = true then some ([p], [c]) else none
def deepM (e : List Nd) (b : Bool) (plain deep : Int) (op : ByteArray) (S : List Int) : Option Tl :=
  if b = true ∧ (ndAt e deep).1 = op ∧ isCn (ndAt e (ndAt e deep).2.2.1) S = true then some ([plain, (ndAt e deep).2.1], [(ndAt e deep).2.2.1, deep]) else none
/-- the parts and the inner nodes of a tile at a node -/
def tileN (e : List Nd) (n : Nd) (t : Int) : Option Tl :=
  if t = 0 then (if n.1 = tIn then some ([], []) else none)
  else if t = 1 then (if n.1 = tConst then some ([], []) else none)
  else if t = 2 then (if isOne n.1 = true then some ([n.2.1], []) else none)
  else if t = 3 then (if isTwo n.1 = true then some ([n.2.1, n.2.2.1], []) else none)
  else if t = 4 then constM (isIn ops4 n.1) (ndAt e n.2.2.1) wordsL n.2.1 n.2.2.1
  else if t = 5 then constM (isIn ops5 n.1) (ndAt e n.2.1) wordsL n.2.2.1 n.2.1
  else if t = 6 then constM (isIn ops6 n.1) (ndAt e n.2.2.1) [1, 2, 3, 4, 5] n.2.1 n.2.2.1
  else if t = 7 then constM (decide (n.1 = tMul)) (ndAt e n.2.2.1) [2, 4, 8, 16, 32] n.2.1 n.2.2.1
  else if t = 8 then constM (decide (n.1 = tMul)) (ndAt e n.2.1) [2, 4, 8, 16, 32] n.2.2.1 n.2.1
  else if t = 9 then deepM e (decide (n.1 = tAdd)) n.2.1 n.2.2.1 tShl [1, 2, 3]
  else if t = 10 then deepM e (decide (n.1 = tAdd)) n.2.2.1 n.2.1 tShl [1, 2, 3]
  else if t = 11 then deepM e (decide (n.1 = tAdd)) n.2.1 n.2.2.1 tMul [2, 4, 8]
  else if t = 12 then deepM e (decide (n.1 = tAdd)) n.2.2.1 n.2.1 tMul [2, 4, 8]
  else none
def tileM (e : List Nd) (i t : Int) : Option Tl := tileN e (ndAt e i) t
def told : Option Tl → List Int × List Int × Bool
  | some (p, q) => (p, q, true)
  | none => ([], [], false)
theorem two_parts {n : Nd} {i : Int} (h : nodeOk n i = true) (c : isTwo n.1 = true) : (0 ≤ n.2.1 ∧ n.2.1 < i) ∧ 0 ≤ n.2.2.1 ∧ n.2.2.1 < i := by
  obtain ⟨h1, h2, h3⟩ := isTwo_not c
  unfold nodeOk at h
  rw [if_neg h1, if_neg h2, if_neg (by rw [h3]; decide)] at h
  simp only [Bool.and_eq_true, inB_iff] at h
  omega
theorem in4 {s : ByteArray} (h : isIn ops4 s = true) : isTwo s = true := by
  unfold isIn ops4 at h
  simp only [List.any_cons, List.any_nil, Bool.or_eq_true, decide_eq_true_eq, Bool.or_false] at h
  rcases h with h | h | h | h <;> subst h <;> decide
theorem in5 {s : ByteArray} (h : isIn ops5 s = true) : isTwo s = true := by
  unfold isIn ops5 at h
  simp only [List.any_cons, List.any_nil, Bool.or_eq_true, decide_eq_true_eq, Bool.or_false] at h
  rcases h with h | h | h <;> subst h <;> decide
theorem in6 {s : ByteArray} (h : isIn ops6 s = true) : isTwo s = true := by
  unfold isIn ops6 at h
  simp only [List.any_cons, List.any_nil, Bool.or_eq_true, decide_eq_true_eq, Bool.or_false] at h
  rcases h with h | h <;> subst h <;> decide

/-! ### the reference -/
theorem l1Has_v (l : List Int) (s : Int) (hl : l.length ≤ 9223372036854775000) : spec_l1Has.v l s = some (decide (s ∈ l)) := ev_lim (l1Has_ev l s hl)
theorem l1HasS_v (l : List ByteArray) (s : ByteArray) (hl : l.length ≤ 9223372036854775000) : spec_l1HasS.v l s = some (isIn l s) := ev_lim (l1HasS_ev l s hl)
theorem exTwo_v (s : ByteArray) : spec_exTwo.v s = some (isTwo s) := ev_lim (exTwo_ev s)
theorem operands_v' (s : ByteArray) : impl_operands.v s = some (arity s) := ev_lim (operands_ev s)
theorem cvConst_v (m : Nd) (S : List Int) (hS : S.length ≤ 1000) : spec_cvConst.v m S = some (isCn m S) := by
  refine spec_cvConst.vs _ _ ?_
  rw [seq_beq]
  unfold isCn
  by_cases c : m.1 = tConst
  · rw [br_t (by simpa using c), l1Has_v _ _ (by omega), bd_s]; simp [c]
  · rw [br_f (by simpa using c)]; simp [c]
theorem cvWords_v : spec_cvWords.v = some wordsL := by
  have key : ∀ (d i : Nat), i + d = 64 → spec_cvWords.v0 (i : Int) ((List.range i).map Int.ofNat) = some wordsL := by
    intro d
    induction d with
    | zero =>
      intro i hi
      obtain rfl : i = 64 := by omega
      exact spec_cvWords.v0s _ _ (br_f (by decide))
    | succ d ih =>
      intro i hi
      refine spec_cvWords.v0s _ _ ?_
      rw [br_t (decide_eq_true (by omega)), br_t (decide_eq_true (by simp; omega)), next_ok i 64 (by omega) (by omega)]
      have := ih (i + 1) (by omega)
      rw [List.range_succ, List.map_append] at this
      exact this
  exact spec_cvWords.vs (key 64 0 (by omega))
theorem cvDeep_v {e : List Nd} (hn : nodesOk e 0 = true) {p d : Int} (h0 : 0 ≤ d) (h : d < e.length) {op : ByteArray} (hop : isTwo op = true) {S : List Int} (hS : S.length ≤ 1000) : spec_cvDeep.v e p d op S = some (told (deepM e true p d op S)) := by
  refine spec_cvDeep.vs _ _ _ _ _ ?_
  rw [br_t (by simpa using h0), gt_some (ndAt_get h0 h), seq_beq]
  unfold deepM
  by_cases c : (ndAt e d).1 = op
  · have hk := ndAt_ok hn h0 h
    have hp := two_parts hk (by rw [c]; exact hop)
    rw [br_f (by simp [c]), br_t (by simpa using hp.2.1), gt_some (ndAt_get hp.2.1 (by omega)), cvConst_v _ _ hS, bd_s]
    by_cases q : isCn (ndAt e (ndAt e d).2.2.1) S = true
    · rw [q, brn_t, put_two hp.2.2, bd_s]; simp [c, told]
    · rw [Bool.not_eq_true] at q
      rw [q, brn_f]; simp [told]
  · rw [br_t (by simp [c])]; simp [c, told]
section
variable {e : List Nd} {t : Int} {n : Nd} {i : Int}
abbrev vv (k : Nat) (x : Option (List Int × List Int × Bool)) : Prop := x = some ([], [], false)
theorem cvN10 : spec_cvTile.v10 = some ([], [], false) := spec_cvTile.v10s rfl
theorem cvN9 (h : t ≠ 12) : spec_cvTile.v9 e t n.1 n.2.1 n.2.2.1 n.2.2.2 = some ([], [], false) := spec_cvTile.v9s _ _ _ _ _ _ ((br_f (by simpa using h)).trans cvN10)
theorem cvN8 (h : t < 11 ∨ 12 < t) : spec_cvTile.v8 e t n.1 n.2.1 n.2.2.1 n.2.2.2 = some ([], [], false) := spec_cvTile.v8s _ _ _ _ _ _ ((br_f (by simp; omega)).trans (cvN9 (by omega)))
theorem cvN7 (h : t < 10 ∨ 12 < t) : spec_cvTile.v7 e t n.1 n.2.1 n.2.2.1 n.2.2.2 = some ([], [], false) := spec_cvTile.v7s _ _ _ _ _ _ ((br_f (by simp; omega)).trans (cvN8 (by omega)))
theorem cvN6 (h : t < 9 ∨ 12 < t) : spec_cvTile.v6 e t n.1 n.2.1 n.2.2.1 n.2.2.2 = some ([], [], false) := spec_cvTile.v6s _ _ _ _ _ _ ((br_f (by simp; omega)).trans (cvN7 (by omega)))
theorem cvN5 (h : t < 8 ∨ 12 < t) : spec_cvTile.v5 e t n.1 n.2.1 n.2.2.1 n.2.2.2 = some ([], [], false) := spec_cvTile.v5s _ _ _ _ _ _ ((br_f (by simp; omega)).trans (cvN6 (by omega)))
theorem cvN4 (h : t < 7 ∨ 12 < t) : spec_cvTile.v4 e t n.1 n.2.1 n.2.2.1 n.2.2.2 = some ([], [], false) := spec_cvTile.v4s _ _ _ _ _ _ ((br_f (by simp; omega)).trans (cvN5 (by omega)))
theorem cvN3 (h : t < 6 ∨ 12 < t) : spec_cvTile.v3 e t n.1 n.2.1 n.2.2.1 n.2.2.2 = some ([], [], false) := spec_cvTile.v3s _ _ _ _ _ _ ((br_f (by simp; omega)).trans (cvN4 (by omega)))
theorem cvN2 (h : t < 5 ∨ 12 < t) : spec_cvTile.v2 e t n.1 n.2.1 n.2.2.1 n.2.2.2 = some ([], [], false) := spec_cvTile.v2s _ _ _ _ _ _ ((br_f (by simp; omega)).trans (cvN3 (by omega)))
theorem cvN1 (h : t < 4 ∨ 12 < t) : spec_cvTile.v1 e t n.1 n.2.1 n.2.2.1 n.2.2.2 = some ([], [], false) := spec_cvTile.v1s _ _ _ _ _ _ ((br_f (by simp; omega)).trans (cvN2 (by omega)))
theorem cvN0 (h : t < 3 ∨ 12 < t) : spec_cvTile.v0 e t n.1 n.2.1 n.2.2.1 n.2.2.2 = some ([], [], false) := spec_cvTile.v0s _ _ _ _ _ _ ((br_f (by simp; omega)).trans (cvN1 (by omega)))
theorem constT {m : Nd} {S : List Int} {p c : Int} : (br (isCn m S) (some ([p], ([c], true))) (some ([], ([], false)))) = some (told (constM true m S p c)) := by
  unfold constM; cases isCn m S <;> rfl
theorem words_len : wordsL.length ≤ 1000 := by simp [wordsL]
/-- behind the first three kinds -/
theorem cvTail (hn : nodesOk e 0 = true) (hk : nodeOk n i = true) (hi : i ≤ e.length) (h3 : t ≠ 0 ∧ t ≠ 1 ∧ t ≠ 2) : spec_cvTile.v0 e t n.1 n.2.1 n.2.2.1 n.2.2.2 = some (told (tileN e n t)) := by
  by_cases ho : t < 3 ∨ 12 < t
  · rw [cvN0 ho]
    unfold tileN
    rw [if_neg h3.1, if_neg h3.2.1, if_neg h3.2.2, if_neg (by omega), if_neg (by omega), if_neg (by omega), if_neg (by omega), if_neg (by omega), if_neg (by omega), if_neg (by omega), if_neg (by omega), if_neg (by omega), if_neg (by omega)]
    rfl
  rcases (show t = 3 ∨ t = 4 ∨ t = 5 ∨ t = 6 ∨ t = 7 ∨ t = 8 ∨ t = 9 ∨ t = 10 ∨ t = 11 ∨ t = 12 by omega) with rfl | rfl | rfl | rfl | rfl | rfl | rfl | rfl | rfl | rfl
  · refine spec_cvTile.v0s _ _ _ _ _ _ ?_
    rw [br_t (by decide), exTwo_v, bd_s, cvN1 (by omega)]
    by_cases c : isTwo n.1 = true
    · simp [c, tileN, told]
    · rw [Bool.not_eq_true] at c; simp [c, tileN, told]
  all_goals refine spec_cvTile.v0s _ _ _ _ _ _ ((br_f (by decide)).trans (spec_cvTile.v1s _ _ _ _ _ _ ?_))
  · rw [br_t (by decide), l1HasS_v _ _ (by decide), bd_s, cvN2 (by omega)]
    by_cases c : isIn ops4 n.1 = true
    · have hp := two_parts hk (in4 c)
      have c' := c
      unfold ops4 at c'
      rw [c', br_t rfl, br_t (by simpa using hp.2.1), gt_some (ndAt_get hp.2.1 (by omega)), cvWords_v, bd_s, cvConst_v _ _ words_len, bd_s, constT]
      simp [tileN, c]
    · rw [Bool.not_eq_true] at c
      have c' := c
      unfold ops4 at c'
      rw [c', br_f rfl]
      simp [tileN, c, constM, told]
  · rw [br_f (by decide)]
    refine spec_cvTile.v2s _ _ _ _ _ _ ?_
    rw [br_t (by decide), l1HasS_v _ _ (by decide), bd_s, cvN3 (by omega)]
    by_cases c : isIn ops5 n.1 = true
    · have hp := two_parts hk (in5 c)
      have c' := c
      unfold ops5 at c'
      rw [c', br_t rfl, br_t (by simpa using hp.1.1), gt_some (ndAt_get hp.1.1 (by omega)), cvWords_v, bd_s, cvConst_v _ _ words_len, bd_s, constT]
      simp [tileN, c]
    · rw [Bool.not_eq_true] at c
      have c' := c
      unfold ops5 at c'
      rw [c', br_f rfl]
      simp [tileN, c, constM, told]
  · rw [br_f (by decide)]
    refine spec_cvTile.v2s _ _ _ _ _ _ ?_
    rw [br_f (by decide)]
    refine spec_cvTile.v3s _ _ _ _ _ _ ?_
    rw [br_t (by decide), l1HasS_v _ _ (by decide), bd_s, cvN4 (by omega)]
    by_cases c : isIn ops6 n.1 = true
    · have hp := two_parts hk (in6 c)
      have c' := c
      unfold ops6 at c'
      rw [c', br_t rfl, br_t (by simpa using hp.2.1), gt_some (ndAt_get hp.2.1 (by omega)), cvConst_v _ _ (by decide), bd_s, constT]
      simp [tileN, c]
    · rw [Bool.not_eq_true] at c
      have c' := c
      unfold ops6 at c'
      rw [c', br_f rfl]
      simp [tileN, c, constM, told]
  · rw [br_f (by decide)]
    refine spec_cvTile.v2s _ _ _ _ _ _ ?_
    rw [br_f (by decide)]
    refine spec_cvTile.v3s _ _ _ _ _ _ ?_
    rw [br_f (by decide)]
    refine spec_cvTile.v4s _ _ _ _ _ _ ?_
    rw [br_t (by decide), cvN5 (by omega), seq_beq]
    by_cases c : n.1 = tMul
    · have hp := two_parts hk (by rw [c]; decide)
      rw [br_t (by simpa using c), br_t (by simpa using hp.2.1), gt_some (ndAt_get hp.2.1 (by omega)), cvConst_v _ _ (by decide), bd_s, constT]
      simp [tileN, c]
    · rw [br_f (by simpa using c)]
      simp [tileN, c, constM, told]
  · rw [br_f (by decide)]
    refine spec_cvTile.v2s _ _ _ _ _ _ ?_
    rw [br_f (by decide)]
    refine spec_cvTile.v3s _ _ _ _ _ _ ?_
    rw [br_f (by decide)]
    refine spec_cvTile.v4s _ _ _ _ _ _ ?_
    rw [br_f (by decide)]
    refine spec_cvTile.v5s _ _ _ _ _ _ ?_
    rw [br_t (by decide), cvN6 (by omega), seq_beq]
    by_cases c : n.1 = tMul
    · have hp := two_parts hk (by rw [c]; decide)
      rw [br_t (by simpa using c), br_t (by simpa using hp.1.1), gt_some (ndAt_get hp.1.1 (by omega)), cvConst_v _ _ (by decide), bd_s, constT]
      simp [tileN, c]
    · rw [br_f (by simpa using c)]
      simp [tileN, c, constM, told]
  · rw [br_f (by decide)]
    refine spec_cvTile.v2s _ _ _ _ _ _ ?_
    rw [br_f (by decide)]
    refine spec_cvTile.v3s _ _ _ _ _ _ ?_
    rw [br_f (by decide)]
    refine spec_cvTile.v4s _ _ _ _ _ _ ?_
    rw [br_f (by decide)]
    refine spec_cvTile.v5s _ _ _ _ _ _ ?_
    rw [br_f (by decide)]
    refine spec_cvTile.v6s _ _ _ _ _ _ ?_
    rw [br_t (by decide), cvN7 (by omega), seq_beq]
    by_cases c : n.1 = tAdd
    · have hp := two_parts hk (by rw [c]; decide)
      rw [br_t (by simpa using c), cvDeep_v hn hp.2.1 (by omega) (by decide) (by decide), bd_s]
      simp [tileN, c]
    · rw [br_f (by simpa using c)]
      simp [tileN, c, deepM, told]
  · rw [br_f (by decide)]
    refine spec_cvTile.v2s _ _ _ _ _ _ ?_
    rw [br_f (by decide)]
    refine spec_cvTile.v3s _ _ _ _ _ _ ?_
    rw [br_f (by decide)]
    refine spec_cvTile.v4s _ _ _ _ _ _ ?_
    rw [br_f (by decide)]
    refine spec_cvTile.v5s _ _ _ _ _ _ ?_
    rw [br_f (by decide)]
    refine spec_cvTile.v6s _ _ _ _ _ _ ?_
    rw [br_f (by decide)]
    refine spec_cvTile.v7s _ _ _ _ _ _ ?_
    rw [br_t (by decide), cvN8 (by omega), seq_beq]
    by_cases c : n.1 = tAdd
    · have hp := two_parts hk (by rw [c]; decide)
      rw [br_t (by simpa using c), cvDeep_v hn hp.1.1 (by omega) (by decide) (by decide), bd_s]
      simp [tileN, c]
    · rw [br_f (by simpa using c)]
      simp [tileN, c, deepM, told]
  · rw [br_f (by decide)]
    refine spec_cvTile.v2s _ _ _ _ _ _ ?_
    rw [br_f (by decide)]
    refine spec_cvTile.v3s _ _ _ _ _ _ ?_
    rw [br_f (by decide)]
    refine spec_cvTile.v4s _ _ _ _ _ _ ?_
    rw [br_f (by decide)]
    refine spec_cvTile.v5s _ _ _ _ _ _ ?_
    rw [br_f (by decide)]
    refine spec_cvTile.v6s _ _ _ _ _ _ ?_
    rw [br_f (by decide)]
    refine spec_cvTile.v7s _ _ _ _ _ _ ?_
    rw [br_f (by decide)]
    refine spec_cvTile.v8s _ _ _ _ _ _ ?_
    rw [br_t (by decide), cvN9 (by omega), seq_beq]
    by_cases c : n.1 = tAdd
    · have hp := two_parts hk (by rw [c]; decide)
      rw [br_t (by simpa using c), cvDeep_v hn hp.2.1 (by omega) (by decide) (by decide), bd_s]
      simp [tileN, c]
    · rw [br_f (by simpa using c)]
      simp [tileN, c, deepM, told]
  · rw [br_f (by decide)]
    refine spec_cvTile.v2s _ _ _ _ _ _ ?_
    rw [br_f (by decide)]
    refine spec_cvTile.v3s _ _ _ _ _ _ ?_
    rw [br_f (by decide)]
    refine spec_cvTile.v4s _ _ _ _ _ _ ?_
    rw [br_f (by decide)]
    refine spec_cvTile.v5s _ _ _ _ _ _ ?_
    rw [br_f (by decide)]
    refine spec_cvTile.v6s _ _ _ _ _ _ ?_
    rw [br_f (by decide)]
    refine spec_cvTile.v7s _ _ _ _ _ _ ?_
    rw [br_f (by decide)]
    refine spec_cvTile.v8s _ _ _ _ _ _ ?_
    rw [br_f (by decide)]
    refine spec_cvTile.v9s _ _ _ _ _ _ ?_
    rw [br_t (by decide), cvN10, seq_beq]
    by_cases c : n.1 = tAdd
    · have hp := two_parts hk (by rw [c]; decide)
      rw [br_t (by simpa using c), cvDeep_v hn hp.1.1 (by omega) (by decide) (by decide), bd_s]
      simp [tileN, c]
    · rw [br_f (by simpa using c)]
      simp [tileN, c, deepM, told]
theorem cvTile_v (hn : nodesOk e 0 = true) {j : Nat} (hj : j < e.length) (t : Int) : spec_cvTile.v e (j : Int) t = some (told (tileM e j t)) := by
  have hk : nodeOk (ndAt e j) (j : Int) = true := ndAt_ok hn (by omega) (by omega)
  refine spec_cvTile.vs _ _ _ ?_
  rw [br_t (by simp), gt_some (ndAt_get (by omega) (by omega))]
  unfold tileM
  by_cases t0 : t = 0
  · subst t0
    rw [br_t (by decide), seq_beq]
    by_cases c : (ndAt e j).1 = tIn <;> simp [tileN, c, told]
  rw [br_f (by simpa using t0)]
  by_cases t1 : t = 1
  · subst t1
    rw [br_t (by decide), seq_beq]
    by_cases c : (ndAt e j).1 = tConst <;> simp [tileN, c, told]
  rw [br_f (by simpa using t1)]
  by_cases t2 : t = 2
  · subst t2
    rw [br_t (by decide), exOne_f, bd_s, cvN0 (by omega)]
    by_cases c : isOne (ndAt e j).1 = true
    · simp [tileN, c, told]
    · rw [Bool.not_eq_true] at c; simp [tileN, c, told]
  rw [br_f (by simpa using t2)]
  exact cvTail hn hk (by omega) ⟨t0, t1, t2⟩
end
end Go.Proofs.YtafjengmkiepbaaGreat.Am
end
section
/- Tiles at a node: the program's. -/
namespace Go.Proofs.YtafjengmkiepbaaGreat.Am
open Go
set_option linter.unusedVariables false
set_option linter.unusedSimpArgs false

abbrev Tile := List Int × List Int × Int
/-- what a tile at a node costs -/
def tCostN (n : Nd) (t : Int) : Int := if t = 0 then 0 else if t = 3 then opCost n.1 else 1
def tCost (e : List Nd) (i t : Int) : Int := tCostN (ndAt e i) t
/-- the program's answer x at a node tells the tile that is told -/
def Tells (e : List Nd) (n : Nd) (t : Int) (x : Option (Tile × Bool)) : Prop := ∃ T : Tile, x = some (T, (tileN e n t).isSome) ∧ T.1.length ≤ 2 ∧ ∀ p q, tileN e n t = some (p, q) → T = (p, q, tCostN n t)
section
variable {e : List Nd} {n : Nd} {t i : Int}
theorem Tells.yes {p q : List Int} {c : Int} (h : tileN e n t = some (p, q)) (hc : c = tCostN n t) (hl : p.length ≤ 2) : Tells e n t (some ((p, q, c), true)) :=
  ⟨(p, q, c), by rw [h]; rfl, hl, fun p' q' h' => by rw [h] at h'; simp only [Option.some.injEq, Prod.mk.injEq] at h'; rw [← h'.1, ← h'.2, hc]⟩
theorem Tells.no {T : Tile} (h : tileN e n t = none) (hl : T.1.length ≤ 2) : Tells e n t (some (T, false)) := ⟨T, by rw [h]; rfl, hl, fun p q h' => by rw [h] at h'; cases h'⟩
theorem powP_pos (x : Int) : decide (powP x > 0) = decide (x ∈ [2, 4, 8, 16, 32]) := by
  unfold powP
  by_cases h2 : x = 2
  · subst h2; decide
  by_cases h4 : x = 4
  · subst h4; decide
  by_cases h8 : x = 8
  · subst h8; decide
  by_cases h16 : x = 16
  · subst h16; decide
  by_cases h32 : x = 32
  · subst h32; decide
  simp [h2, h4, h8, h16, h32]
theorem powP_three (x : Int) : inB (powP x) 1 3 = decide (x ∈ [2, 4, 8]) := by
  unfold powP
  by_cases h2 : x = 2
  · subst h2; decide
  by_cases h4 : x = 4
  · subst h4; decide
  by_cases h8 : x = 8
  · subst h8; decide
  by_cases h16 : x = 16
  · subst h16; decide
  by_cases h32 : x = 32
  · subst h32; decide
  simp [h2, h4, h8, h16, h32, inB]
theorem in13 (x : Int) : inB x 1 3 = decide (x ∈ [1, 2, 3]) := by
  rw [Bool.eq_iff_iff, inB_iff, decide_eq_true_iff]
  simp only [List.mem_cons, List.not_mem_nil, or_false]
  omega
theorem in15 (x : Int) : inB x 1 5 = decide (x ∈ [1, 2, 3, 4, 5]) := by
  rw [Bool.eq_iff_iff, inB_iff, decide_eq_true_iff]
  simp only [List.mem_cons, List.not_mem_nil, or_false]
  omega
/-- a constant that is taken -/
theorem constW {z : Int} (hn : nodesOk e 0 = true) {p c : Int} (h0 : 0 ≤ c) (h : c < e.length) {ops : List ByteArray} (hops : ops.length ≤ 1000) {S : List Int} {b : Bool} (ht : tileN e n t = constM (isIn ops n.1) (ndAt e c) S p c) (hb : (ndAt e c).1 = tConst → b = decide ((ndAt e c).2.2.2 ∈ S)) (hc : tCostN n t = 1) :
    Tells e n t (impl_constTile.v1 e p c b n.1 n.2.1 n.2.2.1 n.2.2.2 z ops) := by
  have key : ∀ x, impl_constTile.v1 e p c b n.1 n.2.1 n.2.2.1 n.2.2.2 z ops = x → Tells e n t x → Tells e n t (impl_constTile.v1 e p c b n.1 n.2.1 n.2.2.1 n.2.2.2 z ops) := fun x hx hT => hx ▸ hT
  by_cases c1 : isIn ops n.1 = true
  · by_cases c2 : (ndAt e c).1 = tConst
    · refine key _ (impl_constTile.v1s _ _ _ _ _ _ _ _ _ _ (r := (([p], [c], 1), b)) ?_) ?_
      · rw [containsS_v _ _ (by omega), bd_s, br_t c1, br_t (by simpa using h0), gt_some (ndAt_get h0 h), seq_beq, br_t (by simpa using c2)]
      · have hb := hb c2
        cases b with
        | true => exact Tells.yes (by rw [ht]; unfold constM isCn; rw [if_pos ⟨c1, by rw [← hb]; simp [c2]⟩]) hc.symm (by simp)
        | false => exact Tells.no (by rw [ht]; unfold constM isCn; rw [if_neg (fun q => by rw [← hb] at q; simp at q)]) (by simp)
    · refine key _ (impl_constTile.v1s _ _ _ _ _ _ _ _ _ _ (r := (([p], [c], 1), false)) ?_) ?_
      · rw [containsS_v _ _ (by omega), bd_s, br_t c1, br_t (by simpa using h0), gt_some (ndAt_get h0 h), seq_beq, br_f (by simpa using c2)]
      · exact Tells.no (by rw [ht]; unfold constM isCn; rw [if_neg (fun q => by simp [c2] at q)]) (by simp)
  · refine key _ (impl_constTile.v1s _ _ _ _ _ _ _ _ _ _ (r := (([p], [c], 1), false)) ?_) ?_
    · rw [Bool.not_eq_true] at c1
      rw [containsS_v _ _ (by omega), bd_s, br_f c1]
    · exact Tells.no (by rw [ht]; unfold constM; rw [if_neg (fun q => c1 q.1)]) (by simp)
theorem Tells.of {x y : Option (Tile × Bool)} (h : ∀ r, y = some r → x = some r) (hT : Tells e n t y) : Tells e n t x := by
  obtain ⟨T, h1, h2⟩ := hT
  exact ⟨T, h _ h1, h2⟩
/-- the kinds 4 to 8 -/
theorem constI (hn : nodesOk e 0 = true) (hk : nodeOk n i = true) (hi : i ≤ e.length) (h2 : isTwo n.1 = true) (ht : t = 4 ∨ t = 5 ∨ t = 6 ∨ t = 7 ∨ t = 8) : Tells e n t (impl_constTile.v e n t) := by
  have hp := two_parts hk h2
  have wd : ∀ c : Int, 0 ≤ c → c < e.length → (ndAt e c).1 = tConst → true = decide ((ndAt e c).2.2.2 ∈ wordsL) := fun c c0 c1 hc => (decide_eq_true (mem_words.2 (const_word (ndAt_ok hn c0 c1) hc))).symm
  rcases ht with rfl | rfl | rfl | rfl | rfl
  · refine Tells.of (fun r hr => impl_constTile.vs _ _ _ ((br_f (by decide)).trans ((br_f (by decide)).trans ((br_f (by decide)).trans ((br_f (by decide)).trans (impl_constTile.v0s _ _ _ _ _ _ _ _ _ _ ?_)))))) (constW (z := 0) hn hp.2.1 (by omega) (ops := ops4) (by decide) (S := wordsL) (b := true) (p := n.2.1) rfl (wd _ hp.2.1 (by omega)) rfl)
    rw [br_t (by simpa using hp.2.1), gt_some (ndAt_get hp.2.1 (by omega)), br_t (by decide)]
    exact hr
  · refine Tells.of (fun r hr => impl_constTile.vs _ _ _ ((br_t (by decide)).trans (impl_constTile.v0s _ _ _ _ _ _ _ _ _ _ ?_))) (constW (z := 0) hn hp.1.1 (by omega) (ops := ops5) (by decide) (S := wordsL) (b := true) (p := n.2.2.1) rfl (wd _ hp.1.1 (by omega)) rfl)
    rw [br_t (by simpa using hp.1.1), gt_some (ndAt_get hp.1.1 (by omega)), br_t (by decide)]
    exact hr
  · refine Tells.of (fun r hr => impl_constTile.vs _ _ _ ((br_f (by decide)).trans ((br_t (by decide)).trans (impl_constTile.v0s _ _ _ _ _ _ _ _ _ _ ?_)))) (constW (z := 0) hn hp.2.1 (by omega) (ops := ops6) (by decide) (S := [1, 2, 3, 4, 5]) (b := inB (ndAt e n.2.2.1).2.2.2 1 5) (p := n.2.1) rfl (fun _ => in15 _) rfl)
    rw [br_t (by simpa using hp.2.1), gt_some (ndAt_get hp.2.1 (by omega)), br_f (by decide), br_t (by decide), within_f, bd_s]
    cases hb : inB (ndAt e n.2.2.1).2.2.2 1 5
    · rw [hb] at hr; rw [br_f rfl, br_f (by decide)]; exact hr
    · rw [hb] at hr; rw [br_t rfl]; exact hr
  · refine Tells.of (fun r hr => impl_constTile.vs _ _ _ ((br_f (by decide)).trans ((br_f (by decide)).trans ((br_t (by decide)).trans (impl_constTile.v0s _ _ _ _ _ _ _ _ _ _ ?_))))) (constW (z := 0) hn hp.2.1 (by omega) (ops := [tMul]) (by decide) (S := [2, 4, 8, 16, 32]) (b := decide (powP (ndAt e n.2.2.1).2.2.2 > 0)) (p := n.2.1) (by simp [tileN, isIn, eq_comm]) (fun _ => powP_pos _) rfl)
    rw [br_t (by simpa using hp.2.1), gt_some (ndAt_get hp.2.1 (by omega)), br_f (by decide), br_f (by decide), br_t (by decide), power_v, bd_s]
    exact hr
  · refine Tells.of (fun r hr => impl_constTile.vs _ _ _ ((br_f (by decide)).trans ((br_f (by decide)).trans ((br_f (by decide)).trans ((br_t (by decide)).trans (impl_constTile.v0s _ _ _ _ _ _ _ _ _ _ ?_)))))) (constW (z := 0) hn hp.1.1 (by omega) (ops := [tMul]) (by decide) (S := [2, 4, 8, 16, 32]) (b := decide (powP (ndAt e n.2.1).2.2.2 > 0)) (p := n.2.2.1) (by simp [tileN, isIn, eq_comm]) (fun _ => powP_pos _) rfl)
    rw [br_t (by simpa using hp.1.1), gt_some (ndAt_get hp.1.1 (by omega)), br_f (by decide), br_f (by decide), br_t (by decide), power_v, bd_s]
    exact hr
/-- a sum with a part that is moved -/
theorem sumW (hn : nodesOk e 0 = true) {p d : Int} (h0 : 0 ≤ d) (h : d < e.length) {op : ByteArray} (hop : isTwo op = true) {S : List Int} {q : Int → Bool} (ht : tileN e n t = deepM e (decide (n.1 = tAdd)) p d op S) (hq : ∀ x, q x = decide (x ∈ S)) (hc : tCostN n t = 1)
    {f : Nd → Int → Option (Tile × Bool)} (hf : (ndAt e d).1 = op → ∀ x, f (ndAt e d) x = some (([p, (ndAt e d).2.1], [(ndAt e d).2.2.1, d], 1), q x)) :
    Tells e n t (br (decide (0 ≤ d)) (gt e (Int.toNat d) fun r0 => br (Bool.not (seq n.1 tAdd)) (some (([], ([], 0)), false)) (br (Bool.not (seq r0.1 op)) (some (([], ([], 0)), false)) (br (decide (0 ≤ r0.2.2.1)) (gt e (Int.toNat r0.2.2.1) fun r1 => br (Bool.not (seq r1.1 tConst)) (some (([], ([], 0)), false)) (br (decide (0 ≤ r0.2.2.1)) (gt e (Int.toNat r0.2.2.1) fun r2 => f r0 r2.2.2.2) none)) none))) none) := by
  rw [br_t (by simpa using h0), gt_some (ndAt_get h0 h), seq_beq, seq_beq]
  by_cases c1 : n.1 = tAdd
  · rw [br_f (by simp [c1])]
    by_cases c2 : (ndAt e d).1 = op
    · have hp := two_parts (ndAt_ok hn h0 h) (by rw [c2]; exact hop)
      rw [br_f (by simp [c2]), br_t (by simpa using hp.2.1), gt_some (ndAt_get hp.2.1 (by omega)), seq_beq]
      by_cases c3 : (ndAt e (ndAt e d).2.2.1).1 = tConst
      · rw [br_f (by simp [c3]), br_t (by simpa using hp.2.1), gt_some (ndAt_get hp.2.1 (by omega)), hf c2 _]
        have hq' := hq (ndAt e (ndAt e d).2.2.1).2.2.2
        cases hb : q (ndAt e (ndAt e d).2.2.1).2.2.2 with
        | true => exact Tells.yes (by rw [ht]; unfold deepM isCn; rw [if_pos ⟨by simp [c1], c2, by rw [← hq', hb]; simp [c3]⟩]) hc.symm (by simp)
        | false => exact Tells.no (by rw [ht]; unfold deepM isCn; rw [if_neg (fun k => by rw [← hq', hb] at k; simp at k)]) (by simp)
      · rw [br_t (by simp [c3])]
        exact Tells.no (by rw [ht]; unfold deepM isCn; rw [if_neg (fun k => by simp [c3] at k)]) (by simp)
    · rw [br_t (by simp [c2])]
      exact Tells.no (by rw [ht]; unfold deepM; rw [if_neg (fun k => c2 k.2.1)]) (by simp)
  · rw [br_t (by simp [c1])]
    exact Tells.no (by rw [ht]; unfold deepM; rw [if_neg (fun k => by simp [c1] at k)]) (by simp)
theorem sort_part (hn : nodesOk e 0 = true) {d : Int} (h0 : 0 ≤ d) (h : d < e.length) {op : ByteArray} (hop : isTwo op = true) (hd : (ndAt e d).1 = op) : slices_Sort_int.v [(ndAt e d).2.2.1, d] = some ((), [(ndAt e d).2.2.1, d]) := by
  have hp := two_parts (ndAt_ok hn h0 h) (by rw [hd]; exact hop)
  rw [sort_two, sort2, if_neg (by omega)]
/-- the kinds 9 to 12 -/
theorem sumI (hn : nodesOk e 0 = true) (hk : nodeOk n i = true) (hi : i ≤ e.length) (h2 : isTwo n.1 = true) (ht : t = 9 ∨ t = 10 ∨ t = 11 ∨ t = 12) : Tells e n t (impl_sumTile.v e n t) := by
  have hp := two_parts hk h2
  rcases ht with rfl | rfl | rfl | rfl
  · refine Tells.of (fun r hr => impl_sumTile.vs _ _ _ ((br_f (by decide)).trans ((br_f (by decide)).trans ((br_f (by decide)).trans hr)))) (sumW hn hp.2.1 (by omega) (op := tShl) (by decide) (S := [1, 2, 3]) (p := n.2.1) rfl (q := fun x => inB x 1 3) (fun x => in13 x) rfl
      (f := fun r0 x => br (decide ((9 : Int) > 10)) (bd (impl_power.v x) fun r3 => bd (slices_Sort_int.v [r0.2.2.1, n.2.2.1]) fun r4 => bd (impl_within.f r3 1 3) fun r5 => some (([n.2.1, r0.2.1], (r4.2, 1)), r5)) (bd (slices_Sort_int.v [r0.2.2.1, n.2.2.1]) fun r6 => bd (impl_within.f x 1 3) fun r7 => some (([n.2.1, r0.2.1], (r6.2, 1)), r7))) (fun ho x => ?_))
    simp only [sort_part hn hp.2.1 (by omega) (by decide) ho, power_v, within_f, bd_s]
    rw [br_f (by decide)]
  · refine Tells.of (fun r hr => impl_sumTile.vs _ _ _ ((br_t (by decide)).trans ((br_f (by decide)).trans hr))) (sumW hn hp.1.1 (by omega) (op := tShl) (by decide) (S := [1, 2, 3]) (p := n.2.2.1) rfl (q := fun x => inB x 1 3) (fun x => in13 x) rfl
      (f := fun r0 x => br (decide ((10 : Int) > 10)) (bd (impl_power.v x) fun r3 => bd (slices_Sort_int.v [r0.2.2.1, n.2.1]) fun r4 => bd (impl_within.f r3 1 3) fun r5 => some (([n.2.2.1, r0.2.1], (r4.2, 1)), r5)) (bd (slices_Sort_int.v [r0.2.2.1, n.2.1]) fun r6 => bd (impl_within.f x 1 3) fun r7 => some (([n.2.2.1, r0.2.1], (r6.2, 1)), r7))) (fun ho x => ?_))
    simp only [sort_part hn hp.1.1 (by omega) (by decide) ho, power_v, within_f, bd_s]
    rw [br_f (by decide)]
  · refine Tells.of (fun r hr => impl_sumTile.vs _ _ _ ((br_f (by decide)).trans ((br_f (by decide)).trans ((br_t (by decide)).trans hr)))) (sumW hn hp.2.1 (by omega) (op := tMul) (by decide) (S := [2, 4, 8]) (p := n.2.1) rfl (q := fun x => inB (powP x) 1 3) (fun x => powP_three x) rfl
      (f := fun r0 x => br (decide ((11 : Int) > 10)) (bd (impl_power.v x) fun r3 => bd (slices_Sort_int.v [r0.2.2.1, n.2.2.1]) fun r4 => bd (impl_within.f r3 1 3) fun r5 => some (([n.2.1, r0.2.1], (r4.2, 1)), r5)) (bd (slices_Sort_int.v [r0.2.2.1, n.2.2.1]) fun r6 => bd (impl_within.f x 1 3) fun r7 => some (([n.2.1, r0.2.1], (r6.2, 1)), r7))) (fun ho x => ?_))
    simp only [sort_part hn hp.2.1 (by omega) (by decide) ho, power_v, within_f, bd_s]
    rw [br_t (by decide)]
  · refine Tells.of (fun r hr => impl_sumTile.vs _ _ _ ((br_f (by decide)).trans ((br_t (by decide)).trans ((br_t (by decide)).trans hr)))) (sumW hn hp.1.1 (by omega) (op := tMul) (by decide) (S := [2, 4, 8]) (p := n.2.2.1) rfl (q := fun x => inB (powP x) 1 3) (fun x => powP_three x) rfl
      (f := fun r0 x => br (decide ((12 : Int) > 10)) (bd (impl_power.v x) fun r3 => bd (slices_Sort_int.v [r0.2.2.1, n.2.1]) fun r4 => bd (impl_within.f r3 1 3) fun r5 => some (([n.2.2.1, r0.2.1], (r4.2, 1)), r5)) (bd (slices_Sort_int.v [r0.2.2.1, n.2.1]) fun r6 => bd (impl_within.f x 1 3) fun r7 => some (([n.2.2.1, r0.2.1], (r6.2, 1)), r7))) (fun ho x => ?_))
    simp only [sort_part hn hp.1.1 (by omega) (by decide) ho, power_v, within_f, bd_s]
    rw [br_t (by decide)]
theorem tileN_two (h : isTwo n.1 = false) (h3 : 3 ≤ t) : tileN e n t = none := by
  have n4 : isIn ops4 n.1 = false := by cases c : isIn ops4 n.1 with
    | false => rfl
    | true => rw [in4 c] at h; cases h
  have n5 : isIn ops5 n.1 = false := by cases c : isIn ops5 n.1 with
    | false => rfl
    | true => rw [in5 c] at h; cases h
  have n6 : isIn ops6 n.1 = false := by cases c : isIn ops6 n.1 with
    | false => rfl
    | true => rw [in6 c] at h; cases h
  have nm : decide (n.1 = tMul) = false := decide_eq_false fun c => by rw [c] at h; revert h; decide
  have na : decide (n.1 = tAdd) = false := decide_eq_false fun c => by rw [c] at h; revert h; decide
  unfold tileN
  rw [if_neg (by omega), if_neg (by omega), if_neg (by omega), h, n4, n5, n6, nm, na]
  unfold constM deepM
  simp
theorem tileAt_t (hn : nodesOk e 0 = true) {j : Nat} (hj : j < e.length) (h0 : 0 ≤ t) (h12 : t ≤ 12) : Tells e (ndAt e j) t (impl_tileAt.v e (j : Int) t) := by
  have hk : nodeOk (ndAt e j) (j : Int) = true := ndAt_ok hn (by omega) (by omega)
  have st : ∀ {y : Option (Tile × Bool)}, Tells e (ndAt e j) t y → (∀ r, y = some r → (br (t == (0 : Int)) (some (([], ([], (0 : Int))), (seq (ndAt e j).1 tIn))) (br (t == (1 : Int)) (some (([], ([], (1 : Int))), (seq (ndAt e j).1 tConst))) (br (t == (2 : Int)) (some ((((ndAt e j).2.1 :: []), ([], (1 : Int))), (arity (ndAt e j).1 == (1 : Int)))) (br (decide (arity (ndAt e j).1 < (2 : Int))) (some (([], ([], (0 : Int))), false)) (br (t == (3 : Int)) (bd (impl_formOf.v (ndAt e j).1) fun r2 => (some ((((ndAt e j).2.1 :: ((ndAt e j).2.2.1 :: [])), ([], r2.1.2.2.2.2.1)), true))) (br (decide (t ≤ (8 : Int))) (bd (impl_constTile.v e (ndAt e j) t) fun r3 => (some r3)) (bd (impl_sumTile.v e (ndAt e j) t) fun r4 => (some r4)))))))) = some r) → Tells e (ndAt e j) t (impl_tileAt.v e (j : Int) t) := fun hT hy => Tells.of (fun r hr => impl_tileAt.vs _ _ _ (by rw [br_t (by simp), gt_some (ndAt_get (by omega) (by omega)), operands_v', bd_s]; exact hy r hr)) hT
  by_cases t0 : t = 0
  · subst t0
    by_cases c : (ndAt e j).1 = tIn
    · exact st (Tells.yes (p := []) (q := []) (by simp [tileN, c]) rfl (by simp)) fun r hr => by rw [br_t (by decide), seq_t c]; exact hr
    · exact st (Tells.no (T := ([], [], 0)) (by simp [tileN, c]) (by simp)) fun r hr => by rw [br_t (by decide), seq_f c]; exact hr
  by_cases t1 : t = 1
  · subst t1
    by_cases c : (ndAt e j).1 = tConst
    · exact st (Tells.yes (p := []) (q := []) (by simp [tileN, c]) rfl (by simp)) fun r hr => by rw [br_f (by decide), br_t (by decide), seq_t c]; exact hr
    · exact st (Tells.no (T := ([], [], 1)) (by simp [tileN, c]) (by simp)) fun r hr => by rw [br_f (by decide), br_t (by decide), seq_f c]; exact hr
  by_cases t2 : t = 2
  · subst t2
    by_cases c : isOne (ndAt e j).1 = true
    · exact st (Tells.yes (p := [(ndAt e j).2.1]) (q := []) (by simp [tileN, c]) rfl (by simp)) fun r hr => by rw [br_f (by decide), br_f (by decide), br_t (by decide), arity_one c]; exact hr
    · have ca : (arity (ndAt e j).1 == (1 : Int)) = false := by
        have : ¬ arity (ndAt e j).1 = 1 := fun q => c (arity_eq_one.1 q)
        simpa using this
      exact st (Tells.no (T := ([(ndAt e j).2.1], [], 1)) (by simp [tileN, c]) (by simp)) fun r hr => by rw [br_f (by decide), br_f (by decide), br_t (by decide), ca]; exact hr
  by_cases c2 : isTwo (ndAt e j).1 = true
  · have ha := arity_two c2
    by_cases t3 : t = 3
    · subst t3
      refine st (Tells.yes (p := [(ndAt e j).2.1, (ndAt e j).2.2.1]) (q := []) (by simp [tileN, c2]) rfl (by simp)) fun r hr => ?_
      rw [br_f (by decide), br_f (by decide), br_f (by decide), ha, br_f (by decide), br_t (by decide), formOf_v, bd_s, formP_cost (by omega)]
      exact hr
    · by_cases t8 : t ≤ 8
      · refine st (constI hn hk (by omega) c2 (by omega)) fun r hr => ?_
        rw [br_f (by simpa using t0), br_f (by simpa using t1), br_f (by simpa using t2), ha, br_f (by decide), br_f (by simpa using t3), br_t (by simpa using t8), hr, bd_s]
      · refine st (sumI hn hk (by omega) c2 (by omega)) fun r hr => ?_
        rw [br_f (by simpa using t0), br_f (by simpa using t1), br_f (by simpa using t2), ha, br_f (by decide), br_f (by simpa using t3), br_f (by simpa using t8), hr, bd_s]
  · rw [Bool.not_eq_true] at c2
    have ha : arity (ndAt e j).1 < 2 := by
      rcases arity_cases (ndAt e j).1 with ⟨h, _⟩ | ⟨h, _⟩ | ⟨h, _⟩ | ⟨h, _, h2⟩
      · omega
      · omega
      · omega
      · rw [h2] at c2; cases c2
    exact st (Tells.no (T := ([], [], 0)) (tileN_two c2 (by omega)) (by simp)) fun r hr => by
      rw [br_f (by simpa using t0), br_f (by simpa using t1), br_f (by simpa using t2), br_t (by simpa using ha)]
      exact hr
end
/-- the program's tile at a node -/
noncomputable def tileI (e : List Nd) (i t : Int) : Tile := ((impl_tileAt.v e i t).getD (([], [], 0), false)).1
section
variable {e : List Nd} {t : Int} {j : Nat}
theorem tileAt_v (hn : nodesOk e 0 = true) (hj : j < e.length) (h0 : 0 ≤ t) (h12 : t ≤ 12) : impl_tileAt.v e (j : Int) t = some (tileI e j t, (tileM e j t).isSome) := by
  obtain ⟨T, h, _⟩ := tileAt_t hn hj h0 h12
  unfold tileI
  rw [h]; rfl
theorem tileI_len (hn : nodesOk e 0 = true) (hj : j < e.length) (h0 : 0 ≤ t) (h12 : t ≤ 12) : (tileI e j t).1.length ≤ 2 := by
  obtain ⟨T, h, hl, _⟩ := tileAt_t hn hj h0 h12
  unfold tileI
  rw [h]; exact hl
theorem tileI_eq (hn : nodesOk e 0 = true) (hj : j < e.length) (h0 : 0 ≤ t) (h12 : t ≤ 12) {p q : List Int} (hm : tileM e j t = some (p, q)) : tileI e j t = (p, q, tCost e j t) := by
  obtain ⟨T, h, hl, hq⟩ := tileAt_t hn hj h0 h12
  unfold tileI
  rw [h]; exact hq p q hm
end
end Go.Proofs.YtafjengmkiepbaaGreat.Am
end
section
/- A row of so many times -1. -/
namespace Go.Proofs.YtafjengmkiepbaaGreat.Am
open Go
set_option linter.unusedVariables false
set_option linter.unusedSimpArgs false

theorem mul_all : (List.range 25).all (fun n => decide (bits_Mul.f 1 (IntKind.wrap .u64 (n : Int)) = some ((0 : Int), (n : Int)))) = true := by kernel_rfl
theorem mul_small {n : Nat} (h : n ≤ 24) : bits_Mul.f 1 (IntKind.wrap .u64 (n : Int)) = some ((0 : Int), (n : Int)) := by
  have := List.all_eq_true.1 mul_all n (List.mem_range.2 (by omega))
  simpa using this
theorem rep_loop (a : Int) (n : Nat) (h24 : n ≤ 24) : ∀ (d m : Nat), n ≤ m + d → 1 ≤ m → m ≤ n → slices_Repeat_int.v0 (m : Int) (List.replicate m a ++ List.replicate (n - m) 0) = some (List.replicate n a, ()) := by
  intro d
  induction d with
  | zero =>
    intro m hd h1 hm
    obtain rfl : m = n := by omega
    refine slices_Repeat_int.v0s _ _ ?_
    rw [br_f (by simp)]
    simp
  | succ d ih =>
    intro m hd h1 hm
    have hlen : (List.replicate m a ++ List.replicate (n - m) (0 : Int)).length = n := by simp; omega
    by_cases c : m = n
    · subst c
      refine slices_Repeat_int.v0s _ _ ?_
      rw [br_f (by rw [hlen]; simp)]
      simp
    · refine slices_Repeat_int.v0s _ _ ?_
      rw [hlen, br_t (by simp; omega), br_t (by simp), br_t (by simp; omega), br_t (by simp), br_t (by simp), br_t (by simp; omega)]
      simp only [Int.toNat_natCast, show (0 : Int).toNat = 0 from rfl, Nat.sub_zero, List.drop_zero]
      have e1 : List.take m (List.replicate m a ++ List.replicate (n - m) (0 : Int)) = List.replicate m a := by
        rw [List.take_append_of_le_length (by simp)]; simp
      rw [e1, List.length_replicate, List.take_replicate, List.drop_append, List.drop_replicate, List.drop_replicate, List.length_replicate]
      have k : min m (n - m) ≤ n - m := Nat.min_le_right _ _
      have k2 : 1 ≤ min m (n - m) := by omega
      rw [show m - (m + min m (n - m)) = 0 by omega, show m + min m (n - m) - m = min m (n - m) by omega, Nat.min_comm (n - m) m]
      rw [show IntKind.wrap .i64 ((m : Int) + ((min m (n - m) : Nat) : Int)) = ((m + min m (n - m) : Nat) : Int) by rw [wrap_ok (by omega) (by omega)]; rfl]
      simp only [List.replicate_zero, List.nil_append]
      rw [List.replicate_append_replicate, show n - m - min m (n - m) = n - (m + min m (n - m)) by omega]
      exact ih (m + min m (n - m)) (by omega) (by omega) (by omega)
theorem repeat_v (a : Int) {n : Nat} (h1 : 1 ≤ n) (h24 : n ≤ 24) : slices_Repeat_int.v [a] (n : Int) = some (List.replicate n a, ()) := by
  refine slices_Repeat_int.vs _ _ ?_
  rw [br_f (by simp), show IntKind.wrap .u64 ((([a] : List Int).length : Nat) : Int) = 1 from rfl, mul_small h24, bd_s, br_f (by simp), br_f (by simp; omega)]
  simp only
  rw [show IntKind.wrap .i64 ((n : Nat) : Int) = (n : Int) from wrap_ok (by omega) (by omega), br_t (by simp), br_t (by simp), br_t (by simp; omega)]
  have := rep_loop a n h24 n 1 (by omega) (by omega) h1
  have e : min 1 n = 1 := by omega
  simp only [Int.toNat_natCast, List.length_replicate, List.length_cons, List.length_nil, List.take_zero, List.nil_append, Nat.zero_add, e]
  rw [List.take_of_length_le (by simp; omega), List.drop_replicate]
  exact this
theorem empty_v {e : List Nd} (h1 : 1 ≤ e.length) (h24 : e.length ≤ 24) : impl_empty.v e = some (List.replicate e.length (-1), ()) := by
  refine impl_empty.vs _ ?_
  rw [repeat_v (-1) h1 h24, bd_s]
end Go.Proofs.YtafjengmkiepbaaGreat.Am
end
section
/- Covers: which nodes need tiles; the program's walk and the reference's rounds find the same. -/
namespace Go.Proofs.YtafjengmkiepbaaGreat.Am
open Go
set_option linter.unusedVariables false
set_option linter.unusedSimpArgs false

def cvr (cover : List Int) (i : Nat) : Int := cover.getD i 0
/-- is there a tile, and is it told -/
def vld (e : List Nd) (cover : List Int) (i : Nat) : Bool := inB (cvr cover i) 0 12 && (tileM e (i : Int) (cvr cover i)).isSome
/-- the parts of a tile; none if it is not told -/
def prts (e : List Nd) (i : Nat) (t : Int) : List Int := match tileM e (i : Int) t with | some (p, _) => p | none => []
/-- the nodes below the parts -/
def kids (e : List Nd) (cover : List Int) (i : Nat) : List Nat := if vld e cover i = true then (prts e i (cvr cover i)).map Int.toNat else []
/-- the nodes that the walk from a node comes to -/
def dfs (e : List Nd) (cover : List Int) : Nat → Nat → List Nat
  | 0, _ => []
  | f + 1, i => i :: (kids e cover i).flatMap (dfs e cover f)
section
variable {e : List Nd} {cover : List Int}
theorem tile_parts (hn : nodesOk e 0 = true) {i : Nat} (hi : i < e.length) {t : Int} {p q : List Int} (h : tileM e (i : Int) t = some (p, q)) : p.length ≤ 2 ∧ ∀ x ∈ p, 0 ≤ x ∧ x < i := by
  have hk : nodeOk (ndAt e i) (i : Int) = true := ndAt_ok hn (by omega) (by omega)
  have tw : isTwo (ndAt e i).1 = true → (0 ≤ (ndAt e i).2.1 ∧ (ndAt e i).2.1 < i) ∧ 0 ≤ (ndAt e i).2.2.1 ∧ (ndAt e i).2.2.1 < i := fun c => two_parts hk c
  have cst : ∀ {b : Bool} {m : Nd} {S : List Int} {a c : Int}, (b = true → 0 ≤ a ∧ a < i) → constM b m S a c = some (p, q) → p.length ≤ 2 ∧ ∀ x ∈ p, 0 ≤ x ∧ x < i := fun ha hc => by
    unfold constM at hc
    split at hc
    · rename_i k
      simp only [Option.some.injEq, Prod.mk.injEq] at hc
      obtain ⟨rfl, _⟩ := hc
      refine ⟨by simp, fun x hx => ?_⟩
      simp only [List.mem_singleton] at hx
      subst hx; exact ha k.1
    · cases hc
  have dp : ∀ {b : Bool} {a d : Int} {op : ByteArray} {S : List Int}, isTwo op = true → (b = true → (0 ≤ a ∧ a < i) ∧ 0 ≤ d ∧ d < i) → deepM e b a d op S = some (p, q) → p.length ≤ 2 ∧ ∀ x ∈ p, 0 ≤ x ∧ x < i := fun ho ha hc => by
    unfold deepM at hc
    split at hc
    · rename_i k
      simp only [Option.some.injEq, Prod.mk.injEq] at hc
      obtain ⟨rfl, _⟩ := hc
      obtain ⟨h1, h2⟩ := ha k.1
      have := two_parts (ndAt_ok hn h2.1 (by omega)) (by rw [k.2.1]; exact ho)
      refine ⟨by simp, fun x hx => ?_⟩
      simp only [List.mem_cons, List.not_mem_nil, or_false] at hx
      rcases hx with rfl | rfl
      · exact h1
      · omega
    · cases hc
  unfold tileM tileN at h
  by_cases t0 : t = 0
  · rw [if_pos t0] at h
    by_cases c : (ndAt e (i : Int)).1 = tIn
    · rw [if_pos c] at h; simp only [Option.some.injEq, Prod.mk.injEq] at h; obtain ⟨rfl, _⟩ := h; simp
    · rw [if_neg c] at h; cases h
  rw [if_neg t0] at h
  by_cases t1 : t = 1
  · rw [if_pos t1] at h
    by_cases c : (ndAt e (i : Int)).1 = tConst
    · rw [if_pos c] at h; simp only [Option.some.injEq, Prod.mk.injEq] at h; obtain ⟨rfl, _⟩ := h; simp
    · rw [if_neg c] at h; cases h
  rw [if_neg t1] at h
  by_cases t2 : t = 2
  · rw [if_pos t2] at h
    by_cases c : isOne (ndAt e (i : Int)).1 = true
    · rw [if_pos c] at h
      simp only [Option.some.injEq, Prod.mk.injEq] at h; obtain ⟨rfl, _⟩ := h
      refine ⟨by simp, fun x hx => ?_⟩
      simp only [List.mem_singleton] at hx
      subst hx
      exact nodeOk_parts (i := i) hk _ (by unfold partsOf; rw [if_pos (arity_one c)]; simp)
    · rw [if_neg c] at h; cases h
  rw [if_neg t2] at h
  by_cases t3 : t = 3
  · rw [if_pos t3] at h
    by_cases c : isTwo (ndAt e (i : Int)).1 = true
    · rw [if_pos c] at h
      simp only [Option.some.injEq, Prod.mk.injEq] at h; obtain ⟨rfl, _⟩ := h
      refine ⟨by simp, fun x hx => ?_⟩
      simp only [List.mem_cons, List.not_mem_nil, or_false] at hx
      rcases hx with rfl | rfl
      · exact (tw c).1
      · exact (tw c).2
    · rw [if_neg c] at h; cases h
  rw [if_neg t3] at h
  by_cases t4 : t = 4
  · rw [if_pos t4] at h; exact cst (fun c => (tw (in4 c)).1) h
  rw [if_neg t4] at h
  by_cases t5 : t = 5
  · rw [if_pos t5] at h; exact cst (fun c => (tw (in5 c)).2) h
  rw [if_neg t5] at h
  by_cases t6 : t = 6
  · rw [if_pos t6] at h; exact cst (fun c => (tw (in6 c)).1) h
  rw [if_neg t6] at h
  by_cases t7 : t = 7
  · rw [if_pos t7] at h; exact cst (fun c => (tw (by rw [of_decide_eq_true c]; decide)).1) h
  rw [if_neg t7] at h
  by_cases t8 : t = 8
  · rw [if_pos t8] at h; exact cst (fun c => (tw (by rw [of_decide_eq_true c]; decide)).2) h
  rw [if_neg t8] at h
  by_cases t9 : t = 9
  · rw [if_pos t9] at h; exact dp (by decide) (fun c => tw (by rw [of_decide_eq_true c]; decide)) h
  rw [if_neg t9] at h
  by_cases t10 : t = 10
  · rw [if_pos t10] at h; exact dp (by decide) (fun c => (tw (by rw [of_decide_eq_true c]; decide)).symm) h
  rw [if_neg t10] at h
  by_cases t11 : t = 11
  · rw [if_pos t11] at h; exact dp (by decide) (fun c => tw (by rw [of_decide_eq_true c]; decide)) h
  rw [if_neg t11] at h
  by_cases t12 : t = 12
  · rw [if_pos t12] at h; exact dp (by decide) (fun c => (tw (by rw [of_decide_eq_true c]; decide)).symm) h
  rw [if_neg t12] at h
  cases h
theorem prts_ok (hn : nodesOk e 0 = true) {i : Nat} (hi : i < e.length) (t : Int) : (prts e i t).length ≤ 2 ∧ ∀ x ∈ prts e i t, 0 ≤ x ∧ x < i := by
  unfold prts
  split
  · rename_i p q h; exact tile_parts hn hi h
  · simp
theorem kids_lt (hn : nodesOk e 0 = true) {i : Nat} (hi : i < e.length) : ∀ x ∈ kids e cover i, x < i := by
  intro x hx
  unfold kids at hx
  split at hx
  · obtain ⟨y, hy, rfl⟩ := List.mem_map.1 hx
    have := (prts_ok hn hi _).2 y hy
    omega
  · cases hx
theorem dfs_self (f i : Nat) : i ∈ dfs e cover (f + 1) i := by simp [dfs]
theorem dfs_le (hn : nodesOk e 0 = true) : ∀ (f i : Nat), i < e.length → ∀ j ∈ dfs e cover f i, j ≤ i
  | 0, i, _, j, h => by simp [dfs] at h
  | f + 1, i, hi, j, h => by
    simp only [dfs, List.mem_cons, List.mem_flatMap] at h
    rcases h with rfl | ⟨q, hq, h⟩
    · omega
    · have := kids_lt hn hi q hq
      have := dfs_le hn f q (by omega) j h
      omega
theorem dfs_close (hn : nodesOk e 0 = true) : ∀ (f r : Nat), r < e.length → r < f → ∀ i ∈ dfs e cover f r, ∀ p ∈ kids e cover i, p ∈ dfs e cover f r
  | 0, r, _, h, _, _, _, _ => by omega
  | f + 1, r, hr, hf, i, hi, p, hp => by
    simp only [dfs, List.mem_cons, List.mem_flatMap] at hi ⊢
    rcases hi with rfl | ⟨q, hq, hi⟩
    · have h1 := kids_lt hn hr p hp
      obtain ⟨g, rfl⟩ : ∃ g, f = g + 1 := ⟨f - 1, by omega⟩
      exact .inr ⟨p, hp, dfs_self g p⟩
    · have h1 := kids_lt hn hr q hq
      exact .inr ⟨q, hq, dfs_close hn f q (by omega) (by omega) i hi p hp⟩
theorem dfs_parent (hn : nodesOk e 0 = true) : ∀ (f r : Nat), r < e.length → r < f → ∀ j ∈ dfs e cover f r, j = r ∨ ∃ i ∈ dfs e cover f r, j ∈ kids e cover i
  | 0, r, _, h, _, _ => by omega
  | f + 1, r, hr, hf, j, hj => by
    simp only [dfs, List.mem_cons, List.mem_flatMap] at hj
    rcases hj with rfl | ⟨q, hq, hj⟩
    · exact .inl rfl
    · have h1 := kids_lt hn hr q hq
      right
      rcases dfs_parent hn f q (by omega) (by omega) j hj with rfl | ⟨i, hi, hji⟩
      · exact ⟨r, dfs_self f r, hq⟩
      · refine ⟨i, ?_, hji⟩
        simp only [dfs, List.mem_cons, List.mem_flatMap]
        exact .inr ⟨q, hq, hi⟩
end
/-! ### the program -/
def setL (cover : List Int) (o : List Int) (l : List Nat) : List Int := l.foldl (fun o j => o.set j (cvr cover j)) o
theorem setL_len (cover : List Int) : ∀ (l : List Nat) (o : List Int), (setL cover o l).length = o.length
  | [], o => rfl
  | j :: r, o => by unfold setL; rw [List.foldl_cons]; have := setL_len cover r (o.set j (cvr cover j)); unfold setL at this; rw [this, List.length_set]
theorem setL_app (cover o : List Int) (l m : List Nat) : setL cover o (l ++ m) = setL cover (setL cover o l) m := by unfold setL; rw [List.foldl_append]
section
variable {e : List Nd} {cover : List Int}
theorem cvr_get (hl : cover.length = e.length) {i : Nat} (hi : i < e.length) : cover[i]? = some (cvr cover i) := by
  unfold cvr
  rw [List.getD_eq_getElem?_getD, List.getElem?_eq_getElem (by omega)]; rfl
abbrev isR (cover : List Int) (o : List Int) (b : Bool) (e : List Nd) : Unit × List Int × Unit × List Int × Bool × List Nd × Unit := ((), (cover, ((), (o, (b, (e, ()))))))
theorem walk_parts {ok : Bool} {ps : List Int} (h2 : ps.length ≤ 2) {w : Nat → List Nat} (hw : ok = true → ∀ p ∈ ps, ∃ q : Nat, p = (q : Int) ∧ ∀ (o : List Int) (b : Bool), o.length = e.length → impl_isCover_1.v p cover o b e = some (isR cover (setL cover o (w q)) (b && (w q).all (vld e cover)) e)) :
    ∀ (d j : Nat) (o : List Int) (b : Bool), j + d = ps.length → o.length = e.length → impl_isCover_1.v0 ok ps (ps.length : Int) (j : Int) cover o b e = some (isR cover (setL cover o (if ok = true then ((ps.drop j).map Int.toNat).flatMap w else [])) (b && (if ok = true then ((ps.drop j).map Int.toNat).flatMap w else []).all (vld e cover)) e) := by
  intro d
  induction d with
  | zero =>
    intro j o b hj ho
    refine impl_isCover_1.v0s _ _ _ _ _ _ _ _ ?_
    rw [br_f (by simp; omega), List.drop_eq_nil_of_le (by omega)]
    simp [setL]
  | succ d ih =>
    intro j o b hj ho
    have hlt : j < ps.length := by omega
    refine impl_isCover_1.v0s _ _ _ _ _ _ _ _ ?_
    rw [br_t (by simpa using hlt), br_t (by simp), Int.toNat_natCast, gt_at _ hlt, next_ok j _ hlt (by omega)]
    cases ok with
    | false =>
      rw [br_f rfl, ih (j + 1) o b (by omega) ho]
      simp [setL]
    | true =>
      obtain ⟨q, hq, hv⟩ := hw rfl _ (List.getElem_mem hlt)
      rw [br_t rfl, hv o b ho, bd_s]
      simp only
      rw [ih (j + 1) _ _ (by omega) (by rw [setL_len]; exact ho), drop_at _ _ hlt, hq]
      simp only [if_true, List.map_cons, Int.toNat_natCast, List.flatMap_cons, setL_app, List.all_append, Bool.and_assoc]
theorem isCover_1_v (hn : nodesOk e 0 = true) (hl : cover.length = e.length) : ∀ (f i : Nat) (o : List Int) (b : Bool), i < e.length → i < f → o.length = e.length →
    impl_isCover_1.v (i : Int) cover o b e = some (isR cover (setL cover o (dfs e cover f i)) (b && (dfs e cover f i).all (vld e cover)) e)
  | 0, i, o, b, _, h, _ => by omega
  | f + 1, i, o, b, hi, hf, ho => by
    have hc := cvr_get hl hi
    have ho' : ∃ z, o[i]? = some z := ⟨_, List.getElem?_eq_getElem (by omega)⟩
    obtain ⟨z, hz⟩ := ho'
    refine impl_isCover_1.vs _ _ _ _ _ ?_
    rw [br_t (by simp), Int.toNat_natCast, gt_some hc, br_t (by simp), br_t (by rw [ho]; simpa using hi), gt_some hz, br_t (by simp), gt_some hc, within_f, bd_s]
    simp only [dfs, kids]
    by_cases hb : inB (cvr cover i) 0 12 = true
    · obtain ⟨b0, b1⟩ := inB_iff.1 hb
      rw [hb, brn_t, br_t (by simp), gt_some hc, tileAt_v hn hi b0 b1, bd_s]
      have fin : ∀ b', b' = (b && (tileM e (i : Int) (cvr cover i)).isSome) → impl_isCover_1.v0 (tileM e (i : Int) (cvr cover i)).isSome (tileI e i (cvr cover i)).1 ((tileI e i (cvr cover i)).1.length : Int) 0 cover (o.set i (cvr cover i)) b' e = some (isR cover (setL cover o (i :: List.flatMap (dfs e cover f) (if vld e cover i = true then List.map Int.toNat (prts e i (cvr cover i)) else []))) (b && (i :: List.flatMap (dfs e cover f) (if vld e cover i = true then List.map Int.toNat (prts e i (cvr cover i)) else [])).all (vld e cover)) e) := by
        intro b' hb'
        have hpl := tileI_len (t := cvr cover i) hn hi b0 b1
        have := walk_parts (e := e) (cover := cover) (ok := (tileM e (i : Int) (cvr cover i)).isSome) hpl (w := dfs e cover f) (fun hok p hp => by
          obtain ⟨⟨pp, qq⟩, hpq⟩ := Option.isSome_iff_exists.1 hok
          rw [tileI_eq hn hi b0 b1 hpq] at hp
          obtain ⟨p0, p1⟩ := (tile_parts hn hi hpq).2 p hp
          obtain ⟨q, rfl⟩ := Int.eq_ofNat_of_zero_le p0
          exact ⟨q, rfl, fun o b ho => isCover_1_v hn hl f q o b (by omega) (by omega) ho⟩) (tileI e i (cvr cover i)).1.length 0 (o.set i (cvr cover i)) b' (by omega) (by rw [List.length_set]; exact ho)
        rw [List.drop_zero] at this
        refine this.trans ?_
        have hv : vld e cover i = (tileM e (i : Int) (cvr cover i)).isSome := by unfold vld; rw [hb]; simp
        have hset : ∀ l, setL cover o (i :: l) = setL cover (o.set i (cvr cover i)) l := fun l => rfl
        rw [hset, List.all_cons, hv, hb']
        cases hok : (tileM e (i : Int) (cvr cover i)).isSome with
        | false => simp
        | true =>
          obtain ⟨⟨pp, qq⟩, hpq⟩ := Option.isSome_iff_exists.1 hok
          rw [tileI_eq hn hi b0 b1 hpq, show prts e i (cvr cover i) = pp by unfold prts; rw [hpq]]
          simp
      cases b with
      | true => rw [br_t rfl]; exact fin _ (by simp)
      | false => rw [br_f rfl]; exact fin _ (by simp)
    · have hv : vld e cover i = false := by unfold vld; rw [Bool.not_eq_true] at hb; rw [hb]; rfl
      rw [Bool.not_eq_true] at hb
      rw [hb, brn_f, hv]
      simp [setL, hv]
end
end Go.Proofs.YtafjengmkiepbaaGreat.Am
end
section
/- The inner nodes of a tile. -/
namespace Go.Proofs.YtafjengmkiepbaaGreat.Am
open Go
set_option linter.unusedVariables false
set_option linter.unusedSimpArgs false
/-- what the inner nodes of a tile are: none; a constant; a constant below a node that is none -/
inductive Inner (e : List Nd) (i t : Int) (q : List Int) : Prop
  | none (h : q = []) (ht : t ≤ 3)
  | one (c : Int) (S : List Int) (ops : List ByteArray) (h : q = [c]) (h0 : 0 ≤ c) (hi : c < i) (hc : (ndAt e c).1 = tConst) (hv : (ndAt e c).2.2.2 ∈ S) (ho : isIn ops (ndAt e i).1 = true)
      (ht : (t = 4 ∧ ops = ops4 ∧ S = wordsL) ∨ (t = 5 ∧ ops = ops5 ∧ S = wordsL) ∨ (t = 6 ∧ ops = ops6) ∨ (t = 7 ∧ S = [2, 4, 8, 16, 32]) ∨ (t = 8 ∧ S = [2, 4, 8, 16, 32]))
  | two (d : Int) (S : List Int) (h : q = [(ndAt e d).2.2.1, d]) (h0 : 0 ≤ d) (hi : d < i) (hd : (ndAt e d).1 ≠ tConst) (hb : 0 ≤ (ndAt e d).2.2.1 ∧ (ndAt e d).2.2.1 < d) (hc : (ndAt e (ndAt e d).2.2.1).1 = tConst) (hv : (ndAt e (ndAt e d).2.2.1).2.2.2 ∈ S)
      (ht : t = 9 ∨ t = 10 ∨ (t = 11 ∧ S = [2, 4, 8]) ∨ (t = 12 ∧ S = [2, 4, 8]))
section
variable {e : List Nd}
theorem isCn_parts {m : Nd} {S : List Int} (h : isCn m S = true) : m.1 = tConst ∧ m.2.2.2 ∈ S := by
  unfold isCn at h
  rw [Bool.and_eq_true, decide_eq_true_iff, decide_eq_true_iff] at h
  exact h
theorem isIn_one {s : ByteArray} (h : decide (s = tMul) = true) : isIn [tMul] s = true := by
  rw [of_decide_eq_true h]; decide
theorem tile_inner (hn : nodesOk e 0 = true) {i : Nat} (hi : i < e.length) {t : Int} {p q : List Int} (h : tileM e (i : Int) t = some (p, q)) : Inner e i t q := by
  have hk : nodeOk (ndAt e i) (i : Int) = true := ndAt_ok hn (by omega) (by omega)
  have tw : isTwo (ndAt e i).1 = true → (0 ≤ (ndAt e i).2.1 ∧ (ndAt e i).2.1 < i) ∧ 0 ≤ (ndAt e i).2.2.1 ∧ (ndAt e i).2.2.1 < i := fun c => two_parts hk c
  have cst : ∀ {b : Bool} {S : List Int} {a c : Int}, constM b (ndAt e c) S a c = some (p, q) → b = true ∧ q = [c] ∧ (ndAt e c).1 = tConst ∧ (ndAt e c).2.2.2 ∈ S := fun hc => by
    unfold constM at hc
    split at hc
    · rename_i k
      simp only [Option.some.injEq, Prod.mk.injEq] at hc
      obtain ⟨_, rfl⟩ := hc
      obtain ⟨k1, k2⟩ := isCn_parts k.2
      exact ⟨k.1, rfl, k1, k2⟩
    · cases hc
  have dp : ∀ {b : Bool} {a d : Int} {op : ByteArray} {S : List Int}, isTwo op = true → op ≠ tConst → (b = true → 0 ≤ d ∧ d < i) → (t = 9 ∨ t = 10 ∨ (t = 11 ∧ S = [2, 4, 8]) ∨ (t = 12 ∧ S = [2, 4, 8])) → deepM e b a d op S = some (p, q) → Inner e i t q := fun ho hne ha ht hc => by
    unfold deepM at hc
    split at hc
    · rename_i k
      simp only [Option.some.injEq, Prod.mk.injEq] at hc
      obtain ⟨_, rfl⟩ := hc
      have h2 := ha k.1
      have := two_parts (ndAt_ok hn h2.1 (by omega)) (by rw [k.2.1]; exact ho)
      obtain ⟨k1, k2⟩ := isCn_parts k.2.2
      exact .two _ _ rfl h2.1 h2.2 (by rw [k.2.1]; exact hne) this.2 k1 k2 ht
    · cases hc
  unfold tileM tileN at h
  by_cases t0 : t = 0
  · rw [if_pos t0] at h
    by_cases c : (ndAt e (i : Int)).1 = tIn
    · rw [if_pos c] at h; simp only [Option.some.injEq, Prod.mk.injEq] at h; obtain ⟨_, rfl⟩ := h; exact .none rfl (by omega)
    · rw [if_neg c] at h; cases h
  rw [if_neg t0] at h
  by_cases t1 : t = 1
  · rw [if_pos t1] at h
    by_cases c : (ndAt e (i : Int)).1 = tConst
    · rw [if_pos c] at h; simp only [Option.some.injEq, Prod.mk.injEq] at h; obtain ⟨_, rfl⟩ := h; exact .none rfl (by omega)
    · rw [if_neg c] at h; cases h
  rw [if_neg t1] at h
  by_cases t2 : t = 2
  · rw [if_pos t2] at h
    by_cases c : isOne (ndAt e (i : Int)).1 = true
    · rw [if_pos c] at h; simp only [Option.some.injEq, Prod.mk.injEq] at h; obtain ⟨_, rfl⟩ := h; exact .none rfl (by omega)
    · rw [if_neg c] at h; cases h
  rw [if_neg t2] at h
  by_cases t3 : t = 3
  · rw [if_pos t3] at h
    by_cases c : isTwo (ndAt e (i : Int)).1 = true
    · rw [if_pos c] at h; simp only [Option.some.injEq, Prod.mk.injEq] at h; obtain ⟨_, rfl⟩ := h; exact .none rfl (by omega)
    · rw [if_neg c] at h; cases h
  rw [if_neg t3] at h
  by_cases t4 : t = 4
  · rw [if_pos t4] at h
    obtain ⟨b, rfl, c1, c2⟩ := cst h
    have := (tw (in4 b)).2
    exact .one _ _ ops4 rfl this.1 this.2 c1 c2 b (.inl ⟨t4, rfl, rfl⟩)
  rw [if_neg t4] at h
  by_cases t5 : t = 5
  · rw [if_pos t5] at h
    obtain ⟨b, rfl, c1, c2⟩ := cst h
    have := (tw (in5 b)).1
    exact .one _ _ ops5 rfl this.1 this.2 c1 c2 b (.inr (.inl ⟨t5, rfl, rfl⟩))
  rw [if_neg t5] at h
  by_cases t6 : t = 6
  · rw [if_pos t6] at h
    obtain ⟨b, rfl, c1, c2⟩ := cst h
    have := (tw (in6 b)).2
    exact .one _ _ ops6 rfl this.1 this.2 c1 c2 b (.inr (.inr (.inl ⟨t6, rfl⟩)))
  rw [if_neg t6] at h
  by_cases t7 : t = 7
  · rw [if_pos t7] at h
    obtain ⟨b, rfl, c1, c2⟩ := cst h
    have := (tw (by rw [of_decide_eq_true b]; decide)).2
    exact .one _ _ [tMul] rfl this.1 this.2 c1 c2 (isIn_one b) (.inr (.inr (.inr (.inl ⟨t7, rfl⟩))))
  rw [if_neg t7] at h
  by_cases t8 : t = 8
  · rw [if_pos t8] at h
    obtain ⟨b, rfl, c1, c2⟩ := cst h
    have := (tw (by rw [of_decide_eq_true b]; decide)).1
    exact .one _ _ [tMul] rfl this.1 this.2 c1 c2 (isIn_one b) (.inr (.inr (.inr (.inr ⟨t8, rfl⟩))))
  rw [if_neg t8] at h
  by_cases t9 : t = 9
  · rw [if_pos t9] at h; exact dp (by decide) (by decide) (fun c => (tw (by rw [of_decide_eq_true c]; decide)).2) (.inl t9) h
  rw [if_neg t9] at h
  by_cases t10 : t = 10
  · rw [if_pos t10] at h; exact dp (by decide) (by decide) (fun c => (tw (by rw [of_decide_eq_true c]; decide)).1) (.inr (.inl t10)) h
  rw [if_neg t10] at h
  by_cases t11 : t = 11
  · rw [if_pos t11] at h; exact dp (by decide) (by decide) (fun c => (tw (by rw [of_decide_eq_true c]; decide)).2) (.inr (.inr (.inl ⟨t11, rfl⟩))) h
  rw [if_neg t11] at h
  by_cases t12 : t = 12
  · rw [if_pos t12] at h; exact dp (by decide) (by decide) (fun c => (tw (by rw [of_decide_eq_true c]; decide)).1) (.inr (.inr (.inr ⟨t12, rfl⟩))) h
  rw [if_neg t12] at h
  cases h
end
end Go.Proofs.YtafjengmkiepbaaGreat.Am
end
section
/- Is a list a cover: the reference's rounds, the program's walk. -/
namespace Go.Proofs.YtafjengmkiepbaaGreat.Am
open Go
set_option linter.unusedVariables false
set_option linter.unusedSimpArgs false

/-- the nodes that need tiles -/
def need (e : List Nd) (cover : List Int) : List Nat := dfs e cover e.length (e.length - 1)
def inS (e : List Nd) (cover : List Int) (k j : Nat) : Bool := decide (j = e.length - 1) || (need e cover).any (fun i => decide (k ≤ i) && (kids e cover i).contains j)
def Nn (e : List Nd) (cover : List Int) (k : Nat) : List Bool := (List.range e.length).map (inS e cover k)
section
variable {e : List Nd} {cover : List Int}
theorem need_root (h1 : 1 ≤ e.length) : e.length - 1 ∈ need e cover := by
  unfold need
  obtain ⟨f, hf⟩ : ∃ f, e.length = f + 1 := ⟨e.length - 1, by omega⟩
  rw [hf]; exact dfs_self f _
theorem need_lt (hn : nodesOk e 0 = true) (h1 : 1 ≤ e.length) {j : Nat} (h : j ∈ need e cover) : j < e.length := by
  have := dfs_le hn _ _ (by omega) j h
  omega
theorem inS_need (hn : nodesOk e 0 = true) (h1 : 1 ≤ e.length) {k j : Nat} (hk : k ≤ j + 1) : inS e cover k j = (need e cover).contains j := by
  rw [Bool.eq_iff_iff]
  unfold inS
  rw [Bool.or_eq_true, decide_eq_true_iff, List.any_eq_true, List.contains_iff_mem]
  constructor
  · rintro (rfl | ⟨i, hi, hc⟩)
    · exact need_root h1
    · rw [Bool.and_eq_true, List.contains_iff_mem] at hc
      exact dfs_close hn _ _ (by omega) (by omega) i hi j hc.2
  · intro h
    rcases dfs_parent hn _ _ (by omega) (by omega) j h with rfl | ⟨i, hi, hj⟩
    · exact .inl rfl
    · have := kids_lt hn (need_lt hn h1 hi) j hj
      exact .inr ⟨i, hi, by rw [Bool.and_eq_true, List.contains_iff_mem]; exact ⟨decide_eq_true (by omega), hj⟩⟩
theorem Nn_len (k : Nat) : (Nn e cover k).length = e.length := by simp [Nn]
theorem Nn_get {k j : Nat} (hj : j < e.length) : (Nn e cover k)[j]? = some (inS e cover k j) := by
  unfold Nn
  rw [List.getElem?_map, List.getElem?_range hj]; rfl
theorem inS_skip {m : Nat} (h : (need e cover).contains m = false) (j : Nat) : inS e cover m j = inS e cover (m + 1) j := by
  unfold inS
  congr 1
  rw [Bool.eq_iff_iff, List.any_eq_true, List.any_eq_true]
  constructor
  · rintro ⟨i, hi, hc⟩
    rw [Bool.and_eq_true, decide_eq_true_iff] at hc
    refine ⟨i, hi, ?_⟩
    rw [Bool.and_eq_true, decide_eq_true_iff]
    have : i ≠ m := fun q => by subst q; rw [List.contains_iff_mem.2 hi] at h; cases h
    exact ⟨by omega, hc.2⟩
  · rintro ⟨i, hi, hc⟩
    rw [Bool.and_eq_true, decide_eq_true_iff] at hc
    exact ⟨i, hi, by rw [Bool.and_eq_true, decide_eq_true_iff]; exact ⟨by omega, hc.2⟩⟩
theorem inS_take {m : Nat} (h : (need e cover).contains m = true) (j : Nat) : inS e cover m j = (inS e cover (m + 1) j || (kids e cover m).contains j) := by
  unfold inS
  rw [Bool.or_assoc]
  congr 1
  rw [Bool.eq_iff_iff, Bool.or_eq_true, List.any_eq_true, List.any_eq_true]
  constructor
  · rintro ⟨i, hi, hc⟩
    rw [Bool.and_eq_true, decide_eq_true_iff] at hc
    by_cases q : i = m
    · subst q; exact .inr hc.2
    · exact .inl ⟨i, hi, by rw [Bool.and_eq_true, decide_eq_true_iff]; exact ⟨by omega, hc.2⟩⟩
  · rintro (⟨i, hi, hc⟩ | hc)
    · rw [Bool.and_eq_true, decide_eq_true_iff] at hc
      exact ⟨i, hi, by rw [Bool.and_eq_true, decide_eq_true_iff]; exact ⟨by omega, hc.2⟩⟩
    · exact ⟨m, List.contains_iff_mem.1 h, by rw [Bool.and_eq_true, decide_eq_true_iff]; exact ⟨by omega, hc⟩⟩
def setT (N : List Bool) (ps : List Int) : List Bool := ps.foldl (fun N p => N.set p.toNat true) N
theorem setT_get : ∀ (ps : List Int) (N : List Bool) (j : Nat), (setT N ps)[j]? = (N[j]?).map (fun b => b || (ps.map Int.toNat).contains j)
  | [], N, j => by simp [setT]
  | p :: r, N, j => by
    unfold setT
    rw [List.foldl_cons]
    have := setT_get r (N.set p.toNat true) j
    unfold setT at this
    rw [this, List.getElem?_set]
    by_cases c : p.toNat = j
    · subst c
      by_cases d : p.toNat < N.length
      · simp [d]
      · simp [d, List.getElem?_eq_none (Nat.le_of_not_lt d)]
    · have c' : ¬ j = p.toNat := fun q => c q.symm
      rw [if_neg c]
      simp [c']
theorem setT_len : ∀ (ps : List Int) (N : List Bool), (setT N ps).length = N.length
  | [], N => rfl
  | p :: r, N => by unfold setT; rw [List.foldl_cons]; have := setT_len r (N.set p.toNat true); unfold setT at this; rw [this, List.length_set]
theorem need_inner {m : Int} {ps : List Int} (h2 : ps.length ≤ 2) (hp : ∀ x ∈ ps, 0 ≤ x ∧ x < e.length) {r : List Bool × Bool} : ∀ (d j : Nat) (N : List Bool), j + d = ps.length → N.length = e.length → spec_cvNeeded.v0 e cover (IntKind.wrap .i64 (m - 1)) (setT N (ps.drop j)) = some r → spec_cvNeeded.v1 e cover m ps (ps.length : Int) (j : Int) N = some r := by
  intro d
  induction d with
  | zero =>
    intro j N hj hN h
    refine spec_cvNeeded.v1s _ _ _ _ _ _ _ ?_
    rw [br_f (by simp; omega)]
    rwa [List.drop_eq_nil_of_le (by omega)] at h
  | succ d ih =>
    intro j N hj hN h
    have hlt : j < ps.length := by omega
    obtain ⟨p0, p1⟩ := hp _ (List.getElem_mem hlt)
    have hz : ∃ z, N[ps[j].toNat]? = some z := ⟨_, List.getElem?_eq_getElem (by omega)⟩
    obtain ⟨z, hz⟩ := hz
    refine spec_cvNeeded.v1s _ _ _ _ _ _ _ ?_
    rw [br_t (by simpa using hlt), br_t (by simp), Int.toNat_natCast, gt_at _ hlt, br_t (by simpa using p0), br_t (by rw [hN]; simpa using p1), gt_some hz, next_ok j _ hlt (by omega)]
    refine ih (j + 1) _ (by omega) (by rw [List.length_set]; exact hN) ?_
    rw [drop_at _ _ hlt] at h
    exact h
theorem need_loop (hn : nodesOk e 0 = true) (h1 : 1 ≤ e.length) (h24 : e.length ≤ 24) (hl : cover.length = e.length) : ∀ k, k ≤ e.length → spec_cvNeeded.v0 e cover ((k : Int) - 1) (Nn e cover k) = some (if ((need e cover).all fun i => decide (k ≤ i) || vld e cover i) = true then (Nn e cover 0, true) else ([], false)) := by
  intro k
  induction k with
  | zero =>
    intro _
    refine spec_cvNeeded.v0s _ _ _ _ ?_
    rw [br_f (by simp), if_pos (by rw [List.all_eq_true]; intro i _; simp)]
  | succ m ih =>
    intro hk
    have hm : m < e.length := by omega
    have hx : (((m + 1 : Nat) : Int) - 1) = (m : Int) := by omega
    have wm : IntKind.wrap .i64 ((m : Int) - 1) = (m : Int) - 1 := wrap_ok (by omega) (by omega)
    have ih := ih (by omega)
    refine spec_cvNeeded.v0s _ _ _ _ ?_
    rw [hx, br_t (by simp), br_t (by simp), br_t (by rw [Nn_len]; simpa using hm), Int.toNat_natCast, gt_some (Nn_get hm), inS_need hn h1 (Nat.le_refl _)]
    cases hc : (need e cover).contains m with
    | false =>
      have e1 : Nn e cover (m + 1) = Nn e cover m := by unfold Nn; exact List.map_congr_left fun j _ => (inS_skip hc j).symm
      have e2 : ((need e cover).all fun i => decide (m + 1 ≤ i) || vld e cover i) = ((need e cover).all fun i => decide (m ≤ i) || vld e cover i) := by
        rw [Bool.eq_iff_iff, List.all_eq_true, List.all_eq_true]
        have : ∀ i ∈ need e cover, i ≠ m := fun i hi q => by subst q; rw [List.contains_iff_mem.2 hi] at hc; cases hc
        constructor
        · intro h i hi
          have := h i hi
          simp only [Bool.or_eq_true, decide_eq_true_eq] at this ⊢
          rcases this with q | q
          · exact .inl (by omega)
          · exact .inr q
        · intro h i hi
          have h3 := this i hi
          have := h i hi
          simp only [Bool.or_eq_true, decide_eq_true_eq] at this ⊢
          rcases this with q | q
          · exact .inl (by omega)
          · exact .inr q
      rw [brn_f, wm, e1, e2]; exact ih
    | true =>
      have hcv := cvr_get hl hm
      rw [brn_t, br_t (by simp), gt_some hcv, l1In_f, bd_s]
      have hall : vld e cover m = false → ((need e cover).all fun i => decide (m + 1 ≤ i) || vld e cover i) = false := fun hv => by
        cases ha : ((need e cover).all fun i => decide (m + 1 ≤ i) || vld e cover i) with
        | false => rfl
        | true =>
          have := List.all_eq_true.1 ha m (List.contains_iff_mem.1 hc)
          simp only [Bool.or_eq_true, decide_eq_true_eq, hv] at this
          rcases this with q | q
          · omega
          · cases q
      cases hb : inB (cvr cover m) 0 12 with
      | false =>
        rw [brn_f, hall (by unfold vld; rw [hb]; rfl)]; rfl
      | true =>
        rw [brn_t, br_t (by simp), gt_some hcv, cvTile_v hn hm, bd_s]
        cases hm2 : tileM e (m : Int) (cvr cover m) with
        | none =>
          simp only [told]
          rw [brn_f, hall (by unfold vld; rw [hm2]; simp)]; rfl
        | some pq =>
          obtain ⟨p, q⟩ := pq
          simp only [told]
          rw [brn_t]
          have hv : vld e cover m = true := by unfold vld; rw [hb, hm2]; rfl
          obtain ⟨t1, t2⟩ := tile_parts hn hm hm2
          have hkids : kids e cover m = p.map Int.toNat := by unfold kids prts; rw [if_pos hv, hm2]
          have e1 : setT (Nn e cover (m + 1)) p = Nn e cover m := by
            apply List.ext_getElem?
            intro j
            rw [setT_get]
            by_cases hj : j < e.length
            · rw [Nn_get hj, Nn_get hj, inS_take hc j, hkids]; rfl
            · rw [List.getElem?_eq_none (by rw [Nn_len]; omega), List.getElem?_eq_none (by rw [Nn_len]; omega)]; rfl
          have e2 : ((need e cover).all fun i => decide (m + 1 ≤ i) || vld e cover i) = ((need e cover).all fun i => decide (m ≤ i) || vld e cover i) := by
            rw [Bool.eq_iff_iff, List.all_eq_true, List.all_eq_true]
            constructor
            · intro h i hi
              have := h i hi
              simp only [Bool.or_eq_true, decide_eq_true_eq] at this ⊢
              rcases this with q | q
              · exact .inl (by omega)
              · exact .inr q
            · intro h i hi
              have := h i hi
              simp only [Bool.or_eq_true, decide_eq_true_eq] at this ⊢
              by_cases q : i = m
              · subst q; exact .inr hv
              · rcases this with k | k
                · exact .inl (by omega)
                · exact .inr k
          refine need_inner t1 (fun x hx => by have := t2 x hx; omega) p.length 0 _ (by omega) (Nn_len _) ?_
          rw [List.drop_zero, e1, e2, wm]; exact ih
theorem needed_v (hn : nodesOk e 0 = true) (h1 : 1 ≤ e.length) (h24 : e.length ≤ 24) (hl : cover.length = e.length) : spec_cvNeeded.v e cover = some (if (need e cover).all (vld e cover) = true then (Nn e cover 0, true) else ([], false)) := by
  have hr : ∃ z, (List.replicate e.length false)[e.length - 1]? = some z := ⟨_, List.getElem?_eq_getElem (by simp; omega)⟩
  obtain ⟨z, hz⟩ := hr
  refine spec_cvNeeded.vs _ _ ?_
  rw [br_t (by simp), br_t (by simp; omega), last_w h1 (by omega), br_t (by simp), br_t (by simp; omega), Int.toNat_natCast, Int.toNat_natCast, gt_some hz]
  have e0 : (List.replicate e.length false).set (e.length - 1) true = Nn e cover e.length := by
    apply List.ext_getElem?
    intro j
    by_cases hj : j < e.length
    · rw [Nn_get hj, List.getElem?_set]
      unfold inS
      have : (need e cover).any (fun i => decide (e.length ≤ i) && (kids e cover i).contains j) = false := by
        rw [List.any_eq_false]
        intro i hi
        have := need_lt hn h1 hi
        simp; omega
      rw [this]
      by_cases c : e.length - 1 = j
      · subst c; simp; omega
      · have c' : ¬ j = e.length - 1 := fun q => c q.symm
        simp [c, c', hj]
    · rw [List.getElem?_eq_none (by simp; omega), List.getElem?_eq_none (by rw [Nn_len]; omega)]
  rw [e0, show ((e.length - 1 : Nat) : Int) = (e.length : Int) - 1 by omega, need_loop hn h1 h24 hl e.length (Nat.le_refl _)]
  have e2 : ((need e cover).all fun i => decide (e.length ≤ i) || vld e cover i) = (need e cover).all (vld e cover) := by
    rw [Bool.eq_iff_iff, List.all_eq_true, List.all_eq_true]
    constructor
    · intro h i hi
      have := h i hi
      have hlt := need_lt hn h1 hi
      simp only [Bool.or_eq_true, decide_eq_true_eq] at this
      rcases this with q | q
      · omega
      · exact q
    · intro h i hi
      simp [h i hi]
  rw [e2]
/-- is it a cover -/
def isCoverP (e : List Nd) (cover : List Int) : Bool := decide (cover.length = e.length) && ((need e cover).all (vld e cover) && (List.range e.length).all (fun j => (need e cover).contains j || decide (cvr cover j = -1)))
theorem cvIs_v (hn : nodesOk e 0 = true) (h1 : 1 ≤ e.length) (h24 : e.length ≤ 24) : spec_cvIs.v e cover = some (isCoverP e cover) := by
  refine spec_cvIs.vs _ _ ?_
  unfold isCoverP
  by_cases hl : cover.length = e.length
  · rw [br_f (by simp [hl]), needed_v hn h1 h24 hl, bd_s]
    cases ha : (need e cover).all (vld e cover) with
    | false => simp
    | true =>
      rw [if_pos rfl, brn_t]
      have key : ∀ (d j : Nat), j + d = e.length → spec_cvIs.v0 (Nn e cover 0) cover (e.length : Int) (j : Int) = some (((List.range e.length).drop j).all (fun j => (need e cover).contains j || decide (cvr cover j = -1))) := by
        intro d
        induction d with
        | zero =>
          intro j hj
          refine spec_cvIs.v0s _ _ _ _ ?_
          rw [br_f (by simp; omega), List.drop_eq_nil_of_le (by simp; omega)]; rfl
        | succ d ih =>
          intro j hj
          have hlt : j < e.length := by omega
          refine spec_cvIs.v0s _ _ _ _ ?_
          rw [br_t (by simpa using hlt), br_t (by simp), Int.toNat_natCast, gt_some (cvr_get hl hlt), br_t (by simp), gt_some (Nn_get hlt), inS_need hn h1 (by omega), next_ok j _ hlt (by omega), ih (j + 1) (by omega)]
          rw [show (List.range e.length).drop j = j :: (List.range e.length).drop (j + 1) by rw [drop_at _ _ (by simpa using hlt)]; simp, List.all_cons]
          cases hc : (need e cover).contains j with
          | true => rw [brn_t]; simp
          | false =>
            rw [brn_f]
            by_cases c : cvr cover j = -1
            · rw [br_f (by simp [c])]; simp [c]
            · rw [br_t (by simpa using c)]; simp [c]
      have := key e.length 0 (by omega)
      rw [hl]
      refine Eq.trans this ?_
      rw [List.drop_zero]
      simp
  · rw [br_t (by simp; omega)]; simp [hl]
/-! ### the program -/
theorem equalI_v (xs ys : List Int) (hx : xs.length ≤ 1000000) : slices_Equal_int.v xs ys = some (decide (xs = ys)) := by
  refine slices_Equal_int.vs _ _ ?_
  by_cases hl : xs.length = ys.length
  · rw [br_f (by simp [hl])]
    have key : ∀ (d i : Nat), i + d = xs.length → slices_Equal_int.v0 xs ys (xs.length : Int) (i : Int) = some (decide (xs.drop i = ys.drop i)) := by
      intro d
      induction d with
      | zero =>
        intro i hi
        refine slices_Equal_int.v0s _ _ _ _ ?_
        rw [br_f (by simp; omega), List.drop_eq_nil_of_le (by omega), List.drop_eq_nil_of_le (by omega)]; simp
      | succ d ih =>
        intro i hi
        have h1 : i < xs.length := by omega
        have h2 : i < ys.length := by omega
        refine slices_Equal_int.v0s _ _ _ _ ?_
        rw [br_t (by simpa using h1), br_t (by simp), Int.toNat_natCast, gt_at _ h1, br_t (by simp), gt_at _ h2, next_ok i _ h1 (by omega), ih (i + 1) (by omega), drop_at _ _ h1, drop_at _ _ h2]
        by_cases c : xs[i] = ys[i]
        · rw [br_f (by simp [c]), c]; exact congrArg some (decide_eq_decide.2 ⟨fun h => by rw [h], fun h => (List.cons.inj h).2⟩)
        · rw [br_t (by simpa using c)]; exact congrArg some (decide_eq_false fun h => c (List.cons.inj h).1).symm
    have := key xs.length 0 (by omega)
    simpa using this
  · rw [br_t (by simp; omega)]
    have : ¬ xs = ys := fun h => hl (by rw [h])
    simp [this]
theorem setL_get : ∀ (l : List Nat) (o : List Int) (j : Nat), j < o.length → (setL cover o l)[j]? = some (if l.contains j = true then cvr cover j else o.getD j 0)
  | [], o, j, hj => by simp [setL, List.getElem?_eq_getElem hj]
  | i :: r, o, j, hj => by
    have := setL_get r (o.set i (cvr cover i)) j (by rw [List.length_set]; exact hj)
    unfold setL at this ⊢
    rw [List.foldl_cons, this]
    by_cases c : r.contains j = true
    · have c1 : (i :: r).contains j = true := by rw [List.contains_cons, c]; simp
      rw [if_pos c, if_pos c1]
    · rw [if_neg c]
      rw [List.getD_eq_getElem?_getD, List.getElem?_set]
      by_cases d : i = j
      · subst d
        have c1 : (i :: r).contains i = true := by simp
        rw [if_pos rfl, if_pos hj, if_pos c1]; rfl
      · have c1 : ¬ (i :: r).contains j = true := by
          rw [List.contains_cons]
          have d' : ¬ j = i := fun q => d q.symm
          simp at c
          simp [d', c]
        rw [if_neg d, if_neg c1, List.getD_eq_getElem?_getD]
theorem isCover_v (hn : nodesOk e 0 = true) (h1 : 1 ≤ e.length) (h24 : e.length ≤ 24) : impl_isCover.v e cover = some (isCoverP e cover) := by
  refine impl_isCover.vs _ _ ?_
  unfold isCoverP
  by_cases hl : cover.length = e.length
  · rw [br_f (by simp [hl]), empty_v h1 h24, bd_s, last_w h1 (by omega), isCover_1_v hn hl e.length (e.length - 1) _ _ (by omega) (by omega) (by simp), bd_s]
    simp only [Bool.true_and, isR]
    have hneed : dfs e cover e.length (e.length - 1) = need e cover := rfl
    rw [hneed]
    cases ha : (need e cover).all (vld e cover) with
    | false => rw [br_f rfl]; simp
    | true =>
      rw [br_t rfl, equalI_v _ _ (by rw [setL_len]; simp; omega), bd_s]
      congr 1
      rw [Bool.eq_iff_iff, decide_eq_true_iff]
      simp only [hl, decide_true, Bool.true_and]
      rw [List.all_eq_true]
      have hg : ∀ j, j < e.length → (setL cover (List.replicate e.length (-1)) (need e cover))[j]? = some (if (need e cover).contains j = true then cvr cover j else -1) := fun j hj => by
        rw [setL_get _ _ _ (by simpa using hj)]
        simp [List.getD_eq_getElem?_getD, hj]
      constructor
      · intro h j hj
        have hj := List.mem_range.1 hj
        have h2 := hg j hj
        rw [h, cvr_get hl hj] at h2
        rw [Bool.or_eq_true, decide_eq_true_iff]
        by_cases c : (need e cover).contains j = true
        · exact .inl c
        · rw [if_neg c] at h2
          exact .inr (Option.some.inj h2)
      · intro h
        apply List.ext_getElem?
        intro j
        by_cases hj : j < e.length
        · rw [hg j hj, cvr_get hl hj]
          have := h j (List.mem_range.2 hj)
          rw [Bool.or_eq_true, decide_eq_true_iff] at this
          by_cases c : (need e cover).contains j = true
          · rw [if_pos c]
          · rw [if_neg c]
            rcases this with q | q
            · exact absurd q c
            · rw [q]
        · rw [List.getElem?_eq_none (by rw [setL_len]; simp; omega), List.getElem?_eq_none (by omega)]
  · rw [br_t (by simp; omega)]; simp [hl]
theorem cvTree_v (hl : e.length ≤ 1048576) : spec_cvTree.v e = some (treeOk e) := by
  refine spec_cvTree.vs _ ?_
  rw [exGood_v e hl, bd_s]
  unfold treeOk
  by_cases c : exprOk e = true
  · rw [br_t c, exTree_v e hl c, bd_s, c]; rfl
  · rw [Bool.not_eq_true] at c
    rw [br_f c, c]; rfl
def isCoverA (e : List Nd) (cover : List Int) : Bool × Bool := if treeOk e = true then (isCoverP e cover, true) else (false, false)
end
end Go.Proofs.YtafjengmkiepbaaGreat.Am
end
section
/- What a cover costs. -/
namespace Go.Proofs.YtafjengmkiepbaaGreat.Am
open Go
set_option linter.unusedVariables false
set_option linter.unusedSimpArgs false
section
variable {e : List Nd} {cover : List Int}
theorem cover_len (h : isCoverP e cover = true) : cover.length = e.length := by
  unfold isCoverP at h
  rw [Bool.and_eq_true] at h
  exact of_decide_eq_true h.1
theorem cover_vld (h : isCoverP e cover = true) {j : Nat} (hj : j < e.length) (h0 : 0 ≤ cvr cover j) : vld e cover j = true := by
  unfold isCoverP at h
  rw [Bool.and_eq_true, Bool.and_eq_true, List.all_eq_true, List.all_eq_true] at h
  have := h.2.2 j (List.mem_range.2 hj)
  rw [Bool.or_eq_true, decide_eq_true_iff] at this
  rcases this with q | q
  · exact h.2.1 j (List.contains_iff_mem.1 q)
  · omega
theorem vld_parts {j : Nat} (h : vld e cover j = true) : (0 ≤ cvr cover j ∧ cvr cover j ≤ 12) ∧ ∃ p q, tileM e j (cvr cover j) = some (p, q) := by
  unfold vld at h
  rw [Bool.and_eq_true] at h
  refine ⟨by have := h.1; unfold inB at this; simp at this; exact this, ?_⟩
  obtain ⟨⟨p, q⟩, hx⟩ := Option.isSome_iff_exists.1 h.2
  exact ⟨p, q, hx⟩
theorem cvCost_f {j : Nat} (hj : j < e.length) (t : Int) : spec_cvCost.f e (j : Int) t = some (tCost e j t) := by
  rw [spec_cvCost.eq]
  unfold tCost tCostN
  by_cases c0 : t = 0
  · rw [br_t (by simp [c0]), if_pos c0]
  · rw [br_f (by simp [c0]), if_neg c0]
    by_cases c3 : t = 3
    · rw [br_t (by simp [c3]), if_pos c3, br_t (by simp), gt_some (ndAt_get (by omega) (by omega)), cdCost_f, bd_s]
    · rw [br_f (by simp [c3]), if_neg c3]
/-- the sum from a node on -/
def sumC (e : List Nd) (cover : List Int) : Nat → Nat → Int → Int
  | 0, _, x => x
  | d + 1, i, x => sumC e cover d (i + 1) (if 0 ≤ cvr cover i then IntKind.wrap .i64 (x + tCost e i (cvr cover i)) else x)
/-- a tree with a cover -/
def coverA (e : List Nd) (cover : List Int) : Bool := treeOk e && isCoverP e cover
theorem areCovered_v (hl : e.length ≤ 1048576) : impl_areCovered.v e cover = some (coverA e cover) := by
  refine impl_areCovered.vs _ _ ?_
  rw [isTree_v e hl, bd_s]; unfold coverA
  by_cases c : treeOk e = true
  · obtain ⟨h1, h2, h3, _⟩ := treeOk_parts c
    rw [br_t c, isCover_v h1 h2 h3, bd_s, c, Bool.true_and]
  · rw [Bool.not_eq_true] at c; rw [br_f c, c]; rfl
def coverCostA (e : List Nd) (cover : List Int) : Int × Bool := if coverA e cover = true then (sumC e cover e.length 0 0, true) else (0, false)
theorem coverA_parts (h : coverA e cover = true) : (nodesOk e 0 = true ∧ 1 ≤ e.length ∧ e.length ≤ 24) ∧ isCoverP e cover = true := by
  unfold coverA at h
  rw [Bool.and_eq_true] at h
  obtain ⟨h1, h2, h3, _⟩ := treeOk_parts h.1
  exact ⟨⟨h1, h2, h3⟩, h.2⟩
/-- how the reference asks for a tree with a cover -/
theorem covered_f {α : Type} (hl : e.length ≤ 1048576) (no : α) (k : Option α) : (bd (spec_cvTree.v e) fun r0 => br (Bool.not r0) (some no) (bd (spec_cvIs.v e cover) fun r1 => br (Bool.not r1) (some no) k)) = if coverA e cover = true then k else some no := by
  rw [cvTree_v hl, bd_s]; unfold coverA
  by_cases c : treeOk e = true
  · obtain ⟨h1, h2, h3, _⟩ := treeOk_parts c
    rw [c, brn_t, cvIs_v h1 h2 h3, bd_s]
    cases isCoverP e cover <;> rfl
  · rw [Bool.not_eq_true] at c; rw [c]; rfl
end
end Go.Proofs.YtafjengmkiepbaaGreat.Am
end
section
/- The instruction of a tile: its constant, powers of two. -/
namespace Go.Proofs.YtafjengmkiepbaaGreat.Am
open Go
set_option linter.unusedVariables false
set_option linter.unusedSimpArgs false
theorem seLog_step {x k y r : Int} (h0 : 0 ≤ k) (hy : IntKind.wrap .i64 ((1 : Int) * ((2 : Int) ^ (Min.min (Int.toNat k) 64))) = y) {k' : Int} (hk : IntKind.wrap .i64 (k + 1) = k') (h : (if y < x then spec_seLog.v0 x k' else some k) = some r) : spec_seLog.v0 x k = some r := by
  refine spec_seLog.v0s _ _ ?_
  rw [br_t (by simpa using h0), hy, hk]
  by_cases c : y < x
  · rw [br_t (by simpa using c)]; rw [if_pos c] at h; exact h
  · rw [br_f (by simpa using c)]; rw [if_neg c] at h; exact h
theorem seLog_v {x : Int} (h : x = 2 ∨ x = 4 ∨ x = 8 ∨ x = 16 ∨ x = 32) : spec_seLog.v x = some (powP x) := by
  have s0 : ∀ {r}, (if 1 < x then spec_seLog.v0 x 1 else some 0) = some r → spec_seLog.v0 x 0 = some r := fun h => seLog_step (by decide) (by decide) (by decide) h
  have s1 : ∀ {r}, (if 2 < x then spec_seLog.v0 x 2 else some 1) = some r → spec_seLog.v0 x 1 = some r := fun h => seLog_step (by decide) (by decide) (by decide) h
  have s2 : ∀ {r}, (if 4 < x then spec_seLog.v0 x 3 else some 2) = some r → spec_seLog.v0 x 2 = some r := fun h => seLog_step (by decide) (by decide) (by decide) h
  have s3 : ∀ {r}, (if 8 < x then spec_seLog.v0 x 4 else some 3) = some r → spec_seLog.v0 x 3 = some r := fun h => seLog_step (by decide) (by decide) (by decide) h
  have s4 : ∀ {r}, (if 16 < x then spec_seLog.v0 x 5 else some 4) = some r → spec_seLog.v0 x 4 = some r := fun h => seLog_step (by decide) (by decide) (by decide) h
  have s5 : ∀ {r}, (if 32 < x then spec_seLog.v0 x 6 else some 5) = some r → spec_seLog.v0 x 5 = some r := fun h => seLog_step (by decide) (by decide) (by decide) h
  refine spec_seLog.vs _ (s0 ?_)
  rcases h with h | h | h | h | h <;> subst h
  · exact s1 rfl
  · exact s1 (s2 rfl)
  · exact s1 (s2 (s3 rfl))
  · exact s1 (s2 (s3 (s4 rfl)))
  · exact s1 (s2 (s3 (s4 (s5 rfl))))
section
variable {e : List Nd}
/-- the constant of a tile -/
def wordOf (e : List Nd) (q : List Int) : Int := match q with | [] => 0 | c :: _ => (ndAt e c).2.2.2
theorem seConst_v (hn : nodesOk e 0 = true) {i : Nat} (hi : i < e.length) {t : Int} {p q : List Int} (h : tileM e (i : Int) t = some (p, q)) : spec_seConst.v e (i : Int) t = some (wordOf e q) := by
  refine spec_seConst.vs _ _ _ ?_
  rw [cvTile_v hn hi, bd_s, h]
  have one : ∀ (c : Int) (r : List Int), 0 ≤ c → c < e.length → (ndAt e c).1 = tConst → spec_seConst.v0 e (c :: r) ((c :: r).length : Int) 0 = some (ndAt e c).2.2.2 := fun c r h0 h1 hc => by
    refine spec_seConst.v0s _ _ _ _ ?_
    rw [br_t (by simp), br_t (by simp), gt_some (a := c) rfl, br_t (by simpa using h0), gt_some (ndAt_get h0 h1), hc]
    rw [br_t (seq_t rfl), br_t (by simpa using h0), gt_some (ndAt_get h0 h1)]
  cases tile_inner hn hi h with
  | none h _ => subst h; exact spec_seConst.v0s _ _ _ _ rfl
  | one c S ops hq h0 hc1 hc hv ho ht => subst hq; exact one c [] h0 (by omega) hc
  | two d S hq h0 hd1 hd hb hc hv ht => rw [hq]; exact one _ [d] hb.1 (by omega) hc
theorem moved_v {b d : Int} (hb : 0 ≤ b ∧ b < e.length) (hd : 0 ≤ d ∧ d < e.length) (hc : (ndAt e b).1 = tConst) (hn : (ndAt e d).1 ≠ tConst) (p : List Int) (z : Int) : impl_tile_moved.v (p, [b, d], z) e = some d := by
  have m1 : ∀ x : Int, 0 ≤ x → x < e.length → impl_tile_moved_1.f x e = some (!(seq (ndAt e x).1 tConst)) := fun x h0 h1 => by
    rw [impl_tile_moved_1.eq, br_t (by simpa using h0), gt_some (ndAt_get h0 h1)]
  have e1 : slices_IndexFunc_int_moved.v0 [b, d] e 2 1 = some 1 := by
    refine slices_IndexFunc_int_moved.v0s _ _ _ _ ?_
    rw [br_t (by decide), br_t (by decide), gt_some (a := d) rfl, m1 d hd.1 hd.2, bd_s, br_t (by rw [seq_f hn]; rfl)]
  have e0 : slices_IndexFunc_int_moved.v [b, d] e = some 1 := by
    refine slices_IndexFunc_int_moved.vs _ _ ?_
    refine slices_IndexFunc_int_moved.v0s _ _ _ _ ?_
    rw [br_t (by simp), br_t (by decide), gt_some (a := b) rfl, m1 b hb.1 hb.2, bd_s, hc, br_f (by rw [seq_t rfl]; rfl)]
    exact e1
  refine impl_tile_moved.vs _ _ ?_
  simp only
  rw [e0, bd_s]; rfl
end
end Go.Proofs.YtafjengmkiepbaaGreat.Am
end
section
/- How many temporaries the nodes need. -/
namespace Go.Proofs.YtafjengmkiepbaaGreat.Am
open Go
set_option linter.unusedVariables false
set_option linter.unusedSimpArgs false
def bothN (a b : Int) : Int := maxI (maxI 1 a) (IntKind.wrap .i64 (b + if a = 0 then 0 else 1))
theorem l1Most_f (a b : Int) : spec_l1Most.f a b = some (maxI a b) := by
  rw [spec_l1Most.eq]
  unfold maxI
  by_cases c : a > b
  · rw [br_t (by simpa using c), if_neg (by omega)]
  · rw [br_f (by simpa using c)]
    by_cases d : b > a
    · rw [if_pos d]
    · rw [if_neg d]; congr 1; omega
theorem l1Least_f (a b : Int) : spec_l1Least.f a b = some (minI a b) := by
  rw [spec_l1Least.eq]
  unfold minI
  by_cases c : a < b
  · rw [br_t (by simpa using c), if_neg (by omega)]
  · rw [br_f (by simpa using c)]
    by_cases d : b < a
    · rw [if_pos d]
    · rw [if_neg d]; congr 1; omega
theorem maxI_assoc (a b c : Int) : maxI a (maxI b c) = maxI (maxI a b) c := by
  unfold maxI
  repeat' split
  all_goals omega
theorem maxI_ge (a b : Int) : a ≤ maxI a b := by
  unfold maxI
  split <;> omega
theorem bothN_pos (a b : Int) : 0 ≤ bothN a b := by
  unfold bothN
  have h1 := maxI_ge 1 a
  have h2 := maxI_ge (maxI 1 a) (IntKind.wrap .i64 (b + if a = 0 then 0 else 1))
  omega
theorem seBoth_f {a : Int} (b : Int) (h : 0 ≤ a) : spec_seBoth.f a b = some (bothN a b) := by
  rw [spec_seBoth.eq]
  unfold bothN
  by_cases c : a > 0
  · rw [br_t (by simpa using c), if_neg (by omega), l1Most_f, bd_s, l1Most_f, bd_s, maxI_assoc]
  · rw [br_f (by simpa using c), if_pos (by omega), l1Most_f, bd_s, l1Most_f, bd_s, maxI_assoc]
/-- the need of a node whose parts need so many -/
def needP (left : Bool) (t : Int) : List Int → Int
  | [] => if t = 0 then 0 else 1
  | [a] => maxI 1 a
  | a :: b :: _ => if left = true then bothN a b else bothN (maxI a b) (minI a b)
theorem needP_pos (left : Bool) (t : Int) (l : List Int) : 0 ≤ needP left t l := by
  unfold needP
  split
  · split <;> omega
  · have := maxI_ge 1 ‹Int›
    omega
  · split <;> exact bothN_pos _ _
theorem need_f0 (t : Int) : impl_need.f t [] = some (if t = 0 then 0 else 1) := by
  rw [impl_need.eq]
  by_cases c : t = 0
  · rw [br_t (by simpa using c), if_pos c]
  · rw [br_f (by simpa using c), if_neg c]; rfl
theorem need_f1 {t : Int} (h : t ≠ 0) (a : Int) : impl_need.f t [a] = some (maxI 1 a) := by
  rw [impl_need.eq, br_f (by simpa using h)]; rfl
theorem need_f2 {t : Int} (h : t ≠ 0) (a b : Int) : impl_need.f t [a, b] = some (bothN a b) := by
  rw [impl_need.eq, br_f (by simpa using h), br_f (by simp), br_f (by simp), gt_some (a := a) rfl, gt_some (a := b) rfl, gt_some (a := a) rfl, impl_bit.eq]
  unfold bothN
  by_cases c : a = 0
  · rw [br_f (by simp [c]), bd_s, if_pos c]
  · rw [br_t (by simp [c]), bd_s, if_neg c]
theorem sort_desc (a b : Int) : ∃ x y, slices_Sort_int.v [a, b] = some ((), [y, x]) ∧ bothN x y = bothN (maxI a b) (minI a b) := by
  rw [sort_two]
  unfold sort2 maxI minI
  by_cases c : b < a
  · exact ⟨a, b, by rw [if_pos c], by rw [if_neg (by omega), if_pos c]⟩
  · refine ⟨b, a, by rw [if_neg c], ?_⟩
    by_cases d : b > a
    · rw [if_pos d, if_neg (by omega)]
    · rw [if_neg d, if_neg (by omega), show a = b by omega]
section
variable {e : List Nd} {cover : List Int}
theorem cvNone_g (h24 : e.length ≤ 1000) : spec_cvNone.v e = some (List.replicate e.length (-1), ()) := by
  refine spec_cvNone.vs _ ?_
  have key : ∀ (d i : Nat), i + d = e.length → spec_cvNone.v0 (e.length : Int) (i : Int) (List.replicate i (-1)) = some (List.replicate e.length (-1), ()) := by
    intro d
    induction d with
    | zero =>
      intro i hi
      refine spec_cvNone.v0s _ _ _ ?_
      rw [br_f (by simp; omega), show i = e.length by omega]
    | succ d ih =>
      intro i hi
      refine spec_cvNone.v0s _ _ _ ?_
      rw [br_t (by simp; omega), br_t (by simp; omega), next_ok i e.length (by omega) (by omega), show List.replicate i (-1 : Int) ++ [-1] = List.replicate (i + 1) (-1) from (List.replicate_succ' ).symm]
      exact ih (i + 1) (by omega)
  exact key e.length 0 (by omega)
theorem cvNone_v (h24 : e.length ≤ 24) : spec_cvNone.v e = some (List.replicate e.length (-1), ()) := cvNone_g (by omega)
/-- the parts of a tile of a cover have tiles -/
theorem part_used (h : isCoverP e cover = true) (hn : nodesOk e 0 = true) (h1 : 1 ≤ e.length) {i : Nat} (hi : i < e.length) (h0 : 0 ≤ cvr cover i) {p q : List Int} (hm : tileM e i (cvr cover i) = some (p, q)) : ∀ x ∈ p, 0 ≤ cvr cover x.toNat := by
  intro x hx
  have hv := cover_vld h hi h0
  unfold isCoverP at h
  rw [Bool.and_eq_true, Bool.and_eq_true, List.all_eq_true, List.all_eq_true] at h
  have hin := h.2.2 i (List.mem_range.2 hi)
  rw [Bool.or_eq_true, decide_eq_true_iff] at hin
  have hin : i ∈ need e cover := by
    rcases hin with q | q
    · exact List.contains_iff_mem.1 q
    · omega
  have hk : x.toNat ∈ kids e cover i := by
    unfold kids prts
    rw [if_pos hv, hm]
    exact List.mem_map_of_mem hx
  have hs : inS e cover 0 x.toNat = true := by
    unfold inS
    rw [Bool.or_eq_true, List.any_eq_true]
    exact .inr ⟨i, hin, by simp [hk]⟩
  rw [inS_need hn h1 (by omega)] at hs
  exact (vld_parts (h.2.1 _ (List.contains_iff_mem.1 hs))).1.1
theorem tile0 {i : Nat} {p q : List Int} (hm : tileM e i 0 = some (p, q)) : p = [] := by
  unfold tileM tileN at hm
  rw [if_pos rfl] at hm
  split at hm
  · exact (Prod.mk.inj (Option.some.inj hm)).1.symm
  · cases hm
def atP (o : List Int) (p : List Int) : List Int := p.map (fun x => o.getD x.toNat 0)
def needT (e : List Nd) (cover : List Int) (left : Bool) : Nat → Nat → List Int → List Int
  | 0, _, o => o
  | d + 1, i, o => needT e cover left d (i + 1) (if 0 ≤ cvr cover i then o.set i (needP left (cvr cover i) (atP o (prts e i (cvr cover i)))) else o)
theorem needT_len {left : Bool} : ∀ (d i : Nat) (o : List Int), (needT e cover left d i o).length = o.length
  | 0, _, _ => rfl
  | d + 1, i, o => by
    unfold needT; rw [needT_len d]
    split <;> simp
/-- what is known at a node -/
structure Nds (e : List Nd) (cover : List Int) (i : Nat) (o : List Int) : Prop where
  len : o.length = e.length
  pos : ∀ j, j < i → 0 ≤ cvr cover j → 0 ≤ o.getD j 0
theorem Nds.skip {i : Nat} {o : List Int} (h : Nds e cover i o) (c : ¬ 0 ≤ cvr cover i) : Nds e cover (i + 1) o :=
  ⟨h.len, fun j hj h0 => by
    by_cases d : j = i
    · subst d; exact absurd h0 c
    · exact h.pos j (by omega) h0⟩
theorem Nds.set {i : Nat} {o : List Int} (h : Nds e cover i o) {y : Int} (hy : 0 ≤ y) (hi : i < e.length) : Nds e cover (i + 1) (o.set i y) :=
  ⟨by rw [List.length_set]; exact h.len, fun j hj h0 => by
    rw [List.getD_eq_getElem?_getD, List.getElem?_set]
    by_cases d : i = j
    · subst d; rw [if_pos rfl, if_pos (by have := h.len; omega)]; exact hy
    · rw [if_neg d, ← List.getD_eq_getElem?_getD]; exact h.pos j (by omega) h0⟩
theorem get_o {i : Nat} {o : List Int} (h : Nds e cover i o) {x : Int} (h0 : 0 ≤ x) (hx : x < e.length) : o[x.toNat]? = some (o.getD x.toNat 0) ∧ x < (o.length : Int) := by
  have := h.len
  have hb : x.toNat < o.length := by omega
  exact ⟨by rw [List.getD_eq_getElem?_getD, List.getElem?_eq_getElem hb]; rfl, by omega⟩
theorem two_of {p : List Int} (h : p.length ≤ 2) : p = [] ∨ (∃ a, p = [a]) ∨ ∃ a b, p = [a, b] := by
  match p, h with
  | [], _ => exact .inl rfl
  | [a], _ => exact .inr (.inl ⟨a, rfl⟩)
  | [a, b], _ => exact .inr (.inr ⟨a, b, rfl⟩)
theorem seNeeds_l (hn : nodesOk e 0 = true) (h1 : 1 ≤ e.length) (h24 : e.length ≤ 24) (h : isCoverP e cover = true) (left : Bool) : ∀ (d i : Nat) (o : List Int), i + d = e.length → Nds e cover i o → spec_seNeeds.v0 e left cover (e.length : Int) (i : Int) o = some (needT e cover left d i o) := by
  have hl := cover_len h
  intro d
  induction d with
  | zero =>
    intro i o hi ho
    refine spec_seNeeds.v0s _ _ _ _ _ _ ?_
    rw [br_f (by simp; omega)]; rfl
  | succ d ih =>
    intro i o hi ho
    have hlt : i < e.length := by omega
    refine spec_seNeeds.v0s _ _ _ _ _ _ ?_
    rw [br_t (by simpa using hlt), br_t (by simp), Int.toNat_natCast, gt_some (cvr_get hl hlt), next_ok i _ hlt (by omega)]
    unfold needT
    by_cases c : 0 ≤ cvr cover i
    · have hv := cover_vld h hlt c
      obtain ⟨_, p, q, hm⟩ := vld_parts hv
      have hp := tile_parts hn hlt hm
      have hu := part_used h hn h1 hlt c hm
      have hpr : prts e i (cvr cover i) = p := by unfold prts; rw [hm]
      have hi2 : i < o.length := by rw [ho.len]; exact hlt
      have hend : ∀ y, 0 ≤ y → (br (decide ((0 : Int) ≤ i)) (br (decide ((i : Int) < (o.length : Int))) (gt o i fun _ => spec_seNeeds.v0 e left cover (e.length : Int) ((i + 1 : Nat) : Int) (o.set i y)) none) none) = some (needT e cover left d (i + 1) (o.set i y)) := fun y hy => by
        rw [br_t (by simp), br_t (by simpa using hi2), gt_at _ hi2]
        exact ih _ _ (by omega) (ho.set hy hlt)
      rw [br_f (by simpa using c), if_pos c, cvTile_v hn hlt, bd_s, hm, hpr]
      have hpos := needP_pos left (cvr cover i) (atP o p)
      rcases two_of hp.1 with e0 | ⟨a, e1⟩ | ⟨a, b, e2⟩
      · subst e0
        rw [br_t (show (((told (some (([] : List Int), q))).1.length : Int) == 0) = true from rfl), l1Least_f, bd_s]
        rw [show needP left (cvr cover i) (atP o []) = minI (cvr cover i) 1 from by
          show (if cvr cover i = 0 then (0 : Int) else 1) = _
          unfold minI
          by_cases z : cvr cover i = 0
          · rw [if_pos z, if_neg (by omega), z]
          · rw [if_neg z]
            by_cases z1 : (1 : Int) < cvr cover i
            · rw [if_pos z1]
            · rw [if_neg z1]; omega] at hpos ⊢
        exact hend _ hpos
      · subst e1
        have ha := hp.2 a (by simp)
        obtain ⟨ga, la⟩ := get_o ho ha.1 (by omega)
        rw [br_f (by simp [told]), br_t (show (((told (some ([a], q))).1.length : Int) == 1) = true from rfl), gt_some (a := a) rfl, br_t (by simpa using ha.1), br_t (by simpa using la), gt_some ga, l1Most_f, bd_s]
        exact hend _ hpos
      · subst e2
        have ha := hp.2 a (by simp)
        have hb := hp.2 b (by simp)
        obtain ⟨ga, la⟩ := get_o ho ha.1 (by omega)
        obtain ⟨gb, lb⟩ := get_o ho hb.1 (by omega)
        have pa := ho.pos a.toNat (by omega) (hu a (by simp))
        have pb := ho.pos b.toNat (by omega) (hu b (by simp))
        have xa : ∀ {β : Type} (f : Int → Option β), gt (told (some ([a, b], q))).1 (Int.toNat 0) f = f a := fun f => rfl
        have xb : ∀ {β : Type} (f : Int → Option β), gt (told (some ([a, b], q))).1 (Int.toNat 1) f = f b := fun f => rfl
        have b1 : decide (0 ≤ a) = true := by simpa using ha.1
        have b2 : decide (a < (o.length : Int)) = true := by simpa using la
        have b3 : decide (0 ≤ b) = true := by simpa using hb.1
        have b4 : decide (b < (o.length : Int)) = true := by simpa using lb
        rw [br_f (by simp [told]), br_f (by simp [told])]
        cases left with
        | true =>
          rw [br_t rfl, xa, br_t b1, br_t b2, gt_some ga, xb, br_t b3, br_t b4, gt_some gb, seBoth_f _ pa, bd_s]
          exact hend _ hpos
        | false =>
          rw [br_f rfl, xa, br_t b1, br_t b2, gt_some ga, xb, br_t b3, br_t b4, gt_some gb, l1Most_f, bd_s, xa, br_t b1, br_t b2, gt_some ga, xb, br_t b3, br_t b4, gt_some gb, l1Least_f, bd_s, seBoth_f _ (by have := maxI_ge (o.getD a.toNat 0) (o.getD b.toNat 0); omega), bd_s]
          exact hend _ hpos
    · rw [br_t (by simpa using c), if_neg c]; exact ih _ _ (by omega) (ho.skip c)
/-! ### the program -/
theorem nd_step {g : Bool} {i t n i2 : Int} {ps : List Int} {k : Nat} {o acc : List Int} {x y : Int} {R} (hk : k < ps.length) (hp : ps.length ≤ 2) (hx : ps[k]? = some x) (h0 : 0 ≤ x) (hl : x < (o.length : Int)) (hy : o[x.toNat]? = some y) (ha : acc.length ≤ 10)
    (h : impl_needs.v1 e g i t cover n i2 ps (ps.length : Int) ((k + 1 : Nat) : Int) o (acc ++ [y]) = some R) : impl_needs.v1 e g i t cover n i2 ps (ps.length : Int) (k : Int) o acc = some R := by
  refine impl_needs.v1s _ _ _ _ _ _ _ _ _ _ _ _ ?_
  rw [br_t (by simpa using hk), br_t (by simp), Int.toNat_natCast, gt_some hx, br_t (by simpa using h0), br_t (by simpa using hl), gt_some hy, br_t (by simp; omega), next_ok k _ hk (by omega)]
  exact h
theorem nd_end {g : Bool} {i : Nat} {t n : Int} {ps : List Int} {o l : List Int} {y : Int} {R} (hi : i < o.length) (h24 : o.length ≤ 24)
    (hv : (if g = true then (bd (slices_Sort_int.v l) fun r5 => bd (slices_Reverse_int.v r5.2) fun r6 => impl_need.f t r6.2) else impl_need.f t l) = some y)
    (h : impl_needs.v0 e g cover n ((i + 1 : Nat) : Int) (o.set i y) = some R) : impl_needs.v1 e g (i : Int) t cover n (i : Int) ps (ps.length : Int) (ps.length : Int) o l = some R := by
  refine impl_needs.v1s _ _ _ _ _ _ _ _ _ _ _ _ ?_
  rw [br_f (by simp)]
  have hw : IntKind.wrap .i64 ((i : Int) + 1) = ((i + 1 : Nat) : Int) := next_ok i _ hi (by omega)
  have hend : (br (decide ((0 : Int) ≤ i)) (br (decide ((i : Int) < (o.length : Int))) (gt o (Int.toNat i) fun _ => impl_needs.v0 e g cover n (IntKind.wrap .i64 ((i : Int) + 1)) (o.set (Int.toNat i) y)) none) none) = some R := by
    rw [br_t (by simp), br_t (by simpa using hi), Int.toNat_natCast, gt_at _ hi, hw]; exact h
  cases g with
  | true =>
    rw [if_pos rfl] at hv
    rw [br_t rfl]
    cases h1 : slices_Sort_int.v l with
    | none => rw [h1] at hv; cases hv
    | some r5 =>
      rw [h1, bd_s] at hv
      rw [bd_s]
      cases h2 : slices_Reverse_int.v r5.2 with
      | none => rw [h2] at hv; cases hv
      | some r6 =>
        rw [h2, bd_s] at hv
        rw [bd_s, hv, bd_s]
        exact hend
  | false =>
    rw [if_neg (by simp)] at hv
    rw [br_f rfl, hv, bd_s]
    exact hend
theorem needs_l (hn : nodesOk e 0 = true) (h1 : 1 ≤ e.length) (h24 : e.length ≤ 24) (h : isCoverP e cover = true) (left : Bool) : ∀ (d i : Nat) (o : List Int), i + d = e.length → Nds e cover i o → impl_needs.v0 e (!left) cover (e.length : Int) (i : Int) o = some (needT e cover left d i o, ()) := by
  have hl := cover_len h
  intro d
  induction d with
  | zero =>
    intro i o hi ho
    refine impl_needs.v0s _ _ _ _ _ _ ?_
    rw [br_f (by simp; omega)]; rfl
  | succ d ih =>
    intro i o hi ho
    have hlt : i < e.length := by omega
    refine impl_needs.v0s _ _ _ _ _ _ ?_
    rw [br_t (by simpa using hlt), br_t (by simp), Int.toNat_natCast, gt_some (cvr_get hl hlt), next_ok i _ hlt (by omega)]
    unfold needT
    by_cases c : 0 ≤ cvr cover i
    · have hv := cover_vld h hlt c
      obtain ⟨⟨_, h12⟩, p, q, hm⟩ := vld_parts hv
      have hp := tile_parts hn hlt hm
      have hpr : prts e i (cvr cover i) = p := by unfold prts; rw [hm]
      have hi2 : i < o.length := by rw [ho.len]; exact hlt
      have ho24 : o.length ≤ 24 := by rw [ho.len]; exact h24
      have hpos := needP_pos left (cvr cover i) (atP o p)
      rw [br_f (by simpa using c), if_pos c, tileAt_v hn hlt c h12, bd_s, tileI_eq hn hlt c h12 hm, hpr]
      have hnext := ih _ _ (by omega) (ho.set hpos hlt)
      rcases two_of hp.1 with e0 | ⟨a, e1⟩ | ⟨a, b, e2⟩
      · subst e0
        refine nd_end (ps := []) hi2 ho24 ?_ hnext
        have : impl_need.f (cvr cover i) [] = some (needP left (cvr cover i) (atP o [])) := need_f0 _
        split
        · rw [sort_nil, bd_s, rev_nil, bd_s]; exact this
        · exact this
      · have ht : cvr cover i ≠ 0 := fun q => by rw [q] at hm; rw [tile0 hm] at e1; cases e1
        subst e1
        have ha := hp.2 a (by simp)
        obtain ⟨ga, la⟩ := get_o ho ha.1 (by omega)
        refine nd_step (ps := [a]) (k := 0) (by simp) (by simp) rfl ha.1 la ga (by simp) ?_
        refine nd_end (ps := [a]) hi2 ho24 ?_ hnext
        have : impl_need.f (cvr cover i) [o.getD a.toNat 0] = some (needP left (cvr cover i) (atP o [a])) := need_f1 ht _
        split
        · rw [show ([] : List Int) ++ [o.getD a.toNat 0] = [o.getD a.toNat 0] from rfl, sort_one, bd_s, rev_one, bd_s]; exact this
        · exact this
      · have ht : cvr cover i ≠ 0 := fun q => by rw [q] at hm; rw [tile0 hm] at e2; cases e2
        subst e2
        have ha := hp.2 a (by simp)
        have hb := hp.2 b (by simp)
        obtain ⟨ga, la⟩ := get_o ho ha.1 (by omega)
        obtain ⟨gb, lb⟩ := get_o ho hb.1 (by omega)
        refine nd_step (ps := [a, b]) (k := 0) (by simp) (by simp) rfl ha.1 la ga (by simp) ?_
        refine nd_step (ps := [a, b]) (k := 1) (by simp) (by simp) rfl hb.1 lb gb (by simp) ?_
        refine nd_end (ps := [a, b]) hi2 ho24 ?_ hnext
        rw [show ([] : List Int) ++ [o.getD a.toNat 0] ++ [o.getD b.toNat 0] = [o.getD a.toNat 0, o.getD b.toNat 0] from rfl]
        cases left with
        | true => rw [if_neg (by simp)]; exact need_f2 ht _ _
        | false =>
          rw [if_pos (by simp)]
          obtain ⟨x, y, hs, hxy⟩ := sort_desc (o.getD a.toNat 0) (o.getD b.toNat 0)
          rw [hs, bd_s, rev_two, bd_s, need_f2 ht, hxy]
          rfl
    · rw [br_t (by simpa using c), if_neg c]; exact ih _ _ (by omega) (ho.skip c)
/-- the needs of the nodes -/
def needL (e : List Nd) (cover : List Int) (left : Bool) : List Int := needT e cover left e.length 0 (List.replicate e.length (-1))
theorem needL_len {left : Bool} : (needL e cover left).length = e.length := by unfold needL; rw [needT_len]; simp
theorem seNeeds_v (hn : nodesOk e 0 = true) (h1 : 1 ≤ e.length) (h24 : e.length ≤ 24) (h : isCoverP e cover = true) (left : Bool) : spec_seNeeds.v e cover left = some (needL e cover left) := by
  refine spec_seNeeds.vs _ _ _ ?_
  rw [cvNone_v h24, bd_s, cover_len h]
  exact seNeeds_l hn h1 h24 h left e.length 0 _ (by omega) ⟨by simp, fun j hj => by omega⟩
theorem needs_v (hn : nodesOk e 0 = true) (h1 : 1 ≤ e.length) (h24 : e.length ≤ 24) (h : isCoverP e cover = true) (left : Bool) : impl_needs.v e cover (!left) = some (needL e cover left, ()) := by
  refine impl_needs.vs _ _ _ ?_
  rw [empty_v h1 h24, bd_s, cover_len h]
  exact needs_l hn h1 h24 h left e.length 0 _ (by omega) ⟨by simp, fun j hj => by omega⟩
theorem seGiven_v (hl : e.length ≤ 1048576) : spec_seGiven.v e cover = some (coverA e cover) := by
  refine spec_seGiven.vs _ _ ?_
  rw [cvTree_v hl, bd_s]; unfold coverA
  by_cases c : treeOk e = true
  · obtain ⟨h1, h2, h3, _⟩ := treeOk_parts c
    rw [br_t c, cvIs_v h1 h2 h3, bd_s, c, Bool.true_and]
  · rw [Bool.not_eq_true] at c; rw [br_f c, c]; rfl
def needsOfA (e : List Nd) (cover : List Int) : List Int × Bool := if coverA e cover = true then (needL e cover false, true) else ([], false)
def needOfA (e : List Nd) (cover : List Int) (left : Bool) : Int × Bool := if coverA e cover = true then ((needL e cover left).getD (e.length - 1) 0, true) else (0, false)
theorem needsOfA_len (hl : e.length ≤ 1048576) : (needsOfA e cover).1.length ≤ 1048576 := by
  unfold needsOfA
  split
  · rw [needL_len]; exact hl
  · simp
theorem needL_last {left : Bool} (h1 : 1 ≤ e.length) : (needL e cover left)[e.length - 1]? = some ((needL e cover left).getD (e.length - 1) 0) := by
  rw [List.getD_eq_getElem?_getD, List.getElem?_eq_getElem (by rw [needL_len]; omega)]; rfl
end
end Go.Proofs.YtafjengmkiepbaaGreat.Am
end
section
/- The instruction of a tile: both sides. -/
namespace Go.Proofs.YtafjengmkiepbaaGreat.Am
open Go
set_option linter.unusedVariables false
set_option linter.unusedSimpArgs false
theorem neg_v {x : Int} (h0 : 0 ≤ x) (h1 : x ≤ 63) : spec_exApply.f (⟨#[110, 101, 103]⟩ : ByteArray) x 0 = some (Int.tmod (IntKind.wrap .i64 (64 - x)) 64) := by
  rw [spec_exApply.eq, br_f (seq_f (by decide)), br_t (seq_t rfl)]
  obtain ⟨n, rfl⟩ := Int.eq_ofNat_of_zero_le h0
  have key : ∀ n : Fin 64, (IntKind.wrap .i64 (((BitVec.toNat ((BitVec.ofInt 64 (IntKind.wrap .i64 ((0 : Int) - ((n.val : Nat) : Int)))) &&& (BitVec.ofInt 64 (63 : Int)))) : Nat) : Int)) = Int.tmod (IntKind.wrap .i64 (64 - ((n.val : Nat) : Int))) 64 := by decide
  exact congrArg some (key ⟨n, by omega⟩)
abbrev In5 := ByteArray × (Int × (Int × (Int × Int)))
abbrev tSub : ByteArray := ⟨#[115, 117, 98]⟩
/-- the instruction of a tile -/
def instrP (n : Nd) (t dst A B w : Int) : In5 :=
  if t = 1 then ((⟨#[115, 101, 116]⟩ : ByteArray), dst, A, B, n.2.2.2)
  else if t = 4 ∨ t = 5 ∨ t = 6 then (if n.1 = tSub then ((⟨#[97, 100, 100, 105]⟩ : ByteArray), dst, A, B, Int.tmod (IntKind.wrap .i64 (64 - w)) 64) else (n.1 ++ (⟨#[105]⟩ : ByteArray), dst, A, B, w))
  else if t = 7 ∨ t = 8 then ((⟨#[115, 104, 108, 105]⟩ : ByteArray), dst, A, B, powP w)
  else if t = 9 ∨ t = 10 then ((⟨#[108, 101, 97]⟩ : ByteArray), dst, A, B, w)
  else if t = 11 ∨ t = 12 then ((⟨#[108, 101, 97]⟩ : ByteArray), dst, A, B, powP w)
  else (n.1, dst, A, B, 0)
section
variable {e : List Nd}
/-- the end of the program's rounds over inner nodes -/
theorem instr_end (hn : nodesOk e 0 = true) {i : Nat} (hi : i < e.length) {t : Int} {p q : List Int} (h : tileM e (i : Int) t = some (p, q)) (h0 : 0 ≤ t) (h12 : t ≤ 12) (hs : (ndAt e i).1.size ≤ 1000) (x6 : ByteArray) (x7 x8 x9 x10 z dst A B w : Int) :
    impl_instr.v0 e t w q (q.length : Int) (q.length : Int) x6 x7 x8 x9 x10 (ndAt e i).1 (ndAt e i).2.1 (ndAt e i).2.2.1 (ndAt e i).2.2.2 p q z (ndAt e i).1 dst A B 0 = some (instrP (ndAt e i) t dst A B w) := by
  refine impl_instr.v0s _ _ _ _ _ _ _ _ _ _ _ _ _ _ _ _ _ _ _ _ _ _ _ ?_
  rw [br_f (by simp)]
  have hb : Nat.ble ((ByteArray.size (ndAt e i).1) + (ByteArray.size (⟨#[105]⟩ : ByteArray))) 9223372036854775807 = true := by
    have : ByteArray.size (⟨#[105]⟩ : ByteArray) = 1 := rfl
    rw [this, Nat.ble_eq]; omega
  have sb : ∀ {α : Type} (a b : α), br (seq (ndAt e i).1 tSub) (some a) (some b) = some (if (ndAt e i).1 = tSub then a else b) := fun a b => by
    by_cases c : (ndAt e i).1 = tSub
    · rw [br_t (seq_t c), if_pos c]
    · rw [br_f (seq_f c), if_neg c]
  have ns : t = 6 → ¬ (ndAt e i).1 = tSub := fun t6 c => by
    cases tile_inner hn hi h with
    | none _ ht => omega
    | one c' S ops hq h0 hc1 hc hv ho ht =>
      rcases ht with q | q | q | q | q
      · omega
      · omega
      · rw [q.2, c] at ho; exact absurd ho (by decide)
      · omega
      · omega
    | two d S hq h0 hd1 hd hb hc hv ht => omega
  have hcase : t = 0 ∨ t = 1 ∨ t = 2 ∨ t = 3 ∨ t = 4 ∨ t = 5 ∨ t = 6 ∨ t = 7 ∨ t = 8 ∨ t = 9 ∨ t = 10 ∨ t = 11 ∨ t = 12 := by omega
  rcases hcase with c | c | c | c | c | c | c | c | c | c | c | c | c <;> subst c
  · rfl
  · rfl
  · rfl
  · rfl
  · rw [br_f (by decide), br_t (by decide), br_t hb, sb]; rfl
  · rw [br_f (by decide), br_f (by decide), br_t (by decide), br_t hb, sb]; rfl
  · rw [br_f (by decide), br_f (by decide), br_f (by decide), br_t (by decide), br_t hb]; unfold instrP; rw [if_neg (by decide), if_pos (by decide), if_neg (ns rfl)]
  · rw [br_f (by decide), br_f (by decide), br_f (by decide), br_f (by decide), br_t (by decide), power_v, bd_s]; rfl
  · rw [br_f (by decide), br_f (by decide), br_f (by decide), br_f (by decide), br_f (by decide), br_t (by decide), power_v, bd_s]; rfl
  · rfl
  · rfl
  · rw [br_f (by decide), br_f (by decide), br_f (by decide), br_f (by decide), br_f (by decide), br_f (by decide), br_f (by decide), br_f (by decide), br_t (by decide), power_v, bd_s]; rfl
  · rw [br_f (by decide), br_f (by decide), br_f (by decide), br_f (by decide), br_f (by decide), br_f (by decide), br_f (by decide), br_f (by decide), br_t (by decide), power_v, bd_s]; rfl
theorem instr_rounds (hn : nodesOk e 0 = true) {i : Nat} (hi : i < e.length) {t : Int} {p q : List Int} (h : tileM e (i : Int) t = some (p, q)) (h0 : 0 ≤ t) (h12 : t ≤ 12) (hs : (ndAt e i).1.size ≤ 1000) (x6 : ByteArray) (x7 x8 x9 x10 z dst A B : Int) :
    impl_instr.v0 e t 0 q (q.length : Int) 0 x6 x7 x8 x9 x10 (ndAt e i).1 (ndAt e i).2.1 (ndAt e i).2.2.1 (ndAt e i).2.2.2 p q z (ndAt e i).1 dst A B 0 = some (instrP (ndAt e i) t dst A B (wordOf e q)) := by
  have fin := instr_end hn hi h h0 h12 hs x6 x7 x8 x9 x10 z dst A B
  have w0 : IntKind.wrap .i64 (0 + 1) = 1 := by decide
  have w1 : IntKind.wrap .i64 (1 + 1) = 2 := by decide
  cases tile_inner hn hi h with
  | none hq _ => subst hq; exact fin 0
  | one c S ops hq hc0 hc1 hc hv ho ht =>
    subst hq
    refine impl_instr.v0s _ _ _ _ _ _ _ _ _ _ _ _ _ _ _ _ _ _ _ _ _ _ _ ?_
    rw [br_t (by simp), br_t (by decide), gt_some (a := c) rfl, br_t (by simpa using hc0), gt_some (ndAt_get hc0 (by omega)), br_t (by rw [hc]; exact seq_t rfl), br_t (by simp; omega), br_t (by simpa using hc0), gt_some (ndAt_get hc0 (by omega)), w0]
    exact fin _
  | two d S hq hd0 hd1 hd hb hc hv ht =>
    have hw : wordOf e q = (ndAt e (ndAt e d).2.2.1).2.2.2 := by rw [hq]; rfl
    have mv : impl_tile_moved.v (p, (q, z)) e = some d := by
      rw [hq]
      exact moved_v ⟨hb.1, by omega⟩ ⟨hd0, by omega⟩ hc hd p z
    have hql : (q.length : Int) = 2 := by rw [hq]; rfl
    have q0 : q[Int.toNat 0]? = some (ndAt e d).2.2.1 := by rw [hq]; rfl
    have q1 : q[Int.toNat 1]? = some d := by rw [hq]; rfl
    have last := fin (ndAt e (ndAt e d).2.2.1).2.2.2
    rw [hql] at last
    rw [hw, hql]
    refine impl_instr.v0s _ _ _ _ _ _ _ _ _ _ _ _ _ _ _ _ _ _ _ _ _ _ _ ?_
    rw [br_t (by decide), br_t (by decide), gt_some q0, br_t (by simpa using hb.1), gt_some (ndAt_get hb.1 (by omega)), br_t (by rw [hc]; exact seq_t rfl), br_f (by simp; omega), mv, bd_s, br_t (by simpa using hd0), gt_some (ndAt_get hd0 (by omega)), br_t (by simp), br_t (by simpa using hb.1), gt_some (ndAt_get hb.1 (by omega)), w0]
    refine impl_instr.v0s _ _ _ _ _ _ _ _ _ _ _ _ _ _ _ _ _ _ _ _ _ _ _ ?_
    rw [br_t (by decide), br_t (by decide), gt_some q1, br_t (by simpa using hd0), gt_some (ndAt_get hd0 (by omega)), br_f (seq_f hd), w1]
    exact last
theorem impl_instr_v (hn : nodesOk e 0 = true) {i : Nat} (hi : i < e.length) {t : Int} {p q : List Int} (h : tileM e (i : Int) t = some (p, q)) (h0 : 0 ≤ t) (h12 : t ≤ 12) (hs : (ndAt e i).1.size ≤ 1000) (dst : Int) {regs : List Int} (hr : regs.length ≤ 2) :
    impl_instr.v e (i : Int) t dst regs = some (instrP (ndAt e i) t dst (regs.getD 0 0) (regs.getD 1 0) (wordOf e q)) := by
  refine impl_instr.vs _ _ _ _ _ ?_
  rw [br_t (by simp), gt_some (ndAt_get (by omega) (by omega)), tileAt_v hn hi h0 h12, bd_s, tileI_eq hn hi h0 h12 h]
  rcases two_of hr with e0 | ⟨a, e1⟩ | ⟨a, b, e2⟩
  · subst e0
    rw [br_f (by decide), br_f (by decide)]
    exact instr_rounds hn hi h h0 h12 hs _ _ _ _ _ _ _ _ _
  · subst e1
    rw [br_t (by simp), gt_some (a := a) rfl, br_f (by simp)]
    exact instr_rounds hn hi h h0 h12 hs _ _ _ _ _ _ _ _ _
  · subst e2
    rw [br_t (by simp), gt_some (a := a) rfl, br_t (by simp), gt_some (a := b) rfl]
    exact instr_rounds hn hi h h0 h12 hs _ _ _ _ _ _ _ _ _
end
end Go.Proofs.YtafjengmkiepbaaGreat.Am
end
section
/- The instruction of a tile: the reference. -/
namespace Go.Proofs.YtafjengmkiepbaaGreat.Am
open Go
set_option linter.unusedVariables false
set_option linter.unusedSimpArgs false
section
variable {e : List Nd}
theorem seInstr_v (hn : nodesOk e 0 = true) {i : Nat} (hi : i < e.length) {t : Int} {p q : List Int} (h : tileM e (i : Int) t = some (p, q)) (h0 : 0 ≤ t) (h12 : t ≤ 12) (hs : (ndAt e i).1.size ≤ 1000) (dst : Int) {regs : List Int} (hr : regs.length ≤ 2) :
    spec_seInstr.v e (i : Int) t dst regs = some (instrP (ndAt e i) t dst (regs.getD 0 0) (regs.getD 1 0) (wordOf e q)) := by
  refine spec_seInstr.vs _ _ _ _ _ ?_
  have hg := ndAt_get (e := e) (p := (i : Int)) (by omega) (by omega)
  have hb : Nat.ble ((ByteArray.size (ndAt e i).1) + (ByteArray.size (⟨#[105]⟩ : ByteArray))) 9223372036854775807 = true := by
    have : ByteArray.size (⟨#[105]⟩ : ByteArray) = 1 := rfl
    rw [this, Nat.ble_eq]; omega
  have cv := seConst_v hn hi h
  have facts : (t = 4 → 0 ≤ wordOf e q ∧ wordOf e q ≤ 63) ∧ (t = 5 ∨ t = 6 → ¬ (ndAt e i).1 = tSub) ∧ (t = 7 ∨ t = 8 ∨ t = 11 ∨ t = 12 → wordOf e q = 2 ∨ wordOf e q = 4 ∨ wordOf e q = 8 ∨ wordOf e q = 16 ∨ wordOf e q = 32) := by
    cases tile_inner hn hi h with
    | none hq ht => exact ⟨fun _ => by omega, fun _ => by omega, fun _ => by omega⟩
    | one c S ops hq hc0 hc1 hc hv ho ht =>
      have hw : wordOf e q = (ndAt e c).2.2.2 := by rw [hq]; rfl
      rw [hw]
      rcases ht with ⟨r, ro, rs⟩ | ⟨r, ro, rs⟩ | ⟨r, ro⟩ | ⟨r, rs⟩ | ⟨r, rs⟩
      · rw [rs, mem_words] at hv; exact ⟨fun _ => hv, fun _ => by omega, fun _ => by omega⟩
      · exact ⟨fun _ => by omega, fun _ k => (by rw [ro, k] at ho; exact absurd ho (by decide)), fun _ => by omega⟩
      · exact ⟨fun _ => by omega, fun _ k => (by rw [ro, k] at ho; exact absurd ho (by decide)), fun _ => by omega⟩
      · exact ⟨fun _ => by omega, fun _ => by omega, fun _ => by rw [rs] at hv; simpa using hv⟩
      · exact ⟨fun _ => by omega, fun _ => by omega, fun _ => by rw [rs] at hv; simpa using hv⟩
    | two d S hq hd0 hd1 hd hb hc hv ht =>
      have hw : wordOf e q = (ndAt e (ndAt e d).2.2.1).2.2.2 := by rw [hq]; rfl
      rw [hw]
      refine ⟨fun _ => by omega, fun _ => by omega, fun hh => ?_⟩
      rcases ht with r | r | ⟨r, rs⟩ | ⟨r, rs⟩
      · omega
      · omega
      · rw [rs] at hv; simp at hv; omega
      · rw [rs] at hv; simp at hv; omega
  obtain ⟨f4, f5, f7⟩ := facts
  have hcase : t = 0 ∨ t = 1 ∨ t = 2 ∨ t = 3 ∨ t = 4 ∨ t = 5 ∨ t = 6 ∨ t = 7 ∨ t = 8 ∨ t = 9 ∨ t = 10 ∨ t = 11 ∨ t = 12 := by omega
  rw [br_t (by simp), gt_some hg]
  rcases two_of hr with e0 | ⟨a, e1⟩ | ⟨a, b, e2⟩
  · subst e0
    rw [br_f (by decide), br_f (by decide)]
    rcases hcase with c | c | c | c | c | c | c | c | c | c | c | c | c <;> subst c
    · rfl
    · rw [br_t (by decide), br_t (by simp), gt_some hg]; rfl
    · rfl
    · rfl
    · rw [br_f (by decide), br_t (by decide)]
      by_cases c : (ndAt e (i : Int)).1 = tSub
      · rw [br_t (seq_t c), cv, bd_s, neg_v (f4 rfl).1 (f4 rfl).2, bd_s]; unfold instrP; rw [if_neg (by decide), if_pos (by decide), if_pos c]; rfl
      · rw [br_f (seq_f c), br_t (by decide), br_t hb, cv, bd_s]; unfold instrP; rw [if_neg (by decide), if_pos (by decide), if_neg c]; rfl
    · rw [br_f (by decide), br_f (by decide), br_f (by decide), br_t (by decide), br_t hb, cv, bd_s]; unfold instrP; rw [if_neg (by decide), if_pos (by decide), if_neg (f5 (by decide))]; rfl
    · rw [br_f (by decide), br_f (by decide), br_f (by decide), br_f (by decide), br_t (by decide), br_t hb, cv, bd_s]; unfold instrP; rw [if_neg (by decide), if_pos (by decide), if_neg (f5 (by decide))]; rfl
    · rw [br_f (by decide), br_f (by decide), br_f (by decide), br_f (by decide), br_f (by decide), br_t (by decide), cv, bd_s, seLog_v (f7 (by decide)), bd_s]; rfl
    · rw [br_f (by decide), br_f (by decide), br_f (by decide), br_f (by decide), br_f (by decide), br_f (by decide), br_t (by decide), cv, bd_s, seLog_v (f7 (by decide)), bd_s]; rfl
    · rw [br_f (by decide), br_f (by decide), br_f (by decide), br_f (by decide), br_f (by decide), br_f (by decide), br_f (by decide), br_t (by decide), cv, bd_s]; rfl
    · rw [br_f (by decide), br_f (by decide), br_f (by decide), br_f (by decide), br_f (by decide), br_f (by decide), br_f (by decide), br_f (by decide), br_t (by decide), cv, bd_s]; rfl
    · rw [br_f (by decide), br_f (by decide), br_f (by decide), br_f (by decide), br_f (by decide), br_f (by decide), br_f (by decide), br_f (by decide), br_f (by decide), br_t (by decide), cv, bd_s, seLog_v (f7 (by decide)), bd_s]; rfl
    · rw [br_f (by decide), br_f (by decide), br_f (by decide), br_f (by decide), br_f (by decide), br_f (by decide), br_f (by decide), br_f (by decide), br_f (by decide), br_f (by decide), br_t (by decide), cv, bd_s, seLog_v (f7 (by decide)), bd_s]; rfl
  · subst e1
    rw [br_t (by simp), gt_some (a := a) rfl, br_f (by simp)]
    rcases hcase with c | c | c | c | c | c | c | c | c | c | c | c | c <;> subst c
    · rfl
    · rw [br_t (by decide), br_t (by simp), gt_some hg]; rfl
    · rfl
    · rfl
    · rw [br_f (by decide), br_t (by decide)]
      by_cases c : (ndAt e (i : Int)).1 = tSub
      · rw [br_t (seq_t c), cv, bd_s, neg_v (f4 rfl).1 (f4 rfl).2, bd_s]; unfold instrP; rw [if_neg (by decide), if_pos (by decide), if_pos c]; rfl
      · rw [br_f (seq_f c), br_t (by decide), br_t hb, cv, bd_s]; unfold instrP; rw [if_neg (by decide), if_pos (by decide), if_neg c]; rfl
    · rw [br_f (by decide), br_f (by decide), br_f (by decide), br_t (by decide), br_t hb, cv, bd_s]; unfold instrP; rw [if_neg (by decide), if_pos (by decide), if_neg (f5 (by decide))]; rfl
    · rw [br_f (by decide), br_f (by decide), br_f (by decide), br_f (by decide), br_t (by decide), br_t hb, cv, bd_s]; unfold instrP; rw [if_neg (by decide), if_pos (by decide), if_neg (f5 (by decide))]; rfl
    · rw [br_f (by decide), br_f (by decide), br_f (by decide), br_f (by decide), br_f (by decide), br_t (by decide), cv, bd_s, seLog_v (f7 (by decide)), bd_s]; rfl
    · rw [br_f (by decide), br_f (by decide), br_f (by decide), br_f (by decide), br_f (by decide), br_f (by decide), br_t (by decide), cv, bd_s, seLog_v (f7 (by decide)), bd_s]; rfl
    · rw [br_f (by decide), br_f (by decide), br_f (by decide), br_f (by decide), br_f (by decide), br_f (by decide), br_f (by decide), br_t (by decide), cv, bd_s]; rfl
    · rw [br_f (by decide), br_f (by decide), br_f (by decide), br_f (by decide), br_f (by decide), br_f (by decide), br_f (by decide), br_f (by decide), br_t (by decide), cv, bd_s]; rfl
    · rw [br_f (by decide), br_f (by decide), br_f (by decide), br_f (by decide), br_f (by decide), br_f (by decide), br_f (by decide), br_f (by decide), br_f (by decide), br_t (by decide), cv, bd_s, seLog_v (f7 (by decide)), bd_s]; rfl
    · rw [br_f (by decide), br_f (by decide), br_f (by decide), br_f (by decide), br_f (by decide), br_f (by decide), br_f (by decide), br_f (by decide), br_f (by decide), br_f (by decide), br_t (by decide), cv, bd_s, seLog_v (f7 (by decide)), bd_s]; rfl
  · subst e2
    rw [br_t (by simp), gt_some (a := a) rfl, br_t (by simp), gt_some (a := b) rfl]
    rcases hcase with c | c | c | c | c | c | c | c | c | c | c | c | c <;> subst c
    · rfl
    · rw [br_t (by decide), br_t (by simp), gt_some hg]; rfl
    · rfl
    · rfl
    · rw [br_f (by decide), br_t (by decide)]
      by_cases c : (ndAt e (i : Int)).1 = tSub
      · rw [br_t (seq_t c), cv, bd_s, neg_v (f4 rfl).1 (f4 rfl).2, bd_s]; unfold instrP; rw [if_neg (by decide), if_pos (by decide), if_pos c]; rfl
      · rw [br_f (seq_f c), br_t (by decide), br_t hb, cv, bd_s]; unfold instrP; rw [if_neg (by decide), if_pos (by decide), if_neg c]; rfl
    · rw [br_f (by decide), br_f (by decide), br_f (by decide), br_t (by decide), br_t hb, cv, bd_s]; unfold instrP; rw [if_neg (by decide), if_pos (by decide), if_neg (f5 (by decide))]; rfl
    · rw [br_f (by decide), br_f (by decide), br_f (by decide), br_f (by decide), br_t (by decide), br_t hb, cv, bd_s]; unfold instrP; rw [if_neg (by decide), if_pos (by decide), if_neg (f5 (by decide))]; rfl
    · rw [br_f (by decide), br_f (by decide), br_f (by decide), br_f (by decide), br_f (by decide), br_t (by decide), cv, bd_s, seLog_v (f7 (by decide)), bd_s]; rfl
    · rw [br_f (by decide), br_f (by decide), br_f (by decide), br_f (by decide), br_f (by decide), br_f (by decide), br_t (by decide), cv, bd_s, seLog_v (f7 (by decide)), bd_s]; rfl
    · rw [br_f (by decide), br_f (by decide), br_f (by decide), br_f (by decide), br_f (by decide), br_f (by decide), br_f (by decide), br_t (by decide), cv, bd_s]; rfl
    · rw [br_f (by decide), br_f (by decide), br_f (by decide), br_f (by decide), br_f (by decide), br_f (by decide), br_f (by decide), br_f (by decide), br_t (by decide), cv, bd_s]; rfl
    · rw [br_f (by decide), br_f (by decide), br_f (by decide), br_f (by decide), br_f (by decide), br_f (by decide), br_f (by decide), br_f (by decide), br_f (by decide), br_t (by decide), cv, bd_s, seLog_v (f7 (by decide)), bd_s]; rfl
    · rw [br_f (by decide), br_f (by decide), br_f (by decide), br_f (by decide), br_f (by decide), br_f (by decide), br_f (by decide), br_f (by decide), br_f (by decide), br_f (by decide), br_t (by decide), cv, bd_s, seLog_v (f7 (by decide)), bd_s]; rfl
end
end Go.Proofs.YtafjengmkiepbaaGreat.Am
end
section
/- What the laws do with rows of numbers: compared, written on, held. -/
namespace Go.Proofs.YtafjengmkiepbaaGreat.Am
open Go
set_option linter.unusedVariables false
set_option linter.unusedSimpArgs false

def mkI : Int → List Int → List Int
  | _, [] => []
  | k, _ :: r => k :: mkI (k + 1) r
theorem mkI_len : ∀ (l : List Int) (k : Int), (mkI k l).length = l.length
  | [], _ => rfl
  | _ :: r, k => by simp [mkI, mkI_len r]
theorem markIntS_l : ∀ (r l : List Int) (k : Int), 0 ≤ k → k + r.length ≤ 1000000000 → l.length + r.length ≤ 1000000000 → laws_markIntS.v0 k (l.length : Int) (l ++ r) = some (k + r.length, l ++ mkI k r)
  | [], l, k, h0, h1, h2 => laws_markIntS.v0s _ _ _ (by simp [mkI])
  | n :: r, l, k, h0, h1, h2 => by
    simp only [List.length_cons] at h1 h2
    have ih := markIntS_l r (l ++ [k]) (k + 1) (by omega) (by omega) (by simp; omega)
    refine laws_markIntS.v0s _ _ _ ?_
    have w1 : IntKind.wrap .i64 (k + 1) = k + 1 := wrap_ok (by omega) (by omega)
    have wi : IntKind.wrap .i64 ((l.length : Int) + 1) = ((l.length + 1 : Nat) : Int) := by rw [wrap_ok (by omega) (by omega)]; rfl
    have hlt : ((l.length : Int) < ((l.length + (r.length + 1) : Nat) : Int)) := by omega
    simp only [w1, wi, Int.toNat_natCast, set_mid, gt_mid, bd_s, List.length_append, List.length_cons]
    simp only [br_if, hlt, decide_true, if_true, Int.natCast_nonneg]
    simp only [List.length_append, List.length_cons, List.length_nil, List.append_assoc, List.cons_append, List.nil_append, Nat.zero_add] at ih
    rw [ih]
    simp only [mkI, List.length_cons]
    congr 2
    omega
theorem markIntS_v (k : Int) (r : List Int) (h0 : 0 ≤ k) (h1 : k + r.length ≤ 1000000000) : laws_markIntS.v k r = some (k + r.length, mkI k r) :=
  laws_markIntS.vs _ _ (by have := markIntS_l r [] k h0 h1 (by simp; omega); simpa using this)
theorem eqIntS_l (xs : List Int) (h : xs.length ≤ 1000000000) : ∀ (d i : Nat), i + d = xs.length → laws_eqIntS.v0 xs xs (i : Int) = some true := by
  intro d
  induction d with
  | zero => intro i hi; exact laws_eqIntS.v0s _ _ _ (br_f (by simp; omega))
  | succ d ih =>
    intro i hi
    have hlt : i < xs.length := by omega
    refine laws_eqIntS.v0s _ _ _ ?_
    rw [br_t (by simpa using hlt), br_t (by simp), Int.toNat_natCast, gt_at _ hlt, br_t (by simp), gt_at _ hlt, br_f (by simp), next_ok i _ hlt (by omega)]
    exact ih (i + 1) (by omega)
theorem eqIntS_v (xs : List Int) (h : xs.length ≤ 1000000000) : laws_eqIntS.v xs xs = some true :=
  laws_eqIntS.vs _ _ ((br_f (by simp)).trans (eqIntS_l xs h xs.length 0 (by omega)))
end Go.Proofs.YtafjengmkiepbaaGreat.Am
end
section
/- What the laws do with trees and rows of numbers. -/
namespace Go.Proofs.YtafjengmkiepbaaGreat.Am
open Go
set_option linter.unusedVariables false
set_option linter.unusedSimpArgs false
abbrev tyNd : Ty := .pr .s (.pr (.i .i64) (.pr (.i .i64) (.i .i64)))
theorem szNodeS_q (e : List Nd) (q : Qd (.sl tyNd) e) (y : Int) (h0 : 0 ≤ y) (h1 : y ≤ 1048576) : ∃ z, laws_szNodeS.v e y = some z ∧ z ≤ y ∧ (0 ≤ z → e.length ≤ 1048576) := by
  obtain ⟨q1, q2⟩ := q
  obtain ⟨z, hz, hzx, hzl⟩ := szNodeS_v e y h0 (by omega) q1 (fun n hn => (q2 n hn).1)
  exact ⟨z, hz, hzx, fun h => by have := hzl h; omega⟩
theorem toIntS_l (xs : List Int) (hl : xs.length ≤ 1048576) : ∀ (d i : Nat), i + d = xs.length → laws_toIntS.v0 xs (i : Int) (xs.take i ++ List.replicate d 0) = some (xs, ()) := by
  intro d
  induction d with
  | zero =>
    intro i hi
    refine laws_toIntS.v0s _ _ _ ?_
    rw [br_f (by simp; omega), List.take_of_length_le (by omega)]; simp
  | succ d ih =>
    intro i hi
    have h1 : i < xs.length := by omega
    refine laws_toIntS.v0s _ _ _ ?_
    have hlen : (xs.take i).length = i := by simp; omega
    have hi2 : i < (xs.take i ++ List.replicate (d + 1) 0).length := by simp; omega
    have hset : (xs.take i ++ List.replicate (d + 1) 0).set i xs[i] = xs.take (i + 1) ++ List.replicate d 0 := by
      rw [List.set_append_right _ _ (by omega), hlen, Nat.sub_self, List.replicate_succ, List.set_cons_zero, List.take_succ_eq_append_getElem h1, List.append_assoc]; rfl
    rw [br_t (by simpa using h1), br_t (by simp), Int.toNat_natCast, gt_at _ h1, br_t (by simp), br_t (by have := hi2; rw [decide_eq_true_iff]; omega), gt_at _ hi2, hset, next_ok i _ h1 (by omega)]
    exact ih (i + 1) (by omega)
theorem toIntS_v (xs : List Int) (hl : xs.length ≤ 1048576) : laws_toIntS.v xs = some (xs, ()) := by
  refine laws_toIntS.vs _ ?_
  rw [br_t (by simp), br_t (by simp; omega)]
  have := toIntS_l xs hl xs.length 0 (by omega)
  simpa using this
end Go.Proofs.YtafjengmkiepbaaGreat.Am
end
section
/- InstrOfTile: both sides, the law. -/
namespace Go.Proofs.YtafjengmkiepbaaGreat.Am
open Go
set_option linter.unusedVariables false
set_option linter.unusedSimpArgs false
theorem isIn_mem {l : List ByteArray} {s : ByteArray} (h : isIn l s = true) : s ∈ l := by
  unfold isIn at h
  rw [List.any_eq_true] at h
  obtain ⟨x, hx, hs⟩ := h
  rw [← of_decide_eq_true hs]; exact hx
theorem op_size {n : Nd} {i : Int} (h : nodeOk n i = true) : n.1.size ≤ 1000 := by
  unfold nodeOk at h
  by_cases c0 : n.1 = tIn
  · rw [c0]; decide
  by_cases c1 : n.1 = tConst
  · rw [c1]; decide
  rw [if_neg c0, if_neg c1] at h
  by_cases c2 : isOne n.1 = true
  · rcases isOne_mem c2 with q | q <;> rw [q] <;> decide
  · rw [if_neg c2, Bool.and_eq_true, Bool.and_eq_true, Bool.and_eq_true] at h
    have hm := isIn_mem h.1.1.1
    have : ∀ x ∈ opsL, x.size ≤ 1000 := by decide
    exact this _ hm
theorem l1All_v (l : List Int) (lo hi : Int) (hl : l.length ≤ 1048576) : spec_l1All.v l lo hi = some (l.all (fun x => inB x lo hi)) := by
  refine spec_l1All.vs _ _ _ ?_
  have key : ∀ (d j : Nat), j + d = l.length → spec_l1All.v0 lo hi l (l.length : Int) (j : Int) = some ((l.drop j).all (fun x => inB x lo hi)) := by
    intro d
    induction d with
    | zero =>
      intro j hj
      refine spec_l1All.v0s _ _ _ _ _ ?_
      rw [br_f (by simp; omega), List.drop_eq_nil_of_le (by omega)]; rfl
    | succ d ih =>
      intro j hj
      have hjl : j < l.length := by omega
      refine spec_l1All.v0s _ _ _ _ _ ?_
      rw [br_t (by simpa using hjl), br_t (by simp), Int.toNat_natCast, gt_at _ hjl, l1In_f, bd_s, next_ok j _ hjl (by omega), ih (j + 1) (by omega), drop_at _ _ hjl, List.all_cons]
      cases inB l[j] lo hi <;> rfl
  exact key l.length 0 (by omega)
section
variable {e : List Nd}
abbrev In0 : In5 := ((⟨#[]⟩ : ByteArray), 0, 0, 0, 0)
def atA (e : List Nd) (i t : Int) : Bool := treeOk e && (inB i 0 ((e.length : Int) - 1) && (inB t 0 12 && (tileM e i t).isSome))
def instrA (e : List Nd) (i t dst : Int) (regs : List Int) : In5 × Bool :=
  if atA e i t = true ∧ t ≠ 0 ∧ inB dst 0 5 = true ∧ regs.all (fun x => inB x 0 5) = true ∧ (told (tileM e i t)).1.length = regs.length then (instrP (ndAt e i) t dst (regs.getD 0 0) (regs.getD 1 0) (wordOf e (told (tileM e i t)).2.1), true) else (In0, false)
theorem w_len (hl : e.length ≤ 1048576) : IntKind.wrap .i64 ((e.length : Int) - 1) = (e.length : Int) - 1 := wrap_ok (by omega) (by omega)
end
end Go.Proofs.YtafjengmkiepbaaGreat.Am
end
