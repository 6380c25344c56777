/- What the laws do around the functions: arguments are measured, copied and compared. -/
import Derived.Test.YtohfaccniialmaaEv
import Derived.Test.YtohfaccniialmaaV3
namespace Go.Proofs.Ytohfaccniialmaa.Am
open Go
set_option linter.unusedVariables false
set_option linter.unusedSimpArgs false

abbrev Nd := ByteArray × Int × Int × Int
abbrev Rl := List Nd × List Nd × ByteArray
theorem toNode_f (n : Nd) : laws_toNode.f n = some n := laws_toNode.eq n
theorem eqNode_f (n : Nd) : laws_eqNode.f n n = some true := by
  rw [laws_eqNode.eq]
  have : seq n.1 n.1 = true := seq_iff.2 rfl
  rw [this]
  simp [br]
/-- a measure that is not less than 0 says how long the list is -/
theorem szNode_f (n : Nd) (x : Int) (hx : 0 ≤ x) (hx1 : x ≤ 9223372036854775000) (hn : n.1.size ≤ 9223372036854775807) : ∃ y, laws_szNode.f n x = some y ∧ y ≤ x := by
  rw [laws_szNode.eq]
  rw [wrap_ok (by omega) (by omega)]
  by_cases h : x - (n.1.size : Int) < 0
  · exact ⟨-1, br_t (by simpa using h), by omega⟩
  · exact ⟨_, br_f (by simpa using h), by omega⟩
theorem szNodeS_ev (xs : List Nd) (x : Int) (hx : 0 ≤ x) (hx1 : x ≤ 9223372036854775000) (hl : xs.length ≤ maxLen) (hn : ∀ n, n ∈ xs → n.1.size ≤ maxLen) : ∃ y, Ev (fun k => laws_szNodeS.f k xs x) y ∧ y ≤ x ∧ (0 ≤ y → xs.length ≤ x) := by
  have hM : maxLen = 9223372036854775807 := by decide
  have hl' : (xs.length : Int) ≤ 9223372036854775807 := by omega
  have hw : IntKind.wrap .i64 (x - (xs.length : Int)) = x - (xs.length : Int) := wrap_ok (by omega) (by omega)
  by_cases h : x - (xs.length : Int) < 0
  · exact ⟨-1, Ev.step (fun k => laws_szNodeS.eq k xs x) (by rw [hw]; exact Ev.pos (by simpa using h) (Ev.now _)), by omega, by omega⟩
  · have hle : (xs.length : Int) ≤ x := by omega
    have loop : ∀ (d i : Nat) (z : Int), i + d = xs.length → 0 ≤ z → z ≤ x → ∃ y, Ev (fun k => laws_szNodeS.l0 k xs z (i : Int)) y ∧ y ≤ x := by
      intro d
      induction d with
      | zero =>
        intro i z hi h0 h1
        exact ⟨z, Ev.step (fun k => laws_szNodeS.l0_eq k xs z i) (Ev.neg (by simp; omega) (Ev.now _)), h1⟩
      | succ d ih =>
        intro i z hi h0 h1
        have hlt : i < xs.length := by omega
        obtain ⟨y, hy, hyz⟩ := szNode_f xs[i] z h0 (by omega) (by have := hn _ (List.getElem_mem hlt); omega)
        by_cases hy0 : y < 0
        · refine ⟨-1, Ev.step (fun k => laws_szNodeS.l0_eq k xs z i) (Ev.pos (by simpa using hlt) (Ev.pos (by simp) (Ev.get hlt (Ev.here hy (Ev.pos (by simpa using hy0) (Ev.now _)))))), by omega⟩
        · obtain ⟨r, hr, hrx⟩ := ih (i + 1) y (by omega) (by omega) (by omega)
          refine ⟨r, Ev.step (fun k => laws_szNodeS.l0_eq k xs z i) (Ev.pos (by simpa using hlt) (Ev.pos (by simp) (Ev.get hlt (Ev.here hy (Ev.neg (by simpa using hy0) ?_))))), hrx⟩
          rw [next_ok i xs.length hlt (by omega)]
          exact hr
    obtain ⟨y, hy, hyx⟩ := loop xs.length 0 (x - (xs.length : Int)) (by omega) (by omega) (by omega)
    exact ⟨y, Ev.step (fun k => laws_szNodeS.eq k xs x) (by rw [hw]; exact Ev.neg (by simpa using h) hy), hyx, fun _ => hle⟩
theorem toNodeS_ev (xs : List Nd) (hl : xs.length ≤ 1048576) : Ev (fun k => laws_toNodeS.f k xs) (xs, ()) := by
  refine Ev.step (fun k => laws_toNodeS.eq k xs) (Ev.pos (by simp) (Ev.pos (by simp; omega) ?_))
  rw [Int.toNat_natCast]
  have key : ∀ (d i : Nat), i + d = xs.length → Ev (fun k => laws_toNodeS.l0 k xs (i : Int) (xs.take i ++ List.replicate (xs.length - i) ((⟨#[]⟩ : ByteArray), ((0 : Int), ((0 : Int), (0 : Int)))))) (xs, ()) := by
    intro d
    induction d with
    | zero =>
      intro i hi
      refine Ev.step (fun k => laws_toNodeS.l0_eq k xs i _) (Ev.neg (by simp; omega) (Ev.ret ?_))
      rw [show i = xs.length by omega]
      simp
    | succ d ih =>
      intro i hi
      have hlt : i < xs.length := by omega
      have hlen : (xs.take i ++ List.replicate (xs.length - i) ((⟨#[]⟩ : ByteArray), ((0 : Int), ((0 : Int), (0 : Int))))).length = xs.length := by simp; omega
      refine Ev.step (fun k => laws_toNodeS.l0_eq k xs i _) (Ev.pos (by simpa using hlt) (Ev.pos (by simp) (Ev.get hlt (Ev.here (toNode_f _) (Ev.pos (by simp) (Ev.pos (by rw [hlen]; simpa using hlt) (Ev.get (by rw [hlen]; exact hlt) ?_)))))))
      rw [next_ok i xs.length hlt (by omega), Int.toNat_natCast]
      have := set_step xs ((⟨#[]⟩ : ByteArray), ((0 : Int), ((0 : Int), (0 : Int)))) i hlt
      rw [this]
      exact ih (i + 1) (by omega)
  simpa using key xs.length 0 (by omega)
theorem eqNodeS_ev (xs : List Nd) (hl : xs.length ≤ 1048576) : Ev (fun k => laws_eqNodeS.f k xs xs) true := by
  refine Ev.step (fun k => laws_eqNodeS.eq k xs xs) (Ev.neg (by simp) ?_)
  have key : ∀ (d i : Nat), i + d = xs.length → Ev (fun k => laws_eqNodeS.l0 k xs xs (i : Int)) true := by
    intro d
    induction d with
    | zero =>
      intro i hi
      exact Ev.step (fun k => laws_eqNodeS.l0_eq k xs xs i) (Ev.neg (by simp; omega) (Ev.now _))
    | succ d ih =>
      intro i hi
      have hlt : i < xs.length := by omega
      refine Ev.step (fun k => laws_eqNodeS.l0_eq k xs xs i) (Ev.pos (by simpa using hlt) (Ev.pos (by simp) (Ev.get hlt (Ev.pos (by simp) (Ev.get hlt (Ev.here (eqNode_f _) (Ev.neg (by rfl) ?_)))))))
      rw [next_ok i xs.length hlt (by omega)]
      exact ih (i + 1) (by omega)
  exact key xs.length 0 (by omega)
/-! ### as values -/
@[simp] theorem seq_self (x : ByteArray) : seq x x = true := seq_iff.2 rfl
theorem toNodeS_v (xs : List Nd) (hl : xs.length ≤ 1048576) : laws_toNodeS.v xs = some (xs, ()) := ev_lim (toNodeS_ev xs hl)
theorem eqNodeS_v (xs : List Nd) (hl : xs.length ≤ 1048576) : laws_eqNodeS.v xs xs = some true := ev_lim (eqNodeS_ev xs hl)
theorem szNodeS_v (xs : List Nd) (x : Int) (hx : 0 ≤ x) (hx1 : x ≤ 9223372036854775000) (hl : xs.length ≤ maxLen) (hn : ∀ n, n ∈ xs → n.1.size ≤ maxLen) : ∃ y, laws_szNodeS.v xs x = some y ∧ y ≤ x ∧ (0 ≤ y → xs.length ≤ x) := by
  obtain ⟨y, h, k⟩ := szNodeS_ev xs x hx hx1 hl hn
  exact ⟨y, ev_lim h, k⟩

/-! ### what is written on -/
theorem gt_mid {α β : Type} (l : List β) (x : β) (r : List β) (f : β → Option α) : gt (l ++ x :: r) l.length f = f x := gt_some (by simp)
theorem set_mid {β : Type} (l : List β) (x y : β) (r : List β) : (l ++ x :: r).set l.length y = l ++ y :: r := by simp
theorem strOf_one (x : Int) : (strOf [x]).size = 1 := rfl
theorem markText_l : ∀ (n : Nat) (x : ByteArray), n + x.size ≤ 1099511627776 * 2 → ∃ t, laws_markText.v0 (n : Int) x = some t := by
  intro n
  induction n using Nat.strongRecOn with
  | ind n ih =>
    intro x hx
    by_cases h : n = 0
    · subst h
      exact ⟨_, laws_markText.v0s _ _ (by
        have : (ByteArray.size ⟨#[109]⟩) = 1 := rfl
        simp [this]; constructor
        · omega
        · rfl)⟩
    · obtain ⟨t, ht⟩ := ih (n / 10) (by omega) (strOf [Go.IntKind.wrap .u8 (Go.IntKind.wrap .i64 ((48 : Int) + (Int.tmod n 10)))] ++ x) (by rw [ByteArray.size_append, strOf_one]; omega)
      refine ⟨t, laws_markText.v0s _ _ ?_⟩
      have e : IntKind.wrap .i64 (Int.tdiv (n : Int) 10) = ((n / 10 : Nat) : Int) := by
        rw [Int.tdiv_eq_ediv_of_nonneg (by omega), wrap_ok (by omega) (by omega)]; rfl
      rw [e, br_t (by simp; omega), br_t (by rw [strOf_one]; simp; omega)]
      exact ht
theorem markText_some (k : Int) (h : k ≤ 1099511627776) : ∃ t, laws_markText.v k = some t := by
  by_cases h0 : k ≤ 0
  · exact ⟨_, laws_markText.vs _ (br_t (by simpa using h0))⟩
  · obtain ⟨n, rfl⟩ := Int.eq_ofNat_of_zero_le (show 0 ≤ k by omega)
    obtain ⟨t, ht⟩ := markText_l n ⟨#[]⟩ (by have : ByteArray.size ⟨#[]⟩ = 0 := rfl; rw [this]; omega)
    exact ⟨t, laws_markText.vs _ ((br_f (by simpa using h0)).trans ht)⟩
noncomputable def mt (k : Int) : ByteArray := (laws_markText.v k).getD default
theorem mt_v (k : Int) (h : k ≤ 1099511627776) : laws_markText.v k = some (mt k) := by
  obtain ⟨t, ht⟩ := markText_some k h
  unfold mt; rw [ht]; rfl
noncomputable def mkN : Int → List Nd → List Nd
  | _, [] => []
  | k, _ :: r => (mt k, k + 1, k + 2, k + 3) :: mkN (k + 4) r
theorem mkN_len : ∀ (l : List Nd) (k : Int), (mkN k l).length = l.length
  | [], _ => rfl
  | _ :: r, k => by simp [mkN, mkN_len r]
theorem markNodeS_l : ∀ (r l : List Nd) (k : Int), 0 ≤ k → k + 4 * r.length ≤ 1000000000 → l.length + r.length ≤ 1000000000 → laws_markNodeS.v0 k (l.length : Int) (l ++ r) = some (k + 4 * r.length, l ++ mkN k r)
  | [], l, k, h0, h1, h2 => laws_markNodeS.v0s _ _ _ (by simp [mkN])
  | n :: r, l, k, h0, h1, h2 => by
    simp only [List.length_cons] at h1 h2
    have ih := markNodeS_l r (l ++ [(mt k, k + 1, k + 2, k + 3)]) (k + 4) (by omega) (by omega) (by simp; omega)
    refine laws_markNodeS.v0s _ _ _ ?_
    have w1 : IntKind.wrap .i64 (k + 1) = k + 1 := wrap_ok (by omega) (by omega)
    have w2 : IntKind.wrap .i64 (k + 1 + 1) = k + 2 := by rw [wrap_ok (by omega) (by omega)]; omega
    have w3 : IntKind.wrap .i64 (k + 2 + 1) = k + 3 := by rw [wrap_ok (by omega) (by omega)]; omega
    have w4 : IntKind.wrap .i64 (k + 3 + 1) = k + 4 := by rw [wrap_ok (by omega) (by omega)]; omega
    have wi : IntKind.wrap .i64 ((l.length : Int) + 1) = ((l.length + 1 : Nat) : Int) := by rw [wrap_ok (by omega) (by omega)]; rfl
    have hlt : ((l.length : Int) < ((l.length + (r.length + 1) : Nat) : Int)) := by omega
    simp only [w1, w2, w3, w4, wi, mt_v k (by omega), Int.toNat_natCast, set_mid, gt_mid, bd_s, List.length_append, List.length_cons]
    simp only [br_if, hlt, decide_true, if_true, Int.natCast_nonneg]
    simp only [List.length_append, List.length_cons, List.length_nil, List.append_assoc, List.cons_append, List.nil_append, Nat.zero_add] at ih
    rw [ih]
    simp only [mkN, List.length_cons]
    congr 2
    omega
theorem markNodeS_v (k : Int) (r : List Nd) (h0 : 0 ≤ k) (h1 : k + 4 * r.length ≤ 1000000000) : laws_markNodeS.v k r = some (k + 4 * r.length, mkN k r) :=
  laws_markNodeS.vs _ _ (by have := markNodeS_l r [] k h0 h1 (by simp; omega); simpa using this)
theorem heldNodeS_l : ∀ (r l : List Nd) (k : Int), 0 ≤ k → k + 4 * r.length ≤ 1000000000 → l.length + r.length ≤ 1000000000 → laws_heldNodeS.v0 (l ++ mkN k r) k (l.length : Int) = some (k + 4 * r.length)
  | [], l, k, h0, h1, h2 => laws_heldNodeS.v0s _ _ _ (by simp [mkN])
  | n :: r, l, k, h0, h1, h2 => by
    simp only [List.length_cons] at h1 h2
    have ih := heldNodeS_l r (l ++ [(mt k, k + 1, k + 2, k + 3)]) (k + 4) (by omega) (by omega) (by simp; omega)
    refine laws_heldNodeS.v0s _ _ _ ?_
    have w1 : IntKind.wrap .i64 (k + 1) = k + 1 := wrap_ok (by omega) (by omega)
    have w2 : IntKind.wrap .i64 (k + 1 + 1) = k + 2 := by rw [wrap_ok (by omega) (by omega)]; omega
    have w3 : IntKind.wrap .i64 (k + 2 + 1) = k + 3 := by rw [wrap_ok (by omega) (by omega)]; omega
    have w4 : IntKind.wrap .i64 (k + 3 + 1) = k + 4 := by rw [wrap_ok (by omega) (by omega)]; omega
    have wi : IntKind.wrap .i64 ((l.length : Int) + 1) = ((l.length + 1 : Nat) : Int) := by rw [wrap_ok (by omega) (by omega)]; rfl
    have hlt : ((l.length : Int) < ((l.length + (r.length + 1) : Nat) : Int)) := by omega
    simp only [mkN, w1, w2, w3, w4, wi, mt_v k (by omega), Int.toNat_natCast, gt_mid, bd_s, List.length_append, List.length_cons, mkN_len]
    simp only [br_if, hlt, decide_true, if_true, Int.natCast_nonneg, seq_self, Bool.not_true, Bool.false_eq_true, if_false, bne_self_eq_false]
    simp only [List.length_append, List.length_cons, List.length_nil, List.append_assoc, List.cons_append, List.nil_append, Nat.zero_add] at ih
    rw [ih]
    congr 1
    omega
theorem heldNodeS_v (k : Int) (r : List Nd) (h0 : 0 ≤ k) (h1 : k + 4 * r.length ≤ 1000000000) : laws_heldNodeS.v (mkN k r) k = some (k + 4 * r.length) :=
  laws_heldNodeS.vs _ _ (by have := heldNodeS_l r [] k h0 h1 (by simp; omega); simpa using this)
end Go.Proofs.Ytohfaccniialmaa.Am
