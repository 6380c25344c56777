/- What the laws do around the functions: arguments are measured, copied and compared. -/
import Derived.Test.YtohfaccniialmaaEv
import Derived.Test.YtohfaccniialmaaF1
namespace Go.Proofs.Ytohfaccniialmaa.Am
open Go
set_option linter.unusedVariables false
set_option linter.unusedSimpArgs false

abbrev Nd := ByteArray × Int × Int × Int
abbrev Rl := List Nd × List Nd × ByteArray
theorem toNode_f (n : Nd) : laws_toNode.f n = some n := laws_toNode.eq n
theorem eqNode_f (n : Nd) : laws_eqNode.f n n = some true := by
  rw [laws_eqNode.eq]
  have : seq n.1 n.1 = true := seq_iff.2 rfl
  rw [this]
  simp [br]
/-- a measure that is not less than 0 says how long the list is -/
theorem szNode_f (n : Nd) (x : Int) (hx : 0 ≤ x) (hx1 : x ≤ 9223372036854775000) (hn : n.1.size ≤ 9223372036854775807) : ∃ y, laws_szNode.f n x = some y ∧ y ≤ x := by
  rw [laws_szNode.eq]
  rw [wrap_ok (by omega) (by omega)]
  by_cases h : x - (n.1.size : Int) < 0
  · exact ⟨-1, br_t (by simpa using h), by omega⟩
  · exact ⟨_, br_f (by simpa using h), by omega⟩
theorem szNodeS_ev (xs : List Nd) (x : Int) (hx : 0 ≤ x) (hx1 : x ≤ 9223372036854775000) (hl : xs.length ≤ maxLen) (hn : ∀ n, n ∈ xs → n.1.size ≤ maxLen) : ∃ y, Ev (fun k => laws_szNodeS.f k xs x) y ∧ y ≤ x ∧ (0 ≤ y → xs.length ≤ x) := by
  have hM : maxLen = 9223372036854775807 := by decide
  have hl' : (xs.length : Int) ≤ 9223372036854775807 := by omega
  have hw : IntKind.wrap .i64 (x - (xs.length : Int)) = x - (xs.length : Int) := wrap_ok (by omega) (by omega)
  by_cases h : x - (xs.length : Int) < 0
  · exact ⟨-1, Ev.step (fun k => laws_szNodeS.eq k xs x) (by rw [hw]; exact Ev.pos (by simpa using h) (Ev.now _)), by omega, by omega⟩
  · have hle : (xs.length : Int) ≤ x := by omega
    have loop : ∀ (d i : Nat) (z : Int), i + d = xs.length → 0 ≤ z → z ≤ x → ∃ y, Ev (fun k => laws_szNodeS.l0 k xs z (i : Int)) y ∧ y ≤ x := by
      intro d
      induction d with
      | zero =>
        intro i z hi h0 h1
        exact ⟨z, Ev.step (fun k => laws_szNodeS.l0_eq k xs z i) (Ev.neg (by simp; omega) (Ev.now _)), h1⟩
      | succ d ih =>
        intro i z hi h0 h1
        have hlt : i < xs.length := by omega
        obtain ⟨y, hy, hyz⟩ := szNode_f xs[i] z h0 (by omega) (by have := hn _ (List.getElem_mem hlt); omega)
        by_cases hy0 : y < 0
        · refine ⟨-1, Ev.step (fun k => laws_szNodeS.l0_eq k xs z i) (Ev.pos (by simpa using hlt) (Ev.pos (by simp) (Ev.get hlt (Ev.here hy (Ev.pos (by simpa using hy0) (Ev.now _)))))), by omega⟩
        · obtain ⟨r, hr, hrx⟩ := ih (i + 1) y (by omega) (by omega) (by omega)
          refine ⟨r, Ev.step (fun k => laws_szNodeS.l0_eq k xs z i) (Ev.pos (by simpa using hlt) (Ev.pos (by simp) (Ev.get hlt (Ev.here hy (Ev.neg (by simpa using hy0) ?_))))), hrx⟩
          rw [next_ok i xs.length hlt (by omega)]
          exact hr
    obtain ⟨y, hy, hyx⟩ := loop xs.length 0 (x - (xs.length : Int)) (by omega) (by omega) (by omega)
    exact ⟨y, Ev.step (fun k => laws_szNodeS.eq k xs x) (by rw [hw]; exact Ev.neg (by simpa using h) hy), hyx, fun _ => hle⟩
theorem toNodeS_ev (xs : List Nd) (hl : xs.length ≤ 1048576) : Ev (fun k => laws_toNodeS.f k xs) xs := by
  refine Ev.step (fun k => laws_toNodeS.eq k xs) (Ev.pos (by simp) (Ev.pos (by simp; omega) ?_))
  rw [Int.toNat_natCast]
  have key : ∀ (d i : Nat), i + d = xs.length → Ev (fun k => laws_toNodeS.l0 k xs (i : Int) (xs.take i ++ List.replicate (xs.length - i) ((⟨#[]⟩ : ByteArray), ((0 : Int), ((0 : Int), (0 : Int)))))) xs := by
    intro d
    induction d with
    | zero =>
      intro i hi
      refine Ev.step (fun k => laws_toNodeS.l0_eq k xs i _) (Ev.neg (by simp; omega) (Ev.ret ?_))
      rw [show i = xs.length by omega]
      simp
    | succ d ih =>
      intro i hi
      have hlt : i < xs.length := by omega
      have hlen : (xs.take i ++ List.replicate (xs.length - i) ((⟨#[]⟩ : ByteArray), ((0 : Int), ((0 : Int), (0 : Int))))).length = xs.length := by simp; omega
      refine Ev.step (fun k => laws_toNodeS.l0_eq k xs i _) (Ev.pos (by simpa using hlt) (Ev.pos (by simp) (Ev.get hlt (Ev.here (toNode_f _) (Ev.pos (by simp) (Ev.pos (by rw [hlen]; simpa using hlt) (Ev.get (by rw [hlen]; exact hlt) ?_)))))))
      rw [next_ok i xs.length hlt (by omega), Int.toNat_natCast]
      have := set_step xs ((⟨#[]⟩ : ByteArray), ((0 : Int), ((0 : Int), (0 : Int)))) i hlt
      rw [this]
      exact ih (i + 1) (by omega)
  simpa using key xs.length 0 (by omega)
theorem eqNodeS_ev (xs : List Nd) (hl : xs.length ≤ 1048576) : Ev (fun k => laws_eqNodeS.f k xs xs) true := by
  refine Ev.step (fun k => laws_eqNodeS.eq k xs xs) (Ev.neg (by simp) ?_)
  have key : ∀ (d i : Nat), i + d = xs.length → Ev (fun k => laws_eqNodeS.l0 k xs xs (i : Int)) true := by
    intro d
    induction d with
    | zero =>
      intro i hi
      exact Ev.step (fun k => laws_eqNodeS.l0_eq k xs xs i) (Ev.neg (by simp; omega) (Ev.now _))
    | succ d ih =>
      intro i hi
      have hlt : i < xs.length := by omega
      refine Ev.step (fun k => laws_eqNodeS.l0_eq k xs xs i) (Ev.pos (by simpa using hlt) (Ev.pos (by simp) (Ev.get hlt (Ev.pos (by simp) (Ev.get hlt (Ev.here (eqNode_f _) (Ev.neg (by rfl) ?_)))))))
      rw [next_ok i xs.length hlt (by omega)]
      exact ih (i + 1) (by omega)
  exact key xs.length 0 (by omega)
theorem eqRule_ev (r : Rl) (h1 : r.1.length ≤ 1048576) (h2 : r.2.1.length ≤ 1048576) : Ev (fun k => laws_eqRule.f k r r) true := by
  have : seq r.2.2 r.2.2 = true := seq_iff.2 rfl
  exact Ev.step (fun k => laws_eqRule.eq k r r) (Ev.bind (eqNodeS_ev _ h1) (Ev.neg rfl (Ev.bind (eqNodeS_ev _ h2) (Ev.neg rfl (Ev.neg (by rw [this]; rfl) (Ev.now _))))))
theorem toRule_ev (r : Rl) (h1 : r.1.length ≤ 1048576) (h2 : r.2.1.length ≤ 1048576) : Ev (fun k => laws_toRule.f k r) r :=
  Ev.step (fun k => laws_toRule.eq k r) (Ev.bind (toNodeS_ev _ h1) (Ev.bind (toNodeS_ev _ h2) (Ev.now _)))
end Go.Proofs.Ytohfaccniialmaa.Am
