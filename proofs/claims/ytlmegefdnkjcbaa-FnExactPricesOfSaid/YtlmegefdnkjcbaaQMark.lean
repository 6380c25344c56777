/- What the laws do with lists of numbers and of nodes: copies, comparisons, marks. -/
import Derived.Test.YtlmegefdnkjcbaaQEqI
import Derived.Test.YtlmegefdnkjcbaaPa13
namespace Go.Proofs.Ytlmegefdnkjcbaa.Pa
open Go.RowKit Go.Proofs.YtlmegefdnkjcbaaW.PrintWords Go.Proofs.YtlmegefdnkjcbaaW.PrintLast Go.Proofs.YtlmegefdnkjcbaaW.PrintMore
set_option linter.unusedVariables false
set_option linter.unusedSimpArgs false
/-- the marks 1, 2, .. -/
def seqI (n : Nat) : List Int := (List.range n).map fun (j : Nat) => (j : Int) + 1
theorem seqI_len (n : Nat) : (seqI n).length = n := by simp [seqI]
theorem seqI_succ (n : Nat) : seqI (n + 1) = seqI n ++ [(n : Int) + 1] := by simp [seqI, List.range_succ]
theorem seqI_at (n i : Nat) (h : i < (seqI n).length) : (seqI n)[i] = (i : Int) + 1 := by simp [seqI]
theorem markIntS_ev (l : List Int) (hl : l.length ≤ 9223372036854770000) : Ev (fun k => laws_markIntS.f k l 1) ((l.length : Int) + 1, seqI l.length) := by
  unfold laws_markIntS.f
  have key := Ev.loop l.length (fun k i => laws_markIntS.l0 k (seqI i ++ l.drop i) ((i : Int) + 1) (i : Int)) (fun _ => ((l.length : Int) + 1, seqI l.length)) ?_ ?_ 0 (by omega)
  · simpa [seqI] using key
  · refine Ev.step (fun k => by rw [laws_markIntS.l0]) (Ev.neg (by simp [seqI_len]) (Ev.ret ?_))
    rw [List.drop_eq_nil_of_le (by omega), List.append_nil]
  · intro i hi ih
    refine Ev.step (fun k => by rw [laws_markIntS.l0]) (Ev.pos (by simp [seqI_len]; omega) (Ev.pos (by omega) ?_))
    rw [next_ok i _ hi (by omega), wrap_ok (x := (i : Int) + 1 + 1) (by omega) (by omega), show ((i : Int)).toNat = i from by omega, drop_at _ _ hi, List.set_append_right i _ (by rw [seqI_len]; omega), seqI_len, Nat.sub_self, List.set_cons_zero]
    rw [seqI_succ, List.append_assoc] at ih
    exact ih
theorem heldIntS_ev (n : Nat) (hn : n ≤ 9223372036854770000) : Ev (fun k => laws_heldIntS.f k (seqI n) 1) ((n : Int) + 1) := by
  unfold laws_heldIntS.f
  have key := Ev.loop n (fun k i => laws_heldIntS.l0 k (seqI n) ((i : Int) + 1) (i : Int)) (fun _ => (n : Int) + 1) ?_ ?_ 0 (by omega)
  · simpa using key
  · exact Ev.step (fun k => by rw [laws_heldIntS.l0]) (Ev.neg (by rw [seqI_len]; omega) (Ev.now _))
  · intro i hi ih
    refine Ev.step (fun k => by rw [laws_heldIntS.l0]) (Ev.pos (by rw [seqI_len]; omega) (Ev.pos (by omega) (Ev.pos (by rw [rd_at _ _ (by rw [seqI_len]; exact hi), seqI_at]) ?_)))
    rw [next_ok i n hi (by omega), wrap_ok (x := (i : Int) + 1 + 1) (by omega) (by omega)]
    exact ih
theorem strOf_size (xs : List Int) : (strOfNums xs).size = xs.length := by simp [strOfNums, ByteArray.size]
theorem markText_loop : ∀ (n : Nat) (x : Int) (s : ByteArray), 0 ≤ x → x ≤ n → s.size + n ≤ 9000000000000000000 → ∃ r, Ev (fun k => laws_markText.l0 k x s) r := by
  intro n
  induction n with
  | zero =>
    intro x s h0 h1 hs
    exact ⟨_, Ev.step (fun k => by rw [laws_markText.l0]) (Ev.neg (by omega) (Ev.pos (by omega) (Ev.now _)))⟩
  | succ n ih =>
    intro x s h0 h1 hs
    by_cases hx : x > 0
    · have hd : Int.tdiv x 10 = x / 10 := Int.tdiv_eq_ediv_of_nonneg h0
      obtain ⟨r, hr⟩ := ih (x / 10) (strOfNums [(wrap64 (48 + (Int.tmod x 10))) % 256] ++ s) (by omega) (by omega) (by rw [ByteArray.size_append, strOf_size]; simp; omega)
      refine ⟨r, Ev.step (fun k => by rw [laws_markText.l0]) (Ev.pos hx ?_)⟩
      simp only [Option.bind_some]
      refine Ev.pos (by rw [strOf_size]; simp; omega) ?_
      rw [hd, wrap_ok (x := x / 10) (by omega) (by omega)]
      exact hr
    · exact ⟨_, Ev.step (fun k => by rw [laws_markText.l0]) (Ev.neg hx (Ev.pos (by omega) (Ev.now _)))⟩
theorem markText_some (x : Int) (h0 : 0 ≤ x) (h1 : x ≤ 8000000000000000000) : ∃ r, Ev (fun k => laws_markText.f k x) r := by
  unfold laws_markText.f
  by_cases h : x ≤ 0
  · exact ⟨_, Ev.pos h (Ev.now _)⟩
  · obtain ⟨r, hr⟩ := markText_loop x.toNat x ⟨#[]⟩ h0 (by omega) (by show (0 : Nat) + _ ≤ _; omega)
    exact ⟨r, Ev.neg h hr⟩
def mark4 (xs : List S54) (j : Nat) (s : ByteArray) (a : Int) : List S54 :=
  let y1 := xs.set (j : Int).toNat (⟨s, (rd_T54 xs j).f1, (rd_T54 xs j).f2, (rd_T54 xs j).f3⟩ : S54)
  let y2 := y1.set (j : Int).toNat (⟨(rd_T54 y1 j).f0, a + 1, (rd_T54 y1 j).f2, (rd_T54 y1 j).f3⟩ : S54)
  let y3 := y2.set (j : Int).toNat (⟨(rd_T54 y2 j).f0, (rd_T54 y2 j).f1, a + 1 + 1, (rd_T54 y2 j).f3⟩ : S54)
  y3.set (j : Int).toNat (⟨(rd_T54 y3 j).f0, (rd_T54 y3 j).f1, (rd_T54 y3 j).f2, a + 1 + 1 + 1⟩ : S54)
theorem markNodeS_loop (n : Nat) (hn : n ≤ 1000000000000000000) : ∀ (d j : Nat) (xs : List S54) (a : Int), xs.length = n → j + d = n → 0 ≤ a → a + 4 * d ≤ 8000000000000000000 → ∃ m l', Ev (fun k => laws_markNodeS.l0 k xs a (j : Int)) (m, l') ∧ 0 ≤ m := by
  intro d
  induction d with
  | zero =>
    intro j xs a hx hj h0 h1
    refine ⟨a, xs, Ev.step (fun k => by rw [laws_markNodeS.l0]) ?_, h0⟩
    exact Ev.neg (by omega) (Ev.now _)
  | succ d ih =>
    intro j xs a hx hj h0 h1
    obtain ⟨s, hs⟩ := markText_some a h0 (by omega)
    obtain ⟨m, l', hr, hm⟩ := ih (j + 1) (mark4 xs j s a) (a + 1 + 1 + 1 + 1) (by simp only [mark4, List.length_set]; exact hx) (by omega) (by omega) (by omega)
    refine ⟨m, l', Ev.step (fun k => by rw [laws_markNodeS.l0]) ?_, hm⟩
    refine Ev.pos (by omega) (Ev.bindB s hs (Ev.pos (by omega) ?_))
    simp only [Option.bind_some]
    rw [next_ok j n (by omega) (by omega), wrap_ok (x := a + 1) (by omega) (by omega), wrap_ok (x := a + 1 + 1) (by omega) (by omega), wrap_ok (x := a + 1 + 1 + 1) (by omega) (by omega), wrap_ok (x := a + 1 + 1 + 1 + 1) (by omega) (by omega)]
    exact hr
theorem markNodeS_ev (l : List S54) (hl : l.length ≤ 1000000000000000000) : ∃ m l', Ev (fun k => laws_markNodeS.f k l 1) (m, l') ∧ 0 ≤ m := markNodeS_loop l.length hl l.length 0 l 1 rfl (by omega) (by omega) (by omega)
end Go.Proofs.Ytlmegefdnkjcbaa.Pa
