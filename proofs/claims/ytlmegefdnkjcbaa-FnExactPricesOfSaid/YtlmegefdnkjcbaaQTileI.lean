/- Tiles of the program: they are the reference's. -/
import Derived.Test.YtlmegefdnkjcbaaQTile
import Derived.Test.YtlmegefdnkjcbaaPa5
import Derived.Test.YtlmegefdnkjcbaaPa6
import Derived.Test.YtlmegefdnkjcbaaPa7
import Derived.Test.YtlmegefdnkjcbaaPa8
import Derived.Test.YtlmegefdnkjcbaaPa9
namespace Go.Proofs.Ytlmegefdnkjcbaa.Pa
open Go.RowKit Go.Proofs.YtlmegefdnkjcbaaW.PrintWords Go.Proofs.YtlmegefdnkjcbaaW.PrintLast Go.Proofs.YtlmegefdnkjcbaaW.PrintMore
set_option linter.unusedVariables false
set_option linter.unusedSectionVars false
set_option linter.unusedSimpArgs false
/-! ### the sort of a few numbers -/
theorem less_f (a b : Int) : cmp_Less_int.f a b = some (decide (a < b)) := by
  unfold cmp_Less_int.f cmp_isNaN_int.f
  simp
def sort2 (a b : Int) : List Int := if b < a then [b, a] else [a, b]
theorem len64_some (n : Int) (h0 : 0 ≤ n) (h : n ≤ 12) : ∃ r, Ev (fun k => bits_Len.f (IntKind.u64.wrap n)) r := by
  have hw : IntKind.u64.wrap n = n := by
    have : (0 : Int) ≤ n ∧ n < 2 ^ 64 := ⟨h0, by omega⟩
    unfold IntKind.wrap
    simp [IntKind.signed, IntKind.bits]
    omega
  rw [hw]
  have hs : ∃ v, bits_Len.f n = some v := by
    unfold bits_Len.f bits_Len64.f
    rw [if_neg (by omega), if_neg (by omega), if_neg (by omega), if_pos (by omega), if_pos (by omega)]
    exact ⟨_, rfl⟩
  obtain ⟨v, hv⟩ := hs
  exact ⟨v, Ev.one hv⟩
theorem insert_ev2 (a b : Int) : Ev (fun k => slices_insertionSortOrdered_int.f k [a, b] 0 2) (sort2 a b) := by
  unfold slices_insertionSortOrdered_int.f
  have hend : ∀ l : List Int, Ev (fun k => slices_insertionSortOrdered_int.l0 k l 0 2 2) l := fun l => Ev.step (fun k => by rw [slices_insertionSortOrdered_int.l0]) (Ev.neg (by omega) (Ev.now _))
  have w1 : wrap64 (0 + 1) = 1 := by unfold wrap64; omega
  have w0 : wrap64 (1 - 1) = 0 := by unfold wrap64; omega
  have w2 : wrap64 (1 + 1) = 2 := by unfold wrap64; omega
  rw [w1]
  refine Ev.step (fun k => by rw [slices_insertionSortOrdered_int.l0]) (Ev.pos (by decide) ?_)
  refine Ev.step (fun k => by rw [slices_insertionSortOrdered_int.l1]) (Ev.pos (by decide) (Ev.pos (by decide) (Ev.pos (by simp) ?_)))
  rw [w0, w2]
  refine Ev.pos (by decide) (Ev.pos (by simp) ?_)
  rw [less_f, show rd [a, b] 1 = b from by simp [rd], show rd [a, b] 0 = a from by simp [rd]]
  simp only [Option.bind_some]
  unfold sort2
  by_cases h : b < a
  · rw [if_pos h]
    refine Ev.pos (by simpa using h) ?_
    refine Ev.step (fun k => by rw [slices_insertionSortOrdered_int.l1]) (Ev.neg (by decide) ?_)
    rw [w2]
    exact hend _
  · rw [if_neg h]
    exact Ev.neg (by simpa using h) (hend _)
theorem sort_ev2 (a b : Int) : Ev (fun k => slices_Sort_int_int.f k [a, b]) (sort2 a b) := by
  unfold slices_Sort_int_int.f
  obtain ⟨r, hr⟩ := len64_some 2 (by decide) (by decide)
  refine Ev.bindB _ hr ?_
  refine Ev.map (f := id) (a := sort2 a b) ?_ rfl
  refine Ev.step (fun k => by rw [slices_pdqsortOrdered_int.f]) (Ev.step (fun k => by rw [slices_pdqsortOrdered_int.l0]) ?_)
  have w3 : wrap64 ((([a, b] : List Int).length : Int) - 0) ≤ 12 := by show wrap64 (2 - 0) ≤ 12; unfold wrap64; omega
  exact Ev.pos w3 (Ev.map (f := id) (insert_ev2 a b) rfl)
/-! ### powers -/
def powerM (x : Int) : Int := if x = 2 then 1 else if x = 4 then 2 else if x = 8 then 3 else if x = 16 then 4 else if x = 32 then 5 else 0
theorem power_ev (x : Int) : Ev (fun k => impl_power.f k x) (powerM x) := by
  unfold impl_power.f powerM
  have one : ∀ (j : Int) (v : Int) (R : Int), 1 ≤ j → j < 6 → shl .i64 1 j = v → Ev (fun k => impl_power.l0 k x (j + 1)) R → Ev (fun k => impl_power.l0 k x j) (if x = v then j else R) := by
    intro j v R hj0 hj hv h
    refine Ev.step (fun k => by rw [impl_power.l0]) (Ev.pos hj (Ev.pos (by omega) ?_))
    rw [hv, wrap_ok (by omega) (by omega)]
    by_cases c : x = v
    · exact Ev.pos c (Ev.ret (by rw [if_pos c]))
    · exact Ev.neg c (Ev.eq h (by rw [if_neg c]))
  have hend : Ev (fun k => impl_power.l0 k x 6) 0 := Ev.step (fun k => by rw [impl_power.l0]) (Ev.neg (by decide) (Ev.now _))
  exact one 1 2 _ (by decide) (by decide) (by decide) (one 2 4 _ (by decide) (by decide) (by decide) (one 3 8 _ (by decide) (by decide) (by decide) (one 4 16 _ (by decide) (by decide) (by decide) (one 5 32 _ (by decide) (by decide) (by decide) hend))))
theorem powerM_pos (x : Int) : decide (powerM x > 0) = ([2, 4, 8, 16, 32] : List Int).contains x := by
  unfold powerM
  rw [Bool.eq_iff_iff]
  simp only [decide_eq_true_iff, List.contains_iff_mem, List.mem_cons, List.not_mem_nil, or_false]
  split <;> (try split) <;> (try split) <;> (try split) <;> (try split) <;> omega
theorem powerM_in (x : Int) : inB (powerM x) 1 3 = ([2, 4, 8] : List Int).contains x := by
  unfold powerM inB
  rw [Bool.eq_iff_iff]
  simp only [Bool.and_eq_true, decide_eq_true_iff, List.contains_iff_mem, List.mem_cons, List.not_mem_nil, or_false]
  split <;> (try split) <;> (try split) <;> (try split) <;> (try split) <;> omega
theorem in_13 (x : Int) : inB x 1 3 = ([1, 2, 3] : List Int).contains x := by
  unfold inB
  rw [Bool.eq_iff_iff]
  simp only [Bool.and_eq_true, decide_eq_true_iff, List.contains_iff_mem, List.mem_cons, List.not_mem_nil, or_false]
  omega
theorem in_15 (x : Int) : inB x 1 5 = ([1, 2, 3, 4, 5] : List Int).contains x := by
  unfold inB
  rw [Bool.eq_iff_iff]
  simp only [Bool.and_eq_true, decide_eq_true_iff, List.contains_iff_mem, List.mem_cons, List.not_mem_nil, or_false]
  omega
/-! ### the program -/
/-- the cost of a tile -/
def costT (e : List S54) (i t : Int) : Int := if t = 0 then 0 else if t = 3 then opCost (rd_T54 e i).f0 else 1
/-- an answer of the program that fits the reference's -/
def Fits (o : Option (List Int × List Int)) (c : Int) (r : List Int × List Int × Int × Bool) : Prop := r.2.2.2 = o.isSome ∧ ∀ p q, o = some (p, q) → r.1 = p ∧ r.2.1 = q ∧ r.2.2.1 = c
theorem Ev.eta4 {g : Nat → Option (List Int × List Int × Int × Bool)} {r : List Int × List Int × Int × Bool} (h : Ev g r) : Ev (fun n => (g n).bind fun t => some (t.1, t.2.1, t.2.2.1, t.2.2.2)) r := Ev.map (f := fun t : List Int × List Int × Int × Bool => (t.1, t.2.1, t.2.2.1, t.2.2.2)) h rfl
theorem Fits.no {c : Int} {o : Option (List Int × List Int)} (p q : List Int) (d : Int) (h : o = none) : Fits o c (p, q, d, false) := by
  subst h; exact ⟨rfl, fun _ _ h => by cases h⟩
theorem Fits.yes {c : Int} {o : Option (List Int × List Int)} {p q : List Int} (h : o = some (p, q)) : Fits o c (p, q, c, true) := by
  subst h; exact ⟨rfl, fun _ _ h => by cases h; exact ⟨rfl, rfl, rfl⟩⟩
theorem constM_none {b : Bool} {m : S54} {S : List Int} {p c : Int} (h : b = false ∨ isCn m S = false) : constM b m S p c = none := by
  unfold constM
  rcases h with h | h
  · rw [h]; rfl
  · rw [h]; cases b <;> rfl
theorem constM_some {b : Bool} {m : S54} {S : List Int} {p c : Int} (h : b = true) (h2 : isCn m S = true) : constM b m S p c = some ([p], [c]) := by unfold constM; rw [if_pos h, if_pos h2]
theorem fitsC (b : Bool) (m : S54) (S : List Int) (p q : Int) : Fits (constM b m S p q) 1 ([p], [q], 1, (constM b m S p q).isSome) := by
  refine ⟨rfl, fun p' q' h => ?_⟩
  unfold constM at h
  split at h
  · split at h
    · cases h; exact ⟨rfl, rfl, rfl⟩
    · cases h
  · cases h
theorem endC (b : Bool) (m : S54) (S : List Int) (p q : Int) (ok : Bool) (hok : m.f0.toList = ([99, 111, 110, 115, 116] : List UInt8) → isCn m S = ok) :
    Ev (fun _ => if b = true then (if m.f0.toList = ([99, 111, 110, 115, 116] : List UInt8) then some ([p], [q], (1 : Int), ok) else some ([p], [q], 1, false)) else some ([p], [q], 1, false)) ([p], [q], 1, (constM b m S p q).isSome) := by
  by_cases h : b = true
  · refine Ev.pos h ?_
    by_cases c : m.f0.toList = ([99, 111, 110, 115, 116] : List UInt8)
    · refine Ev.pos c (Ev.ret ?_)
      have h2 := hok c
      unfold constM
      rw [if_pos h, h2]
      cases ok <;> rfl
    · refine Ev.neg c (Ev.ret ?_)
      rw [constM_none (.inr (by unfold isCn; simp [c]))]; rfl
  · refine Ev.neg h (Ev.ret ?_)
    rw [constM_none (.inl (by simpa using h))]; rfl
section
variable {e : List S54} {i : Int} (hg : good e = true) (h0 : 0 ≤ i) (h1 : i < e.length)
include hg h0 h1
theorem not_two {s : ByteArray} (h : arity s < 2) : isTwo s = false := by
  cases c : isTwo s with
  | false => rfl
  | true => have := arity_two c; omega
/-- the tail of a tile with a constant: the op's list, then the constant -/
theorem impl0 : ∃ r, Ev (fun k => impl_tileAt_at0.f k e i) r ∧ Fits (tileM e i 0) 0 r := by
  refine ⟨(([] : List Int), ([] : List Int), 0, ((rd_T54 e i).f0.toList == ([105, 110] : List UInt8))), ?_, ?_⟩
  · unfold impl_tileAt_at0.f
    exact Ev.pos h0 (Ev.pos h1 (Ev.bindB _ (operands_ev _) (Ev.now _)))
  · show Fits (if _ then _ else _) 0 _
    by_cases h : (rd_T54 e i).f0.toList = ([105, 110] : List UInt8)
    · rw [if_pos h, beq_iff_eq.mpr h]; exact Fits.yes rfl
    · rw [if_neg h, beq_eq_false_iff_ne.mpr h]; exact Fits.no _ _ _ rfl
theorem impl1 : ∃ r, Ev (fun k => impl_tileAt_at1.f k e i) r ∧ Fits (tileM e i 1) 1 r := by
  refine ⟨(([] : List Int), ([] : List Int), 1, ((rd_T54 e i).f0.toList == ([99, 111, 110, 115, 116] : List UInt8))), ?_, ?_⟩
  · unfold impl_tileAt_at1.f
    exact Ev.pos h0 (Ev.pos h1 (Ev.bindB _ (operands_ev _) (Ev.now _)))
  · show Fits (if _ then _ else _) 1 _
    by_cases h : (rd_T54 e i).f0.toList = ([99, 111, 110, 115, 116] : List UInt8)
    · rw [if_pos h, beq_iff_eq.mpr h]; exact Fits.yes rfl
    · rw [if_neg h, beq_eq_false_iff_ne.mpr h]; exact Fits.no _ _ _ rfl
theorem impl2 : ∃ r, Ev (fun k => impl_tileAt_at2.f k e i) r ∧ Fits (tileM e i 2) 1 r := by
  refine ⟨([(rd_T54 e i).f1], ([] : List Int), 1, (arity (rd_T54 e i).f0 == 1)), ?_, ?_⟩
  · unfold impl_tileAt_at2.f
    exact Ev.pos h0 (Ev.pos h1 (Ev.bindB _ (operands_ev _) (Ev.now _)))
  · show Fits (if _ then _ else _) 1 _
    by_cases h : isOne (rd_T54 e i).f0 = true
    · rw [if_pos h, arity_one h]; exact Fits.yes rfl
    · rw [if_neg h, show (arity (rd_T54 e i).f0 == 1) = false from beq_eq_false_iff_ne.mpr (fun z => h (arity_eq_one.1 z))]; exact Fits.no _ _ _ rfl
theorem impl3 : ∃ r, Ev (fun k => impl_tileAt_at3.f k e i) r ∧ Fits (tileM e i 3) (opCost (rd_T54 e i).f0) r := by
  unfold impl_tileAt_at3.f
  by_cases a : arity (rd_T54 e i).f0 < 2
  · refine ⟨_, Ev.pos h0 (Ev.pos h1 (Ev.bindB _ (operands_ev _) (Ev.pos a (Ev.now _)))), Fits.no _ _ _ ?_⟩
    show (if _ then _ else _) = none
    rw [if_neg (by rw [not_two hg h0 h1 a]; simp)]
  · obtain ⟨r, hr, hc⟩ := formOf_cost (s := (rd_T54 e i).f0) (by omega)
    refine ⟨_, Ev.pos h0 (Ev.pos h1 (Ev.bindB _ (operands_ev _) (Ev.neg a (Ev.here _ hr (Ev.now _))))), ?_⟩
    rw [hc]
    refine Fits.yes ?_
    show (if _ then _ else _) = some _
    have : arity (rd_T54 e i).f0 = 2 := by rcases arity_cases (rd_T54 e i).f0 with ⟨h, _⟩ | ⟨h, _⟩ | ⟨h, _⟩ | ⟨h, _⟩ <;> omega
    rw [if_pos (arity_eq_two.1 this)]
theorem cn_iff {p : Int} (hp0 : 0 ≤ p) (hp1 : p < e.length) (S : List Int) (b : Bool) (h : ∀ x, inB x 0 63 = true → (b = true ↔ S.contains (rd_T54 e p).f3 = true)) (c : (rd_T54 e p).f0.toList = ([99, 111, 110, 115, 116] : List UInt8)) : isCn (rd_T54 e p) S = b := by
  unfold isCn
  have hw := const_word (good_at hg hp0 hp1) c
  rw [Bool.eq_iff_iff]
  simp only [c, beq_self_eq_true, Bool.true_and]
  exact (h _ hw).symm
theorem cn_false {p : Int} {S : List Int} (c : ¬ (rd_T54 e p).f0.toList = ([99, 111, 110, 115, 116] : List UInt8)) : isCn (rd_T54 e p) S = false := by
  unfold isCn
  simp [c]
theorem impl4 : ∃ r, Ev (fun k => impl_tileAt_at4.f k e i) r ∧ Fits (tileM e i 4) 1 r := by
  unfold impl_tileAt_at4.f
  have hm : tileM e i 4 = constM (isIn ops4 (rd_T54 e i).f0) (rd_T54 e (rd_T54 e i).f2) wordsL (rd_T54 e i).f1 (rd_T54 e i).f2 := rfl
  rw [hm]
  by_cases a : arity (rd_T54 e i).f0 < 2
  · refine ⟨_, Ev.pos h0 (Ev.pos h1 (Ev.bindB _ (operands_ev _) (Ev.pos a (Ev.now _)))), Fits.no _ _ _ (constM_none (.inl ?_))⟩
    have hn := not_two hg h0 h1 a
    cases c : (isIn ops4 (rd_T54 e i).f0) with
    | false => rfl
    | true => rw [two_of_in c] at hn; exact hn
  · have h2 : isTwo (rd_T54 e i).f0 = true := arity_eq_two.1 (by rcases arity_cases (rd_T54 e i).f0 with ⟨h, _⟩ | ⟨h, _⟩ | ⟨h, _⟩ | ⟨h, _⟩ <;> omega)
    have hp := two_parts (good_at hg h0 h1) h2
    refine ⟨_, ?_, fitsC _ _ _ _ _⟩
    refine Ev.pos h0 (Ev.pos h1 (Ev.bindB _ (operands_ev _) (Ev.neg a (Ev.eta4 ?_))))
    unfold impl_constTile_at4.f
    simp only [Option.bind_some]
    refine Ev.pos hp.2.1 (Ev.pos (by omega) ?_)
    refine Ev.bindB _ (contains_ev ops4 (rd_T54 e i).f0 (by decide)) (endC _ (rd_T54 e (rd_T54 e i).f2) wordsL _ _ true (fun c => ?_))
    unfold isCn
    rw [wordsL_mem, const_word (good_at hg hp.2.1 (by omega)) c]
    simp [c]
theorem impl5 : ∃ r, Ev (fun k => impl_tileAt_at5.f k e i) r ∧ Fits (tileM e i 5) 1 r := by
  unfold impl_tileAt_at5.f
  have hm : tileM e i 5 = constM (isIn ops5 (rd_T54 e i).f0) (rd_T54 e (rd_T54 e i).f1) wordsL (rd_T54 e i).f2 (rd_T54 e i).f1 := rfl
  rw [hm]
  by_cases a : arity (rd_T54 e i).f0 < 2
  · refine ⟨_, Ev.pos h0 (Ev.pos h1 (Ev.bindB _ (operands_ev _) (Ev.pos a (Ev.now _)))), Fits.no _ _ _ (constM_none (.inl ?_))⟩
    have hn := not_two hg h0 h1 a
    cases c : (isIn ops5 (rd_T54 e i).f0) with
    | false => rfl
    | true => rw [two_of_in c] at hn; exact hn
  · have h2 : isTwo (rd_T54 e i).f0 = true := arity_eq_two.1 (by rcases arity_cases (rd_T54 e i).f0 with ⟨h, _⟩ | ⟨h, _⟩ | ⟨h, _⟩ | ⟨h, _⟩ <;> omega)
    have hp := two_parts (good_at hg h0 h1) h2
    refine ⟨_, ?_, fitsC _ _ _ _ _⟩
    refine Ev.pos h0 (Ev.pos h1 (Ev.bindB _ (operands_ev _) (Ev.neg a (Ev.eta4 ?_))))
    unfold impl_constTile_at5.f
    simp only [Option.bind_some]
    refine Ev.pos hp.1.1 (Ev.pos (by omega) ?_)
    refine Ev.bindB _ (contains_ev ops5 (rd_T54 e i).f0 (by decide)) (endC _ (rd_T54 e (rd_T54 e i).f1) wordsL _ _ true (fun c => ?_))
    unfold isCn
    rw [wordsL_mem, const_word (good_at hg hp.1.1 (by omega)) c]
    simp [c]
theorem impl6 : ∃ r, Ev (fun k => impl_tileAt_at6.f k e i) r ∧ Fits (tileM e i 6) 1 r := by
  unfold impl_tileAt_at6.f
  have hm : tileM e i 6 = constM (isIn ops6 (rd_T54 e i).f0) (rd_T54 e (rd_T54 e i).f2) [1, 2, 3, 4, 5] (rd_T54 e i).f1 (rd_T54 e i).f2 := rfl
  rw [hm]
  by_cases a : arity (rd_T54 e i).f0 < 2
  · refine ⟨_, Ev.pos h0 (Ev.pos h1 (Ev.bindB _ (operands_ev _) (Ev.pos a (Ev.now _)))), Fits.no _ _ _ (constM_none (.inl ?_))⟩
    have hn := not_two hg h0 h1 a
    cases c : (isIn ops6 (rd_T54 e i).f0) with
    | false => rfl
    | true => rw [two_of_in c] at hn; exact hn
  · have h2 : isTwo (rd_T54 e i).f0 = true := arity_eq_two.1 (by rcases arity_cases (rd_T54 e i).f0 with ⟨h, _⟩ | ⟨h, _⟩ | ⟨h, _⟩ | ⟨h, _⟩ <;> omega)
    have hp := two_parts (good_at hg h0 h1) h2
    refine ⟨_, ?_, fitsC _ _ _ _ _⟩
    refine Ev.pos h0 (Ev.pos h1 (Ev.bindB _ (operands_ev _) (Ev.neg a (Ev.eta4 ?_))))
    unfold impl_constTile_at6.f
    simp only [Option.bind_some]
    refine Ev.pos hp.2.1 (Ev.pos (by omega) ?_)
    rw [within_f]
    simp only [Option.bind_some]
    cases hb : inB (rd_T54 e (rd_T54 e i).f2).f3 1 5 with
    | true => exact Ev.pos rfl (Ev.bindB _ (contains_ev ops6 (rd_T54 e i).f0 (by decide)) (endC _ (rd_T54 e (rd_T54 e i).f2) [1, 2, 3, 4, 5] _ _ true (fun c => by unfold isCn; rw [← in_15, hb]; simp [c])))
    | false =>
      refine Ev.neg (by simp) (Ev.bindB _ (contains_ev ops6 (rd_T54 e i).f0 (by decide)) (Ev.eq ?_ rfl))
      exact endC _ (rd_T54 e (rd_T54 e i).f2) [1, 2, 3, 4, 5] _ _ false (fun c => by unfold isCn; rw [← in_15, hb]; simp [c])
theorem impl7 : ∃ r, Ev (fun k => impl_tileAt_at7.f k e i) r ∧ Fits (tileM e i 7) 1 r := by
  unfold impl_tileAt_at7.f
  have hm : tileM e i 7 = constM ((rd_T54 e i).f0.toList == ([109, 117, 108] : List UInt8)) (rd_T54 e (rd_T54 e i).f2) [2, 4, 8, 16, 32] (rd_T54 e i).f1 (rd_T54 e i).f2 := rfl
  rw [hm]
  by_cases a : arity (rd_T54 e i).f0 < 2
  · refine ⟨_, Ev.pos h0 (Ev.pos h1 (Ev.bindB _ (operands_ev _) (Ev.pos a (Ev.now _)))), Fits.no _ _ _ (constM_none (.inl ?_))⟩
    have hn := not_two hg h0 h1 a
    cases c : ((rd_T54 e i).f0.toList == ([109, 117, 108] : List UInt8)) with
    | false => rfl
    | true => rw [two_of_eq (beq_iff_eq.mp c)] at hn; exact hn
  · have h2 : isTwo (rd_T54 e i).f0 = true := arity_eq_two.1 (by rcases arity_cases (rd_T54 e i).f0 with ⟨h, _⟩ | ⟨h, _⟩ | ⟨h, _⟩ | ⟨h, _⟩ <;> omega)
    have hp := two_parts (good_at hg h0 h1) h2
    refine ⟨_, ?_, fitsC _ _ _ _ _⟩
    refine Ev.pos h0 (Ev.pos h1 (Ev.bindB _ (operands_ev _) (Ev.neg a (Ev.eta4 ?_))))
    unfold impl_constTile_at7.f
    simp only [Option.bind_some]
    refine Ev.pos hp.2.1 (Ev.pos (by omega) ?_)
    have hmul : isIn [(⟨#[109, 117, 108]⟩ : ByteArray)] (rd_T54 e i).f0 = ((rd_T54 e i).f0.toList == ([109, 117, 108] : List UInt8)) := by
      unfold isIn
      rw [List.any_cons, List.any_nil, Bool.or_false, Bool.eq_iff_iff, beq_iff_eq, beq_iff_eq, show (⟨#[109, 117, 108]⟩ : ByteArray).toList = [109, 117, 108] from by simp [ByteArray.toList_eq]]
      exact ⟨fun h => h.symm, fun h => h.symm⟩
    refine Ev.bindB _ (power_ev _) (Ev.bindB _ (contains_ev [(⟨#[109, 117, 108]⟩ : ByteArray)] (rd_T54 e i).f0 (by decide)) ?_)
    rw [hmul]
    exact endC _ (rd_T54 e (rd_T54 e i).f2) [2, 4, 8, 16, 32] _ _ (decide (powerM (rd_T54 e (rd_T54 e i).f2).f3 > 0)) (fun c => by unfold isCn; rw [powerM_pos]; simp [c])
theorem impl8 : ∃ r, Ev (fun k => impl_tileAt_at8.f k e i) r ∧ Fits (tileM e i 8) 1 r := by
  unfold impl_tileAt_at8.f
  have hm : tileM e i 8 = constM ((rd_T54 e i).f0.toList == ([109, 117, 108] : List UInt8)) (rd_T54 e (rd_T54 e i).f1) [2, 4, 8, 16, 32] (rd_T54 e i).f2 (rd_T54 e i).f1 := rfl
  rw [hm]
  by_cases a : arity (rd_T54 e i).f0 < 2
  · refine ⟨_, Ev.pos h0 (Ev.pos h1 (Ev.bindB _ (operands_ev _) (Ev.pos a (Ev.now _)))), Fits.no _ _ _ (constM_none (.inl ?_))⟩
    have hn := not_two hg h0 h1 a
    cases c : ((rd_T54 e i).f0.toList == ([109, 117, 108] : List UInt8)) with
    | false => rfl
    | true => rw [two_of_eq (beq_iff_eq.mp c)] at hn; exact hn
  · have h2 : isTwo (rd_T54 e i).f0 = true := arity_eq_two.1 (by rcases arity_cases (rd_T54 e i).f0 with ⟨h, _⟩ | ⟨h, _⟩ | ⟨h, _⟩ | ⟨h, _⟩ <;> omega)
    have hp := two_parts (good_at hg h0 h1) h2
    refine ⟨_, ?_, fitsC _ _ _ _ _⟩
    refine Ev.pos h0 (Ev.pos h1 (Ev.bindB _ (operands_ev _) (Ev.neg a (Ev.eta4 ?_))))
    unfold impl_constTile_at8.f
    simp only [Option.bind_some]
    refine Ev.pos hp.1.1 (Ev.pos (by omega) ?_)
    have hmul : isIn [(⟨#[109, 117, 108]⟩ : ByteArray)] (rd_T54 e i).f0 = ((rd_T54 e i).f0.toList == ([109, 117, 108] : List UInt8)) := by
      unfold isIn
      rw [List.any_cons, List.any_nil, Bool.or_false, Bool.eq_iff_iff, beq_iff_eq, beq_iff_eq, show (⟨#[109, 117, 108]⟩ : ByteArray).toList = [109, 117, 108] from by simp [ByteArray.toList_eq]]
      exact ⟨fun h => h.symm, fun h => h.symm⟩
    refine Ev.bindB _ (power_ev _) (Ev.bindB _ (contains_ev [(⟨#[109, 117, 108]⟩ : ByteArray)] (rd_T54 e i).f0 (by decide)) ?_)
    rw [hmul]
    exact endC _ (rd_T54 e (rd_T54 e i).f1) [2, 4, 8, 16, 32] _ _ (decide (powerM (rd_T54 e (rd_T54 e i).f1).f3 > 0)) (fun c => by unfold isCn; rw [powerM_pos]; simp [c])
theorem impl9 : ∃ r, Ev (fun k => impl_tileAt_at9.f k e i) r ∧ Fits (tileM e i 9) 1 r := by
  unfold impl_tileAt_at9.f
  have hm : tileM e i 9 = if (rd_T54 e i).f0.toList = ([97, 100, 100] : List UInt8) then deepM e (rd_T54 e i).f1 (rd_T54 e i).f2 [115, 104, 108] [1, 2, 3] else none := rfl
  rw [hm]
  have jt : ∀ (a b c d f : Int) (s : ByteArray), Ev (fun k => impl_sumTile_at9.j0 k e a b true s c d f) (([] : List Int), ([] : List Int), (0 : Int), false) := fun a b c d f s => Ev.step (fun k => by rw [impl_sumTile_at9.j0]) (Ev.pos rfl (Ev.now _))
  by_cases a : arity (rd_T54 e i).f0 < 2
  · refine ⟨_, Ev.pos h0 (Ev.pos h1 (Ev.bindB _ (operands_ev _) (Ev.pos a (Ev.now _)))), Fits.no _ _ _ ?_⟩
    have hn := not_two hg h0 h1 a
    rw [if_neg (fun c => by rw [two_of_eq c] at hn; exact absurd hn (by simp))]
  · have h2 : isTwo (rd_T54 e i).f0 = true := arity_eq_two.1 (by rcases arity_cases (rd_T54 e i).f0 with ⟨h, _⟩ | ⟨h, _⟩ | ⟨h, _⟩ | ⟨h, _⟩ <;> omega)
    have hp := two_parts (good_at hg h0 h1) h2
    suffices hs : ∃ r, Ev (fun k => impl_sumTile_at9.f k e (rd_T54 e i).f0 (rd_T54 e i).f1 (rd_T54 e i).f2 (rd_T54 e i).f3) r ∧ Fits (if (rd_T54 e i).f0.toList = ([97, 100, 100] : List UInt8) then deepM e (rd_T54 e i).f1 (rd_T54 e i).f2 [115, 104, 108] [1, 2, 3] else none) 1 r by
      obtain ⟨r, hr, hf⟩ := hs
      exact ⟨r, Ev.pos h0 (Ev.pos h1 (Ev.bindB _ (operands_ev _) (Ev.neg a (Ev.eta4 hr)))), hf⟩
    unfold impl_sumTile_at9.f
    by_cases ha : (rd_T54 e i).f0.toList = ([97, 100, 100] : List UInt8)
    · rw [if_pos ha]
      unfold deepM
      by_cases hs : (rd_T54 e (rd_T54 e i).f2).f0.toList = ([115, 104, 108] : List UInt8)
      · have hq := two_parts (good_at hg hp.2.1 (by omega)) (two_of_eq hs)
        rw [if_pos hs]
        by_cases hc : (rd_T54 e (rd_T54 e (rd_T54 e i).f2).f2).f0.toList = ([99, 111, 110, 115, 116] : List UInt8)
        · suffices hj : Ev (fun k => impl_sumTile_at9.j0 k e (rd_T54 e i).f1 (rd_T54 e i).f2 false (rd_T54 e (rd_T54 e i).f2).f0 (rd_T54 e (rd_T54 e i).f2).f1 (rd_T54 e (rd_T54 e i).f2).f2 (rd_T54 e (rd_T54 e i).f2).f3) ([(rd_T54 e i).f1, (rd_T54 e (rd_T54 e i).f2).f1], sort2 (rd_T54 e (rd_T54 e i).f2).f2 (rd_T54 e i).f2, 1, ([1, 2, 3] : List Int).contains (rd_T54 e (rd_T54 e (rd_T54 e i).f2).f2).f3) by
            refine ⟨([(rd_T54 e i).f1, (rd_T54 e (rd_T54 e i).f2).f1], sort2 (rd_T54 e (rd_T54 e i).f2).f2 (rd_T54 e i).f2, 1, ([1, 2, 3] : List Int).contains (rd_T54 e (rd_T54 e (rd_T54 e i).f2).f2).f3), Ev.pos hp.2.1 (Ev.pos (by omega) (Ev.pos ha (Ev.pos hs (Ev.pos hq.2.1 (Ev.pos (by omega) ?_))))), ?_⟩
            · rw [bne_eq_false_iff_eq.mpr hc]; exact hj
            · rw [show sort2 (rd_T54 e (rd_T54 e i).f2).f2 (rd_T54 e i).f2 = [(rd_T54 e (rd_T54 e i).f2).f2, (rd_T54 e i).f2] from by unfold sort2; rw [if_neg (by omega)]]
              cases hk : ([1, 2, 3] : List Int).contains (rd_T54 e (rd_T54 e (rd_T54 e i).f2).f2).f3 with
              | true => rw [if_pos (by unfold isCn; simp only [hc, beq_self_eq_true, Bool.true_and]; exact hk)]; exact Fits.yes rfl
              | false => rw [if_neg (by unfold isCn; simp only [hc, beq_self_eq_true, Bool.true_and]; rw [hk]; simp)]; exact Fits.no _ _ _ rfl
          refine Ev.step (fun k => by rw [impl_sumTile_at9.j0]) (Ev.neg (by simp) (Ev.pos hq.2.1 (Ev.pos (by omega) ?_)))
          refine Ev.bindB _ (sort_ev2 _ _) ?_
          rw [within_f, in_13]
          simp only [Option.bind_some]
          exact Ev.now _
        · refine ⟨(([] : List Int), ([] : List Int), (0 : Int), false), Ev.pos hp.2.1 (Ev.pos (by omega) (Ev.pos ha (Ev.pos hs (Ev.pos hq.2.1 (Ev.pos (by omega) ?_))))), ?_⟩
          · rw [bne_iff_ne.mpr hc]; exact jt _ _ _ _ _ _
          · rw [if_neg (by unfold isCn; simp [hc])]; exact Fits.no _ _ _ rfl
      · rw [if_neg hs]
        exact ⟨_, Ev.pos hp.2.1 (Ev.pos (by omega) (Ev.pos ha (Ev.neg hs (jt _ _ _ _ _ _)))), Fits.no _ _ _ rfl⟩
    · rw [if_neg ha]
      exact ⟨_, Ev.pos hp.2.1 (Ev.pos (by omega) (Ev.neg ha (jt _ _ _ _ _ _))), Fits.no _ _ _ rfl⟩
theorem impl10 : ∃ r, Ev (fun k => impl_tileAt_at10.f k e i) r ∧ Fits (tileM e i 10) 1 r := by
  unfold impl_tileAt_at10.f
  have hm : tileM e i 10 = if (rd_T54 e i).f0.toList = ([97, 100, 100] : List UInt8) then deepM e (rd_T54 e i).f2 (rd_T54 e i).f1 [115, 104, 108] [1, 2, 3] else none := rfl
  rw [hm]
  have jt : ∀ (a b c d f : Int) (s : ByteArray), Ev (fun k => impl_sumTile_at10.j0 k e a b true s c d f) (([] : List Int), ([] : List Int), (0 : Int), false) := fun a b c d f s => Ev.step (fun k => by rw [impl_sumTile_at10.j0]) (Ev.pos rfl (Ev.now _))
  by_cases a : arity (rd_T54 e i).f0 < 2
  · refine ⟨_, Ev.pos h0 (Ev.pos h1 (Ev.bindB _ (operands_ev _) (Ev.pos a (Ev.now _)))), Fits.no _ _ _ ?_⟩
    have hn := not_two hg h0 h1 a
    rw [if_neg (fun c => by rw [two_of_eq c] at hn; exact absurd hn (by simp))]
  · have h2 : isTwo (rd_T54 e i).f0 = true := arity_eq_two.1 (by rcases arity_cases (rd_T54 e i).f0 with ⟨h, _⟩ | ⟨h, _⟩ | ⟨h, _⟩ | ⟨h, _⟩ <;> omega)
    have hp := two_parts (good_at hg h0 h1) h2
    suffices hs : ∃ r, Ev (fun k => impl_sumTile_at10.f k e (rd_T54 e i).f0 (rd_T54 e i).f1 (rd_T54 e i).f2 (rd_T54 e i).f3) r ∧ Fits (if (rd_T54 e i).f0.toList = ([97, 100, 100] : List UInt8) then deepM e (rd_T54 e i).f2 (rd_T54 e i).f1 [115, 104, 108] [1, 2, 3] else none) 1 r by
      obtain ⟨r, hr, hf⟩ := hs
      exact ⟨r, Ev.pos h0 (Ev.pos h1 (Ev.bindB _ (operands_ev _) (Ev.neg a (Ev.eta4 hr)))), hf⟩
    unfold impl_sumTile_at10.f
    by_cases ha : (rd_T54 e i).f0.toList = ([97, 100, 100] : List UInt8)
    · rw [if_pos ha]
      unfold deepM
      by_cases hs : (rd_T54 e (rd_T54 e i).f1).f0.toList = ([115, 104, 108] : List UInt8)
      · have hq := two_parts (good_at hg hp.1.1 (by omega)) (two_of_eq hs)
        rw [if_pos hs]
        by_cases hc : (rd_T54 e (rd_T54 e (rd_T54 e i).f1).f2).f0.toList = ([99, 111, 110, 115, 116] : List UInt8)
        · suffices hj : Ev (fun k => impl_sumTile_at10.j0 k e (rd_T54 e i).f2 (rd_T54 e i).f1 false (rd_T54 e (rd_T54 e i).f1).f0 (rd_T54 e (rd_T54 e i).f1).f1 (rd_T54 e (rd_T54 e i).f1).f2 (rd_T54 e (rd_T54 e i).f1).f3) ([(rd_T54 e i).f2, (rd_T54 e (rd_T54 e i).f1).f1], sort2 (rd_T54 e (rd_T54 e i).f1).f2 (rd_T54 e i).f1, 1, ([1, 2, 3] : List Int).contains (rd_T54 e (rd_T54 e (rd_T54 e i).f1).f2).f3) by
            refine ⟨([(rd_T54 e i).f2, (rd_T54 e (rd_T54 e i).f1).f1], sort2 (rd_T54 e (rd_T54 e i).f1).f2 (rd_T54 e i).f1, 1, ([1, 2, 3] : List Int).contains (rd_T54 e (rd_T54 e (rd_T54 e i).f1).f2).f3), Ev.pos hp.1.1 (Ev.pos (by omega) (Ev.pos ha (Ev.pos hs (Ev.pos hq.2.1 (Ev.pos (by omega) ?_))))), ?_⟩
            · rw [bne_eq_false_iff_eq.mpr hc]; exact hj
            · rw [show sort2 (rd_T54 e (rd_T54 e i).f1).f2 (rd_T54 e i).f1 = [(rd_T54 e (rd_T54 e i).f1).f2, (rd_T54 e i).f1] from by unfold sort2; rw [if_neg (by omega)]]
              cases hk : ([1, 2, 3] : List Int).contains (rd_T54 e (rd_T54 e (rd_T54 e i).f1).f2).f3 with
              | true => rw [if_pos (by unfold isCn; simp only [hc, beq_self_eq_true, Bool.true_and]; exact hk)]; exact Fits.yes rfl
              | false => rw [if_neg (by unfold isCn; simp only [hc, beq_self_eq_true, Bool.true_and]; rw [hk]; simp)]; exact Fits.no _ _ _ rfl
          refine Ev.step (fun k => by rw [impl_sumTile_at10.j0]) (Ev.neg (by simp) (Ev.pos hq.2.1 (Ev.pos (by omega) ?_)))
          refine Ev.bindB _ (sort_ev2 _ _) ?_
          rw [within_f, in_13]
          simp only [Option.bind_some]
          exact Ev.now _
        · refine ⟨(([] : List Int), ([] : List Int), (0 : Int), false), Ev.pos hp.1.1 (Ev.pos (by omega) (Ev.pos ha (Ev.pos hs (Ev.pos hq.2.1 (Ev.pos (by omega) ?_))))), ?_⟩
          · rw [bne_iff_ne.mpr hc]; exact jt _ _ _ _ _ _
          · rw [if_neg (by unfold isCn; simp [hc])]; exact Fits.no _ _ _ rfl
      · rw [if_neg hs]
        exact ⟨_, Ev.pos hp.1.1 (Ev.pos (by omega) (Ev.pos ha (Ev.neg hs (jt _ _ _ _ _ _)))), Fits.no _ _ _ rfl⟩
    · rw [if_neg ha]
      exact ⟨_, Ev.pos hp.1.1 (Ev.pos (by omega) (Ev.neg ha (jt _ _ _ _ _ _))), Fits.no _ _ _ rfl⟩
theorem impl11 : ∃ r, Ev (fun k => impl_tileAt_at11.f k e i) r ∧ Fits (tileM e i 11) 1 r := by
  unfold impl_tileAt_at11.f
  have hm : tileM e i 11 = if (rd_T54 e i).f0.toList = ([97, 100, 100] : List UInt8) then deepM e (rd_T54 e i).f1 (rd_T54 e i).f2 [109, 117, 108] [2, 4, 8] else none := rfl
  rw [hm]
  have jt : ∀ (a b c d f : Int) (s : ByteArray), Ev (fun k => impl_sumTile_at11.j0 k e a b true s c d f) (([] : List Int), ([] : List Int), (0 : Int), false) := fun a b c d f s => Ev.step (fun k => by rw [impl_sumTile_at11.j0]) (Ev.pos rfl (Ev.now _))
  by_cases a : arity (rd_T54 e i).f0 < 2
  · refine ⟨_, Ev.pos h0 (Ev.pos h1 (Ev.bindB _ (operands_ev _) (Ev.pos a (Ev.now _)))), Fits.no _ _ _ ?_⟩
    have hn := not_two hg h0 h1 a
    rw [if_neg (fun c => by rw [two_of_eq c] at hn; exact absurd hn (by simp))]
  · have h2 : isTwo (rd_T54 e i).f0 = true := arity_eq_two.1 (by rcases arity_cases (rd_T54 e i).f0 with ⟨h, _⟩ | ⟨h, _⟩ | ⟨h, _⟩ | ⟨h, _⟩ <;> omega)
    have hp := two_parts (good_at hg h0 h1) h2
    suffices hs : ∃ r, Ev (fun k => impl_sumTile_at11.f k e (rd_T54 e i).f0 (rd_T54 e i).f1 (rd_T54 e i).f2 (rd_T54 e i).f3) r ∧ Fits (if (rd_T54 e i).f0.toList = ([97, 100, 100] : List UInt8) then deepM e (rd_T54 e i).f1 (rd_T54 e i).f2 [109, 117, 108] [2, 4, 8] else none) 1 r by
      obtain ⟨r, hr, hf⟩ := hs
      exact ⟨r, Ev.pos h0 (Ev.pos h1 (Ev.bindB _ (operands_ev _) (Ev.neg a (Ev.eta4 hr)))), hf⟩
    unfold impl_sumTile_at11.f
    by_cases ha : (rd_T54 e i).f0.toList = ([97, 100, 100] : List UInt8)
    · rw [if_pos ha]
      unfold deepM
      by_cases hs : (rd_T54 e (rd_T54 e i).f2).f0.toList = ([109, 117, 108] : List UInt8)
      · have hq := two_parts (good_at hg hp.2.1 (by omega)) (two_of_eq hs)
        rw [if_pos hs]
        by_cases hc : (rd_T54 e (rd_T54 e (rd_T54 e i).f2).f2).f0.toList = ([99, 111, 110, 115, 116] : List UInt8)
        · suffices hj : Ev (fun k => impl_sumTile_at11.j0 k e (rd_T54 e i).f1 (rd_T54 e i).f2 false (rd_T54 e (rd_T54 e i).f2).f0 (rd_T54 e (rd_T54 e i).f2).f1 (rd_T54 e (rd_T54 e i).f2).f2 (rd_T54 e (rd_T54 e i).f2).f3) ([(rd_T54 e i).f1, (rd_T54 e (rd_T54 e i).f2).f1], sort2 (rd_T54 e (rd_T54 e i).f2).f2 (rd_T54 e i).f2, 1, ([2, 4, 8] : List Int).contains (rd_T54 e (rd_T54 e (rd_T54 e i).f2).f2).f3) by
            refine ⟨([(rd_T54 e i).f1, (rd_T54 e (rd_T54 e i).f2).f1], sort2 (rd_T54 e (rd_T54 e i).f2).f2 (rd_T54 e i).f2, 1, ([2, 4, 8] : List Int).contains (rd_T54 e (rd_T54 e (rd_T54 e i).f2).f2).f3), Ev.pos hp.2.1 (Ev.pos (by omega) (Ev.pos ha (Ev.pos hs (Ev.pos hq.2.1 (Ev.pos (by omega) ?_))))), ?_⟩
            · rw [bne_eq_false_iff_eq.mpr hc]; exact hj
            · rw [show sort2 (rd_T54 e (rd_T54 e i).f2).f2 (rd_T54 e i).f2 = [(rd_T54 e (rd_T54 e i).f2).f2, (rd_T54 e i).f2] from by unfold sort2; rw [if_neg (by omega)]]
              cases hk : ([2, 4, 8] : List Int).contains (rd_T54 e (rd_T54 e (rd_T54 e i).f2).f2).f3 with
              | true => rw [if_pos (by unfold isCn; simp only [hc, beq_self_eq_true, Bool.true_and]; exact hk)]; exact Fits.yes rfl
              | false => rw [if_neg (by unfold isCn; simp only [hc, beq_self_eq_true, Bool.true_and]; rw [hk]; simp)]; exact Fits.no _ _ _ rfl
          refine Ev.step (fun k => by rw [impl_sumTile_at11.j0]) (Ev.neg (by simp) (Ev.pos hq.2.1 (Ev.pos (by omega) ?_)))
          refine Ev.bindB _ (power_ev _) (Ev.bindB _ (sort_ev2 _ _) ?_)
          rw [within_f, powerM_in]
          simp only [Option.bind_some]
          exact Ev.now _
        · refine ⟨(([] : List Int), ([] : List Int), (0 : Int), false), Ev.pos hp.2.1 (Ev.pos (by omega) (Ev.pos ha (Ev.pos hs (Ev.pos hq.2.1 (Ev.pos (by omega) ?_))))), ?_⟩
          · rw [bne_iff_ne.mpr hc]; exact jt _ _ _ _ _ _
          · rw [if_neg (by unfold isCn; simp [hc])]; exact Fits.no _ _ _ rfl
      · rw [if_neg hs]
        exact ⟨_, Ev.pos hp.2.1 (Ev.pos (by omega) (Ev.pos ha (Ev.neg hs (jt _ _ _ _ _ _)))), Fits.no _ _ _ rfl⟩
    · rw [if_neg ha]
      exact ⟨_, Ev.pos hp.2.1 (Ev.pos (by omega) (Ev.neg ha (jt _ _ _ _ _ _))), Fits.no _ _ _ rfl⟩
theorem impl12 : ∃ r, Ev (fun k => impl_tileAt_at12.f k e i) r ∧ Fits (tileM e i 12) 1 r := by
  unfold impl_tileAt_at12.f
  have hm : tileM e i 12 = if (rd_T54 e i).f0.toList = ([97, 100, 100] : List UInt8) then deepM e (rd_T54 e i).f2 (rd_T54 e i).f1 [109, 117, 108] [2, 4, 8] else none := rfl
  rw [hm]
  have jt : ∀ (a b c d f : Int) (s : ByteArray), Ev (fun k => impl_sumTile_at12.j0 k e a b true s c d f) (([] : List Int), ([] : List Int), (0 : Int), false) := fun a b c d f s => Ev.step (fun k => by rw [impl_sumTile_at12.j0]) (Ev.pos rfl (Ev.now _))
  by_cases a : arity (rd_T54 e i).f0 < 2
  · refine ⟨_, Ev.pos h0 (Ev.pos h1 (Ev.bindB _ (operands_ev _) (Ev.pos a (Ev.now _)))), Fits.no _ _ _ ?_⟩
    have hn := not_two hg h0 h1 a
    rw [if_neg (fun c => by rw [two_of_eq c] at hn; exact absurd hn (by simp))]
  · have h2 : isTwo (rd_T54 e i).f0 = true := arity_eq_two.1 (by rcases arity_cases (rd_T54 e i).f0 with ⟨h, _⟩ | ⟨h, _⟩ | ⟨h, _⟩ | ⟨h, _⟩ <;> omega)
    have hp := two_parts (good_at hg h0 h1) h2
    suffices hs : ∃ r, Ev (fun k => impl_sumTile_at12.f k e (rd_T54 e i).f0 (rd_T54 e i).f1 (rd_T54 e i).f2 (rd_T54 e i).f3) r ∧ Fits (if (rd_T54 e i).f0.toList = ([97, 100, 100] : List UInt8) then deepM e (rd_T54 e i).f2 (rd_T54 e i).f1 [109, 117, 108] [2, 4, 8] else none) 1 r by
      obtain ⟨r, hr, hf⟩ := hs
      exact ⟨r, Ev.pos h0 (Ev.pos h1 (Ev.bindB _ (operands_ev _) (Ev.neg a (Ev.eta4 hr)))), hf⟩
    unfold impl_sumTile_at12.f
    by_cases ha : (rd_T54 e i).f0.toList = ([97, 100, 100] : List UInt8)
    · rw [if_pos ha]
      unfold deepM
      by_cases hs : (rd_T54 e (rd_T54 e i).f1).f0.toList = ([109, 117, 108] : List UInt8)
      · have hq := two_parts (good_at hg hp.1.1 (by omega)) (two_of_eq hs)
        rw [if_pos hs]
        by_cases hc : (rd_T54 e (rd_T54 e (rd_T54 e i).f1).f2).f0.toList = ([99, 111, 110, 115, 116] : List UInt8)
        · suffices hj : Ev (fun k => impl_sumTile_at12.j0 k e (rd_T54 e i).f2 (rd_T54 e i).f1 false (rd_T54 e (rd_T54 e i).f1).f0 (rd_T54 e (rd_T54 e i).f1).f1 (rd_T54 e (rd_T54 e i).f1).f2 (rd_T54 e (rd_T54 e i).f1).f3) ([(rd_T54 e i).f2, (rd_T54 e (rd_T54 e i).f1).f1], sort2 (rd_T54 e (rd_T54 e i).f1).f2 (rd_T54 e i).f1, 1, ([2, 4, 8] : List Int).contains (rd_T54 e (rd_T54 e (rd_T54 e i).f1).f2).f3) by
            refine ⟨([(rd_T54 e i).f2, (rd_T54 e (rd_T54 e i).f1).f1], sort2 (rd_T54 e (rd_T54 e i).f1).f2 (rd_T54 e i).f1, 1, ([2, 4, 8] : List Int).contains (rd_T54 e (rd_T54 e (rd_T54 e i).f1).f2).f3), Ev.pos hp.1.1 (Ev.pos (by omega) (Ev.pos ha (Ev.pos hs (Ev.pos hq.2.1 (Ev.pos (by omega) ?_))))), ?_⟩
            · rw [bne_eq_false_iff_eq.mpr hc]; exact hj
            · rw [show sort2 (rd_T54 e (rd_T54 e i).f1).f2 (rd_T54 e i).f1 = [(rd_T54 e (rd_T54 e i).f1).f2, (rd_T54 e i).f1] from by unfold sort2; rw [if_neg (by omega)]]
              cases hk : ([2, 4, 8] : List Int).contains (rd_T54 e (rd_T54 e (rd_T54 e i).f1).f2).f3 with
              | true => rw [if_pos (by unfold isCn; simp only [hc, beq_self_eq_true, Bool.true_and]; exact hk)]; exact Fits.yes rfl
              | false => rw [if_neg (by unfold isCn; simp only [hc, beq_self_eq_true, Bool.true_and]; rw [hk]; simp)]; exact Fits.no _ _ _ rfl
          refine Ev.step (fun k => by rw [impl_sumTile_at12.j0]) (Ev.neg (by simp) (Ev.pos hq.2.1 (Ev.pos (by omega) ?_)))
          refine Ev.bindB _ (power_ev _) (Ev.bindB _ (sort_ev2 _ _) ?_)
          rw [within_f, powerM_in]
          simp only [Option.bind_some]
          exact Ev.now _
        · refine ⟨(([] : List Int), ([] : List Int), (0 : Int), false), Ev.pos hp.1.1 (Ev.pos (by omega) (Ev.pos ha (Ev.pos hs (Ev.pos hq.2.1 (Ev.pos (by omega) ?_))))), ?_⟩
          · rw [bne_iff_ne.mpr hc]; exact jt _ _ _ _ _ _
          · rw [if_neg (by unfold isCn; simp [hc])]; exact Fits.no _ _ _ rfl
      · rw [if_neg hs]
        exact ⟨_, Ev.pos hp.1.1 (Ev.pos (by omega) (Ev.pos ha (Ev.neg hs (jt _ _ _ _ _ _)))), Fits.no _ _ _ rfl⟩
    · rw [if_neg ha]
      exact ⟨_, Ev.pos hp.1.1 (Ev.pos (by omega) (Ev.neg ha (jt _ _ _ _ _ _))), Fits.no _ _ _ rfl⟩
theorem tileAt_ev (t : Int) (ht0 : 0 ≤ t) (ht : t ≤ 12) : ∃ r, Ev (fun k => impl_tileAt.f k e i t) r ∧ Fits (tileM e i t) (costT e i t) r := by
  unfold impl_tileAt.f
  obtain rfl | rfl | rfl | rfl | rfl | rfl | rfl | rfl | rfl | rfl | rfl | rfl | rfl : t = 0 ∨ t = 1 ∨ t = 2 ∨ t = 3 ∨ t = 4 ∨ t = 5 ∨ t = 6 ∨ t = 7 ∨ t = 8 ∨ t = 9 ∨ t = 10 ∨ t = 11 ∨ t = 12 := by omega
  · exact impl0 hg h0 h1
  · exact impl1 hg h0 h1
  · exact impl2 hg h0 h1
  · exact impl3 hg h0 h1
  · exact impl4 hg h0 h1
  · exact impl5 hg h0 h1
  · exact impl6 hg h0 h1
  · exact impl7 hg h0 h1
  · exact impl8 hg h0 h1
  · exact impl9 hg h0 h1
  · exact impl10 hg h0 h1
  · exact impl11 hg h0 h1
  · exact impl12 hg h0 h1
end
end Go.Proofs.Ytlmegefdnkjcbaa.Pa
