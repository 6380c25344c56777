/- Tiles: what the reference tells of a tile at a node, and that the program tells the same. -/
import Derived.Test.YtlmegefdnkjcbaaQTree
import Derived.Test.YtlmegefdnkjcbaaQCost
import Derived.Test.YtlmegefdnkjcbaaPa1
import Derived.Test.YtlmegefdnkjcbaaPa2
import Derived.Test.YtlmegefdnkjcbaaPa3
import Derived.Test.YtlmegefdnkjcbaaPa5
import Derived.Test.YtlmegefdnkjcbaaPa6
import Derived.Test.YtlmegefdnkjcbaaPa7
import Derived.Test.YtlmegefdnkjcbaaPa8
import Derived.Test.YtlmegefdnkjcbaaPa9
namespace Go.Proofs.Ytlmegefdnkjcbaa.Pa
open Go.RowKit Go.Proofs.YtlmegefdnkjcbaaW.PrintWords Go.Proofs.YtlmegefdnkjcbaaW.PrintLast Go.Proofs.YtlmegefdnkjcbaaW.PrintMore
set_option linter.unusedVariables false
set_option linter.unusedSectionVars false
set_option linter.unusedSimpArgs false
/-! ### constants -/
def wordsL : List Int := (List.range 64).map Int.ofNat
theorem wordsL_mem {x : Int} : wordsL.contains x = inB x 0 63 := by
  unfold wordsL inB
  rw [Bool.eq_iff_iff]
  simp only [List.contains_iff_mem, List.mem_map, List.mem_range, Bool.and_eq_true, decide_eq_true_iff]
  constructor
  · rintro ⟨a, ha, rfl⟩
    exact ⟨Int.natCast_nonneg a, by simp; omega⟩
  · rintro ⟨h0, h1⟩
    exact ⟨x.toNat, by omega, by simp; omega⟩
theorem wordsL_take (i : Nat) (h : i < 64) : wordsL.take (i + 1) = wordsL.take i ++ [(i : Int)] := by
  rw [List.take_succ_eq_append_getElem (by simp [wordsL]; exact h)]
  simp [wordsL]
theorem cvWords_ev : Ev (fun k => spec_cvWords.f k) wordsL := by
  unfold spec_cvWords.f
  have key := Ev.loop 64 (fun k i => spec_cvWords.l0 k (wordsL.take i) (i : Int)) (fun _ => wordsL) ?_ ?_ 0 (by omega)
  · simpa using key
  · exact Ev.step (fun k => by rw [spec_cvWords.l0]) (Ev.neg (by omega) (Ev.ret (List.take_of_length_le (by simp [wordsL]))))
  · intro i hi ih
    refine Ev.step (fun k => by rw [spec_cvWords.l0]) (Ev.pos (by omega) (Ev.pos (by rw [List.length_take]; omega) ?_))
    rw [next_ok i 64 hi (by omega), ← wordsL_take i hi]
    exact ih
/-- is this node a constant out of a list -/
def isCn (m : S54) (S : List Int) : Bool := (m.f0.toList == ([99, 111, 110, 115, 116] : List UInt8)) && S.contains m.f3
theorem cvConst_ev (m : S54) (S : List Int) (hS : S.length ≤ 9223372036854775000) : Ev (fun k => spec_cvConst.f k m.f0 m.f1 m.f2 m.f3 S) (isCn m S) := by
  unfold spec_cvConst.f isCn
  by_cases h : m.f0.toList = ([99, 111, 110, 115, 116] : List UInt8)
  · exact Ev.pos h (Ev.map (f := id) (l1Has_ev S m.f3 hS) (by simp [h]))
  · exact Ev.neg h (Ev.ret (by simp [h]))
/-! ### the nodes of an expression -/
theorem rdT_pos {e : List S54} {p : Int} (h0 : 0 ≤ p) (h1 : p < e.length) : ∃ j : Nat, p = (j : Int) ∧ ∃ h : j < e.length, rd_T54 e p = e[j] := by
  refine ⟨p.toNat, by omega, by omega, ?_⟩
  have := rdT_at e p.toNat (by omega)
  rwa [show ((p.toNat : Nat) : Int) = p from by omega] at this
theorem good_at {e : List S54} (h : good e = true) {p : Int} (h0 : 0 ≤ p) (h1 : p < e.length) : nodeOk (rd_T54 e p) p = true := by
  obtain ⟨j, rfl, hj, hr⟩ := rdT_pos h0 h1
  rw [hr]
  simpa using nodesOk_at e 0 (good_nodes h) j hj
theorem two_parts {n : S54} {i : Int} (h : nodeOk n i = true) (h2 : isTwo n.f0 = true) : (0 ≤ n.f1 ∧ n.f1 < i) ∧ (0 ≤ n.f2 ∧ n.f2 < i) := by
  have := nodeOk_parts h
  unfold partsOf at this
  rw [arity_two h2] at this
  simp only [if_true, show ¬ ((2 : Int) = 1) from by decide, if_false] at this
  exact ⟨this _ (by simp), this _ (by simp)⟩
theorem one_part {n : S54} {i : Int} (h : nodeOk n i = true) (h2 : isOne n.f0 = true) : 0 ≤ n.f1 ∧ n.f1 < i := by
  have := nodeOk_parts h
  unfold partsOf at this
  rw [arity_one h2] at this
  exact this _ (by simp)
theorem const_word {n : S54} {i : Int} (h : nodeOk n i = true) (h2 : n.f0.toList = ([99, 111, 110, 115, 116] : List UInt8)) : inB n.f3 0 63 = true := by
  unfold nodeOk at h
  rw [if_neg (by rw [h2]; decide), if_pos h2] at h
  simp at h
  exact h.2
def ops4 : List ByteArray := [(⟨#[97, 100, 100]⟩ : ByteArray), (⟨#[115, 117, 98]⟩ : ByteArray), (⟨#[97, 110, 100]⟩ : ByteArray), (⟨#[120, 111, 114]⟩ : ByteArray)]
def ops5 : List ByteArray := [(⟨#[97, 100, 100]⟩ : ByteArray), (⟨#[97, 110, 100]⟩ : ByteArray), (⟨#[120, 111, 114]⟩ : ByteArray)]
def ops6 : List ByteArray := [(⟨#[115, 104, 108]⟩ : ByteArray), (⟨#[115, 104, 114]⟩ : ByteArray)]
theorem opsK_two : (∀ x ∈ ops4, isTwo x = true) ∧ (∀ x ∈ ops5, isTwo x = true) ∧ (∀ x ∈ ops6, isTwo x = true) := by
  refine ⟨?_, ?_, ?_⟩
  · intro x hx; simp only [ops4, List.mem_cons, List.not_mem_nil, or_false] at hx; rcases hx with rfl | rfl | rfl | rfl <;> simp [isTwo, isIn, opsL]
  · intro x hx; simp only [ops5, List.mem_cons, List.not_mem_nil, or_false] at hx; rcases hx with rfl | rfl | rfl <;> simp [isTwo, isIn, opsL]
  · intro x hx; simp only [ops6, List.mem_cons, List.not_mem_nil, or_false] at hx; rcases hx with rfl | rfl <;> simp [isTwo, isIn, opsL]
theorem two_of_in {L : List ByteArray} {s : ByteArray} (h : isIn L s = true) (hL : ∀ x ∈ L, isTwo x = true := by first | exact opsK_two.1 | exact opsK_two.2.1 | exact opsK_two.2.2) : isTwo s = true := by
  unfold isIn at h
  rw [List.any_eq_true] at h
  obtain ⟨x, hx, hs⟩ := h
  have h2 := hL x hx
  rw [beq_iff_eq] at hs
  exact isTwo_of_mem (by rw [← hs]; exact isTwo_mem h2)
theorem two_of_eq {s : ByteArray} {l : List UInt8} (h : s.toList = l) (hl : l ∈ ([[97, 100, 100], [115, 117, 98], [109, 117, 108], [97, 110, 100], [111, 114], [120, 111, 114], [115, 104, 108], [115, 104, 114], [108, 101, 115, 115], [101, 113]] : List (List UInt8)) := by decide) : isTwo s = true := isTwo_of_mem (by rw [h]; exact hl)
/-! ### the tiles -/
def deepM (e : List S54) (plain deep : Int) (op : List UInt8) (S : List Int) : Option (List Int × List Int) :=
  if (rd_T54 e deep).f0.toList = op then (if isCn (rd_T54 e (rd_T54 e deep).f2) S = true then some ([plain, (rd_T54 e deep).f1], [(rd_T54 e deep).f2, deep]) else none) else none
def constM (b : Bool) (m : S54) (S : List Int) (p c : Int) : Option (List Int × List Int) := if b = true then (if isCn m S = true then some ([p], [c]) else none) else none
/-- the parts and the inner nodes of a tile at a node, if it is told for it -/
def tileM (e : List S54) (i t : Int) : Option (List Int × List Int) :=
  let n := rd_T54 e i
  if t = 0 then (if n.f0.toList = ([105, 110] : List UInt8) then some ([], []) else none)
  else if t = 1 then (if n.f0.toList = ([99, 111, 110, 115, 116] : List UInt8) then some ([], []) else none)
  else if t = 2 then (if isOne n.f0 = true then some ([n.f1], []) else none)
  else if t = 3 then (if isTwo n.f0 = true then some ([n.f1, n.f2], []) else none)
  else if t = 4 then constM (isIn ops4 n.f0) (rd_T54 e n.f2) wordsL n.f1 n.f2
  else if t = 5 then constM (isIn ops5 n.f0) (rd_T54 e n.f1) wordsL n.f2 n.f1
  else if t = 6 then constM (isIn ops6 n.f0) (rd_T54 e n.f2) [1, 2, 3, 4, 5] n.f1 n.f2
  else if t = 7 then constM (n.f0.toList == ([109, 117, 108] : List UInt8)) (rd_T54 e n.f2) [2, 4, 8, 16, 32] n.f1 n.f2
  else if t = 8 then constM (n.f0.toList == ([109, 117, 108] : List UInt8)) (rd_T54 e n.f1) [2, 4, 8, 16, 32] n.f2 n.f1
  else if t = 9 then (if n.f0.toList = ([97, 100, 100] : List UInt8) then deepM e n.f1 n.f2 [115, 104, 108] [1, 2, 3] else none)
  else if t = 10 then (if n.f0.toList = ([97, 100, 100] : List UInt8) then deepM e n.f2 n.f1 [115, 104, 108] [1, 2, 3] else none)
  else if t = 11 then (if n.f0.toList = ([97, 100, 100] : List UInt8) then deepM e n.f1 n.f2 [109, 117, 108] [2, 4, 8] else none)
  else if t = 12 then (if n.f0.toList = ([97, 100, 100] : List UInt8) then deepM e n.f2 n.f1 [109, 117, 108] [2, 4, 8] else none)
  else none
/-- as the reference tells it -/
def told (o : Option (List Int × List Int)) : List Int × List Int × Bool := match o with | some (p, q) => (p, q, true) | none => ([], [], false)
/-! ### the reference -/
theorem put2_ev {a d : Int} (h : d < a) : Ev (fun k => spec_l1Put.f k [a] d) [d, a] := by
  unfold spec_l1Put.f
  refine Ev.step (fun k => by rw [spec_l1Put.l0]) (Ev.pos (by simp) (Ev.pos (by omega) (Ev.neg (by simp [rd]; omega) (Ev.neg (by simp [rd]; omega) ?_))))
  simp only [Option.bind_some]
  exact Ev.pos (by simp) (Ev.pos (by simp) (Ev.pos (by simp) (Ev.pos (by simp) (Ev.ret (by simp)))))
section
variable {e : List S54} {i : Int} (hg : good e = true) (h0 : 0 ≤ i) (h1 : i < e.length)
include hg h0 h1
theorem deep_ev (plain deep : Int) (op : ByteArray) (S : List Int) (hd : 0 ≤ deep ∧ deep < i) (hop : isTwo op = true) (hS : S.length ≤ 9223372036854775000) {opl : List UInt8} (hopl : op.toList = opl) :
    Ev (fun k => spec_cvDeep.f k e plain deep op S) (told (deepM e plain deep opl S)) := by
  subst hopl
  unfold spec_cvDeep.f deepM
  refine Ev.pos hd.1 (Ev.pos (by omega) ?_)
  by_cases h : (rd_T54 e deep).f0.toList = op.toList
  · have hp := two_parts (good_at hg hd.1 (by omega)) (isTwo_of_mem (h ▸ isTwo_mem hop))
    refine Ev.pos h (Ev.pos hp.2.1 (Ev.pos (by omega) (Ev.bindB _ (cvConst_ev _ S hS) ?_)))
    rw [if_pos h]
    by_cases c : isCn (rd_T54 e (rd_T54 e deep).f2) S = true
    · exact Ev.pos c (Ev.bindB _ (put2_ev hp.2.2) (Ev.ret (by rw [if_pos c]; rfl)))
    · exact Ev.neg c (Ev.ret (by rw [if_neg c]; rfl))
  · exact Ev.neg h (Ev.ret (by rw [if_neg h]; rfl))
theorem spec0 : spec_cvTile_at0.f e i = some (told (tileM e i 0)) := by
  unfold spec_cvTile_at0.f
  rw [if_pos h0, if_pos h1]
  show _ = some (told (if _ then _ else _))
  by_cases h : (rd_T54 e i).f0.toList = ([105, 110] : List UInt8)
  · rw [if_pos h]; simp [told, h]
  · rw [if_neg h]; simp [told, h]
theorem spec1 : spec_cvTile_at1.f e i = some (told (tileM e i 1)) := by
  unfold spec_cvTile_at1.f
  rw [if_pos h0, if_pos h1]
  show _ = some (told (if _ then _ else _))
  by_cases h : (rd_T54 e i).f0.toList = ([99, 111, 110, 115, 116] : List UInt8)
  · rw [if_pos h]; simp [told, h]
  · rw [if_neg h]; simp [told, h]
theorem spec2 : spec_cvTile_at2.f e i = some (told (tileM e i 2)) := by
  unfold spec_cvTile_at2.f
  rw [if_pos h0, if_pos h1, exOne_f]
  show _ = some (told (if _ then _ else _))
  simp only [Option.bind_some]
  by_cases h : isOne (rd_T54 e i).f0 = true
  · rw [if_pos h, if_pos h]; rfl
  · rw [if_neg h, if_neg h]; rfl
theorem spec3 : Ev (fun k => spec_cvTile_at3.f k e i) (told (tileM e i 3)) := by
  unfold spec_cvTile_at3.f
  refine Ev.pos h0 (Ev.pos h1 (Ev.bindB _ (exTwo_ev _) ?_))
  show Ev _ (told (if _ then _ else _))
  by_cases h : isTwo (rd_T54 e i).f0 = true
  · exact Ev.pos h (Ev.ret (by rw [if_pos h]; rfl))
  · exact Ev.neg h (Ev.ret (by rw [if_neg h]; rfl))
theorem spec4 : Ev (fun k => spec_cvTile_at4.f k e i) (told (tileM e i 4)) := by
  unfold spec_cvTile_at4.f
  refine Ev.pos h0 (Ev.pos h1 (Ev.bindB _ (l1HasS_ev _ _ (by decide)) ?_))
  show Ev _ (told (constM _ _ _ _ _))
  have jf : ∀ (a : ByteArray) (b c d : Int), Ev (fun k => spec_cvTile_at4.j0 k false a b c d) (([] : List Int), ([] : List Int), false) := fun a b c d => Ev.step (fun k => by rw [spec_cvTile_at4.j0]) (Ev.neg (by simp) (Ev.now _))
  by_cases h : isIn ops4 (rd_T54 e i).f0 = true
  · have hp := two_parts (good_at hg h0 h1) (two_of_in h)
    refine Ev.pos h (Ev.pos hp.2.1 (Ev.pos (by omega) (Ev.bindB _ cvWords_ev (Ev.bindB _ (cvConst_ev _ wordsL (by decide)) ?_))))
    unfold constM
    rw [if_pos h]
    cases c : isCn (rd_T54 e (rd_T54 e i).f2) wordsL with
    | true =>
      refine Ev.step (fun k => by rw [spec_cvTile_at4.j0]) ?_
      exact Ev.pos rfl (Ev.now _)
    | false => exact jf _ _ _ _
  · refine Ev.neg h (Ev.eq (jf _ _ _ _) ?_)
    unfold constM; rw [if_neg h]; rfl
theorem spec5 : Ev (fun k => spec_cvTile_at5.f k e i) (told (tileM e i 5)) := by
  unfold spec_cvTile_at5.f
  refine Ev.pos h0 (Ev.pos h1 (Ev.bindB _ (l1HasS_ev _ _ (by decide)) ?_))
  show Ev _ (told (constM _ _ _ _ _))
  have jf : ∀ (a : ByteArray) (b c d : Int), Ev (fun k => spec_cvTile_at5.j0 k false a b c d) (([] : List Int), ([] : List Int), false) := fun a b c d => Ev.step (fun k => by rw [spec_cvTile_at5.j0]) (Ev.neg (by simp) (Ev.now _))
  by_cases h : isIn ops5 (rd_T54 e i).f0 = true
  · have hp := two_parts (good_at hg h0 h1) (two_of_in h)
    refine Ev.pos h (Ev.pos hp.1.1 (Ev.pos (by omega) (Ev.bindB _ cvWords_ev (Ev.bindB _ (cvConst_ev _ wordsL (by decide)) ?_))))
    unfold constM
    rw [if_pos h]
    cases c : isCn (rd_T54 e (rd_T54 e i).f1) wordsL with
    | true =>
      refine Ev.step (fun k => by rw [spec_cvTile_at5.j0]) ?_
      exact Ev.pos rfl (Ev.now _)
    | false => exact jf _ _ _ _
  · refine Ev.neg h (Ev.eq (jf _ _ _ _) ?_)
    unfold constM; rw [if_neg h]; rfl
theorem spec6 : Ev (fun k => spec_cvTile_at6.f k e i) (told (tileM e i 6)) := by
  unfold spec_cvTile_at6.f
  refine Ev.pos h0 (Ev.pos h1 (Ev.bindB _ (l1HasS_ev _ _ (by decide)) ?_))
  show Ev _ (told (constM _ _ _ _ _))
  have jf : ∀ (a : ByteArray) (b c d : Int), Ev (fun k => spec_cvTile_at6.j0 k false a b c d) (([] : List Int), ([] : List Int), false) := fun a b c d => Ev.step (fun k => by rw [spec_cvTile_at6.j0]) (Ev.neg (by simp) (Ev.now _))
  by_cases h : isIn ops6 (rd_T54 e i).f0 = true
  · have hp := two_parts (good_at hg h0 h1) (two_of_in h)
    refine Ev.pos h (Ev.pos hp.2.1 (Ev.pos (by omega) (Ev.bindB _ (cvConst_ev _ _ (by decide)) ?_)))
    unfold constM
    rw [if_pos h]
    cases c : isCn (rd_T54 e (rd_T54 e i).f2) [1, 2, 3, 4, 5] with
    | true =>
      refine Ev.step (fun k => by rw [spec_cvTile_at6.j0]) ?_
      exact Ev.pos rfl (Ev.now _)
    | false => exact jf _ _ _ _
  · refine Ev.neg h (Ev.eq (jf _ _ _ _) ?_)
    unfold constM; rw [if_neg h]; rfl
theorem spec7 : Ev (fun k => spec_cvTile_at7.f k e i) (told (tileM e i 7)) := by
  unfold spec_cvTile_at7.f
  refine Ev.pos h0 (Ev.pos h1 ?_)
  show Ev _ (told (constM _ _ _ _ _))
  have jf : ∀ (a : ByteArray) (b c d : Int), Ev (fun k => spec_cvTile_at7.j0 k false a b c d) (([] : List Int), ([] : List Int), false) := fun a b c d => Ev.step (fun k => by rw [spec_cvTile_at7.j0]) (Ev.neg (by simp) (Ev.now _))
  by_cases h : (rd_T54 e i).f0.toList = ([109, 117, 108] : List UInt8)
  · have hp := two_parts (good_at hg h0 h1) (two_of_eq h)
    refine Ev.pos h (Ev.pos hp.2.1 (Ev.pos (by omega) (Ev.bindB _ (cvConst_ev _ _ (by decide)) ?_)))
    unfold constM
    rw [if_pos (by simp [h])]
    cases c : isCn (rd_T54 e (rd_T54 e i).f2) [2, 4, 8, 16, 32] with
    | true =>
      refine Ev.step (fun k => by rw [spec_cvTile_at7.j0]) ?_
      exact Ev.pos rfl (Ev.now _)
    | false => exact jf _ _ _ _
  · refine Ev.neg h (Ev.eq (jf _ _ _ _) ?_)
    unfold constM; rw [if_neg (by simp [h])]; rfl
theorem spec8 : Ev (fun k => spec_cvTile_at8.f k e i) (told (tileM e i 8)) := by
  unfold spec_cvTile_at8.f
  refine Ev.pos h0 (Ev.pos h1 ?_)
  show Ev _ (told (constM _ _ _ _ _))
  have jf : ∀ (a : ByteArray) (b c d : Int), Ev (fun k => spec_cvTile_at8.j0 k false a b c d) (([] : List Int), ([] : List Int), false) := fun a b c d => Ev.step (fun k => by rw [spec_cvTile_at8.j0]) (Ev.neg (by simp) (Ev.now _))
  by_cases h : (rd_T54 e i).f0.toList = ([109, 117, 108] : List UInt8)
  · have hp := two_parts (good_at hg h0 h1) (two_of_eq h)
    refine Ev.pos h (Ev.pos hp.1.1 (Ev.pos (by omega) (Ev.bindB _ (cvConst_ev _ _ (by decide)) ?_)))
    unfold constM
    rw [if_pos (by simp [h])]
    cases c : isCn (rd_T54 e (rd_T54 e i).f1) [2, 4, 8, 16, 32] with
    | true =>
      refine Ev.step (fun k => by rw [spec_cvTile_at8.j0]) ?_
      exact Ev.pos rfl (Ev.now _)
    | false => exact jf _ _ _ _
  · refine Ev.neg h (Ev.eq (jf _ _ _ _) ?_)
    unfold constM; rw [if_neg (by simp [h])]; rfl
theorem spec9 : Ev (fun k => spec_cvTile_at9.f k e i) (told (tileM e i 9)) := by
  unfold spec_cvTile_at9.f
  refine Ev.pos h0 (Ev.pos h1 ?_)
  show Ev _ (told (if _ then _ else _))
  by_cases h : (rd_T54 e i).f0.toList = ([97, 100, 100] : List UInt8)
  · have hp := two_parts (good_at hg h0 h1) (two_of_eq h)
    exact Ev.pos h (Ev.map (deep_ev hg h0 h1 _ _ _ _ hp.2 (by simp [isTwo, isIn, opsL]) (by decide) (opl := [115, 104, 108]) (by simp [ByteArray.toList_eq])) (by rw [if_pos h]))
  · exact Ev.neg h (Ev.ret (by rw [if_neg h]; rfl))
theorem spec10 : Ev (fun k => spec_cvTile_at10.f k e i) (told (tileM e i 10)) := by
  unfold spec_cvTile_at10.f
  refine Ev.pos h0 (Ev.pos h1 ?_)
  show Ev _ (told (if _ then _ else _))
  by_cases h : (rd_T54 e i).f0.toList = ([97, 100, 100] : List UInt8)
  · have hp := two_parts (good_at hg h0 h1) (two_of_eq h)
    exact Ev.pos h (Ev.map (deep_ev hg h0 h1 _ _ _ _ hp.1 (by simp [isTwo, isIn, opsL]) (by decide) (opl := [115, 104, 108]) (by simp [ByteArray.toList_eq])) (by rw [if_pos h]))
  · exact Ev.neg h (Ev.ret (by rw [if_neg h]; rfl))
theorem spec11 : Ev (fun k => spec_cvTile_at11.f k e i) (told (tileM e i 11)) := by
  unfold spec_cvTile_at11.f
  refine Ev.pos h0 (Ev.pos h1 ?_)
  show Ev _ (told (if _ then _ else _))
  by_cases h : (rd_T54 e i).f0.toList = ([97, 100, 100] : List UInt8)
  · have hp := two_parts (good_at hg h0 h1) (two_of_eq h)
    exact Ev.pos h (Ev.map (deep_ev hg h0 h1 _ _ _ _ hp.2 (by simp [isTwo, isIn, opsL]) (by decide) (opl := [109, 117, 108]) (by simp [ByteArray.toList_eq])) (by rw [if_pos h]))
  · exact Ev.neg h (Ev.ret (by rw [if_neg h]; rfl))
theorem spec12 : Ev (fun k => spec_cvTile_at12.f k e i) (told (tileM e i 12)) := by
  unfold spec_cvTile_at12.f
  refine Ev.pos h0 (Ev.pos h1 ?_)
  show Ev _ (told (if _ then _ else _))
  by_cases h : (rd_T54 e i).f0.toList = ([97, 100, 100] : List UInt8)
  · have hp := two_parts (good_at hg h0 h1) (two_of_eq h)
    exact Ev.pos h (Ev.map (deep_ev hg h0 h1 _ _ _ _ hp.1 (by simp [isTwo, isIn, opsL]) (by decide) (opl := [109, 117, 108]) (by simp [ByteArray.toList_eq])) (by rw [if_pos h]))
  · exact Ev.neg h (Ev.ret (by rw [if_neg h]; rfl))
theorem cvTile_ev (t : Int) (ht0 : 0 ≤ t) (ht : t ≤ 12) : Ev (fun k => spec_cvTile.f k e i t) (told (tileM e i t)) := by
  unfold spec_cvTile.f
  obtain rfl | rfl | rfl | rfl | rfl | rfl | rfl | rfl | rfl | rfl | rfl | rfl | rfl : t = 0 ∨ t = 1 ∨ t = 2 ∨ t = 3 ∨ t = 4 ∨ t = 5 ∨ t = 6 ∨ t = 7 ∨ t = 8 ∨ t = 9 ∨ t = 10 ∨ t = 11 ∨ t = 12 := by omega
  · exact Ev.one (spec0 hg h0 h1)
  · exact Ev.one (spec1 hg h0 h1)
  · exact Ev.one (spec2 hg h0 h1)
  · exact spec3 hg h0 h1
  · exact spec4 hg h0 h1
  · exact spec5 hg h0 h1
  · exact spec6 hg h0 h1
  · exact spec7 hg h0 h1
  · exact spec8 hg h0 h1
  · exact spec9 hg h0 h1
  · exact spec10 hg h0 h1
  · exact spec11 hg h0 h1
  · exact spec12 hg h0 h1
end
end Go.Proofs.Ytlmegefdnkjcbaa.Pa
