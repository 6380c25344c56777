/- Plain texts: what the functions answer (part 1). -/
import Derived.Test.YtokdmaoconegkaaGreatKP0
section
/- The cover with the least cost, what it saves: both sides' answers. -/
namespace Go.Proofs.YtokdmaoconegkaaGreat.Am
open Go
set_option linter.unusedVariables false
set_option linter.unusedSimpArgs false
section
variable {e : List Nd}
noncomputable abbrev vB0 (e : List Nd) (P : List Int) (k : Int) (o op : List Int) := spec_cvBest.v0 e k P o op
noncomputable abbrev vB1 (e : List Nd) (P : List Int) (k i : Int) (l : List Int) (n j : Int) (o op : List Int) := spec_cvBest.v1 e k i l n j P o op
theorem best_in (hn : nodesOk e 0 = true) {i k : Nat} (hi : i < e.length) {op P : List Int} (hP : P.length = e.length) {m : Int} (hPi : P[i]? = some m) (hk : k ≤ 282429536481) (hop : op.length ≤ 282429536481) {l : List Int} (hl : l.length ≤ 13) {R} {o : List Int} {b : Int} (hb : (prts e i b).length ≤ 2)
    (hfin : vB0 e P ((k + 1 : Nat) : Int) (o.set i b) (op ++ prts e i b) = some R) : ∀ (d j : Nat) (c : Int) (o' : List Int), j + d = l.length → o'[i]? = some c → o'.set i b = o.set i b → (l.drop j).foldl (selS e i P m) c = b →
    vB1 e P (k : Int) (i : Int) l (l.length : Int) (j : Int) o' op = some R := by
  intro d
  induction d with
  | zero =>
    intro j c o' hj hc ho hf
    have hlt := lt_of_get hc
    rw [List.drop_eq_nil_of_le (by omega)] at hf
    have hf : c = b := hf
    subst hf
    rw [set_same hc] at ho
    subst ho
    refine spec_cvBest.v1s _ _ _ _ _ _ _ _ _ ?_
    rw [br_f (by simp; omega), br_t (by simp), br_t (by simpa using hlt), Int.toNat_natCast, gt_some hc, cvTile_v hn hi, bd_s, told_prts, br_t (by simp; omega), next_ok k (k + 1) (by omega) (by omega)]
    exact hfin
  | succ d ih =>
    intro j c o' hj hc ho hf
    have hlt := lt_of_get hc
    have hjl : j < l.length := by omega
    have hset : ∀ t : Int, (o'.set i t)[i]? = some t := fun t => by rw [List.getElem?_set, if_pos rfl, if_pos hlt]
    have hset2 : ∀ t : Int, (o'.set i t).set i b = o.set i b := fun t => by rw [List.set_set]; exact ho
    rw [drop_at _ _ hjl, List.foldl_cons] at hf
    refine spec_cvBest.v1s _ _ _ _ _ _ _ _ _ ?_
    rw [br_t (by simpa using hjl), br_t (by simp), Int.toNat_natCast, gt_at _ hjl, br_t (by simp), br_t (by simpa using hlt), Int.toNat_natCast, gt_some hc, next_ok j _ hjl (by omega)]
    by_cases c0 : c < 0
    · rw [br_t (by simpa using c0), cvWith_v hn hi hP, bd_s, br_t (by simp), br_t (by simpa using lt_of_get hPi), gt_some hPi]
      by_cases g : wth e i P l[j] = m
      · rw [br_t (by simpa using g), br_t (by simp), br_t (by simpa using hlt), gt_some hc]
        rw [show selS e i P m c l[j] = l[j] from if_pos ⟨c0, g⟩] at hf
        exact ih (j + 1) _ _ (by omega) (hset _) (hset2 _) hf
      · rw [br_f (by simpa using g)]
        rw [show selS e i P m c l[j] = c from if_neg (fun q => g q.2)] at hf
        exact ih (j + 1) _ _ (by omega) hc ho hf
    · rw [br_f (by simpa using c0)]
      rw [show selS e i P m c l[j] = c from if_neg (fun q => c0 q.1)] at hf
      exact ih (j + 1) _ _ (by omega) hc ho hf
theorem best_q (hn : nodesOk e 0 = true) (h1 : 1 ≤ e.length) : ∀ (M : Nat) (o op : List Int) (k : Nat), mq (op.drop k) < M → Bfs e (bests e) o op k → vB0 e (prices e) (k : Int) o op = some (chosen e (bests e))
  | 0, _, _, _, h, _ => by omega
  | M + 1, o, op, k, hM, h => by
    have hb := h.bound
    have hle := h.le
    refine spec_cvBest.v0s _ _ _ _ _ ?_
    by_cases hk : k < op.length
    · have hx := h.ok _ (List.getElem_mem hk)
      obtain ⟨i, hi⟩ := Int.eq_ofNat_of_zero_le hx.1
      rw [hi] at hx
      have hie : i < e.length := by omega
      obtain ⟨hs, hm⟩ := h.step hn h1 (bests_vld hn) hk hi
      obtain ⟨c, hc, hcc⟩ := h.cur hie
      obtain ⟨pa, pb⟩ := price_at hn hie
      obtain ⟨_, hmem, hfold⟩ := prA_ok hn hie (prices e)
      rw [br_t (by simpa using hk), br_t (by simp), br_t (by simpa using hk), Int.toNat_natCast, gt_at _ hk, hi, cvTiles_v hn hie, bd_s]
      refine best_in hn hie (k := k) prices_len pa (by omega) hb (tl_len _ _) (prts_ok hn hie (cvr (bests e) i)).1 (best_q hn h1 M _ _ _ (by omega) hs) (tl e i 13).length 0 c o (by omega) hc rfl ?_
      rw [List.drop_zero]
      rcases hcc with q | q
      · rw [q, hfold, pb]
      · rw [q, pb]; exact selS_keep _ _ (.inl (tl_mem hmem).1)
    · rw [br_f (by simpa using hk), h.done hn h1 hk]
theorem cvBest_v (h1 : nodesOk e 0 = true) (h2 : 1 ≤ e.length) (h3 : e.length ≤ 24) : spec_cvBest.v e = some (chosen e (bests e)) := by
  refine spec_cvBest.vs _ ?_
  rw [cvPrices_v h1 h3, bd_s, cvNone_v h3, bd_s, last_w h2 (by omega)]
  exact best_q h1 h2 _ _ _ 0 (Nat.lt_succ_self _) (Bfs.start h1 h2 h3)
def bestA (e : List Nd) : List Int × Bool := if treeOk e = true then (chosen e (bests e), true) else ([], false)
theorem bestA_len (hl : e.length ≤ 1048576) : (bestA e).1.length ≤ 1048576 := by
  unfold bestA
  split
  · rw [chosen_len]; exact hl
  · simp
theorem chosen_vld {best : List Int} (hv : ∀ j, j < e.length → vld e best j = true) : ∀ j, j < e.length → 0 ≤ cvr (chosen e best) j → vld e (chosen e best) j = true := by
  intro j hj h0
  have hg := chosen_get (e := e) (best := best) hj
  have hc : cvr (chosen e best) j = if (need e best).contains j = true then cvr best j else -1 := by
    unfold cvr at hg ⊢
    rw [List.getD_eq_getElem?_getD, hg]; rfl
  by_cases c : (need e best).contains j = true
  · rw [if_pos c] at hc
    have := hv j hj
    unfold vld at this ⊢
    rw [hc]; exact this
  · rw [if_neg c] at hc; omega
end
end Go.Proofs.YtokdmaoconegkaaGreat.Am
end
section
/- Expressions that are drawn off bytes: there is always an answer, of a bounded size. -/
namespace Go.Proofs.YtokdmaoconegkaaGreat.Am
open Go
set_option linter.unusedVariables false
set_option linter.unusedSimpArgs false

theorem leaf_d {n : Int} {c : Cur} (h : Cu n c) (hn : n ≤ 999999900) : Dr (spec_l1Cur_leaf.f c.1 c.2.1 c.2.2) (n + 6) fun _ => True := by
  rw [spec_l1Cur_leaf.eq]
  refine Dr.bd (one_d 3 h (by omega)) fun r c1 hr hc => Dr.br (fun _ => ?_) fun _ => ?_
  · exact Dr.bd (word_d hc (by omega)) fun r c2 hr hc2 => Dr.ret hc2 (by omega) trivial
  · exact Dr.bd (pick_d 2 hc (by omega)) fun r c2 hr hc2 => Dr.ret hc2 (by omega) trivial
theorem put_d (x : Nd) (s : Bool) (o : List Nd) (ho : o.length ≤ 100000) : ∃ (i : Int) (o' : List Nd), spec_exBuilt_put.v x s o = some (i, (((), s), o')) ∧ o'.length ≤ o.length + 1 := by
  have room : ∀ y : Nd, decide (o.length + [y].length ≤ 35184372088832 / (40 + 1)) = true := fun y => decide_eq_true (by simp; omega)
  have key : ∀ (d i : Nat), i + d = o.length → ∃ (j : Int) (o' : List Nd), spec_exBuilt_put.v0 (o.length : Int) (i : Int) s o x.1 x.2.1 x.2.2.1 x.2.2.2 = some (j, (((), s), o')) ∧ o'.length ≤ o.length + 1 := by
    intro d
    induction d with
    | zero =>
      intro i hi
      exact ⟨IntKind.wrap .i64 ((((o ++ [x]).length : Nat) : Int) - 1), o ++ [x], spec_exBuilt_put.v0s _ _ _ _ _ _ _ _ (by rw [br_f (by simp; omega), br_t (room _)]), by simp⟩
    | succ d ih =>
      intro i hi
      have hlt : i < o.length := by omega
      obtain ⟨j, o', hv, hl⟩ := ih (i + 1) (by omega)
      cases hb : ((o[i].1 == x.1) && ((o[i].2.1 == x.2.1) && ((o[i].2.2.1 == x.2.2.1) && ((o[i].2.2.2 == x.2.2.2) && true)))) with
      | true => exact ⟨i, o, spec_exBuilt_put.v0s _ _ _ _ _ _ _ _ (by rw [br_t (by simpa using hlt), br_t (by simp), br_t (by simpa using hlt), Int.toNat_natCast, gt_at _ hlt, hb, br_t rfl]), by omega⟩
      | false => exact ⟨j, o', spec_exBuilt_put.v0s _ _ _ _ _ _ _ _ (by rw [br_t (by simpa using hlt), br_t (by simp), br_t (by simpa using hlt), Int.toNat_natCast, gt_at _ hlt, hb, br_f rfl, next_ok i _ hlt (by omega), hv]), hl⟩
  cases s with
  | true =>
    obtain ⟨j, o', hv, hl⟩ := key o.length 0 (by omega)
    exact ⟨j, o', spec_exBuilt_put.vs _ _ _ (by rw [br_t rfl]; exact hv), hl⟩
  | false => exact ⟨_, _, spec_exBuilt_put.vs _ _ _ (by rw [br_f rfl, br_t (room _)]), by simp⟩
/-- trees of a depth at most: so many bytes, so many nodes -/
def TreeD (F : Int → List Int → Int → Int → Bool → List Nd → Option (Int × (Cur × ((Unit × Bool) × List Nd)))) (d K : Int) (G : Nat) : Prop :=
  ∀ (n : Int) (c : Cur) (s : Bool) (o : List Nd), Cu n c → n + 4 * K + 100 ≤ 900000000 → o.length ≤ 50000 → ∃ (i : Int) (c' : Cur) (o' : List Nd), F d c.1 c.2.1 c.2.2 s o = some (i, (c', (((), s), o'))) ∧ Cu (n + K) c' ∧ o'.length ≤ o.length + G
theorem tree_zero : TreeD spec_l1Cur_tree.v 0 6 1 := by
  intro n c s o hc hn ho
  obtain ⟨x, c1, e1, _, hc1⟩ := leaf_d hc (by omega)
  obtain ⟨i, o1, e2, hl⟩ := put_d x s o (by omega)
  exact ⟨i, c1, o1, spec_l1Cur_tree.vs _ _ _ _ _ _ (by rw [br_t (show ((0 : Int) == 0) = true from rfl), e1, bd_s, e2, bd_s]), hc1, hl⟩
theorem tree_succ {d K : Int} {G : Nat} (h : TreeD spec_l1Cur_tree.v d K G) (hd : 0 ≤ d) (hd1 : d ≤ 100) (hK : 0 ≤ K) (hK1 : K ≤ 10000) (hG : G ≤ 10000) : TreeD spec_l1Cur_tree.v (d + 1) (2 * K + 20) (2 * G + 1) := by
  intro n c s o hc hn ho
  have w : IntKind.wrap .i64 ((d + 1) - 1) = d := by rw [wrap_ok (by omega) (by omega)]; omega
  have nz : ((d + 1 : Int) == 0) = false := by simp; omega
  have leaf : ∀ {m : Int} {c0 : Cur}, Cu m c0 → m ≤ n + 2 → ∃ (i : Int) (c' : Cur) (o' : List Nd), (bd (spec_l1Cur_leaf.f c0.1 c0.2.1 c0.2.2) fun r0 => (bd (spec_exBuilt_put.v r0.1 s o) fun r1 => (some (r1.1, (r0.2, (((), r1.2.1.2), r1.2.2)))))) = some (i, (c', (((), s), o'))) ∧ Cu (n + (2 * K + 20)) c' ∧ o'.length ≤ o.length + (2 * G + 1) := by
    intro m c0 h0 hm
    obtain ⟨x, c1, e1, _, hc1⟩ := leaf_d h0 (by omega)
    obtain ⟨i, o1, e2, hl⟩ := put_d x s o (by omega)
    exact ⟨i, c1, o1, by rw [e1, bd_s, e2, bd_s], hc1.mono (by omega), by omega⟩
  by_cases h16 : (o.length : Int) > 16
  · obtain ⟨i, c', o', e, h1, h2⟩ := leaf hc (by omega)
    exact ⟨i, c', o', spec_l1Cur_tree.vs _ _ _ _ _ _ (by rw [br_f nz, br_t (decide_eq_true h16)]; exact e), h1, h2⟩
  obtain ⟨b4, c4, e4, _, hc4⟩ := one_d 4 hc (by omega)
  cases b4 with
  | true =>
    obtain ⟨i, c', o', e, h1, h2⟩ := leaf hc4 (by omega)
    exact ⟨i, c', o', spec_l1Cur_tree.vs _ _ _ _ _ _ (by rw [br_f nz, br_f (decide_eq_false h16), e4, bd_s, br_t rfl]; exact e), h1, h2⟩
  | false =>
    obtain ⟨b7, c7, e7, _, hc7⟩ := one_d 5 hc4 (by omega)
    cases b7 with
    | true =>
      obtain ⟨s8, c8, e8, _, hc8⟩ := of_d [(⟨#[110, 111, 116]⟩ : ByteArray), (⟨#[110, 101, 103]⟩ : ByteArray)] (by simp) hc7 (by omega)
      obtain ⟨i9, c9, o9, e9, hc9, l9⟩ := h _ c8 s o hc8 (by omega) ho
      obtain ⟨i, o1, e10, hl⟩ := put_d (s8, (i9, (0, 0))) s o9 (by omega)
      refine ⟨i, c9, o1, spec_l1Cur_tree.vs _ _ _ _ _ _ ?_, hc9.mono (by omega), by omega⟩
      rw [br_f nz, br_f (decide_eq_false h16), e4, bd_s, br_f rfl, e7, bd_s, br_t rfl, e8, bd_s, w]
      dsimp only
      rw [e9, bd_s]
      dsimp only
      rw [e10, bd_s]
    | false =>
      obtain ⟨s12, c12, e12, _, hc12⟩ := of_d opsL (by decide) hc7 (by omega)
      obtain ⟨i13, c13, o13, e13, hc13, l13⟩ := h _ c12 s o hc12 (by omega) ho
      obtain ⟨i14, c14, o14, e14, hc14, l14⟩ := h _ c13 s o13 hc13 (by omega) (by omega)
      obtain ⟨i, o1, e15, hl⟩ := put_d (s12, (i13, (i14, 0))) s o14 (by omega)
      refine ⟨i, c14, o1, spec_l1Cur_tree.vs _ _ _ _ _ _ ?_, hc14.mono (by omega), by omega⟩
      rw [br_f nz, br_f (decide_eq_false h16), e4, bd_s, br_f rfl, e7, bd_s, br_f rfl, show spec_exOps.f = some opsL from spec_exOps.eq, bd_s, e12, bd_s, w]
      dsimp only
      rw [e13, bd_s]
      dsimp only
      rw [e14, bd_s]
      dsimp only
      rw [e15, bd_s]
theorem tree3 : TreeD spec_l1Cur_tree.v 3 188 15 := tree_succ (tree_succ (tree_succ tree_zero (by omega) (by omega) (by omega) (by omega) (by omega)) (by omega) (by omega) (by omega) (by omega) (by omega)) (by omega) (by omega) (by omega) (by omega) (by omega)
theorem expr_d {n : Int} {c : Cur} (h : Cu n c) (hn : n ≤ 800000000) : Dr (spec_l1Cur_expr.v 3 c.1 c.2.1 c.2.2) (n + 200) fun r => 1 ≤ r.length ∧ r.length ≤ 24 := by
  refine dr_v ?_ fun r => spec_l1Cur_expr.vs 3 c.1 c.2.1 c.2.2
  refine Dr.bd (one_d 2 h (by omega)) fun b c1 _ hc1 => ?_
  refine dr_v ?_ fun r => spec_l1Cur_expr.v0s _ _ _ _ _ _
  obtain ⟨i, c2, o, e, hc2, hl⟩ := tree3 _ c1 b [] hc1 (by omega) (by simp)
  have hl : o.length ≤ 15 := by simpa using hl
  rw [e, bd_s]
  dsimp only
  rw [exGood_v o (by omega), bd_s]
  cases hg : exprOk o with
  | false => rw [brn_f]; exact Dr.ret hc2 (by omega) ⟨by simp, by simp⟩
  | true =>
    obtain ⟨_, l1, l2⟩ := exprOk_parts hg
    rw [brn_t]; exact Dr.ret hc2 (by omega) ⟨l1, l2⟩
theorem anyExpr_d {n : Int} {c : Cur} (h : Cu n c) (hn : n ≤ 700000000) : Dr (spec_l1Cur_anyExpr.v 3 c.1 c.2.1 c.2.2) (n + 400) fun r => r.length ≤ 60 := by
  refine dr_v ?_ fun r => spec_l1Cur_anyExpr.vs 3 c.1 c.2.1 c.2.2
  refine Dr.bd (expr_d h (by omega)) fun e c0 he hc0 => Dr.bd (pick_d 16 hc0 (by omega)) fun r1 c1 hr1 hc1 => ?_
  have rm : ∀ (o : List Nd) (y : Nd), o.length ≤ 1000 → decide (o.length + [y].length ≤ 35184372088832 / (40 + 1)) = true := fun o y ho => decide_eq_true (by simp; omega)
  refine Dr.br (fun _ => ?_) fun _ => Dr.br (fun _ => ?_) fun _ => Dr.br (fun _ => ?_) fun _ => Dr.br (fun _ => ?_) fun _ => Dr.br (fun _ => ?_) fun _ => Dr.br (fun _ => ?_) fun _ => ?_
  · refine Dr.bd (pick_d _ hc1 (by omega)) fun r2 c2 hr2 hc2 => Dr.bd (pick_d _ hc2 (by omega)) fun r3 c3 hr3 hc3 => ?_
    have hlt : r2 < (e.length : Int) := hr2.2 (by dsimp only; omega)
    exact Dr.pos (decide_eq_true hr2.1) (Dr.pos (decide_eq_true hlt) (Dr.gt (show r2.toNat < e.length by omega) (Dr.ret hc3 (by omega) (by dsimp only; rw [List.length_set]; omega))))
  · refine Dr.bd (pick_d _ hc1 (by omega)) fun r2 c2 hr2 hc2 => Dr.bd (of_d _ (by simp) hc2 (by omega)) fun r3 c3 hr3 hc3 => ?_
    have hlt : r2 < (e.length : Int) := hr2.2 (by dsimp only; omega)
    exact Dr.pos (decide_eq_true hr2.1) (Dr.pos (decide_eq_true hlt) (Dr.gt (show r2.toNat < e.length by omega) (Dr.ret hc3 (by omega) (by dsimp only; rw [List.length_set]; omega))))
  · refine Dr.bd (pick_d _ hc1 (by omega)) fun r2 c2 hr2 hc2 => Dr.bd (among_d _ (by simp) hc2 (by omega)) fun r3 c3 hr3 hc3 => ?_
    have hlt : r2 < (e.length : Int) := hr2.2 (by dsimp only; omega)
    exact Dr.pos (decide_eq_true hr2.1) (Dr.pos (decide_eq_true hlt) (Dr.gt (show r2.toNat < e.length by omega) (Dr.ret hc3 (by omega) (by dsimp only; rw [List.length_set]; omega))))
  · exact Dr.pos (rm _ _ (by dsimp only; omega)) (Dr.ret hc1 (by omega) (by simp; omega))
  · have key : ∀ (d : Nat) (l : List Nd) (m : Int) (c : Cur), l.length + d = 26 → Cu m c → m + 2 * d ≤ n + 300 → Dr (spec_l1Cur_anyExpr.v0 c.1 c.2.1 c.2.2 l) (n + 400) fun r => r.length ≤ 60 := by
      intro d
      induction d with
      | zero =>
        intro l m c hl hc hm
        refine dr_v ?_ fun r => spec_l1Cur_anyExpr.v0s c.1 c.2.1 c.2.2 l
        refine Dr.bd (pick_d 2 hc (by omega)) fun r c1 hr hc1 => ?_
        have := hr.2 (by omega)
        refine Dr.neg (decide_eq_false (by rw [wrap_ok (by dsimp only; omega) (by dsimp only; omega)]; dsimp only; omega)) (Dr.ret hc1 (by omega) (by omega))
      | succ d ih =>
        intro l m c hl hc hm
        refine dr_v ?_ fun r => spec_l1Cur_anyExpr.v0s c.1 c.2.1 c.2.2 l
        refine Dr.bd (pick_d 2 hc (by omega)) fun r c1 hr hc1 => Dr.br (fun _ => ?_) fun _ => Dr.ret hc1 (by omega) (by omega)
        exact Dr.pos (rm _ _ (by omega)) (ih _ _ c1 (by simp; omega) hc1 (by omega))
    exact key 25 _ _ c1 (by simp) hc1 (by omega)
  · exact Dr.ret hc1 (by omega) (by simp)
  · exact Dr.ret hc1 (by omega) (by dsimp only; omega)
theorem tileTree_zero : TreeD spec_l1Cur_tileTree.v 0 6 1 := by
  intro n c s o hc hn ho
  obtain ⟨x, c1, e1, _, hc1⟩ := leaf_d hc (by omega)
  obtain ⟨i, o1, e2, hl⟩ := put_d x s o (by omega)
  exact ⟨i, c1, o1, spec_l1Cur_tileTree.vs _ _ _ _ _ _ (by rw [br_t (show ((0 : Int) == 0) = true from rfl), e1, bd_s, e2, bd_s]), hc1, hl⟩
theorem tileTree_succ {d K : Int} {G : Nat} (h : TreeD spec_l1Cur_tileTree.v d K G) (hd : 0 ≤ d) (hd1 : d ≤ 100) (hK : 0 ≤ K) (hK1 : K ≤ 10000) (hG : G ≤ 10000) : TreeD spec_l1Cur_tileTree.v (d + 1) (2 * K + 20) (2 * G + 2) := by
  intro n c s o hc hn ho
  have w : IntKind.wrap .i64 ((d + 1) - 1) = d := by rw [wrap_ok (by omega) (by omega)]; omega
  have nz : ((d + 1 : Int) == 0) = false := by simp; omega
  have leaf : ∀ {m : Int} {c0 : Cur}, Cu m c0 → m ≤ n + 2 → ∃ (i : Int) (c' : Cur) (o' : List Nd), (bd (spec_l1Cur_leaf.f c0.1 c0.2.1 c0.2.2) fun r0 => (bd (spec_exBuilt_put.v r0.1 s o) fun r1 => (some (r1.1, (r0.2, (((), r1.2.1.2), r1.2.2)))))) = some (i, (c', (((), s), o'))) ∧ Cu (n + (2 * K + 20)) c' ∧ o'.length ≤ o.length + (2 * G + 2) := by
    intro m c0 h0 hm
    obtain ⟨x, c1, e1, _, hc1⟩ := leaf_d h0 (by omega)
    obtain ⟨i, o1, e2, hl⟩ := put_d x s o (by omega)
    exact ⟨i, c1, o1, by rw [e1, bd_s, e2, bd_s], hc1.mono (by omega), by omega⟩
  by_cases h16 : (o.length : Int) > 14
  · obtain ⟨i, c', o', e, h1, h2⟩ := leaf hc (by omega)
    exact ⟨i, c', o', spec_l1Cur_tileTree.vs _ _ _ _ _ _ (by rw [br_f nz, br_t (decide_eq_true h16)]; exact e), h1, h2⟩
  obtain ⟨b4, c4, e4, _, hc4⟩ := one_d 5 hc (by omega)
  cases b4 with
  | true =>
    obtain ⟨i, c', o', e, h1, h2⟩ := leaf hc4 (by omega)
    exact ⟨i, c', o', spec_l1Cur_tileTree.vs _ _ _ _ _ _ (by rw [br_f nz, br_f (decide_eq_false h16), e4, bd_s, br_t rfl]; exact e), h1, h2⟩
  | false =>
    obtain ⟨s7, c7, e7, _, hc7⟩ := of_d [(⟨#[97, 100, 100]⟩ : ByteArray), (⟨#[97, 100, 100]⟩ : ByteArray), (⟨#[115, 117, 98]⟩ : ByteArray), (⟨#[97, 110, 100]⟩ : ByteArray), (⟨#[120, 111, 114]⟩ : ByteArray), (⟨#[115, 104, 108]⟩ : ByteArray), (⟨#[115, 104, 114]⟩ : ByteArray), (⟨#[109, 117, 108]⟩ : ByteArray), (⟨#[109, 117, 108]⟩ : ByteArray), (⟨#[111, 114]⟩ : ByteArray), (⟨#[108, 101, 115, 115]⟩ : ByteArray)] (by simp) hc4 (by omega)
    obtain ⟨b8, c8, e8, _, hc8⟩ := one_d 2 hc7 (by omega)
    obtain ⟨i9, c9, o9, e9, hc9, l9⟩ := h _ c8 s o hc8 (by omega) ho
    cases b8 with
    | true =>
      obtain ⟨v10, c10, e10, _, hc10⟩ := among_d [1, 2, 2, 3, 4, 5, 8, 16, 63] (by simp) hc9 (by omega)
      obtain ⟨i11, o11, e11, l11⟩ := put_d ((⟨#[99, 111, 110, 115, 116]⟩ : ByteArray), (0, (0, v10))) s o9 (by omega)
      obtain ⟨i12, o12, e12, l12⟩ := put_d (s7, (i9, (i11, 0))) s o11 (by omega)
      refine ⟨i12, c10, o12, spec_l1Cur_tileTree.vs _ _ _ _ _ _ ?_, hc10.mono (by omega), by omega⟩
      rw [br_f nz, br_f (decide_eq_false h16), e4, bd_s, br_f rfl, e7, bd_s, e8, bd_s, br_t rfl, w]
      dsimp only
      rw [e9, bd_s]
      dsimp only
      rw [e10, bd_s]
      dsimp only
      rw [e11, bd_s]
      dsimp only
      rw [e12, bd_s]
    | false =>
      obtain ⟨i14, c14, o14, e14, hc14, l14⟩ := h _ c9 s o9 hc9 (by omega) (by omega)
      obtain ⟨i, o1, e15, hl⟩ := put_d (s7, (i9, (i14, 0))) s o14 (by omega)
      refine ⟨i, c14, o1, spec_l1Cur_tileTree.vs _ _ _ _ _ _ ?_, hc14.mono (by omega), by omega⟩
      rw [br_f nz, br_f (decide_eq_false h16), e4, bd_s, br_f rfl, e7, bd_s, e8, bd_s, br_f rfl, w]
      dsimp only
      rw [e9, bd_s]
      dsimp only
      rw [e14, bd_s]
      dsimp only
      rw [e15, bd_s]
theorem tileTree4 : TreeD spec_l1Cur_tileTree.v 4 396 46 := tileTree_succ (tileTree_succ (tileTree_succ (tileTree_succ tileTree_zero (by omega) (by omega) (by omega) (by omega) (by omega)) (by omega) (by omega) (by omega) (by omega) (by omega)) (by omega) (by omega) (by omega) (by omega) (by omega)) (by omega) (by omega) (by omega) (by omega) (by omega)
theorem trees_d {n : Int} {c : Cur} (h : Cu n c) (hn : n ≤ 600000000) : Dr (spec_l1Cur_trees.v c.1 c.2.1 c.2.2) (n + 1000) fun r => r.length ≤ 60 := by
  refine dr_v ?_ fun r => spec_l1Cur_trees.vs c.1 c.2.1 c.2.2
  refine dr_v ?_ fun r => spec_l1Cur_trees.v0s _ _ _ _ _
  obtain ⟨i, c2, o, e, hc2, hl⟩ := tileTree4 _ c false [] h (by omega) (by simp)
  have hl : o.length ≤ 46 := by simpa using hl
  rw [e, bd_s]
  refine Dr.bd (one_d 8 hc2 (by omega)) fun b c3 _ hc3 => Dr.br (fun _ => ?_) fun _ => ?_
  · exact Dr.bd (anyExpr_d hc3 (by omega)) fun r c4 hr hc4 => Dr.ret hc4 (by omega) hr
  · refine Dr.here (exGood_v o (by omega)) (Dr.br (fun _ => ?_) fun _ => ?_)
    · exact Dr.bd (anyExpr_d hc3 (by omega)) fun r c4 hr hc4 => Dr.ret hc4 (by omega) hr
    · exact Dr.ret hc3 (by omega) (by dsimp only; omega)
end Go.Proofs.YtokdmaoconegkaaGreat.Am
end
section
/- Trees with covers that are drawn. -/
namespace Go.Proofs.YtokdmaoconegkaaGreat.Am
open Go
set_option linter.unusedVariables false
set_option linter.unusedSimpArgs false
section
variable {e : List Nd}
theorem cov_tail (hn : nodesOk e 0 = true) (h1 : 1 ≤ e.length) (h24 : e.length ≤ 24) {n : Int} {c : Cur} (hc : Cu n c) (hnn : n ≤ 1000000000000) {o : List Int} (ho : o.length = e.length) :
    Dr (bd (spec_l1Cur_pick.f (10 : Int) c.1 c.2.1 c.2.2) fun r14 => (br (r14.1 == (0 : Int)) (bd (spec_l1Cur_pick.f (o.length : Int) r14.2.1 r14.2.2.1 r14.2.2.2) fun r15 => (bd (spec_l1Cur_pick.f (16 : Int) r15.2.1 r15.2.2.1 r15.2.2.2) fun r16 => (br (decide ((0 : Int) ≤ r15.1)) (br (decide (r15.1 < (o.length : Int))) (gt o r15.1.toNat fun r17 => (some ((e, (List.set o r15.1.toNat (IntKind.wrap .i64 (r16.1 - (2 : Int))))), r16.2))) none) none))) (br (r14.1 == (1 : Int)) (br (decide ((o.length + (List.length ((-1 : Int) :: []))) ≤ (35184372088832 / (8 + 1)))) (some ((e, (o ++ ((-1 : Int) :: []))), r14.2)) none) (br (r14.1 == (2 : Int)) (bd (spec_cvBest.v e) fun r18 => (some ((e, r18), r14.2))) (some ((e, o), r14.2)))))) (n + 10) fun r => r.1.length ≤ 60 ∧ r.2.length ≤ 100 := by
  refine Dr.bd (pick_d 10 hc (by omega)) fun r c1 hr hc1 => ?_
  refine Dr.br (fun _ => ?_) fun _ => Dr.br (fun _ => ?_) fun _ => Dr.br (fun _ => ?_) fun _ => ?_
  · refine Dr.bd (pick_d _ hc1 (by omega)) fun r2 c2 hr2 hc2 => ?_
    refine Dr.bd (pick_d _ hc2 (by omega)) fun r3 c3 hr3 hc3 => ?_
    have h2 := hr2.2 (by omega)
    refine Dr.pos (decide_eq_true hr2.1) (Dr.pos (decide_eq_true h2) (Dr.gt (show r2.toNat < o.length by omega) (Dr.ret hc3 (by omega) ⟨by dsimp only; omega, by dsimp only; rw [List.length_set]; omega⟩)))
  · exact Dr.pos (decide_eq_true (by simp; omega)) (Dr.ret hc1 (by omega) ⟨by dsimp only; omega, by dsimp only; rw [List.length_append]; simp; omega⟩)
  · rw [cvBest_v hn h1 h24, bd_s]
    exact Dr.ret hc1 (by omega) ⟨by dsimp only; omega, by dsimp only; rw [chosen_len]; omega⟩
  · exact Dr.ret hc1 (by omega) ⟨by dsimp only; omega, by dsimp only; omega⟩
theorem cov_loop (hn : nodesOk e 0 = true) (h1 : 1 ≤ e.length) (h24 : e.length ≤ 24) : ∀ (M : Nat) (o op : List Int) (k : Nat) (c : Cur), mq (op.drop k) < M → o.length = e.length → (∀ x ∈ op, 0 ≤ x ∧ x < e.length) → k ≤ op.length → k + mq (op.drop k) ≤ 282429536481 → Cu (1000 + 2 * (k : Int)) c →
    Dr (spec_l1Cur_covered.v0 e (k : Int) c.1 c.2.1 c.2.2 o op) 700000000000 fun r => r.1.length ≤ 60 ∧ r.2.length ≤ 100
  | 0, _, _, _, _, h, _, _, _, _, _ => by omega
  | M + 1, o, op, k, c, hM, ho, hop, hle, hs, hc => by
    have hlen := mq_len (op.drop k)
    rw [List.length_drop] at hlen
    have hbig : op.length ≤ 282429536481 := by omega
    refine dr_v ?_ (fun r hr => spec_l1Cur_covered.v0s _ _ _ _ _ _ _ hr)
    by_cases hk : k < op.length
    · have hx := hop _ (List.getElem_mem hk)
      obtain ⟨i, hi⟩ := Int.eq_ofNat_of_zero_le hx.1
      rw [hi] at hx
      have hie : i < e.length := by omega
      have hio : i < o.length := by omega
      have hd : op.drop k = (i : Int) :: op.drop (k + 1) := by rw [drop_at _ _ hk, hi]
      rw [br_t (by simpa using hk), br_t (by simp), br_t (by simpa using hk), Int.toNat_natCast, gt_at _ hk, hi, cvTiles_v hn hie, bd_s, br_t (by simp), br_t (by simpa using hk), gt_at _ hk, hi]
      refine Dr.bd (pick_d _ hc (by omega)) fun r7 c7 h7 hc7 => ?_
      have hne := List.length_pos_iff.2 (tl_some hn hie)
      have h8 := h7.2 (by omega)
      have hj : r7.toNat < (tl e i 13).length := by omega
      have ht := tl_mem (List.getElem_mem hj)
      refine Dr.pos (decide_eq_true h7.1) (Dr.gt hj ?_)
      dsimp only
      generalize (tl e i 13)[r7.toNat] = t at ht ⊢
      have hset : (o.set i t)[i]? = some t := by rw [List.getElem?_set, if_pos rfl, if_pos hio]
      have hp := prts_ok hn hie t
      have hm := mq_parts hp.1 (n := i) hp.2
      rw [hd, mq_cons, Int.toNat_natCast] at hs hM
      have hdrop : (op ++ prts e i t).drop (k + 1) = op.drop (k + 1) ++ prts e i t := List.drop_append_of_le_length (by omega)
      rw [br_t (by simp), br_t (by simpa using hio), Int.toNat_natCast, gt_at _ hio, br_t (by simp), br_t (by simpa using hk), gt_at _ hk, hi, br_t (by simp), br_t (by simpa using hk), gt_at _ hk, hi, br_t (by simp), br_t (by rw [List.length_set]; simpa using hio), Int.toNat_natCast, gt_some hset, cvTile_v hn hie, bd_s, told_prts, br_t (by simp; omega), next_ok k (k + 1) (by omega) (by omega)]
      exact cov_loop hn h1 h24 M _ _ (k + 1) _ (by rw [hdrop, mq_app]; omega) (by rw [List.length_set]; exact ho) (fun x hx => by
        rcases List.mem_append.1 hx with q | q
        · exact hop x q
        · have := hp.2 x q; omega) (by rw [List.length_append]; omega) (by rw [hdrop, mq_app]; omega) (hc7.mono (by omega))
    · rw [br_f (by simpa using hk)]
      exact (cov_tail hn h1 h24 hc (by omega) ho).imp (by omega) fun _ h => h
theorem covered_d {n : Int} {c : Cur} (h : Cu n c) (hn0 : n ≤ 0) : Dr (spec_l1Cur_covered.v c.1 c.2.1 c.2.2) 700000000000 fun r => r.1.length ≤ 60 ∧ r.2.length ≤ 100 := by
  refine dr_v ?_ (fun r hr => spec_l1Cur_covered.vs _ _ _ hr)
  refine Dr.bd (trees_d h (by omega)) fun e c1 he hc1 => ?_
  dsimp only
  rw [cvTree_v (by omega), bd_s]
  cases ht : treeOk e with
  | false =>
    rw [brn_f]
    rw [cvNone_g (by omega), bd_s]
    exact Dr.ret hc1 (by omega) ⟨he, by simp; omega⟩
  | true =>
    obtain ⟨hn, h1, h24, _⟩ := treeOk_parts ht
    rw [brn_t, cvNone_v h24, bd_s, last_w h1 (by omega)]
    have hb : 3 ^ (e.length - 1) ≤ 3 ^ 23 := Nat.pow_le_pow_right (by omega) (by omega)
    exact cov_loop hn h1 h24 _ _ _ 0 _ (Nat.lt_succ_self _) (by simp) (fun x hx => by rw [List.mem_singleton] at hx; omega) (by simp) (by simp [mq]; omega) (hc1.mono (by omega))
theorem drawCover_v {l : List Int} (h : Bytes l) : ∃ (e : List Nd) (c : List Int), spec_DrawIsCover.v l = some (e, c) ∧ e.length ≤ 60 ∧ c.length ≤ 100 := by
  obtain ⟨⟨e, q⟩, c, he, hl, hc⟩ := covered_d h.cu (by omega)
  exact ⟨e, q, spec_DrawIsCover.vs _ (by rw [he, bd_s]), hl.1, hl.2⟩
end
end Go.Proofs.YtokdmaoconegkaaGreat.Am
end
section
/- In a tree each node is an operand once: the parts of a tile and its inner nodes are apart. -/
namespace Go.Proofs.YtokdmaoconegkaaGreat.Am
open Go
set_option linter.unusedVariables false
set_option linter.unusedSimpArgs false

def pN (n : Nd) : List Nat := (partsOf n).map Int.toNat
/-! ### how often a node is an operand -/
def opsOfL (e : List Nd) : List Nat := e.flatMap pN
theorem bumpU_get {u : List Int} {m : Nat} (hb : Bnd u m) (hm : m ≤ 1000000000) (p : Int) (h0 : 0 ≤ p) (hp : p < u.length) (j : Nat) (hj : j < u.length) : (bumpU u p)[j]? = some (u[j] + if j = p.toNat then 1 else 0) := by
  unfold bumpU
  rw [List.getElem?_set]
  have hpl : p.toNat < u.length := by omega
  by_cases c : p.toNat = j
  · subst c
    have hg : u.getD p.toNat 0 = u[p.toNat] := by rw [List.getD_eq_getElem?_getD, List.getElem?_eq_getElem hpl]; rfl
    have := hb _ (List.getElem_mem hpl)
    rw [if_pos rfl, if_pos hpl, hg, if_pos rfl, wrap_ok (by omega) (by omega)]
  · rw [if_neg c, if_neg (fun e => c e.symm), List.getElem?_eq_getElem hj, Int.add_zero]
theorem fold_bump_get : ∀ (ps : List Int) (u : List Int) (m : Nat), Bnd u m → m + ps.length ≤ 1000000000 → (∀ p ∈ ps, 0 ≤ p ∧ p < u.length) → ∀ j (hj : j < u.length), (ps.foldl bumpU u)[j]? = some (u[j] + ((ps.map Int.toNat).count j : Nat))
  | [], u, m, hb, hm, hp, j, hj => by simp [List.getElem?_eq_getElem hj]
  | p :: r, u, m, hb, hm, hp, j, hj => by
    simp only [List.length_cons] at hm
    obtain ⟨h0, h1⟩ := hp p (by simp)
    have hl := bump_len u p
    have ih := fold_bump_get r (bumpU u p) (m + 1) (bump_bnd hb (by omega) p) (by omega) (fun q hq => by rw [hl]; exact hp q (by simp [hq])) j (by rw [hl]; exact hj)
    have hg := bumpU_get hb (by omega) p h0 h1 j hj
    rw [List.getElem?_eq_getElem (by rw [hl]; exact hj)] at hg
    rw [List.foldl_cons, ih, Option.some.inj hg, List.map_cons, List.count_cons]
    congr 1
    by_cases c : j = p.toNat
    · subst c; simp; omega
    · have c' : ¬ p.toNat = j := fun e => c e.symm
      simp [c, c']
theorem folds_bump_get : ∀ (l : List Nd) (u : List Int) (m : Nat), Bnd u m → m + 2 * l.length ≤ 1000000000 → PartsIn l u.length → ∀ j (hj : j < u.length), (l.foldl bumps u)[j]? = some (u[j] + ((opsOfL l).count j : Nat))
  | [], u, m, hb, hm, hp, j, hj => by simp [opsOfL, List.getElem?_eq_getElem hj]
  | n :: r, u, m, hb, hm, hp, j, hj => by
    simp only [List.length_cons] at hm
    have h2 := parts_le n
    have hl := bumps_len u n
    have hb1 : Bnd (bumps u n) (m + (partsOf n).length) := fold_bnd _ _ _ hb (by omega)
    have ih := folds_bump_get r (bumps u n) (m + (partsOf n).length) hb1 (by omega) (by rw [hl]; exact fun q hq => hp q (by simp [hq])) j (by rw [hl]; exact hj)
    have hg : (bumps u n)[j]? = _ := fold_bump_get (partsOf n) u m hb (by omega) (hp n (by simp)) j hj
    rw [List.getElem?_eq_getElem (by rw [hl]; exact hj)] at hg
    rw [List.foldl_cons, ih, Option.some.inj hg]
    unfold opsOfL pN
    rw [List.flatMap_cons, List.count_append]
    congr 1
    omega
theorem usesOf_get {e : List Nd} (hl : e.length ≤ 1048576) (hp : PartsIn e e.length) {j : Nat} (hj : j < e.length) : (usesOf e)[j]? = some (((opsOfL e).count j : Nat) : Int) := by
  unfold usesOf
  have := folds_bump_get e (List.replicate e.length 0) 0 (fun x hx => by rw [(List.mem_replicate.1 hx).2]; omega) (by omega) (by rw [List.length_replicate]; exact hp) j (by rw [List.length_replicate]; exact hj)
  rw [this]
  simp
theorem once_count {e : List Nd} (hl : e.length ≤ 1048576) (hn : nodesOk e 0 = true) (ho : once e = true) (j : Nat) (hj : j < e.length) : (opsOfL e).count j ≤ 1 := by
  have hg := usesOf_get hl (nodesOk_parts hn) hj
  unfold once at ho
  have := List.all_eq_true.1 ho _ (List.mem_of_getElem? hg)
  rw [decide_eq_true_iff] at this
  omega

theorem ops_at {e : List Nd} {i : Nat} (hi : i < e.length) (k : Nat) : (pN e[i]).count k ≤ (opsOfL e).count k := by
  have h : e = e.take i ++ (e[i] :: e.drop (i + 1)) := by rw [← drop_at _ i hi, List.take_append_drop]
  have h2 : opsOfL e = opsOfL (e.take i) ++ (pN e[i] ++ opsOfL (e.drop (i + 1))) := by
    conv => lhs; rw [h]
    unfold opsOfL
    rw [List.flatMap_append, List.flatMap_cons]
  rw [h2, List.count_append, List.count_append]
  omega
theorem ops_two {e : List Nd} {i j : Nat} (hij : i < j) (hj : j < e.length) (k : Nat) : (pN e[i]).count k + (pN e[j]).count k ≤ (opsOfL e).count k := by
  have hi : i < e.length := by omega
  have h : e = e.take i ++ (e[i] :: e.drop (i + 1)) := by rw [← drop_at _ i hi, List.take_append_drop]
  have h2 : opsOfL e = opsOfL (e.take i) ++ (pN e[i] ++ opsOfL (e.drop (i + 1))) := by
    conv => lhs; rw [h]
    unfold opsOfL
    rw [List.flatMap_append, List.flatMap_cons]
  have hd : j - (i + 1) < (e.drop (i + 1)).length := by rw [List.length_drop]; omega
  have h3 := ops_at hd k
  have h4 : (e.drop (i + 1))[j - (i + 1)] = e[j] := by
    rw [List.getElem_drop]
    congr 1
    omega
  rw [h4] at h3
  rw [h2, List.count_append, List.count_append]
  omega
/-- two operands of a node are apart -/
theorem apart1 {e : List Nd} (ht : treeOk e = true) {i : Nat} (hi : i < e.length) (h2 : isTwo e[i].1 = true) : e[i].2.1 ≠ e[i].2.2.1 := by
  obtain ⟨hn, l1, l2, ho⟩ := treeOk_parts ht
  have hk := nodesOk_get e 0 hn i hi
  rw [Nat.zero_add] at hk
  have hp := two_parts hk h2
  intro q
  have h := ops_at hi e[i].2.1.toNat
  have hc := once_count (by omega) hn ho e[i].2.1.toNat (by omega)
  have : pN e[i] = [e[i].2.1.toNat, e[i].2.1.toNat] := by
    unfold pN partsOf
    rw [arity_two h2, if_neg (by decide), if_pos rfl, ← q]; rfl
  rw [this] at h
  simp at h
  omega
/-- operands of two nodes are apart -/
theorem apart2 {e : List Nd} (ht : treeOk e = true) {i j : Nat} (hij : i < j) (hj : j < e.length) {p : Int} (h1 : p ∈ partsOf e[i]) (h2 : p ∈ partsOf e[j]) : False := by
  obtain ⟨hn, l1, l2, ho⟩ := treeOk_parts ht
  have hk := nodesOk_get e 0 hn i (by omega)
  rw [Nat.zero_add] at hk
  have hp := nodeOk_parts hk p h1
  have h := ops_two hij hj p.toNat
  have hc := once_count (by omega) hn ho p.toNat (by omega)
  have a : 1 ≤ (pN e[i]).count p.toNat := List.one_le_count_iff.2 (List.mem_map.2 ⟨p, h1, rfl⟩)
  have b : 1 ≤ (pN e[j]).count p.toNat := List.one_le_count_iff.2 (List.mem_map.2 ⟨p, h2, rfl⟩)
  omega
theorem parts_two {n : Nd} (h : isTwo n.1 = true) : partsOf n = [n.2.1, n.2.2.1] := by
  unfold partsOf
  rw [arity_two h, if_neg (by decide), if_pos rfl]
/-- what a tile tells: its parts are below its node, its inner nodes too, and apart from the parts -/
structure Fair (i : Nat) (p q : List Int) : Prop where
  two : p.length ≤ 2
  low : ∀ x ∈ p, 0 ≤ x ∧ x < (i : Int)
  inn : ∀ x ∈ q, x < (i : Int)
  dis : ∀ x ∈ p, x ∉ q
  len : q.length ≤ 2
theorem tile_fair {e : List Nd} (ht : treeOk e = true) {i : Nat} (hi : i < e.length) {t : Int} {p q : List Int} (h : tileM e (i : Int) t = some (p, q)) : Fair i p q := by
  obtain ⟨hn, l1, l2, ho⟩ := treeOk_parts ht
  have hpp := tile_parts hn hi h
  have hk : nodeOk (ndAt e i) (i : Int) = true := ndAt_ok hn (by omega) (by omega)
  have ei : ndAt e (i : Int) = e[i] := ndAt_nat hi
  have tw : isTwo (ndAt e i).1 = true → ((0 ≤ (ndAt e i).2.1 ∧ (ndAt e i).2.1 < i) ∧ 0 ≤ (ndAt e i).2.2.1 ∧ (ndAt e i).2.2.1 < i) ∧ (ndAt e i).2.1 ≠ (ndAt e i).2.2.1 := fun c =>
    ⟨two_parts hk c, by have := apart1 ht hi (by rw [← ei]; exact c); rwa [← ei] at this⟩
  have mem : isTwo (ndAt e i).1 = true → (ndAt e i).2.1 ∈ partsOf e[i] ∧ (ndAt e i).2.2.1 ∈ partsOf e[i] := fun c => by
    rw [ei] at c ⊢
    rw [parts_two c]; simp
  have nul : q = [] → Fair i p q := fun c => by subst c; exact ⟨hpp.1, hpp.2, by simp, by simp, by simp⟩
  have cst : ∀ {b : Bool} {m : Nd} {S : List Int} {a c : Int}, (b = true → c < i ∧ a ≠ c) → constM b m S a c = some (p, q) → Fair i p q := fun ha hc => by
    unfold constM at hc
    split at hc
    · rename_i k
      simp only [Option.some.injEq, Prod.mk.injEq] at hc
      obtain ⟨rfl, rfl⟩ := hc
      obtain ⟨h1, h2⟩ := ha k.1
      exact ⟨hpp.1, hpp.2, fun x hx => by rw [List.mem_singleton] at hx; subst hx; exact h1, fun x hx hq => by rw [List.mem_singleton] at hx hq; subst hx; exact h2 hq, by simp⟩
    · cases hc
  have dp : ∀ {b : Bool} {a d : Int} {op : ByteArray} {S : List Int}, isTwo op = true → (b = true → (0 ≤ d ∧ d < i) ∧ a ≠ d ∧ a ∈ partsOf e[i]) → deepM e b a d op S = some (p, q) → Fair i p q := fun {b a d op S} ho2 ha hc => by
    unfold deepM at hc
    split at hc
    · rename_i k
      simp only [Option.some.injEq, Prod.mk.injEq] at hc
      obtain ⟨rfl, rfl⟩ := hc
      obtain ⟨h1, h2, h3⟩ := ha k.1
      obtain ⟨n, rfl⟩ : ∃ n : Nat, d = (n : Int) := ⟨d.toNat, by omega⟩
      have hnl : n < e.length := by omega
      have en : ndAt e (n : Int) = e[n] := ndAt_nat hnl
      have ht2 : isTwo e[n].1 = true := by rw [← en, k.2.1]; exact ho2
      have hb := two_parts (ndAt_ok hn h1.1 (by omega)) (by rw [k.2.1]; exact ho2)
      have h4 := apart1 ht hnl ht2
      rw [← en] at h4
      have h5 : a ≠ (ndAt e (n : Int)).2.2.1 := fun q => apart2 ht (i := n) (j := i) (by omega) hi (p := a) (by rw [parts_two ht2, q, en]; simp) h3
      refine ⟨hpp.1, hpp.2, fun x hx => ?_, fun x hx hq => ?_, by simp⟩
      · simp only [List.mem_cons, List.not_mem_nil, or_false] at hx
        rcases hx with rfl | rfl <;> omega
      · simp only [List.mem_cons, List.not_mem_nil, or_false] at hx hq
        rcases hx with rfl | rfl
        · rcases hq with h | h
          · exact h5 h
          · exact h2 h
        · rcases hq with h | h
          · exact h4 h
          · omega
    · cases hc
  unfold tileM tileN at h
  by_cases t0 : t = 0
  · rw [if_pos t0] at h
    split at h
    · simp only [Option.some.injEq, Prod.mk.injEq] at h; exact nul h.2.symm
    · cases h
  rw [if_neg t0] at h
  by_cases t1 : t = 1
  · rw [if_pos t1] at h
    split at h
    · simp only [Option.some.injEq, Prod.mk.injEq] at h; exact nul h.2.symm
    · cases h
  rw [if_neg t1] at h
  by_cases t2 : t = 2
  · rw [if_pos t2] at h
    split at h
    · simp only [Option.some.injEq, Prod.mk.injEq] at h; exact nul h.2.symm
    · cases h
  rw [if_neg t2] at h
  by_cases t3 : t = 3
  · rw [if_pos t3] at h
    split at h
    · simp only [Option.some.injEq, Prod.mk.injEq] at h; exact nul h.2.symm
    · cases h
  rw [if_neg t3] at h
  by_cases t4 : t = 4
  · rw [if_pos t4] at h; exact cst (fun c => have w := tw (in4 c); ⟨w.1.2.2, w.2⟩) h
  rw [if_neg t4] at h
  by_cases t5 : t = 5
  · rw [if_pos t5] at h; exact cst (fun c => have w := tw (in5 c); ⟨w.1.1.2, w.2.symm⟩) h
  rw [if_neg t5] at h
  by_cases t6 : t = 6
  · rw [if_pos t6] at h; exact cst (fun c => have w := tw (in6 c); ⟨w.1.2.2, w.2⟩) h
  rw [if_neg t6] at h
  by_cases t7 : t = 7
  · rw [if_pos t7] at h; exact cst (fun c => have w := tw (by rw [of_decide_eq_true c]; decide); ⟨w.1.2.2, w.2⟩) h
  rw [if_neg t7] at h
  by_cases t8 : t = 8
  · rw [if_pos t8] at h; exact cst (fun c => have w := tw (by rw [of_decide_eq_true c]; decide); ⟨w.1.1.2, w.2.symm⟩) h
  rw [if_neg t8] at h
  have ad : decide ((ndAt e (i : Int)).1 = tAdd) = true → isTwo (ndAt e (i : Int)).1 = true := fun c => by rw [of_decide_eq_true c]; decide
  by_cases t9 : t = 9
  · rw [if_pos t9] at h; exact dp (by decide) (fun c => have w := tw (ad c); ⟨w.1.2, w.2, (mem (ad c)).1⟩) h
  rw [if_neg t9] at h
  by_cases t10 : t = 10
  · rw [if_pos t10] at h; exact dp (by decide) (fun c => have w := tw (ad c); ⟨w.1.1, w.2.symm, (mem (ad c)).2⟩) h
  rw [if_neg t10] at h
  by_cases t11 : t = 11
  · rw [if_pos t11] at h; exact dp (by decide) (fun c => have w := tw (ad c); ⟨w.1.2, w.2, (mem (ad c)).1⟩) h
  rw [if_neg t11] at h
  by_cases t12 : t = 12
  · rw [if_pos t12] at h; exact dp (by decide) (fun c => have w := tw (ad c); ⟨w.1.1, w.2.symm, (mem (ad c)).2⟩) h
  rw [if_neg t12] at h
  cases h
/-- each node has the plain tile of its kind -/
def plainT (n : Nd) : Int := if n.1 = tIn then 0 else if n.1 = tConst then 1 else if isOne n.1 = true then 2 else 3
theorem plain_some {e : List Nd} {i : Nat} (hn : nodesOk e 0 = true) (hi : i < e.length) : (tileM e (i : Int) (plainT e[i])).isSome = true := by
  have hk := nodesOk_get e 0 hn i hi
  rw [Nat.zero_add] at hk
  unfold tileM tileN plainT
  rw [ndAt_nat hi]
  by_cases c0 : e[i].1 = tIn
  · rw [if_pos c0, if_pos rfl, if_pos c0]; rfl
  rw [if_neg c0]
  by_cases c1 : e[i].1 = tConst
  · rw [if_pos c1, if_neg (by decide), if_pos rfl, if_pos c1]; rfl
  rw [if_neg c1]
  by_cases c2 : isOne e[i].1 = true
  · rw [if_pos c2, if_neg (by decide), if_neg (by decide), if_pos rfl, if_pos c2]; rfl
  · rw [if_neg c2, if_neg (by decide), if_neg (by decide), if_neg (by decide), if_pos rfl]
    unfold nodeOk at hk
    rw [if_neg c0, if_neg c1, if_neg c2] at hk
    simp only [Bool.and_eq_true] at hk
    rw [if_pos hk.1.1.1]; rfl
theorem tCost_le (e : List Nd) (i t : Int) : tCost e i t ≤ 4 := by
  unfold tCost tCostN
  have := opCost_pos (ndAt e i).1
  split
  · omega
  · split <;> omega
end Go.Proofs.YtokdmaoconegkaaGreat.Am
end
section
/- Tiles that are told for nodes of a tree: the program's functions and the reference's answer alike. -/
namespace Go.Proofs.YtokdmaoconegkaaGreat.Am
open Go
set_option linter.unusedVariables false
set_option linter.unusedSimpArgs false

/-- the tile that is asked for -/
def askP (e : List Nd) (i t : Int) : Option Tl := if (treeOk e && (inB i 0 ((e.length : Int) - 1) && inB t 0 12)) = true then tileM e i t else none
def ptP : Option Tl → List Int × Bool
  | some (p, _) => (p, true)
  | none => ([], false)
def inP : Option Tl → List Int × Bool
  | some (_, q) => (q, true)
  | none => ([], false)
def coP (e : List Nd) (i t : Int) : Option Tl → Int × Bool
  | some _ => (tCost e i t, true)
  | none => (0, false)
theorem ask_some {e : List Nd} {i t : Int} {p q : List Int} (h : askP e i t = some (p, q)) : treeOk e = true ∧ (0 ≤ i ∧ i < e.length) ∧ (0 ≤ t ∧ t ≤ 12) ∧ tileM e i t = some (p, q) := by
  unfold askP at h
  split at h
  · rename_i c
    simp only [Bool.and_eq_true, inB_iff] at c
    exact ⟨c.1, ⟨c.2.1.1, by omega⟩, c.2.2, h⟩
  · cases h
theorem tree_len {e : List Nd} (h : treeOk e = true) : 1 ≤ e.length ∧ e.length ≤ 24 := ⟨(treeOk_parts h).2.1, (treeOk_parts h).2.2.1⟩
theorem wlen {n : Nat} (h : n ≤ 1048576) : IntKind.wrap .i64 ((n : Int) - 1) = (n : Int) - 1 := wrap_ok (by omega) (by omega)
theorem toldTile_v (e : List Nd) (hl : e.length ≤ 1048576) (i t : Int) : impl_toldTile.v e i t = some (match askP e i t with | some (p, q) => ((p, (q, tCost e i t)), true) | none => (([], ([], 0)), false)) := by
  refine impl_toldTile.vs _ _ _ ?_
  unfold askP
  rw [isTree_v e hl, bd_s]
  cases h1 : treeOk e with
  | false => rw [brn_f]; rfl
  | true =>
    rw [brn_t, wlen hl, within_f, bd_s]
    cases h2 : inB i 0 ((e.length : Int) - 1) with
    | false => rw [brn_f]; rfl
    | true =>
      rw [brn_t, within_f, bd_s]
      cases h3 : inB t 0 12 with
      | false => rw [brn_f]; rfl
      | true =>
        obtain ⟨a0, a1⟩ := inB_iff.1 h2
        obtain ⟨b0, b1⟩ := inB_iff.1 h3
        obtain ⟨n, rfl⟩ : ∃ n : Nat, i = (n : Int) := ⟨i.toNat, by omega⟩
        have hn := (treeOk_parts h1).1
        rw [brn_t, tileAt_v hn (by omega) b0 b1, bd_s]
        simp only [Bool.and_self, if_true]
        cases hm : tileM e (n : Int) t with
        | none => rfl
        | some pq =>
          obtain ⟨p, q⟩ := pq
          have := tileI_eq hn (by omega) b0 b1 hm
          rw [this]; rfl
theorem tileParts_v (e : List Nd) (hl : e.length ≤ 1048576) (i t : Int) : impl_TileParts.v e i t = some (ptP (askP e i t)) := by
  refine impl_TileParts.vs _ _ _ ?_
  rw [toldTile_v e hl, bd_s]
  cases askP e i t with
  | none => rfl
  | some pq => rfl
theorem tileCost_v (e : List Nd) (hl : e.length ≤ 1048576) (i t : Int) : impl_TileCost.v e i t = some (coP e i t (askP e i t)) := by
  refine impl_TileCost.vs _ _ _ ?_
  rw [toldTile_v e hl, bd_s]
  cases askP e i t with
  | none => rfl
  | some pq => rfl
end Go.Proofs.YtokdmaoconegkaaGreat.Am
end
section
/- The law laws_FnInstructionsOfTiles over the machine of values. -/
set_option linter.unusedVariables false
set_option maxRecDepth 100000
set_option maxHeartbeats 1000000
namespace Go.Proofs.YtokdmaoconegkaaGreat.Am
open Go
open Go.IntKind renaming wrap → wr
noncomputable section
def laws_FnInstructionsOfTiles.E := eN 5 [(21, ⟨[0, 1, 5, 6, 8, 9, 10, 20, 26], [], [], []⟩), (28, ⟨[0, 1, 5, 6, 8, 9, 10, 20, 26, 29, 30, 31, 32, 172, 173, 174], [], [], []⟩), (31, ⟨[0, 1, 5, 6, 8, 9, 10, 20, 26, 29, 30, 31, 32, 33, 34, 172, 173, 174, 182, 183], [], [], []⟩), (5, ⟨[0, 1, 5, 6, 7, 8, 9, 10, 11], [], [], []⟩), (6, ⟨[0, 1, 5, 6, 7, 8, 9, 10, 11, 12, 13], [], [], []⟩), (8, ⟨[0, 1, 5, 6, 7, 8, 9, 10, 13], [], [], []⟩), (10, ⟨[0, 1, 5, 6, 7, 8, 9, 10, 13, 14, 15, 16, 17], [], [], []⟩), (11, ⟨[0, 1, 5, 6, 7, 8, 9, 10, 13, 16, 17, 18, 19], [], [], []⟩), (13, ⟨[0, 1, 5, 6, 7, 8, 9, 10, 13], [], [], []⟩), (16, ⟨[0, 1, 5, 6, 7, 8, 9, 10, 20, 21], [], [], []⟩), (17, ⟨[0, 1, 5, 6, 8, 9, 10, 20, 21, 22, 23], [], [], []⟩), (18, ⟨[0, 1, 5, 6, 8, 9, 10, 20, 21, 22, 23, 24, 25], [], [], []⟩), (25, ⟨[0, 1, 5, 6, 8, 9, 10, 20, 26, 29, 30], [], [], []⟩), (33, ⟨[0, 1, 5, 6, 8, 9, 10, 20, 26, 29, 30, 31, 32, 33, 34, 35, 172, 173, 174, 182, 183], [], [], []⟩), (35, ⟨[0, 1, 5, 6, 8, 9, 10, 20, 26, 29, 30, 31, 32, 33, 34, 172, 173, 174], [], [], []⟩), (37, ⟨[0, 1, 5, 6, 8, 9, 10, 20, 26, 29, 30, 31, 32], [], [], []⟩), (38, ⟨[0, 1, 5, 6, 8, 9, 10, 20, 26, 29, 30, 32, 36, 37], [], [], []⟩)] [5, 6, 8, 10, 11, 13, 16, 17, 18, 25, 33, 35, 37, 38]
def laws_FnInstructionsOfTiles.g := g0 5 cZ [.id]
def laws_FnInstructionsOfTiles.T (k : Nat) : Table := tabs [(6, (laws_big.tab)), (17, (laws_pSame.tab k)), (19, (impl_TileCost.tab k)), (21, (impl_TileParts.tab k)), (41, (spec_DrawInstrOfTile.tab k)), (42, (impl_InstrOfTile.tab k)), (43, (spec_InstrOfTile.tab k)), (44, (spec_DrawNeedsOf.tab k)), (45, (impl_NeedsOf.tab k)), (46, (spec_NeedsOf.tab k)), (47, (impl_CostOfInstr.tab k)), (48, (impl_IsInstr.tab k)), (49, (impl_ValuesOf.tab k)), (50, (impl_StepInstr.tab k))]
def laws_FnInstructionsOfTiles.f (k : Nat) (a0 : LI) (a1 : LI) : Option Bool := gf 5 laws_FnInstructionsOfTiles.E laws_FnInstructionsOfTiles.T laws_FnInstructionsOfTiles.g k [mkP false bL a0, mkP false bL a1] []
def laws_FnInstructionsOfTiles.tab (k : Nat) : Tb := tabI [.v false bL, .v false bL] [] (enc0 cZ) (laws_FnInstructionsOfTiles.f k)
def laws_FnInstructionsOfTiles.l0 (k : Nat) (x0 : LI) (x1 : LI) (x2 : LN) (x3 : Int) (x4 : Int) (x5 : Int) (x6 : LI) (x7 : Bool) (x8 : ByteArray) (x9 : Int) (x10 : Int) (x11 : Int) (x12 : Int) := gl 5 0 laws_FnInstructionsOfTiles.E laws_FnInstructionsOfTiles.T laws_FnInstructionsOfTiles.g k [(0, (.lst (.i .u8) x0)), (1, (.lst (.i .u8) x1)), (5, (.lst nT x2)), (6, (.i .i64 x3)), (7, (.i .i64 x4)), (8, (.i .i64 x5)), (9, (.lst iT x6)), (10, (.ptr 5000 0)), (11, (.b x7))] [(5000, (.box [(.s x8), (.i .i64 x9), (.i .i64 x10), (.i .i64 x11), (.i .i64 x12)]))] [5, 6, 8, 10, 11, 13, 16, 17, 18, 25, 33, 35, 37, 38]
def laws_FnInstructionsOfTiles.l1 (k : Nat) (x0 : LI) (x1 : LI) (x2 : LN) (x3 : Int) (x4 : Int) (x5 : Int) (x6 : LI) (x7 : Bool) (x8 : Bool) (x9 : ByteArray) (x10 : Int) (x11 : Int) (x12 : Int) (x13 : Int) (x14 : ByteArray) (x15 : Int) (x16 : Int) (x17 : Int) (x18 : Int) := gl 5 1 laws_FnInstructionsOfTiles.E laws_FnInstructionsOfTiles.T laws_FnInstructionsOfTiles.g k [(0, (.lst (.i .u8) x0)), (1, (.lst (.i .u8) x1)), (5, (.lst nT x2)), (6, (.i .i64 x3)), (7, (.i .i64 x4)), (8, (.i .i64 x5)), (9, (.lst iT x6)), (10, (.ptr 5000 0)), (11, (.b x7)), (12, (.ptr 5001 0)), (13, (.b x8))] [(5000, (.box [(.s x9), (.i .i64 x10), (.i .i64 x11), (.i .i64 x12), (.i .i64 x13)])), (5001, (.box [(.s x14), (.i .i64 x15), (.i .i64 x16), (.i .i64 x17), (.i .i64 x18)]))] [5, 6, 8, 10, 11, 13, 16, 17, 18, 25, 33, 35, 37, 38]
def laws_FnInstructionsOfTiles.l2 (k : Nat) (x0 : LI) (x1 : LI) (x2 : LN) (x3 : Int) (x4 : Int) (x5 : Int) (x6 : LI) (x7 : Bool) (x8 : ByteArray) (x9 : Int) (x10 : Int) (x11 : Int) (x12 : Int) := gl 5 2 laws_FnInstructionsOfTiles.E laws_FnInstructionsOfTiles.T laws_FnInstructionsOfTiles.g k [(0, (.lst (.i .u8) x0)), (1, (.lst (.i .u8) x1)), (5, (.lst nT x2)), (6, (.i .i64 x3)), (7, (.i .i64 x4)), (8, (.i .i64 x5)), (9, (.lst iT x6)), (10, (.ptr 5000 0)), (13, (.b x7))] [(5000, (.box [(.s x8), (.i .i64 x9), (.i .i64 x10), (.i .i64 x11), (.i .i64 x12)]))] [5, 6, 8, 10, 11, 13, 16, 17, 18, 25, 33, 35, 37, 38]
def laws_FnInstructionsOfTiles.l3 (k : Nat) (x0 : LI) (x1 : LI) (x2 : LN) (x3 : Int) (x4 : Int) (x5 : Int) (x6 : LI) (x7 : Bool) (x8 : LN) (x9 : LI) (x10 : Bool) (x11 : ByteArray) (x12 : Int) (x13 : Int) (x14 : Int) (x15 : Int) (x16 : LI) := gl 5 3 laws_FnInstructionsOfTiles.E laws_FnInstructionsOfTiles.T laws_FnInstructionsOfTiles.g k [(0, (.lst (.i .u8) x0)), (1, (.lst (.i .u8) x1)), (5, (.lst nT x2)), (6, (.i .i64 x3)), (7, (.i .i64 x4)), (8, (.i .i64 x5)), (9, (.lst iT x6)), (10, (.ptr 5000 0)), (13, (.b x7)), (14, (.lst nT x8)), (15, (.lst iT x9)), (16, (.own 5001 0)), (17, (.b x10))] [(5000, (.box [(.s x11), (.i .i64 x12), (.i .i64 x13), (.i .i64 x14), (.i .i64 x15)])), (5001, (.row 0 iT x16))] [5, 6, 8, 10, 11, 13, 16, 17, 18, 25, 33, 35, 37, 38]
def laws_FnInstructionsOfTiles.l4 (k : Nat) (x0 : LI) (x1 : LI) (x2 : LN) (x3 : Int) (x4 : Int) (x5 : Int) (x6 : LI) (x7 : Bool) (x8 : Bool) (x9 : LI) (x10 : Bool) (x11 : ByteArray) (x12 : Int) (x13 : Int) (x14 : Int) (x15 : Int) (x16 : LI) := gl 5 4 laws_FnInstructionsOfTiles.E laws_FnInstructionsOfTiles.T laws_FnInstructionsOfTiles.g k [(0, (.lst (.i .u8) x0)), (1, (.lst (.i .u8) x1)), (5, (.lst nT x2)), (6, (.i .i64 x3)), (7, (.i .i64 x4)), (8, (.i .i64 x5)), (9, (.lst iT x6)), (10, (.ptr 5000 0)), (13, (.b x7)), (16, (.own 5001 0)), (17, (.b x8)), (18, (.lst iT x9)), (19, (.b x10))] [(5000, (.box [(.s x11), (.i .i64 x12), (.i .i64 x13), (.i .i64 x14), (.i .i64 x15)])), (5001, (.row 0 iT x16))] [5, 6, 8, 10, 11, 13, 16, 17, 18, 25, 33, 35, 37, 38]
def laws_FnInstructionsOfTiles.l5 (k : Nat) (x0 : LI) (x1 : LI) (x2 : LN) (x3 : Int) (x4 : Int) (x5 : Int) (x6 : LI) (x7 : Bool) (x8 : ByteArray) (x9 : Int) (x10 : Int) (x11 : Int) (x12 : Int) := gl 5 5 laws_FnInstructionsOfTiles.E laws_FnInstructionsOfTiles.T laws_FnInstructionsOfTiles.g k [(0, (.lst (.i .u8) x0)), (1, (.lst (.i .u8) x1)), (5, (.lst nT x2)), (6, (.i .i64 x3)), (7, (.i .i64 x4)), (8, (.i .i64 x5)), (9, (.lst iT x6)), (10, (.ptr 5000 0)), (13, (.b x7))] [(5000, (.box [(.s x8), (.i .i64 x9), (.i .i64 x10), (.i .i64 x11), (.i .i64 x12)]))] [5, 6, 8, 10, 11, 13, 16, 17, 18, 25, 33, 35, 37, 38]
def laws_FnInstructionsOfTiles.l6 (k : Nat) (x0 : LI) (x1 : LI) (x2 : LN) (x3 : Int) (x4 : Int) (x5 : Int) (x6 : LI) (x7 : LI) (x8 : Bool) (x9 : ByteArray) (x10 : Int) (x11 : Int) (x12 : Int) (x13 : Int) := gl 5 6 laws_FnInstructionsOfTiles.E laws_FnInstructionsOfTiles.T laws_FnInstructionsOfTiles.g k [(0, (.lst (.i .u8) x0)), (1, (.lst (.i .u8) x1)), (5, (.lst nT x2)), (6, (.i .i64 x3)), (7, (.i .i64 x4)), (8, (.i .i64 x5)), (9, (.lst iT x6)), (10, (.ptr 5000 0)), (20, (.lst iT x7)), (21, (.b x8))] [(5000, (.box [(.s x9), (.i .i64 x10), (.i .i64 x11), (.i .i64 x12), (.i .i64 x13)]))] [5, 6, 8, 10, 11, 13, 16, 17, 18, 25, 33, 35, 37, 38]
def laws_FnInstructionsOfTiles.l7 (k : Nat) (x0 : LI) (x1 : LI) (x2 : LN) (x3 : Int) (x4 : Int) (x5 : LI) (x6 : LI) (x7 : Bool) (x8 : Int) (x9 : Bool) (x10 : ByteArray) (x11 : Int) (x12 : Int) (x13 : Int) (x14 : Int) := gl 5 7 laws_FnInstructionsOfTiles.E laws_FnInstructionsOfTiles.T laws_FnInstructionsOfTiles.g k [(0, (.lst (.i .u8) x0)), (1, (.lst (.i .u8) x1)), (5, (.lst nT x2)), (6, (.i .i64 x3)), (8, (.i .i64 x4)), (9, (.lst iT x5)), (10, (.ptr 5000 0)), (20, (.lst iT x6)), (21, (.b x7)), (22, (.i .i64 x8)), (23, (.b x9))] [(5000, (.box [(.s x10), (.i .i64 x11), (.i .i64 x12), (.i .i64 x13), (.i .i64 x14)]))] [5, 6, 8, 10, 11, 13, 16, 17, 18, 25, 33, 35, 37, 38]
def laws_FnInstructionsOfTiles.l8 (k : Nat) (x0 : LI) (x1 : LI) (x2 : LN) (x3 : Int) (x4 : Int) (x5 : LI) (x6 : LI) (x7 : Bool) (x8 : Int) (x9 : Bool) (x10 : Int) (x11 : Bool) (x12 : ByteArray) (x13 : Int) (x14 : Int) (x15 : Int) (x16 : Int) := gl 5 8 laws_FnInstructionsOfTiles.E laws_FnInstructionsOfTiles.T laws_FnInstructionsOfTiles.g k [(0, (.lst (.i .u8) x0)), (1, (.lst (.i .u8) x1)), (5, (.lst nT x2)), (6, (.i .i64 x3)), (8, (.i .i64 x4)), (9, (.lst iT x5)), (10, (.ptr 5000 0)), (20, (.lst iT x6)), (21, (.b x7)), (22, (.i .i64 x8)), (23, (.b x9)), (24, (.i .i64 x10)), (25, (.b x11))] [(5000, (.box [(.s x12), (.i .i64 x13), (.i .i64 x14), (.i .i64 x15), (.i .i64 x16)]))] [5, 6, 8, 10, 11, 13, 16, 17, 18, 25, 33, 35, 37, 38]
def laws_FnInstructionsOfTiles.l9 (k : Nat) (x0 : LI) (x1 : LI) (x2 : LN) (x3 : Int) (x4 : Int) (x5 : LI) (x6 : LI) (x7 : Int) (x8 : ByteArray) (x9 : Int) (x10 : Int) (x11 : Int) (x12 : Int) := gl 5 9 laws_FnInstructionsOfTiles.E laws_FnInstructionsOfTiles.T laws_FnInstructionsOfTiles.g k [(0, (.lst (.i .u8) x0)), (1, (.lst (.i .u8) x1)), (5, (.lst nT x2)), (6, (.i .i64 x3)), (8, (.i .i64 x4)), (9, (.lst iT x5)), (10, (.ptr 5000 0)), (20, (.lst iT x6)), (26, (.i .i64 x7))] [(5000, (.box [(.s x8), (.i .i64 x9), (.i .i64 x10), (.i .i64 x11), (.i .i64 x12)]))] [5, 6, 8, 10, 11, 13, 16, 17, 18, 25, 33, 35, 37, 38]
def laws_FnInstructionsOfTiles.l10 (k : Nat) (x0 : LI) (x1 : LI) (x2 : LN) (x3 : Int) (x4 : Int) (x5 : LI) (x6 : LI) (x7 : Int) (x8 : LI) (x9 : Bool) (x10 : ByteArray) (x11 : Int) (x12 : Int) (x13 : Int) (x14 : Int) := gl 5 10 laws_FnInstructionsOfTiles.E laws_FnInstructionsOfTiles.T laws_FnInstructionsOfTiles.g k [(0, (.lst (.i .u8) x0)), (1, (.lst (.i .u8) x1)), (5, (.lst nT x2)), (6, (.i .i64 x3)), (8, (.i .i64 x4)), (9, (.lst iT x5)), (10, (.ptr 5000 0)), (20, (.lst iT x6)), (26, (.i .i64 x7)), (29, (.lst iT x8)), (30, (.b x9))] [(5000, (.box [(.s x10), (.i .i64 x11), (.i .i64 x12), (.i .i64 x13), (.i .i64 x14)]))] [5, 6, 8, 10, 11, 13, 16, 17, 18, 25, 33, 35, 37, 38]
def laws_FnInstructionsOfTiles.l11 (k : Nat) (x0 : LI) (x1 : LI) (x2 : LN) (x3 : Int) (x4 : Int) (x5 : LI) (x6 : LI) (x7 : Int) (x8 : LI) (x9 : Bool) (x10 : Bool) (x11 : LI) (x12 : Int) (x13 : Int) (x14 : ByteArray) (x15 : Int) (x16 : Int) (x17 : Int) (x18 : Int) (x19 : LI) := gl 5 11 laws_FnInstructionsOfTiles.E laws_FnInstructionsOfTiles.T laws_FnInstructionsOfTiles.g k [(0, (.lst (.i .u8) x0)), (1, (.lst (.i .u8) x1)), (5, (.lst nT x2)), (6, (.i .i64 x3)), (8, (.i .i64 x4)), (9, (.lst iT x5)), (10, (.ptr 5000 0)), (20, (.lst iT x6)), (26, (.i .i64 x7)), (29, (.lst iT x8)), (30, (.b x9)), (31, (.own 5001 0)), (32, (.b x10)), (172, (.lst iT x11)), (173, (.i .i64 x12)), (174, (.i .i64 x13))] [(5000, (.box [(.s x14), (.i .i64 x15), (.i .i64 x16), (.i .i64 x17), (.i .i64 x18)])), (5001, (.row 0 iT x19))] [5, 6, 8, 10, 11, 13, 16, 17, 18, 25, 33, 35, 37, 38]
def laws_FnInstructionsOfTiles.l12 (k : Nat) (x0 : LI) (x1 : LI) (x2 : LN) (x3 : Int) (x4 : Int) (x5 : LI) (x6 : LI) (x7 : Int) (x8 : LI) (x9 : Bool) (x10 : Bool) (x11 : Int) (x12 : Int) (x13 : LI) (x14 : Int) (x15 : Int) (x16 : Int) (x17 : Int) (x18 : ByteArray) (x19 : Int) (x20 : Int) (x21 : Int) (x22 : Int) (x23 : LI) := gl 5 12 laws_FnInstructionsOfTiles.E laws_FnInstructionsOfTiles.T laws_FnInstructionsOfTiles.g k [(0, (.lst (.i .u8) x0)), (1, (.lst (.i .u8) x1)), (5, (.lst nT x2)), (6, (.i .i64 x3)), (8, (.i .i64 x4)), (9, (.lst iT x5)), (10, (.ptr 5000 0)), (20, (.lst iT x6)), (26, (.i .i64 x7)), (29, (.lst iT x8)), (30, (.b x9)), (31, (.own 5001 0)), (32, (.b x10)), (33, (.i .i64 x11)), (34, (.i .i64 x12)), (172, (.lst iT x13)), (173, (.i .i64 x14)), (174, (.i .i64 x15)), (182, (.i .i64 x16)), (183, (.i .i64 x17))] [(5000, (.box [(.s x18), (.i .i64 x19), (.i .i64 x20), (.i .i64 x21), (.i .i64 x22)])), (5001, (.row 0 iT x23))] [5, 6, 8, 10, 11, 13, 16, 17, 18, 25, 33, 35, 37, 38]
def laws_FnInstructionsOfTiles.l15 (k : Nat) (x0 : LI) (x1 : LI) (x2 : LN) (x3 : Int) (x4 : Int) (x5 : LI) (x6 : LI) (x7 : Int) (x8 : LI) (x9 : Bool) (x10 : Bool) (x11 : ByteArray) (x12 : Int) (x13 : Int) (x14 : Int) (x15 : Int) (x16 : LI) := gl 5 15 laws_FnInstructionsOfTiles.E laws_FnInstructionsOfTiles.T laws_FnInstructionsOfTiles.g k [(0, (.lst (.i .u8) x0)), (1, (.lst (.i .u8) x1)), (5, (.lst nT x2)), (6, (.i .i64 x3)), (8, (.i .i64 x4)), (9, (.lst iT x5)), (10, (.ptr 5000 0)), (20, (.lst iT x6)), (26, (.i .i64 x7)), (29, (.lst iT x8)), (30, (.b x9)), (31, (.own 5001 0)), (32, (.b x10))] [(5000, (.box [(.s x11), (.i .i64 x12), (.i .i64 x13), (.i .i64 x14), (.i .i64 x15)])), (5001, (.row 0 iT x16))] [5, 6, 8, 10, 11, 13, 16, 17, 18, 25, 33, 35, 37, 38]
def laws_FnInstructionsOfTiles.l13 (k : Nat) (x0 : LI) (x1 : LI) (x2 : LN) (x3 : Int) (x4 : Int) (x5 : LI) (x6 : LI) (x7 : Int) (x8 : LI) (x9 : Bool) (x10 : Bool) (x11 : Int) (x12 : Int) (x13 : Int) (x14 : LI) (x15 : Int) (x16 : Int) (x17 : Int) (x18 : Int) (x19 : ByteArray) (x20 : Int) (x21 : Int) (x22 : Int) (x23 : Int) (x24 : LI) := gl 5 13 laws_FnInstructionsOfTiles.E laws_FnInstructionsOfTiles.T laws_FnInstructionsOfTiles.g k [(0, (.lst (.i .u8) x0)), (1, (.lst (.i .u8) x1)), (5, (.lst nT x2)), (6, (.i .i64 x3)), (8, (.i .i64 x4)), (9, (.lst iT x5)), (10, (.ptr 5000 0)), (20, (.lst iT x6)), (26, (.i .i64 x7)), (29, (.lst iT x8)), (30, (.b x9)), (31, (.own 5001 0)), (32, (.b x10)), (33, (.i .i64 x11)), (34, (.i .i64 x12)), (35, (.i .i64 x13)), (172, (.lst iT x14)), (173, (.i .i64 x15)), (174, (.i .i64 x16)), (182, (.i .i64 x17)), (183, (.i .i64 x18))] [(5000, (.box [(.s x19), (.i .i64 x20), (.i .i64 x21), (.i .i64 x22), (.i .i64 x23)])), (5001, (.row 0 iT x24))] [5, 6, 8, 10, 11, 13, 16, 17, 18, 25, 33, 35, 37, 38]
def laws_FnInstructionsOfTiles.l14 (k : Nat) (x0 : LI) (x1 : LI) (x2 : LN) (x3 : Int) (x4 : Int) (x5 : LI) (x6 : LI) (x7 : Int) (x8 : LI) (x9 : Bool) (x10 : Bool) (x11 : Int) (x12 : Int) (x13 : LI) (x14 : Int) (x15 : Int) (x16 : ByteArray) (x17 : Int) (x18 : Int) (x19 : Int) (x20 : Int) (x21 : LI) := gl 5 14 laws_FnInstructionsOfTiles.E laws_FnInstructionsOfTiles.T laws_FnInstructionsOfTiles.g k [(0, (.lst (.i .u8) x0)), (1, (.lst (.i .u8) x1)), (5, (.lst nT x2)), (6, (.i .i64 x3)), (8, (.i .i64 x4)), (9, (.lst iT x5)), (10, (.ptr 5000 0)), (20, (.lst iT x6)), (26, (.i .i64 x7)), (29, (.lst iT x8)), (30, (.b x9)), (31, (.own 5001 0)), (32, (.b x10)), (33, (.i .i64 x11)), (34, (.i .i64 x12)), (172, (.lst iT x13)), (173, (.i .i64 x14)), (174, (.i .i64 x15))] [(5000, (.box [(.s x16), (.i .i64 x17), (.i .i64 x18), (.i .i64 x19), (.i .i64 x20)])), (5001, (.row 0 iT x21))] [5, 6, 8, 10, 11, 13, 16, 17, 18, 25, 33, 35, 37, 38]
def laws_FnInstructionsOfTiles.l16 (k : Nat) (x0 : LI) (x1 : LI) (x2 : LN) (x3 : Int) (x4 : Int) (x5 : LI) (x6 : LI) (x7 : Int) (x8 : LI) (x9 : Bool) (x10 : Bool) (x11 : LI) (x12 : Bool) (x13 : ByteArray) (x14 : Int) (x15 : Int) (x16 : Int) (x17 : Int) := gl 5 16 laws_FnInstructionsOfTiles.E laws_FnInstructionsOfTiles.T laws_FnInstructionsOfTiles.g k [(0, (.lst (.i .u8) x0)), (1, (.lst (.i .u8) x1)), (5, (.lst nT x2)), (6, (.i .i64 x3)), (8, (.i .i64 x4)), (9, (.lst iT x5)), (10, (.ptr 5000 0)), (20, (.lst iT x6)), (26, (.i .i64 x7)), (29, (.lst iT x8)), (30, (.b x9)), (32, (.b x10)), (36, (.lst iT x11)), (37, (.b x12))] [(5000, (.box [(.s x13), (.i .i64 x14), (.i .i64 x15), (.i .i64 x16), (.i .i64 x17)]))] [5, 6, 8, 10, 11, 13, 16, 17, 18, 25, 33, 35, 37, 38]
theorem laws_FnInstructionsOfTiles.calls (k : Nat) (a0 : LI) (a1 : LI) {r : Bool} (h : laws_FnInstructionsOfTiles.f k a0 a1 = some r) : ACalls P0 5 [mkP false bL a0, mkP false bL a1] [] (enc0 cZ r) := n0 (fun k => (tabs_cons (laws_big.tok) (tabs_cons (laws_pSame.tok k) (tabs_cons (impl_TileCost.tok k) (tabs_cons (impl_TileParts.tok k) (tabs_cons (spec_DrawInstrOfTile.tok k) (tabs_cons (impl_InstrOfTile.tok k) (tabs_cons (spec_InstrOfTile.tok k) (tabs_cons (spec_DrawNeedsOf.tok k) (tabs_cons (impl_NeedsOf.tok k) (tabs_cons (spec_NeedsOf.tok k) (tabs_cons (impl_CostOfInstr.tok k) (tabs_cons (impl_IsInstr.tok k) (tabs_cons (impl_ValuesOf.tok k) (tabs_cons (impl_StepInstr.tok k) tabs_nil))))))))))))))) (by kernel_rfl) vk h
abbrev laws_FnInstructionsOfTiles.v (a0 : LI) (a1 : LI) := lim fun _ k => laws_FnInstructionsOfTiles.f k a0 a1
abbrev laws_FnInstructionsOfTiles.v0 (x0 : LI) (x1 : LI) (x2 : LN) (x3 : Int) (x4 : Int) (x5 : Int) (x6 : LI) (x7 : Bool) (x8 : ByteArray) (x9 : Int) (x10 : Int) (x11 : Int) (x12 : Int) := lim fun _ k => laws_FnInstructionsOfTiles.l0 k x0 x1 x2 x3 x4 x5 x6 x7 x8 x9 x10 x11 x12
abbrev laws_FnInstructionsOfTiles.v1 (x0 : LI) (x1 : LI) (x2 : LN) (x3 : Int) (x4 : Int) (x5 : Int) (x6 : LI) (x7 : Bool) (x8 : Bool) (x9 : ByteArray) (x10 : Int) (x11 : Int) (x12 : Int) (x13 : Int) (x14 : ByteArray) (x15 : Int) (x16 : Int) (x17 : Int) (x18 : Int) := lim fun _ k => laws_FnInstructionsOfTiles.l1 k x0 x1 x2 x3 x4 x5 x6 x7 x8 x9 x10 x11 x12 x13 x14 x15 x16 x17 x18
abbrev laws_FnInstructionsOfTiles.v2 (x0 : LI) (x1 : LI) (x2 : LN) (x3 : Int) (x4 : Int) (x5 : Int) (x6 : LI) (x7 : Bool) (x8 : ByteArray) (x9 : Int) (x10 : Int) (x11 : Int) (x12 : Int) := lim fun _ k => laws_FnInstructionsOfTiles.l2 k x0 x1 x2 x3 x4 x5 x6 x7 x8 x9 x10 x11 x12
abbrev laws_FnInstructionsOfTiles.v3 (x0 : LI) (x1 : LI) (x2 : LN) (x3 : Int) (x4 : Int) (x5 : Int) (x6 : LI) (x7 : Bool) (x8 : LN) (x9 : LI) (x10 : Bool) (x11 : ByteArray) (x12 : Int) (x13 : Int) (x14 : Int) (x15 : Int) (x16 : LI) := lim fun _ k => laws_FnInstructionsOfTiles.l3 k x0 x1 x2 x3 x4 x5 x6 x7 x8 x9 x10 x11 x12 x13 x14 x15 x16
abbrev laws_FnInstructionsOfTiles.v4 (x0 : LI) (x1 : LI) (x2 : LN) (x3 : Int) (x4 : Int) (x5 : Int) (x6 : LI) (x7 : Bool) (x8 : Bool) (x9 : LI) (x10 : Bool) (x11 : ByteArray) (x12 : Int) (x13 : Int) (x14 : Int) (x15 : Int) (x16 : LI) := lim fun _ k => laws_FnInstructionsOfTiles.l4 k x0 x1 x2 x3 x4 x5 x6 x7 x8 x9 x10 x11 x12 x13 x14 x15 x16
abbrev laws_FnInstructionsOfTiles.v5 (x0 : LI) (x1 : LI) (x2 : LN) (x3 : Int) (x4 : Int) (x5 : Int) (x6 : LI) (x7 : Bool) (x8 : ByteArray) (x9 : Int) (x10 : Int) (x11 : Int) (x12 : Int) := lim fun _ k => laws_FnInstructionsOfTiles.l5 k x0 x1 x2 x3 x4 x5 x6 x7 x8 x9 x10 x11 x12
abbrev laws_FnInstructionsOfTiles.v6 (x0 : LI) (x1 : LI) (x2 : LN) (x3 : Int) (x4 : Int) (x5 : Int) (x6 : LI) (x7 : LI) (x8 : Bool) (x9 : ByteArray) (x10 : Int) (x11 : Int) (x12 : Int) (x13 : Int) := lim fun _ k => laws_FnInstructionsOfTiles.l6 k x0 x1 x2 x3 x4 x5 x6 x7 x8 x9 x10 x11 x12 x13
abbrev laws_FnInstructionsOfTiles.v7 (x0 : LI) (x1 : LI) (x2 : LN) (x3 : Int) (x4 : Int) (x5 : LI) (x6 : LI) (x7 : Bool) (x8 : Int) (x9 : Bool) (x10 : ByteArray) (x11 : Int) (x12 : Int) (x13 : Int) (x14 : Int) := lim fun _ k => laws_FnInstructionsOfTiles.l7 k x0 x1 x2 x3 x4 x5 x6 x7 x8 x9 x10 x11 x12 x13 x14
abbrev laws_FnInstructionsOfTiles.v8 (x0 : LI) (x1 : LI) (x2 : LN) (x3 : Int) (x4 : Int) (x5 : LI) (x6 : LI) (x7 : Bool) (x8 : Int) (x9 : Bool) (x10 : Int) (x11 : Bool) (x12 : ByteArray) (x13 : Int) (x14 : Int) (x15 : Int) (x16 : Int) := lim fun _ k => laws_FnInstructionsOfTiles.l8 k x0 x1 x2 x3 x4 x5 x6 x7 x8 x9 x10 x11 x12 x13 x14 x15 x16
abbrev laws_FnInstructionsOfTiles.v9 (x0 : LI) (x1 : LI) (x2 : LN) (x3 : Int) (x4 : Int) (x5 : LI) (x6 : LI) (x7 : Int) (x8 : ByteArray) (x9 : Int) (x10 : Int) (x11 : Int) (x12 : Int) := lim fun _ k => laws_FnInstructionsOfTiles.l9 k x0 x1 x2 x3 x4 x5 x6 x7 x8 x9 x10 x11 x12
abbrev laws_FnInstructionsOfTiles.v10 (x0 : LI) (x1 : LI) (x2 : LN) (x3 : Int) (x4 : Int) (x5 : LI) (x6 : LI) (x7 : Int) (x8 : LI) (x9 : Bool) (x10 : ByteArray) (x11 : Int) (x12 : Int) (x13 : Int) (x14 : Int) := lim fun _ k => laws_FnInstructionsOfTiles.l10 k x0 x1 x2 x3 x4 x5 x6 x7 x8 x9 x10 x11 x12 x13 x14
abbrev laws_FnInstructionsOfTiles.v11 (x0 : LI) (x1 : LI) (x2 : LN) (x3 : Int) (x4 : Int) (x5 : LI) (x6 : LI) (x7 : Int) (x8 : LI) (x9 : Bool) (x10 : Bool) (x11 : LI) (x12 : Int) (x13 : Int) (x14 : ByteArray) (x15 : Int) (x16 : Int) (x17 : Int) (x18 : Int) (x19 : LI) := lim fun _ k => laws_FnInstructionsOfTiles.l11 k x0 x1 x2 x3 x4 x5 x6 x7 x8 x9 x10 x11 x12 x13 x14 x15 x16 x17 x18 x19
abbrev laws_FnInstructionsOfTiles.v12 (x0 : LI) (x1 : LI) (x2 : LN) (x3 : Int) (x4 : Int) (x5 : LI) (x6 : LI) (x7 : Int) (x8 : LI) (x9 : Bool) (x10 : Bool) (x11 : Int) (x12 : Int) (x13 : LI) (x14 : Int) (x15 : Int) (x16 : Int) (x17 : Int) (x18 : ByteArray) (x19 : Int) (x20 : Int) (x21 : Int) (x22 : Int) (x23 : LI) := lim fun _ k => laws_FnInstructionsOfTiles.l12 k x0 x1 x2 x3 x4 x5 x6 x7 x8 x9 x10 x11 x12 x13 x14 x15 x16 x17 x18 x19 x20 x21 x22 x23
abbrev laws_FnInstructionsOfTiles.v15 (x0 : LI) (x1 : LI) (x2 : LN) (x3 : Int) (x4 : Int) (x5 : LI) (x6 : LI) (x7 : Int) (x8 : LI) (x9 : Bool) (x10 : Bool) (x11 : ByteArray) (x12 : Int) (x13 : Int) (x14 : Int) (x15 : Int) (x16 : LI) := lim fun _ k => laws_FnInstructionsOfTiles.l15 k x0 x1 x2 x3 x4 x5 x6 x7 x8 x9 x10 x11 x12 x13 x14 x15 x16
abbrev laws_FnInstructionsOfTiles.v13 (x0 : LI) (x1 : LI) (x2 : LN) (x3 : Int) (x4 : Int) (x5 : LI) (x6 : LI) (x7 : Int) (x8 : LI) (x9 : Bool) (x10 : Bool) (x11 : Int) (x12 : Int) (x13 : Int) (x14 : LI) (x15 : Int) (x16 : Int) (x17 : Int) (x18 : Int) (x19 : ByteArray) (x20 : Int) (x21 : Int) (x22 : Int) (x23 : Int) (x24 : LI) := lim fun _ k => laws_FnInstructionsOfTiles.l13 k x0 x1 x2 x3 x4 x5 x6 x7 x8 x9 x10 x11 x12 x13 x14 x15 x16 x17 x18 x19 x20 x21 x22 x23 x24
abbrev laws_FnInstructionsOfTiles.v14 (x0 : LI) (x1 : LI) (x2 : LN) (x3 : Int) (x4 : Int) (x5 : LI) (x6 : LI) (x7 : Int) (x8 : LI) (x9 : Bool) (x10 : Bool) (x11 : Int) (x12 : Int) (x13 : LI) (x14 : Int) (x15 : Int) (x16 : ByteArray) (x17 : Int) (x18 : Int) (x19 : Int) (x20 : Int) (x21 : LI) := lim fun _ k => laws_FnInstructionsOfTiles.l14 k x0 x1 x2 x3 x4 x5 x6 x7 x8 x9 x10 x11 x12 x13 x14 x15 x16 x17 x18 x19 x20 x21
abbrev laws_FnInstructionsOfTiles.v16 (x0 : LI) (x1 : LI) (x2 : LN) (x3 : Int) (x4 : Int) (x5 : LI) (x6 : LI) (x7 : Int) (x8 : LI) (x9 : Bool) (x10 : Bool) (x11 : LI) (x12 : Bool) (x13 : ByteArray) (x14 : Int) (x15 : Int) (x16 : Int) (x17 : Int) := lim fun _ k => laws_FnInstructionsOfTiles.l16 k x0 x1 x2 x3 x4 x5 x6 x7 x8 x9 x10 x11 x12 x13 x14 x15 x16 x17
theorem laws_FnInstructionsOfTiles.vs (a0 : LI) (a1 : LI) {r} (h : (bd (laws_big.f a0 a1) fun r0 => (br r0 (some true) (bd (spec_DrawInstrOfTile.v a0) fun r1 => (bd (impl_InstrOfTile.v r1.1 r1.2.1 r1.2.2.1 r1.2.2.2.1 r1.2.2.2.2) fun r2 => (laws_FnInstructionsOfTiles.v0 a0 a1 r1.1 r1.2.1 r1.2.2.1 r1.2.2.2.1 r1.2.2.2.2 r2.2 r2.1.1 r2.1.2.1 r2.1.2.2.1 r2.1.2.2.2.1 r2.1.2.2.2.2))))) = some r) : laws_FnInstructionsOfTiles.v a0 a1 = some r := vq h
theorem laws_FnInstructionsOfTiles.v0s (x0 : LI) (x1 : LI) (x2 : LN) (x3 : Int) (x4 : Int) (x5 : Int) (x6 : LI) (x7 : Bool) (x8 : ByteArray) (x9 : Int) (x10 : Int) (x11 : Int) (x12 : Int) {r} (h : (bd (spec_InstrOfTile.v x2 x3 x4 x5 x6) fun r3 => (laws_FnInstructionsOfTiles.v1 x0 x1 x2 x3 x4 x5 x6 x7 r3.2 x8 x9 x10 x11 x12 r3.1.1 r3.1.2.1 r3.1.2.2.1 r3.1.2.2.2.1 r3.1.2.2.2.2)) = some r) : laws_FnInstructionsOfTiles.v0 x0 x1 x2 x3 x4 x5 x6 x7 x8 x9 x10 x11 x12 = some r := vq h
theorem laws_FnInstructionsOfTiles.v1s (x0 : LI) (x1 : LI) (x2 : LN) (x3 : Int) (x4 : Int) (x5 : Int) (x6 : LI) (x7 : Bool) (x8 : Bool) (x9 : ByteArray) (x10 : Int) (x11 : Int) (x12 : Int) (x13 : Int) (x14 : ByteArray) (x15 : Int) (x16 : Int) (x17 : Int) (x18 : Int) {r} (h : (br (Bool.not (x7 == x8)) (some false) (br (Bool.not ((x9 == x14) && ((x10 == x15) && ((x11 == x16) && ((x12 == x17) && ((x13 == x18) && true)))))) (some false) (laws_FnInstructionsOfTiles.v2 x0 x1 x2 x3 x4 x5 x6 x8 x9 x10 x11 x12 x13))) = some r) : laws_FnInstructionsOfTiles.v1 x0 x1 x2 x3 x4 x5 x6 x7 x8 x9 x10 x11 x12 x13 x14 x15 x16 x17 x18 = some r := vq h
theorem laws_FnInstructionsOfTiles.v2s (x0 : LI) (x1 : LI) (x2 : LN) (x3 : Int) (x4 : Int) (x5 : Int) (x6 : LI) (x7 : Bool) (x8 : ByteArray) (x9 : Int) (x10 : Int) (x11 : Int) (x12 : Int) {r} (h : (bd (spec_DrawNeedsOf.v x1) fun r4 => (bd (impl_NeedsOf.v r4.1 r4.2) fun r5 => (laws_FnInstructionsOfTiles.v3 x0 x1 x2 x3 x4 x5 x6 x7 r4.1 r4.2 r5.1.2 x8 x9 x10 x11 x12 r5.1.1))) = some r) : laws_FnInstructionsOfTiles.v2 x0 x1 x2 x3 x4 x5 x6 x7 x8 x9 x10 x11 x12 = some r := vq h
theorem laws_FnInstructionsOfTiles.v3s (x0 : LI) (x1 : LI) (x2 : LN) (x3 : Int) (x4 : Int) (x5 : Int) (x6 : LI) (x7 : Bool) (x8 : LN) (x9 : LI) (x10 : Bool) (x11 : ByteArray) (x12 : Int) (x13 : Int) (x14 : Int) (x15 : Int) (x16 : LI) {r} (h : (bd (spec_NeedsOf.v x8 x9) fun r6 => (laws_FnInstructionsOfTiles.v4 x0 x1 x2 x3 x4 x5 x6 x7 x10 r6.1 r6.2 x11 x12 x13 x14 x15 x16)) = some r) : laws_FnInstructionsOfTiles.v3 x0 x1 x2 x3 x4 x5 x6 x7 x8 x9 x10 x11 x12 x13 x14 x15 x16 = some r := vq h
theorem laws_FnInstructionsOfTiles.v4s (x0 : LI) (x1 : LI) (x2 : LN) (x3 : Int) (x4 : Int) (x5 : Int) (x6 : LI) (x7 : Bool) (x8 : Bool) (x9 : LI) (x10 : Bool) (x11 : ByteArray) (x12 : Int) (x13 : Int) (x14 : Int) (x15 : Int) (x16 : LI) {r} (h : (br (Bool.not (x8 == x10)) (some false) (bd (laws_pSame.v x16 x9) fun r7 => (br (Bool.not r7) (some false) (laws_FnInstructionsOfTiles.v5 x0 x1 x2 x3 x4 x5 x6 x7 x11 x12 x13 x14 x15)))) = some r) : laws_FnInstructionsOfTiles.v4 x0 x1 x2 x3 x4 x5 x6 x7 x8 x9 x10 x11 x12 x13 x14 x15 x16 = some r := vq h
theorem laws_FnInstructionsOfTiles.v5s (x0 : LI) (x1 : LI) (x2 : LN) (x3 : Int) (x4 : Int) (x5 : Int) (x6 : LI) (x7 : Bool) (x8 : ByteArray) (x9 : Int) (x10 : Int) (x11 : Int) (x12 : Int) {r} (h : (br (Bool.not x7) (some true) (bd (impl_TileParts.v x2 x3 x4) fun r8 => (laws_FnInstructionsOfTiles.v6 x0 x1 x2 x3 x4 x5 x6 r8.1 r8.2 x8 x9 x10 x11 x12))) = some r) : laws_FnInstructionsOfTiles.v5 x0 x1 x2 x3 x4 x5 x6 x7 x8 x9 x10 x11 x12 = some r := vq h
theorem laws_FnInstructionsOfTiles.v6s (x0 : LI) (x1 : LI) (x2 : LN) (x3 : Int) (x4 : Int) (x5 : Int) (x6 : LI) (x7 : LI) (x8 : Bool) (x9 : ByteArray) (x10 : Int) (x11 : Int) (x12 : Int) (x13 : Int) {r} (h : (bd (impl_TileCost.v x2 x3 x4) fun r9 => (laws_FnInstructionsOfTiles.v7 x0 x1 x2 x3 x5 x6 x7 x8 r9.1 r9.2 x9 x10 x11 x12 x13)) = some r) : laws_FnInstructionsOfTiles.v6 x0 x1 x2 x3 x4 x5 x6 x7 x8 x9 x10 x11 x12 x13 = some r := vq h
theorem laws_FnInstructionsOfTiles.v7s (x0 : LI) (x1 : LI) (x2 : LN) (x3 : Int) (x4 : Int) (x5 : LI) (x6 : LI) (x7 : Bool) (x8 : Int) (x9 : Bool) (x10 : ByteArray) (x11 : Int) (x12 : Int) (x13 : Int) (x14 : Int) {r} (h : (bd (impl_CostOfInstr.v (x10, (x11, (x12, (x13, x14))))) fun r10 => (laws_FnInstructionsOfTiles.v8 x0 x1 x2 x3 x4 x5 x6 x7 x8 x9 r10.1 r10.2 x10 x11 x12 x13 x14)) = some r) : laws_FnInstructionsOfTiles.v7 x0 x1 x2 x3 x4 x5 x6 x7 x8 x9 x10 x11 x12 x13 x14 = some r := vq h
theorem laws_FnInstructionsOfTiles.v8s (x0 : LI) (x1 : LI) (x2 : LN) (x3 : Int) (x4 : Int) (x5 : LI) (x6 : LI) (x7 : Bool) (x8 : Int) (x9 : Bool) (x10 : Int) (x11 : Bool) (x12 : ByteArray) (x13 : Int) (x14 : Int) (x15 : Int) (x16 : Int) {r} (h : (br (Bool.not x7) (some false) (br (Bool.not x9) (some false) (br (Bool.not x11) (some false) (br (x8 != x10) (some false) (br (x13 != x4) (some false) (bd (impl_IsInstr.v (x12, (x13, (x14, (x15, x16))))) fun r11 => (br (Bool.not r11) (some false) (laws_FnInstructionsOfTiles.v9 x0 x1 x2 x3 x4 x5 x6 (0 : Int) x12 x13 x14 x15 x16)))))))) = some r) : laws_FnInstructionsOfTiles.v8 x0 x1 x2 x3 x4 x5 x6 x7 x8 x9 x10 x11 x12 x13 x14 x15 x16 = some r := vq h
theorem laws_FnInstructionsOfTiles.v9s (x0 : LI) (x1 : LI) (x2 : LN) (x3 : Int) (x4 : Int) (x5 : LI) (x6 : LI) (x7 : Int) (x8 : ByteArray) (x9 : Int) (x10 : Int) (x11 : Int) (x12 : Int) {r} (h : (br (decide (x7 < 40)) (bd (impl_ValuesOf.v x2 (Int.tmod (wr .i64 ((wr .i64 (x7 * 23)) + (x0.length : Int))) (64 : Int)) (Int.tmod (wr .i64 ((wr .i64 (x7 * 13)) + (x1.length : Int))) (64 : Int))) fun r12 => (laws_FnInstructionsOfTiles.v10 x0 x1 x2 x3 x4 x5 x6 x7 r12.1 r12.2 x8 x9 x10 x11 x12)) (some true)) = some r) : laws_FnInstructionsOfTiles.v9 x0 x1 x2 x3 x4 x5 x6 x7 x8 x9 x10 x11 x12 = some r := vq h
theorem laws_FnInstructionsOfTiles.v10s (x0 : LI) (x1 : LI) (x2 : LN) (x3 : Int) (x4 : Int) (x5 : LI) (x6 : LI) (x7 : Int) (x8 : LI) (x9 : Bool) (x10 : ByteArray) (x11 : Int) (x12 : Int) (x13 : Int) (x14 : Int) {r} (h : (laws_FnInstructionsOfTiles.v11 x0 x1 x2 x3 x4 x5 x6 x7 x8 x9 true x6 (x6.length : Int) (0 : Int) x10 x11 x12 x13 x14 (List.replicate (Int.toNat (6 : Int)) (0 : Int))) = some r) : laws_FnInstructionsOfTiles.v10 x0 x1 x2 x3 x4 x5 x6 x7 x8 x9 x10 x11 x12 x13 x14 = some r := vq h
theorem laws_FnInstructionsOfTiles.v11s (x0 : LI) (x1 : LI) (x2 : LN) (x3 : Int) (x4 : Int) (x5 : LI) (x6 : LI) (x7 : Int) (x8 : LI) (x9 : Bool) (x10 : Bool) (x11 : LI) (x12 : Int) (x13 : Int) (x14 : ByteArray) (x15 : Int) (x16 : Int) (x17 : Int) (x18 : Int) (x19 : LI) {r} (h : (br (decide (x13 < x12)) (br (decide (0 ≤ x13)) (gt x11 x13.toNat fun r13 => (br (decide (0 ≤ x13)) (br (decide (x13 ≤ (x6.length : Int))) (laws_FnInstructionsOfTiles.v12 x0 x1 x2 x3 x4 x5 x6 x7 x8 x9 x10 x13 r13 x11 x12 x13 (((List.length (List.drop (Int.toNat (0 : Int)) (List.take x13.toNat x6))) : Nat) : Int) (0 : Int) x14 x15 x16 x17 x18 x19) none) none)) none) (laws_FnInstructionsOfTiles.v15 x0 x1 x2 x3 x4 x5 x6 x7 x8 x9 x10 x14 x15 x16 x17 x18 x19)) = some r) : laws_FnInstructionsOfTiles.v11 x0 x1 x2 x3 x4 x5 x6 x7 x8 x9 x10 x11 x12 x13 x14 x15 x16 x17 x18 x19 = some r := vq h
theorem laws_FnInstructionsOfTiles.v12s (x0 : LI) (x1 : LI) (x2 : LN) (x3 : Int) (x4 : Int) (x5 : LI) (x6 : LI) (x7 : Int) (x8 : LI) (x9 : Bool) (x10 : Bool) (x11 : Int) (x12 : Int) (x13 : LI) (x14 : Int) (x15 : Int) (x16 : Int) (x17 : Int) (x18 : ByteArray) (x19 : Int) (x20 : Int) (x21 : Int) (x22 : Int) (x23 : LI) {r} (h : (br (decide (x17 < x16)) (laws_FnInstructionsOfTiles.v13 x0 x1 x2 x3 x4 x5 x6 x7 x8 x9 x10 x11 x12 x17 x13 x14 x15 x16 x17 x18 x19 x20 x21 x22 x23) (laws_FnInstructionsOfTiles.v14 x0 x1 x2 x3 x4 x5 x6 x7 x8 x9 x10 x11 x12 x13 x14 x15 x18 x19 x20 x21 x22 x23)) = some r) : laws_FnInstructionsOfTiles.v12 x0 x1 x2 x3 x4 x5 x6 x7 x8 x9 x10 x11 x12 x13 x14 x15 x16 x17 x18 x19 x20 x21 x22 x23 = some r := vq h
theorem laws_FnInstructionsOfTiles.v15s (x0 : LI) (x1 : LI) (x2 : LN) (x3 : Int) (x4 : Int) (x5 : LI) (x6 : LI) (x7 : Int) (x8 : LI) (x9 : Bool) (x10 : Bool) (x11 : ByteArray) (x12 : Int) (x13 : Int) (x14 : Int) (x15 : Int) (x16 : LI) {r} (h : (bd (impl_StepInstr.v (x11, (x12, (x13, (x14, x15)))) x16) fun r14 => (laws_FnInstructionsOfTiles.v16 x0 x1 x2 x3 x4 x5 x6 x7 x8 x9 x10 r14.1 r14.2 x11 x12 x13 x14 x15)) = some r) : laws_FnInstructionsOfTiles.v15 x0 x1 x2 x3 x4 x5 x6 x7 x8 x9 x10 x11 x12 x13 x14 x15 x16 = some r := vq h
theorem laws_FnInstructionsOfTiles.v13s (x0 : LI) (x1 : LI) (x2 : LN) (x3 : Int) (x4 : Int) (x5 : LI) (x6 : LI) (x7 : Int) (x8 : LI) (x9 : Bool) (x10 : Bool) (x11 : Int) (x12 : Int) (x13 : Int) (x14 : LI) (x15 : Int) (x16 : Int) (x17 : Int) (x18 : Int) (x19 : ByteArray) (x20 : Int) (x21 : Int) (x22 : Int) (x23 : Int) (x24 : LI) {r} (h : (br x10 (br (decide (0 ≤ x13)) (gt x5 x13.toNat fun r15 => (br (decide (0 ≤ x11)) (gt x5 x11.toNat fun r16 => (br (r15 != r16) (laws_FnInstructionsOfTiles.v12 x0 x1 x2 x3 x4 x5 x6 x7 x8 x9 true x11 x12 x14 x15 x16 x17 (wr .i64 (x18 + 1)) x19 x20 x21 x22 x23 x24) (br (decide (0 ≤ x13)) (gt x6 x13.toNat fun r17 => (br (decide (0 ≤ r17)) (gt x8 r17.toNat fun r18 => (br (decide (0 ≤ x12)) (gt x8 x12.toNat fun r19 => (laws_FnInstructionsOfTiles.v12 x0 x1 x2 x3 x4 x5 x6 x7 x8 x9 (r18 == r19) x11 x12 x14 x15 x16 x17 (wr .i64 (x18 + 1)) x19 x20 x21 x22 x23 x24)) none)) none)) none))) none)) none) (laws_FnInstructionsOfTiles.v12 x0 x1 x2 x3 x4 x5 x6 x7 x8 x9 false x11 x12 x14 x15 x16 x17 (wr .i64 (x18 + 1)) x19 x20 x21 x22 x23 x24)) = some r) : laws_FnInstructionsOfTiles.v13 x0 x1 x2 x3 x4 x5 x6 x7 x8 x9 x10 x11 x12 x13 x14 x15 x16 x17 x18 x19 x20 x21 x22 x23 x24 = some r := vq h
theorem laws_FnInstructionsOfTiles.v14s (x0 : LI) (x1 : LI) (x2 : LN) (x3 : Int) (x4 : Int) (x5 : LI) (x6 : LI) (x7 : Int) (x8 : LI) (x9 : Bool) (x10 : Bool) (x11 : Int) (x12 : Int) (x13 : LI) (x14 : Int) (x15 : Int) (x16 : ByteArray) (x17 : Int) (x18 : Int) (x19 : Int) (x20 : Int) (x21 : LI) {r} (h : (br (decide (0 ≤ x11)) (gt x5 x11.toNat fun r20 => (br (decide (0 ≤ x12)) (gt x8 x12.toNat fun r21 => (br (decide (0 ≤ r20)) (br (decide (r20 < (x21.length : Int))) (gt x21 r20.toNat fun r22 => (laws_FnInstructionsOfTiles.v11 x0 x1 x2 x3 x4 x5 x6 x7 x8 x9 x10 x13 x14 (wr .i64 (x15 + 1)) x16 x17 x18 x19 x20 (List.set x21 r20.toNat r21))) none) none)) none)) none) = some r) : laws_FnInstructionsOfTiles.v14 x0 x1 x2 x3 x4 x5 x6 x7 x8 x9 x10 x11 x12 x13 x14 x15 x16 x17 x18 x19 x20 x21 = some r := vq h
theorem laws_FnInstructionsOfTiles.v16s (x0 : LI) (x1 : LI) (x2 : LN) (x3 : Int) (x4 : Int) (x5 : LI) (x6 : LI) (x7 : Int) (x8 : LI) (x9 : Bool) (x10 : Bool) (x11 : LI) (x12 : Bool) (x13 : ByteArray) (x14 : Int) (x15 : Int) (x16 : Int) (x17 : Int) {r} (h : (br (Bool.not x9) (some false) (br (Bool.not x12) (some false) (br x10 (br (decide (0 ≤ x4)) (gt x11 x4.toNat fun r23 => (br (decide (0 ≤ x3)) (gt x8 x3.toNat fun r24 => (br (r23 != r24) (some false) (laws_FnInstructionsOfTiles.v9 x0 x1 x2 x3 x4 x5 x6 (wr .i64 (x7 + 1)) x13 x14 x15 x16 x17))) none)) none) (laws_FnInstructionsOfTiles.v9 x0 x1 x2 x3 x4 x5 x6 (wr .i64 (x7 + 1)) x13 x14 x15 x16 x17)))) = some r) : laws_FnInstructionsOfTiles.v16 x0 x1 x2 x3 x4 x5 x6 x7 x8 x9 x10 x11 x12 x13 x14 x15 x16 x17 = some r := vq h
end
end Go.Proofs.YtokdmaoconegkaaGreat.Am
end
section
/- The law FnInstructionsOfTiles, in plain Lean. -/
namespace Go.Proofs.YtokdmaoconegkaaGreat.Am
open Go
set_option linter.unusedVariables false
set_option linter.unusedSimpArgs false

/-! ### the draws -/
theorem drawTile_v {l : List Int} (h : Bytes l) : ∃ (e : List Nd) (i t : Int), spec_DrawTileParts.v l = some (e, i, t) ∧ e.length ≤ 60 := by
  obtain ⟨e, c, he, hl, hc⟩ := trees_d h.cu (by omega)
  obtain ⟨r1, c1, e1, hr1, hc1⟩ := pick_d (IntKind.wrap .i64 ((e.length : Int) + 2)) hc (by omega)
  obtain ⟨r2, c2, e2, hr2, hc2⟩ := pick_d 15 hc1 (by omega)
  have w2 : IntKind.wrap .i64 ((e.length : Int) + 2) = (e.length : Int) + 2 := wrap_ok (by omega) (by omega)
  have h1 := hr1.2 (by rw [w2]; omega)
  rw [w2] at h1
  have w1 : IntKind.wrap .i64 (r1 - 1) = r1 - 1 := wrap_ok (by omega) (by omega)
  cases ht : treeOk e with
  | false =>
    refine ⟨e, IntKind.wrap .i64 (r1 - 1), IntKind.wrap .i64 (r2 - 1), spec_DrawTileParts.vs _ ?_, hl⟩
    rw [he, bd_s]; dsimp only
    rw [e1, bd_s]; dsimp only
    rw [e2, bd_s, cvTree_v (by omega), bd_s, ht]; rfl
  | true =>
    obtain ⟨hn, g1, g24, _⟩ := treeOk_parts ht
    cases hi : inB (IntKind.wrap .i64 (r1 - 1)) 0 (IntKind.wrap .i64 ((e.length : Int) - 1)) with
    | false =>
      refine ⟨e, IntKind.wrap .i64 (r1 - 1), IntKind.wrap .i64 (r2 - 1), spec_DrawTileParts.vs _ ?_, hl⟩
      rw [he, bd_s]; dsimp only
      rw [e1, bd_s]; dsimp only
      rw [e2, bd_s, cvTree_v (by omega), bd_s, ht, br_t rfl, l1In_f, bd_s, hi]; rfl
    | true =>
      obtain ⟨b5, c5, e5, _, hc5⟩ := one_d 3 hc2 (by omega)
      cases b5 with
      | true =>
        refine ⟨e, IntKind.wrap .i64 (r1 - 1), IntKind.wrap .i64 (r2 - 1), spec_DrawTileParts.vs _ ?_, hl⟩
        rw [he, bd_s]; dsimp only
        rw [e1, bd_s]; dsimp only
        rw [e2, bd_s, cvTree_v (by omega), bd_s, ht, br_t rfl, l1In_f, bd_s, hi, br_t rfl, e5, bd_s]; rfl
      | false =>
        have hi' := hi
        rw [w1, w_len (by omega)] at hi'
        obtain ⟨a0, a1⟩ := inB_iff.1 hi'
        obtain ⟨n, hnn⟩ : ∃ n : Nat, r1 - 1 = (n : Int) := ⟨(r1 - 1).toNat, by omega⟩
        have hnl : n < e.length := by omega
        have hm := List.length_pos_iff.2 (tl_some hn hnl)
        obtain ⟨r7, c7, e7, hr7, _⟩ := pick_d ((tl e n 13).length : Int) hc5 (by omega)
        have h7 := hr7.2 (by omega)
        have hlt : r7.toNat < (tl e n 13).length := by omega
        refine ⟨e, (n : Int), (tl e n 13)[r7.toNat], spec_DrawTileParts.vs _ ?_, hl⟩
        rw [he, bd_s]; dsimp only
        rw [e1, bd_s]; dsimp only
        rw [e2, bd_s, cvTree_v (by omega), bd_s, ht, br_t rfl, l1In_f, bd_s, hi, br_t rfl, e5, bd_s, brn_f, w1, hnn, cvTiles_v hn hnl, bd_s]
        dsimp only
        rw [e7, bd_s, br_t (decide_eq_true hr7.1), gt_at _ hlt]
theorem draw_rounds (e : List Nd) (i t : Int) (m : Nat) (hm : m ≤ 2) : ∀ (d j : Nat) (c : Cur) (o : List Int), j + d = m → o.length = j → Cu (2 * (j : Int)) c → ∃ x regs, spec_DrawInstrOfTile.v0 e i t (m : Int) (j : Int) c.1 c.2.1 c.2.2 o = some (e, i, t, x, regs) ∧ regs.length ≤ 10 := by
  intro d
  induction d with
  | zero =>
    intro j c o hj ho hc
    obtain ⟨r9, c9, e9, h9, hc9⟩ := pick_d 10 hc (by omega)
    by_cases q0 : r9 = 0
    · obtain ⟨r10, c10, e10, _, hc10⟩ := pick_d 8 hc9 (by omega)
      obtain ⟨r11, c11, e11, _, _⟩ := pick_d 6 hc10 (by omega)
      refine ⟨r11, o ++ [IntKind.wrap .i64 (r10 - 1)], spec_DrawInstrOfTile.v0s _ _ _ _ _ _ _ _ _ ?_, by simp; omega⟩
      rw [br_f (decide_eq_false (by omega)), e9, bd_s]; dsimp only
      rw [br_t (by simp [q0]), e10, bd_s]; dsimp only
      rw [br_t (decide_eq_true (by simp; omega)), e11, bd_s]
    · by_cases q1 : r9 = 1
      · obtain ⟨r12, c12, e12, _, _⟩ := among_d [-1, 6] (by simp) hc9 (by omega)
        refine ⟨r12, o, spec_DrawInstrOfTile.v0s _ _ _ _ _ _ _ _ _ ?_, by omega⟩
        rw [br_f (decide_eq_false (by omega)), e9, bd_s]; dsimp only
        rw [br_f (by simp [q0]), br_t (by simp [q1]), e12, bd_s]
      · obtain ⟨r13, c13, e13, _, _⟩ := pick_d 6 hc9 (by omega)
        refine ⟨r13, o, spec_DrawInstrOfTile.v0s _ _ _ _ _ _ _ _ _ ?_, by omega⟩
        rw [br_f (decide_eq_false (by omega)), e9, bd_s]; dsimp only
        rw [br_f (by simp [q0]), br_f (by simp [q1]), e13, bd_s]
  | succ d ih =>
    intro j c o hj ho hc
    obtain ⟨r8, c8, e8, h8, hc8⟩ := pick_d 6 hc (by omega)
    obtain ⟨x, regs, h, hl⟩ := ih (j + 1) c8 (o ++ [r8]) (by omega) (by simp; omega) (hc8.mono (by omega))
    refine ⟨x, regs, spec_DrawInstrOfTile.v0s _ _ _ _ _ _ _ _ _ ?_, hl⟩
    rw [br_t (decide_eq_true (by omega)), e8, bd_s, br_t (decide_eq_true (by simp; omega)), next_ok j m (by omega) (by omega)]
    exact h
theorem drawInstr_v {l : List Int} (h : Bytes l) : ∃ (e : List Nd) (i t x : Int) (regs : List Int), spec_DrawInstrOfTile.v l = some (e, i, t, x, regs) ∧ e.length ≤ 60 ∧ regs.length ≤ 10 := by
  obtain ⟨e, i, t, hd, hl⟩ := drawTile_v h
  have hc := h.cu
  cases ha : atA e i t with
  | true =>
    have c' := ha
    unfold atA at c'
    rw [Bool.and_eq_true, Bool.and_eq_true, Bool.and_eq_true] at c'
    obtain ⟨k1, k2, k3, k4⟩ := c'
    obtain ⟨h1, h2, h3, _⟩ := treeOk_parts k1
    obtain ⟨i0, i1⟩ := inB_iff.1 k2
    obtain ⟨j, rfl⟩ := Int.eq_ofNat_of_zero_le i0
    obtain ⟨⟨p, q⟩, hm⟩ := Option.isSome_iff_exists.1 k4
    have hp := (tile_parts h1 (by omega) hm).1
    obtain ⟨x, regs, hx, hr⟩ := draw_rounds e (j : Int) t p.length hp p.length 0 (l, 0, 0) [] (by omega) rfl (hc.mono (by omega))
    refine ⟨e, (j : Int), t, x, regs, spec_DrawInstrOfTile.vs _ ?_, hl, hr⟩
    rw [hd, bd_s]; dsimp only
    rw [cvAt_v (by omega), bd_s, ha, br_t rfl, cvTile_v h1 (by omega), bd_s, hm]
    exact hx
  | false =>
    obtain ⟨r9, c9, e9, h9, hc9⟩ := pick_d 10 hc (by omega)
    by_cases q0 : r9 = 0
    · obtain ⟨r10, c10, e10, _, hc10⟩ := pick_d 8 hc9 (by omega)
      obtain ⟨r11, c11, e11, _, _⟩ := pick_d 6 hc10 (by omega)
      refine ⟨e, i, t, r11, [IntKind.wrap .i64 (r10 - 1)], spec_DrawInstrOfTile.vs _ ?_, hl, by simp⟩
      rw [hd, bd_s]; dsimp only
      rw [cvAt_v (by omega), bd_s, ha, br_f rfl, e9, bd_s]; dsimp only
      rw [br_t (by simp [q0]), e10, bd_s]; dsimp only
      rw [e11, bd_s]
    · by_cases q1 : r9 = 1
      · obtain ⟨r12, c12, e12, _, _⟩ := among_d [-1, 6] (by simp) hc9 (by omega)
        refine ⟨e, i, t, r12, [], spec_DrawInstrOfTile.vs _ ?_, hl, by simp⟩
        rw [hd, bd_s]; dsimp only
        rw [cvAt_v (by omega), bd_s, ha, br_f rfl, e9, bd_s]; dsimp only
        rw [br_f (by simp [q0]), br_t (by simp [q1]), e12, bd_s]
      · obtain ⟨r13, c13, e13, _, _⟩ := pick_d 6 hc9 (by omega)
        refine ⟨e, i, t, r13, [], spec_DrawInstrOfTile.vs _ ?_, hl, by simp⟩
        rw [hd, bd_s]; dsimp only
        rw [cvAt_v (by omega), bd_s, ha, br_f rfl, e9, bd_s]; dsimp only
        rw [br_f (by simp [q0]), br_f (by simp [q1]), e13, bd_s]

/-! ### the law -/
theorem valuesOf_v {e : List Nd} (ht : treeOk e = true) {a b : Int} (ha : word a) (hb : word b) : impl_ValuesOf.v e a b = some (valsP a b e, true) := by
  obtain ⟨h1, h2, h3, _⟩ := treeOk_parts ht
  have hx : exprOk e = true := by unfold treeOk at ht; rw [Bool.and_eq_true] at ht; exact ht.1
  have ar : impl_areRight.v e a b = some true := by
    refine impl_areRight.vs _ _ _ ?_
    rw [isExpr_v e (by omega), bd_s, hx, br_t rfl, isWord_f, bd_s, inB_iff.2 ha, br_t rfl, isWord_f, bd_s, inB_iff.2 hb]
  refine impl_ValuesOf.vs _ _ _ ?_
  rw [ar, bd_s, brn_t, values_v h1 (by omega) ha hb, bd_s]
theorem instrP_dst (n : Nd) (t dst A B w : Int) : (instrP n t dst A B w).2.1 = dst ∧ (instrP n t dst A B w).2.2.1 = A ∧ (instrP n t dst A B w).2.2.2.1 = B := by
  unfold instrP
  repeat' split
  all_goals exact ⟨rfl, rfl, rfl⟩
theorem zeros_regs : Regs (List.replicate (Int.toNat (6 : Int)) (0 : Int)) := ⟨by decide, fun x hx => by
  have := List.eq_of_mem_replicate hx
  subst this; exact ⟨by decide, by decide⟩⟩
section
variable {e : List Nd} {i : Nat} {t dst : Int} {p : List Int} {I : In5} {X0 X1 regs : List Int} {j : Nat} {a b : Int}
theorem fin15 (ht : treeOk e = true) (hi : i < e.length) (hS : Sem e i t p I) (hd : 0 ≤ dst ∧ dst ≤ 5) (hI : I.2.1 = dst) (ha : word a) (hb : word b) {fits : Bool} {w : List Int} (hw : Regs w)
    (hf : fits = true → (∀ y, p[0]? = some y → w.getD I.2.2.1.toNat 0 = vA e a b y) ∧ (∀ y, p[1]? = some y → w.getD I.2.2.2.1.toNat 0 = vA e a b y))
    (hj : j < 40) (next : laws_FnInstructionsOfTiles.v9 X0 X1 e (i : Int) dst regs p ((j + 1 : Nat) : Int) I.1 I.2.1 I.2.2.1 I.2.2.2.1 I.2.2.2.2 = some true) :
    laws_FnInstructionsOfTiles.v15 X0 X1 e (i : Int) dst regs p (j : Int) (valsP a b e) true fits I.1 I.2.1 I.2.2.1 I.2.2.2.1 I.2.2.2.2 w = some true := by
  have hn := (treeOk_parts ht).1
  have hvl := valsP_len a b e
  have hwl := hw.len
  refine laws_FnInstructionsOfTiles.v15s _ _ _ _ _ _ _ _ _ _ _ _ _ _ _ _ _ ?_
  rw [show (I.1, (I.2.1, (I.2.2.1, (I.2.2.2.1, I.2.2.2.2)))) = I from rfl, stepInstr_v I w (by omega), bd_s, hS.ok, hw.ok, Bool.and_self, if_pos rfl]
  refine laws_FnInstructionsOfTiles.v16s _ _ _ _ _ _ _ _ _ _ _ _ _ _ _ _ _ _ ?_
  rw [brn_t, brn_t, next_ok j 40 hj (by omega)]
  cases fits with
  | false => rw [br_f rfl]; exact next
  | true =>
    obtain ⟨f0, f1⟩ := hf rfl
    have hg : (stepP I w)[dst.toNat]? = some (vA e a b (i : Int)) := by
      unfold stepP
      rw [hI, List.getElem?_set, if_pos rfl, if_pos (by omega)]
      exact congrArg some (hS.val a b ha hb _ _ (hw.get _) (hw.get _) f0 f1)
    have hv : (valsP a b e)[Int.toNat (i : Int)]? = some (vA e a b (i : Int)) := getD_at (by omega) (by omega)
    rw [br_t rfl, br_t (decide_eq_true hd.1), gt_some hg, br_t (decide_eq_true (by omega)), gt_some hv, br_f (by simp)]
    exact next
theorem round11 (ht : treeOk e = true) (hi : i < e.length) (hS : Sem e i t p I) (hd : 0 ≤ dst ∧ dst ≤ 5) (hI : I.2.1 = dst) (hA : I.2.2.1 = regs.getD 0 0) (hB : I.2.2.2.1 = regs.getD 1 0) (hp : p.length ≤ 2) (hl : p.length = regs.length) (hr : regs.all (fun x => inB x 0 5) = true) (hpl : ∀ x ∈ p, 0 ≤ x ∧ x < e.length) (ha : word a) (hb : word b)
    (hj : j < 40) (next : laws_FnInstructionsOfTiles.v9 X0 X1 e (i : Int) dst regs p ((j + 1 : Nat) : Int) I.1 I.2.1 I.2.2.1 I.2.2.2.1 I.2.2.2.2 = some true) :
    laws_FnInstructionsOfTiles.v11 X0 X1 e (i : Int) dst regs p (j : Int) (valsP a b e) true true p (p.length : Int) 0 I.1 I.2.1 I.2.2.1 I.2.2.2.1 I.2.2.2.2 (List.replicate (Int.toNat (6 : Int)) (0 : Int)) = some true := by
  have hn := (treeOk_parts ht).1
  have hvl := valsP_len a b e
  have hz := zeros_regs
  have hzl := hz.len
  generalize List.replicate (Int.toNat (6 : Int)) (0 : Int) = Z at hz hzl
  have vw := fun y => vA_word (x0 := a) (x1 := b) hn ha hb y
  have w1 : IntKind.wrap .i64 ((0 : Int) + 1) = 1 := by decide
  have w2 : IntKind.wrap .i64 ((1 : Int) + 1) = 2 := by decide
  have t0 : Int.toNat (0 : Int) = 0 := rfl
  have t1 : Int.toNat (1 : Int) = 1 := rfl
  rcases two_of hp with h0 | ⟨y, h1⟩ | ⟨y, z, h2⟩
  · subst h0
    refine laws_FnInstructionsOfTiles.v11s _ _ _ _ _ _ _ _ _ _ _ _ _ _ _ _ _ _ _ _ ?_
    rw [br_f (by simp)]
    exact fin15 ht hi hS hd hI ha hb hz (fun _ => ⟨fun _ h => by simp at h, fun _ h => by simp at h⟩) hj next
  · subst h1
    obtain ⟨A, rfl, hA5⟩ := one_reg (by rw [← hl]; rfl) hr
    obtain ⟨A0, A1⟩ := inB_iff.1 hA5
    obtain ⟨y0, y1⟩ := hpl y (by simp)
    have gy : (valsP a b e)[y.toNat]? = some (vA e a b y) := getD_at y0 (by omega)
    have gz : ∃ u, Z[A.toNat]? = some u := ⟨_, List.getElem?_eq_getElem (by omega)⟩
    obtain ⟨u, gz⟩ := gz
    refine laws_FnInstructionsOfTiles.v11s _ _ _ _ _ _ _ _ _ _ _ _ _ _ _ _ _ _ _ _ ?_
    rw [br_t (by simp), br_t (by simp), gt_some (a := y) rfl, br_t (by simp), br_t (by simp)]
    refine laws_FnInstructionsOfTiles.v12s _ _ _ _ _ _ _ _ _ _ _ _ _ _ _ _ _ _ _ _ _ _ _ _ ?_
    rw [br_f (by simp)]
    refine laws_FnInstructionsOfTiles.v14s _ _ _ _ _ _ _ _ _ _ _ _ _ _ _ _ _ _ _ _ _ _ ?_
    rw [br_t (by simp), gt_some (a := A) rfl, br_t (decide_eq_true y0), gt_some gy, br_t (decide_eq_true A0), br_t (decide_eq_true (by omega)), gt_some gz, w1]
    refine laws_FnInstructionsOfTiles.v11s _ _ _ _ _ _ _ _ _ _ _ _ _ _ _ _ _ _ _ _ ?_
    rw [br_f (by simp)]
    refine fin15 ht hi hS hd hI ha hb (hz.set (vw y) _) (fun _ => ⟨fun x h => ?_, fun _ h => by simp at h⟩) hj next
    simp only [List.getElem?_cons_zero, Option.some.injEq] at h
    subst h
    rw [hA, List.getD_eq_getElem?_getD]
    show ((Z.set A.toNat (vA e a b y))[A.toNat]?).getD 0 = _
    rw [List.getElem?_set, if_pos rfl, if_pos (by omega)]; rfl
  · subst h2
    obtain ⟨A, B, rfl, hA5, hB5⟩ := two_regs (by rw [← hl]; rfl) hr
    obtain ⟨A0, A1⟩ := inB_iff.1 hA5
    obtain ⟨B0, B1⟩ := inB_iff.1 hB5
    obtain ⟨y0, y1⟩ := hpl y (by simp)
    obtain ⟨z0, z1⟩ := hpl z (by simp)
    have gy : (valsP a b e)[y.toNat]? = some (vA e a b y) := getD_at y0 (by omega)
    have gz : (valsP a b e)[z.toNat]? = some (vA e a b z) := getD_at z0 (by omega)
    obtain ⟨u, gu⟩ : ∃ u, Z[A.toNat]? = some u := ⟨_, List.getElem?_eq_getElem (by omega)⟩
    obtain ⟨v, gv⟩ : ∃ v, (Z.set A.toNat (vA e a b y))[B.toNat]? = some v := ⟨_, List.getElem?_eq_getElem (by rw [List.length_set]; omega)⟩
    have hz1 := hz.set (vw y) A.toNat
    have hz2 := hz1.set (vw z) B.toNat
    have done : ∀ fits : Bool, (fits = true → A = B → vA e a b y = vA e a b z) → laws_FnInstructionsOfTiles.v12 X0 X1 e (i : Int) dst [A, B] [y, z] (j : Int) (valsP a b e) true fits 1 z [y, z] 2 1 1 1 I.1 I.2.1 I.2.2.1 I.2.2.2.1 I.2.2.2.2 (Z.set A.toNat (vA e a b y)) = some true := fun fits hf => by
      refine laws_FnInstructionsOfTiles.v12s _ _ _ _ _ _ _ _ _ _ _ _ _ _ _ _ _ _ _ _ _ _ _ _ ?_
      rw [br_f (by simp)]
      refine laws_FnInstructionsOfTiles.v14s _ _ _ _ _ _ _ _ _ _ _ _ _ _ _ _ _ _ _ _ _ _ ?_
      rw [br_t (by simp), gt_some (a := B) rfl, br_t (decide_eq_true z0), gt_some gz, br_t (decide_eq_true B0), br_t (decide_eq_true (by rw [List.length_set]; omega)), gt_some gv, w2]
      refine laws_FnInstructionsOfTiles.v11s _ _ _ _ _ _ _ _ _ _ _ _ _ _ _ _ _ _ _ _ ?_
      rw [br_f (by simp)]
      refine fin15 ht hi hS hd hI ha hb hz2 (fun hft => ⟨fun x h => ?_, fun x h => ?_⟩) hj next
      · simp only [List.getElem?_cons_zero, Option.some.injEq] at h
        subst h
        rw [hA, List.getD_eq_getElem?_getD]
        show (((Z.set A.toNat (vA e a b y)).set B.toNat (vA e a b z))[A.toNat]?).getD 0 = _
        by_cases q : A = B
        · rw [← hf hft q, q, List.getElem?_set, if_pos rfl, if_pos (by rw [List.length_set]; omega)]; rfl
        · rw [List.getElem?_set, if_neg (by omega), List.getElem?_set, if_pos rfl, if_pos (by omega)]; rfl
      · simp only [List.getElem?_cons_succ, List.getElem?_cons_zero, Option.some.injEq] at h
        subst h
        rw [hB, List.getD_eq_getElem?_getD]
        show (((Z.set A.toNat (vA e a b y)).set B.toNat (vA e a b z))[B.toNat]?).getD 0 = _
        rw [List.getElem?_set, if_pos rfl, if_pos (by rw [List.length_set]; omega)]; rfl
    refine laws_FnInstructionsOfTiles.v11s _ _ _ _ _ _ _ _ _ _ _ _ _ _ _ _ _ _ _ _ ?_
    rw [br_t (by simp), br_t (by simp), gt_some (a := y) rfl, br_t (by simp), br_t (by simp)]
    refine laws_FnInstructionsOfTiles.v12s _ _ _ _ _ _ _ _ _ _ _ _ _ _ _ _ _ _ _ _ _ _ _ _ ?_
    rw [br_f (by simp)]
    refine laws_FnInstructionsOfTiles.v14s _ _ _ _ _ _ _ _ _ _ _ _ _ _ _ _ _ _ _ _ _ _ ?_
    rw [br_t (by simp), gt_some (a := A) rfl, br_t (decide_eq_true y0), gt_some gy, br_t (decide_eq_true A0), br_t (decide_eq_true (by omega)), gt_some gu, w1]
    refine laws_FnInstructionsOfTiles.v11s _ _ _ _ _ _ _ _ _ _ _ _ _ _ _ _ _ _ _ _ ?_
    rw [br_t (by simp), br_t (by simp), gt_some (a := z) rfl, br_t (by simp), br_t (by simp)]
    refine laws_FnInstructionsOfTiles.v12s _ _ _ _ _ _ _ _ _ _ _ _ _ _ _ _ _ _ _ _ _ _ _ _ ?_
    rw [br_t (by simp)]
    refine laws_FnInstructionsOfTiles.v13s _ _ _ _ _ _ _ _ _ _ _ _ _ _ _ _ _ _ _ _ _ _ _ _ _ ?_
    rw [br_t rfl, br_t (by simp), gt_some (a := A) rfl, br_t (by simp), gt_some (a := B) rfl, w1]
    by_cases q : A = B
    · rw [br_f (by simp [q]), br_t (by simp), gt_some (a := y) rfl, br_t (decide_eq_true y0), gt_some gy, br_t (decide_eq_true z0), gt_some gz]
      exact done _ (fun h _ => by simpa using h)
    · rw [br_t (by simp [q])]
      exact done _ (fun _ h => absurd h q)
theorem rounds9 (ht : treeOk e = true) (hi : i < e.length) (hS : Sem e i t p I) (hd : 0 ≤ dst ∧ dst ≤ 5) (hI : I.2.1 = dst) (hA : I.2.2.1 = regs.getD 0 0) (hB : I.2.2.2.1 = regs.getD 1 0) (hp : p.length ≤ 2) (hl : p.length = regs.length) (hr : regs.all (fun x => inB x 0 5) = true) (hpl : ∀ x ∈ p, 0 ≤ x ∧ x < e.length)
    (h0 : X0.length ≤ 1048576) (h1 : X1.length ≤ 1048576) : ∀ (d j : Nat), j + d = 40 → laws_FnInstructionsOfTiles.v9 X0 X1 e (i : Int) dst regs p (j : Int) I.1 I.2.1 I.2.2.1 I.2.2.2.1 I.2.2.2.2 = some true := by
  intro d
  induction d with
  | zero =>
    intro j hj
    refine laws_FnInstructionsOfTiles.v9s _ _ _ _ _ _ _ _ _ _ _ _ _ ?_
    rw [br_f (decide_eq_false (by omega))]
  | succ d ih =>
    intro j hj
    refine laws_FnInstructionsOfTiles.v9s _ _ _ _ _ _ _ _ _ _ _ _ _ ?_
    rw [br_t (decide_eq_true (by omega))]
    have g0 : IntKind.wrap .i64 (IntKind.wrap .i64 ((j : Int) * 23) + (X0.length : Int)) = (j : Int) * 23 + (X0.length : Int) := by
      rw [wrap_ok (x := (j : Int) * 23) (by omega) (by omega), wrap_ok (by omega) (by omega)]
    have g1 : IntKind.wrap .i64 (IntKind.wrap .i64 ((j : Int) * 13) + (X1.length : Int)) = (j : Int) * 13 + (X1.length : Int) := by
      rw [wrap_ok (x := (j : Int) * 13) (by omega) (by omega), wrap_ok (by omega) (by omega)]
    have b0 := tmod_b (x := (j : Int) * 23 + (X0.length : Int)) (a := 64) (by omega) (by omega)
    have b1 := tmod_b (x := (j : Int) * 13 + (X1.length : Int)) (a := 64) (by omega) (by omega)
    have ha : word (Int.tmod ((j : Int) * 23 + (X0.length : Int)) 64) := ⟨b0.1, by omega⟩
    have hb : word (Int.tmod ((j : Int) * 13 + (X1.length : Int)) 64) := ⟨b1.1, by omega⟩
    rw [g0, g1, valuesOf_v ht ha hb, bd_s]
    refine laws_FnInstructionsOfTiles.v10s _ _ _ _ _ _ _ _ _ _ _ _ _ _ _ ?_
    exact round11 ht hi hS hd hI hA hB hp hl hr hpl ha hb (by omega) (ih (j + 1) (by omega))
end
theorem beqB (x : ByteArray) : (x == x) = true := by
  cases x with
  | mk d => exact (beq_self_eq_true d : (d == d) = true)
theorem instrOfTiles_pure (x0 x1 : List Int) (q0 : Qd (.sl (.i .u8)) x0) (q1 : Qd (.sl (.i .u8)) x1) : ∃ k, laws_FnInstructionsOfTiles.f k x0 x1 = some true := by
  refine Ev.some (lim_ev (laws_FnInstructionsOfTiles.vs x0 x1 ?_))
  obtain ⟨r, hr, hb⟩ := big_f x0 x1
  rw [hr, bd_s]
  cases r with
  | true => rfl
  | false =>
    obtain ⟨hb0, hb1⟩ := hb rfl
    rw [br_f rfl]
    obtain ⟨e, i, t, dst, regs, hd, hel, hrl⟩ := drawInstr_v (bytes_of q0)
    rw [hd, bd_s]
    dsimp only
    rw [implInstr_v (by omega) i t dst (by omega), bd_s]
    refine laws_FnInstructionsOfTiles.v0s _ _ _ _ _ _ _ _ _ _ _ _ _ ?_
    rw [specInstr_v (by omega) i t dst (by omega), bd_s]
    refine laws_FnInstructionsOfTiles.v1s _ _ _ _ _ _ _ _ _ _ _ _ _ _ _ _ _ _ _ ?_
    rw [br_f (by simp), br_f (by simp [beqB])]
    refine laws_FnInstructionsOfTiles.v2s _ _ _ _ _ _ _ _ _ _ _ _ _ ?_
    obtain ⟨f, cov, hf, hfl, hcl⟩ := drawCover_v (bytes_of q1)
    rw [show spec_DrawNeedsOf.v x1 = some (f, cov) from spec_DrawNeedsOf.vs _ (by rw [hf, bd_s]), bd_s]
    dsimp only
    rw [implNeedsOf_v (by omega), bd_s]
    refine laws_FnInstructionsOfTiles.v3s _ _ _ _ _ _ _ _ _ _ _ _ _ _ _ _ _ ?_
    rw [specNeedsOf_v (by omega), bd_s]
    refine laws_FnInstructionsOfTiles.v4s _ _ _ _ _ _ _ _ _ _ _ _ _ _ _ _ _ ?_
    have hnl : (needsOfA f cov).1.length ≤ 1000000 := by
      unfold needsOfA
      split
      · rw [needL_len]; omega
      · simp
    rw [br_f (by simp), pSame_self _ hnl, bd_s, brn_t]
    refine laws_FnInstructionsOfTiles.v5s _ _ _ _ _ _ _ _ _ _ _ _ _ ?_
    unfold instrA
    split
    · rename_i hc
      obtain ⟨hat, z, hdst, hregs, hlen⟩ := hc
      unfold atA at hat
      rw [Bool.and_eq_true, Bool.and_eq_true, Bool.and_eq_true] at hat
      obtain ⟨k1, k2, k3, k4⟩ := hat
      obtain ⟨h1, h2, h3, _⟩ := treeOk_parts k1
      obtain ⟨i0, i1⟩ := inB_iff.1 k2
      obtain ⟨n, rfl⟩ := Int.eq_ofNat_of_zero_le i0
      obtain ⟨⟨p, q⟩, hm⟩ := Option.isSome_iff_exists.1 k4
      have hn : n < e.length := by omega
      have hp := tile_parts h1 hn hm
      have ask : askP e (n : Int) t = some (p, q) := by
        unfold askP
        rw [k1, k2, k3, ← hm]; rfl
      rw [hm] at hlen
      have hS := tile_sem h1 hn hm z hdst hlen hregs
      have hI := instrP_dst (ndAt e (n : Int)) t dst (regs.getD 0 0) (regs.getD 1 0) (wordOf e q)
      rw [hm, show (told (some (p, q))).2.1 = q from rfl]
      dsimp only
      generalize instrP (ndAt e (n : Int)) t dst (regs.getD 0 0) (regs.getD 1 0) (wordOf e q) = I at hS hI
      rw [brn_t, tileParts_v e (by omega), bd_s, ask]
      refine laws_FnInstructionsOfTiles.v6s _ _ _ _ _ _ _ _ _ _ _ _ _ _ ?_
      rw [tileCost_v e (by omega), bd_s, ask]
      refine laws_FnInstructionsOfTiles.v7s _ _ _ _ _ _ _ _ _ _ _ _ _ _ _ ?_
      rw [costOfInstr_v, bd_s]
      refine laws_FnInstructionsOfTiles.v8s _ _ _ _ _ _ _ _ _ _ _ _ _ _ _ _ _ ?_
      have hok : insOk (I.1, (I.2.1, (I.2.2.1, (I.2.2.2.1, I.2.2.2.2)))) = true := hS.ok
      have hcost : opCost I.1 = tCost e (n : Int) t := hS.cost
      rw [hok, if_pos rfl, isInstr_v, bd_s, hok]
      show br (!true) _ _ = _
      rw [brn_t]
      show br (!true) _ _ = _
      rw [brn_t]
      show br (!true) _ _ = _
      rw [brn_t]
      rw [br_f (by show (tCost e (n : Int) t != opCost I.1) = false; simp [hcost]), br_f (by simp [hI.1]), brn_t]
      exact rounds9 k1 hn hS (inB_iff.1 hdst) hI.1 hI.2.1 hI.2.2 hp.1 hlen hregs (fun x hx => by have := hp.2 x hx; omega) hb0 hb1 40 0 rfl
    · rfl
end Go.Proofs.YtokdmaoconegkaaGreat.Am
end
