/- Plain texts: what the functions answer (part 1). -/
import Derived.Test.YtafjengmkiepbaaGreatKP0
section
/- Code that is selected: the program's rounds make what the reference makes. -/
namespace Go.Proofs.YtafjengmkiepbaaGreat.Am
open Go
set_option linter.unusedVariables false
set_option linter.unusedSimpArgs false

/-! ### maps -/
theorem lookB_cons (k : Int) (x : Bool) (r : List (Int × Bool)) (n : Int) : lookB ((k, x) :: r) n = if n = k then x else lookB r n := by
  unfold lookB
  by_cases c : n = k
  · rw [List.find?_cons_of_pos (by simpa using c), if_pos c]
  · rw [List.find?_cons_of_neg (by simpa using c), if_neg c]
theorem putB_cons (k : Int) (y : Bool) (r : List (Int × Bool)) (n : Int) (x : Bool) : putB ((k, y) :: r) n x = if n = k then (n, x) :: r else (k, y) :: putB r n x := by
  unfold putB
  rw [List.findIdx?_cons]
  by_cases c : n = k
  · rw [if_pos c, if_pos (by simpa using c)]; rfl
  · rw [if_neg c, if_neg (by simpa using c)]
    cases r.findIdx? (fun p => decide (n = p.1)) <;> rfl
theorem look_put : ∀ (u : List (Int × Bool)) (n m : Int) (x : Bool), lookB (putB u n x) m = if m = n then x else lookB u m
  | [], n, m, x => by
    show lookB [(n, x)] m = _
    rw [lookB_cons]
  | (k, y) :: r, n, m, x => by
    rw [putB_cons]
    by_cases c : n = k
    · subst c
      rw [if_pos rfl, lookB_cons, lookB_cons]
      split <;> rfl
    · rw [if_neg c, lookB_cons, look_put r, lookB_cons]
      by_cases d : m = k
      · rw [if_pos d, if_pos d, if_neg (fun q => c (q.symm.trans d))]
      · rw [if_neg d, if_neg d]
theorem getD_set (us : List Bool) (i k : Nat) (x : Bool) : (us.set i x).getD k false = if i = k ∧ k < us.length then x else us.getD k false := by
  rw [List.getD_eq_getElem?_getD, List.getElem?_set, List.getD_eq_getElem?_getD]
  by_cases c : i = k
  · subst c
    by_cases d : i < us.length
    · simp [d]
    · simp [d]
  · simp [c]
theorem getD_setI (l : List Int) (i k : Nat) (x : Int) (h : i < l.length) : (l.set i x).getD k 0 = if i = k then x else l.getD k 0 := by
  rw [List.getD_eq_getElem?_getD, List.getElem?_set, List.getD_eq_getElem?_getD]
  by_cases c : i = k
  · subst c; simp [h]
  · simp [c]
/-- the map tells what the reference's row does -/
def Rel (us : List Bool) (u : List (Int × Bool)) : Prop := ∀ k : Nat, lookB u ((k : Int) + 2) = us.getD k false
def freeI : List Int → List (Int × Bool) → List (Int × Bool)
  | [], u => u
  | r :: rs, u => freeI rs (putB u r false)
theorem rel_free : ∀ (rs : List Int) (us : List Bool) (u : List (Int × Bool)), Rel us u → (∀ r ∈ rs, 0 ≤ r) → Rel (freeU rs us) (freeI rs u)
  | [], us, u, h, _ => h
  | r :: rs, us, u, h, h0 => by
    have hr := h0 r List.mem_cons_self
    unfold freeU freeI
    refine rel_free rs _ _ (fun k => ?_) fun x hx => h0 x (List.mem_cons_of_mem _ hx)
    rw [look_put, h k]
    by_cases c : 1 < r
    · rw [if_pos c, getD_set]
      by_cases d : (k : Int) + 2 = r
      · rw [if_pos d]
        split
        · rfl
        · rename_i q
          have e1 : (r - 2).toNat = k := by omega
          rw [List.getD_eq_getElem?_getD, List.getElem?_eq_none (Nat.le_of_not_lt fun h => q ⟨e1, h⟩)]; rfl
      · rw [if_neg d, if_neg (fun q => d (by omega))]
    · rw [if_neg c, if_neg (by omega)]
theorem rel_take {us : List Bool} {u : List (Int × Bool)} (h : Rel us u) {m : Nat} (hm : m < us.length) : Rel (us.set m true) (putB u ((m : Int) + 2) true) := fun k => by
  rw [look_put, h k, getD_set]
  by_cases c : m = k
  · subst c; rw [if_pos rfl, if_pos ⟨rfl, hm⟩]
  · rw [if_neg (by omega), if_neg (fun q => c q.1)]

/-! ### the rounds -/
section
variable {e : List Nd} {cover N : List Int}
theorem ord_mem (C : Cov e cover) (N : List Int) : ∀ (f i : Nat), i < e.length → 0 ≤ cvr cover i → ∀ j ∈ ordP e cover N f i, j ∈ dfs e cover f i
  | 0, _, _, _, j, h => by simp [ordP] at h
  | f + 1, i, hi, h0, j, h => by
    obtain ⟨p, q, T⟩ := C.til hi h0
    have dd : dfs e cover (f + 1) i = i :: (kids e cover i).flatMap (dfs e cover f) := rfl
    rw [dd, T.kd]
    rcases two_of T.two with e0 | ⟨a, e1⟩ | ⟨a, b, e2⟩
    · subst e0
      rw [ord_zero T.pr] at h
      simp only [List.mem_singleton] at h
      subst h; exact List.mem_cons_self
    · subst e1
      obtain ⟨k, rfl, hk, hu⟩ := T.low a (by simp)
      rw [ord_one T.pr] at h
      rcases List.mem_append.1 h with h | h
      · refine List.mem_cons_of_mem _ (List.mem_flatMap.2 ⟨k, by simp, ord_mem C N f k (by omega) hu j h⟩)
      · simp only [List.mem_singleton] at h
        subst h; exact List.mem_cons_self
    · subst e2
      obtain ⟨k, rfl, hk, hu⟩ := T.low a (by simp)
      obtain ⟨k', rfl, hk', hu'⟩ := T.low b (by simp)
      rw [ord_two T.pr] at h
      rcases List.mem_append.1 h with h | h
      · have h : j ∈ ordP e cover N f k ∨ j ∈ ordP e cover N f k' := by
          simp only [Int.toNat_natCast] at h
          split at h
          · exact (List.mem_append.1 h).symm
          · exact List.mem_append.1 h
        rcases h with h | h
        · exact List.mem_cons_of_mem _ (List.mem_flatMap.2 ⟨k, by simp, ord_mem C N f k (by omega) hu j h⟩)
        · exact List.mem_cons_of_mem _ (List.mem_flatMap.2 ⟨k', by simp, ord_mem C N f k' (by omega) hu' j h⟩)
      · simp only [List.mem_singleton] at h
        subst h; exact List.mem_cons_self
/-- a part is not below the other one -/
theorem ord_apart (C : Cov e cover) (N : List Int) {f i k k' : Nat} {q : List Int} (hi : i < e.length) (T : Til e cover i [(k : Int), (k' : Int)] q) (hk : k' < e.length) (hu : 0 ≤ cvr cover k') : k ∉ ordP e cover N f k' ∧ k ≠ k' := by
  have hd := kids_nodup (best := cover) C.ht hi
  rw [T.kd] at hd
  have hne : k ≠ k' := by
    intro q
    subst q
    simp at hd
  refine ⟨fun h => ?_, hne⟩
  have := dfs_und C.ht f k' hk k (ord_mem C N f k' hk hu k h)
  exact kid_apart C.ht hi (by rw [T.kd]; simp) (by rw [T.kd]; simp) hne this
theorem ord_apart' (C : Cov e cover) (N : List Int) {f i k k' : Nat} {q : List Int} (hi : i < e.length) (T : Til e cover i [(k : Int), (k' : Int)] q) (hk : k < e.length) (hu : 0 ≤ cvr cover k) : k' ∉ ordP e cover N f k := by
  have hd := kids_nodup (best := cover) C.ht hi
  rw [T.kd] at hd
  have hne : k' ≠ k := by
    intro q
    subst q
    simp at hd
  intro h
  have := dfs_und C.ht f k hk k' (ord_mem C N f k hk hu k' h)
  exact kid_apart C.ht hi (by rw [T.kd]; simp) (by rw [T.kd]; simp) hne this
section
variable {L : List Int} {root : Int} {R : (List In5 × (Int × Bool)) × Unit}
theorem get_at {at' : List Int} {k : Nat} (h : k < at'.length) : at'[k]? = some (at'.getD k 0) := by
  rw [List.getD_eq_getElem?_getD, List.getElem?_eq_getElem h]; rfl
theorem fin_sel (C : Cov e cover) (hLl : L.length ≤ 1000000) {i : Nat} (hi : i < e.length) {p q : List Int} (T : Til e cover i p q) (z : cvr cover i ≠ 0) {s : MSt} (G : Gm e.length s) (hroom : s.2.1.length < e.length) {u : List (Int × Bool)} {at' : List Int} (hR : Rel s.2.2 u) (hat : at'.length = e.length)
    {regs : List Int} (hregs : regs = p.map fun x => at'.getD x.toNat 0) (hr0 : ∀ r ∈ regs, 0 ≤ r) {pos : Nat} (hL : L[pos]? = some (i : Int))
    (K : ∀ u', Rel (finM e cover i regs s).2.2.2 u' → impl_selected.v0 e cover root (L.length : Int) ((pos + 1 : Nat) : Int) (finM e cover i regs s).2.1 u' (at'.set i (finM e cover i regs s).1) L = some R) :
    impl_selected.v0 e cover root (L.length : Int) (pos : Int) s.1 u at' L = some R := by
  have h24 := C.h24
  have hul := G.ul
  have huc := G.uc
  have hcl := G.cl
  have two := T.two
  have hcv := cvr_get C.len hi
  have hpl : pos < L.length := (List.getElem?_eq_some_iff.1 hL).1
  have hrl : regs.length = p.length := by rw [hregs]; simp
  have fl := freeU_len regs s.2.2
  have fc := freeU_count regs s.2.2
  have hff := firstF_lt (freeU regs s.2.2) (by omega)
  have hfl : firstF (freeU regs s.2.2) < (freeU regs s.2.2).length := (List.getElem?_eq_some_iff.1 hff).1
  have hRf := rel_free regs s.2.2 u hR hr0
  have hil : i < at'.length := by omega
  have set_get : ∀ v : Int, (at'.set i v)[i]? = some v := fun v => by rw [List.getElem?_set, if_pos rfl, if_pos hil]
  have search : ∀ (d m : Nat), m + d = firstF (freeU regs s.2.2) → impl_selected.v2 e cover root (i : Int) (L.length : Int) (pos : Int) s.1 (freeI regs u) (at'.set i ((m : Int) + 2)) regs L = some R := by
    intro d
    induction d with
    | zero =>
      intro m hm
      have hm : m = firstF (freeU regs s.2.2) := by omega
      have hlk : lookB (freeI regs u) ((m : Int) + 2) = false := by
        rw [hRf m, hm, List.getD_eq_getElem?_getD, hff]; rfl
      refine impl_selected.v2s _ _ _ _ _ _ _ _ _ _ _ ?_
      rw [br_t (by simp), br_t (by simpa using hil), Int.toNat_natCast, gt_some (set_get _), br_f hlk, br_t (by simp), br_t (by simpa using hil), gt_some (set_get _), br_t (by simp), gt_some hcv, br_t (by simp), br_t (by simpa using hil), gt_some (set_get _),
        impl_instr_v C.hn hi T.hm T.t0 T.t12 (op_size (ndAt_ok C.hn (by omega) (by omega))) _ (by omega), bd_s, br_t (decide_eq_true (by simp; omega)), next_ok pos _ hpl (by omega)]
      have := K (putB (freeI regs u) ((m : Int) + 2) true) (by unfold finM; dsimp only; rw [← hm]; exact rel_take hRf (by omega))
      unfold finM at this
      dsimp only at this
      rw [← hm, T.hm] at this
      exact this
    | succ d ih =>
      intro m hm
      have hlk : lookB (freeI regs u) ((m : Int) + 2) = true := by
        rw [hRf m, List.getD_eq_getElem?_getD, firstF_before _ m (by omega)]; rfl
      refine impl_selected.v2s _ _ _ _ _ _ _ _ _ _ _ ?_
      rw [br_t (by simp), br_t (by simpa using hil), Int.toNat_natCast, gt_some (set_get _), br_t hlk, br_t (by simp), br_t (by simpa using hil), gt_some (set_get _), br_t (by simp), br_t (by simpa using hil), gt_some (set_get _), List.set_set,
        wrap_ok (by omega) (by omega), show (m : Int) + 2 + 1 = ((m + 1 : Nat) : Int) + 2 by omega]
      exact ih (m + 1) (by omega)
  have parts : ∀ (d j : Nat) (u1 : List (Int × Bool)) (acc : List Int), j + d = p.length → acc ++ regs.drop j = regs → freeI (regs.drop j) u1 = freeI regs u → impl_selected.v1 e cover root (i : Int) (L.length : Int) (pos : Int) p (p.length : Int) (j : Int) s.1 u1 at' acc L = some R := by
    intro d
    induction d with
    | zero =>
      intro j u1 acc hj ha hf
      rw [List.drop_eq_nil_of_le (by omega)] at ha hf
      rw [List.append_nil] at ha
      have hf : u1 = freeI regs u := hf
      subst ha
      refine impl_selected.v1s _ _ _ _ _ _ _ _ _ _ _ _ _ _ ?_
      rw [br_f (decide_eq_false (by omega)), br_t (by simp), br_t (by simpa using hil), Int.toNat_natCast, gt_some (get_at hil), hf]
      exact search (firstF (freeU acc s.2.2)) 0 (by omega)
    | succ d ih =>
      intro j u1 acc hj ha hf
      have hjl : j < p.length := by omega
      have hjr : j < regs.length := by omega
      obtain ⟨k, hk, hki, _⟩ := T.low _ (List.getElem_mem hjl)
      have hrj : regs[j] = at'.getD k 0 := by
        subst hregs
        rw [List.getElem_map, hk, Int.toNat_natCast]
      have hal : acc.length ≤ 2 := by
        have := congrArg List.length ha
        rw [List.length_append] at this; omega
      rw [List.drop_eq_getElem_cons hjr] at ha hf
      refine impl_selected.v1s _ _ _ _ _ _ _ _ _ _ _ _ _ _ ?_
      have gk : p[j]? = some (k : Int) := by rw [List.getElem?_eq_getElem hjl, hk]
      rw [br_t (decide_eq_true (by omega)), br_t (by simp), Int.toNat_natCast, gt_some gk, br_t (by simp), br_t (decide_eq_true (by omega)), Int.toNat_natCast, gt_some (get_at (show k < at'.length by omega)), br_t (decide_eq_true (by simp; omega)), br_t (by simp), br_t (decide_eq_true (by omega)), gt_some (get_at (show k < at'.length by omega)), next_ok j _ hjl (by omega), ← hrj]
      exact ih (j + 1) _ _ (by omega) (by rw [List.append_assoc]; exact ha) hf
  refine impl_selected.v0s _ _ _ _ _ _ _ _ _ ?_
  rw [br_t (decide_eq_true (by omega)), br_t (by simp), br_t (decide_eq_true (by omega)), Int.toNat_natCast, gt_some hL, br_t (by simp), Int.toNat_natCast, gt_some hcv, br_f (by simpa using z), br_t (by simp), gt_some hcv, tileAt_v C.hn hi T.t0 T.t12, bd_s, tileI_eq C.hn hi T.t0 T.t12 T.hm]
  exact parts p.length 0 u [] (by omega) rfl rfl
theorem drop_more {l a r : List Int} {n : Nat} (h : l.drop n = a ++ r) : l.drop (n + a.length) = r := by
  rw [← List.drop_drop, h, List.drop_left']
  rfl
theorem node_sel (C : Cov e cover) (hN : N.length = e.length) (hLl : L.length ≤ 1000000) : ∀ (f i : Nat) (s : MSt) (u : List (Int × Bool)) (at' : List Int) (pos : Nat) (rest : List Int), i < e.length → i < f → 0 ≤ cvr cover i → Gm e.length s → s.2.1.length + (ordP e cover N f i).length ≤ e.length →
    Rel s.2.2 u → at'.length = e.length → L.drop pos = (ordP e cover N f i).map (fun j : Nat => (j : Int)) ++ rest →
    (∀ u1 at1, Rel (evS e cover N f i s).2.2.2 u1 → at1.length = e.length → at1.getD i 0 = (evS e cover N f i s).1 → (∀ j, j ∉ ordP e cover N f i → at1.getD j 0 = at'.getD j 0) →
      impl_selected.v0 e cover root (L.length : Int) ((pos + (ordP e cover N f i).length : Nat) : Int) (evS e cover N f i s).2.1 u1 at1 L = some R) →
    impl_selected.v0 e cover root (L.length : Int) (pos : Int) s.1 u at' L = some R
  | 0, i, s, u, at', pos, rest, hi, hf, h0, G, hroom, hR, hat, hL, K => by omega
  | f + 1, i, s, u, at', pos, rest, hi, hf, h0, G, hroom, hR, hat, hL, K => by
    have h24 := C.h24
    obtain ⟨p, q, T⟩ := C.til hi h0
    have hcv := cvr_get C.len hi
    by_cases z : cvr cover i = 0
    · have hp : p = [] := tile0 (by have := T.hm; rw [z] at this; exact this)
      subst hp
      rw [ord_zero T.pr] at hL hroom K
      have hev : evS e cover N (f + 1) i s = ((ndAt e (i : Int)).2.2.2, (s.1, (s.2.1 ++ [(i : Int)], s.2.2))) := by rw [ev_step, if_pos z]
      rw [hev] at K
      have hLp : L[pos]? = some (i : Int) := by
        have := congrArg (fun l => l[0]?) hL
        simpa using this
      have hpl : pos < L.length := (List.getElem?_eq_some_iff.1 hLp).1
      have gn : e[i]? = some (ndAt e (i : Int)) := by rw [ndAt_nat hi]; exact List.getElem?_eq_getElem hi
      refine impl_selected.v0s _ _ _ _ _ _ _ _ _ ?_
      rw [br_t (decide_eq_true (by omega)), br_t (by simp), br_t (decide_eq_true (by omega)), Int.toNat_natCast, gt_some hLp, br_t (by simp), Int.toNat_natCast, gt_some hcv, br_t (by simpa using z), br_t (by simp), gt_some gn, br_t (by simp), br_t (decide_eq_true (by omega)), gt_some (get_at (show i < at'.length by omega)), next_ok pos _ hpl (by omega)]
      exact K u (at'.set i (ndAt e (i : Int)).2.2.2) hR (by rw [List.length_set]; exact hat) (by rw [getD_setI _ _ _ _ (by omega), if_pos rfl]) (fun j hj => by rw [getD_setI _ _ _ _ (by omega), if_neg (fun q => hj (by subst q; simp))])
    · rcases two_of T.two with e0 | ⟨a, e1⟩ | ⟨a, b, e2⟩
      · subst e0
        rw [ord_zero T.pr] at hL hroom K
        simp only [List.length_singleton] at hroom
        have hev : evS e cover N (f + 1) i s = finM e cover i [] s := by rw [ev_step, if_neg z, T.pr]
        rw [hev] at K
        have hLp : L[pos]? = some (i : Int) := by
          have := congrArg (fun l => l[0]?) hL
          simpa using this
        exact fin_sel C hLl hi T z G (by omega) hR hat (regs := []) rfl (by simp) hLp fun u' hu' => K u' _ hu' (by rw [List.length_set]; exact hat) (by rw [getD_setI _ _ _ _ (by omega), if_pos rfl]) (fun j hj => by rw [getD_setI _ _ _ _ (by omega), if_neg (fun q => hj (by subst q; simp))])
      · subst e1
        obtain ⟨k, rfl, hk, hu⟩ := T.low a (by simp)
        rw [ord_one T.pr] at hL hroom K
        simp only [Int.toNat_natCast] at hL hroom K
        rw [List.length_append, List.length_singleton] at hroom
        have hev : evS e cover N (f + 1) i s = finM e cover i [(evS e cover N f k s).1] (evS e cover N f k s).2 := by rw [ev_step, if_neg z, T.pr]; rfl
        rw [hev] at K
        obtain ⟨_, d1⟩ := eval_v C hN f k s (by omega) (by omega) hu G (by omega)
        have l1 : (evS e cover N f k s).2.2.1.length = s.2.1.length + (ordP e cover N f k).length := by rw [d1.o]; simp
        rw [List.map_append, List.append_assoc] at hL
        refine node_sel C hN hLl f k s u at' pos _ (by omega) (by omega) hu G (by omega) hR hat hL fun u1 at1 r1 a1 g1 o1 => ?_
        have hd := drop_more hL
        rw [List.length_map] at hd
        have hLp : L[pos + (ordP e cover N f k).length]? = some (i : Int) := by
          have := congrArg (fun l => l[0]?) hd
          simpa using this
        refine fin_sel C hLl hi T z d1.g (by omega) r1 a1 (regs := [(evS e cover N f k s).1]) (by simp [← g1]) (by intro r hr; simp only [List.mem_singleton] at hr; subst hr; exact d1.r0) hLp fun u' hu' => ?_
        have := K u' (at1.set i (finM e cover i [(evS e cover N f k s).1] (evS e cover N f k s).2).1) hu' (by rw [List.length_set]; exact a1) (by rw [getD_setI _ _ _ _ (by omega), if_pos rfl]) (fun j hj => by
          rw [List.mem_append, not_or] at hj
          rw [getD_setI _ _ _ _ (by omega), if_neg (fun q => hj.2 (by subst q; simp)), o1 j hj.1])
        rw [List.length_append, List.length_singleton] at this
        exact this
      · subst e2
        obtain ⟨k, rfl, hk, hu⟩ := T.low a (by simp)
        obtain ⟨k', rfl, hk', hu'⟩ := T.low b (by simp)
        rw [ord_two T.pr] at hL hroom K
        simp only [Int.toNat_natCast] at hL hroom K
        rw [List.length_append, List.length_singleton] at hroom
        by_cases c : N.getD k 0 < N.getD k' 0
        · rw [if_pos c] at hL hroom K
          rw [List.length_append] at hroom
          have hev : evS e cover N (f + 1) i s = finM e cover i [(evS e cover N f k (evS e cover N f k' s).2).1, (evS e cover N f k' s).1] (evS e cover N f k (evS e cover N f k' s).2).2 := by
            rw [ev_step, if_neg z, T.pr]; dsimp only; rw [Int.toNat_natCast, Int.toNat_natCast, if_pos c]
          rw [hev] at K
          obtain ⟨_, d1⟩ := eval_v C hN f k' s (by omega) (by omega) hu' G (by omega)
          have l1 : (evS e cover N f k' s).2.2.1.length = s.2.1.length + (ordP e cover N f k').length := by rw [d1.o]; simp
          obtain ⟨_, d2⟩ := eval_v C hN f k (evS e cover N f k' s).2 (by omega) (by omega) hu d1.g (by omega)
          have l2 : (evS e cover N f k (evS e cover N f k' s).2).2.2.1.length = (evS e cover N f k' s).2.2.1.length + (ordP e cover N f k).length := by rw [d2.o]; simp
          rw [List.map_append, List.map_append, List.append_assoc, List.append_assoc] at hL
          refine node_sel C hN hLl f k' s u at' pos _ (by omega) (by omega) hu' G (by omega) hR hat hL fun u1 at1 r1 a1 g1 o1 => ?_
          have hd := drop_more hL
          rw [List.length_map] at hd
          refine node_sel C hN hLl f k (evS e cover N f k' s).2 u1 at1 _ _ (by omega) (by omega) hu d1.g (by omega) r1 a1 hd fun u2 at2 r2 a2 g2 o2 => ?_
          have hd2 := drop_more hd
          rw [List.length_map] at hd2
          have hLp : L[pos + (ordP e cover N f k').length + (ordP e cover N f k).length]? = some (i : Int) := by
            have := congrArg (fun l => l[0]?) hd2
            simpa using this
          have g1' : at2.getD k' 0 = (evS e cover N f k' s).1 := by rw [o2 k' (ord_apart' C N hi T (by omega) hu), g1]
          refine fin_sel C hLl hi T z d2.g (by omega) r2 a2 (regs := [(evS e cover N f k (evS e cover N f k' s).2).1, (evS e cover N f k' s).1]) (by simp only [List.map_cons, List.map_nil, Int.toNat_natCast]; rw [g1', g2]) (by
            intro r hr; simp only [List.mem_cons, List.not_mem_nil, or_false] at hr
            rcases hr with hr | hr
            · subst hr; exact d2.r0
            · subst hr; exact d1.r0) hLp fun u' hu' => ?_
          have := K u' (at2.set i (finM e cover i [(evS e cover N f k (evS e cover N f k' s).2).1, (evS e cover N f k' s).1] (evS e cover N f k (evS e cover N f k' s).2).2).1) hu' (by rw [List.length_set]; exact a2) (by rw [getD_setI _ _ _ _ (by omega), if_pos rfl]) (fun j hj => by
            rw [List.mem_append, List.mem_append, not_or, not_or] at hj
            rw [getD_setI _ _ _ _ (by omega), if_neg (fun q => hj.2 (by subst q; simp)), o2 j hj.1.2, o1 j hj.1.1])
          rw [List.length_append, List.length_append, List.length_singleton] at this
          rw [show pos + (ordP e cover N f k').length + (ordP e cover N f k).length + 1 = pos + ((ordP e cover N f k').length + (ordP e cover N f k).length + 1) by omega]
          exact this
        · rw [if_neg c] at hL hroom K
          rw [List.length_append] at hroom
          have hev : evS e cover N (f + 1) i s = finM e cover i [(evS e cover N f k s).1, (evS e cover N f k' (evS e cover N f k s).2).1] (evS e cover N f k' (evS e cover N f k s).2).2 := by
            rw [ev_step, if_neg z, T.pr]; dsimp only; rw [Int.toNat_natCast, Int.toNat_natCast, if_neg c]
          rw [hev] at K
          obtain ⟨_, d1⟩ := eval_v C hN f k s (by omega) (by omega) hu G (by omega)
          have l1 : (evS e cover N f k s).2.2.1.length = s.2.1.length + (ordP e cover N f k).length := by rw [d1.o]; simp
          obtain ⟨_, d2⟩ := eval_v C hN f k' (evS e cover N f k s).2 (by omega) (by omega) hu' d1.g (by omega)
          have l2 : (evS e cover N f k' (evS e cover N f k s).2).2.2.1.length = (evS e cover N f k s).2.2.1.length + (ordP e cover N f k').length := by rw [d2.o]; simp
          rw [List.map_append, List.map_append, List.append_assoc, List.append_assoc] at hL
          refine node_sel C hN hLl f k s u at' pos _ (by omega) (by omega) hu G (by omega) hR hat hL fun u1 at1 r1 a1 g1 o1 => ?_
          have hd := drop_more hL
          rw [List.length_map] at hd
          refine node_sel C hN hLl f k' (evS e cover N f k s).2 u1 at1 _ _ (by omega) (by omega) hu' d1.g (by omega) r1 a1 hd fun u2 at2 r2 a2 g2 o2 => ?_
          have hd2 := drop_more hd
          rw [List.length_map] at hd2
          have hLp : L[pos + (ordP e cover N f k).length + (ordP e cover N f k').length]? = some (i : Int) := by
            have := congrArg (fun l => l[0]?) hd2
            simpa using this
          have g1' : at2.getD k 0 = (evS e cover N f k s).1 := by rw [o2 k (ord_apart C N hi T (by omega) hu').1, g1]
          refine fin_sel C hLl hi T z d2.g (by omega) r2 a2 (regs := [(evS e cover N f k s).1, (evS e cover N f k' (evS e cover N f k s).2).1]) (by simp only [List.map_cons, List.map_nil, Int.toNat_natCast]; rw [g1', g2]) (by
            intro r hr; simp only [List.mem_cons, List.not_mem_nil, or_false] at hr
            rcases hr with hr | hr
            · subst hr; exact d1.r0
            · subst hr; exact d2.r0) hLp fun u' hu' => ?_
          have := K u' (at2.set i (finM e cover i [(evS e cover N f k s).1, (evS e cover N f k' (evS e cover N f k s).2).1] (evS e cover N f k' (evS e cover N f k s).2).2).1) hu' (by rw [List.length_set]; exact a2) (by rw [getD_setI _ _ _ _ (by omega), if_pos rfl]) (fun j hj => by
            rw [List.mem_append, List.mem_append, not_or, not_or] at hj
            rw [getD_setI _ _ _ _ (by omega), if_neg (fun q => hj.2 (by subst q; simp)), o2 j hj.1.2, o1 j hj.1.1])
          rw [List.length_append, List.length_append, List.length_singleton] at this
          rw [show pos + (ordP e cover N f k).length + (ordP e cover N f k').length + 1 = pos + ((ordP e cover N f k).length + (ordP e cover N f k').length + 1) by omega]
          exact this
end
/-- what is selected -/
def selP (e : List Nd) (cover : List Int) : List In5 × (Int × Bool) := if 4 < (needL e cover false).getD (e.length - 1) 0 then ([], (0, false)) else ((madeS e cover).2.1, ((madeS e cover).1, true))
theorem selP_len (C : Cov e cover) : (selP e cover).1.length ≤ 1000 := by
  unfold selP
  split
  · simp
  · obtain ⟨_, ho, G, _⟩ := make_v C
    have := G.cl
    rw [ho] at this
    have h1 := ord_le C (needL e cover false) e.length (e.length - 1) (by have := C.h1; omega) C.root
    have h24 := C.h24
    unfold orderL at this
    rw [List.length_map] at this
    show (madeS e cover).2.1.length ≤ 1000
    omega
theorem specSel_v (C : Cov e cover) : spec_seSelect.v e cover = some (selP e cover, ()) := by
  have h1 := C.h1
  have h24 := C.h24
  refine spec_seSelect.vs _ _ ?_
  unfold selP
  rw [seNeeds_v C.hn h1 h24 C.hc, bd_s, last_w h1 (by omega), br_t (by simp), Int.toNat_natCast, gt_some (needL_last h1)]
  by_cases c : 4 < (needL e cover false).getD (e.length - 1) 0
  · rw [if_pos c, br_t (decide_eq_true c)]
  · rw [if_neg c, br_f (decide_eq_false c), (make_v C).1, bd_s]
theorem implSel_v (C : Cov e cover) : impl_selected.v e cover = some (selP e cover, ()) := by
  have h1 := C.h1
  have h24 := C.h24
  have hN : (needL e cover false).length = e.length := needL_len
  refine impl_selected.vs _ _ ?_
  unfold selP
  rw [show true = (!false) from rfl, needs_v C.hn h1 h24 C.hc, bd_s, last_w h1 (by omega), br_t (by simp), br_t (decide_eq_true (by show ((e.length - 1 : Nat) : Int) < ((needL e cover false).length : Int); omega)), Int.toNat_natCast, gt_some (needL_last h1)]
  by_cases c : 4 < (needL e cover false).getD (e.length - 1) 0
  · rw [if_pos c, br_t (decide_eq_true c)]
  · rw [if_neg c, br_f (decide_eq_false c), br_t (by simp), br_t (decide_eq_true (by omega)), order_v C, bd_s, Int.toNat_natCast]
    have hol := ord_le C (needL e cover false) e.length (e.length - 1) (by omega) C.root
    refine node_sel C hN (L := orderL e cover) (by unfold orderL; rw [List.length_map]; omega) e.length (e.length - 1) ([], ([], List.replicate (e.length + 1) false)) [] (List.replicate e.length 0) 0 [] (by omega) (by omega) C.root ⟨by simp, by simp [List.count_replicate], by simp⟩ (by simpa using hol) (fun k => by
      rw [List.getD_eq_getElem?_getD, List.getElem?_replicate]
      split <;> rfl) (by simp) (by rw [List.drop_zero, List.append_nil]; rfl) fun u1 at1 r1 a1 g1 o1 => ?_
    refine impl_selected.v0s _ _ _ _ _ _ _ _ _ ?_
    rw [br_f (decide_eq_false (by unfold orderL; rw [List.length_map]; omega)), br_t (by simp), br_t (decide_eq_true (by omega)), Int.toNat_natCast, gt_some (get_at (show e.length - 1 < at1.length by omega)), g1]
    rfl
def selectA (e : List Nd) (cover : List Int) : List In5 × (Int × Bool) := if coverA e cover = true then selP e cover else ([], (0, false))
theorem selectA_len : (selectA e cover).1.length ≤ 1000 := by
  unfold selectA
  split
  · rename_i h; exact selP_len (cov_of h)
  · simp
theorem specSelect_v (hl : e.length ≤ 1048576) : spec_SelectCode.v e cover = some (selectA e cover, ()) := by
  refine spec_SelectCode.vs _ _ ?_
  rw [seGiven_v hl, bd_s]; unfold selectA
  by_cases c : coverA e cover = true
  · rw [if_pos c, c, brn_t, specSel_v (cov_of c), bd_s]
  · rw [if_neg c]; rw [Bool.not_eq_true] at c; rw [c]; rfl
theorem implSelect_v (hl : e.length ≤ 1048576) : impl_SelectCode.v e cover = some (selectA e cover, ()) := by
  refine impl_SelectCode.vs _ _ ?_
  rw [areCovered_v hl, bd_s]; unfold selectA
  by_cases c : coverA e cover = true
  · rw [if_pos c, c, brn_t, implSel_v (cov_of c), bd_s]
  · rw [if_neg c]; rw [Bool.not_eq_true] at c; rw [c]; rfl
end
end Go.Proofs.YtafjengmkiepbaaGreat.Am
end
section
/- What the laws do with rows of instructions: compared, written on, held. -/
namespace Go.Proofs.YtafjengmkiepbaaGreat.Am
open Go
set_option linter.unusedVariables false
set_option linter.unusedSimpArgs false

noncomputable def mkS : Int → List In5 → List In5
  | _, [] => []
  | k, _ :: r => (mt k, k + 1, k + 2, k + 3, k + 4) :: mkS (k + 5) r
theorem mkS_len : ∀ (l : List In5) (k : Int), (mkS k l).length = l.length
  | [], _ => rfl
  | _ :: r, k => by simp [mkS, mkS_len r]
theorem markInstrS_l : ∀ (r l : List In5) (k : Int), 0 ≤ k → k + 5 * r.length ≤ 1000000000 → l.length + r.length ≤ 1000000000 → laws_markInstrS.v0 k (l.length : Int) (l ++ r) = some (k + 5 * r.length, l ++ mkS k r)
  | [], l, k, h0, h1, h2 => laws_markInstrS.v0s _ _ _ (by simp [mkS])
  | n :: r, l, k, h0, h1, h2 => by
    simp only [List.length_cons] at h1 h2
    have ih := markInstrS_l r (l ++ [(mt k, k + 1, k + 2, k + 3, k + 4)]) (k + 5) (by omega) (by omega) (by simp; omega)
    refine laws_markInstrS.v0s _ _ _ ?_
    have w1 : IntKind.wrap .i64 (k + 1) = k + 1 := wrap_ok (by omega) (by omega)
    have w2 : IntKind.wrap .i64 (k + 1 + 1) = k + 2 := by rw [wrap_ok (by omega) (by omega)]; omega
    have w3 : IntKind.wrap .i64 (k + 2 + 1) = k + 3 := by rw [wrap_ok (by omega) (by omega)]; omega
    have w4 : IntKind.wrap .i64 (k + 3 + 1) = k + 4 := by rw [wrap_ok (by omega) (by omega)]; omega
    have w5 : IntKind.wrap .i64 (k + 4 + 1) = k + 5 := by rw [wrap_ok (by omega) (by omega)]; omega
    have wi : IntKind.wrap .i64 ((l.length : Int) + 1) = ((l.length + 1 : Nat) : Int) := by rw [wrap_ok (by omega) (by omega)]; rfl
    have hlt : ((l.length : Int) < ((l.length + (r.length + 1) : Nat) : Int)) := by omega
    simp only [w1, w2, w3, w4, w5, wi, mt_v k (by omega), Int.toNat_natCast, set_mid, gt_mid, bd_s, List.length_append, List.length_cons]
    simp only [br_if, hlt, decide_true, if_true, Int.natCast_nonneg]
    simp only [List.length_append, List.length_cons, List.length_nil, List.append_assoc, List.cons_append, List.nil_append, Nat.zero_add] at ih
    rw [ih]
    simp only [mkS, List.length_cons]
    congr 2
    omega
theorem markInstrS_v (k : Int) (r : List In5) (h0 : 0 ≤ k) (h1 : k + 5 * r.length ≤ 1000000000) : laws_markInstrS.v k r = some (k + 5 * r.length, mkS k r) :=
  laws_markInstrS.vs _ _ (by have := markInstrS_l r [] k h0 h1 (by simp; omega); simpa using this)
theorem heldInstrS_l : ∀ (r l : List In5) (k : Int), 0 ≤ k → k + 5 * r.length ≤ 1000000000 → l.length + r.length ≤ 1000000000 → laws_heldInstrS.v0 (l ++ mkS k r) k (l.length : Int) = some (k + 5 * r.length)
  | [], l, k, h0, h1, h2 => laws_heldInstrS.v0s _ _ _ (by simp [mkS])
  | n :: r, l, k, h0, h1, h2 => by
    simp only [List.length_cons] at h1 h2
    have ih := heldInstrS_l r (l ++ [(mt k, k + 1, k + 2, k + 3, k + 4)]) (k + 5) (by omega) (by omega) (by simp; omega)
    refine laws_heldInstrS.v0s _ _ _ ?_
    have w1 : IntKind.wrap .i64 (k + 1) = k + 1 := wrap_ok (by omega) (by omega)
    have w2 : IntKind.wrap .i64 (k + 1 + 1) = k + 2 := by rw [wrap_ok (by omega) (by omega)]; omega
    have w3 : IntKind.wrap .i64 (k + 2 + 1) = k + 3 := by rw [wrap_ok (by omega) (by omega)]; omega
    have w4 : IntKind.wrap .i64 (k + 3 + 1) = k + 4 := by rw [wrap_ok (by omega) (by omega)]; omega
    have w5 : IntKind.wrap .i64 (k + 4 + 1) = k + 5 := by rw [wrap_ok (by omega) (by omega)]; omega
    have wi : IntKind.wrap .i64 ((l.length : Int) + 1) = ((l.length + 1 : Nat) : Int) := by rw [wrap_ok (by omega) (by omega)]; rfl
    have hlt : ((l.length : Int) < ((l.length + (r.length + 1) : Nat) : Int)) := by omega
    simp only [mkS, w1, w2, w3, w4, w5, wi, mt_v k (by omega), Int.toNat_natCast, gt_mid, bd_s, List.length_append, List.length_cons, mkS_len]
    simp only [br_if, hlt, decide_true, if_true, Int.natCast_nonneg, seq_self, Bool.not_true, Bool.false_eq_true, if_false, bne_self_eq_false]
    simp only [List.length_append, List.length_cons, List.length_nil, List.append_assoc, List.cons_append, List.nil_append, Nat.zero_add] at ih
    rw [ih]
    congr 1
    omega
theorem heldInstrS_v (k : Int) (r : List In5) (h0 : 0 ≤ k) (h1 : k + 5 * r.length ≤ 1000000000) : laws_heldInstrS.v (mkS k r) k = some (k + 5 * r.length) :=
  laws_heldInstrS.vs _ _ (by have := heldInstrS_l r [] k h0 h1 (by simp; omega); simpa using this)
theorem eqInstrS_l (xs : List In5) (h : xs.length ≤ 1000000000) : ∀ (d i : Nat), i + d = xs.length → laws_eqInstrS.v0 xs xs (i : Int) = some true := by
  intro d
  induction d with
  | zero => intro i hi; exact laws_eqInstrS.v0s _ _ _ (br_f (by simp; omega))
  | succ d ih =>
    intro i hi
    have hlt : i < xs.length := by omega
    have he : laws_eqInstr.f xs[i] xs[i] = some true := by rw [laws_eqInstr.eq]; simp [seq_self]
    refine laws_eqInstrS.v0s _ _ _ ?_
    rw [br_t (by simpa using hlt), br_t (by simp), Int.toNat_natCast, gt_at _ hlt, br_t (by simp), gt_at _ hlt, he, bd_s, brn_t, next_ok i _ hlt (by omega)]
    exact ih (i + 1) (by omega)
theorem eqInstrS_v (xs : List In5) (h : xs.length ≤ 1000000000) : laws_eqInstrS.v xs xs = some true :=
  laws_eqInstrS.vs _ _ ((br_f (by simp)).trans (eqInstrS_l xs h xs.length 0 (by omega)))
end Go.Proofs.YtafjengmkiepbaaGreat.Am
end
section
/- The law laws_FnExactSelectCode over the machine of values. -/
set_option linter.unusedVariables false
set_option maxRecDepth 100000
set_option maxHeartbeats 1000000
namespace Go.Proofs.YtafjengmkiepbaaGreat.Am
open Go
open Go.IntKind renaming wrap → wr
noncomputable section
def laws_FnExactSelectCode.E := eN 4 []
def laws_FnExactSelectCode.g := g0 4 cZ [.id]
def laws_FnExactSelectCode.T (k : Nat) : Table := tabs [(8, (laws_szNodeS.tab k)), (10, (laws_toNodeS.tab k)), (11, (laws_toIntS.tab k)), (13, (laws_eqIntS.tab k)), (14, (laws_eqNodeS.tab k)), (15, (laws_markNodeS.tab k)), (16, (laws_markIntS.tab k)), (18, (spec_SelectCode.tab k)), (19, (impl_SelectCode.tab k)), (20, (laws_eqInstrS.tab k)), (21, (laws_markInstrS.tab k)), (22, (laws_heldInstrS.tab k))]
def laws_FnExactSelectCode.f (k : Nat) (a0 : LN) (a1 : LI) : Option Bool := gf 4 laws_FnExactSelectCode.E laws_FnExactSelectCode.T laws_FnExactSelectCode.g k [mkP false nL a0, mkP false iL a1] []
def laws_FnExactSelectCode.tab (k : Nat) : Tb := tabI [.v false nL, .v false iL] [] (enc0 cZ) (laws_FnExactSelectCode.f k)
theorem laws_FnExactSelectCode.calls (k : Nat) (a0 : LN) (a1 : LI) {r : Bool} (h : laws_FnExactSelectCode.f k a0 a1 = some r) : ACalls P0 4 [mkP false nL a0, mkP false iL a1] [] (enc0 cZ r) := n0 (fun k => (tabs_cons (laws_szNodeS.tok k) (tabs_cons (laws_toNodeS.tok k) (tabs_cons (laws_toIntS.tok k) (tabs_cons (laws_eqIntS.tok k) (tabs_cons (laws_eqNodeS.tok k) (tabs_cons (laws_markNodeS.tok k) (tabs_cons (laws_markIntS.tok k) (tabs_cons (spec_SelectCode.tok k) (tabs_cons (impl_SelectCode.tok k) (tabs_cons (laws_eqInstrS.tok k) (tabs_cons (laws_markInstrS.tok k) (tabs_cons (laws_heldInstrS.tok k) tabs_nil))))))))))))) (by kernel_rfl) vk h
abbrev laws_FnExactSelectCode.v (a0 : LN) (a1 : LI) := lim fun _ k => laws_FnExactSelectCode.f k a0 a1
theorem laws_FnExactSelectCode.vs (a0 : LN) (a1 : LI) {r} (h : (br (decide ((a1.length : Int) > 1048576)) (some true) (bd (laws_szNodeS.v a0 (1048576 : Int)) fun r0 => (br (decide (r0 < 0)) (some true) (bd (laws_toNodeS.v a0) fun r1 => (bd (laws_toIntS.v a1) fun r2 => (bd (spec_SelectCode.v r1.1 r2.1) fun r3 => (bd (laws_toNodeS.v a0) fun r4 => (bd (laws_toIntS.v a1) fun r5 => (bd (impl_SelectCode.v r4.1 r5.1) fun r6 => (bd (laws_eqInstrS.v r6.1.1 r3.1.1) fun r7 => (br (Bool.not r7) (some false) (br (r6.1.2.1 != r3.1.2.1) (some false) (br (Bool.not (r6.1.2.2 == r3.1.2.2)) (some false) (bd (laws_toNodeS.v a0) fun r8 => (bd (laws_eqNodeS.v r4.1 r8.1) fun r9 => (br (Bool.not r9) (some false) (bd (laws_toIntS.v a1) fun r10 => (bd (laws_eqIntS.v r5.1 r10.1) fun r11 => (br (Bool.not r11) (some false) (bd (laws_markNodeS.v (1 : Int) r4.1) fun r12 => (bd (laws_markIntS.v r12.1 r5.1) fun r13 => (br (decide (r13.1 < 0)) (some false) (bd (laws_eqInstrS.v r6.1.1 r3.1.1) fun r14 => (br (Bool.not r14) (some false) (br (r6.1.2.1 != r3.1.2.1) (some false) (br (Bool.not (r6.1.2.2 == r3.1.2.2)) (some false) (bd (laws_markInstrS.v (1 : Int) r6.1.1) fun r15 => (bd (laws_heldInstrS.v r15.2 (1 : Int)) fun r16 => (br (decide (r16 < 0)) (some false) (br (r16 != r15.1) (some false) (bd (laws_toNodeS.v a0) fun r17 => (bd (laws_toIntS.v a1) fun r18 => (bd (impl_SelectCode.v r17.1 r18.1) fun r19 => (bd (laws_eqInstrS.v r19.1.1 r3.1.1) fun r20 => (br (Bool.not r20) (some false) (br (r19.1.2.1 != r3.1.2.1) (some false) (br (Bool.not (r19.1.2.2 == r3.1.2.2)) (some false) (bd (laws_heldInstrS.v r15.2 (1 : Int)) fun r21 => (br (decide (r21 < 0)) (some false) (br (r21 != r15.1) (some false) (some true))))))))))))))))))))))))))))))))))))))))) = some r) : laws_FnExactSelectCode.v a0 a1 = some r := vq h
end
end Go.Proofs.YtafjengmkiepbaaGreat.Am
end
section
/- The law FnExactSelectCode, in plain Lean. -/
namespace Go.Proofs.YtafjengmkiepbaaGreat.Am
open Go
set_option linter.unusedVariables false
set_option linter.unusedSimpArgs false
theorem selectCode_pure (e : List Nd) (cover : List Int) (qe : Qd (.sl tyNd) e) (qc : Qd (.sl (.i .i64)) cover) : ∃ k, laws_FnExactSelectCode.f k e cover = some true := by
  refine Ev.some (lim_ev (laws_FnExactSelectCode.vs e cover ?_))
  by_cases h0 : (cover.length : Int) > 1048576
  · rw [br_t (by simpa using h0)]
  · obtain ⟨z, hz, _, hl⟩ := szNodeS_q e qe 1048576 (by omega) (by omega)
    by_cases h1 : z < 0
    · simp [h0, hz, h1]
    · have hl := hl (by omega)
      have hc : cover.length ≤ 1048576 := by omega
      have a3 := selectA_len (e := e) (cover := cover)
      have m0 := markNodeS_v 1 e (by omega) (by omega)
      have m1 := markIntS_v (1 + 4 * (e.length : Int)) cover (by omega) (by omega)
      have m2 := markInstrS_v 1 (selectA e cover).1 (by omega) (by omega)
      have m3 := heldInstrS_v 1 (selectA e cover).1 (by omega) (by omega)
      have m4 := eqInstrS_v (selectA e cover).1 (by omega)
      have n1 : ¬ (1 + 4 * (e.length : Int) + cover.length < 0) := by omega
      have n2 : ¬ (1 + 5 * ((selectA e cover).1.length : Int) < 0) := by omega
      simp [h0, hz, h1, toIntS_v cover hc, toNodeS_v e hl, specSelect_v hl, implSelect_v hl, eqNodeS_v e hl, eqIntS_v cover (by omega), m0, m1, m2, m3, m4, n1, n2]
end Go.Proofs.YtafjengmkiepbaaGreat.Am
end
