/- Plain texts: what the functions answer (part 1). -/
import Derived.Test.YtafjengmkiepbaaGreatKP0
section
/- The reference's queue of nodes that need tiles. -/
namespace Go.Proofs.YtafjengmkiepbaaGreat.Am
open Go
set_option linter.unusedVariables false
set_option linter.unusedSimpArgs false
section
variable {e : List Nd} {best : List Int}
/-- what is still to come, at most -/
def mq (l : List Int) : Nat := (l.map (fun x : Int => 3 ^ x.toNat)).sum
theorem mq_cons (x : Int) (l : List Int) : mq (x :: l) = 3 ^ x.toNat + mq l := by simp [mq]
theorem mq_app (l m : List Int) : mq (l ++ m) = mq l + mq m := by simp [mq]
theorem mq_len : ∀ l : List Int, l.length ≤ mq l
  | [] => by simp [mq]
  | x :: l => by
    have := mq_len l
    have : 0 < 3 ^ x.toNat := Nat.pow_pos (by omega)
    rw [mq_cons, List.length_cons]; omega
theorem mq_parts {n : Nat} {ps : List Int} (h2 : ps.length ≤ 2) (h : ∀ y ∈ ps, 0 ≤ y ∧ y < n) : mq ps + 1 ≤ 3 ^ n := by
  have one : ∀ y : Int, 0 ≤ y → y < n → 3 * 3 ^ y.toNat ≤ 3 ^ n := fun y h0 h1 => by
    rw [Nat.mul_comm, ← Nat.pow_succ]
    exact Nat.pow_le_pow_right (by omega) (by omega)
  have pos : 0 < 3 ^ n := Nat.pow_pos (by omega)
  rcases two_of h2 with e0 | ⟨a, e1⟩ | ⟨a, b, e2⟩
  · subst e0; simp [mq]; omega
  · subst e1
    have ha := h a (by simp)
    have := one a ha.1 ha.2
    have : 0 < 3 ^ a.toNat := Nat.pow_pos (by omega)
    simp [mq]; omega
  · subst e2
    have ha := h a (by simp)
    have hb := h b (by simp)
    have := one a ha.1 ha.2
    have := one b hb.1 hb.2
    have : 0 < 3 ^ a.toNat := Nat.pow_pos (by omega)
    simp [mq]; omega
structure Bfs (e : List Nd) (best o op : List Int) (k : Nat) : Prop where
  len : o.length = e.length
  le : k ≤ op.length
  ok : ∀ x ∈ op, 0 ≤ x ∧ x < e.length ∧ x.toNat ∈ need e best
  root : ((e.length - 1 : Nat) : Int) ∈ op
  val : ∀ j, j < e.length → o[j]? = some (if (j : Int) ∈ op.take k then cvr best j else -1)
  kid : ∀ x ∈ op.take k, ∀ y ∈ kids e best x.toNat, ((y : Nat) : Int) ∈ op
  size : k + mq (op.drop k) ≤ 282429536481
theorem Bfs.bound {o op : List Int} {k : Nat} (h : Bfs e best o op k) : op.length ≤ 282429536481 := by
  have h1 := mq_len (op.drop k)
  have h2 := h.size
  have h3 := h.le
  rw [List.length_drop] at h1
  omega
theorem Bfs.start (hn : nodesOk e 0 = true) (h1 : 1 ≤ e.length) (h24 : e.length ≤ 24) : Bfs e best (List.replicate e.length (-1)) [((e.length - 1 : Nat) : Int)] 0 :=
  ⟨by simp, by simp, fun x hx => by
    rw [List.mem_singleton] at hx
    subst hx
    exact ⟨by omega, by omega, by rw [Int.toNat_natCast]; exact need_root h1⟩, by simp, fun j hj => by simp [hj], fun x hx => by simp at hx, by
    have : 3 ^ (e.length - 1) ≤ 3 ^ 23 := Nat.pow_le_pow_right (by omega) (by omega)
    simp [mq]; omega⟩
theorem Bfs.step (hn : nodesOk e 0 = true) (h1 : 1 ≤ e.length) (hv : ∀ j, j < e.length → vld e best j = true) {o op : List Int} {k : Nat} (h : Bfs e best o op k) (hk : k < op.length) {i : Nat} (hi : op[k] = (i : Int)) :
    Bfs e best (o.set i (cvr best i)) (op ++ prts e i (cvr best i)) (k + 1) ∧ mq ((op ++ prts e i (cvr best i)).drop (k + 1)) < mq (op.drop k) := by
  have hx := h.ok _ (List.getElem_mem hk)
  rw [hi] at hx
  have hie : i < e.length := by omega
  have hp := prts_ok hn hie (cvr best i)
  have hin : i ∈ need e best := by have := hx.2.2; rw [Int.toNat_natCast] at this; exact this
  have hkid : kids e best i = (prts e i (cvr best i)).map Int.toNat := by unfold kids; rw [if_pos (hv i hie)]
  have htake : (op ++ prts e i (cvr best i)).take (k + 1) = op.take k ++ [(i : Int)] := by
    rw [List.take_append_of_le_length (by omega), List.take_succ_eq_append_getElem hk, hi]
  have hdrop : (op ++ prts e i (cvr best i)).drop (k + 1) = op.drop (k + 1) ++ prts e i (cvr best i) := List.drop_append_of_le_length (by omega)
  have hd : op.drop k = (i : Int) :: op.drop (k + 1) := by rw [drop_at _ _ hk, hi]
  have hm := mq_parts hp.1 (n := i) hp.2
  have hs := h.size
  rw [hd, mq_cons, Int.toNat_natCast] at hs
  refine ⟨⟨by rw [List.length_set]; exact h.len, by rw [List.length_append]; omega, ?_, List.mem_append.2 (.inl h.root), ?_, ?_, ?_⟩, ?_⟩
  · intro x hx
    rcases List.mem_append.1 hx with q | q
    · exact h.ok x q
    · have := hp.2 x q
      exact ⟨this.1, by omega, dfs_close hn _ _ (by omega) (by omega) i hin _ (by rw [hkid]; exact List.mem_map_of_mem q)⟩
  · intro j hj
    rw [htake, List.getElem?_set]
    by_cases c : i = j
    · subst c
      rw [if_pos rfl, if_pos (by rw [h.len]; exact hj), if_pos (by simp)]
    · rw [if_neg c, h.val j hj]
      have : ((j : Int) ∈ op.take k ++ [(i : Int)]) ↔ (j : Int) ∈ op.take k := by
        rw [List.mem_append, List.mem_singleton]
        constructor
        · rintro (q | q)
          · exact q
          · omega
        · exact .inl
      simp only [this]
  · intro x hx y hy
    rw [htake] at hx
    rcases List.mem_append.1 hx with q | q
    · exact List.mem_append.2 (.inl (h.kid x q y hy))
    · rw [List.mem_singleton] at q
      subst q
      rw [Int.toNat_natCast, hkid] at hy
      obtain ⟨z, hz, rfl⟩ := List.mem_map.1 hy
      have := hp.2 z hz
      rw [Int.toNat_of_nonneg this.1]
      exact List.mem_append.2 (.inr hz)
  · rw [hdrop, mq_app]; omega
  · rw [hdrop, mq_app, hd, mq_cons, Int.toNat_natCast]; omega
theorem Bfs.done (hn : nodesOk e 0 = true) (h1 : 1 ≤ e.length) {o op : List Int} {k : Nat} (h : Bfs e best o op k) (hk : ¬ k < op.length) : o = chosen e best := by
  have ht : op.take k = op := List.take_of_length_le (by omega)
  have hall : ∀ (d j : Nat), j + d = e.length → j ∈ need e best → (j : Int) ∈ op := by
    intro d
    induction d using Nat.strongRecOn with
    | ind d ih =>
      intro j hj hm
      rcases dfs_parent hn _ _ (by omega) (by omega) j hm with q | ⟨i, hi, hji⟩
      · subst q; exact h.root
      · have hil := need_lt hn h1 hi
        have := kids_lt hn hil j hji
        have hio := ih (e.length - i) (by omega) i (by omega) hi
        exact h.kid (i : Int) (by rw [ht]; exact hio) j (by rw [Int.toNat_natCast]; exact hji)
  apply List.ext_getElem?
  intro j
  by_cases hj : j < e.length
  · rw [h.val j hj, chosen_get hj, ht]
    have : ((j : Int) ∈ op) ↔ (need e best).contains j = true := by
      rw [List.contains_iff_mem]
      exact ⟨fun q => by have := (h.ok _ q).2.2; rw [Int.toNat_natCast] at this; exact this, fun q => hall (e.length - j) j (by omega) q⟩
    simp only [this]
  · rw [List.getElem?_eq_none (by have := h.len; omega), List.getElem?_eq_none (by rw [chosen_len]; omega)]
theorem Bfs.cur {o op : List Int} {k : Nat} (h : Bfs e best o op k) {i : Nat} (hi : i < e.length) : ∃ c, o[i]? = some c ∧ (c = -1 ∨ c = cvr best i) := by
  refine ⟨_, h.val i hi, ?_⟩
  split
  · exact .inr rfl
  · exact .inl rfl
end
end Go.Proofs.YtafjengmkiepbaaGreat.Am
end
section
/- The cover with the largest tiles. -/
namespace Go.Proofs.YtafjengmkiepbaaGreat.Am
open Go
set_option linter.unusedVariables false
set_option linter.unusedSimpArgs false
section
variable {e : List Nd}
theorem set_same {o : List Int} {i : Nat} {c : Int} (h : o[i]? = some c) : o.set i c = o := by
  apply List.ext_getElem?
  intro j
  rw [List.getElem?_set]
  by_cases d : i = j
  · subst d
    have : i < o.length := by
      by_cases q : i < o.length
      · exact q
      · rw [List.getElem?_eq_none (by omega)] at h; cases h
    rw [if_pos rfl, if_pos this, h]
  · rw [if_neg d]
theorem told_prts (i : Nat) (t : Int) : (told (tileM e i t)).1 = prts e i t := by
  unfold prts
  cases tileM e i t with
  | none => rfl
  | some pq => rfl
theorem lt_of_get {o : List Int} {i : Nat} {c : Int} (h : o[i]? = some c) : i < o.length := by
  by_cases q : i < o.length
  · exact q
  · rw [List.getElem?_eq_none (by omega)] at h; cases h
/-! ### the program -/
end
end Go.Proofs.YtafjengmkiepbaaGreat.Am
end
section
/- The cover with the least cost. -/
namespace Go.Proofs.YtafjengmkiepbaaGreat.Am
open Go
set_option linter.unusedVariables false
set_option linter.unusedSimpArgs false
section
variable {e : List Nd}
def sumP (P : List Int) : List Int → Int → Int
  | [], s => s
  | k :: r, s => sumP P r (IntKind.wrap .i64 (s + P.getD k.toNat 0))
/-- a tile's cost with its parts' prices -/
def wth (e : List Nd) (i : Nat) (P : List Int) (t : Int) : Int := sumP P (prts e i t) (tCost e i t)
theorem sumP_same {P Q : List Int} : ∀ (ps : List Int) (s : Int), (∀ k ∈ ps, P.getD k.toNat 0 = Q.getD k.toNat 0) → sumP P ps s = sumP Q ps s
  | [], s, _ => rfl
  | k :: r, s, h => by
    unfold sumP
    rw [h k (by simp)]
    exact sumP_same r _ (fun x hx => h x (by simp [hx]))
theorem wth_same (hn : nodesOk e 0 = true) {i : Nat} (hi : i < e.length) {P Q : List Int} (h : ∀ k, k < i → P.getD k 0 = Q.getD k 0) (t : Int) : wth e i P t = wth e i Q t :=
  sumP_same _ _ (fun k hk => h _ (by have := (prts_ok hn hi t).2 k hk; omega))
theorem get_D {P : List Int} {j : Nat} (h : j < P.length) : P[j]? = some (P.getD j 0) := by
  rw [List.getD_eq_getElem?_getD, List.getElem?_eq_getElem h]; rfl
theorem cvWith_v (hn : nodesOk e 0 = true) {i : Nat} (hi : i < e.length) {P : List Int} (hP : P.length = e.length) (t : Int) : spec_cvWith.v e (i : Int) t P = some (wth e i P t) := by
  refine spec_cvWith.vs _ _ _ _ ?_
  have hp := prts_ok hn hi t
  rw [cvCost_f hi, bd_s, cvTile_v hn hi, bd_s, told_prts]
  have key : ∀ (d j : Nat) (s : Int), j + d = (prts e i t).length → spec_cvWith.v0 P s (prts e i t) ((prts e i t).length : Int) (j : Int) = some (sumP P ((prts e i t).drop j) s) := by
    intro d
    induction d with
    | zero =>
      intro j s hj
      refine spec_cvWith.v0s _ _ _ _ _ ?_
      rw [br_f (by simp; omega), List.drop_eq_nil_of_le (by omega)]; rfl
    | succ d ih =>
      intro j s hj
      have hjl : j < (prts e i t).length := by omega
      have hx := hp.2 _ (List.getElem_mem hjl)
      refine spec_cvWith.v0s _ _ _ _ _ ?_
      rw [br_t (by simpa using hjl), br_t (by simp), Int.toNat_natCast, gt_at _ hjl, br_t (by simpa using hx.1), gt_some (get_D (P := P) (j := ((prts e i t)[j]).toNat) (by omega)), next_ok j _ hjl (by omega), drop_at _ _ hjl]
      exact ih (j + 1) _ (by omega)
  exact key (prts e i t).length 0 _ (by omega)
theorem total_v (hn : nodesOk e 0 = true) {i : Nat} (hi : i < e.length) {P : List Int} (hP : P.length = e.length) (t : Int) (q : List Int) : impl_tile_total.v (prts e i t, q, tCost e i t) P = some (wth e i P t) := by
  refine impl_tile_total.vs _ _ ?_
  have hp := prts_ok hn hi t
  have key : ∀ (d j : Nat) (s : Int), j + d = (prts e i t).length → impl_tile_total.v0 P s (prts e i t) ((prts e i t).length : Int) (j : Int) = some (sumP P ((prts e i t).drop j) s) := by
    intro d
    induction d with
    | zero =>
      intro j s hj
      refine impl_tile_total.v0s _ _ _ _ _ ?_
      rw [br_f (by simp; omega), List.drop_eq_nil_of_le (by omega)]; rfl
    | succ d ih =>
      intro j s hj
      have hjl : j < (prts e i t).length := by omega
      have hx := hp.2 _ (List.getElem_mem hjl)
      refine impl_tile_total.v0s _ _ _ _ _ ?_
      rw [br_t (by simpa using hjl), br_t (by simp), Int.toNat_natCast, gt_at _ hjl, br_t (by simpa using hx.1), gt_some (get_D (P := P) (j := ((prts e i t)[j]).toNat) (by omega)), next_ok j _ hjl (by omega), drop_at _ _ hjl]
      exact ih (j + 1) _ (by omega)
  exact key (prts e i t).length 0 _ (by omega)
/-- the least sum so far, and its tile -/
def selB (e : List Nd) (i : Nat) (P : List Int) (x : Option (Int × Int)) (t : Int) : Option (Int × Int) :=
  match x with
  | none => some (wth e i P t, t)
  | some (s, b) => if wth e i P t < s then some (wth e i P t, t) else some (s, b)
def selS (e : List Nd) (i : Nat) (P : List Int) (m : Int) (c t : Int) : Int := if c < 0 ∧ wth e i P t = m then t else c
theorem selS_keep {i : Nat} {P : List Int} {m : Int} : ∀ (l : List Int) (c : Int), (0 ≤ c ∨ ∀ u ∈ l, m < wth e i P u) → l.foldl (selS e i P m) c = c
  | [], c, _ => rfl
  | t :: l, c, h => by
    rw [List.foldl_cons, show selS e i P m c t = c from by
      unfold selS
      rw [if_neg]
      rintro ⟨h1, h2⟩
      rcases h with q | q
      · omega
      · have := q t (by simp); omega]
    exact selS_keep l c (h.imp id (fun q u hu => q u (by simp [hu])))
theorem selB_fold {i : Nat} {P : List Int} : ∀ (l seen : List Int) (s b : Int), (∀ t ∈ l, 0 ≤ t) → 0 ≤ b → b ∈ seen → (∀ u ∈ seen, s ≤ wth e i P u) → seen.foldl (selS e i P s) (-1) = b →
    ∃ s' b', l.foldl (selB e i P) (some (s, b)) = some (s', b') ∧ 0 ≤ b' ∧ b' ∈ seen ++ l ∧ (seen ++ l).foldl (selS e i P s') (-1) = b'
  | [], seen, s, b, _, h1, h2, h3, h4 => ⟨s, b, rfl, h1, by simpa using h2, by simpa using h4⟩
  | t :: l, seen, s, b, h0, h1, h2, h3, h4 => by
    have ht := h0 t (by simp)
    by_cases c : wth e i P t < s
    · obtain ⟨s', b', k1, k2, k3, k4⟩ := selB_fold (i := i) (P := P) l (seen ++ [t]) (wth e i P t) t (fun u hu => h0 u (by simp [hu])) ht (by simp) (fun u hu => by
        rcases List.mem_append.1 hu with z | z
        · have := h3 u z; omega
        · simp at z; subst z; omega) (by
        rw [List.foldl_append, selS_keep (e := e) (i := i) (P := P) seen (-1) (.inr fun u hu => by have := h3 u hu; omega)]
        simp [selS])
      rw [List.append_assoc] at k3 k4
      exact ⟨s', b', by rw [List.foldl_cons, show selB e i P (some (s, b)) t = some (wth e i P t, t) from if_pos c]; exact k1, k2, k3, k4⟩
    · obtain ⟨s', b', k1, k2, k3, k4⟩ := selB_fold (i := i) (P := P) l (seen ++ [t]) s b (fun u hu => h0 u (by simp [hu])) h1 (by simp [h2]) (fun u hu => by
        rcases List.mem_append.1 hu with z | z
        · exact h3 u z
        · simp at z; subst z; omega) (by
        rw [List.foldl_append, h4]
        exact selS_keep [t] b (.inl h1))
      rw [List.append_assoc] at k3 k4
      exact ⟨s', b', by rw [List.foldl_cons, show selB e i P (some (s, b)) t = some (s, b) from if_neg c]; exact k1, k2, k3, k4⟩
/-- the price and the tile of a node, the prices ahead of it known -/
def prA (e : List Nd) (i : Nat) (P : List Int) : Int × Int := ((tl e i 13).foldl (selB e i P) none).getD (0, 0)
theorem prA_ok (hn : nodesOk e 0 = true) {i : Nat} (hi : i < e.length) (P : List Int) : (tl e i 13).foldl (selB e i P) none = some (prA e i P) ∧ (prA e i P).2 ∈ tl e i 13 ∧ (tl e i 13).foldl (selS e i P (prA e i P).1) (-1) = (prA e i P).2 := by
  have hne := tl_some hn hi
  have h0 : ∀ t ∈ tl e i 13, 0 ≤ t := fun t ht => (tl_mem ht).1
  unfold prA
  generalize tl e i 13 = l at hne h0 ⊢
  cases l with
  | nil => exact absurd rfl hne
  | cons t l =>
    obtain ⟨s', b', k1, k2, k3, k4⟩ := selB_fold (e := e) (i := i) (P := P) l [t] (wth e i P t) t (fun u hu => h0 u (by simp [hu])) (h0 t (by simp)) (by simp) (fun u hu => by simp at hu; subst hu; omega) (by simp [selS])
    rw [List.foldl_cons, show selB e i P none t = some (wth e i P t, t) from rfl, k1]
    exact ⟨rfl, k3, k4⟩
/-- prices and tiles of the nodes ahead of one -/
def prB (e : List Nd) : Nat → List (Int × Int)
  | 0 => []
  | i + 1 => prB e i ++ [prA e i ((prB e i).map (·.1))]
def prices (e : List Nd) : List Int := (prB e e.length).map (·.1)
def bests (e : List Nd) : List Int := (prB e e.length).map (·.2)
theorem prB_len : ∀ i, (prB e i).length = i
  | 0 => rfl
  | i + 1 => by simp [prB, prB_len i]
theorem prB_get : ∀ {n i : Nat}, i < n → (prB e n)[i]? = some (prA e i ((prB e i).map (·.1)))
  | 0, i, h => by omega
  | n + 1, i, h => by
    rw [show prB e (n + 1) = prB e n ++ [prA e n ((prB e n).map (·.1))] from rfl]
    by_cases c : i < n
    · rw [List.getElem?_append_left (by rw [prB_len]; exact c)]; exact prB_get c
    · have : i = n := by omega
      subst this
      rw [List.getElem?_append_right (by rw [prB_len]; exact Nat.le_refl _), prB_len]; simp
theorem prices_len : (prices e).length = e.length := by simp [prices, prB_len]
theorem bests_len : (bests e).length = e.length := by simp [bests, prB_len]
theorem prices_same {n i : Nat} (h : i < n) : ((prB e n).map (·.1)).getD i 0 = (prA e i ((prB e i).map (·.1))).1 := by
  rw [List.getD_eq_getElem?_getD, List.getElem?_map, prB_get h]; rfl
theorem prA_same (hn : nodesOk e 0 = true) {i : Nat} (hi : i < e.length) {P Q : List Int} (h : ∀ k, k < i → P.getD k 0 = Q.getD k 0) : prA e i P = prA e i Q := by
  have : selB e i P = selB e i Q := by
    funext x t
    unfold selB
    rw [wth_same hn hi h t]
  unfold prA
  rw [this]
theorem price_at (hn : nodesOk e 0 = true) {i : Nat} (hi : i < e.length) : (prices e)[i]? = some (prA e i (prices e)).1 ∧ cvr (bests e) i = (prA e i (prices e)).2 := by
  have hs : prA e i ((prB e i).map (·.1)) = prA e i (prices e) := prA_same hn hi (fun k hk => by
    unfold prices
    rw [prices_same hk, prices_same (n := e.length) (by omega)])
  constructor
  · unfold prices at hs ⊢
    rw [List.getElem?_map, prB_get hi, ← hs]; rfl
  · unfold cvr bests
    rw [List.getD_eq_getElem?_getD, List.getElem?_map, prB_get hi, ← hs]; rfl
theorem bests_vld (hn : nodesOk e 0 = true) : ∀ j, j < e.length → vld e (bests e) j = true := fun j hj => by
  have := (prA_ok hn hj (prices e)).2.1
  rw [← (price_at hn hj).2] at this
  obtain ⟨h0, h1, h2⟩ := tl_mem this
  unfold vld
  rw [h2, Bool.and_true, inB_iff]
  omega
end
end Go.Proofs.YtafjengmkiepbaaGreat.Am
end
section
/- The cover with the least cost: both sides. -/
namespace Go.Proofs.YtafjengmkiepbaaGreat.Am
open Go
set_option linter.unusedVariables false
set_option linter.unusedSimpArgs false
section
variable {e : List Nd}
/-- a state of the rounds over tiles: nothing at first, then the least price and its tile in their places -/
structure Pst (i j : Nat) (x : Option (Int × Int)) (P B : List Int) : Prop where
  no : j = 0 → x = none
  yes : j ≠ 0 → ∃ s b, x = some (s, b) ∧ P[i]? = some s ∧ B[i]? = some b
theorem set_low {P : List Int} {i k : Nat} (h : k < i) (s : Int) : (P.set i s).getD k 0 = P.getD k 0 := by
  rw [List.getD_eq_getElem?_getD, List.getElem?_set, if_neg (by omega), ← List.getD_eq_getElem?_getD]
theorem prices_in (hn : nodesOk e 0 = true) {i : Nat} (hi : i < e.length) (h24 : e.length ≤ 24) {n : Int} {l : List Int} (hl : l.length ≤ 13) (hne : l ≠ []) (hm : ∀ t ∈ l, 0 ≤ t ∧ t < 13 ∧ (tileM e i t).isSome = true) {R} {P B : List Int} {s b : Int}
    (hfin : impl_pricesOf.v0 e n ((i + 1 : Nat) : Int) (P.set i s) (B.set i b) = some R) : ∀ (d j : Nat) (x : Option (Int × Int)) (P' B' : List Int), j + d = l.length → P'.length = e.length → B'.length = e.length → Pst i j x P' B' → (∀ k, k < i → P'.getD k 0 = P.getD k 0) →
    P'.set i s = P.set i s → B'.set i b = B.set i b → (l.drop j).foldl (selB e i P) x = some (s, b) → impl_pricesOf.v1 e (i : Int) n (i : Int) l (l.length : Int) (j : Int) P' B' = some R := by
  intro d
  induction d with
  | zero =>
    intro j x P' B' hj hP hB hx hlow h1 h2 hf
    rw [List.drop_eq_nil_of_le (by omega)] at hf
    have hf : x = some (s, b) := hf
    obtain ⟨s', b', q, q1, q2⟩ := hx.yes (by have : 0 < l.length := List.length_pos_iff.2 hne; omega)
    rw [hf] at q
    obtain ⟨rfl, rfl⟩ := Prod.mk.inj (Option.some.inj q)
    rw [set_same q1] at h1
    rw [set_same q2] at h2
    subst h1; subst h2
    refine impl_pricesOf.v1s _ _ _ _ _ _ _ _ _ ?_
    rw [br_f (by simp; omega), next_ok i _ hi (by omega)]
    exact hfin
  | succ d ih =>
    intro j x P' B' hj hP hB hx hlow h1 h2 hf
    have hjl : j < l.length := by omega
    obtain ⟨t0, t13, ts⟩ := hm _ (List.getElem_mem hjl)
    obtain ⟨⟨pp, qq⟩, hpq⟩ := Option.isSome_iff_exists.1 ts
    have hiP : i < P'.length := by omega
    have hiB : i < B'.length := by omega
    have hpr : pp = prts e i l[j] := by unfold prts; rw [hpq]
    rw [drop_at _ _ hjl, List.foldl_cons] at hf
    have hw : wth e i P' l[j] = wth e i P l[j] := wth_same hn hi hlow _
    have htake : ∀ (w : Int), Pst i (j + 1) (some (w, l[j])) (P'.set i w) (B'.set i l[j]) := fun w => ⟨fun q => by omega, fun _ => ⟨w, l[j], rfl, by rw [List.getElem?_set, if_pos rfl, if_pos hiP], by rw [List.getElem?_set, if_pos rfl, if_pos hiB]⟩⟩
    have hgo : ∀ w, (l.drop (j + 1)).foldl (selB e i P) (some (w, l[j])) = some (s, b) → impl_pricesOf.v1 e (i : Int) n (i : Int) l (l.length : Int) ((j + 1 : Nat) : Int) (P'.set i w) (B'.set i l[j]) = some R := fun w hw =>
      ih (j + 1) _ _ _ (by omega) (by rw [List.length_set]; exact hP) (by rw [List.length_set]; exact hB) (htake w) (fun k hk => by rw [set_low hk]; exact hlow k hk) (by rw [List.set_set]; exact h1) (by rw [List.set_set]; exact h2) hw
    refine impl_pricesOf.v1s _ _ _ _ _ _ _ _ _ ?_
    rw [br_t (by simpa using hjl), br_t (by simp), Int.toNat_natCast, gt_at _ hjl, tileAt_v hn hi t0 (by omega), bd_s, tileI_eq hn hi t0 (by omega) hpq, hpr, total_v hn hi hP, bd_s, next_ok j _ hjl (by omega), hw]
    by_cases c0 : j = 0
    · rw [hx.no c0, show selB e i P none l[j] = some (wth e i P l[j], l[j]) from rfl] at hf
      rw [br_t (by simp; omega), br_t (by simp), br_t (by simpa using hiP), Int.toNat_natCast, gt_at _ hiP, br_t (by simp), br_t (by simpa using hiB), gt_at _ hiB]
      exact hgo _ hf
    · obtain ⟨s', b', q, q1, q2⟩ := hx.yes c0
      rw [q] at hf
      rw [br_f (by simp; omega), br_t (by simp), br_t (by simpa using hiP), Int.toNat_natCast, gt_some q1]
      by_cases g : wth e i P l[j] < s'
      · rw [show selB e i P (some (s', b')) l[j] = some (wth e i P l[j], l[j]) from if_pos g] at hf
        rw [br_t (by simpa using g), br_t (by simp), br_t (by simpa using hiP), gt_at _ hiP, br_t (by simp), br_t (by simpa using hiB), gt_at _ hiB]
        exact hgo _ hf
      · rw [show selB e i P (some (s', b')) l[j] = some (s', b') from if_neg g] at hf
        rw [br_f (by simpa using g)]
        exact ih (j + 1) _ _ _ (by omega) hP hB ⟨fun q => by omega, fun _ => ⟨s', b', rfl, q1, q2⟩⟩ hlow h1 h2 hf
theorem cvPrices_in (hn : nodesOk e 0 = true) {i : Nat} (hi : i < e.length) (h24 : e.length ≤ 24) {n : Int} {l : List Int} (hl : l.length ≤ 13) (hne : l ≠ []) {R} {P : List Int} {s b : Int}
    (hfin : spec_cvPrices.v0 e n ((i + 1 : Nat) : Int) (P.set i s) = some R) : ∀ (d j : Nat) (x : Option (Int × Int)) (P' : List Int), j + d = l.length → P'.length = e.length → (j = 0 → x = none) → (j ≠ 0 → ∃ s b, x = some (s, b) ∧ P'[i]? = some s) → (∀ k, k < i → P'.getD k 0 = P.getD k 0) →
    P'.set i s = P.set i s → (l.drop j).foldl (selB e i P) x = some (s, b) → spec_cvPrices.v1 e (i : Int) n (i : Int) l (l.length : Int) (j : Int) P' = some R := by
  intro d
  induction d with
  | zero =>
    intro j x P' hj hP hx0 hx hlow h1 hf
    rw [List.drop_eq_nil_of_le (by omega)] at hf
    have hf : x = some (s, b) := hf
    obtain ⟨s', b', q, q1⟩ := hx (by have : 0 < l.length := List.length_pos_iff.2 hne; omega)
    rw [hf] at q
    obtain ⟨rfl, rfl⟩ := Prod.mk.inj (Option.some.inj q)
    rw [set_same q1] at h1
    subst h1
    refine spec_cvPrices.v1s _ _ _ _ _ _ _ _ ?_
    rw [br_f (by simp; omega), next_ok i _ hi (by omega)]
    exact hfin
  | succ d ih =>
    intro j x P' hj hP hx0 hx hlow h1 hf
    have hjl : j < l.length := by omega
    have hiP : i < P'.length := by omega
    rw [drop_at _ _ hjl, List.foldl_cons] at hf
    have hw : wth e i P' l[j] = wth e i P l[j] := wth_same hn hi hlow _
    have hgo : ∀ w, (l.drop (j + 1)).foldl (selB e i P) (some (w, l[j])) = some (s, b) → spec_cvPrices.v1 e (i : Int) n (i : Int) l (l.length : Int) ((j + 1 : Nat) : Int) (P'.set i w) = some R := fun w hw =>
      ih (j + 1) _ _ (by omega) (by rw [List.length_set]; exact hP) (fun q => by omega) (fun _ => ⟨w, l[j], rfl, by rw [List.getElem?_set, if_pos rfl, if_pos hiP]⟩) (fun k hk => by rw [set_low hk]; exact hlow k hk) (by rw [List.set_set]; exact h1) hw
    refine spec_cvPrices.v1s _ _ _ _ _ _ _ _ ?_
    rw [br_t (by simpa using hjl), br_t (by simp), Int.toNat_natCast, gt_at _ hjl, cvWith_v hn hi hP, bd_s, next_ok j _ hjl (by omega), hw]
    by_cases c0 : j = 0
    · rw [hx0 c0, show selB e i P none l[j] = some (wth e i P l[j], l[j]) from rfl] at hf
      rw [br_t (by simp; omega), br_t (by simp), br_t (by simpa using hiP), Int.toNat_natCast, gt_at _ hiP]
      exact hgo _ hf
    · obtain ⟨s', b', q, q1⟩ := hx c0
      rw [q] at hf
      rw [br_f (by simp; omega), br_t (by simp), br_t (by simpa using hiP), Int.toNat_natCast, gt_some q1]
      by_cases g : wth e i P l[j] < s'
      · rw [show selB e i P (some (s', b')) l[j] = some (wth e i P l[j], l[j]) from if_pos g] at hf
        rw [br_t (by simpa using g), br_t (by simp), br_t (by simpa using hiP), gt_at _ hiP]
        exact hgo _ hf
      · rw [show selB e i P (some (s', b')) l[j] = some (s', b') from if_neg g] at hf
        rw [br_f (by simpa using g)]
        exact ih (j + 1) _ _ (by omega) hP (fun q => by omega) (fun _ => ⟨s', b', rfl, q1⟩) hlow h1 hf
abbrev pz (l : List Int) : List Int × Unit := (l, ())
theorem row_all {P Q : List Int} (h : P.length = e.length) (k : Q.length = e.length) (hv : ∀ j, j < e.length → P[j]? = Q[j]?) : P = Q := List.ext_getElem? fun j => by
  by_cases hj : j < e.length
  · exact hv j hj
  · rw [List.getElem?_eq_none (by omega), List.getElem?_eq_none (by omega)]
theorem prA_upto (hn : nodesOk e 0 = true) {i : Nat} (hi : i < e.length) {P : List Int} (h : ∀ j, j < i → P[j]? = (prices e)[j]?) : prA e i P = prA e i (prices e) :=
  prA_same hn hi (fun k hk => by rw [List.getD_eq_getElem?_getD, h k hk, ← List.getD_eq_getElem?_getD])
theorem cvPrices_v (hn : nodesOk e 0 = true) (h24 : e.length ≤ 24) : spec_cvPrices.v e = some (pz (prices e)) := by
  refine spec_cvPrices.vs _ ?_
  have key : ∀ (d i : Nat) (P : List Int), i + d = e.length → P.length = e.length → (∀ j, j < i → P[j]? = (prices e)[j]?) → spec_cvPrices.v0 e (e.length : Int) (i : Int) P = some (pz (prices e)) := by
    intro d
    induction d with
    | zero =>
      intro i P hi hP h
      refine spec_cvPrices.v0s _ _ _ _ ?_
      rw [br_f (by simp; omega), row_all hP prices_len (fun j hj => h j (by omega))]
    | succ d ih =>
      intro i P hi hP h
      have hie : i < e.length := by omega
      refine spec_cvPrices.v0s _ _ _ _ ?_
      rw [br_t (by simpa using hie), cvTiles_v hn hie, bd_s]
      refine cvPrices_in hn hie h24 (s := (prA e i P).1) (b := (prA e i P).2) (P := P) (tl_len _ _) (tl_some hn hie) (ih (i + 1) _ (by omega) (by rw [List.length_set]; exact hP) ?_) (tl e i 13).length 0 none P (by omega) hP (fun _ => rfl) (fun q => absurd rfl q) (fun _ _ => rfl) rfl (prA_ok hn hie P).1
      intro j hj
      rw [List.getElem?_set]
      by_cases c : i = j
      · subst c; rw [if_pos rfl, if_pos (by omega), prA_upto hn hie h, (price_at hn hie).1]
      · rw [if_neg c]; exact h j (by omega)
  rw [br_t (by simp), br_t (by simp; omega)]
  exact key e.length 0 _ (by omega) (by simp) (fun j hj => by omega)
theorem pricesOf_v (hn : nodesOk e 0 = true) (h24 : e.length ≤ 24) : impl_pricesOf.v e = some (prices e, bests e) := by
  refine impl_pricesOf.vs _ ?_
  have key : ∀ (d i : Nat) (P B : List Int), i + d = e.length → P.length = e.length → B.length = e.length → (∀ j, j < i → P[j]? = (prices e)[j]?) → (∀ j, j < i → B[j]? = (bests e)[j]?) → impl_pricesOf.v0 e (e.length : Int) (i : Int) P B = some (prices e, bests e) := by
    intro d
    induction d with
    | zero =>
      intro i P B hi hP hB h hb
      refine impl_pricesOf.v0s _ _ _ _ _ ?_
      rw [br_f (by simp; omega), row_all hP prices_len (fun j hj => h j (by omega)), row_all hB bests_len (fun j hj => hb j (by omega))]
    | succ d ih =>
      intro i P B hi hP hB h hb
      have hie : i < e.length := by omega
      refine impl_pricesOf.v0s _ _ _ _ _ ?_
      rw [br_t (by simpa using hie), tilesAt_v hn hie, bd_s]
      refine prices_in hn hie h24 (s := (prA e i P).1) (b := (prA e i P).2) (P := P) (B := B) (tl_len _ _) (tl_some hn hie) (fun t ht => tl_mem ht) (ih (i + 1) _ _ (by omega) (by rw [List.length_set]; exact hP) (by rw [List.length_set]; exact hB) ?_ ?_) (tl e i 13).length 0 none P B (by omega) hP hB ⟨fun _ => rfl, fun q => absurd rfl q⟩ (fun _ _ => rfl) rfl rfl (prA_ok hn hie P).1
      · intro j hj
        rw [List.getElem?_set]
        by_cases c : i = j
        · subst c; rw [if_pos rfl, if_pos (by omega), prA_upto hn hie h, (price_at hn hie).1]
        · rw [if_neg c]; exact h j (by omega)
      · intro j hj
        rw [List.getElem?_set]
        by_cases c : i = j
        · subst c; rw [if_pos rfl, if_pos (by omega), prA_upto hn hie h, cvr_get bests_len hie, (price_at hn hie).2]
        · rw [if_neg c]; exact hb j (by omega)
  rw [br_t (by simp), br_t (by simp; omega), br_t (by simp), br_t (by simp; omega)]
  exact key e.length 0 _ _ (by omega) (by simp) (by simp) (fun j hj => by omega) (fun j hj => by omega)
end
end Go.Proofs.YtafjengmkiepbaaGreat.Am
end
section
/- The cover with the least cost, what it saves: both sides' answers. -/
namespace Go.Proofs.YtafjengmkiepbaaGreat.Am
open Go
set_option linter.unusedVariables false
set_option linter.unusedSimpArgs false
section
variable {e : List Nd}
noncomputable abbrev vB0 (e : List Nd) (P : List Int) (k : Int) (o op : List Int) := spec_cvBest.v0 e k P o op
noncomputable abbrev vB1 (e : List Nd) (P : List Int) (k i : Int) (l : List Int) (n j : Int) (o op : List Int) := spec_cvBest.v1 e k i l n j P o op
theorem best_in (hn : nodesOk e 0 = true) {i k : Nat} (hi : i < e.length) {op P : List Int} (hP : P.length = e.length) {m : Int} (hPi : P[i]? = some m) (hk : k ≤ 282429536481) (hop : op.length ≤ 282429536481) {l : List Int} (hl : l.length ≤ 13) {R} {o : List Int} {b : Int} (hb : (prts e i b).length ≤ 2)
    (hfin : vB0 e P ((k + 1 : Nat) : Int) (o.set i b) (op ++ prts e i b) = some R) : ∀ (d j : Nat) (c : Int) (o' : List Int), j + d = l.length → o'[i]? = some c → o'.set i b = o.set i b → (l.drop j).foldl (selS e i P m) c = b →
    vB1 e P (k : Int) (i : Int) l (l.length : Int) (j : Int) o' op = some R := by
  intro d
  induction d with
  | zero =>
    intro j c o' hj hc ho hf
    have hlt := lt_of_get hc
    rw [List.drop_eq_nil_of_le (by omega)] at hf
    have hf : c = b := hf
    subst hf
    rw [set_same hc] at ho
    subst ho
    refine spec_cvBest.v1s _ _ _ _ _ _ _ _ _ ?_
    rw [br_f (by simp; omega), br_t (by simp), br_t (by simpa using hlt), Int.toNat_natCast, gt_some hc, cvTile_v hn hi, bd_s, told_prts, br_t (by simp; omega), next_ok k (k + 1) (by omega) (by omega)]
    exact hfin
  | succ d ih =>
    intro j c o' hj hc ho hf
    have hlt := lt_of_get hc
    have hjl : j < l.length := by omega
    have hset : ∀ t : Int, (o'.set i t)[i]? = some t := fun t => by rw [List.getElem?_set, if_pos rfl, if_pos hlt]
    have hset2 : ∀ t : Int, (o'.set i t).set i b = o.set i b := fun t => by rw [List.set_set]; exact ho
    rw [drop_at _ _ hjl, List.foldl_cons] at hf
    refine spec_cvBest.v1s _ _ _ _ _ _ _ _ _ ?_
    rw [br_t (by simpa using hjl), br_t (by simp), Int.toNat_natCast, gt_at _ hjl, br_t (by simp), br_t (by simpa using hlt), Int.toNat_natCast, gt_some hc, next_ok j _ hjl (by omega)]
    by_cases c0 : c < 0
    · rw [br_t (by simpa using c0), cvWith_v hn hi hP, bd_s, br_t (by simp), br_t (by simpa using lt_of_get hPi), gt_some hPi]
      by_cases g : wth e i P l[j] = m
      · rw [br_t (by simpa using g), br_t (by simp), br_t (by simpa using hlt), gt_some hc]
        rw [show selS e i P m c l[j] = l[j] from if_pos ⟨c0, g⟩] at hf
        exact ih (j + 1) _ _ (by omega) (hset _) (hset2 _) hf
      · rw [br_f (by simpa using g)]
        rw [show selS e i P m c l[j] = c from if_neg (fun q => g q.2)] at hf
        exact ih (j + 1) _ _ (by omega) hc ho hf
    · rw [br_f (by simpa using c0)]
      rw [show selS e i P m c l[j] = c from if_neg (fun q => c0 q.1)] at hf
      exact ih (j + 1) _ _ (by omega) hc ho hf
theorem best_q (hn : nodesOk e 0 = true) (h1 : 1 ≤ e.length) : ∀ (M : Nat) (o op : List Int) (k : Nat), mq (op.drop k) < M → Bfs e (bests e) o op k → vB0 e (prices e) (k : Int) o op = some (chosen e (bests e))
  | 0, _, _, _, h, _ => by omega
  | M + 1, o, op, k, hM, h => by
    have hb := h.bound
    have hle := h.le
    refine spec_cvBest.v0s _ _ _ _ _ ?_
    by_cases hk : k < op.length
    · have hx := h.ok _ (List.getElem_mem hk)
      obtain ⟨i, hi⟩ := Int.eq_ofNat_of_zero_le hx.1
      rw [hi] at hx
      have hie : i < e.length := by omega
      obtain ⟨hs, hm⟩ := h.step hn h1 (bests_vld hn) hk hi
      obtain ⟨c, hc, hcc⟩ := h.cur hie
      obtain ⟨pa, pb⟩ := price_at hn hie
      obtain ⟨_, hmem, hfold⟩ := prA_ok hn hie (prices e)
      rw [br_t (by simpa using hk), br_t (by simp), br_t (by simpa using hk), Int.toNat_natCast, gt_at _ hk, hi, cvTiles_v hn hie, bd_s]
      refine best_in hn hie (k := k) prices_len pa (by omega) hb (tl_len _ _) (prts_ok hn hie (cvr (bests e) i)).1 (best_q hn h1 M _ _ _ (by omega) hs) (tl e i 13).length 0 c o (by omega) hc rfl ?_
      rw [List.drop_zero]
      rcases hcc with q | q
      · rw [q, hfold, pb]
      · rw [q, pb]; exact selS_keep _ _ (.inl (tl_mem hmem).1)
    · rw [br_f (by simpa using hk), h.done hn h1 hk]
theorem cvBest_v (h1 : nodesOk e 0 = true) (h2 : 1 ≤ e.length) (h3 : e.length ≤ 24) : spec_cvBest.v e = some (chosen e (bests e)) := by
  refine spec_cvBest.vs _ ?_
  rw [cvPrices_v h1 h3, bd_s, cvNone_v h3, bd_s, last_w h2 (by omega)]
  exact best_q h1 h2 _ _ _ 0 (Nat.lt_succ_self _) (Bfs.start h1 h2 h3)
theorem bestCover_v (h1 : nodesOk e 0 = true) (h2 : 1 ≤ e.length) (h3 : e.length ≤ 24) : impl_bestCover.v e = some (chosen e (bests e), ()) := by
  refine impl_bestCover.vs _ ?_
  rw [pricesOf_v h1 h3, bd_s, coverBy_v h1 h2 h3 bests_len (bests_vld h1), bd_s]
def bestA (e : List Nd) : List Int × Bool := if treeOk e = true then (chosen e (bests e), true) else ([], false)
theorem bestA_len (hl : e.length ≤ 1048576) : (bestA e).1.length ≤ 1048576 := by
  unfold bestA
  split
  · rw [chosen_len]; exact hl
  · simp
theorem chosen_vld {best : List Int} (hv : ∀ j, j < e.length → vld e best j = true) : ∀ j, j < e.length → 0 ≤ cvr (chosen e best) j → vld e (chosen e best) j = true := by
  intro j hj h0
  have hg := chosen_get (e := e) (best := best) hj
  have hc : cvr (chosen e best) j = if (need e best).contains j = true then cvr best j else -1 := by
    unfold cvr at hg ⊢
    rw [List.getD_eq_getElem?_getD, hg]; rfl
  by_cases c : (need e best).contains j = true
  · rw [if_pos c] at hc
    have := hv j hj
    unfold vld at this ⊢
    rw [hc]; exact this
  · rw [if_neg c] at hc; omega
end
end Go.Proofs.YtafjengmkiepbaaGreat.Am
end
section
/- Nodes that are chosen are a cover. -/
namespace Go.Proofs.YtafjengmkiepbaaGreat.Am
open Go
set_option linter.unusedVariables false
set_option linter.unusedSimpArgs false
section
variable {e : List Nd} {best : List Int}
theorem chosen_cvr {j : Nat} (hj : j < e.length) : cvr (chosen e best) j = if (need e best).contains j = true then cvr best j else -1 := by
  unfold cvr
  rw [List.getD_eq_getElem?_getD, chosen_get hj]; rfl
theorem dfs_same {c : List Int} : ∀ (f i : Nat), (∀ j ∈ dfs e best f i, cvr c j = cvr best j) → dfs e c f i = dfs e best f i
  | 0, i, _ => rfl
  | f + 1, i, h => by
    unfold dfs at h ⊢
    have hk : kids e c i = kids e best i := by
      unfold kids vld
      rw [h i (by simp)]
    rw [hk]
    have key : ∀ l : List Nat, (∀ k ∈ l, k ∈ kids e best i) → l.flatMap (dfs e c f) = l.flatMap (dfs e best f) := by
      intro l
      induction l with
      | nil => intro _; rfl
      | cons k l ih =>
        intro hl
        rw [List.flatMap_cons, List.flatMap_cons, ih fun x hx => hl x (by simp [hx]), dfs_same f k fun j hj => h j (List.mem_cons_of_mem _ (List.mem_flatMap.2 ⟨k, hl k (by simp), hj⟩))]
    rw [key _ fun k hk => hk]
theorem chosen_cover (ht : treeOk e = true) (hv : ∀ j, j < e.length → vld e best j = true) : isCoverP e (chosen e best) = true := by
  obtain ⟨hn, h1, h24, _⟩ := treeOk_parts ht
  have hs : ∀ j ∈ need e best, cvr (chosen e best) j = cvr best j := fun j hj => by
    rw [chosen_cvr (need_lt hn h1 hj), if_pos (List.contains_iff_mem.2 hj)]
  have hq : need e (chosen e best) = need e best := dfs_same _ _ hs
  unfold isCoverP
  rw [hq, decide_eq_true chosen_len, Bool.true_and, Bool.and_eq_true, List.all_eq_true, List.all_eq_true]
  refine ⟨fun j hj => ?_, fun j hj => ?_⟩
  · have := hv j (need_lt hn h1 hj)
    unfold vld at this ⊢
    rw [hs j hj]; exact this
  · rw [List.mem_range] at hj
    rw [chosen_cvr hj]
    by_cases c : (need e best).contains j = true
    · rw [c]; rfl
    · rw [if_neg c]; simp
end
end Go.Proofs.YtafjengmkiepbaaGreat.Am
end
section
/- The code of the best cover: the program and the reference. -/
namespace Go.Proofs.YtafjengmkiepbaaGreat.Am
open Go
set_option linter.unusedVariables false
set_option linter.unusedSimpArgs false
section
variable {e : List Nd}
theorem best_cov (ht : treeOk e = true) : Cov e (chosen e (bests e)) := ⟨ht, chosen_cover ht (bests_vld (treeOk_parts ht).1)⟩
def selBestA (e : List Nd) : List In5 × (Int × Bool) := if treeOk e = true then selP e (chosen e (bests e)) else ([], (0, false))
theorem selBestA_len : (selBestA e).1.length ≤ 1000 := by
  unfold selBestA
  split
  · rename_i h; exact selP_len (best_cov h)
  · simp
theorem specBestSel_v (ht : treeOk e = true) : (bd (spec_cvBest.v e) fun r => spec_seSelect.v e r) = some (selBestA e, ()) := by
  obtain ⟨h1, h2, h3, _⟩ := treeOk_parts ht
  rw [cvBest_v h1 h2 h3, bd_s, specSel_v (best_cov ht)]
  unfold selBestA
  rw [if_pos ht]
theorem specSelBest_v (hl : e.length ≤ 1048576) : spec_SelectBest.v e = some (selBestA e, ()) := by
  refine spec_SelectBest.vs _ ?_
  rw [cvTree_v hl, bd_s]; unfold selBestA
  by_cases c : treeOk e = true
  · obtain ⟨h1, h2, h3, _⟩ := treeOk_parts c
    rw [if_pos c, c, brn_t, cvBest_v h1 h2 h3, bd_s, specSel_v (best_cov c), bd_s]
  · rw [if_neg c]; rw [Bool.not_eq_true] at c; rw [c]; rfl
theorem implSelBest_v (hl : e.length ≤ 1048576) : impl_SelectBest.v e = some (selBestA e, ()) := by
  refine impl_SelectBest.vs _ ?_
  rw [isTree_v e hl, bd_s]; unfold selBestA
  by_cases c : treeOk e = true
  · obtain ⟨h1, h2, h3, _⟩ := treeOk_parts c
    rw [if_pos c, c, brn_t, bestCover_v h1 h2 h3, bd_s, implSel_v (best_cov c), bd_s]
  · rw [if_neg c]; rw [Bool.not_eq_true] at c; rw [c]; rfl
end
end Go.Proofs.YtafjengmkiepbaaGreat.Am
end
section
/- What the laws do with rows of instructions: compared, written on, held. -/
namespace Go.Proofs.YtafjengmkiepbaaGreat.Am
open Go
set_option linter.unusedVariables false
set_option linter.unusedSimpArgs false

noncomputable def mkS : Int → List In5 → List In5
  | _, [] => []
  | k, _ :: r => (mt k, k + 1, k + 2, k + 3, k + 4) :: mkS (k + 5) r
theorem mkS_len : ∀ (l : List In5) (k : Int), (mkS k l).length = l.length
  | [], _ => rfl
  | _ :: r, k => by simp [mkS, mkS_len r]
theorem markInstrS_l : ∀ (r l : List In5) (k : Int), 0 ≤ k → k + 5 * r.length ≤ 1000000000 → l.length + r.length ≤ 1000000000 → laws_markInstrS.v0 k (l.length : Int) (l ++ r) = some (k + 5 * r.length, l ++ mkS k r)
  | [], l, k, h0, h1, h2 => laws_markInstrS.v0s _ _ _ (by simp [mkS])
  | n :: r, l, k, h0, h1, h2 => by
    simp only [List.length_cons] at h1 h2
    have ih := markInstrS_l r (l ++ [(mt k, k + 1, k + 2, k + 3, k + 4)]) (k + 5) (by omega) (by omega) (by simp; omega)
    refine laws_markInstrS.v0s _ _ _ ?_
    have w1 : IntKind.wrap .i64 (k + 1) = k + 1 := wrap_ok (by omega) (by omega)
    have w2 : IntKind.wrap .i64 (k + 1 + 1) = k + 2 := by rw [wrap_ok (by omega) (by omega)]; omega
    have w3 : IntKind.wrap .i64 (k + 2 + 1) = k + 3 := by rw [wrap_ok (by omega) (by omega)]; omega
    have w4 : IntKind.wrap .i64 (k + 3 + 1) = k + 4 := by rw [wrap_ok (by omega) (by omega)]; omega
    have w5 : IntKind.wrap .i64 (k + 4 + 1) = k + 5 := by rw [wrap_ok (by omega) (by omega)]; omega
    have wi : IntKind.wrap .i64 ((l.length : Int) + 1) = ((l.length + 1 : Nat) : Int) := by rw [wrap_ok (by omega) (by omega)]; rfl
    have hlt : ((l.length : Int) < ((l.length + (r.length + 1) : Nat) : Int)) := by omega
    simp only [w1, w2, w3, w4, w5, wi, mt_v k (by omega), Int.toNat_natCast, set_mid, gt_mid, bd_s, List.length_append, List.length_cons]
    simp only [br_if, hlt, decide_true, if_true, Int.natCast_nonneg]
    simp only [List.length_append, List.length_cons, List.length_nil, List.append_assoc, List.cons_append, List.nil_append, Nat.zero_add] at ih
    rw [ih]
    simp only [mkS, List.length_cons]
    congr 2
    omega
theorem markInstrS_v (k : Int) (r : List In5) (h0 : 0 ≤ k) (h1 : k + 5 * r.length ≤ 1000000000) : laws_markInstrS.v k r = some (k + 5 * r.length, mkS k r) :=
  laws_markInstrS.vs _ _ (by have := markInstrS_l r [] k h0 h1 (by simp; omega); simpa using this)
theorem heldInstrS_l : ∀ (r l : List In5) (k : Int), 0 ≤ k → k + 5 * r.length ≤ 1000000000 → l.length + r.length ≤ 1000000000 → laws_heldInstrS.v0 (l ++ mkS k r) k (l.length : Int) = some (k + 5 * r.length)
  | [], l, k, h0, h1, h2 => laws_heldInstrS.v0s _ _ _ (by simp [mkS])
  | n :: r, l, k, h0, h1, h2 => by
    simp only [List.length_cons] at h1 h2
    have ih := heldInstrS_l r (l ++ [(mt k, k + 1, k + 2, k + 3, k + 4)]) (k + 5) (by omega) (by omega) (by simp; omega)
    refine laws_heldInstrS.v0s _ _ _ ?_
    have w1 : IntKind.wrap .i64 (k + 1) = k + 1 := wrap_ok (by omega) (by omega)
    have w2 : IntKind.wrap .i64 (k + 1 + 1) = k + 2 := by rw [wrap_ok (by omega) (by omega)]; omega
    have w3 : IntKind.wrap .i64 (k + 2 + 1) = k + 3 := by rw [wrap_ok (by omega) (by omega)]; omega
    have w4 : IntKind.wrap .i64 (k + 3 + 1) = k + 4 := by rw [wrap_ok (by omega) (by omega)]; omega
    have w5 : IntKind.wrap .i64 (k + 4 + 1) = k + 5 := by rw [wrap_ok (by omega) (by omega)]; omega
    have wi : IntKind.wrap .i64 ((l.length : Int) + 1) = ((l.length + 1 : Nat) : Int) := by rw [wrap_ok (by omega) (by omega)]; rfl
    have hlt : ((l.length : Int) < ((l.length + (r.length + 1) : Nat) : Int)) := by omega
    simp only [mkS, w1, w2, w3, w4, w5, wi, mt_v k (by omega), Int.toNat_natCast, gt_mid, bd_s, List.length_append, List.length_cons, mkS_len]
    simp only [br_if, hlt, decide_true, if_true, Int.natCast_nonneg, seq_self, Bool.not_true, Bool.false_eq_true, if_false, bne_self_eq_false]
    simp only [List.length_append, List.length_cons, List.length_nil, List.append_assoc, List.cons_append, List.nil_append, Nat.zero_add] at ih
    rw [ih]
    congr 1
    omega
theorem heldInstrS_v (k : Int) (r : List In5) (h0 : 0 ≤ k) (h1 : k + 5 * r.length ≤ 1000000000) : laws_heldInstrS.v (mkS k r) k = some (k + 5 * r.length) :=
  laws_heldInstrS.vs _ _ (by have := heldInstrS_l r [] k h0 h1 (by simp; omega); simpa using this)
theorem eqInstrS_l (xs : List In5) (h : xs.length ≤ 1000000000) : ∀ (d i : Nat), i + d = xs.length → laws_eqInstrS.v0 xs xs (i : Int) = some true := by
  intro d
  induction d with
  | zero => intro i hi; exact laws_eqInstrS.v0s _ _ _ (br_f (by simp; omega))
  | succ d ih =>
    intro i hi
    have hlt : i < xs.length := by omega
    have he : laws_eqInstr.f xs[i] xs[i] = some true := by rw [laws_eqInstr.eq]; simp [seq_self]
    refine laws_eqInstrS.v0s _ _ _ ?_
    rw [br_t (by simpa using hlt), br_t (by simp), Int.toNat_natCast, gt_at _ hlt, br_t (by simp), gt_at _ hlt, he, bd_s, brn_t, next_ok i _ hlt (by omega)]
    exact ih (i + 1) (by omega)
theorem eqInstrS_v (xs : List In5) (h : xs.length ≤ 1000000000) : laws_eqInstrS.v xs xs = some true :=
  laws_eqInstrS.vs _ _ ((br_f (by simp)).trans (eqInstrS_l xs h xs.length 0 (by omega)))
end Go.Proofs.YtafjengmkiepbaaGreat.Am
end
section
/- The law laws_FnExactSelectBest over the machine of values. -/
set_option linter.unusedVariables false
set_option maxRecDepth 100000
set_option maxHeartbeats 1000000
namespace Go.Proofs.YtafjengmkiepbaaGreat.Am
open Go
open Go.IntKind renaming wrap → wr
noncomputable section
def laws_FnExactSelectBest.E := eN 5 []
def laws_FnExactSelectBest.g := g0 5 cZ [.id]
def laws_FnExactSelectBest.T (k : Nat) : Table := tabs [(8, (laws_szNodeS.tab k)), (10, (laws_toNodeS.tab k)), (14, (laws_eqNodeS.tab k)), (15, (laws_markNodeS.tab k)), (20, (laws_eqInstrS.tab k)), (21, (laws_markInstrS.tab k)), (22, (laws_heldInstrS.tab k)), (23, (spec_SelectBest.tab k)), (24, (impl_SelectBest.tab k))]
def laws_FnExactSelectBest.f (k : Nat) (a0 : LN) : Option Bool := gf 5 laws_FnExactSelectBest.E laws_FnExactSelectBest.T laws_FnExactSelectBest.g k [mkP false nL a0] []
def laws_FnExactSelectBest.tab (k : Nat) : Tb := tabI [.v false nL] [] (enc0 cZ) (laws_FnExactSelectBest.f k)
theorem laws_FnExactSelectBest.calls (k : Nat) (a0 : LN) {r : Bool} (h : laws_FnExactSelectBest.f k a0 = some r) : ACalls P0 5 [mkP false nL a0] [] (enc0 cZ r) := n0 (fun k => (tabs_cons (laws_szNodeS.tok k) (tabs_cons (laws_toNodeS.tok k) (tabs_cons (laws_eqNodeS.tok k) (tabs_cons (laws_markNodeS.tok k) (tabs_cons (laws_eqInstrS.tok k) (tabs_cons (laws_markInstrS.tok k) (tabs_cons (laws_heldInstrS.tok k) (tabs_cons (spec_SelectBest.tok k) (tabs_cons (impl_SelectBest.tok k) tabs_nil)))))))))) (by kernel_rfl) vk h
abbrev laws_FnExactSelectBest.v (a0 : LN) := lim fun _ k => laws_FnExactSelectBest.f k a0
theorem laws_FnExactSelectBest.vs (a0 : LN) {r} (h : (bd (laws_szNodeS.v a0 (1048576 : Int)) fun r0 => (br (decide (r0 < 0)) (some true) (bd (laws_toNodeS.v a0) fun r1 => (bd (spec_SelectBest.v r1.1) fun r2 => (bd (laws_toNodeS.v a0) fun r3 => (bd (impl_SelectBest.v r3.1) fun r4 => (bd (laws_eqInstrS.v r4.1.1 r2.1.1) fun r5 => (br (Bool.not r5) (some false) (br (r4.1.2.1 != r2.1.2.1) (some false) (br (Bool.not (r4.1.2.2 == r2.1.2.2)) (some false) (bd (laws_toNodeS.v a0) fun r6 => (bd (laws_eqNodeS.v r3.1 r6.1) fun r7 => (br (Bool.not r7) (some false) (bd (laws_markNodeS.v (1 : Int) r3.1) fun r8 => (br (decide (r8.1 < 0)) (some false) (bd (laws_eqInstrS.v r4.1.1 r2.1.1) fun r9 => (br (Bool.not r9) (some false) (br (r4.1.2.1 != r2.1.2.1) (some false) (br (Bool.not (r4.1.2.2 == r2.1.2.2)) (some false) (bd (laws_markInstrS.v (1 : Int) r4.1.1) fun r10 => (bd (laws_heldInstrS.v r10.2 (1 : Int)) fun r11 => (br (decide (r11 < 0)) (some false) (br (r11 != r10.1) (some false) (bd (laws_toNodeS.v a0) fun r12 => (bd (impl_SelectBest.v r12.1) fun r13 => (bd (laws_eqInstrS.v r13.1.1 r2.1.1) fun r14 => (br (Bool.not r14) (some false) (br (r13.1.2.1 != r2.1.2.1) (some false) (br (Bool.not (r13.1.2.2 == r2.1.2.2)) (some false) (bd (laws_heldInstrS.v r10.2 (1 : Int)) fun r15 => (br (decide (r15 < 0)) (some false) (br (r15 != r10.1) (some false) (some true))))))))))))))))))))))))))))))))) = some r) : laws_FnExactSelectBest.v a0 = some r := vq h
end
end Go.Proofs.YtafjengmkiepbaaGreat.Am
end
section
/- The law FnExactSelectBest, in plain Lean. -/
namespace Go.Proofs.YtafjengmkiepbaaGreat.Am
open Go
set_option linter.unusedVariables false
set_option linter.unusedSimpArgs false
theorem selectBest_pure (e : List Nd) (qe : Qd (.sl tyNd) e) : ∃ k, laws_FnExactSelectBest.f k e = some true := by
  refine Ev.some (lim_ev (laws_FnExactSelectBest.vs e ?_))
  obtain ⟨z, hz, _, hl⟩ := szNodeS_q e qe 1048576 (by omega) (by omega)
  by_cases h1 : z < 0
  · simp [hz, h1]
  · have hl := hl (by omega)
    have a3 := selBestA_len (e := e)
    have m0 := markNodeS_v 1 e (by omega) (by omega)
    have m2 := markInstrS_v 1 (selBestA e).1 (by omega) (by omega)
    have m3 := heldInstrS_v 1 (selBestA e).1 (by omega) (by omega)
    have m4 := eqInstrS_v (selBestA e).1 (by omega)
    have n1 : ¬ (1 + 4 * (e.length : Int) < 0) := by omega
    have n2 : ¬ (1 + 5 * ((selBestA e).1.length : Int) < 0) := by omega
    simp [hz, h1, toNodeS_v e hl, specSelBest_v hl, implSelBest_v hl, eqNodeS_v e hl, m0, m2, m3, m4, n1, n2]
end Go.Proofs.YtafjengmkiepbaaGreat.Am
end
