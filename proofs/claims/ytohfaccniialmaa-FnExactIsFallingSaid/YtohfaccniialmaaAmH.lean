/- Objects that are called otherwise, or go. -/
import Derived.Test.YtohfaccniialmaaAmV
namespace Go.Proofs.Ytohfaccniialmaa.Am
open Go
set_option linter.constructorNameAsVariable false
set_option linter.unusedVariables false
set_option linter.unusedSimpArgs false
section
variable {P : Program} {B : Base} {c : Cx} {ob : Nat → Option AO} {w : World}

theorem names_mem (nm : Nat → Nat → Nat) (bump : List Nat) : ∀ (L : List Nat) (i : Nat) (o n v : Nat), (o, n, v) ∈ names ob nm bump i L → ∃ a, ob o = some a ∧ isDead a = false ∧ (isBox a = true → v = 0)
  | [], i, o, n, v, h => by simp [names] at h
  | x :: r, i, o, n, v, h => by
    simp only [names] at h
    split at h
    · rename_i a ha
      split at h
      · rename_i hd
        rcases List.mem_cons.1 h with h | h
        · simp only [Prod.mk.injEq] at h
          obtain ⟨rfl, rfl, rfl⟩ := h
          exact ⟨a, ha, hd, fun hb => by rw [hb]⟩
        · exact names_mem nm bump r (i + 1) o n v h
      · exact names_mem nm bump r (i + 1) o n v h
    · exact names_mem nm bump r (i + 1) o n v h
theorem names_nm (nm : Nat → Nat → Nat) (bump : List Nat) : ∀ (L : List Nat) (i : Nat) (o n v : Nat), (o, n, v) ∈ names ob nm bump i L → (∃ j, n = nm j o ∧ i ≤ j ∧ L[j - i]? = some o) ∧ ∃ a, ob o = some a ∧ isDead a = false ∧ (v = 0 → o < 1000 → verO a = 0)
  | [], i, o, n, v, h => by simp [names] at h
  | x :: r, i, o, n, v, h => by
    simp only [names] at h
    have rest : (o, n, v) ∈ names ob nm bump (i + 1) r → (∃ j, n = nm j o ∧ i ≤ j ∧ (x :: r)[j - i]? = some o) ∧ ∃ a, ob o = some a ∧ isDead a = false ∧ (v = 0 → o < 1000 → verO a = 0) := fun h => by
      obtain ⟨⟨j, h1, h2, h3⟩, h4⟩ := names_nm nm bump r (i + 1) o n v h
      exact ⟨⟨j, h1, by omega, by rw [show j - i = (j - (i + 1)) + 1 by omega, List.getElem?_cons_succ]; exact h3⟩, h4⟩
    split at h
    · rename_i a ha
      split at h
      · rename_i hd
        rcases List.mem_cons.1 h with h | h
        · simp only [Prod.mk.injEq] at h
          obtain ⟨rfl, rfl, rfl⟩ := h
          refine ⟨⟨i, rfl, Nat.le_refl _, by simp⟩, a, ha, hd, fun hv ho => ?_⟩
          have hlt : Nat.blt o 1000 = true := Nat.ble_eq_true_of_le ho
          cases a with
          | row v t xs =>
            simp only [isBox, newV, hlt] at hv
            split at hv <;> first | (simp at hv; done) | (rename_i h2 h3; exact h3) | (exact absurd hv (by simp))
          | fro v t xs =>
            simp only [isBox, newV, hlt] at hv
            split at hv <;> first | (simp at hv; done) | (rename_i h2 h3; exact h3) | (exact absurd hv (by simp))
          | box cs => rfl
          | dead => rfl
        · exact rest h
      · exact rest h
    · exact rest h
theorem rnm_mem : ∀ (K : List (Nat × Nat × Nat)) (o v o' v' : Nat), rnm ob K o v = some (o', v') → (o, o', v') ∈ K ∧ ∃ a, ob o = some a ∧ verO a = v
  | [], o, v, o', v', h => by simp [rnm] at h
  | (x, n, u) :: r, o, v, o', v', h => by
    simp only [rnm] at h
    split at h
    · rename_i hx
      have hx := beq_true hx
      subst hx
      split at h
      · rename_i a ha
        split at h
        · rename_i hv
          simp only [Option.some.injEq, Prod.mk.injEq] at h
          obtain ⟨rfl, rfl⟩ := h
          exact ⟨List.mem_cons_self, a, ha, beq_true hv⟩
        · cases h
      · cases h
    · obtain ⟨h1, h2⟩ := rnm_mem r o v o' v' h
      exact ⟨List.mem_cons_of_mem _ h1, h2⟩
theorem fsts_mem : ∀ (K : List (Nat × Nat × Nat)) (o n v : Nat), (o, n, v) ∈ K → o ∈ fsts K
  | [], o, n, v, h => by cases h
  | (x, y, z) :: r, o, n, v, h => by
    simp only [fsts]
    rcases List.mem_cons.1 h with h | h
    · simp only [Prod.mk.injEq] at h
      rw [h.1]
      exact List.mem_cons_self
    · exact List.mem_cons_of_mem _ (fsts_mem r o n v h)
theorem snds_mem : ∀ (K : List (Nat × Nat × Nat)) (o n v : Nat), (o, n, v) ∈ K → n ∈ snds K
  | [], o, n, v, h => by cases h
  | (x, y, z) :: r, o, n, v, h => by
    simp only [snds]
    rcases List.mem_cons.1 h with h | h
    · simp only [Prod.mk.injEq] at h
      rw [h.2.1]
      exact List.mem_cons_self
    · exact List.mem_cons_of_mem _ (snds_mem r o n v h)
theorem nodupB_cons {a : Nat} {r : List Nat} (h : nodupB (a :: r) = true) : ¬ a ∈ r ∧ nodupB r = true := by
  simp only [nodupB] at h
  split at h
  · cases h
  · rename_i hh
    exact ⟨has_mem _ _ hh, h⟩
theorem fsts_inj : ∀ (K : List (Nat × Nat × Nat)), nodupB (fsts K) = true → ∀ (o n v n' v' : Nat), (o, n, v) ∈ K → (o, n', v') ∈ K → n = n' ∧ v = v'
  | [], _, o, n, v, n', v', h, _ => by cases h
  | (x, y, z) :: r, hn, o, n, v, n', v', h, h' => by
    obtain ⟨h1, h2⟩ := nodupB_cons hn
    rcases List.mem_cons.1 h with h | h
    · rcases List.mem_cons.1 h' with h' | h'
      · simp only [Prod.mk.injEq] at h h'
        exact ⟨h.2.1.trans h'.2.1.symm, h.2.2.trans h'.2.2.symm⟩
      · simp only [Prod.mk.injEq] at h
        rw [h.1] at h'
        exact absurd (fsts_mem r _ _ _ h') h1
    · rcases List.mem_cons.1 h' with h' | h'
      · simp only [Prod.mk.injEq] at h'
        rw [h'.1] at h
        exact absurd (fsts_mem r _ _ _ h) h1
      · exact fsts_inj r h2 o n v n' v' h h'
theorem snds_inj : ∀ (K : List (Nat × Nat × Nat)), nodupB (snds K) = true → ∀ (o n v o' v' : Nat), (o, n, v) ∈ K → (o', n, v') ∈ K → o = o' ∧ v = v'
  | [], _, o, n, v, n', v', h, _ => by cases h
  | (x, y, z) :: r, hn, o, n, v, o', v', h, h' => by
    obtain ⟨h1, h2⟩ := nodupB_cons hn
    rcases List.mem_cons.1 h with h | h
    · rcases List.mem_cons.1 h' with h' | h'
      · simp only [Prod.mk.injEq] at h h'
        exact ⟨h.1.trans h'.1.symm, h.2.2.trans h'.2.2.symm⟩
      · simp only [Prod.mk.injEq] at h
        rw [h.2.1] at h'
        exact absurd (snds_mem r _ _ _ h') h1
    · rcases List.mem_cons.1 h' with h' | h'
      · simp only [Prod.mk.injEq] at h'
        rw [h'.2.1] at h
        exact absurd (snds_mem r _ _ _ h) h1
      · exact snds_inj r h2 o n v o' v' h h'

/-- all of it under new names -/
theorem Mem.names (hm : Mem B c ob w) {K : List (Nat × Nat × Nat)} (h1 : nodupB (fsts K) = true) (h2 : nodupB (snds K) = true) (hK : ∀ o n v, (o, n, v) ∈ K → ∃ a, ob o = some a ∧ isDead a = false ∧ (isBox a = true → v = 0)) {ob' : Nat → Option AO}
    (hob : ∀ n x, ob' n = some x → x = .dead ∨ ∃ o v a, (o, n, v) ∈ K ∧ ob o = some a ∧ x = renO (rnm ob K) v a) (hob' : ∀ o n v, (o, n, v) ∈ K → ∃ x, ob' n = some x) :
    ∃ c', Mem B c' ob' w ∧ Ren (rnm ob K) c w c' w ∧ c'.F = c.F ∧ ∀ n i, c'.inf n = some i → ∃ o v i0, (o, n, v) ∈ K ∧ c.inf o = some i0 ∧ i = { i0 with ver := v } := by
  classical
  let c' : Cx := ⟨fun n => if h : ∃ p : Nat × Nat, (p.1, n, p.2) ∈ K then (c.inf (Classical.choose h).1).map fun i => { i with ver := (Classical.choose h).2 } else none, c.F⟩
  have hinf : ∀ o n v, (o, n, v) ∈ K → c'.inf n = (c.inf o).map fun i => { i with ver := v } := fun o n v h => by
    have hex : ∃ p : Nat × Nat, (p.1, n, p.2) ∈ K := ⟨(o, v), h⟩
    show (if h : ∃ p : Nat × Nat, (p.1, n, p.2) ∈ K then _ else none) = _
    rw [dif_pos hex]
    obtain ⟨e1, e2⟩ := snds_inj K h2 _ _ _ _ _ (Classical.choose_spec hex) h
    rw [e1, e2]
  have hinf' : ∀ n i, c'.inf n = some i → ∃ o v i0, (o, n, v) ∈ K ∧ c.inf o = some i0 ∧ i = { i0 with ver := v } := fun n i h => by
    have h : (if h : ∃ p : Nat × Nat, (p.1, n, p.2) ∈ K then (c.inf (Classical.choose h).1).map fun i => { i with ver := (Classical.choose h).2 } else none) = some i := h
    split at h
    · rename_i hex
      obtain ⟨i0, e1, e2⟩ := Option.map_eq_some_iff.1 h
      exact ⟨_, _, i0, Classical.choose_spec hex, e1, e2.symm⟩
    · cases h
  have hren : Ren (rnm ob K) c w c' w := by
    refine ⟨fun b h => h, fun o v o' v' hρ i hi hv => ?_, fun _ _ => rfl⟩
    obtain ⟨k1, a, k2, k3⟩ := rnm_mem K o v o' v' hρ
    obtain ⟨a', k4, k5, k6⟩ := hK o o' v' k1
    rw [k2] at k4
    cases k4
    have hver := hm.ver k2 k5 hi
    exact ⟨{ i with ver := v' }, by rw [hinf o o' v' k1, hi]; rfl, Nat.le_refl _, fun _ => ⟨by omega, rfl, rfl, rfl, rfl, rfl⟩⟩
  have nd : ∀ o a, ob o = some a → isDead a = false → ∃ i, c.inf o = some i := fun o a ha hd => by
    have hor := hm.obj o a ha
    cases a with
    | dead => simp [isDead] at hd
    | box cs => obtain ⟨i0, _, _, _, h1, _⟩ := hor; exact ⟨i0, h1⟩
    | row v t xs => obtain ⟨i0, h1, _⟩ := hor; exact ⟨i0, h1⟩
    | fro v t xs => obtain ⟨i0, h1, _⟩ := hor; exact ⟨i0, h1⟩
  have back : ∀ n x i b, ob' n = some x → live x = true → c'.inf n = some i → i.blk = some b → ∃ o v a i0, (o, n, v) ∈ K ∧ ob o = some a ∧ live a = true ∧ c.inf o = some i0 ∧ i0.blk = some b := fun n x i b hx hl hi hb => by
    rcases hob n x hx with rfl | ⟨o, v, a, k1, k2, rfl⟩
    · simp [live] at hl
    · rw [live_renO] at hl
      rw [hinf o n v k1] at hi
      obtain ⟨i0, e1, rfl⟩ := Option.map_eq_some_iff.1 hi
      exact ⟨o, v, a, i0, k1, k2, hl, e1, hb⟩
  refine ⟨c', ⟨hm.os, hm.tape, hm.output, hm.size, hm.frame, fun n x hx => ?_, fun n i hi => ?_, ?_, hm.F, ?_, hm.F0, hm.Fn⟩, hren, rfl, hinf'⟩
  · rcases hob n x hx with rfl | ⟨o, v, a, k1, k2, rfl⟩
    · trivial
    · obtain ⟨a', k3, k4, k5⟩ := hK o n v k1
      rw [k2] at k3
      cases k3
      obtain ⟨i0, hi0⟩ := nd o a k2 k4
      exact (hm.obj o a k2).ren hren (i' := { i0 with ver := v }) hi0 (by rw [hinf o n v k1, hi0]; rfl) rfl rfl rfl rfl rfl rfl (fun ⟨cs, e⟩ => k5 (by rw [e]; rfl)) (fun _ _ _ => rfl) (fun _ _ _ => Iff.rfl)
  · obtain ⟨o, v, i0, k1, _⟩ := hinf' n i hi
    exact hob' o n v k1
  · intro n n' x x' i i' b hx hx' hl hl' hi hi' hb hb'
    obtain ⟨o, v, a, i0, k1, k2, k3, k4, k5⟩ := back n x i b hx hl hi hb
    obtain ⟨o', v', a', i0', m1, m2, m3, m4, m5⟩ := back n' x' i' b hx' hl' hi' hb'
    have := hm.inj o o' a a' i0 i0' b k2 m2 k3 m3 k4 m4 k5 m5
    subst this
    exact (fsts_inj K h1 o n v n' v' k1 m1).1
  · intro n x i b hx hl hi hb
    obtain ⟨o, v, a, i0, k1, k2, k3, k4, k5⟩ := back n x i b hx hl hi hb
    exact hm.own o a i0 b k2 k3 k4 k5

theorem objs_look (ρ : Nat → Nat → Option (Nat × Nat)) : ∀ (K : List (Nat × Nat × Nat)) (n : Nat) (x : AO), look (objs ob ρ K) n = some x → ∃ o v a, (o, n, v) ∈ K ∧ ob o = some a ∧ x = renO ρ v a
  | [], n, x, h => by simp [objs, look] at h
  | (o, m, v) :: r, n, x, h => by
    simp only [objs] at h
    split at h
    · rename_i a ha
      simp only [look] at h
      split at h
      · rename_i hb
        have := beq_true hb
        simp only [Option.some.injEq] at h
        subst this h
        exact ⟨o, v, a, List.mem_cons_self, ha, rfl⟩
      · obtain ⟨o', v', a', h1, h2, h3⟩ := objs_look ρ r n x h
        exact ⟨o', v', a', List.mem_cons_of_mem _ h1, h2, h3⟩
    · obtain ⟨o', v', a', h1, h2, h3⟩ := objs_look ρ r n x h
      exact ⟨o', v', a', List.mem_cons_of_mem _ h1, h2, h3⟩
theorem objs_has (ρ : Nat → Nat → Option (Nat × Nat)) : ∀ (K : List (Nat × Nat × Nat)) (o n v : Nat) (a : AO), (o, n, v) ∈ K → ob o = some a → ∃ x, look (objs ob ρ K) n = some x
  | [], o, n, v, a, h, _ => by cases h
  | (o', m, u) :: r, o, n, v, a, h, ha => by
    simp only [objs]
    rcases List.mem_cons.1 h with h | h
    · simp only [Prod.mk.injEq] at h
      obtain ⟨rfl, rfl, rfl⟩ := h
      rw [ha]
      exact ⟨_, by simp [look]; rfl⟩
    · obtain ⟨x, hx⟩ := objs_has ρ r o n v a h ha
      split
      · simp only [look]
        split
        · exact ⟨_, rfl⟩
        · exact ⟨x, hx⟩
      · exact ⟨x, hx⟩

/-! ### the machine's state -/
structure RelS (B : Base) (N : Nat) (c : Cx) (st : St) (a : Act) (w : World) : Prop where
  mem : Mem B c (look st.ob) w
  tms : Tms c w st a
  sz : N ≤ a.tmps.size
  dfs : a.defers = []
  pas : ∀ o i i', B.I o = some i → c.inf o = some i' → i'.ver = 0 → i' = i
  Ib : ∀ o i, B.I o = some i → o < 1000

theorem keepT_get (st : St) (ρ : Nat → Nat → Option (Nat × Nat)) : ∀ (l : List Nat) (t : Nat) (x : AV), look (keepT st ρ l) t = some x → x = ren ρ (st.get t)
  | [], t, x, h => by simp [keepT, look] at h
  | y :: r, t, x, h => by
    simp only [keepT, look] at h
    split at h
    · rename_i hb
      have := beq_true hb
      simp only [Option.some.injEq] at h
      subst this h
      rfl
    · exact keepT_get st ρ r t x h
theorem clean_ok {N : Nat} {st st' : St} {a : Act} {l bump : List Nat} (hr : RelS B N c st a w) (h : clean st l bump = some st') : ∃ c', RelS B N c' st' a w := by
  unfold clean at h
  split at h
  case h_2 => cases h
  rename_i hck
  rw [Bool.and_eq_true] at hck
  simp only [Option.some.injEq] at h
  subst h
  have hK : ∀ o n v, (o, n, v) ∈ cleanK st l bump → ∃ a, look st.ob o = some a ∧ isDead a = false ∧ (isBox a = true → v = 0) := fun o n v h => names_mem _ _ _ _ o n v h
  obtain ⟨c', m1, m2, m3, m4⟩ := hr.mem.names (ob' := look (objs (look st.ob) (rnm (look st.ob) (cleanK st l bump)) (cleanK st l bump))) hck.1 hck.2 hK (fun n x hx => .inr (objs_look _ _ n x hx)) (fun o n v h => by
    obtain ⟨a, ha, _⟩ := hK o n v h
    exact objs_has _ _ o n v a h ha)
  refine ⟨c', m1, fun t => ?_, hr.sz, hr.dfs, fun n i i' hI hi' hv => ?_, hr.Ib⟩
  case refine_2 =>
    obtain ⟨o, v, i0, k1, k2, rfl⟩ := m4 n i' hi'
    have hv : v = 0 := hv
    subst hv
    obtain ⟨q1, q2⟩ := names_nm _ _ _ _ o n 0 k1
    obtain ⟨j, q1, _⟩ := q1
    have hn := hr.Ib n i hI
    have hno : n = o := by
      unfold loopNm at q1
      split at q1
      · exact q1
      · omega
    subst hno
    obtain ⟨x, hx, hd, hver⟩ := q2
    have h0 : verO x = 0 := hver rfl hn
    have := hr.mem.ver hx hd k2
    rw [h0] at this
    have e := hr.pas n i i0 hI k2 this.symm
    subst e
    cases i0
    simp only at this
    subst this
    rfl
  show V c' w (match look (keepT st (rnm (look st.ob) (cleanK st l bump)) l) t with | some a => a | none => .bad) _
  split
  · rename_i x hx
    rw [keepT_get st _ l t x hx]
    exact (hr.tms t).ren m2
  · exact .bad _
theorem RelS.re {N : Nat} {st : St} {a : Act} (hr : RelS B N c st a w) {c' : Cx} {st' : St} (hm : Mem B c' (look st'.ob) w) (he : Ext c w c' w) (ht : ∀ t, V c' w (st'.get t) (a.tmps.getD t undef)) : RelS B N c' st' a w := by
  refine ⟨hm, ht, hr.sz, hr.dfs, fun o i i' hI hi' hv => ?_, hr.Ib⟩
  cases h0 : c.inf o with
  | none => rw [he.nw o (hr.Ib o i hI) h0] at hi'; cases hi'
  | some i1 =>
    obtain ⟨i2, k1, k2, k3⟩ := he.inf o i1 h0
    rw [hi'] at k1
    cases k1
    have := k3 (by omega)
    subst this
    exact hr.pas o i _ hI h0 hv
theorem convT_ok {N : Nat} {a : Act} : ∀ (l : List (Nat × Cv)) (st st' : St) (c : Cx), RelS B N c st a w → convT l st = some st' → ∃ c', RelS B N c' st' a w
  | [], st, st', c, hr, h => by
    simp only [convT, Option.some.injEq] at h
    subst h
    exact ⟨c, hr⟩
  | p :: r, st, st', c, hr, h => by
    simp only [convT] at h
    split at h
    · rename_i b ob' h1
      obtain ⟨c1, k1, k2, k3, k4⟩ := convL_ok [st.get p.1] [p.2] st.ob [b] ob' c h1 hr.mem (fun _ => a.tmps.getD p.1 undef) (fun j y hy => by
        cases j with
        | zero => simp at hy; subst hy; exact hr.tms p.1
        | succ j => simp at hy)
      refine convT_ok r _ st' c1 (hr.re k1 k2 fun t => ?_) h
      have : St.get ⟨upd st.tm p.1 b, ob'⟩ t = if t = p.1 then b else st.get t := by
        unfold St.get
        simp only [look_upd]
        by_cases h : t = p.1 <;> simp [h]
      rw [this]
      by_cases e : t = p.1
      · rw [if_pos e, e]
        exact k4 0 b rfl
      · rw [if_neg e]
        exact (hr.tms t).ext k2
    · cases h
theorem upd_fup (l : List (Nat × AO)) (k : Nat) (x : AO) : look (upd l k x) = fup (look l) [(k, x)] := funext fun o => look_upd l k x o
theorem convB_ok {N : Nat} {a : Act} : ∀ (l : List (Nat × List Cv)) (st st' : St) (c : Cx), RelS B N c st a w → convB l st = some st' → ∃ c', RelS B N c' st' a w
  | [], st, st', c, hr, h => by
    simp only [convB, Option.some.injEq] at h
    subst h
    exact ⟨c, hr⟩
  | p :: r, st, st', c, hr, h => by
    simp only [convB] at h
    split at h
    · rename_i cs ho
      split at h
      · rename_i cs' ob' h1
        split at h
        · rename_i cs0 ho'
          obtain ⟨i, b, arr, el, q1, q2, q3, q4, q5, q6⟩ := hr.mem.obj _ _ ho
          obtain ⟨c1, k1, k2, k3, k4⟩ := convF_ok cs p.2 st.ob cs' ob' c h1 hr.mem (fun j => arr.getD j undef) q5.2.2
          obtain ⟨i', b', arr', el', m1, m2, m3, m4, m5, m6⟩ := k1.obj _ _ ho'
          obtain ⟨i2, n1, n2, n3⟩ := k2.inf _ _ q1
          rw [m1] at n1
          cases n1
          have := n3 (by omega)
          subst this
          rw [q3] at m3
          cases m3
          rw [q4] at m4
          cases m4
          obtain ⟨z1, z2⟩ := k1.put p.1 (.box cs') i' w rfl rfl rfl (Nat.le_refl _) (fun _ _ _ => rfl) (fun j hj => by rw [m1] at hj; cases hj; exact ⟨Nat.le_refl _, fun _ => rfl⟩)
            (fun ext => ⟨i', b, arr, el, Cx.set_eq _ _ _, m2, q3, q4, ⟨by rw [q5.1, k3], fun j hj => q5.2.1 j (by rw [← k3]; exact hj), fun j y hy => (k4 j y hy).ext ext⟩, m6⟩)
            (fun b2 _ hb2 => .inl ⟨_, i', ho', rfl, m1, hb2⟩) (fun h0 => by rw [m1] at h0; cases h0)
          refine convB_ok r _ st' _ (hr.re (c' := c1.set p.1 i') (st' := ⟨st.tm, upd ob' p.1 (.box cs')⟩) (by show Mem B _ (look (upd ob' p.1 (.box cs'))) w; rw [upd_fup]; exact z1) (k2.trans z2) fun t => ((hr.tms t).ext k2).ext z2) h
        · cases h
      · cases h
    · exact convB_ok r st st' c hr h
theorem cleanH_ok {N : Nat} {st st' : St} {a : Act} {hd : Hd_} (hr : RelS B N c st a w) (h : cleanH hd st = some st') : ∃ c', RelS B N c' st' a w := by
  unfold cleanH at h
  split at h
  · rename_i st1 h1
    obtain ⟨c1, hr1⟩ := convT_ok _ st st1 c hr h1
    split at h
    · rename_i st2 h2
      obtain ⟨c2, hr2⟩ := convB_ok _ st1 st2 c1 hr1 h2
      exact clean_ok hr2 h
    · cases h
  · cases h
theorem cleanAt_ok {N : Nat} {st st' : St} {a : Act} {cl : Cl_} {body : Code} (hr : RelS B N c st a w) (h : cleanAt cl body st = some st') : ∃ c', RelS B N c' st' a w := by
  unfold cleanAt at h
  split at h
  · split at h
    · exact cleanH_ok hr h
    · simp only [Option.some.injEq] at h; subst h; exact ⟨c, hr⟩
  · simp only [Option.some.injEq] at h; subst h; exact ⟨c, hr⟩
end
end Go.Proofs.Ytohfaccniialmaa.Am
