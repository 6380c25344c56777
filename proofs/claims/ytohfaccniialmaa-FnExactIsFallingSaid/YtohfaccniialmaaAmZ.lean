/- What an operation of the machine of values looks at: all of them. -/
import Derived.Test.YtohfaccniialmaaAmJ
namespace Go.Proofs.Ytohfaccniialmaa.Am
open Go
set_option linter.constructorNameAsVariable false
set_option linter.unusedVariables false
set_option linter.unusedSimpArgs false
section
variable {P : Program} {M : FuncId → List Bool} {T : Table} {ob ob' : Nat → Option AO} {d : Delta}

theorem opA_ev {ev ev' : Operand → AV} (o : Oper) (h : ∀ x, x ∈ opsOf o.op → ev' x = ev x) : opA P M ev' ob o = opA P M ev ob o := by
  have pairs : ∀ ps : Array (Nat × Operand), (∀ x, x ∈ ps.toList.map (fun p => p.2) → ev' x = ev x) → (ps.toList.map fun p => (p.1, ev' p.2)) = ps.toList.map fun p => (p.1, ev p.2) := fun ps hp =>
    List.map_congr_left fun p hm => by rw [hp p.2 (List.mem_map.2 ⟨p, hm, rfl⟩)]
  have many : ∀ l : List Operand, (∀ x, x ∈ l → ev' x = ev x) → l.map ev' = l.map ev := fun l hl => List.map_congr_left hl
  have one : ∀ l : Option Operand, (∀ x, x ∈ l.toList → ev' x = ev x) → l.map ev' = l.map ev := fun l hl => by
    cases l with
    | none => rfl
    | some x => simp [hl x (by simp)]
  obtain ⟨dst, op, type, pos, after, guard⟩ := o
  cases op <;> simp only [opsOf] at h <;> simp only [opA]
  case move x => rw [h x (by simp)]
  case assign x => rw [h x (by simp)]
  case pick c a b => rw [h c (by simp), h a (by simp), h b (by simp)]
  case box t x => rw [h x (by simp)]
  case build t ps => rw [pairs ps h]
  case buildSlice t n ps => rw [pairs ps h]
  case load t x => rw [h x (by simp)]
  case store t p x => rw [h p (by simp), h x (by simp)]
  case nilCheck x => rw [h x (by simp)]
  case binOp op t x y u => rw [h x (by simp), h y (by simp)]
  case unOp op t x => rw [h x (by simp)]
  case makeFunc f a cs => cases f <;> simp only <;> first | rfl | rw [many cs.toList h]
  case makeSlice t l c => rw [h l (by simp), h c (by simp)]
  case slice t x lo hi mx => rw [h x (by simp), one lo fun x hx => h x (by simp at hx ⊢; simp [hx]), one hi fun x hx => h x (by simp at hx ⊢; simp [hx]), one mx fun x hx => h x (by simp at hx ⊢; simp [hx])]
  case fieldAddr t x f => rw [h x (by simp)]
  case field t x f => rw [h x (by simp)]
  case indexAddr t x i => rw [h x (by simp), h i (by simp)]
  case index t x i => rw [h x (by simp), h i (by simp)]
  case extract x i => rw [h x (by simp)]
  case convert s t x => rw [h x (by simp)]
  case call cl =>
    rw [many cl.args.toList fun x hx => h x (List.mem_append_right _ hx)]
    cases hc : cl.callee with
    | value f => simp only; rw [h f (List.mem_append_left _ (by rw [hc]; simp))]
    | builtin b => rfl
    | invoke r m => rfl

theorem opA_cg {ev : Operand → AV} (o : Oper) (h : run T (opA P M ev ob o) = some d) (hg : ∀ k, k ∈ d.rd ∨ k ∈ d.ow.map (·.1) → ob' k = ob k) : run T (opA P M ev ob' o) = some d := by
  have hr : ∀ k, k ∈ d.rd → ob' k = ob k := fun k hk => hg k (.inl hk)
  obtain ⟨dst, op, type, pos, after, guard⟩ := o
  cases op <;> simp only [opA] at h ⊢
  case alloc t =>
    obtain ⟨cs, hc, h⟩ := run_opt h
    obtain ⟨_, h1⟩ := run_fresh h
    have := run_ret h1; subst this
    exact run_opt' hc (fresh_cg h (hg _ (.inr (by simp))))
  case box t x =>
    obtain ⟨cs, hc, h⟩ := run_opt h
    obtain ⟨_, h1⟩ := run_fresh h
    have := run_ret h1; subst this
    exact run_opt' hc (fresh_cg h (hg _ (.inr (by simp))))
  case buildSlice t n ps =>
    split at h
    · obtain ⟨u, hu, h⟩ := run_opt h
      obtain ⟨sz, hs, h⟩ := run_opt h
      obtain ⟨z, hz, h⟩ := run_opt h
      refine run_opt' hu (run_opt' hs (run_opt' hz ?_))
      split at h
      · obtain ⟨cs, hc, h⟩ := run_opt h
        obtain ⟨w, hw, h⟩ := run_opt h
        obtain ⟨xs, hx, h⟩ := run_opt h
        obtain ⟨_, h1⟩ := run_fresh h
        have := run_ret h1; subst this
        exact run_opt' hc (run_opt' (frz_cg hw fun k hk => hg k (.inl hk)) (run_opt' hx (fresh_cg h (hg _ (.inr (by simp))))))
      · exact (run_fail h).elim
    · exact (run_fail h).elim
  case load t x =>
    obtain ⟨n, hn, h⟩ := run_opt h
    exact run_opt' hn (load_cg h hr)
  case store t p x =>
    obtain ⟨n, hn, h⟩ := run_opt h
    exact run_opt' hn (store_cg h hr)
  case makeSlice t l c =>
    obtain ⟨u, hu, h⟩ := run_opt h
    refine run_opt' hu ?_
    split at h
    · obtain ⟨z, hz, h⟩ := run_opt h
      obtain ⟨y, hy, h⟩ := run_opt h
      obtain ⟨b, hb, h⟩ := run_opt h
      refine run_opt' hz (run_opt' hy (run_opt' hb ?_))
      split at h
      · obtain ⟨g1, h⟩ := run_grd h
        obtain ⟨g2, h⟩ := run_grd h
        obtain ⟨g3, h⟩ := run_grd h
        obtain ⟨_, h1⟩ := run_fresh h
        have := run_ret h1; subst this
        exact run_grd' g1 (run_grd' g2 (run_grd' g3 (fresh_cg h (hg _ (.inr (by simp))))))
      · exact (run_fail h).elim
    · exact (run_fail h).elim
  case slice t x lo hi mx => exact slice_cg h hr
  case convert s t x => exact conv_cg h hr
  case indexAddr t x i =>
    split at h
    · obtain ⟨sz, hs, h⟩ := run_opt h
      refine run_opt' hs ?_
      split at h
      · exact h
      · obtain ⟨r, hq, h⟩ := run_opt h
        have hrd : d.rd = r.rd := by
          split at h
          · have := run_ret (run_grd (run_grd h).2).2; subst this; rfl
          · exact (run_fail h).elim
        exact run_opt' (rowOf_cg hq fun k hk => hr k (by rw [hrd]; exact hk)) h
      · obtain ⟨r, hq, h⟩ := run_opt h
        have hrd : d.rd = r.rd := by
          split at h
          · have := run_ret (run_grd (run_grd h).2).2; subst this; rfl
          · exact (run_fail h).elim
        exact run_opt' (rowOf_cg hq fun k hk => hr k (by rw [hrd]; exact hk)) h
      · exact (run_fail h).elim
    · exact (run_fail h).elim
  case makeFunc f a cs => cases f <;> exact h
  case call cl =>
    split at h
    · exact builtin_cg h hg
    · split at h
      · exact call_cg h hg
      · exact (run_fail h).elim
    · exact (run_fail h).elim
  all_goals exact h

theorem keysOf_eq : ∀ l : List (Nat × AO), keysOf l = l.map (·.1)
  | [] => rfl
  | p :: r => by simp [keysOf, keysOf_eq r]
theorem tmpsOf_mem : ∀ (l : List Operand) (t : Nat), .tmp t ∈ l → t ∈ tmpsOf l
  | [], t, h => by cases h
  | x :: r, t, h => by
    cases x with
    | tmp u =>
      simp only [tmpsOf]
      rcases List.mem_cons.1 h with h | h
      · cases h; exact List.mem_cons_self
      · exact List.mem_cons_of_mem _ (tmpsOf_mem r t h)
    | _ =>
      simp only [tmpsOf]
      rcases List.mem_cons.1 h with h | h
      · cases h
      · exact tmpsOf_mem r t h
theorem ev_eq {st st' : St} {x : Operand} (h : ∀ t, x = .tmp t → st'.get t = st.get t) : st'.ev x = st.ev x := by
  cases x with
  | tmp t => exact h t rfl
  | _ => rfl
theorem reads_op {ops : Array Oper} {o : Oper} {t : Nat} (h : t ∈ tmpsOf (opsOf o.op)) : t ∈ readsOf ops o := by
  unfold readsOf
  split
  · exact h
  · split
    · exact List.mem_cons_of_mem _ h
    · exact h
theorem run_bind' {α β : Type} {T : Table} {f : α → Tree β} {a : α} {b : β} : ∀ {t : Tree α}, run T t = some a → run T (f a) = some b → run T (t.bind f) = some b
  | .ret x, h, k => by have := run_ret h; subst this; exact k
  | .fail, h, _ => (run_fail h).elim
  | .br x a c, h, k => by
    cases x
    · exact run_bind' (t := c) h k
    · exact run_bind' (t := a) h k
  | .gt t xs j f', h, k => by
    simp only [Tree.bind, run] at h ⊢
    split at h
    · exact run_bind' h k
    · cases h
  | .call g as os f', h, k => by
    simp only [Tree.bind, run] at h ⊢
    split at h
    · split at h
      · exact run_bind' h k
      · cases h
    · cases h

section
variable {ops : Array Oper} {o : Oper} {st st' st1 : St}
theorem stepD_stepA (h : run T (stepD P M ops st o) = some (st1, d)) : run T (stepA P M ops st o) = some st1 := by
  have op : ∀ (s : St), run T ((opA P M s.ev (look s.ob) o).bind fun d => .ret (s.app o.dst d, d)) = some (st1, d) → run T ((opA P M s.ev (look s.ob) o).bind fun d => .ret (s.app o.dst d)) = some st1 := fun s h => by
    obtain ⟨d', h1, h2⟩ := run_bind T _ _ _ h
    have := run_ret h2
    simp only [Prod.mk.injEq] at this
    obtain ⟨rfl, rfl⟩ := this
    exact run_bind' h1 rfl
  have nop : ∀ (s : St), run T (.ret (s.app o.dst ⟨.und, [], []⟩, ⟨.und, [], []⟩) : Tree (St × Delta)) = some (st1, d) → run T (.ret (s.app o.dst ⟨.und, [], []⟩) : Tree St) = some st1 := fun s h => by
    have := run_ret h
    simp only [Prod.mk.injEq] at this
    obtain ⟨rfl, rfl⟩ := this
    rfl
  unfold stepD at h
  unfold stepA
  split at h
  · exact op st h
  · rename_i j want hg
    split at h
    · exact (run_fail h).elim
    · rename_i g hgd
      split at h
      · exact nop st h
      · rename_i x hx
        cases want with
        | true =>
          cases x with
          | true => exact op _ h
          | false => exact nop { st with tm := upd st.tm g (.b false) } h
        | false =>
          cases x with
          | true => exact nop { st with tm := upd st.tm g (.b true) } h
          | false => exact op _ h
      · exact (run_fail h).elim
theorem app_get (s : St) (d : Delta) (dst : Option Nat) (t : Nat) : (s.app dst d).get t = if dst = some t then d.v else s.get t := by
  cases dst with
  | none => simp [St.app, St.get]
  | some k =>
    have : (s.app (some k) d).get t = if t = k then d.v else s.get t := get_upd s.tm _ k d.v t
    rw [this]
    by_cases h : t = k
    · subst h; simp
    · rw [if_neg h, if_neg (by simpa using fun e => h e.symm)]
theorem app_ob (s : St) (d : Delta) (dst : Option Nat) : look (s.app dst d).ob = fup (look s.ob) d.ow := look_upds d.ow s.ob
theorem same_get {s : St} {g : Nat} {x : AV} (h : s.get g = x) (t : Nat) : St.get { s with tm := upd s.tm g x } t = s.get t := by
  have : St.get { s with tm := upd s.tm g x } t = if t = g then x else s.get t := get_upd s.tm _ g x t
  rw [this]
  by_cases e : t = g
  · rw [if_pos e, e, h]
  · rw [if_neg e]
/-- what a step changes, and what it looks at -/
theorem stepD_ok (h : run T (stepD P M ops st o) = some (st1, d)) : (∀ t, st1.get t = if o.dst = some t then d.v else st.get t) ∧ look st1.ob = fup (look st.ob) d.ow ∧
    ∀ st' : St, (∀ t, t ∈ readsOf ops o → st'.get t = st.get t) → (∀ k, k ∈ d.rd ∨ k ∈ d.ow.map (·.1) → look st'.ob k = look st.ob k) → ∃ st1', run T (stepD P M ops st' o) = some (st1', d) := by
  have op : ∀ (s : St), (∀ t, s.get t = st.get t) → look s.ob = look st.ob → run T ((opA P M s.ev (look s.ob) o).bind fun d => .ret (s.app o.dst d, d)) = some (st1, d) →
      (∀ t, st1.get t = if o.dst = some t then d.v else st.get t) ∧ look st1.ob = fup (look st.ob) d.ow ∧ ∀ st' : St, (∀ t, t ∈ readsOf ops o → st'.get t = st.get t) → (∀ k, k ∈ d.rd ∨ k ∈ d.ow.map (·.1) → look st'.ob k = look st.ob k) → ∃ st1', run T ((opA P M st'.ev (look st'.ob) o).bind fun d => .ret (st'.app o.dst d, d)) = some (st1', d) := fun s e1 e2 h => by
    obtain ⟨d', h1, h2⟩ := run_bind T _ _ _ h
    have := run_ret h2
    simp only [Prod.mk.injEq] at this
    obtain ⟨rfl, rfl⟩ := this
    refine ⟨fun t => by rw [app_get, e1], by rw [app_ob, e2], fun st' g1 g2 => ⟨st'.app o.dst d', run_bind' (a := d') ?_ rfl⟩⟩
    rw [opA_ev (ev := s.ev) o fun x hx => ev_eq fun t e => by subst e; rw [g1 t (reads_op (tmpsOf_mem _ t hx)), e1]]
    exact opA_cg o h1 fun k hk => by rw [g2 k hk, e2]
  have nop : ∀ (s : St), (∀ t, s.get t = st.get t) → look s.ob = look st.ob → run T (.ret (s.app o.dst ⟨.und, [], []⟩, ⟨.und, [], []⟩) : Tree (St × Delta)) = some (st1, d) →
      (∀ t, st1.get t = if o.dst = some t then d.v else st.get t) ∧ look st1.ob = fup (look st.ob) d.ow ∧ d = ⟨.und, [], []⟩ := fun s e1 e2 h => by
    have := run_ret h
    simp only [Prod.mk.injEq] at this
    obtain ⟨rfl, rfl⟩ := this
    exact ⟨fun t => by rw [app_get, e1], by rw [app_ob, e2], rfl⟩
  unfold stepD at h
  split at h
  · rename_i hg
    obtain ⟨k1, k2, k3⟩ := op st (fun _ => rfl) rfl h
    refine ⟨k1, k2, fun st' g1 g2 => ?_⟩
    obtain ⟨s, hs⟩ := k3 st' g1 g2
    exact ⟨s, by unfold stepD; rw [hg]; exact hs⟩
  · rename_i j want hg
    split at h
    · exact (run_fail h).elim
    · rename_i g hgd
      have hgr : g ∈ readsOf ops o := by unfold readsOf; rw [hg]; simp only; rw [hgd]; exact List.mem_cons_self
      split at h
      · rename_i hu
        obtain ⟨k1, k2, rfl⟩ := nop st (fun _ => rfl) rfl h
        refine ⟨k1, k2, fun st' g1 g2 => ⟨st'.app o.dst ⟨.und, [], []⟩, ?_⟩⟩
        unfold stepD
        rw [hg]
        simp only
        rw [hgd]
        simp only
        rw [g1 g hgr, hu]
        rfl
      · rename_i x hx
        have yes : x = want → run T ((opA P M (St.ev { st with tm := upd st.tm g (.b want) }) (look st.ob) o).bind fun d => .ret (St.app { st with tm := upd st.tm g (.b want) } o.dst d, d)) = some (st1, d) → (∀ t, st1.get t = if o.dst = some t then d.v else st.get t) ∧ look st1.ob = fup (look st.ob) d.ow ∧
            ∀ st' : St, (∀ t, t ∈ readsOf ops o → st'.get t = st.get t) → (∀ k, k ∈ d.rd ∨ k ∈ d.ow.map (·.1) → look st'.ob k = look st.ob k) → ∃ st1', run T (stepD P M ops st' o) = some (st1', d) := fun e h => by
          subst e
          obtain ⟨k1, k2, k3⟩ := op { st with tm := upd st.tm g (.b x) } (same_get hx) rfl h
          refine ⟨k1, k2, fun st' g1 g2 => ?_⟩
          have hx' : st'.get g = .b x := by rw [g1 g hgr, hx]
          obtain ⟨s, hs⟩ := k3 { st' with tm := upd st'.tm g (.b x) } (fun t ht => by rw [same_get hx']; exact g1 t ht) g2
          refine ⟨s, ?_⟩
          unfold stepD
          rw [hg]
          simp only
          rw [hgd]
          simp only
          rw [hx']
          simp only
          cases x
          · exact hs
          · exact hs
        have no : x = !want → run T (.ret (St.app { st with tm := upd st.tm g (.b (!want)) } o.dst ⟨.und, [], []⟩, ⟨.und, [], []⟩) : Tree (St × Delta)) = some (st1, d) → (∀ t, st1.get t = if o.dst = some t then d.v else st.get t) ∧ look st1.ob = fup (look st.ob) d.ow ∧
            ∀ st' : St, (∀ t, t ∈ readsOf ops o → st'.get t = st.get t) → (∀ k, k ∈ d.rd ∨ k ∈ d.ow.map (·.1) → look st'.ob k = look st.ob k) → ∃ st1', run T (stepD P M ops st' o) = some (st1', d) := fun e h => by
          obtain ⟨k1, k2, rfl⟩ := nop { st with tm := upd st.tm g (.b (!want)) } (same_get (by rw [hx, e])) rfl h
          refine ⟨k1, k2, fun st' g1 g2 => ?_⟩
          have hx' : st'.get g = .b x := by rw [g1 g hgr, hx]
          refine ⟨St.app { st' with tm := upd st'.tm g (.b (!want)) } o.dst ⟨.und, [], []⟩, ?_⟩
          unfold stepD
          rw [hg]
          simp only
          rw [hgd]
          simp only
          rw [hx']
          subst e
          cases want <;> rfl
        cases want with
        | true =>
          cases x with
          | true => exact yes rfl h
          | false => exact no rfl h
        | false =>
          cases x with
          | true => exact no rfl h
          | false => exact yes rfl h
      · exact (run_fail h).elim
end
end
end Go.Proofs.Ytohfaccniialmaa.Am
