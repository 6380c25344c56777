/- What the machine of values does at an operation, the program does: the call with what is lent. -/
import Derived.Test.YtohfaccniialmaaAmK
namespace Go.Proofs.Ytohfaccniialmaa.Am
open Go
set_option linter.constructorNameAsVariable false
set_option linter.unusedVariables false
set_option linter.unusedSimpArgs false
section
variable {P : Program} {B : Base} {c : Cx} {ob : Nat → Option AO} {w : World} {s : Sem Next} {d : Delta}

theorem froz_keys : ∀ (l : List Nat) (o : Nat), o ∈ (froz ob l).map (·.1) → o ∈ l
  | [], o, h => by simp [froz] at h
  | a :: r, o, h => by
    simp only [froz, List.map_append, List.mem_append] at h
    rcases h with h | h
    · split at h
      · simp at h; subst h; exact List.mem_cons_self
      · simp at h
    · exact List.mem_cons_of_mem _ (froz_keys r o h)
/-- what is lent is frozen -/
theorem froz_ok : ∀ (l : List Nat) (c : Cx) (ob1 : Nat → Option AO), Mem B c ob1 w → Frz ob ob1 → ∃ c', Mem B c' (fup ob1 (froz ob l)) w ∧ Frz ob (fup ob1 (froz ob l)) ∧ Ext c w c' w ∧ c'.inf = c.inf ∧ ∀ b, Lent c ob l b → (∀ o, o ∈ l → ∃ x, ob o = some x ∧ ∀ cs, x ≠ .box cs) → c'.F b
  | [], c, ob1, hm, hf => ⟨c, hm, hf, .refl c w, rfl, fun b ⟨o, x, i, h, _⟩ => by cases h⟩
  | a :: r, c, ob1, hm, hf => by
    have rest : ∀ (c1 : Cx) (ob2 : Nat → Option AO) (fs : List (Nat × AO)), froz ob (a :: r) = fs ++ froz ob r → ob2 = fup ob1 fs → Mem B c1 ob2 w → Frz ob ob2 → Ext c w c1 w → c1.inf = c.inf → (∀ b, (∃ x i, ob a = some x ∧ isDead x = false ∧ c.inf a = some i ∧ i.blk = some b) → (∀ x, ob a = some x → ∀ cs, x ≠ .box cs) → c1.F b) →
        ∃ c', Mem B c' (fup ob1 (froz ob (a :: r))) w ∧ Frz ob (fup ob1 (froz ob (a :: r))) ∧ Ext c w c' w ∧ c'.inf = c.inf ∧ ∀ b, Lent c ob (a :: r) b → (∀ o, o ∈ (a :: r) → ∃ x, ob o = some x ∧ ∀ cs, x ≠ .box cs) → c'.F b := fun c1 ob2 fs e1 e2 h1 h2 h3 h4 h5 => by
      obtain ⟨c', k1, k2, k3, k4, k5⟩ := froz_ok r c1 ob2 h1 h2
      refine ⟨c', by rw [e1, fup_append, ← e2]; exact k1, by rw [e1, fup_append, ← e2]; exact k2, h3.trans k3, k4.trans h4, fun b hb hall => ?_⟩
      obtain ⟨o, x, i, m1, m2, m3, m4, m5⟩ := hb
      rcases List.mem_cons.1 m1 with m | m
      · subst m
        refine k3.F b (h5 b ⟨x, i, m2, m3, m4, m5⟩ fun y hy cs => ?_)
        obtain ⟨z, hz, hzz⟩ := hall o List.mem_cons_self
        rw [hy] at hz
        cases hz
        exact hzz cs
      · exact k5 b ⟨o, x, i, m, m2, m3, by rw [h4]; exact m4, m5⟩ fun o ho => hall o (List.mem_cons_of_mem _ ho)
    cases hq : ob a with
    | none => exact rest c ob1 [] (by simp only [froz]; rw [hq]) rfl hm hf (.refl c w) rfl fun b ⟨x, i, h, _⟩ => by rw [hq] at h; cases h
    | some x =>
      cases x with
      | dead => exact rest c ob1 [] (by simp only [froz]; rw [hq]) rfl hm hf (.refl c w) rfl fun b ⟨x, i, h, h2, _⟩ => by rw [hq] at h; cases h; simp [isDead] at h2
      | box cs => exact rest c ob1 [] (by simp only [froz]; rw [hq]) rfl hm hf (.refl c w) rfl fun b _ h => absurd rfl (h (.box cs) hq cs)
      | fro v t xs =>
        refine rest c ob1 [] (by simp only [froz]; rw [hq]) rfl hm hf (.refl c w) rfl fun b ⟨x, i, h1, h2, h3, h4⟩ _ => ?_
        have h5 : ob1 a = some (.fro v t xs) := by
          rcases hf a with h | ⟨v', t', xs', h, _⟩
          · rw [h, hq]
          · rw [hq] at h; cases h
        exact hm.fro h5 h3 h4
      | row v t xs =>
        have fz : froz ob (a :: r) = [(a, .fro v t xs)] ++ froz ob r := by simp only [froz]; rw [hq]
        rcases hf a with h | ⟨v', t', xs', h, h'⟩
        · rw [hq] at h
          obtain ⟨k1, k2⟩ := hm.freeze h
          refine rest _ _ [(a, .fro v t xs)] fz rfl k1 (fun q => ?_) k2 rfl fun b ⟨x, i, h1, h2, h3, h4⟩ _ => .inr ⟨_, i, h, rfl, h3, h4⟩
          rw [fup_one]
          by_cases hqa : q = a
          · subst hqa
            exact .inr ⟨v, t, xs, hq, by simp⟩
          · simpa [hqa] using hf q
        · rw [hq] at h
          cases h
          have he : fup ob1 [(a, .fro v t xs)] = ob1 := by
            rw [fup_one]
            funext q
            split
            · rename_i hqa; rw [hqa, h']
            · rfl
          exact rest c ob1 [(a, .fro v t xs)] fz he.symm hm hf (.refl c w) rfl fun b ⟨x, i, h1, h2, h3, h4⟩ _ => hm.fro h' h3 h4

/-- only rows are lent -/
theorem lend_rows (ob : Nat → Option AO) : ∀ (n : Nat) (a b : AV) (l : List Nat), SizeOf.sizeOf a < n → lend ob a = some (b, l) → ∀ o, o ∈ l → ∃ x, ob o = some x ∧ ∀ cs, x ≠ .box cs := by
  have agg : ∀ (cs : List AV), (∀ a, a ∈ cs → ∀ b l, lend ob a = some (b, l) → ∀ o, o ∈ l → ∃ x, ob o = some x ∧ ∀ cs, x ≠ .box cs) → ∀ (s : List AV) (l : List Nat), lend.lends ob cs = some (s, l) → ∀ o, o ∈ l → ∃ x, ob o = some x ∧ ∀ cs, x ≠ .box cs := by
    intro cs
    induction cs with
    | nil =>
      intro _ s l h o ho
      simp only [lend.lends, Option.some.injEq, Prod.mk.injEq] at h
      obtain ⟨rfl, rfl⟩ := h
      cases ho
    | cons a r ih =>
      intro hall s l h o ho
      simp only [lend.lends] at h
      split at h
      · rename_i b l1 s1 l2 h1 h2
        simp only [Option.some.injEq, Prod.mk.injEq] at h
        obtain ⟨rfl, rfl⟩ := h
        rcases List.mem_append.1 ho with ho | ho
        · exact hall a List.mem_cons_self b l1 h1 o ho
        · exact ih (fun a ha => hall a (List.mem_cons_of_mem _ ha)) s1 l2 h2 o ho
      · cases h
  intro n
  induction n with
  | zero => intro a b l h; omega
  | succ n ih =>
    intro a b l hn h o ho
    have triv : some (a, ([] : List Nat)) = some (b, l) → ∃ x, ob o = some x ∧ ∀ cs, x ≠ .box cs := fun k => by
      simp only [Option.some.injEq, Prod.mk.injEq] at k
      obtain ⟨rfl, rfl⟩ := k
      cases ho
    cases a <;> simp only [lend, reduceCtorEq] at h
    case own q ver =>
      split at h
      · rename_i r hr
        simp only [Option.some.injEq, Prod.mk.injEq] at h
        obtain ⟨rfl, rfl⟩ := h
        have : o = q := by simpa using ho
        subst this
        rcases (rowOf_own hr).1 with h | h
        · exact ⟨_, h, fun cs e => by cases e⟩
        · exact ⟨_, h, fun cs e => by cases e⟩
      · cases h
    case sub q ver lo m =>
      split at h
      · rename_i r hr
        simp only [Option.some.injEq, Prod.mk.injEq] at h
        obtain ⟨rfl, rfl⟩ := h
        have : o = q := by simpa using ho
        subst this
        simp only [rowOf] at hr
        split at hr
        · rename_i h; exact ⟨_, h, fun cs e => by cases e⟩
        · rename_i h; exact ⟨_, h, fun cs e => by cases e⟩
        · cases hr
      · cases h
    case agg cs =>
      split at h
      · rename_i s l1 h1
        simp only [Option.some.injEq, Prod.mk.injEq] at h
        obtain ⟨rfl, rfl⟩ := h
        refine agg cs (fun a ha b l => ih a b l ?_) s l1 h1 o ho
        have := List.sizeOf_lt_of_mem ha
        simp only [AV.agg.sizeOf_spec] at hn
        omega
      · cases h
    all_goals exact triv h
theorem passes_rows (ob : Nat → Option AO) : ∀ (as : List AV) (m : List Bool) (s : List AV) (l : List Nat), passes ob m as = some (s, l) → ∀ o, o ∈ l → ∃ x, ob o = some x ∧ ∀ cs, x ≠ .box cs
  | [], m, s, l, h, o, ho => by
    simp only [passes, Option.some.injEq, Prod.mk.injEq] at h
    obtain ⟨rfl, rfl⟩ := h
    cases ho
  | a :: r, m, s, l, h, o, ho => by
    have lent : ∀ (m' : List Bool), (match lend ob a, passes ob m' r with | some (b, w), some (s, w') => some (b :: s, w ++ w') | _, _ => none) = some (s, l) → ∃ x, ob o = some x ∧ ∀ cs, x ≠ .box cs := fun m' h => by
      split at h
      · rename_i b l1 s1 l2 h1 h2
        simp only [Option.some.injEq, Prod.mk.injEq] at h
        obtain ⟨rfl, rfl⟩ := h
        rcases List.mem_append.1 ho with ho | ho
        · exact lend_rows ob _ a b l1 (Nat.lt_succ_self _) h1 o ho
        · exact passes_rows ob r m' s1 l2 h2 o ho
      · cases h
    cases m with
    | nil => exact lent [] (by simp only [passes] at h; exact h)
    | cons x m =>
      cases x with
      | false => exact lent m (by simp only [passes] at h; exact h)
      | true =>
        simp only [passes] at h
        split at h
        · rename_i s1 l2 h2
          simp only [Option.some.injEq, Prod.mk.injEq] at h
          obtain ⟨rfl, rfl⟩ := h
          exact passes_rows ob r m s1 l2 h2 o ho
        · cases h

theorem callA_ok (hm : Mem B c ob w) {T : Table} (hT : TS P T) {M : FuncId → List Bool} {k : Nat} {f : FuncId} {as : List AV} {vs : Array Value} (hvs : vs.size = as.length) (hva : ∀ j a, as[j]? = some a → V c w a (vs.getD j undef)) (h : run T (callA M k ob f as) = some d) :
    okFn P f ∧ Calls P f vs w fun e w' => ∃ v c', e = .returned v ∧ Mem B c' (fup ob d.ow) w' ∧ Ext c w c' w' ∧ V c' w' d.v v := by
  unfold callA at h
  obtain ⟨⟨as', lent⟩, hp, h1⟩ := run_opt h
  clear h
  obtain ⟨os, hos, h2⟩ := run_opt h1
  clear h1
  simp only at hos h2
  generalize hLdef : reach ob 100 (refs.refsL as') [] = L at hos h2
  split at h2
  case h_1 => exact (run_fail h2).elim
  rename_i hck
  rw [Bool.and_eq_true, Bool.and_eq_true] at hck
  obtain ⟨⟨hnd, hdj⟩, hrows⟩ := hck
  simp only [run] at h2
  split at h2
  case h_2 => cases h2
  rename_i p hTp
  split at h2
  case h_2 => cases h2
  rename_i t hpt
  obtain ⟨hfn, hA⟩ := hT f _ os p t hTp hpt
  refine ⟨hfn, ?_⟩
  split at h2
  case h_1 => exact (run_fail h2).elim
  rename_i hck2
  rw [Bool.and_eq_true, Bool.and_eq_true] at hck2
  obtain ⟨⟨hle, hfr⟩, hbox⟩ := hck2
  have hle := ble_true hle
  obtain ⟨hlen, hget⟩ := obsOf_get _ L os hos
  have hdj' := disj_mem lent L hdj
  have hfresh := freshN_get (ob := ob) (newId k 0) _ hfr
  split at h2
  · rename_i hflag
    have hd := run_ret h2
    subst hd
    obtain ⟨cf, m1, m2, m3, m4, m5⟩ := froz_ok lent c ob hm (.refl ob)
    have hlentF : ∀ b, Lent c ob lent b → cf.F b := fun b hb => m5 b hb (passes_rows ob as (M f) as' lent hp)
    obtain ⟨q1, q2⟩ := passes_ok hm (c' := cf) m4 m3.F as (M f) as' lent hp hlentF
    have hne : ∀ o, o ∈ L → fup ob (froz ob lent) o = ob o := fun o ho => fup_not _ _ _ fun hk => hdj' o (froz_keys lent o hk) ho
    have core := call_core (P := P) m1 (ob0 := ob) (k := k) (L := L) (os := os) (f := f) (as := as') (vs := vs) (r := p.enc t) (F1 := cf.F)
      (fun i o hi => by
        obtain ⟨a, a1, a2⟩ := hget i o hi
        exact ⟨a, by rw [hne o (List.mem_of_getElem? hi)]; exact a1, a1, a2⟩) hlen hnd hrows (fun b h => h) (fun b hb => ⟨m1.F b hb, fun o ho hB => (m1.blk hB).2 hb⟩) (by rw [hvs, q1]) (q2 _ hva) hA hle (fun q hq => by
        have := hfresh q hq
        refine ⟨?_, this⟩
        rcases m2 (newId k 0 + q) with h | ⟨v, t, xs, h, _⟩
        · rw [h, this]
        · rw [this] at h; cases h) hbox (fun _ b h => h)
    refine core.mono fun e w' ⟨v, c', he, k1, k2, k3⟩ => ⟨v, c', he, ?_, m3.trans k2, k3⟩
    rw [fup_append, ← fup_comm]
    · exact k1
    · intro o h1 h2
      have h1 := froz_keys lent o h1
      obtain ⟨j, _, hj, rfl⟩ := backO_keys k L (p.enc t).2 0 o h2
      by_cases hjl : j < L.length
      · rw [sig_old (List.getElem?_eq_getElem hjl)] at h1
        exact hdj' _ h1 (List.getElem_mem hjl)
      · rw [sig_new (by omega)] at h1
        obtain ⟨x, hx, _⟩ := passes_rows ob as (M f) as' lent hp _ h1
        rw [hfresh _ (by omega)] at hx
        cases hx
  · rename_i hflag
    have hd := run_ret h2
    subst hd
    have hF : ∀ b, c.F b → c.F b ∨ Lent c ob lent b := fun b h => .inl h
    obtain ⟨q1, q2⟩ := passes_ok hm (c' := ⟨c.inf, fun b => c.F b ∨ Lent c ob lent b⟩) rfl hF as (M f) as' lent hp (fun b h => .inr h)
    refine call_core (P := P) hm (ob0 := ob) (k := k) (L := L) (os := os) (f := f) (as := as') (vs := vs) (r := p.enc t) (F1 := fun b => c.F b ∨ Lent c ob lent b)
      (fun i o hi => by
        obtain ⟨a, a1, a2⟩ := hget i o hi
        exact ⟨a, a1, a1, a2⟩) hlen hnd hrows hF (fun b hb => ?_) (by rw [hvs, q1]) (q2 _ hva) hA hle (fun q hq => ⟨hfresh q hq, hfresh q hq⟩) hbox (fun hfl => by rw [hflag] at hfl; cases hfl)
    rcases hb with hb | ⟨o, x, i, k1, k2, k3, k4, k5⟩
    · exact ⟨hm.F b hb, fun o ho hB => (hm.blk hB).2 hb⟩
    · by_cases hl : live x = true
      · have hB : Blk c ob o b := ⟨x, i, k2, hl, k4, k5⟩
        refine ⟨(hm.blk hB).1, fun o' ho' ⟨y, j, y1, y2, y3, y4⟩ => ?_⟩
        have := hm.inj o o' x y i j b k2 y1 hl y2 k4 y3 k5 y4
        subst this
        exact hdj' o k1 ho'
      · have hFb : c.F b := by
          cases x with
          | dead => simp [isDead] at k3
          | box cs => simp [live] at hl
          | row v t xs => simp [live] at hl
          | fro v t xs => exact hm.fro k2 k4 k5
        exact ⟨hm.F b hFb, fun o ho hB => (hm.blk hB).2 hFb⟩
end
end Go.Proofs.Ytohfaccniialmaa.Am
