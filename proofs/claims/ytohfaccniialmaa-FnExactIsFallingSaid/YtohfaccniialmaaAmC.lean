/- What the machine of values does at a call, the program does. -/
import Derived.Test.YtohfaccniialmaaAmA
namespace Go.Proofs.Ytohfaccniialmaa.Am
open Go
set_option linter.constructorNameAsVariable false
set_option linter.unusedVariables false
set_option linter.unusedSimpArgs false

def obL (os : List AO) : Nat → Option AO := fun o => os[o]?
/-- a function's contract: what the machine of values says of it -/
def ACalls (P : Program) (f : FuncId) (as : List AV) (os : List AO) (r : Ret) : Prop :=
  ∀ (c : Cx) (w : World) (vs : Array Value), vs.size = as.length → (∀ j a, as[j]? = some a → V c w a (vs.getD j undef)) → Mem ⟨w, fun b => ∃ o, Blk c (obL os) o b, c.F, c.inf⟩ c (obL os) w →
    Calls P f vs w fun e w' => ∃ v c', e = .returned v ∧ V c' w' r.1 v ∧ Mem ⟨w, fun b => ∃ o, Blk c (obL os) o b, c.F, c.inf⟩ c' (obL r.2) w' ∧ ∀ o i i', c.inf o = some i → c'.inf o = some i' → i'.ver = 0 → i' = i
def okFn (P : Program) (f : FuncId) : Prop := ∃ fn, P.funcs[f]? = some fn ∧ (fn.name == "runtime.NumGoroutine") = false ∧ fn.body.isSome = true
def TS (P : Program) (T : Table) : Prop := ∀ f as os p t, T f as os = some p → p.x = some t → okFn P f ∧ ACalls P f as os (p.enc t)

section
variable {P : Program} {B : Base} {c : Cx} {ob : Nat → Option AO} {w : World} {s : Sem Next} {d : Delta}

theorem idx_some : ∀ (L : List Nat) (o i : Nat), idx L o = some i → L[i]? = some o
  | [], o, i, h => by simp [idx] at h
  | k :: l, o, i, h => by
    simp only [idx] at h
    split at h
    · rename_i e
      have := beq_true e
      simp only [Option.some.injEq] at h
      subst h this
      rfl
    · split at h
      · rename_i j hj
        simp only [Option.some.injEq] at h
        subst h
        simpa using idx_some l o j hj
      · cases h
theorem nodup_get : ∀ (L : List Nat), nodupB L = true → ∀ (i j o : Nat), L[i]? = some o → L[j]? = some o → i = j
  | [], _, i, j, o, h, _ => by simp at h
  | a :: r, hn, i, j, o, hi, hj => by
    simp only [nodupB] at hn
    split at hn
    · cases hn
    rename_i hh
    have hh := has_mem _ _ hh
    cases i with
    | zero =>
      cases j with
      | zero => rfl
      | succ j =>
        simp at hi hj
        subst hi
        exact absurd (List.mem_of_getElem? hj) hh
    | succ i =>
      cases j with
      | zero =>
        simp at hi hj
        subst hj
        exact absurd (List.mem_of_getElem? hi) hh
      | succ j =>
        simp at hi hj
        rw [nodup_get r hn i j o hi hj]
theorem idx_of : ∀ (L : List Nat) (o i : Nat), L[i]? = some o → ∃ j, idx L o = some j
  | [], o, i, h => by simp at h
  | k :: l, o, i, h => by
    simp only [idx]
    split
    · exact ⟨0, rfl⟩
    · rename_i hne
      cases i with
      | zero =>
        simp at h
        exact absurd h (Nat.ne_of_beq_eq_false hne)
      | succ i =>
        obtain ⟨j, hj⟩ := idx_of l o i (by simpa using h)
        exact ⟨j + 1, by simp [hj]⟩
theorem disj_mem : ∀ (a l : List Nat), disj a l = true → ∀ x, x ∈ a → ¬ x ∈ l
  | [], l, _, x, h => by cases h
  | y :: r, l, hd, x, h => by
    simp only [disj] at hd
    split at hd
    · cases hd
    rename_i hh
    rcases List.mem_cons.1 h with h | h
    · subst h; exact has_mem _ _ hh
    · exact disj_mem r l hd x h
theorem freshN_get (k : Nat) : ∀ n, freshN ob k n = true → ∀ r, r < n → ob (k + r) = none
  | 0, _, r, h => by omega
  | n + 1, hf, r, h => by
    simp only [freshN] at hf
    split at hf
    · rename_i h0
      rcases Nat.lt_or_ge r n with h1 | h1
      · exact freshN_get k n hf r h1
      · have : r = n := by omega
        subst this
        exact h0
    · cases hf

/-- what is lent -/
def Lent (c : Cx) (ob : Nat → Option AO) (l : List Nat) (b : Nat) : Prop := ∃ o x i, o ∈ l ∧ ob o = some x ∧ isDead x = false ∧ c.inf o = some i ∧ i.blk = some b

theorem lend_row (hm : Mem B c ob w) {c' : Cx} (he : c'.inf = c.inf) (hF : ∀ b, c.F b → c'.F b) {o : Nat} {t : Ty} {xs : List t.D} {v : Nat} (h : ob o = some (.row v t xs) ∨ ob o = some (.fro v t xs)) (hl : ∀ b, Lent c ob [o] b → c'.F b) {i : Inf} {p : Prop} (hi : c.inf o = some i) (hB : RowB c w i t xs p) : RowB c' w i t xs True := by
  have e : Ext c w c' w := ⟨hF, fun o i h => ⟨i, by rw [he]; exact h, Nat.le_refl _, fun _ => rfl⟩, fun _ _ => rfl, fun o _ h => by rw [he]; exact h⟩
  rcases hB with hB | ⟨b, arr, el, h1, h2, h3, h4, h5⟩
  · exact .inl hB
  · refine .inr ⟨b, arr, el, h1, h2, h3, h4.ext e, ⟨fun _ => trivial, fun _ => hl b ?_⟩⟩
    rcases h with h | h
    · exact ⟨o, _, i, by simp, h, rfl, hi, h1⟩
    · exact ⟨o, _, i, by simp, h, rfl, hi, h1⟩
theorem lend_ok (hm : Mem B c ob w) {c' : Cx} (he : c'.inf = c.inf) (hF : ∀ b, c.F b → c'.F b) : ∀ (a b : AV) (l : List Nat) (v : Value), lend ob a = some (b, l) → (∀ x, Lent c ob l x → c'.F x) → V c w a v → V c' w b v := by
  have e : Ext c w c' w := ⟨hF, fun o i h => ⟨i, by rw [he]; exact h, Nat.le_refl _, fun _ => rfl⟩, fun _ _ => rfl, fun o _ h => by rw [he]; exact h⟩
  have mono : ∀ (l l' : List Nat), (∀ o, o ∈ l → o ∈ l') → (∀ x, Lent c ob l' x → c'.F x) → ∀ x, Lent c ob l x → c'.F x := fun l l' h1 h2 x ⟨o, y, i, k1, k2⟩ => h2 x ⟨o, y, i, h1 o k1, k2⟩
  have agg : ∀ (cs : List AV), (∀ a, a ∈ cs → ∀ b l v, lend ob a = some (b, l) → (∀ x, Lent c ob l x → c'.F x) → V c w a v → V c' w b v) → ∀ (s : List AV) (l : List Nat), lend.lends ob cs = some (s, l) → (∀ x, Lent c ob l x → c'.F x) → s.length = cs.length ∧ ∀ (g : Nat → Value), (∀ j y, cs[j]? = some y → V c w y (g j)) → ∀ j y, s[j]? = some y → V c' w y (g j) := by
    intro cs
    induction cs with
    | nil =>
      intro _ s l h _
      simp only [lend.lends, Option.some.injEq, Prod.mk.injEq] at h
      obtain ⟨rfl, rfl⟩ := h
      exact ⟨rfl, by simp⟩
    | cons a r ih =>
      intro hall s l h hl
      simp only [lend.lends] at h
      split at h
      · rename_i b l1 s1 l2 h1 h2
        simp only [Option.some.injEq, Prod.mk.injEq] at h
        obtain ⟨rfl, rfl⟩ := h
        obtain ⟨k1, k2⟩ := ih (fun a ha => hall a (List.mem_cons_of_mem _ ha)) s1 l2 h2 (mono _ _ (fun o ho => List.mem_append_right _ ho) hl)
        refine ⟨by simp [k1], fun g hg j y hy => ?_⟩
        cases j with
        | zero =>
          simp at hy
          subst hy
          exact hall a List.mem_cons_self b l1 _ h1 (mono _ _ (fun o ho => List.mem_append_left _ ho) hl) (hg 0 a rfl)
        | succ j => exact k2 (fun j => g (j + 1)) (fun j y hy => hg (j + 1) y (by simpa using hy)) j y (by simpa using hy)
      · cases h
  have flat : ∀ (a b : AV) (l : List Nat) (v : Value), (∀ cs, a ≠ .agg cs) → lend ob a = some (b, l) → (∀ x, Lent c ob l x → c'.F x) → V c w a v → V c' w b v := fun a b l v hna h hl hv => by
    have triv : some (a, ([] : List Nat)) = some (b, l) → V c' w b v := fun k => by
      simp only [Option.some.injEq, Prod.mk.injEq] at k
      obtain ⟨rfl, rfl⟩ := k
      exact hv.ext e
    cases a <;> simp only [lend, reduceCtorEq] at h
    case agg cs => exact absurd rfl (hna cs)
    case own o ver =>
      split at h
      · rename_i r hr
        simp only [Option.some.injEq, Prod.mk.injEq] at h
        obtain ⟨rfl, rfl⟩ := h
        obtain ⟨hq, _⟩ := rowOf_own hr
        obtain ⟨i, p, h1, h2, h3, h4, h5, h6, h7⟩ := own_head hm hq hv
        have hB := lend_row hm he hF hq hl h1 h6
        have := own_lst h3 h4 hB (lo := 0) (n := r.xs.length) (by omega) h7
        simpa using this
      · cases h
    case sub o ver lo n =>
      split at h
      · rename_i r hr
        simp only [Option.some.injEq, Prod.mk.injEq] at h
        obtain ⟨rfl, rfl⟩ := h
        simp only [rowOf] at hr
        split at hr
        · rename_i v' t xs ho
          split at hr
          · rename_i hvv
            have := beq_true hvv
            simp only [Option.some.injEq] at hr
            subst hr this
            obtain ⟨i, p, h1, h2, h3, h4, h5, h6, h7, h8⟩ := sub_head hm (.inl ho) hv
            exact own_lst h3 h4 (lend_row hm he hF (.inl ho) hl h1 h6) h7 h8
          · cases hr
        · rename_i v' t xs ho
          split at hr
          · rename_i hvv
            have := beq_true hvv
            simp only [Option.some.injEq] at hr
            subst hr this
            obtain ⟨i, p, h1, h2, h3, h4, h5, h6, h7, h8⟩ := sub_head hm (.inr ho) hv
            exact own_lst h3 h4 (lend_row hm he hF (.inr ho) hl h1 h6) h7 h8
          · cases hr
        · cases hr
      · cases h
    all_goals exact triv h
  have two : ∀ (n : Nat) (a b : AV) (l : List Nat) (v : Value), SizeOf.sizeOf a < n → lend ob a = some (b, l) → (∀ x, Lent c ob l x → c'.F x) → V c w a v → V c' w b v := by
    intro n
    induction n with
    | zero => intro a b l v h; omega
    | succ n ih =>
      intro a b l v hn h hl hv
      by_cases hag : ∃ cs, a = .agg cs
      · obtain ⟨cs, rfl⟩ := hag
        simp only [lend] at h
        split at h
        · rename_i s l1 h1
          simp only [Option.some.injEq, Prod.mk.injEq] at h
          obtain ⟨rfl, rfl⟩ := h
          obtain ⟨k1, k2⟩ := agg cs (fun a ha b l v => ih a b l v (by
            have := List.sizeOf_lt_of_mem ha
            simp only [AV.agg.sizeOf_spec] at hn
            omega)) s l1 h1 hl
          obtain ⟨vs, rfl, q1, q2, q3⟩ := hv.inv_agg
          exact .agg s vs (by rw [q1, k1]) (fun j hj => q2 j (by rw [← k1]; exact hj)) (k2 _ q3)
        · cases h
      · exact flat a b l v (fun cs e => hag ⟨cs, e⟩) h hl hv
  exact fun a b l v h hl hv => two (SizeOf.sizeOf a + 1) a b l v (by omega) h hl hv
theorem passes_ok (hm : Mem B c ob w) {c' : Cx} (he : c'.inf = c.inf) (hF : ∀ b, c.F b → c'.F b) : ∀ (as : List AV) (m : List Bool) (s : List AV) (l : List Nat), passes ob m as = some (s, l) → (∀ x, Lent c ob l x → c'.F x) → s.length = as.length ∧ ∀ (g : Nat → Value), (∀ j y, as[j]? = some y → V c w y (g j)) → ∀ j y, s[j]? = some y → V c' w y (g j)
  | [], m, s, l, h, _ => by
    simp only [passes, Option.some.injEq, Prod.mk.injEq] at h
    obtain ⟨rfl, rfl⟩ := h
    exact ⟨rfl, by simp⟩
  | a :: r, m, s, l, h, hl => by
    have e : Ext c w c' w := ⟨hF, fun o i h => ⟨i, by rw [he]; exact h, Nat.le_refl _, fun _ => rfl⟩, fun _ _ => rfl, fun o _ h => by rw [he]; exact h⟩
    have mono : ∀ (l l' : List Nat), (∀ o, o ∈ l → o ∈ l') → (∀ x, Lent c ob l' x → c'.F x) → ∀ x, Lent c ob l x → c'.F x := fun l l' h1 h2 x ⟨o, y, i, k1, k2⟩ => h2 x ⟨o, y, i, h1 o k1, k2⟩
    have step : ∀ (b : AV) (m' : List Bool) (s1 : List AV) (l1 l2 : List Nat), (∀ v, V c w a v → V c' w b v) → passes ob m' r = some (s1, l2) → s = b :: s1 → l = l1 ++ l2 → s.length = (a :: r).length ∧ ∀ (g : Nat → Value), (∀ j y, (a :: r)[j]? = some y → V c w y (g j)) → ∀ j y, s[j]? = some y → V c' w y (g j) := fun b m' s1 l1 l2 h1 h2 e1 e2 => by
      subst e1 e2
      obtain ⟨k1, k2⟩ := passes_ok hm he hF r m' s1 l2 h2 (mono _ _ (fun o ho => List.mem_append_right _ ho) hl)
      refine ⟨by simp [k1], fun g hg j y hy => ?_⟩
      cases j with
      | zero => simp at hy; subst hy; exact h1 _ (hg 0 a rfl)
      | succ j => exact k2 (fun j => g (j + 1)) (fun j y hy => hg (j + 1) y (by simpa using hy)) j y (by simpa using hy)
    have lent : ∀ (m' : List Bool), (match lend ob a, passes ob m' r with | some (b, w), some (s, w') => some (b :: s, w ++ w') | _, _ => none) = some (s, l) → s.length = (a :: r).length ∧ ∀ (g : Nat → Value), (∀ j y, (a :: r)[j]? = some y → V c w y (g j)) → ∀ j y, s[j]? = some y → V c' w y (g j) := fun m' h => by
      split at h
      · rename_i b l1 s1 l2 h1 h2
        simp only [Option.some.injEq, Prod.mk.injEq] at h
        obtain ⟨rfl, rfl⟩ := h
        exact step b m' s1 l1 l2 (fun v hv => lend_ok hm he hF a b l1 v h1 (mono _ _ (fun o ho => List.mem_append_left _ ho) hl) hv) h2 rfl rfl
      · cases h
    cases m with
    | nil => exact lent [] (by simp only [passes] at h; exact h)
    | cons x m =>
      cases x with
      | false => exact lent m (by simp only [passes] at h; exact h)
      | true =>
        simp only [passes] at h
        split at h
        · rename_i s1 l2 h2
          simp only [Option.some.injEq, Prod.mk.injEq] at h
          obtain ⟨rfl, rfl⟩ := h
          exact step a m s1 [] l2 (fun v hv => hv.ext e) h2 rfl rfl
        · cases h
end
end Go.Proofs.Ytohfaccniialmaa.Am
