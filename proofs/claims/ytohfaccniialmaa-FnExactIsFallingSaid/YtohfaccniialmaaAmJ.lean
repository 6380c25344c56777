/- What an operation of the machine of values looks at. -/
import Derived.Test.YtohfaccniialmaaAmI
namespace Go.Proofs.Ytohfaccniialmaa.Am
open Go
set_option linter.constructorNameAsVariable false
set_option linter.unusedVariables false
set_option linter.unusedSimpArgs false
section
variable {P : Program} {M : FuncId → List Bool} {T : Table} {ob ob' : Nat → Option AO} {d : Delta}

theorem run_opt' {α β : Type} {T : Table} {x : Option α} {f : α → Tree β} {a : α} {b : β} (hx : x = some a) (h : run T (f a) = some b) : run T (opt x f) = some b := by
  rw [hx]; exact h
theorem run_grd' {β : Type} {T : Table} {c : Bool} {t : Tree β} {b : β} (hc : c = true) (h : run T t = some b) : run T (grd c t) = some b := by
  rw [hc]; exact h
theorem run_fresh' {β : Type} {T : Table} {ob : Nat → Option AO} {k : Nat} {t : Tree β} {b : β} (hk : ob k = none) (h : run T t = some b) : run T (fresh ob k t) = some b := by
  unfold fresh; rw [hk]; exact h

theorem rowOf_cg {dflt : Option Ty} {a : AV} {r : RV} (h : rowOf ob dflt a = some r) (hg : ∀ k, k ∈ r.rd → ob' k = ob k) : rowOf ob' dflt a = some r := by
  cases a <;> simp only [rowOf] at h ⊢
  case own o v =>
    have : ob' o = ob o := hg o (by
      split at h
      · split at h
        · simp only [Option.some.injEq] at h; subst h; simp
        · cases h
      · split at h
        · simp only [Option.some.injEq] at h; subst h; simp
        · cases h
      · cases h)
    rw [this]; exact h
  case sub o v lo n =>
    have : ob' o = ob o := hg o (by
      split at h
      · split at h
        · simp only [Option.some.injEq] at h; subst h; simp
        · cases h
      · split at h
        · simp only [Option.some.injEq] at h; subst h; simp
        · cases h
      · cases h)
    rw [this]; exact h
  all_goals exact h
theorem lenA_cg {a : AV} {r : Int × List Nat} (h : lenA ob a = some r) (hg : ∀ k, k ∈ r.2 → ob' k = ob k) : lenA ob' a = some r := by
  cases a <;> simp only [lenA] at h ⊢
  case own o v =>
    split at h
    · rename_i q hq
      simp only [Option.some.injEq] at h; subst h
      rw [rowOf_cg hq hg]
    · cases h
  case sub o v lo n =>
    split at h
    · rename_i q hq
      simp only [Option.some.injEq] at h; subst h
      rw [rowOf_cg hq hg]
    · cases h
  all_goals exact h
theorem frz1_cg {a : AV} {r : AV × List (Nat × AO)} (h : frz1 ob a = some r) (hg : ∀ k, k ∈ r.2.map (·.1) → ob' k = ob k) : frz1 ob' a = some r := by
  cases a <;> simp only [frz1] at h ⊢
  case own o v =>
    have : ob' o = ob o := hg o (by
      split at h
      · split at h
        · simp only [Option.some.injEq] at h; subst h; simp
        · cases h
      · split at h
        · simp only [Option.some.injEq] at h; subst h; simp
        · cases h
      · cases h)
    rw [this]; exact h
  all_goals exact h
theorem frz_cg : ∀ {cs : List AV} {r : List AV × List (Nat × AO)}, frz ob cs = some r → (∀ k, k ∈ r.2.map (·.1) → ob' k = ob k) → frz ob' cs = some r
  | [], r, h, _ => by simpa [frz] using h
  | a :: l, r, h, hg => by
    simp only [frz] at h ⊢
    split at h
    · rename_i b w s w' h1 h2
      simp only [Option.some.injEq] at h; subst h
      rw [frz1_cg h1 fun k hk => hg k (by simp only [List.map_append, List.mem_append]; exact .inl hk), frz_cg h2 fun k hk => hg k (by simp only [List.map_append, List.mem_append]; exact .inr hk)]
    · cases h
theorem load_cg {t : TypeId} {n : Nat} {a : AV} (h : run T (loadA P ob t n a) = some d) (hg : ∀ k, k ∈ d.rd → ob' k = ob k) : run T (loadA P ob' t n a) = some d := by
  cases a <;> simp only [loadA] at h ⊢
  case ptr o off =>
    have : ob' o = ob o := hg o (by
      split at h
      · obtain ⟨_, _, h⟩ := run_opt h
        obtain ⟨_, _, h⟩ := run_opt h
        have := run_ret h; subst this; simp
      · exact (run_fail h).elim)
    rw [this]; exact h
  case eptr o v j off =>
    have key : ∀ (u : Ty) (xs : List u.D), run T (.gt u xs j fun x => opt (cut (view u x) off n) fun l => opt (mkA P t l) fun a => (.ret ⟨a, [], [o]⟩ : TD)) = some d → ob' o = ob o := fun u xs h => hg o (by
      simp only [run] at h
      split at h
      · obtain ⟨_, _, h⟩ := run_opt h
        obtain ⟨_, _, h⟩ := run_opt h
        have := run_ret h; subst this; simp
      · cases h)
    have : ob' o = ob o := by
      split at h
      · split at h
        · exact key _ _ h
        · exact (run_fail h).elim
      · split at h
        · exact key _ _ h
        · exact (run_fail h).elim
      · exact (run_fail h).elim
    rw [this]; exact h
  all_goals exact h
theorem store_cg {n : Nat} {p x : AV} (h : run T (storeA ob n p x) = some d) (hg : ∀ k, k ∈ d.rd → ob' k = ob k) : run T (storeA ob' n p x) = some d := by
  unfold storeA at h ⊢
  obtain ⟨xc, hx, h⟩ := run_opt h
  refine run_opt' hx ?_
  split at h
  · exact (run_fail h).elim
  rename_i hn
  cases p with
  | ptr o off =>
    simp only at h ⊢
    have : ob' o = ob o := hg o (by
      split at h
      · split at h
        · have := run_ret h; subst this; simp
        · exact (run_fail h).elim
      · exact (run_fail h).elim)
    rw [this]; exact h
  | eptr o v j off =>
    simp only at h ⊢
    split at h
    · rename_i v' u xs ho
      split at h
      · rename_i hv
        obtain ⟨fw, hw, h⟩ := run_opt h
        have hrd : d.rd = o :: fw.2.map (·.1) := by
          simp only [run] at h
          split at h
          · split at h
            · obtain ⟨_, _, h⟩ := run_opt h
              have := run_ret h; subst this; rfl
            · simp [run] at h
          · cases h
        have h1 : ob' o = ob o := hg o (by rw [hrd]; simp)
        rw [h1, ho]
        simp only [hv]
        refine run_opt' (frz_cg hw fun k hk => hg k (by rw [hrd]; exact List.mem_cons_of_mem _ hk)) h
      · exact (run_fail h).elim
    · exact (run_fail h).elim
  | _ => exact h
theorem fresh_cg {α : Type} {k : Nat} {t : Tree α} {x : α} (h : run T (fresh ob k t) = some x) (hg : ob' k = ob k) : run T (fresh ob' k t) = some x := by
  unfold fresh at h ⊢
  rw [hg]; exact h
theorem slice_cg {t : TypeId} {x : AV} {lo hi mx : Option AV} (h : run T (sliceA P ob t x lo hi mx) = some d) (hg : ∀ k, k ∈ d.rd → ob' k = ob k) : run T (sliceA P ob' t x lo hi mx) = some d := by
  have bnd : ∀ (n : Nat) (l u : Int) (e : Delta), run T (bndA n l u (.ret e)) = some d → e = d := fun n l u e h => by
    unfold bndA at h
    exact run_ret (run_grd (run_grd (run_grd h).2).2).2
  unfold sliceA at h ⊢
  split at h
  · exact h
  · obtain ⟨sz, hs, h⟩ := run_opt h
    refine run_opt' hs ?_
    split at h
    · split at h
      · obtain ⟨r, hr, h⟩ := run_opt h
        have := run_ret h; subst this
        exact run_opt' (lenA_cg hr hg) rfl
      · exact (run_fail h).elim
    · split at h
      · exact h
      · obtain ⟨r, hr, h⟩ := run_opt h
        have hrd : d.rd = r.rd := by
          split at h
          · obtain ⟨_, _, h⟩ := run_opt h
            obtain ⟨_, _, h⟩ := run_opt h
            have := bnd _ _ _ _ h; subst this; rfl
          · exact (run_fail h).elim
        exact run_opt' (rowOf_cg hr fun k hk => hg k (by rw [hrd]; exact hk)) h
      · exact (run_fail h).elim
  · exact (run_fail h).elim
theorem partA_cg {x : AV} {p : Nat × Nat × Nat × Nat} (h : partA ob x = some p) (hg : ob' p.1 = ob p.1) : partA ob' x = some p := by
  cases x <;> simp only [partA] at h ⊢
  case own o v =>
    have : p.1 = o := by
      split at h
      · split at h
        · simp only [Option.some.injEq] at h; subst h; rfl
        · cases h
      · cases h
    rw [this] at hg
    rw [hg]; exact h
  case sub o v lo n =>
    have : p.1 = o := by
      split at h
      · split at h
        · simp only [Option.some.injEq] at h; subst h; rfl
        · cases h
      · cases h
    rw [this] at hg
    rw [hg]; exact h
  all_goals exact h
theorem clear_cg {e : TypeId} {x : AV} (h : run T (clearA P ob e x) = some d) (hg : ∀ k, k ∈ d.rd → ob' k = ob k) : run T (clearA P ob' e x) = some d := by
  unfold clearA at h ⊢
  obtain ⟨z, hz, h⟩ := run_opt h
  obtain ⟨p, hp, h⟩ := run_opt h
  have hrd : d.rd = [p.1] := by
    split at h
    · split at h
      · obtain ⟨_, _, h⟩ := run_opt h
        have := run_ret h; subst this; rfl
      · exact (run_fail h).elim
    · exact (run_fail h).elim
  have h1 : ob' p.1 = ob p.1 := hg _ (by rw [hrd]; simp)
  refine run_opt' hz (run_opt' (partA_cg hp h1) ?_)
  rw [h1]; exact h
theorem copy_cg {e : TypeId} {x s : AV} (h : run T (copyA P ob e x s) = some d) (hg : ∀ k, k ∈ d.rd → ob' k = ob k) : run T (copyA P ob' e x s) = some d := by
  unfold copyA at h ⊢
  obtain ⟨z, hz, h⟩ := run_opt h
  obtain ⟨p, hp, h⟩ := run_opt h
  split at h
  · rename_i v t xs ho
    split at h
    · rename_i hsz
      obtain ⟨r, hr, h⟩ := run_opt h
      have hrd : d.rd = p.1 :: r.rd := by
        obtain ⟨_, _, h⟩ := run_opt h
        have := run_ret h; subst this; rfl
      have h1 : ob' p.1 = ob p.1 := hg _ (by rw [hrd]; simp)
      refine run_opt' hz (run_opt' (partA_cg hp h1) ?_)
      rw [h1, ho]
      simp only [hsz]
      exact run_opt' (rowOf_cg hr fun k hk => hg k (by rw [hrd]; exact List.mem_cons_of_mem _ hk)) h
    · exact (run_fail h).elim
  · exact (run_fail h).elim
theorem appendB_cg {k : Nat} {u : Ty} {by_ : Nat} {rd : List Nat} {ys : List u.D} {a : AV} (h : run T (appendB k ob u by_ rd ys a) = some d) (hg : ∀ k, k ∈ d.rd ∨ k ∈ d.ow.map (·.1) → ob' k = ob k) : run T (appendB k ob' u by_ rd ys a) = some d ∧ ∀ k, k ∈ rd → k ∈ d.rd := by
  cases a <;> simp only [appendB] at h ⊢
  case nils =>
    obtain ⟨h1, h⟩ := run_grd h
    obtain ⟨h2, h3⟩ := run_fresh h
    have := run_ret h3; subst this
    exact ⟨run_grd' h1 (fresh_cg h (hg _ (.inr (by simp)))), fun k hk => hk⟩
  case own o v =>
    split at h
    · rename_i v' t' xs ho
      split at h
      · rename_i hv
        obtain ⟨zs, hz, h⟩ := run_opt h
        obtain ⟨h1, h⟩ := run_grd h
        have := run_ret h; subst this
        rw [hg o (.inl (by simp)), ho]
        simp only [hv]
        exact ⟨run_opt' hz (run_grd' h1 rfl), fun k hk => List.mem_cons_of_mem _ hk⟩
      · exact (run_fail h).elim
    · exact (run_fail h).elim
  all_goals exact (run_fail h).elim
theorem append_cg {k : Nat} {ts : List TypeId} {s x : AV} (h : run T (appendA P k ob ts s x) = some d) (hg : ∀ k, k ∈ d.rd ∨ k ∈ d.ow.map (·.1) → ob' k = ob k) : run T (appendA P k ob' ts s x) = some d := by
  unfold appendA at h ⊢
  split at h
  · split at h
    · obtain ⟨u, hu, h⟩ := run_opt h
      obtain ⟨by_, hb, h⟩ := run_opt h
      obtain ⟨z, hz, h⟩ := run_opt h
      refine run_opt' hu (run_opt' hb (run_opt' hz ?_))
      split at h
      · rename_i hc
        obtain ⟨rx, hr, h⟩ := run_opt h
        obtain ⟨ys, hy, h⟩ := run_opt h
        obtain ⟨k1, k2⟩ := appendB_cg h hg
        exact run_opt' (rowOf_cg hr fun k hk => hg k (.inl (k2 k hk))) (run_opt' hy k1)
      · exact (run_fail h).elim
    · exact (run_fail h).elim
  · exact (run_fail h).elim
theorem len_cg {ts : List TypeId} {x : AV} (h : run T (lenB P ob ts x) = some d) (hg : ∀ k, k ∈ d.rd → ob' k = ob k) : run T (lenB P ob' ts x) = some d := by
  unfold lenB at h ⊢
  split at h
  · split at h
    · exact h
    · split at h
      · exact (run_fail h).elim
      · obtain ⟨n, hn, h⟩ := run_opt h
        have := run_ret h; subst this
        exact run_opt' (lenA_cg hn hg) rfl
    · exact (run_fail h).elim
  · exact (run_fail h).elim
theorem conv_cg {s t : TypeId} {x : AV} (h : run T (convA P ob s t x) = some d) (hg : ∀ k, k ∈ d.rd → ob' k = ob k) : run T (convA P ob' s t x) = some d := by
  unfold convA at h ⊢
  split at h
  · exact h
  · split at h
    · obtain ⟨r, hr, h1⟩ := run_opt h
      obtain ⟨ys, hy, h2⟩ := run_opt h1
      have := run_ret h2
      subst this
      exact run_opt' (rowOf_cg hr fun k hk => hg k hk) (run_opt' hy h2)
    · exact (run_fail h).elim
  · exact (run_fail h).elim
theorem builtin_cg {k : Nat} {b : Builtin} {ts : List TypeId} {as : List AV} (h : run T (builtinA P k ob b ts as) = some d) (hg : ∀ k, k ∈ d.rd ∨ k ∈ d.ow.map (·.1) → ob' k = ob k) : run T (builtinA P k ob' b ts as) = some d := by
  unfold builtinA at h ⊢
  split at h
  · exact len_cg h fun k hk => hg k (.inl hk)
  · exact append_cg h hg
  · split at h
    · split at h
      · exact copy_cg h fun k hk => hg k (.inl hk)
      · exact (run_fail h).elim
    · exact (run_fail h).elim
  · split at h
    · split at h
      · exact clear_cg h fun k hk => hg k (.inl hk)
      · exact (run_fail h).elim
    · exact (run_fail h).elim
  · exact h
  · exact h
  · exact (run_fail h).elim

/-! ### calls -/
theorem lend_cg : ∀ (n : Nat) (a : AV) (r : AV × List Nat), SizeOf.sizeOf a < n → lend ob a = some r → (∀ k, k ∈ r.2 → ob' k = ob k) → lend ob' a = some r
  | 0, a, r, hn, _, _ => by omega
  | n + 1, a, r, hn, h, hg => by
    cases a <;> simp only [lend] at h ⊢
    case own o v =>
      split at h
      · rename_i q hq
        simp only [Option.some.injEq] at h; subst h
        rw [rowOf_cg hq fun k hk => hg k (by have := (rowOf_own hq).2; rw [this] at hk; exact hk)]
      · cases h
    case sub o v lo m =>
      split at h
      · rename_i q hq
        simp only [Option.some.injEq] at h; subst h
        rw [rowOf_cg hq fun k hk => hg k (by
          simp only [rowOf] at hq
          split at hq
          · split at hq
            · simp only [Option.some.injEq] at hq; subst hq; exact hk
            · cases hq
          · split at hq
            · simp only [Option.some.injEq] at hq; subst hq; exact hk
            · cases hq
          · cases hq)]
      · cases h
    case agg cs =>
      have lists : ∀ (cs : List AV) (s : List AV × List Nat), (∀ a, a ∈ cs → SizeOf.sizeOf a < n) → lend.lends ob cs = some s → (∀ k, k ∈ s.2 → ob' k = ob k) → lend.lends ob' cs = some s := by
        intro cs
        induction cs with
        | nil => intro s _ h _; simpa [lend.lends] using h
        | cons a l ih =>
          intro s hs h hg
          simp only [lend.lends] at h ⊢
          split at h
          · rename_i b w s1 w' h1 h2
            simp only [Option.some.injEq] at h; subst h
            rw [lend_cg n a _ (hs a List.mem_cons_self) h1 fun k hk => hg k (List.mem_append_left _ hk), ih _ (fun a ha => hs a (List.mem_cons_of_mem _ ha)) h2 fun k hk => hg k (List.mem_append_right _ hk)]
          · cases h
      split at h
      · rename_i l w hl
        simp only [Option.some.injEq] at h; subst h
        rw [lists cs _ (fun a ha => by
          have := List.sizeOf_lt_of_mem ha
          simp only [AV.agg.sizeOf_spec] at hn
          omega) hl hg]
      · cases h
    all_goals exact h
theorem passes_cg : ∀ (as : List AV) (m : List Bool) (r : List AV × List Nat), passes ob m as = some r → (∀ k, k ∈ r.2 → ob' k = ob k) → passes ob' m as = some r
  | [], m, r, h, _ => by simpa [passes] using h
  | a :: l, m, r, h, hg => by
    have lent : ∀ (m' : List Bool), (match lend ob a, passes ob m' l with | some (b, w), some (s, w') => some (b :: s, w ++ w') | _, _ => none) = some r → (match lend ob' a, passes ob' m' l with | some (b, w), some (s, w') => some (b :: s, w ++ w') | _, _ => none) = some r := fun m' h => by
      split at h
      · rename_i b w s w' h1 h2
        simp only [Option.some.injEq] at h; subst h
        rw [lend_cg (SizeOf.sizeOf a + 1) a _ (by omega) h1 fun k hk => hg k (List.mem_append_left _ hk), passes_cg l m' _ h2 fun k hk => hg k (List.mem_append_right _ hk)]
      · cases h
    cases m with
    | nil => simp only [passes] at h ⊢; exact lent [] h
    | cons x m =>
      cases x with
      | false => simp only [passes] at h ⊢; exact lent m h
      | true =>
        simp only [passes] at h ⊢
        split at h
        · rename_i s w h1
          simp only [Option.some.injEq] at h; subst h
          rw [passes_cg l m _ h1 hg]
        · cases h
theorem reach_pre {ob : Nat → Option AO} : ∀ (n : Nat) (l seen : List Nat) (j o : Nat), seen[j]? = some o → (reach ob n l seen)[j]? = some o
  | 0, l, seen, j, o, h => by simpa [reach] using h
  | n + 1, [], seen, j, o, h => by simpa [reach] using h
  | n + 1, x :: r, seen, j, o, h => by
    simp only [reach]
    split
    · exact reach_pre n _ _ j o h
    · split <;>
      · refine reach_pre n _ _ j o ?_
        rw [List.getElem?_append_left (List.getElem?_eq_some_iff.1 h).1]
        exact h
theorem reach_cg : ∀ (n : Nat) (l seen : List Nat), (∀ k, k ∈ reach ob n l seen → ob' k = ob k) → reach ob' n l seen = reach ob n l seen
  | 0, l, seen, _ => by simp [reach]
  | n + 1, [], seen, _ => by simp [reach]
  | n + 1, o :: r, seen, hg => by
    simp only [reach] at hg ⊢
    split
    · rename_i hh
      simp only [hh] at hg
      exact reach_cg n r seen hg
    · rename_i hh
      simp only [hh] at hg
      have ho : ob' o = ob o := hg o (by
        have mem : ∀ (l : List Nat), o ∈ reach ob n l (seen ++ [o]) := fun l => List.mem_of_getElem? (reach_pre n l (seen ++ [o]) seen.length o (by simp))
        split <;> exact mem _)
      rw [ho]
      split
      · rename_i a ha
        simp only [ha] at hg
        exact reach_cg n _ _ hg
      · rename_i ha
        simp only [ha] at hg
        exact reach_cg n _ _ hg
theorem rin_cg {L : List Nat} (hg : ∀ k, k ∈ L → ob' k = ob k) : rin ob' L = rin ob L := by
  funext o v
  unfold rin
  split
  · rename_i i hi
    rw [hg o (List.mem_of_getElem? (idx_some L o i hi))]
  · rfl
theorem verAt_cg {L : List Nat} (hg : ∀ k, k ∈ L → ob' k = ob k) : verAt ob' L = verAt ob L := by
  funext i
  unfold verAt
  split
  · rename_i o ho
    rw [hg o (List.mem_of_getElem? ho)]
  · rfl
theorem rout_cg {k : Nat} {L : List Nat} (hg : ∀ k, k ∈ L → ob' k = ob k) : rout k ob' L = rout k ob L := by
  funext i v
  unfold rout
  rw [verAt_cg hg]
theorem obsOf_cg {ρ : Nat → Nat → Option (Nat × Nat)} : ∀ {L : List Nat}, (∀ k, k ∈ L → ob' k = ob k) → obsOf ob' ρ L = obsOf ob ρ L
  | [], _ => rfl
  | a :: r, hg => by
    simp only [obsOf]
    rw [hg a List.mem_cons_self, obsOf_cg fun k hk => hg k (List.mem_cons_of_mem _ hk)]
theorem backO_cg {k : Nat} {L : List Nat} (hg : ∀ k, k ∈ L → ob' k = ob k) : ∀ (l : List AO) (i : Nat), backO k ob' L i l = backO k ob L i l
  | [], i => rfl
  | a :: r, i => by
    simp only [backO]
    rw [rout_cg hg, verAt_cg hg, backO_cg hg r (i + 1)]
theorem froz_cg : ∀ {l : List Nat}, (∀ k, k ∈ l → ob' k = ob k) → froz ob' l = froz ob l
  | [], _ => rfl
  | a :: r, hg => by
    simp only [froz]
    rw [hg a List.mem_cons_self, froz_cg fun k hk => hg k (List.mem_cons_of_mem _ hk)]
theorem freshN_cg {k : Nat} : ∀ {n : Nat}, (∀ q, q < n → ob' (k + q) = ob (k + q)) → freshN ob' k n = freshN ob k n
  | 0, _ => rfl
  | n + 1, hg => by
    simp only [freshN]
    rw [hg n (by omega), freshN_cg fun q hq => hg q (by omega)]
theorem backO_has (k : Nat) (L : List Nat) : ∀ (l : List AO) (i j : Nat), i ≤ j → j < i + l.length → sig k L j ∈ (backO k ob L i l).map (·.1)
  | [], i, j, h1, h2 => by simp at h2; omega
  | a :: r, i, j, h1, h2 => by
    simp only [backO, List.map_cons, List.mem_cons]
    by_cases e : i = j
    · subst e; exact .inl rfl
    · exact .inr (backO_has k L r (i + 1) j (by omega) (by simp at h2; omega))
theorem call_cg {k : Nat} {f : FuncId} {as : List AV} (h : run T (callA M k ob f as) = some d) (hg : ∀ k, k ∈ d.rd ∨ k ∈ d.ow.map (·.1) → ob' k = ob k) : run T (callA M k ob' f as) = some d := by
  unfold callA at h ⊢
  obtain ⟨p, hp, h⟩ := run_opt h
  generalize hL : reach ob 100 (refs.refsL p.1) [] = L at h
  obtain ⟨os, ho, h⟩ := run_opt h
  split at h
  · exact (run_fail h).elim
  rename_i hck
  simp only [run] at h
  split at h
  case h_2 => cases h
  rename_i pk hT
  split at h
  case h_2 => cases h
  rename_i t ht
  split at h
  · exact (run_fail h).elim
  rename_i hck2
  have hrd : d.rd = L ++ p.2 ∧ ∀ q, q ∈ (backO k ob L 0 (pk.enc t).2).map (·.1) → q ∈ d.ow.map (·.1) := by
    split at h
    · have := run_ret h; subst this
      exact ⟨rfl, fun q hq => by simp only [List.map_append, List.mem_append]; exact .inl hq⟩
    · have := run_ret h; subst this
      exact ⟨rfl, fun q hq => hq⟩
  have gL : ∀ q, q ∈ L → ob' q = ob q := fun q hq => hg q (.inl (by rw [hrd.1]; exact List.mem_append_left _ hq))
  have gp : ∀ q, q ∈ p.2 → ob' q = ob q := fun q hq => hg q (.inl (by rw [hrd.1]; exact List.mem_append_right _ hq))
  refine run_opt' (passes_cg as _ p hp gp) ?_
  rw [reach_cg 100 _ _ (by rw [hL]; exact gL), hL, rin_cg gL]
  refine run_opt' (by rw [obsOf_cg gL]; exact ho) ?_
  rw [hck]
  simp only [run]
  rw [hT]
  simp only
  rw [ht]
  simp only
  rw [verAt_cg gL, rout_cg gL, backO_cg gL, froz_cg gp]
  have hck3 := hck2
  rw [Bool.and_eq_true, Bool.and_eq_true] at hck3
  have hlen := ble_true hck3.1.1
  rw [freshN_cg (ob := ob) fun q hq => hg _ (.inr (hrd.2 _ (by
    have := backO_has (ob := ob) k L (pk.enc t).2 0 (L.length + q) (by omega) (by omega)
    rw [sig_new (by omega), show L.length + q - L.length = q by omega] at this
    exact this))), hck2]
  exact h
end
end Go.Proofs.Ytohfaccniialmaa.Am
