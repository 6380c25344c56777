/- A region whose order is drawn answers as in its text's order. -/
import Derived.Test.YtohfaccniialmaaAmZ
namespace Go.Proofs.Ytohfaccniialmaa.Am
open Go
set_option linter.constructorNameAsVariable false
set_option linter.unusedVariables false
set_option linter.unusedSimpArgs false

/-! ### the last writer -/
def lastW {α : Type} (u : Nat → Option α) (S : Nat → Bool) (init : α) : Nat → α
  | 0 => init
  | i + 1 => match S i, u i with | true, some v => v | _, _ => lastW u S init i
theorem lastW_same {α : Type} {u : Nat → Option α} {S S' : Nat → Bool} {init : α} : ∀ n, (∀ i, i < n → u i ≠ none → S i = S' i) → lastW u S init n = lastW u S' init n
  | 0, _ => rfl
  | n + 1, h => by
    simp only [lastW]
    rw [lastW_same n fun i hi => h i (by omega)]
    cases hu : u n with
    | none => cases S n <;> cases S' n <;> rfl
    | some v => rw [h n (by omega) (by rw [hu]; simp)]
theorem lastW_upto {α : Type} {u : Nat → Option α} {init : α} (i : Nat) : ∀ n, i ≤ n → lastW u (fun j => decide (j < i)) init n = lastW u (fun _ => true) init i
  | 0, h => by
    have : i = 0 := by omega
    subst this
    rfl
  | n + 1, h => by
    by_cases e : i = n + 1
    · subst e
      exact lastW_same _ fun j hj _ => by simpa using hj
    · simp only [lastW]
      rw [lastW_upto i n (by omega), decide_eq_false (show ¬ n < i by omega)]
theorem lastW_hit {α : Type} {u : Nat → Option α} {S : Nat → Bool} {init : α} {i : Nat} {v : α} (hu : u i = some v) (hS : S i = true) : ∀ n, i < n → (∀ j, i < j → j < n → u j ≠ none → S j = false) → lastW u S init n = v
  | 0, h, _ => by omega
  | n + 1, h, hj => by
    simp only [lastW]
    by_cases e : i = n
    · subst e
      rw [hS, hu]
    · have ih := lastW_hit (init := init) hu hS n (by omega) fun j h1 h2 => hj j h1 (by omega)
      cases hn : u n with
      | none => rw [ih]; cases S n <;> rfl
      | some x =>
        rw [hj n (by omega) (by omega) (by rw [hn]; simp)]
        exact ih

section
variable {P : Program} {B : Base} {c : Cx} {w : World} {N : Nat} {st st' : St} {a : Act} {T : Table} {M : FuncId → List Bool} {R : Type} {ops : Array Oper}

/-- what a set of operations hangs on is in it -/
def Closed (ops : Array Oper) (S : Nat → Bool) : Prop := ∀ i o, S i = true → ops[i]? = some o → ∀ e, e ∈ o.after → Region.binds .any e = true → S e.on = true
def Deps (o : Oper) (S : Nat → Bool) : Prop := ∀ e, e ∈ o.after → Region.binds .any e = true → S e.on = true

theorem testBit_or3 (k m n j : Nat) : Nat.testBit (Nat.lor (2 ^ k) (Nat.lor m n)) j = (decide (k = j) || (Nat.testBit m j || Nat.testBit n j)) := by
  show Nat.testBit (2 ^ k ||| (m ||| n)) j = _
  rw [Nat.testBit_or, Nat.testBit_or, Nat.testBit_two_pow]
theorem maskOf_ok (ms : List Nat) : ∀ (es : List Edge) (m : Nat), maskOf ms es = some m → (∀ e, e ∈ es → Region.binds .any e = true → e.on < ms.length) ∧ ∀ j, Nat.testBit m j = true → ∃ e, e ∈ es ∧ Region.binds .any e = true ∧ (e.on = j ∨ ∃ k, ms[e.on]? = some k ∧ Nat.testBit k j = true)
  | [], m, h => by
    simp only [maskOf, Option.some.injEq] at h
    subst h
    exact ⟨fun e he => (by cases he), fun j hj => (by simp at hj)⟩
  | e :: r, m, h => by
    simp only [maskOf] at h
    split at h
    · rename_i hb
      split at h
      · rename_i k n hk hn
        simp only [Option.some.injEq] at h
        subst h
        obtain ⟨h1, h2⟩ := maskOf_ok ms r n hn
        refine ⟨fun e' he' hb' => ?_, fun j hj => ?_⟩
        · rcases List.mem_cons.1 he' with he' | he'
          · subst he'; exact (List.getElem?_eq_some_iff.1 hk).1
          · exact h1 e' he' hb'
        · rw [testBit_or3] at hj
          simp only [Bool.or_eq_true, decide_eq_true_eq] at hj
          rcases hj with hj | hj | hj
          · exact ⟨e, List.mem_cons_self, hb, .inl hj⟩
          · exact ⟨e, List.mem_cons_self, hb, .inr ⟨k, hk, hj⟩⟩
          · obtain ⟨e', q1, q2⟩ := h2 j hj
            exact ⟨e', List.mem_cons_of_mem _ q1, q2⟩
      · cases h
    · rename_i hb
      obtain ⟨h1, h2⟩ := maskOf_ok ms r m h
      refine ⟨fun e' he' hb' => ?_, fun j hj => ?_⟩
      · rcases List.mem_cons.1 he' with he' | he'
        · subst he'; rw [hb] at hb'; cases hb'
        · exact h1 e' he' hb'
      · obtain ⟨e', q1, q2⟩ := h2 j hj
        exact ⟨e', List.mem_cons_of_mem _ q1, q2⟩
theorem okWith_get {m : Nat} {o : Oper} {d : Delta} : ∀ (l : List (Oper × Delta)) (j : Nat), okWith ops m o d j l = true → ∀ (i : Nat) (p : Oper × Delta), l[i]? = some p → clash ops p.1 p.2 o d = true → Nat.testBit m (j + i) = true
  | [], j, _, i, p, h, _ => by simp at h
  | q :: r, j, hk, i, p, h, hc => by
    simp only [okWith] at hk
    cases i with
    | zero =>
      simp at h
      subst h
      rw [hc] at hk
      cases ht : Nat.testBit m j with
      | true => simp
      | false => rw [ht] at hk; cases hk
    | succ i =>
      have : okWith ops m o d (j + 1) r = true := by
        split at hk
        · cases hk
        · exact hk
      have := okWith_get r (j + 1) this i p (by simpa using h) hc
      rw [show j + (i + 1) = j + 1 + i by omega]
      exact this
def Good (ops : Array Oper) (ms : List Nat) : Prop := ∀ (i m : Nat) (o : Oper), ms[i]? = some m → ops[i]? = some o → ∀ j, Nat.testBit m j = true → ∀ S, Closed ops S → Deps o S → S j = true
/-- the order's check -/
theorem ordOk_ok : ∀ (os : List Oper) (ds : List Delta) (done : List (Oper × Delta)) (ms : List Nat), ordOk ops done ms os ds = true → ms.length = done.length → (∀ (i : Nat), os[i]? = ops[done.length + i]?) → (∀ (i : Nat) (p : Oper × Delta), done[i]? = some p → ops[i]? = some p.1) → Good ops ms →
    ds.length = os.length ∧ ∀ (i : Nat) (o : Oper) (d : Delta), os[i]? = some o → ds[i]? = some d → (∀ e, e ∈ o.after → Region.binds .any e = true → e.on < done.length + i) ∧
      ∀ (j : Nat) (p : Oper × Delta), ((done[j]? = some p) ∨ ∃ j', j = done.length + j' ∧ j' < i ∧ os[j']? = some p.1 ∧ ds[j']? = some p.2) → clash ops p.1 p.2 o d = true → ∀ S, Closed ops S → Deps o S → S j = true
  | [], [], done, ms, _, _, _, _, _ => ⟨rfl, fun i o d h => by simp at h⟩
  | [], _ :: _, done, ms, h, _, _, _, _ => by simp [ordOk] at h
  | _ :: _, [], done, ms, h, _, _, _, _ => by simp [ordOk] at h
  | o :: r, d :: ds, done, ms, h, hl, hos, hdone, hgood => by
    simp only [ordOk] at h
    split at h
    case h_2 => cases h
    rename_i m hm
    split at h
    case h_2 => cases h
    rename_i hok
    obtain ⟨h1, h2⟩ := maskOf_ok ms _ m hm
    have h0 : ops[done.length]? = some o := by simpa using (hos 0).symm
    have bit : ∀ j, Nat.testBit m j = true → ∀ S, Closed ops S → Deps o S → S j = true := fun j hj S hS hD => by
      obtain ⟨e, e1, e2, e3⟩ := h2 j hj
      have e1 : e ∈ o.after := by simpa using e1
      rcases e3 with e3 | ⟨k, e3, e4⟩
      · rw [← e3]; exact hD e e1 e2
      · have hlt := h1 e (by simpa using e1) e2
        have hSe := hD e e1 e2
        have hdn : e.on < done.length := by omega
        have hoe : ops[e.on]? = some done[e.on].1 := hdone e.on _ (List.getElem?_eq_getElem hdn)
        exact hgood e.on k _ e3 hoe j e4 S hS fun e' h' b' => hS e.on _ hSe hoe e' h' b'
    have ih := ordOk_ok r ds (done ++ [(o, d)]) (ms ++ [m]) h (by simp [hl]) (fun i => by
      have := hos (i + 1)
      simp only [List.getElem?_cons_succ] at this
      rw [this]
      congr 1
      simp
      omega) (fun i p hp => by
      rw [List.getElem?_append] at hp
      split at hp
      · exact hdone i p hp
      · rename_i hlt
        have hi : i = done.length := by
          have := (List.getElem?_eq_some_iff.1 hp).1
          simp at this
          omega
        subst hi
        simp at hp
        subst hp
        exact h0) (fun i k o' hk ho' j hj S hS hD => by
      rw [List.getElem?_append] at hk
      split at hk
      · exact hgood i k o' hk ho' j hj S hS hD
      · rename_i hlt
        have hi : i = ms.length := by
          have := (List.getElem?_eq_some_iff.1 hk).1
          simp at this
          omega
        subst hi
        simp at hk
        subst hk
        rw [hl, h0] at ho'
        cases ho'
        exact bit j hj S hS hD)
    refine ⟨by simp [ih.1], fun i o' d' ho' hd' => ?_⟩
    cases i with
    | zero =>
      simp at ho' hd'
      subst ho' hd'
      refine ⟨fun e he hb => by have := h1 e (by simpa using he) hb; omega, fun j p hp hc S hS hD => ?_⟩
      rcases hp with hp | ⟨j', _, h', _⟩
      · have := okWith_get done 0 hok j p hp hc
        rw [Nat.zero_add] at this
        exact bit j this S hS hD
      · omega
    | succ i =>
      obtain ⟨k1, k2⟩ := ih.2 i o' d' (by simpa using ho') (by simpa using hd')
      refine ⟨fun e he hb => by have := k1 e he hb; simp at this; omega, fun j p hp hc S hS hD => k2 j p ?_ hc S hS hD⟩
      rcases hp with hp | ⟨j', e1, e2, e3, e4⟩
      · left
        rw [List.getElem?_append_left (List.getElem?_eq_some_iff.1 hp).1]
        exact hp
      · cases j' with
        | zero =>
          left
          simp at e1 e3 e4
          subst e1
          rw [List.getElem?_append_right (Nat.le_refl _)]
          simp
          exact Prod.ext e3 e4
        | succ j' => exact .inr ⟨j', by simp; omega, by omega, by simpa using e3, by simpa using e4⟩

/-! ### the text's order -/
theorem regL_trace : ∀ (l : List Oper) (st stn : St) (ds : List Delta), run T (regL P M ops l st) = some (stn, ds) → ds.length = l.length ∧ ∃ sts : Nat → St, sts 0 = st ∧ sts l.length = stn ∧ ∀ (i : Nat) (o : Oper) (d : Delta), l[i]? = some o → ds[i]? = some d → run T (stepD P M ops (sts i) o) = some (sts (i + 1), d)
  | [], st, stn, ds, h => by
    have := run_ret h
    simp only [Prod.mk.injEq] at this
    obtain ⟨rfl, rfl⟩ := this
    exact ⟨rfl, fun _ => st, rfl, rfl, fun i o d h => by simp at h⟩
  | o :: r, st, stn, ds, h => by
    simp only [regL] at h
    obtain ⟨⟨st1, d⟩, h1, h⟩ := run_bind T _ _ _ h
    obtain ⟨⟨st2, ds'⟩, h2, h⟩ := run_bind T _ _ _ h
    have := run_ret h
    simp only [Prod.mk.injEq] at this
    obtain ⟨rfl, rfl⟩ := this
    obtain ⟨k0, sts, k1, k2, k3⟩ := regL_trace r st1 st2 ds' h2
    refine ⟨by simp [k0], fun i => match i with | 0 => st | i + 1 => sts i, rfl, k2, fun i o' d' ho hd => ?_⟩
    cases i with
    | zero =>
      simp at ho hd
      subst ho hd
      show run T (stepD P M ops st o) = some (sts 0, d)
      rw [k1]
      exact h1
    | succ i => exact k3 i o' d' (by simpa using ho) (by simpa using hd)

/-- what an operation writes, by place -/
def uT (ops : Array Oper) (ds : List Delta) (t : Nat) (i : Nat) : Option AV := match ops[i]?, ds[i]? with
  | some o, some d => if o.dst = some t then some d.v else none
  | _, _ => none
def uO (ds : List Delta) (k : Nat) (i : Nat) : Option (Option AO) := match ds[i]? with
  | some d => if k ∈ d.ow.map (·.1) then some (fup (fun _ => none) d.ow k) else none
  | none => none
theorem uT_some {ds : List Delta} {t i : Nat} (h : uT ops ds t i ≠ none) : ∃ o d, ops[i]? = some o ∧ ds[i]? = some d ∧ o.dst = some t ∧ uT ops ds t i = some d.v := by
  unfold uT at h ⊢
  split at h
  · rename_i o d ho hd
    split at h
    · rename_i e; exact ⟨o, d, ho, hd, e, if_pos e⟩
    · exact absurd rfl h
  · exact absurd rfl h
theorem uO_some {ds : List Delta} {k i : Nat} (h : uO ds k i ≠ none) : ∃ d, ds[i]? = some d ∧ k ∈ d.ow.map (·.1) ∧ uO ds k i = some (fup (fun _ => none) d.ow k) := by
  unfold uO at h ⊢
  split at h
  · rename_i d hd
    split at h
    · rename_i e; exact ⟨d, hd, e, if_pos e⟩
    · exact absurd rfl h
  · exact absurd rfl h
def Agree (ops : Array Oper) (ds : List Delta) (S : Nat → Bool) (st0 st : St) : Prop :=
  (∀ t, st.get t = lastW (uT ops ds t) S (st0.get t) ops.size) ∧ ∀ k, look st.ob k = lastW (uO ds k) S (look st0.ob k) ops.size

theorem trace_agree {ds : List Delta} {st0 : St} {sts : Nat → St} (h0 : sts 0 = st0) (hs : ∀ (i : Nat) (o : Oper) (d : Delta), ops[i]? = some o → ds[i]? = some d → run T (stepD P M ops (sts i) o) = some (sts (i + 1), d)) (hlen : ds.length = ops.size) : ∀ i, i ≤ ops.size →
    (∀ t, (sts i).get t = lastW (uT ops ds t) (fun _ => true) (st0.get t) i) ∧ ∀ k, look (sts i).ob k = lastW (uO ds k) (fun _ => true) (look st0.ob k) i
  | 0, _ => by rw [h0]; exact ⟨fun t => rfl, fun k => rfl⟩
  | i + 1, hi => by
    obtain ⟨k1, k2⟩ := trace_agree h0 hs hlen i (by omega)
    have ho : ops[i]? = some ops[i] := Array.getElem?_eq_getElem (by omega)
    have hd : ds[i]? = some ds[i] := List.getElem?_eq_getElem (by omega)
    obtain ⟨q1, q2, _⟩ := stepD_ok (hs i _ _ ho hd)
    refine ⟨fun t => ?_, fun k => ?_⟩
    · rw [q1 t, k1 t]
      simp only [lastW, uT, ho, hd]
      by_cases e : ops[i].dst = some t
      · rw [if_pos e, if_pos e]
      · rw [if_neg e, if_neg e]
    · rw [q2]
      simp only [lastW, uO, hd]
      by_cases e : k ∈ ds[i].ow.map (·.1)
      · rw [if_pos e]
        exact fup_in _ _ _ k e
      · rw [if_neg e]
        simp only
        rw [fup_not _ _ k e, k2 k]

theorem RelS.same (hr : RelS B N c st a w) (h1 : ∀ t, st'.get t = st.get t) (h2 : look st'.ob = look st.ob) : RelS B N c st' a w :=
  ⟨by rw [h2]; exact hr.mem, fun t => by rw [h1]; exact hr.tms t, hr.sz, hr.dfs, hr.pas, hr.Ib⟩

def unl (S : Nat → Bool) : Nat → Nat
  | 0 => 0
  | n + 1 => unl S n + (if S n then 0 else 1)
theorem unl_set {S S' : Nat → Bool} {i : Nat} (hi : S i = false) (hi' : S' i = true) (ho : ∀ j, j ≠ i → S' j = S j) : ∀ n, unl S' n + (if i < n then 1 else 0) = unl S n
  | 0 => by simp [unl]
  | n + 1 => by
    have ih := unl_set hi hi' ho n
    simp only [unl]
    by_cases e : n = i
    · subst e
      simp only [hi, hi', Nat.lt_irrefl, if_false] at ih ⊢
      simp
      omega
    · rw [ho n e]
      have : (i < n + 1) ↔ (i < n) := by omega
      simp only [this]
      omega
theorem unl_zero {S : Nat → Bool} : ∀ n, unl S n = 0 → ∀ i, i < n → S i = true
  | 0, _, i, h => by omega
  | n + 1, h, i, hi => by
    simp only [unl] at h
    by_cases e : i = n
    · subst e
      cases hS : S i with
      | true => rfl
      | false => rw [hS] at h; simp at h
    · exact unl_zero n (by omega) i (by omega)
theorem unl_least {S : Nat → Bool} : ∀ n, unl S n ≠ 0 → ∃ i, i < n ∧ S i = false ∧ ∀ j, j < i → S j = true
  | 0, h => by simp [unl] at h
  | n + 1, h => by
    by_cases e : unl S n = 0
    · refine ⟨n, by omega, ?_, unl_zero n e⟩
      cases hS : S n with
      | false => rfl
      | true => simp only [unl, hS, e] at h; simp at h
    · obtain ⟨i, h1, h2⟩ := unl_least n e
      exact ⟨i, by omega, h2⟩

/-- **a region in an order that is drawn** -/
theorem regD_ok (hT : TS P T) (hd : dstsOk N ops.toList = true) {Q : Exit → Act → World → Prop} {stn : St} {ds : List Delta} (hQ : ∀ a' w' c', RelS B N c' stn a' w' → Q .normal a' w') (hr : RelS B N c st a w) (h : run T (regL P M ops ops.toList st) = some (stn, ds)) (hok : ordOk ops [] [] ops.toList ds = true) :
    wpAny P .any ops Q ops.size (Array.replicate ops.size false) a { w with drawn := w.drawn + 1 } := by
  obtain ⟨hlen, sts, hs0, hsn, hs⟩ := regL_trace _ _ _ _ h
  have hlen : ds.length = ops.size := by simpa using hlen
  have hs : ∀ (i : Nat) (o : Oper) (d : Delta), ops[i]? = some o → ds[i]? = some d → run T (stepD P M ops (sts i) o) = some (sts (i + 1), d) := fun i o d ho hd => hs i o d (by simpa using ho) hd
  have hsn : sts ops.size = stn := by simpa using hsn
  have hord := (ordOk_ok ops.toList ds [] [] hok rfl (fun i => by simp) (fun i p h => by simp at h) (fun i m o h => by simp at h)).2
  have edge : ∀ (i : Nat) (o : Oper), ops[i]? = some o → ∀ e, e ∈ o.after → Region.binds .any e = true → e.on < i := fun i o ho e he hb => by
    have hi : i < ops.size := (Array.getElem?_eq_some_iff.1 ho).1
    have := (hord i o ds[i] (by simpa using ho) (List.getElem?_eq_getElem (by omega))).1 e he hb
    simpa using this
  have cl : ∀ (i j : Nat) (oi oj : Oper) (di dj : Delta), j < i → ops[i]? = some oi → ops[j]? = some oj → ds[i]? = some di → ds[j]? = some dj → clash ops oj dj oi di = true → ∀ S, Closed ops S → Deps oi S → S j = true := fun i j oi oj di dj hji hoi hoj hdi hdj hc S hS hD =>
    (hord i oi di (by simpa using hoi) hdi).2 j (oj, dj) (.inr ⟨j, by simp, hji, by simpa using hoj, hdj⟩) hc S hS hD
  -- who writes a place that an operation touches is listed if and only if it comes before
  have order : ∀ (S : Nat → Bool) (i j : Nat) (oi oj : Oper) (di dj : Delta), Closed ops S → Deps oi S → S i = false → ops[i]? = some oi → ops[j]? = some oj → ds[i]? = some di → ds[j]? = some dj → (clash ops oj dj oi di = true) → (clash ops oi di oj dj = true) → S j = decide (j < i) := fun S i j oi oj di dj hS hD hi hoi hoj hdi hdj c1 c2 => by
    rcases Nat.lt_trichotomy j i with hlt | heq | hgt
    · rw [decide_eq_true hlt]
      exact cl i j oi oj di dj hlt hoi hoj hdi hdj c1 S hS hD
    · subst heq
      rw [hi]
      simp
    · rw [decide_eq_false (by omega)]
      cases hj : S j with
      | false => rfl
      | true =>
        have := cl j i oj oi dj di hgt hoj hoi hdj hdi c2 S hS fun e he hb => hS j oj hj hoj e he hb
        rw [hi] at this
        cases this
  have wr : ∀ (t : Nat) (x y : Oper) (dx dy : Delta), x.dst = some t → (t ∈ readsOf ops y ∨ y.dst = some t) → clash ops x dx y dy = true ∧ clash ops y dy x dx = true := fun t x y dx dy hx hy => by
    have : writes x (readsOf ops y) y = true := by
      unfold writes
      rw [hx]
      simp only
      cases hh : has (readsOf ops y) t with
      | true => rfl
      | false =>
        rcases hy with hy | hy
        · exact absurd hy (has_mem _ _ hh)
        · rw [hy]
          simp
    exact ⟨by unfold clash; rw [this]; rfl, by unfold clash; rw [this]; cases writes y (readsOf ops x) x <;> rfl⟩
  have ndisj : ∀ (l m : List Nat) (k : Nat), k ∈ l → k ∈ m → disj l m = false := fun l m k h1 h2 => by
    cases h : disj l m with
    | false => rfl
    | true => exact absurd h2 (disj_mem l m h k h1)
  have wo : ∀ (k : Nat) (x y : Oper) (dx dy : Delta), k ∈ dx.ow.map (·.1) → (k ∈ dy.rd ∨ k ∈ dy.ow.map (·.1)) → clash ops x dx y dy = true ∧ clash ops y dy x dx = true := fun k x y dx dy hx hy => by
    have d1 : disj (keysOf dx.ow) (keysOf dy.ow ++ dy.rd) = false := ndisj _ _ k (by rw [keysOf_eq]; exact hx) (by
      rw [List.mem_append, keysOf_eq]
      exact hy.symm)
    have d2 : disj (keysOf dy.ow) (keysOf dx.ow ++ dx.rd) = false ∨ disj (keysOf dx.ow) dy.rd = false := by
      rcases hy with hy | hy
      · exact .inr (ndisj _ _ k (by rw [keysOf_eq]; exact hx) hy)
      · exact .inl (ndisj _ _ k (by rw [keysOf_eq]; exact hy) (by rw [List.mem_append, keysOf_eq]; exact .inl hx))
    refine ⟨?_, ?_⟩
    · unfold clash
      rw [d1]
      cases writes x (readsOf ops y) y <;> cases writes y (readsOf ops x) x <;> rfl
    · unfold clash
      rcases d2 with d2 | d2
      · rw [d2]
        cases writes x (readsOf ops y) y <;> cases writes y (readsOf ops x) x <;> rfl
      · rw [d2]
        cases writes x (readsOf ops y) y <;> cases writes y (readsOf ops x) x <;> cases disj (keysOf dy.ow) (keysOf dx.ow ++ dx.rd) <;> rfl
  have main : ∀ (fuel : Nat) (listed : Array Bool) (st' : St) (c : Cx) (a : Act) (w : World), listed.size = ops.size → unl (fun i => listed.getD i false) ops.size ≤ fuel → Closed ops (fun i => listed.getD i false) → Agree ops ds (fun i => listed.getD i false) st st' → RelS B N c st' a w → wpAny P .any ops Q fuel listed a w := by
    intro fuel
    have final : ∀ (listed : Array Bool) (st' : St) (c : Cx) (a : Act) (w : World), unl (fun i => listed.getD i false) ops.size = 0 → Agree ops ds (fun i => listed.getD i false) st st' → RelS B N c st' a w → Q .normal a w := fun listed st' c a w hu hA hr => by
      obtain ⟨k1, k2⟩ := trace_agree hs0 hs hlen ops.size (Nat.le_refl _)
      rw [hsn] at k1 k2
      refine hQ a w c (hr.same (fun t => ?_) (funext fun k => ?_))
      · rw [k1 t, hA.1 t]
        exact lastW_same _ fun i hi _ => (unl_zero _ hu i hi).symm
      · rw [k2 k, hA.2 k]
        exact lastW_same _ fun i hi _ => (unl_zero _ hu i hi).symm
    have empty : ∀ (listed : Array Bool), listed.size = ops.size → Region.ready .any ops listed = [] → unl (fun i => listed.getD i false) ops.size = 0 := fun listed hsz he => by
      by_cases hu : unl (fun i => listed.getD i false) ops.size = 0
      · exact hu
      · exfalso
        obtain ⟨i, hi, h1, h2⟩ := unl_least _ hu
        have : i ∈ Region.ready .any ops listed := mem_ready.2 ⟨by
          rw [Array.getD_eq_getD_getElem?] at h1 ⊢
          rw [Array.getElem?_eq_getElem (by omega)] at h1 ⊢
          exact h1, ops[i], Array.getElem?_eq_getElem hi, fun e he hb => h2 _ (edge i _ (Array.getElem?_eq_getElem hi) e he hb)⟩
        rw [he] at this
        cases this
    induction fuel with
    | zero =>
      intro listed st' c a w hsz hu hcl hA hr
      refine ⟨?_, final listed st' c a w (by omega) hA hr⟩
      cases he : Region.ready .any ops listed with
      | nil => rfl
      | cons i l =>
        exfalso
        have hi : i ∈ Region.ready .any ops listed := by rw [he]; exact List.mem_cons_self
        obtain ⟨h1, o, ho, _⟩ := mem_ready.1 hi
        have hlt : i < ops.size := (Array.getElem?_eq_some_iff.1 ho).1
        have := unl_zero _ (by omega : unl (fun i => listed.getD i false) ops.size = 0) i hlt
        rw [Array.getD_eq_getD_getElem?] at h1 this
        rw [Array.getElem?_eq_getElem (by omega)] at h1 this
        rw [show listed[i] = false from h1] at this
        cases this
    | succ fuel ih =>
      intro listed st' c a w hsz hu hcl hA hr
      refine ⟨fun he => final listed st' c a w (empty listed hsz he) hA hr, fun i hi => ?_⟩
      obtain ⟨h1, o, ho, hdep⟩ := mem_ready.1 hi
      have hlt : i < ops.size := (Array.getElem?_eq_some_iff.1 ho).1
      have hSi : listed.getD i false = false := by
        rw [Array.getD_eq_getD_getElem?] at h1 ⊢
        rw [Array.getElem?_eq_getElem (by omega)] at h1 ⊢
        exact h1
      have hdi : ds[i]? = some ds[i] := List.getElem?_eq_getElem (by omega)
      obtain ⟨q1, q2⟩ := trace_agree hs0 hs hlen i (by omega)
      obtain ⟨e1, e2, e3⟩ := stepD_ok (hs i o _ ho hdi)
      have ordT : ∀ (t j : Nat), (t ∈ readsOf ops o ∨ o.dst = some t) → uT ops ds t j ≠ none → listed.getD j false = decide (j < i) := fun t j ht hj => by
        obtain ⟨oj, dj, hoj, hdj, hdst, _⟩ := uT_some hj
        obtain ⟨c1, c2⟩ := wr t oj o dj ds[i] hdst ht
        exact order (fun i => listed.getD i false) i j o oj _ dj hcl hdep hSi ho hoj hdi hdj c1 c2
      have ordO : ∀ (k j : Nat), j < ops.size → (k ∈ ds[i].rd ∨ k ∈ ds[i].ow.map (·.1)) → uO ds k j ≠ none → listed.getD j false = decide (j < i) := fun k j hj' hk hj => by
        obtain ⟨dj, hdj, hkj, _⟩ := uO_some hj
        have hoj : ops[j]? = some ops[j] := Array.getElem?_eq_getElem hj'
        obtain ⟨c1, c2⟩ := wo k ops[j] o dj ds[i] hkj hk
        exact order (fun i => listed.getD i false) i j o _ _ dj hcl hdep hSi ho hoj hdi hdj c1 c2
      obtain ⟨st1, hst1⟩ := e3 st' (fun t ht => by
        rw [hA.1 t, q1 t, ← lastW_upto i ops.size (by omega)]
        exact lastW_same _ fun j hj hu => ordT t j (.inl ht) hu) (fun k hk => by
        rw [hA.2 k, q2 k, ← lastW_upto i ops.size (by omega)]
        exact lastW_same _ fun j hj hu => ordO k j hj hk hu)
      obtain ⟨g1, g2, _⟩ := stepD_ok hst1
      have set_i : (listed.setIfInBounds i true).getD i false = true := by
        rw [Array.getD_eq_getD_getElem?, Array.getElem?_setIfInBounds_self_of_lt (by omega)]
        rfl
      have set_ne : ∀ j, j ≠ i → (listed.setIfInBounds i true).getD j false = listed.getD j false := fun j hj => getD_set_ne false fun e => hj e.symm
      have key := stepA_ok (Q := Q) (K := wpAny P .any ops Q fuel (listed.setIfInBounds i true)) hT hr (stepD_stepA hst1) (dstsOk_get ops.toList hd i o (by simpa using ho)) fun a' w' c' hr' => ih (listed.setIfInBounds i true) st1 c' a' w' (by simpa using hsz) (by
          have := unl_set (S := fun i => listed.getD i false) (S' := fun j => (listed.setIfInBounds i true).getD j false) hSi set_i set_ne ops.size
          rw [if_pos hlt] at this
          omega) (fun j oj hj hoj e he hb => by
          by_cases hji : j = i
          · subst hji
            rw [ho] at hoj
            cases hoj
            exact getD_set_true (hdep e he hb)
          · have hj : (listed.setIfInBounds i true).getD j false = true := hj
            rw [set_ne j hji] at hj
            exact getD_set_true (hcl j oj hj hoj e he hb)) ⟨fun t => by
          rw [g1 t]
          by_cases hdst : o.dst = some t
          · rw [if_pos hdst]
            symm
            refine lastW_hit (i := i) (v := ds[i].v) (by unfold uT; rw [ho, hdi]; simp only; rw [if_pos hdst]) set_i _ hlt fun j h2 h3 h4 => ?_
            show (listed.setIfInBounds i true).getD j false = false
            rw [set_ne j (by omega), ordT t j (.inr hdst) h4]
            simp
            omega
          · rw [if_neg hdst, hA.1 t]
            refine lastW_same _ fun j hj hu => (set_ne j fun e => ?_).symm
            subst e
            obtain ⟨oj, dj, hoj, hdj, hdst', _⟩ := uT_some hu
            rw [ho] at hoj
            cases hoj
            exact hdst hdst', fun k => by
          rw [g2]
          by_cases hk : k ∈ ds[i].ow.map (·.1)
          · symm
            rw [fup_in _ _ (fun _ => none) k hk]
            refine lastW_hit (i := i) (v := fup (fun _ => none) ds[i].ow k) (by unfold uO; rw [hdi]; simp only; rw [if_pos hk]) set_i _ hlt fun j h2 h3 h4 => ?_
            show (listed.setIfInBounds i true).getD j false = false
            rw [set_ne j (by omega), ordO k j h3 (.inr hk) h4]
            simp
            omega
          · rw [fup_not _ _ k hk, hA.2 k]
            refine lastW_same _ fun j hj hu => (set_ne j fun e => ?_).symm
            subst e
            obtain ⟨dj, hdj, hkj, _⟩ := uO_some hu
            rw [hdi] at hdj
            cases hdj
            exact hk hkj⟩ hr'
      unfold wpOp
      simp only [ho]
      split at key
      · rename_i hw
        rw [if_pos hw]
        exact .inl key
      · rename_i hw
        rw [if_neg hw]
        exact key
  obtain ⟨m1, m2⟩ := hr.mem.drew (w.drawn + 1)
  have hz : ∀ i, (Array.replicate ops.size false).getD i false = false := fun i => by
    rw [Array.getD_eq_getD_getElem?, Array.getElem?_replicate]
    split <;> rfl
  have hun : ∀ (S : Nat → Bool) n, unl S n ≤ n := fun S n => by
    induction n with
    | zero => exact Nat.le_refl _
    | succ n ih => simp only [unl]; split <;> omega
  have hfree : ∀ {α : Type} (u : Nat → Option α) (init : α) (n : Nat), lastW u (fun i => (Array.replicate ops.size false).getD i false) init n = init := fun u init n => by
    induction n with
    | zero => rfl
    | succ n ih => simp only [lastW]; rw [hz n]; exact ih
  exact main ops.size _ st c a _ (by simp) (hun _ _) (fun i o hi => by simp only [hz i] at hi; cases hi) ⟨fun t => (hfree _ _ _).symm, fun k => (hfree _ _ _).symm⟩ ⟨m1, fun t => (hr.tms t).ext m2, hr.sz, hr.dfs, hr.pas, hr.Ib⟩
end
end Go.Proofs.Ytohfaccniialmaa.Am
