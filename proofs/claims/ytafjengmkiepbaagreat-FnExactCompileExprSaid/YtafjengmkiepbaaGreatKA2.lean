/- A machine of values, which answers as the program does (part 2). -/
import Derived.Test.YtafjengmkiepbaaGreatKA1
import Derived.ProofKit
import Derived.OpenShut
import Derived.ShutString
import Derived.ChangeOld
import Derived.Below
import Derived.Deep.Slices
import Derived.DataReads
import Derived.IntWalk
section
/- A region whose order is drawn answers as in its text's order. -/
namespace Go.Proofs.YtafjengmkiepbaaGreat.Am
open Go
set_option linter.constructorNameAsVariable false
set_option linter.unusedVariables false
set_option linter.unusedSimpArgs false

/-! ### the last writer -/
def lastW {α : Type} (u : Nat → Option α) (S : Nat → Bool) (init : α) : Nat → α
  | 0 => init
  | i + 1 => match S i, u i with | true, some v => v | _, _ => lastW u S init i
theorem lastW_same {α : Type} {u : Nat → Option α} {S S' : Nat → Bool} {init : α} : ∀ n, (∀ i, i < n → u i ≠ none → S i = S' i) → lastW u S init n = lastW u S' init n
  | 0, _ => rfl
  | n + 1, h => by
    simp only [lastW]
    rw [lastW_same n fun i hi => h i (by omega)]
    cases hu : u n with
    | none => cases S n <;> cases S' n <;> rfl
    | some v => rw [h n (by omega) (by rw [hu]; simp)]
theorem lastW_upto {α : Type} {u : Nat → Option α} {init : α} (i : Nat) : ∀ n, i ≤ n → lastW u (fun j => decide (j < i)) init n = lastW u (fun _ => true) init i
  | 0, h => by
    have : i = 0 := by omega
    subst this
    rfl
  | n + 1, h => by
    by_cases e : i = n + 1
    · subst e
      exact lastW_same _ fun j hj _ => by simpa using hj
    · simp only [lastW]
      rw [lastW_upto i n (by omega), decide_eq_false (show ¬ n < i by omega)]
theorem lastW_hit {α : Type} {u : Nat → Option α} {S : Nat → Bool} {init : α} {i : Nat} {v : α} (hu : u i = some v) (hS : S i = true) : ∀ n, i < n → (∀ j, i < j → j < n → u j ≠ none → S j = false) → lastW u S init n = v
  | 0, h, _ => by omega
  | n + 1, h, hj => by
    simp only [lastW]
    by_cases e : i = n
    · subst e
      rw [hS, hu]
    · have ih := lastW_hit (init := init) hu hS n (by omega) fun j h1 h2 => hj j h1 (by omega)
      cases hn : u n with
      | none => rw [ih]; cases S n <;> rfl
      | some x =>
        rw [hj n (by omega) (by omega) (by rw [hn]; simp)]
        exact ih

section
variable {P : Program} {B : Base} {c : Cx} {w : World} {N : Nat} {st st' : St} {a : Act} {T : Table} {M : FuncId → List Bool} {R : Type} {ops : Array Oper}

/-- what a set of operations hangs on is in it -/
def Closed (ops : Array Oper) (S : Nat → Bool) : Prop := ∀ i o, S i = true → ops[i]? = some o → ∀ e, e ∈ o.after → Region.binds .any e = true → S e.on = true
def Deps (o : Oper) (S : Nat → Bool) : Prop := ∀ e, e ∈ o.after → Region.binds .any e = true → S e.on = true

theorem testBit_or3 (k m n j : Nat) : Nat.testBit (Nat.lor (2 ^ k) (Nat.lor m n)) j = (decide (k = j) || (Nat.testBit m j || Nat.testBit n j)) := by
  show Nat.testBit (2 ^ k ||| (m ||| n)) j = _
  rw [Nat.testBit_or, Nat.testBit_or, Nat.testBit_two_pow]
theorem maskOf_ok (ms : List Nat) : ∀ (es : List Edge) (m : Nat), maskOf ms es = some m → (∀ e, e ∈ es → Region.binds .any e = true → e.on < ms.length) ∧ ∀ j, Nat.testBit m j = true → ∃ e, e ∈ es ∧ Region.binds .any e = true ∧ (e.on = j ∨ ∃ k, ms[e.on]? = some k ∧ Nat.testBit k j = true)
  | [], m, h => by
    simp only [maskOf, Option.some.injEq] at h
    subst h
    exact ⟨fun e he => (by cases he), fun j hj => (by simp at hj)⟩
  | e :: r, m, h => by
    simp only [maskOf] at h
    split at h
    · rename_i hb
      split at h
      · rename_i k n hk hn
        simp only [Option.some.injEq] at h
        subst h
        obtain ⟨h1, h2⟩ := maskOf_ok ms r n hn
        refine ⟨fun e' he' hb' => ?_, fun j hj => ?_⟩
        · rcases List.mem_cons.1 he' with he' | he'
          · subst he'; exact (List.getElem?_eq_some_iff.1 hk).1
          · exact h1 e' he' hb'
        · rw [testBit_or3] at hj
          simp only [Bool.or_eq_true, decide_eq_true_eq] at hj
          rcases hj with hj | hj | hj
          · exact ⟨e, List.mem_cons_self, hb, .inl hj⟩
          · exact ⟨e, List.mem_cons_self, hb, .inr ⟨k, hk, hj⟩⟩
          · obtain ⟨e', q1, q2⟩ := h2 j hj
            exact ⟨e', List.mem_cons_of_mem _ q1, q2⟩
      · cases h
    · rename_i hb
      obtain ⟨h1, h2⟩ := maskOf_ok ms r m h
      refine ⟨fun e' he' hb' => ?_, fun j hj => ?_⟩
      · rcases List.mem_cons.1 he' with he' | he'
        · subst he'; rw [hb] at hb'; cases hb'
        · exact h1 e' he' hb'
      · obtain ⟨e', q1, q2⟩ := h2 j hj
        exact ⟨e', List.mem_cons_of_mem _ q1, q2⟩
theorem okWith_get {m : Nat} {o : Oper} {d : Delta} : ∀ (l : List (Oper × Delta)) (j : Nat), okWith ops m o d j l = true → ∀ (i : Nat) (p : Oper × Delta), l[i]? = some p → clash ops p.1 p.2 o d = true → Nat.testBit m (j + i) = true
  | [], j, _, i, p, h, _ => by simp at h
  | q :: r, j, hk, i, p, h, hc => by
    simp only [okWith] at hk
    cases i with
    | zero =>
      simp at h
      subst h
      rw [hc] at hk
      cases ht : Nat.testBit m j with
      | true => simp
      | false => rw [ht] at hk; cases hk
    | succ i =>
      have : okWith ops m o d (j + 1) r = true := by
        split at hk
        · cases hk
        · exact hk
      have := okWith_get r (j + 1) this i p (by simpa using h) hc
      rw [show j + (i + 1) = j + 1 + i by omega]
      exact this
def Good (ops : Array Oper) (ms : List Nat) : Prop := ∀ (i m : Nat) (o : Oper), ms[i]? = some m → ops[i]? = some o → ∀ j, Nat.testBit m j = true → ∀ S, Closed ops S → Deps o S → S j = true
/-- the order's check -/
theorem ordOk_ok : ∀ (os : List Oper) (ds : List Delta) (done : List (Oper × Delta)) (ms : List Nat), ordOk ops done ms os ds = true → ms.length = done.length → (∀ (i : Nat), os[i]? = ops[done.length + i]?) → (∀ (i : Nat) (p : Oper × Delta), done[i]? = some p → ops[i]? = some p.1) → Good ops ms →
    ds.length = os.length ∧ ∀ (i : Nat) (o : Oper) (d : Delta), os[i]? = some o → ds[i]? = some d → (∀ e, e ∈ o.after → Region.binds .any e = true → e.on < done.length + i) ∧
      ∀ (j : Nat) (p : Oper × Delta), ((done[j]? = some p) ∨ ∃ j', j = done.length + j' ∧ j' < i ∧ os[j']? = some p.1 ∧ ds[j']? = some p.2) → clash ops p.1 p.2 o d = true → ∀ S, Closed ops S → Deps o S → S j = true
  | [], [], done, ms, _, _, _, _, _ => ⟨rfl, fun i o d h => by simp at h⟩
  | [], _ :: _, done, ms, h, _, _, _, _ => by simp [ordOk] at h
  | _ :: _, [], done, ms, h, _, _, _, _ => by simp [ordOk] at h
  | o :: r, d :: ds, done, ms, h, hl, hos, hdone, hgood => by
    simp only [ordOk] at h
    split at h
    case h_2 => cases h
    rename_i m hm
    split at h
    case h_2 => cases h
    rename_i hok
    obtain ⟨h1, h2⟩ := maskOf_ok ms _ m hm
    have h0 : ops[done.length]? = some o := by simpa using (hos 0).symm
    have bit : ∀ j, Nat.testBit m j = true → ∀ S, Closed ops S → Deps o S → S j = true := fun j hj S hS hD => by
      obtain ⟨e, e1, e2, e3⟩ := h2 j hj
      have e1 : e ∈ o.after := by simpa using e1
      rcases e3 with e3 | ⟨k, e3, e4⟩
      · rw [← e3]; exact hD e e1 e2
      · have hlt := h1 e (by simpa using e1) e2
        have hSe := hD e e1 e2
        have hdn : e.on < done.length := by omega
        have hoe : ops[e.on]? = some done[e.on].1 := hdone e.on _ (List.getElem?_eq_getElem hdn)
        exact hgood e.on k _ e3 hoe j e4 S hS fun e' h' b' => hS e.on _ hSe hoe e' h' b'
    have ih := ordOk_ok r ds (done ++ [(o, d)]) (ms ++ [m]) h (by simp [hl]) (fun i => by
      have := hos (i + 1)
      simp only [List.getElem?_cons_succ] at this
      rw [this]
      congr 1
      simp
      omega) (fun i p hp => by
      rw [List.getElem?_append] at hp
      split at hp
      · exact hdone i p hp
      · rename_i hlt
        have hi : i = done.length := by
          have := (List.getElem?_eq_some_iff.1 hp).1
          simp at this
          omega
        subst hi
        simp at hp
        subst hp
        exact h0) (fun i k o' hk ho' j hj S hS hD => by
      rw [List.getElem?_append] at hk
      split at hk
      · exact hgood i k o' hk ho' j hj S hS hD
      · rename_i hlt
        have hi : i = ms.length := by
          have := (List.getElem?_eq_some_iff.1 hk).1
          simp at this
          omega
        subst hi
        simp at hk
        subst hk
        rw [hl, h0] at ho'
        cases ho'
        exact bit j hj S hS hD)
    refine ⟨by simp [ih.1], fun i o' d' ho' hd' => ?_⟩
    cases i with
    | zero =>
      simp at ho' hd'
      subst ho' hd'
      refine ⟨fun e he hb => by have := h1 e (by simpa using he) hb; omega, fun j p hp hc S hS hD => ?_⟩
      rcases hp with hp | ⟨j', _, h', _⟩
      · have := okWith_get done 0 hok j p hp hc
        rw [Nat.zero_add] at this
        exact bit j this S hS hD
      · omega
    | succ i =>
      obtain ⟨k1, k2⟩ := ih.2 i o' d' (by simpa using ho') (by simpa using hd')
      refine ⟨fun e he hb => by have := k1 e he hb; simp at this; omega, fun j p hp hc S hS hD => k2 j p ?_ hc S hS hD⟩
      rcases hp with hp | ⟨j', e1, e2, e3, e4⟩
      · left
        rw [List.getElem?_append_left (List.getElem?_eq_some_iff.1 hp).1]
        exact hp
      · cases j' with
        | zero =>
          left
          simp at e1 e3 e4
          subst e1
          rw [List.getElem?_append_right (Nat.le_refl _)]
          simp
          exact Prod.ext e3 e4
        | succ j' => exact .inr ⟨j', by simp; omega, by omega, by simpa using e3, by simpa using e4⟩

/-! ### the text's order -/
theorem regL_trace : ∀ (l : List Oper) (st stn : St) (ds : List Delta), run T (regL P M ops l st) = some (stn, ds) → ds.length = l.length ∧ ∃ sts : Nat → St, sts 0 = st ∧ sts l.length = stn ∧ ∀ (i : Nat) (o : Oper) (d : Delta), l[i]? = some o → ds[i]? = some d → run T (stepD P M ops (sts i) o) = some (sts (i + 1), d)
  | [], st, stn, ds, h => by
    have := run_ret h
    simp only [Prod.mk.injEq] at this
    obtain ⟨rfl, rfl⟩ := this
    exact ⟨rfl, fun _ => st, rfl, rfl, fun i o d h => by simp at h⟩
  | o :: r, st, stn, ds, h => by
    simp only [regL] at h
    obtain ⟨⟨st1, d⟩, h1, h⟩ := run_bind T _ _ _ h
    obtain ⟨⟨st2, ds'⟩, h2, h⟩ := run_bind T _ _ _ h
    have := run_ret h
    simp only [Prod.mk.injEq] at this
    obtain ⟨rfl, rfl⟩ := this
    obtain ⟨k0, sts, k1, k2, k3⟩ := regL_trace r st1 st2 ds' h2
    refine ⟨by simp [k0], fun i => match i with | 0 => st | i + 1 => sts i, rfl, k2, fun i o' d' ho hd => ?_⟩
    cases i with
    | zero =>
      simp at ho hd
      subst ho hd
      show run T (stepD P M ops st o) = some (sts 0, d)
      rw [k1]
      exact h1
    | succ i => exact k3 i o' d' (by simpa using ho) (by simpa using hd)

/-- what an operation writes, by place -/
def uT (ops : Array Oper) (ds : List Delta) (t : Nat) (i : Nat) : Option AV := match ops[i]?, ds[i]? with
  | some o, some d => if o.dst = some t then some d.v else none
  | _, _ => none
def uO (ds : List Delta) (k : Nat) (i : Nat) : Option (Option AO) := match ds[i]? with
  | some d => if k ∈ d.ow.map (·.1) then some (fup (fun _ => none) d.ow k) else none
  | none => none
theorem uT_some {ds : List Delta} {t i : Nat} (h : uT ops ds t i ≠ none) : ∃ o d, ops[i]? = some o ∧ ds[i]? = some d ∧ o.dst = some t ∧ uT ops ds t i = some d.v := by
  unfold uT at h ⊢
  split at h
  · rename_i o d ho hd
    split at h
    · rename_i e; exact ⟨o, d, ho, hd, e, if_pos e⟩
    · exact absurd rfl h
  · exact absurd rfl h
theorem uO_some {ds : List Delta} {k i : Nat} (h : uO ds k i ≠ none) : ∃ d, ds[i]? = some d ∧ k ∈ d.ow.map (·.1) ∧ uO ds k i = some (fup (fun _ => none) d.ow k) := by
  unfold uO at h ⊢
  split at h
  · rename_i d hd
    split at h
    · rename_i e; exact ⟨d, hd, e, if_pos e⟩
    · exact absurd rfl h
  · exact absurd rfl h
def Agree (ops : Array Oper) (ds : List Delta) (S : Nat → Bool) (st0 st : St) : Prop :=
  (∀ t, st.get t = lastW (uT ops ds t) S (st0.get t) ops.size) ∧ ∀ k, look st.ob k = lastW (uO ds k) S (look st0.ob k) ops.size

theorem trace_agree {ds : List Delta} {st0 : St} {sts : Nat → St} (h0 : sts 0 = st0) (hs : ∀ (i : Nat) (o : Oper) (d : Delta), ops[i]? = some o → ds[i]? = some d → run T (stepD P M ops (sts i) o) = some (sts (i + 1), d)) (hlen : ds.length = ops.size) : ∀ i, i ≤ ops.size →
    (∀ t, (sts i).get t = lastW (uT ops ds t) (fun _ => true) (st0.get t) i) ∧ ∀ k, look (sts i).ob k = lastW (uO ds k) (fun _ => true) (look st0.ob k) i
  | 0, _ => by rw [h0]; exact ⟨fun t => rfl, fun k => rfl⟩
  | i + 1, hi => by
    obtain ⟨k1, k2⟩ := trace_agree h0 hs hlen i (by omega)
    have ho : ops[i]? = some ops[i] := Array.getElem?_eq_getElem (by omega)
    have hd : ds[i]? = some ds[i] := List.getElem?_eq_getElem (by omega)
    obtain ⟨q1, q2, _⟩ := stepD_ok (hs i _ _ ho hd)
    refine ⟨fun t => ?_, fun k => ?_⟩
    · rw [q1 t, k1 t]
      simp only [lastW, uT, ho, hd]
      by_cases e : ops[i].dst = some t
      · rw [if_pos e, if_pos e]
      · rw [if_neg e, if_neg e]
    · rw [q2]
      simp only [lastW, uO, hd]
      by_cases e : k ∈ ds[i].ow.map (·.1)
      · rw [if_pos e]
        exact fup_in _ _ _ k e
      · rw [if_neg e]
        simp only
        rw [fup_not _ _ k e, k2 k]

theorem RelS.same (hr : RelS B N c st a w) (h1 : ∀ t, st'.get t = st.get t) (h2 : look st'.ob = look st.ob) : RelS B N c st' a w :=
  ⟨by rw [h2]; exact hr.mem, fun t => by rw [h1]; exact hr.tms t, hr.sz, hr.dfs, hr.pas, hr.Ib⟩

def unl (S : Nat → Bool) : Nat → Nat
  | 0 => 0
  | n + 1 => unl S n + (if S n then 0 else 1)
theorem unl_set {S S' : Nat → Bool} {i : Nat} (hi : S i = false) (hi' : S' i = true) (ho : ∀ j, j ≠ i → S' j = S j) : ∀ n, unl S' n + (if i < n then 1 else 0) = unl S n
  | 0 => by simp [unl]
  | n + 1 => by
    have ih := unl_set hi hi' ho n
    simp only [unl]
    by_cases e : n = i
    · subst e
      simp only [hi, hi', Nat.lt_irrefl, if_false] at ih ⊢
      simp
      omega
    · rw [ho n e]
      have : (i < n + 1) ↔ (i < n) := by omega
      simp only [this]
      omega
theorem unl_zero {S : Nat → Bool} : ∀ n, unl S n = 0 → ∀ i, i < n → S i = true
  | 0, _, i, h => by omega
  | n + 1, h, i, hi => by
    simp only [unl] at h
    by_cases e : i = n
    · subst e
      cases hS : S i with
      | true => rfl
      | false => rw [hS] at h; simp at h
    · exact unl_zero n (by omega) i (by omega)
theorem unl_least {S : Nat → Bool} : ∀ n, unl S n ≠ 0 → ∃ i, i < n ∧ S i = false ∧ ∀ j, j < i → S j = true
  | 0, h => by simp [unl] at h
  | n + 1, h => by
    by_cases e : unl S n = 0
    · refine ⟨n, by omega, ?_, unl_zero n e⟩
      cases hS : S n with
      | false => rfl
      | true => simp only [unl, hS, e] at h; simp at h
    · obtain ⟨i, h1, h2⟩ := unl_least n e
      exact ⟨i, by omega, h2⟩

/-- **a region in an order that is drawn** -/
theorem regD_ok (hT : TS P T) (hd : dstsOk N ops.toList = true) {Q : Exit → Act → World → Prop} {stn : St} {ds : List Delta} (hQ : ∀ a' w' c', RelS B N c' stn a' w' → Q .normal a' w') (hr : RelS B N c st a w) (h : run T (regL P M ops ops.toList st) = some (stn, ds)) (hok : ordOk ops [] [] ops.toList ds = true) :
    wpAny P .any ops Q ops.size (Array.replicate ops.size false) a { w with drawn := w.drawn + 1 } := by
  obtain ⟨hlen, sts, hs0, hsn, hs⟩ := regL_trace _ _ _ _ h
  have hlen : ds.length = ops.size := by simpa using hlen
  have hs : ∀ (i : Nat) (o : Oper) (d : Delta), ops[i]? = some o → ds[i]? = some d → run T (stepD P M ops (sts i) o) = some (sts (i + 1), d) := fun i o d ho hd => hs i o d (by simpa using ho) hd
  have hsn : sts ops.size = stn := by simpa using hsn
  have hord := (ordOk_ok ops.toList ds [] [] hok rfl (fun i => by simp) (fun i p h => by simp at h) (fun i m o h => by simp at h)).2
  have edge : ∀ (i : Nat) (o : Oper), ops[i]? = some o → ∀ e, e ∈ o.after → Region.binds .any e = true → e.on < i := fun i o ho e he hb => by
    have hi : i < ops.size := (Array.getElem?_eq_some_iff.1 ho).1
    have := (hord i o ds[i] (by simpa using ho) (List.getElem?_eq_getElem (by omega))).1 e he hb
    simpa using this
  have cl : ∀ (i j : Nat) (oi oj : Oper) (di dj : Delta), j < i → ops[i]? = some oi → ops[j]? = some oj → ds[i]? = some di → ds[j]? = some dj → clash ops oj dj oi di = true → ∀ S, Closed ops S → Deps oi S → S j = true := fun i j oi oj di dj hji hoi hoj hdi hdj hc S hS hD =>
    (hord i oi di (by simpa using hoi) hdi).2 j (oj, dj) (.inr ⟨j, by simp, hji, by simpa using hoj, hdj⟩) hc S hS hD
  -- who writes a place that an operation touches is listed if and only if it comes before
  have order : ∀ (S : Nat → Bool) (i j : Nat) (oi oj : Oper) (di dj : Delta), Closed ops S → Deps oi S → S i = false → ops[i]? = some oi → ops[j]? = some oj → ds[i]? = some di → ds[j]? = some dj → (clash ops oj dj oi di = true) → (clash ops oi di oj dj = true) → S j = decide (j < i) := fun S i j oi oj di dj hS hD hi hoi hoj hdi hdj c1 c2 => by
    rcases Nat.lt_trichotomy j i with hlt | heq | hgt
    · rw [decide_eq_true hlt]
      exact cl i j oi oj di dj hlt hoi hoj hdi hdj c1 S hS hD
    · subst heq
      rw [hi]
      simp
    · rw [decide_eq_false (by omega)]
      cases hj : S j with
      | false => rfl
      | true =>
        have := cl j i oj oi dj di hgt hoj hoi hdj hdi c2 S hS fun e he hb => hS j oj hj hoj e he hb
        rw [hi] at this
        cases this
  have wr : ∀ (t : Nat) (x y : Oper) (dx dy : Delta), x.dst = some t → (t ∈ readsOf ops y ∨ y.dst = some t) → clash ops x dx y dy = true ∧ clash ops y dy x dx = true := fun t x y dx dy hx hy => by
    have : writes x (readsOf ops y) y = true := by
      unfold writes
      rw [hx]
      simp only
      cases hh : has (readsOf ops y) t with
      | true => rfl
      | false =>
        rcases hy with hy | hy
        · exact absurd hy (has_mem _ _ hh)
        · rw [hy]
          simp
    exact ⟨by unfold clash; rw [this]; rfl, by unfold clash; rw [this]; cases writes y (readsOf ops x) x <;> rfl⟩
  have ndisj : ∀ (l m : List Nat) (k : Nat), k ∈ l → k ∈ m → disj l m = false := fun l m k h1 h2 => by
    cases h : disj l m with
    | false => rfl
    | true => exact absurd h2 (disj_mem l m h k h1)
  have wo : ∀ (k : Nat) (x y : Oper) (dx dy : Delta), k ∈ dx.ow.map (·.1) → (k ∈ dy.rd ∨ k ∈ dy.ow.map (·.1)) → clash ops x dx y dy = true ∧ clash ops y dy x dx = true := fun k x y dx dy hx hy => by
    have d1 : disj (keysOf dx.ow) (keysOf dy.ow ++ dy.rd) = false := ndisj _ _ k (by rw [keysOf_eq]; exact hx) (by
      rw [List.mem_append, keysOf_eq]
      exact hy.symm)
    have d2 : disj (keysOf dy.ow) (keysOf dx.ow ++ dx.rd) = false ∨ disj (keysOf dx.ow) dy.rd = false := by
      rcases hy with hy | hy
      · exact .inr (ndisj _ _ k (by rw [keysOf_eq]; exact hx) hy)
      · exact .inl (ndisj _ _ k (by rw [keysOf_eq]; exact hy) (by rw [List.mem_append, keysOf_eq]; exact .inl hx))
    refine ⟨?_, ?_⟩
    · unfold clash
      rw [d1]
      cases writes x (readsOf ops y) y <;> cases writes y (readsOf ops x) x <;> rfl
    · unfold clash
      rcases d2 with d2 | d2
      · rw [d2]
        cases writes x (readsOf ops y) y <;> cases writes y (readsOf ops x) x <;> rfl
      · rw [d2]
        cases writes x (readsOf ops y) y <;> cases writes y (readsOf ops x) x <;> cases disj (keysOf dy.ow) (keysOf dx.ow ++ dx.rd) <;> rfl
  have main : ∀ (fuel : Nat) (listed : Array Bool) (st' : St) (c : Cx) (a : Act) (w : World), listed.size = ops.size → unl (fun i => listed.getD i false) ops.size ≤ fuel → Closed ops (fun i => listed.getD i false) → Agree ops ds (fun i => listed.getD i false) st st' → RelS B N c st' a w → wpAny P .any ops Q fuel listed a w := by
    intro fuel
    have final : ∀ (listed : Array Bool) (st' : St) (c : Cx) (a : Act) (w : World), unl (fun i => listed.getD i false) ops.size = 0 → Agree ops ds (fun i => listed.getD i false) st st' → RelS B N c st' a w → Q .normal a w := fun listed st' c a w hu hA hr => by
      obtain ⟨k1, k2⟩ := trace_agree hs0 hs hlen ops.size (Nat.le_refl _)
      rw [hsn] at k1 k2
      refine hQ a w c (hr.same (fun t => ?_) (funext fun k => ?_))
      · rw [k1 t, hA.1 t]
        exact lastW_same _ fun i hi _ => (unl_zero _ hu i hi).symm
      · rw [k2 k, hA.2 k]
        exact lastW_same _ fun i hi _ => (unl_zero _ hu i hi).symm
    have empty : ∀ (listed : Array Bool), listed.size = ops.size → Region.ready .any ops listed = [] → unl (fun i => listed.getD i false) ops.size = 0 := fun listed hsz he => by
      by_cases hu : unl (fun i => listed.getD i false) ops.size = 0
      · exact hu
      · exfalso
        obtain ⟨i, hi, h1, h2⟩ := unl_least _ hu
        have : i ∈ Region.ready .any ops listed := mem_ready.2 ⟨by
          rw [Array.getD_eq_getD_getElem?] at h1 ⊢
          rw [Array.getElem?_eq_getElem (by omega)] at h1 ⊢
          exact h1, ops[i], Array.getElem?_eq_getElem hi, fun e he hb => h2 _ (edge i _ (Array.getElem?_eq_getElem hi) e he hb)⟩
        rw [he] at this
        cases this
    induction fuel with
    | zero =>
      intro listed st' c a w hsz hu hcl hA hr
      refine ⟨?_, final listed st' c a w (by omega) hA hr⟩
      cases he : Region.ready .any ops listed with
      | nil => rfl
      | cons i l =>
        exfalso
        have hi : i ∈ Region.ready .any ops listed := by rw [he]; exact List.mem_cons_self
        obtain ⟨h1, o, ho, _⟩ := mem_ready.1 hi
        have hlt : i < ops.size := (Array.getElem?_eq_some_iff.1 ho).1
        have := unl_zero _ (by omega : unl (fun i => listed.getD i false) ops.size = 0) i hlt
        rw [Array.getD_eq_getD_getElem?] at h1 this
        rw [Array.getElem?_eq_getElem (by omega)] at h1 this
        rw [show listed[i] = false from h1] at this
        cases this
    | succ fuel ih =>
      intro listed st' c a w hsz hu hcl hA hr
      refine ⟨fun he => final listed st' c a w (empty listed hsz he) hA hr, fun i hi => ?_⟩
      obtain ⟨h1, o, ho, hdep⟩ := mem_ready.1 hi
      have hlt : i < ops.size := (Array.getElem?_eq_some_iff.1 ho).1
      have hSi : listed.getD i false = false := by
        rw [Array.getD_eq_getD_getElem?] at h1 ⊢
        rw [Array.getElem?_eq_getElem (by omega)] at h1 ⊢
        exact h1
      have hdi : ds[i]? = some ds[i] := List.getElem?_eq_getElem (by omega)
      obtain ⟨q1, q2⟩ := trace_agree hs0 hs hlen i (by omega)
      obtain ⟨e1, e2, e3⟩ := stepD_ok (hs i o _ ho hdi)
      have ordT : ∀ (t j : Nat), (t ∈ readsOf ops o ∨ o.dst = some t) → uT ops ds t j ≠ none → listed.getD j false = decide (j < i) := fun t j ht hj => by
        obtain ⟨oj, dj, hoj, hdj, hdst, _⟩ := uT_some hj
        obtain ⟨c1, c2⟩ := wr t oj o dj ds[i] hdst ht
        exact order (fun i => listed.getD i false) i j o oj _ dj hcl hdep hSi ho hoj hdi hdj c1 c2
      have ordO : ∀ (k j : Nat), j < ops.size → (k ∈ ds[i].rd ∨ k ∈ ds[i].ow.map (·.1)) → uO ds k j ≠ none → listed.getD j false = decide (j < i) := fun k j hj' hk hj => by
        obtain ⟨dj, hdj, hkj, _⟩ := uO_some hj
        have hoj : ops[j]? = some ops[j] := Array.getElem?_eq_getElem hj'
        obtain ⟨c1, c2⟩ := wo k ops[j] o dj ds[i] hkj hk
        exact order (fun i => listed.getD i false) i j o _ _ dj hcl hdep hSi ho hoj hdi hdj c1 c2
      obtain ⟨st1, hst1⟩ := e3 st' (fun t ht => by
        rw [hA.1 t, q1 t, ← lastW_upto i ops.size (by omega)]
        exact lastW_same _ fun j hj hu => ordT t j (.inl ht) hu) (fun k hk => by
        rw [hA.2 k, q2 k, ← lastW_upto i ops.size (by omega)]
        exact lastW_same _ fun j hj hu => ordO k j hj hk hu)
      obtain ⟨g1, g2, _⟩ := stepD_ok hst1
      have set_i : (listed.setIfInBounds i true).getD i false = true := by
        rw [Array.getD_eq_getD_getElem?, Array.getElem?_setIfInBounds_self_of_lt (by omega)]
        rfl
      have set_ne : ∀ j, j ≠ i → (listed.setIfInBounds i true).getD j false = listed.getD j false := fun j hj => getD_set_ne false fun e => hj e.symm
      have key := stepA_ok (Q := Q) (K := wpAny P .any ops Q fuel (listed.setIfInBounds i true)) hT hr (stepD_stepA hst1) (dstsOk_get ops.toList hd i o (by simpa using ho)) fun a' w' c' hr' => ih (listed.setIfInBounds i true) st1 c' a' w' (by simpa using hsz) (by
          have := unl_set (S := fun i => listed.getD i false) (S' := fun j => (listed.setIfInBounds i true).getD j false) hSi set_i set_ne ops.size
          rw [if_pos hlt] at this
          omega) (fun j oj hj hoj e he hb => by
          by_cases hji : j = i
          · subst hji
            rw [ho] at hoj
            cases hoj
            exact getD_set_true (hdep e he hb)
          · have hj : (listed.setIfInBounds i true).getD j false = true := hj
            rw [set_ne j hji] at hj
            exact getD_set_true (hcl j oj hj hoj e he hb)) ⟨fun t => by
          rw [g1 t]
          by_cases hdst : o.dst = some t
          · rw [if_pos hdst]
            symm
            refine lastW_hit (i := i) (v := ds[i].v) (by unfold uT; rw [ho, hdi]; simp only; rw [if_pos hdst]) set_i _ hlt fun j h2 h3 h4 => ?_
            show (listed.setIfInBounds i true).getD j false = false
            rw [set_ne j (by omega), ordT t j (.inr hdst) h4]
            simp
            omega
          · rw [if_neg hdst, hA.1 t]
            refine lastW_same _ fun j hj hu => (set_ne j fun e => ?_).symm
            subst e
            obtain ⟨oj, dj, hoj, hdj, hdst', _⟩ := uT_some hu
            rw [ho] at hoj
            cases hoj
            exact hdst hdst', fun k => by
          rw [g2]
          by_cases hk : k ∈ ds[i].ow.map (·.1)
          · symm
            rw [fup_in _ _ (fun _ => none) k hk]
            refine lastW_hit (i := i) (v := fup (fun _ => none) ds[i].ow k) (by unfold uO; rw [hdi]; simp only; rw [if_pos hk]) set_i _ hlt fun j h2 h3 h4 => ?_
            show (listed.setIfInBounds i true).getD j false = false
            rw [set_ne j (by omega), ordO k j h3 (.inr hk) h4]
            simp
            omega
          · rw [fup_not _ _ k hk, hA.2 k]
            refine lastW_same _ fun j hj hu => (set_ne j fun e => ?_).symm
            subst e
            obtain ⟨dj, hdj, hkj, _⟩ := uO_some hu
            rw [hdi] at hdj
            cases hdj
            exact hk hkj⟩ hr'
      unfold wpOp
      simp only [ho]
      split at key
      · rename_i hw
        rw [if_pos hw]
        exact .inl key
      · rename_i hw
        rw [if_neg hw]
        exact key
  obtain ⟨m1, m2⟩ := hr.mem.drew (w.drawn + 1)
  have hz : ∀ i, (Array.replicate ops.size false).getD i false = false := fun i => by
    rw [Array.getD_eq_getD_getElem?, Array.getElem?_replicate]
    split <;> rfl
  have hun : ∀ (S : Nat → Bool) n, unl S n ≤ n := fun S n => by
    induction n with
    | zero => exact Nat.le_refl _
    | succ n ih => simp only [unl]; split <;> omega
  have hfree : ∀ {α : Type} (u : Nat → Option α) (init : α) (n : Nat), lastW u (fun i => (Array.replicate ops.size false).getD i false) init n = init := fun u init n => by
    induction n with
    | zero => rfl
    | succ n ih => simp only [lastW]; rw [hz n]; exact ih
  exact main ops.size _ st c a _ (by simp) (hun _ _) (fun i o hi => by simp only [hz i] at hi; cases hi) ⟨fun t => (hfree _ _ _).symm, fun k => (hfree _ _ _).symm⟩ ⟨m1, fun t => (hr.tms t).ext m2, hr.sz, hr.dfs, hr.pas, hr.Ib⟩
end
end Go.Proofs.YtafjengmkiepbaaGreat.Am
end
section
/- What the machine of values answers, the program answers: a function's text. -/
namespace Go.Proofs.YtafjengmkiepbaaGreat.Am
open Go
set_option linter.constructorNameAsVariable false
set_option linter.unusedVariables false
set_option linter.unusedSimpArgs false
section
variable {P : Program} {B : Base} {c : Cx} {w : World} {N : Nat} {st st' : St} {a : Act} {T : Table} {M : FuncId → List Bool} {R : Type}

/-- what is come to -/
def Done (P : Program) (B : Base) (N : Nat) (fin : St → Option R) (r : R) (todo : List Item) (a : Act) (w : World) : Prop :=
  ∀ (b : Frame) (cs : List Frame), ∃ st' a' w' c' todo', fin st' = some r ∧ RelS B N c' st' a' w' ∧ Steps P (lone (b.at a todo) cs w) (lone { b.at a' todo' with mode := .returning } cs w')
theorem Done.step {fin : St → Option R} {r : R} {todo todo' : List Item} {a : Act} {w : World} (h : Done P B N fin r todo' a w) (hs : ∀ (b : Frame) cs, step P (lone (b.at a todo) cs w) = .next (lone (b.at a todo') cs w)) : Done P B N fin r todo a w := fun b cs => by
  obtain ⟨st', a', w', c', todo2, h1, h2, h3⟩ := h b cs
  exact ⟨st', a', w', c', todo2, h1, h2, .head (hs b cs) h3⟩
theorem step_scope' {P : Program} {b : Frame} {a : Act} {k : List Item} {cs : List Frame} {w : World} {x : Code} : Go.step P (lone (b.at a (.code (.scope x) :: k)) cs w) = .next (lone (b.at a (.code x :: .inScope x :: k)) cs w) := step_lone_go (by simp [stepG, stepG.exec, Frame.at])
theorem step_inScope' {P : Program} {b : Frame} {a : Act} {k : List Item} {cs : List Frame} {w : World} {x : Code} : Go.step P (lone (b.at a (.inScope x :: k)) cs w) = .next (lone (b.at a k) cs w) := step_lone_go (by simp [stepG, stepG.exec, Frame.at])

theorem rn1_ok (hm : Mem B c (look st.ob) w) {a : AV} {v : Value} (h : V c w a v) : V c w (rn1 (look st.ob) a) v := by
  cases a with
  | own o ver =>
    simp only [rn1]
    split
    · rename_i k hv ho
      have hv := Nat.eq_of_beq_eq_true hv
      subst hv
      split
      · rename_i t xs hk
        obtain ⟨i, i', h1, h2, h3, h4⟩ := hm.obj o _ ho
        obtain ⟨j, g1, g2, g3, g4, _⟩ := hm.obj k _ hk
        rw [h2] at g1; cases g1
        obtain ⟨e1, e2, e3, e4, e5⟩ := h4 g2
        obtain ⟨A, n, cp, j', rfl, m1, m2, m3⟩ := h.inv_own
        rw [h1] at m1; cases m1
        exact .own k 0 A n cp i' h2 (Nat.zero_le _) fun _ => by rw [e4]; exact (m3 h3.symm).same e1 e2 e3 e5
      · exact h
    · exact h
  | _ => exact h
theorem rnT_look (ob : Nat → Option AO) : ∀ (l : List (Nat × AV)) (t : Nat), look (rnT ob l) t = (look l t).map (rn1 ob)
  | [], t => rfl
  | p :: r, t => by
    obtain ⟨k, v⟩ := p
    simp only [rnT, look]
    split
    · rfl
    · exact rnT_look ob r t
theorem rnS_ok (hr : RelS B N c st a w) : RelS B N c (rnS st) a w := by
  unfold rnS
  split
  · refine ⟨hr.mem, fun t => ?_, hr.sz, hr.dfs, hr.pas, hr.Ib⟩
    have ht := hr.tms t
    unfold St.get at ht ⊢
    simp only [rnT_look]
    cases h : look st.tm t with
    | none => rw [h] at ht; simpa using ht
    | some x =>
      rw [h] at ht
      simp only [Option.map_some]
      exact rn1_ok hr.mem ht
  · exact hr
theorem both_some {R : Type} {x y : Option R} {r : R} (h : both x y = some r) : x = some r ∧ y = some r := by
  unfold both at h
  split at h
  · rename_i e _
    exact ⟨h, e ▸ h⟩
  · cases h
theorem V.inv_mb {v : Value} (h : V c w .mb v) : ∃ x, v = .bool x := by cases h; exact ⟨_, rfl⟩
theorem goS_ok {E : En} (hmix : E.P.follows .mixedOrders = true) (hT : TS E.P T) {fin : St → Option R} {self : List Item → St → Option R} (hself : ∀ todo st r c a w, self todo st = some r → RelS B E.N c st a w → Done E.P B E.N fin r todo a w) :
    ∀ (s : Nat) (f : Bool) (todo : List Item) (st : St) (r : R) (c : Cx) (a : Act) (w : World), goS E T fin self s f todo st = some r → RelS B E.N c st a w → Done E.P B E.N fin r todo a w
  | 0, f, todo, st, r, c, a, w, h, hr => by simp [goS] at h
  | s + 1, f, todo, st, r, c, a, w, h, hr => by
    have ih := goS_ok hmix hT hself s false
    unfold goS at h
    split at h
    · exact fun b cs => ⟨st, a, w, c, _, h, hr, .one step_end⟩
    · exact fun b cs => ⟨st, a, w, c, _, h, hr, .one step_ret⟩
    · exact (ih _ _ _ _ _ _ h hr).step fun b cs => step_skip
    · exact (ih _ _ _ _ _ _ h hr).step fun b cs => step_label
    · exact (ih _ _ _ _ _ _ h hr).step fun b cs => step_inBlock
    · exact (ih _ _ _ _ _ _ h hr).step fun b cs => step_inScope'
    · exact (ih _ _ _ _ _ _ h hr).step fun b cs => step_seq
    · rename_i cnd x y k
      have hcv := ev_ok hr cnd
      split at h
      · rename_i t ht
        rw [ht] at hcv
        cases t with
        | true => exact (ih _ _ _ _ _ _ h hr).step fun b cs => step_cond (V.inv_b hcv)
        | false => exact (ih _ _ _ _ _ _ h hr).step fun b cs => step_cond (V.inv_b hcv)
      · rename_i ht
        rw [ht] at hcv
        obtain ⟨h1, h2⟩ := both_some h
        obtain ⟨t, hv⟩ := V.inv_mb hcv
        cases t with
        | true => exact (ih _ _ _ _ _ _ h1 hr).step fun b cs => step_cond hv
        | false => exact (ih _ _ _ _ _ _ h2 hr).step fun b cs => step_cond hv
      · cases h
    · exact (ih _ _ _ _ _ _ h hr).step fun b cs => step_block
    · exact (ih _ _ _ _ _ _ h hr).step fun b cs => step_scope'
    · unfold bo at h
      split at h
      · rename_i st1 h1
        obtain ⟨c1, hr1⟩ := cleanAt_ok hr h1
        exact (hself _ _ _ _ _ _ h hr1).step fun b cs => step_loop
      · cases h
    · unfold bo at h
      split at h
      · rename_i st1 h1
        obtain ⟨c1, hr1⟩ := cleanAt_ok hr h1
        exact (hself _ _ _ _ _ _ h hr1).step fun b cs => step_inLoop
      · cases h
    · split at h
      · rename_i k' hk
        exact (ih _ _ _ _ _ _ h hr).step fun b cs => step_exit hk
      · cases h
    · rename_i id ops draw k
      cases hj : meets E.jn f id with
      | true =>
        rw [hj] at h
        simp only at h
        unfold bo at h
        split at h
        · rename_i st1 h1
          obtain ⟨c1, hr1⟩ := cleanAt_ok hr h1
          exact hself _ _ _ _ _ _ h hr1
        · cases h
      | false =>
      rw [hj] at h
      simp only at h
      split at h
      · rename_i hd
        obtain ⟨st1, h1, h2⟩ := cps_run T _ r _ h
        intro b cs
        have hw := regA_ok (B := B) (M := E.M) hT hd (Q := fun e a' w' => e = .normal ∧ ∃ c', RelS B E.N c' st1 a' w') (fun a' w' c' h => ⟨rfl, c', h⟩) ops.toList 0 st c a w (by simp) hr h1
        obtain ⟨e, a', w', ⟨rfl, c', hr'⟩, harr⟩ := wp_ops _ a w hw b k cs
        obtain ⟨st2, a2, w2, c2, todo2, k1, k2, k3⟩ := ih _ _ _ _ _ _ h2 (rnS_ok hr') b cs
        refine ⟨st2, a2, w2, c2, todo2, k1, k2, .head ?_ (Steps.trans harr k3)⟩
        have := step_region (P := E.P) (b := b) (a := a) (k := k) (cs := cs) (w := w) (ops := ops) (id := id)
        rw [this]
        congr 3
        simp [List.range_eq_range']
      · rename_i hd
        obtain ⟨q, h1, h2⟩ := cps_run T _ r _ h
        obtain ⟨st1, ds⟩ := q
        split at h2
        case h_2 => cases h2
        rename_i hok
        intro b cs
        have hw := wp_region_any (id := id) hmix (regD_ok (B := B) (M := E.M) hT hd (Q := fun e a' w' => e = .normal ∧ ∃ c', RelS B E.N c' st1 a' w') (fun a' w' c' h => ⟨rfl, c', h⟩) hr h1 hok)
        obtain ⟨e, a', w', ⟨rfl, c', hr'⟩, harr⟩ := hw b k cs
        obtain ⟨st2, a2, w2, c2, todo2, k1, k2, k3⟩ := ih _ _ _ _ _ _ h2 hr' b cs
        exact ⟨st2, a2, w2, c2, todo2, k1, k2, Steps.trans harr k3⟩
      · cases h
    · cases h
theorem go_ok {E : En} (hmix : E.P.follows .mixedOrders = true) {T : Nat → Table} (hT : ∀ n, TS E.P (T n)) {fin : St → Option R} : ∀ (n : Nat) (todo : List Item) (st : St) (r : R) (c : Cx) (a : Act) (w : World), go E T fin n todo st = some r → RelS B E.N c st a w → Done E.P B E.N fin r todo a w
  | 0, todo, st, r, c, a, w, h, hr => by simp [go] at h
  | n + 1, todo, st, r, c, a, w, h, hr => goS_ok hmix (hT n) (fun todo st r c a w h hr => go_ok hmix hT n todo st r c a w h hr) 100000 true todo st r c a w h hr
end
end Go.Proofs.YtafjengmkiepbaaGreat.Am
end
section
/- What a function returns: a function's contract out of its text. -/
namespace Go.Proofs.YtafjengmkiepbaaGreat.Am
open Go
set_option linter.constructorNameAsVariable false
set_option linter.unusedVariables false
set_option linter.unusedSimpArgs false
section
variable {P : Program} {B : Base} {c : Cx} {w : World} {N : Nat} {st st' : St} {a : Act} {T : Table} {M : FuncId → List Bool} {R : Type}

/-! ### results in Lean's kinds -/
def Cd.Ok {A : Type} (d : Cd A) : Prop := ∀ i as os x as' os', d.dec i as os = some (x, as', os') → as = (d.enc i x).1 ++ as' ∧ os = (d.enc i x).2 ++ os'
def Od.Ok {A : Type} (d : Od A) : Prop := ∀ os x os', d.dec os = some (x, os') → os = d.enc x ++ os'
theorem cB_ok : cB.Ok := fun i as os x as' os' h => by
  simp only [cB] at h ⊢
  split at h
  · simp only [Option.some.injEq, Prod.mk.injEq] at h; obtain ⟨rfl, rfl, rfl⟩ := h; exact ⟨rfl, rfl⟩
  · cases h
theorem cI_ok (k : IntKind) : (cI k).Ok := fun i as os x as' os' h => by
  simp only [cI] at h ⊢
  split at h
  · split at h
    · rename_i e; subst e
      simp only [Option.some.injEq, Prod.mk.injEq] at h; obtain ⟨rfl, rfl, rfl⟩ := h; exact ⟨rfl, rfl⟩
    · cases h
  · cases h
theorem cS_ok : cS.Ok := fun i as os x as' os' h => by
  simp only [cS] at h ⊢
  split at h
  · simp only [Option.some.injEq, Prod.mk.injEq] at h; obtain ⟨rfl, rfl, rfl⟩ := h; exact ⟨rfl, rfl⟩
  · cases h
theorem cU_ok : cU.Ok := fun i as os x as' os' h => by
  simp only [cU, Option.some.injEq, Prod.mk.injEq] at h ⊢
  obtain ⟨_, rfl, rfl⟩ := h
  exact ⟨rfl, rfl⟩
theorem cL_ok (t : Ty) : (cL t).Ok := fun i as os x as' os' h => by
  simp only [cL] at h ⊢
  split at h
  · split at h
    · rename_i e; subst e
      simp only [Option.some.injEq, Prod.mk.injEq] at h; obtain ⟨rfl, rfl, rfl⟩ := h; exact ⟨rfl, rfl⟩
    · cases h
  · cases h
theorem cR_ok (t : Ty) : (cR t).Ok := fun i as os x as' os' h => by
  simp only [cR] at h ⊢
  split at h
  · split at h
    · rename_i e1 e2 e3
      have e1 := beq_true e1
      have e2 := beq_true e2
      have e3 := beq_true e3
      subst e1 e2 e3
      split at h
      · rename_i e; subst e
        simp only [Option.some.injEq, Prod.mk.injEq] at h; obtain ⟨rfl, rfl, rfl⟩ := h; exact ⟨rfl, rfl⟩
      · cases h
    · cases h
  · cases h
theorem cT_ok (t : Ty) : (cT t).Ok := fun i as os x as' os' h => by
  simp only [cT] at h ⊢
  split at h
  · split at h
    · rename_i e1 e2
      have e1 := beq_true e1
      have e2 := beq_true e2
      subst e1 e2
      split at h
      · rename_i e; subst e
        simp only [Option.some.injEq, Prod.mk.injEq] at h; obtain ⟨rfl, rfl, rfl⟩ := h; exact ⟨rfl, rfl⟩
      · cases h
    · cases h
  · cases h
theorem cO_ok (o v : Nat) : (cO o v).Ok := fun i as os x as' os' h => by
  simp only [cO] at h ⊢
  split at h
  · split at h
    · rename_i e1 e2
      have e1 := beq_true e1
      have e2 := beq_true e2
      subst e1 e2
      simp only [Option.some.injEq, Prod.mk.injEq] at h; obtain ⟨_, rfl, rfl⟩ := h; exact ⟨rfl, rfl⟩
    · cases h
  · cases h
theorem cP_ok {A C : Type} {a : Cd A} {b : Cd C} (ha : a.Ok) (hb : b.Ok) : (cP a b).Ok := fun i as os x as' os' h => by
  simp only [cP] at h ⊢
  split at h
  · rename_i x1 as1 os1 h1
    split at h
    · rename_i y1 as2 os2 h2
      simp only [Option.some.injEq, Prod.mk.injEq] at h
      obtain ⟨rfl, rfl, rfl⟩ := h
      obtain ⟨k1, k2⟩ := ha i as os x1 as1 os1 h1
      obtain ⟨m1, m2⟩ := hb _ as1 os1 y1 as2 os2 h2
      exact ⟨by rw [k1, m1, List.append_assoc], by rw [k2, m2, List.append_assoc]⟩
    · cases h
  · cases h
theorem cG_ok {A : Type} {a : Cd A} (ha : a.Ok) : (cG a).Ok := fun i as os x as' os' h => by
  simp only [cG] at h ⊢
  split at h
  · split at h
    · rename_i x1 os1 h1
      simp only [Option.some.injEq, Prod.mk.injEq] at h
      obtain ⟨rfl, rfl, rfl⟩ := h
      obtain ⟨k1, k2⟩ := ha _ _ _ _ _ _ h1
      rw [List.append_nil] at k1
      exact ⟨by rw [k1]; rfl, k2⟩
    · cases h
  · cases h
theorem cX_ok {A : Type} {a : Cd A} (ha : a.Ok) : (cX a).Ok := fun i as os x as' os' h => by
  simp only [cX] at h ⊢
  split at h
  · split at h
    · rename_i e1 e2
      have e1 := beq_true e1
      have e2 := beq_true e2
      subst e1 e2
      split at h
      · rename_i x1 os1 h1
        simp only [Option.some.injEq, Prod.mk.injEq] at h
        obtain ⟨rfl, rfl, rfl⟩ := h
        obtain ⟨k1, k2⟩ := ha _ _ _ _ _ _ h1
        rw [List.append_nil] at k1
        exact ⟨rfl, by rw [k1, k2]; rfl⟩
      · cases h
    · cases h
  · cases h
theorem oU_ok : oU.Ok := fun os x os' h => by
  simp only [oU, Option.some.injEq, Prod.mk.injEq] at h ⊢
  obtain ⟨_, rfl⟩ := h
  rfl
theorem oR_ok (v : Nat) (t : Ty) : (oR v t).Ok := fun os x os' h => by
  simp only [oR] at h ⊢
  split at h
  · split at h
    · rename_i e1
      have e1 := beq_true e1
      subst e1
      split at h
      · rename_i e; subst e
        simp only [Option.some.injEq, Prod.mk.injEq] at h; obtain ⟨rfl, rfl⟩ := h; rfl
      · cases h
    · cases h
  · cases h
theorem oT_ok (t : Ty) : (oT t).Ok := fun os x os' h => by
  simp only [oT] at h ⊢
  split at h
  · split at h
    · rename_i e; subst e
      simp only [Option.some.injEq, Prod.mk.injEq] at h; obtain ⟨rfl, rfl⟩ := h; rfl
    · cases h
  · cases h
theorem oD_ok : oD.Ok := fun os x os' h => by
  simp only [oD] at h ⊢
  split at h
  · simp only [Option.some.injEq, Prod.mk.injEq] at h; obtain ⟨_, rfl⟩ := h; rfl
  · cases h
theorem oB_ok {A : Type} {a : Cd A} (ha : a.Ok) : (oB a).Ok := fun os x os' h => by
  simp only [oB] at h ⊢
  split at h
  · split at h
    · rename_i x1 h1
      simp only [Option.some.injEq, Prod.mk.injEq] at h
      obtain ⟨rfl, rfl⟩ := h
      obtain ⟨k1, k2⟩ := ha _ _ _ _ _ _ h1
      rw [List.append_nil] at k1
      rw [k1]
      rfl
    · cases h
  · cases h
theorem oP_ok {A C : Type} {a : Od A} {b : Od C} (ha : a.Ok) (hb : b.Ok) : (oP a b).Ok := fun os x os' h => by
  simp only [oP] at h ⊢
  split at h
  · rename_i x1 os1 h1
    split at h
    · rename_i y1 os2 h2
      simp only [Option.some.injEq, Prod.mk.injEq] at h
      obtain ⟨rfl, rfl⟩ := h
      rw [ha _ _ _ h1, hb _ _ _ h2, List.append_assoc]
    · cases h
  · cases h
theorem finD_ok {A O : Type} {cd : Cd A} {od : Od O} (hc : cd.Ok) (ho : od.Ok) {m : Nat} {x : Option (List AV × List AO)} {r : A × O} (h : finD cd od m x = some r) : x = some ((cd.enc m r.1).1, od.enc r.2 ++ (cd.enc m r.1).2) := by
  unfold finD at h
  split at h
  · rename_i rs os
    split at h
    · rename_i o os1 h1
      split at h
      · rename_i a h2
        simp only [Option.some.injEq] at h
        subst h
        obtain ⟨k1, k2⟩ := hc _ _ _ _ _ _ h2
        have k3 := ho _ _ _ h1
        rw [List.append_nil] at k1 k2
        rw [k1, k3, k2]
      · cases h
    · cases h
  · cases h

/-! ### results in memory -/
def resV (ts : Array Value) : ResultVar → Sem Value
  | .tmp t => pure (ts.getD t undef)
  | .cell p t => do loadVar t (← asAddr (ts.getD p undef))
theorem results_eq (fn : Func) (ts : Array Value) : results fn ts = (do let vs ← fn.results.mapM (resV ts); pure (if h : vs.size = 1 then vs[0] else .tuple vs)) := by
  have : (fun (x : ResultVar) => match x with | .tmp t => (pure (ts.getD t undef) : Sem Value) | .cell p t => do loadVar t (← asAddr (ts.getD p undef))) = resV ts := by
    funext x; cases x <;> rfl
  rw [← this]
  rfl
theorem resA_ok (hr : RelS B N c st a w) : ∀ (rv : List ResultVar) (rs : List AV), resA P (look st.ob) st rv = some rs →
    ∃ vs : List Value, (rv.mapM (resV a.tmps)).run P w = Result.ok vs w ∧ vs.length = rs.length ∧ ∀ j y, rs[j]? = some y → V c w y (vs.getD j undef)
  | [], rs, h => by
    simp only [resA, Option.some.injEq] at h
    subst h
    exact ⟨[], rfl, rfl, by simp⟩
  | .tmp t :: r, rs, h => by
    simp only [resA] at h
    split at h
    · rename_i l hl
      simp only [Option.some.injEq] at h
      subst h
      obtain ⟨vs, h1, h2, h3⟩ := resA_ok hr r l hl
      refine ⟨a.tmps.getD t undef :: vs, ?_, by simp [h2], fun j y hy => ?_⟩
      · simp only [List.mapM_cons, resV, Sem.run_bind, Sem.run_pure, Result.andThen_ok, h1]
      · cases j with
        | zero => simp at hy; subst hy; exact hr.tms t
        | succ j => simpa using h3 j y (by simpa using hy)
    · cases h
  | .cell p t :: r, rs, h => by
    simp only [resA] at h
    split at h
    · rename_i n o off l hn hp hl
      split at h
      · rename_i cs ho
        split at h
        · rename_i q hq
          split at h
          · rename_i x hx
            simp only [Option.some.injEq] at h
            subst h
            obtain ⟨vs, h1, h2, h3⟩ := resA_ok hr r l hl
            obtain ⟨hll, hlg⟩ := cut_eq hq
            obtain ⟨i, b, arr, el, k1, k2, k3, k4, k5, k6⟩ := hr.mem.obj o _ ho
            have htm := hr.tms p
            rw [hp] at htm
            obtain ⟨ad, i', ea, hi', hpp⟩ := htm.inv_ptr
            rw [k1] at hi'
            cases hi'
            obtain ⟨b', hb', rfl⟩ := hpp k2
            rw [k3] at hb'
            cases hb'
            obtain ⟨v, e1, e2⟩ := loadVar_ok (P := P) (w := w) (c := c) hn hll hx ⟨b, off, none⟩ (fun j => arr.getD (off + j) undef) (fun j hj => by
              have hcs : (cs[off + j]?).isSome = true := by rw [← hlg j hj]; simp [hll, hj]
              have hlt : off + j < cs.length := by simpa using hcs
              rw [add_mid']
              exact ⟨cell_in k4 (by rw [k5.1]; exact hlt), k5.2.1 _ hlt⟩) (fun j y hy => by
              have hj : j < n := by have := (List.getElem?_eq_some_iff.1 hy).1; omega
              rw [hlg j hj] at hy
              exact k5.2.2 _ y hy)
            refine ⟨v :: vs, ?_, by simp [h2], fun j y hy => ?_⟩
            · simp only [List.mapM_cons, resV, Sem.run_bind, ea, asAddr, Sem.run_pure, Result.andThen_ok, e1, h1]
            · cases j with
              | zero => simp at hy; subst hy; exact e2
              | succ j => simpa using h3 j y (by simpa using hy)
          · cases h
        · cases h
      · cases h
    · cases h

theorem upto_get : ∀ (n i j : Nat), j < n → (upto i n)[j]? = some (i + j)
  | 0, i, j, h => by omega
  | n + 1, i, 0, h => by simp [upto]
  | n + 1, i, j + 1, h => by
    simp only [upto, List.getElem?_cons_succ]
    rw [upto_get n (i + 1) j (by omega)]
    congr 1
    omega
theorem upto_len : ∀ (n i : Nat), (upto i n).length = n
  | 0, i => rfl
  | n + 1, i => by simp [upto, upto_len n (i + 1)]
theorem outs_get (l : List (Nat × AO)) : ∀ (L : List Nat) (j : Nat) (x : AO), (outs l L)[j]? = some x → ∃ i, L[j]? = some i ∧ (look l i = some x ∨ x = .dead)
  | [], j, x, h => by simp [outs] at h
  | i :: r, 0, x, h => by
    simp only [outs, List.getElem?_cons_zero, Option.some.injEq] at h
    refine ⟨i, rfl, ?_⟩
    split at h
    · exact .inr h.symm
    · exact .inr h.symm
    · rename_i hy
      subst h
      exact .inl hy
    · exact .inr h.symm
  | i :: r, j + 1, x, h => by
    obtain ⟨k, h1, h2⟩ := outs_get l r j x (by simpa [outs] using h)
    exact ⟨k, by simpa using h1, h2⟩
theorem outs_len (l : List (Nat × AO)) : ∀ (L : List Nat), (outs l L).length = L.length
  | [] => rfl
  | i :: r => by simp [outs, outs_len l r]
theorem names_idx (ob : Nat → Option AO) (bump : List Nat) : ∀ (L : List Nat) (i o n v : Nat), (o, n, v) ∈ names ob (fun i _ => i) bump i L → i ≤ n ∧ n < i + L.length
  | [], i, o, n, v, h => by simp [names] at h
  | x :: r, i, o, n, v, h => by
    simp only [names] at h
    have step : (o, n, v) ∈ names ob (fun i _ => i) bump (i + 1) r → i ≤ n ∧ n < i + (x :: r).length := fun h => by
      have := names_idx ob bump r (i + 1) o n v h
      simp only [List.length_cons]
      omega
    split at h
    · split at h
      · rcases List.mem_cons.1 h with h | h
        · simp only [Prod.mk.injEq] at h
          simp only [List.length_cons]
          omega
        · exact step h
      · exact step h
    · exact step h
theorem ends_ok {ob : Nat → Option AO} (hm : Mem B c ob w) {m : Nat} {bump : List Nat} {rs rs' : List AV} {os : List AO} (h : ends ob m bump rs = some (rs', os)) : ∃ c', Mem B c' (obL os) w ∧ c'.F = c.F ∧ (∀ n i', n < m → n < 1000 → c'.inf n = some i' → i'.ver = 0 → c.inf n = some i') ∧ rs'.length = rs.length ∧ ∀ (g : Nat → Value), (∀ j y, rs[j]? = some y → V c w y (g j)) → ∀ j y, rs'[j]? = some y → V c' w y (g j) := by
  unfold ends at h
  split at h
  case h_2 => cases h
  rename_i hck
  rw [Bool.and_eq_true] at hck
  simp only [Option.some.injEq, Prod.mk.injEq] at h
  obtain ⟨rfl, rfl⟩ := h
  have hK : ∀ o n v, (o, n, v) ∈ finK ob m bump rs → ∃ a, ob o = some a ∧ isDead a = false ∧ (isBox a = true → v = 0) := fun o n v h => names_mem _ _ _ _ o n v h
  obtain ⟨c', m1, m2, m3, m4⟩ := hm.names (ob' := obL (outs (objs ob (rnm ob (finK ob m bump rs)) (finK ob m bump rs)) (upto 0 (finL ob m rs).length))) hck.1 hck.2 hK (fun n x hx => by
    obtain ⟨i, h1, h2⟩ := outs_get _ _ n x hx
    have hn : n < (finL ob m rs).length := by
      have := (List.getElem?_eq_some_iff.1 h1).1
      rwa [upto_len] at this
    rw [upto_get _ _ _ hn] at h1
    have hi : n = i := by simpa using h1
    subst hi
    rcases h2 with h2 | h2
    · exact .inr (objs_look _ _ n x h2)
    · exact .inl h2) (fun o n v h => by
    have hn := (names_idx ob bump _ 0 o n v h).2
    rw [Nat.zero_add] at hn
    have : n < (outs (objs ob (rnm ob (finK ob m bump rs)) (finK ob m bump rs)) (upto 0 (finL ob m rs).length)).length := by rw [outs_len, upto_len]; exact hn
    exact ⟨_, List.getElem?_eq_getElem this⟩)
  refine ⟨c', m1, m3, fun n i' hn hn1 hi' hv => ?_, renL_len _ _, fun g hg j y hy => ?_⟩
  case refine_2 =>
    rw [renL_get] at hy
    obtain ⟨z, hz, rfl⟩ := Option.map_eq_some_iff.1 hy
    exact (hg j z hz).ren m2
  obtain ⟨o, v, i0, k1, k2, rfl⟩ := m4 n i' hi'
  have hv : v = 0 := hv
  subst hv
  obtain ⟨⟨j, q1, _, q2⟩, x, hx, hd, hver⟩ := names_nm _ _ _ _ o n 0 k1
  subst q1
  have hL : (finL ob m rs)[n - 0]? = some n := reach_pre _ _ _ _ _ (by rw [Nat.sub_zero, upto_get _ _ _ hn, Nat.zero_add])
  rw [hL] at q2
  cases q2
  have h0 : verO x = 0 := hver rfl hn1
  have := hm.ver hx hd k2
  rw [h0] at this
  rw [k2]
  cases i0
  simp only at this
  subst this
  rfl

theorem look_enum {α : Type} : ∀ (l : List α) (i o : Nat), look (enumA i l) o = if i ≤ o then l[o - i]? else none
  | [], i, o => by simp [enumA, look]
  | a :: r, i, o => by
    simp only [enumA, look]
    cases h : Nat.beq i o with
    | true =>
      have := beq_true h
      subst this
      simp
    | false =>
      have hne : i ≠ o := Nat.ne_of_beq_eq_false h
      simp only
      rw [look_enum r (i + 1) o]
      by_cases h1 : i + 1 ≤ o
      · rw [if_pos h1, if_pos (by omega)]
        rw [show o - i = (o - (i + 1)) + 1 by omega, List.getElem?_cons_succ]
      · rw [if_neg h1, if_neg (by omega)]
theorem look_enum0 {α : Type} (l : List α) (o : Nat) : look (enumA 0 l) o = l[o]? := by rw [look_enum]; simp

/-- **a function's contract** -/
theorem fn_ok {E : En} (hmix : E.P.follows .mixedOrders = true) {T : Nat → Table} (hT : ∀ n, TS E.P (T n)) {f : FuncId} {fn : Func} {code : Code} (hf : E.P.funcs[f]? = some fn) (hb : fn.body = some code) (hN : E.N = fn.ntmps) {R : Type} {fin : St → Option R} {er : R → List AV × List AO} {m : Nat} {cvs : List Cv} {bump : List Nat}
    (hfin : ∀ st r, fin st = some r → finA E.P fn.results.toList m cvs bump st = some (er r)) {k : Nat} {as : List AV} {os : List AO} {r : R} (hm1 : os.length ≤ m) (hm2 : m ≤ 1000) (h : go E T fin k [.code code] (initA as os) = some r) : ACalls E.P f as os (tupA (er r).1, (er r).2) := by
  intro c w vs hvs hva hm cs
  let a0 : Act := { tmps := vs ++ Array.replicate (fn.ntmps - vs.size) undef, defers := [] }
  let b : Frame := { (default : Frame) with fn := f, kind := .normal }
  have henter : Frame.enter E.P f vs .normal = b.at a0 [.code code] := by simp [Frame.enter, Frame.at, hf, hb, b, a0]
  have hdom : ∀ o i, c.inf o = some i → o < m := fun o i h => by
    obtain ⟨x, hx⟩ := hm.dom o i h
    have hx : os[o]? = some x := hx
    have := (List.getElem?_eq_some_iff.1 hx).1
    omega
  have hrel : RelS ⟨w, fun b => ∃ o, Blk c (obL os) o b, c.F, c.inf⟩ E.N c (initA as os) a0 w := by
    have hob : look (initA as os).ob = obL os := by
      funext o
      exact look_enum0 os o
    refine ⟨by rw [hob]; exact hm, fun t => ?_, by show E.N ≤ (vs ++ Array.replicate (fn.ntmps - vs.size) undef).size; rw [hN, Array.size_append, Array.size_replicate]; omega, rfl, fun o i i' h h' _ => by have h : c.inf o = some i := h; rw [h] at h'; cases h'; rfl, fun o i h => Nat.lt_of_lt_of_le (hdom o i h) hm2⟩
    show V c w (match look (enumA 0 as) t with | some a => a | none => .bad) _
    rw [look_enum0]
    split
    · rename_i x hx
      have ht : t < vs.size := by rw [hvs]; exact (List.getElem?_eq_some_iff.1 hx).1
      have e : a0.tmps.getD t undef = vs.getD t undef := getD_append_left ht
      rw [e]
      exact hva t x hx
    · exact .bad _
  obtain ⟨st', a', w', c', todo', h1, h2, h3⟩ := go_ok hmix hT k _ _ r c a0 w h hrel b cs
  have hfin := hfin st' r h1
  unfold finA at hfin
  simp only [bo] at hfin
  split at hfin
  case h_2 => cases hfin
  rename_i rs hrs
  split at hfin
  case h_2 => cases hfin
  rename_i p hp
  obtain ⟨rs1, ob1⟩ := p
  obtain ⟨vs', g1, g2, g3⟩ := resA_ok (P := E.P) h2 _ _ hrs
  obtain ⟨c1, k1, k2, k3, k4⟩ := convL_ok rs cvs st'.ob rs1 ob1 c' hp h2.mem (fun j => vs'.getD j undef) g3
  obtain ⟨c2, m1, m2, mp, m3, m4⟩ := ends_ok k1 hfin
  have hv := m4 _ k4
  have hrun : (results fn a'.tmps).run E.P w' = .ok (if h : vs'.toArray.size = 1 then vs'.toArray[0] else .tuple vs'.toArray) w' := by
    rw [results_eq, Array.mapM_eq_mapM_toList]
    simp only [Sem.run_bind, Sem.run_map, g1, Result.andThen_ok, Sem.run_pure]
  have hlen : (er r).1.length = vs'.length := by rw [m3, k3, g2]
  refine ⟨.returned (if h : vs'.toArray.size = 1 then vs'.toArray[0] else .tuple vs'.toArray), w', _, ⟨_, c2, rfl, ?_, m1, ?_⟩, by rw [henter]; exact h3, rfl, ?_⟩
  · show V c2 w' (tupA (er r).1) _
    generalize (er r).1 = rr at hv hlen
    cases rr with
    | nil =>
      have : vs' = [] := List.length_eq_zero_iff.1 hlen.symm
      subst this
      exact .tup [] #[] rfl (by simp)
    | cons x q =>
      cases q with
      | nil =>
        have hl1 : vs'.length = 1 := hlen.symm
        rw [dif_pos (by simpa using hl1)]
        have := hv 0 x rfl
        obtain ⟨v0, rfl⟩ : ∃ v0, vs' = [v0] := by
          cases vs' with
          | nil => cases hl1
          | cons v0 q => cases q with
            | nil => exact ⟨v0, rfl⟩
            | cons _ _ => simp at hl1
        exact this
      | cons y q =>
        have hl2 : ¬ vs'.toArray.size = 1 := by
          simp only [List.size_toArray]
          rw [← hlen]
          simp
        rw [dif_neg hl2]
        refine .tup (x :: y :: q) vs'.toArray (by simp [← hlen]) fun j z hz => ?_
        have := hv j z hz
        simpa [Array.getD_eq_getD_getElem?, List.getD_eq_getElem?_getD] using this
  · intro o i i' hi hi' hv0
    have ho := hdom o i hi
    have hi1 := mp o i' ho (Nat.lt_of_lt_of_le ho hm2) hi' hv0
    cases h0 : c'.inf o with
    | none => rw [k2.nw o (Nat.lt_of_lt_of_le ho hm2) h0] at hi1; cases hi1
    | some i1 =>
      obtain ⟨i2, q1, q2, q3⟩ := k2.inf o i1 h0
      rw [hi1] at q1
      cases q1
      have := q3 (by omega)
      subst this
      exact h2.pas o i _ hi h0 hv0
  · exact ⟨rfl, h2.dfs, rfl, fn, hf, hrun⟩
end
end Go.Proofs.YtafjengmkiepbaaGreat.Am
end
section
/- Functions' texts over the machine of values: their tables. -/
namespace Go.Proofs.YtafjengmkiepbaaGreat.Am
open Go
set_option linter.constructorNameAsVariable false
set_option linter.unusedVariables false
set_option linter.unusedSimpArgs false

theorem dV_ok : ∀ (t : Ty) (cs : List AV) (x : t.D) (r : List AV), dV t cs = some (x, r) → cs = view t x ++ r
  | .i k, cs, x, r, h => by
    cases cs with
    | nil => simp [dV] at h
    | cons a q =>
      cases a <;> simp [dV] at h
      obtain ⟨rfl, rfl, rfl⟩ := h
      rfl
  | .b, cs, x, r, h => by
    cases cs with
    | nil => simp [dV] at h
    | cons a q =>
      cases a <;> simp [dV] at h
      obtain ⟨rfl, rfl⟩ := h
      rfl
  | .s, cs, x, r, h => by
    cases cs with
    | nil => simp [dV] at h
    | cons a q =>
      cases a <;> simp [dV] at h
      obtain ⟨rfl, rfl⟩ := h
      rfl
  | .u, cs, x, r, h => by
    simp [dV] at h
    subst h
    rfl
  | .pr a b, cs, x, r, h => by
    simp only [dV] at h
    split at h
    · rename_i y q h1
      split at h
      · rename_i z p h2
        simp only [Option.some.injEq, Prod.mk.injEq] at h
        obtain ⟨rfl, rfl⟩ := h
        rw [dV_ok a _ _ _ h1, dV_ok b _ _ _ h2]
        simp [view]
      · cases h
    · cases h
  | .sl t, cs, x, r, h => by
    cases cs with
    | nil => simp [dV] at h
    | cons a q =>
      cases a <;> simp only [dV, reduceCtorEq] at h
      split at h
      · rename_i e
        subst e
        simp only [Option.some.injEq, Prod.mk.injEq] at h
        obtain ⟨rfl, rfl⟩ := h
        rfl
      · cases h
theorem cV_ok (agg : Bool) (t : Ty) : (cV agg t).Ok := fun i as os x as' os' h => by
  cases agg with
  | true =>
    simp only [cV] at h ⊢
    split at h
    · split at h
      · rename_i h1
        simp only [Option.some.injEq, Prod.mk.injEq] at h
        obtain ⟨rfl, rfl, rfl⟩ := h
        rw [dV_ok _ _ _ _ h1]
        simp
      · cases h
    · cases h
  | false =>
    simp only [cV] at h ⊢
    split at h
    · rename_i h1
      simp only [Option.some.injEq, Prod.mk.injEq] at h
      obtain ⟨rfl, rfl, rfl⟩ := h
      exact ⟨dV_ok _ _ _ _ h1, rfl⟩
    · cases h

/-- an argument that is read belongs to the same value -/
theorem unP_ok {agg : Bool} {t : Ty} {a : AV} {x : t.D} (h : unP agg t a = some x) {c : Cx} {w : World} {v : Value} (hv : V c w a v) : V c w (mkP agg t x) v := by
  cases agg with
  | true =>
    simp only [unP] at h
    split at h
    · rename_i cs
      obtain ⟨vs, rfl, q1, q2, q3⟩ := hv.inv_agg
      obtain ⟨hl, hu⟩ := unview_ok _ _ _ h
      exact .agg (view t x) vs (by rw [q1, hl, view_len]) (fun j hj => q2 j (by rw [hl, ← view_len t x]; exact hj)) fun j y hy => hu c w (fun j => vs.getD j undef) q3 j y hy
    · cases h
  | false =>
    simp only [unP] at h
    obtain ⟨hl, hu⟩ := unview_ok _ _ _ h
    simp only [mkP]
    split
    · rename_i b hb
      have := hu c w (fun _ => v) (fun j y hy => by
        cases j with
        | zero => simp at hy; subst hy; exact hv
        | succ j => simp at hy) 0 b (by rw [hb]; rfl)
      exact this
    · exact .bad _
def TabOk (P : Program) (f : FuncId) (g : List AV → List AO → Option Pack) : Prop := ∀ as os p t, g as os = some p → p.x = some t → okFn P f ∧ ACalls P f as os (p.enc t)
theorem ACalls.args {P : Program} {f : FuncId} {as as' : List AV} {os : List AO} {r : Ret} (hl : as'.length = as.length) (h : ∀ (j : Nat) (a a' : AV), as[j]? = some a → as'[j]? = some a' → ∀ (c : Cx) (w : World) (v : Value), V c w a v → V c w a' v) (hA : ACalls P f as' os r) : ACalls P f as os r :=
  fun c w vs hvs hva hm => hA c w vs (by rw [hvs, hl]) (fun j a' ha' => by
    have hj : j < as.length := by rw [← hl]; exact (List.getElem?_eq_some_iff.1 ha').1
    exact h j _ a' (List.getElem?_eq_getElem hj) ha' c w _ (hva j _ (List.getElem?_eq_getElem hj))) hm
def AllF {A : Type} : (l : List (Bool × Ty)) → Fun A l → (List AV → A → Prop) → Prop
  | [], F, Q => ∀ r, F = some r → Q [] r
  | p :: l, F, Q => ∀ x, AllF l (F x) fun as r => Q (mkP p.1 p.2 x :: as) r
theorem AllF.app {A : Type} : ∀ (l : List (Bool × Ty)) (F : Fun A l) (Q : List AV → A → Prop), AllF l F Q → ∀ (as : List AV) (r : A), appF l F as = some (some r) → ∃ as', as'.length = as.length ∧ (∀ (j : Nat) (a a' : AV), as[j]? = some a → as'[j]? = some a' → ∀ (c : Cx) (w : World) (v : Value), V c w a v → V c w a' v) ∧ Q as' r
  | [], F, Q, hF, as, r, h => by
    cases as with
    | nil =>
      exact ⟨[], rfl, fun j a a' ha => by simp at ha, hF r (Option.some.inj h)⟩
    | cons a as => simp [appF] at h
  | p :: l, F, Q, hF, as, r, h => by
    cases as with
    | nil => simp [appF] at h
    | cons a as =>
      simp only [appF] at h
      split at h
      · rename_i x hx
        obtain ⟨as', k1, k2, k3⟩ := AllF.app l (F x) _ (hF x) as r h
        refine ⟨_ :: as', by simp [k1], fun j b b' hb hb' c w v hv => ?_, k3⟩
        cases j with
        | zero =>
          simp at hb hb'
          subst hb hb'
          exact unP_ok hx hv
        | succ j => exact k2 j b b' (by simpa using hb) (by simpa using hb') c w v hv
      · cases h
theorem tabV_ok {P : Program} {f : FuncId} {A : Type} {l : List (Bool × Ty)} {cd : Cd A} {F : Fun A l} (hf : okFn P f) (h : AllF l F fun as r => ACalls P f as [] (enc0 cd r)) : TabOk P f (tabV l cd F) := fun as os p t hp ht => by
  unfold tabV at hp
  split at hp
  · split at hp
    · rename_i x hx
      have hp := Option.some.inj hp
      subst hp
      have ht : x = some t := ht
      rw [ht] at hx
      obtain ⟨as', k1, k2, k3⟩ := h.app l F _ as t hx
      exact ⟨hf, k3.args k1 k2⟩
    · cases hp
  · cases hp
theorem tabs_nil {P : Program} : TS P (tabs []) := fun f as os p t h => by simp [tabs] at h
theorem tabs_cons {P : Program} {f : FuncId} {g : List AV → List AO → Option Pack} {l : List (Nat × (List AV → List AO → Option Pack))} (hg : TabOk P f g) (hl : TS P (tabs l)) : TS P (tabs ((f, g) :: l)) := fun f' as os p t h => by
  simp only [tabs] at h
  cases hb : Nat.beq f f' with
  | true =>
    rw [hb] at h
    have := Nat.eq_of_beq_eq_true hb
    subst this
    exact hg as os p t h
  | false =>
    rw [hb] at h
    exact hl f' as os p t h
theorem fnB_ok {P : Program} {f : FuncId} {N : Nat} (h : fnB P f N = true) : ∃ fn code, P.funcs[f]? = some fn ∧ fn.body = some code ∧ N = fn.ntmps ∧ bodyOf P f = code ∧ resOf P f = fn.results.toList ∧ okFn P f := by
  unfold fnB at h
  split at h
  · rename_i fn hf
    simp only [Bool.and_eq_true, Bool.not_eq_true'] at h
    obtain ⟨h1, h2, h3⟩ := h
    obtain ⟨code, hc⟩ := Option.isSome_iff_exists.1 h1
    exact ⟨fn, code, hf, hc, Nat.eq_of_beq_eq_true h2, by unfold bodyOf; rw [hf]; simp only; rw [hc], by unfold resOf; rw [hf], fn, hf, h3, h1⟩
  · cases h
theorem fin0_ok {A : Type} {cd : Cd A} (hc : cd.Ok) {x : Option (List AV × List AO)} {a : A} (h : fin0 cd x = some a) : x = some (cd.enc 0 a) := by
  unfold fin0 at h
  split at h
  · split at h
    · rename_i h1
      simp only [Option.some.injEq] at h
      subst h
      obtain ⟨k1, k2⟩ := hc _ _ _ _ _ _ h1
      rw [List.append_nil] at k1 k2
      rw [k1, k2]
    · cases h
  · cases h
/-- a function to which nothing is handed over -/
theorem fn0 {E : En} (hmix : E.P.follows .mixedOrders = true) {T : Nat → Table} (hT : ∀ n, TS E.P (T n)) {f : FuncId} (hb : fnB E.P f E.N = true) {A : Type} {cd : Cd A} (hc : cd.Ok) {cvs : List Cv} {k : Nat} {as : List AV} {r : A}
    (h : go E T (fun st => fin0 cd (finA E.P (resOf E.P f) 0 cvs [] st)) k [.code (bodyOf E.P f)] (initA as []) = some r) : ACalls E.P f as [] (enc0 cd r) := by
  obtain ⟨fn, code, h1, h2, h3, h4, h5, h6⟩ := fnB_ok hb
  rw [h4, h5] at h
  exact fn_ok hmix hT h1 h2 h3 (er := fun r => cd.enc 0 r) (m := 0) (fun st r hr => fin0_ok hc hr) (Nat.le_refl _) (Nat.zero_le _) h

/-! ### functions to which objects are handed over -/
mutual
theorem eqA_ok : ∀ (a b : AV), eqA a b = true → a = b
  | .ptr a b, .ptr c d, h => by
    simp only [eqA, Bool.and_eq_true] at h
    rw [Nat.eq_of_beq_eq_true h.1, Nat.eq_of_beq_eq_true h.2]
  | .own a b, .own c d, h => by
    simp only [eqA, Bool.and_eq_true] at h
    rw [Nat.eq_of_beq_eq_true h.1, Nat.eq_of_beq_eq_true h.2]
  | .nils, .nils, _ => rfl
  | .nilp, .nilp, _ => rfl
  | .fn f cs, .fn g ds, h => by
    simp only [eqA, Bool.and_eq_true] at h
    rw [Nat.eq_of_beq_eq_true h.1, eqL_ok cs ds h.2]
  | .bad, b, h => by simp [eqA] at h
  | .und, b, h => by simp [eqA] at h
  | .i _ _, b, h => by simp [eqA] at h
  | .b _, b, h => by simp [eqA] at h
  | .s _, b, h => by simp [eqA] at h
  | .nilf, b, h => by simp [eqA] at h
  | .nili, b, h => by simp [eqA] at h
  | .eptr _ _ _ _, b, h => by simp [eqA] at h
  | .rp _, b, h => by simp [eqA] at h
  | .sub _ _ _ _, b, h => by simp [eqA] at h
  | .lst _ _, b, h => by simp [eqA] at h
  | .agg _, b, h => by simp [eqA] at h
  | .tup _, b, h => by simp [eqA] at h
  | .mp _, b, h => by simp [eqA] at h
theorem eqL_ok : ∀ (l m : List AV), eqA.eqL l m = true → l = m
  | [], [], _ => rfl
  | [], _ :: _, h => by simp [eqA.eqL] at h
  | _ :: _, [], h => by simp [eqA.eqL] at h
  | a :: r, b :: q, h => by
    simp only [eqA.eqL, Bool.and_eq_true] at h
    rw [eqA_ok a b h.1, eqL_ok r q h.2]
end
theorem cK_ok (a : AV) : (cK a).Ok := fun i as os x as' os' h => by
  simp only [cK] at h ⊢
  split at h
  · split at h
    · rename_i e
      have e := eqA_ok _ _ e
      subst e
      simp only [Option.some.injEq, Prod.mk.injEq] at h; obtain ⟨_, rfl, rfl⟩ := h; exact ⟨rfl, rfl⟩
    · cases h
  · cases h
def AllD {X : Type} : (l : List Ac) → FunC X l → (List AV → X → Prop) → Prop
  | [], F, Q => Q [] F
  | .v t :: r, F, Q => ∀ x, AllD r (F x) fun as X => Q (view t x ++ as) X
  | .o b :: r, F, Q => AllD r F fun as X => Q (b :: as) X
def AllN {X : Type} : (l : List (List Ac)) → FunN X l → (List AV → X → Prop) → Prop
  | [], F, Q => Q [] F
  | c :: r, F, Q => AllD c F fun ds G => AllN r G fun as X => Q (.rp ds :: as) X
def AllA {X : Type} : (l : List Ar) → FunA X l → (List AV → X → Prop) → Prop
  | .r cs :: r, F, Q => AllD cs F fun ds G => AllA r G fun as X => Q (.rp ds :: as) X
  | .n f cs :: r, F, Q => AllN cs F fun ds G => AllA r G fun as X => Q (.fn f ds :: as) X
  | .a cs :: r, F, Q => AllD cs F fun ds G => AllA r G fun as X => Q (.agg ds :: as) X
  | [], F, Q => Q [] F
  | .v g t :: r, F, Q => ∀ x, AllA r (F x) fun as X => Q (mkP g t x :: as) X
  | .o b :: r, F, Q => AllA r F fun as X => Q (b :: as) X
def AllC {X : Type} : (l : List Ar) → FunA X l → (List AV → X → Prop) → Prop
  | .a _ :: _, _, _ => True
  | .r _ :: _, _, _ => True
  | .n _ _ :: _, _, _ => True
  | [], F, Q => Q [] F
  | .v _ t :: r, F, Q => ∀ x, AllC r (F x) fun as X => Q (view t x ++ as) X
  | .o b :: r, F, Q => AllC r F fun as X => Q (b :: as) X
def AllO {A : Type} : (l : List Ob) → FunO A l → (List AO → A → Prop) → Prop
  | [], F, Q => ∀ r, F = some r → Q [] r
  | .row v t :: l, F, Q => ∀ xs, AllO l (F xs) fun os r => Q (.row v t xs :: os) r
  | .tree t :: l, F, Q => ∀ xs, AllO l (F xs) fun os r => Q (.tree t xs :: os) r
  | .box cs :: l, F, Q => AllC cs F fun ds G => AllO l G fun os r => Q (.box ds :: os) r
theorem AllD.app {X : Type} : ∀ (l : List Ac) (F : FunC X l) (Q : List AV → X → Prop), AllD l F Q → ∀ (as : List AV) (r : X), appD l F as = some r → Q as r
  | [], F, Q, hF, as, r, h => by
    cases as with
    | nil =>
      have h := Option.some.inj h
      subst h
      exact hF
    | cons a as => simp [appD] at h
  | .v t :: l, F, Q, hF, as, r, h => by
    simp only [appD] at h
    split at h
    · rename_i x cs' hx
      rw [dV_ok _ _ _ _ hx]
      exact AllD.app l (F x) _ (hF x) cs' r h
    · cases h
  | .o q :: l, F, Q, hF, as, r, h => by
    cases as with
    | nil => simp [appD] at h
    | cons a as =>
      simp only [appD] at h
      split at h
      · rename_i hx
        have hx := eqA_ok _ _ hx
        subst hx
        exact AllD.app l F _ hF as r h
      · cases h
theorem AllN.app {X : Type} : ∀ (l : List (List Ac)) (F : FunN X l) (Q : List AV → X → Prop), AllN l F Q → ∀ (as : List AV) (r : X), appN l F as = some r → Q as r
  | [], F, Q, hF, as, r, h => by
    cases as with
    | nil =>
      have h := Option.some.inj h
      subst h
      exact hF
    | cons a as => simp [appN] at h
  | c :: l, F, Q, hF, as, r, h => by
    cases as with
    | nil => simp [appN] at h
    | cons a as =>
      cases a with
      | rp ds =>
        simp only [appN] at h
        split at h
        · rename_i G hG
          exact AllN.app l G _ (AllD.app c F _ hF ds G hG) as r h
        · cases h
      | _ => simp [appN] at h
theorem AllA.app {X : Type} : ∀ (l : List Ar) (F : FunA X l) (Q : List AV → X → Prop), AllA l F Q → ∀ (as : List AV) (r : X), appA l F as = some r → ∃ as', as'.length = as.length ∧ (∀ (j : Nat) (a a' : AV), as[j]? = some a → as'[j]? = some a' → ∀ (c : Cx) (w : World) (v : Value), V c w a v → V c w a' v) ∧ Q as' r
  | [], F, Q, hF, as, r, h => by
    cases as with
    | nil =>
      have h := Option.some.inj h
      subst h
      exact ⟨[], rfl, fun j a a' ha => by simp at ha, hF⟩
    | cons a as => simp [appA] at h
  | .v g t :: l, F, Q, hF, as, r, h => by
    cases as with
    | nil => simp [appA] at h
    | cons a as =>
      simp only [appA] at h
      split at h
      · rename_i x hx
        obtain ⟨as', k1, k2, k3⟩ := AllA.app l (F x) _ (hF x) as r h
        refine ⟨_ :: as', by simp [k1], fun j b b' hb hb' c w v hv => ?_, k3⟩
        cases j with
        | zero =>
          simp at hb hb'
          subst hb hb'
          exact unP_ok hx hv
        | succ j => exact k2 j b b' (by simpa using hb) (by simpa using hb') c w v hv
      · cases h
  | .o q :: l, F, Q, hF, as, r, h => by
    cases as with
    | nil => simp [appA] at h
    | cons a as =>
      simp only [appA] at h
      split at h
      · rename_i hx
        have hx := eqA_ok _ _ hx
        subst hx
        obtain ⟨as', k1, k2, k3⟩ := AllA.app l F _ hF as r h
        refine ⟨_ :: as', by simp [k1], fun j b b' hb hb' c w v hv => ?_, k3⟩
        cases j with
        | zero =>
          simp at hb hb'
          subst hb hb'
          exact hv
        | succ j => exact k2 j b b' (by simpa using hb) (by simpa using hb') c w v hv
      · cases h
  | .a q :: l, F, Q, hF, as, r, h => by
    cases as with
    | nil => simp [appA] at h
    | cons a as =>
      cases a with
      | agg ds =>
        simp only [appA] at h
        split at h
        · rename_i G hG
          obtain ⟨as', k1, k2, k3⟩ := AllA.app l G _ (AllD.app q F _ hF ds G hG) as r h
          refine ⟨_ :: as', by simp [k1], fun j b b' hb hb' c w v hv => ?_, k3⟩
          cases j with
          | zero =>
            simp at hb hb'
            subst hb hb'
            exact hv
          | succ j => exact k2 j b b' (by simpa using hb) (by simpa using hb') c w v hv
        · cases h
      | _ => simp [appA] at h
  | .r q :: l, F, Q, hF, as, r, h => by
    cases as with
    | nil => simp [appA] at h
    | cons a as =>
      cases a with
      | rp ds =>
        simp only [appA] at h
        split at h
        · rename_i G hG
          obtain ⟨as', k1, k2, k3⟩ := AllA.app l G _ (AllD.app q F _ hF ds G hG) as r h
          refine ⟨_ :: as', by simp [k1], fun j b b' hb hb' c w v hv => ?_, k3⟩
          cases j with
          | zero =>
            simp at hb hb'
            subst hb hb'
            exact hv
          | succ j => exact k2 j b b' (by simpa using hb) (by simpa using hb') c w v hv
        · cases h
      | _ => simp [appA] at h
  | .n f q :: l, F, Q, hF, as, r, h => by
    cases as with
    | nil => simp [appA] at h
    | cons a as =>
      cases a with
      | fn g ds =>
        simp only [appA] at h
        split at h
        · rename_i hfg
          have := Nat.eq_of_beq_eq_true hfg
          subst this
          split at h
          · rename_i G hG
            obtain ⟨as', k1, k2, k3⟩ := AllA.app l G _ (AllN.app q F _ hF ds G hG) as r h
            refine ⟨_ :: as', by simp [k1], fun j b b' hb hb' c w v hv => ?_, k3⟩
            cases j with
            | zero =>
              simp at hb hb'
              subst hb hb'
              exact hv
            | succ j => exact k2 j b b' (by simpa using hb) (by simpa using hb') c w v hv
          · cases h
        · cases h
      | _ => simp [appA] at h
theorem AllC.app {X : Type} : ∀ (l : List Ar) (F : FunA X l) (Q : List AV → X → Prop), AllC l F Q → ∀ (as : List AV) (r : X), appC l F as = some r → Q as r
  | [], F, Q, hF, as, r, h => by
    cases as with
    | nil =>
      have h := Option.some.inj h
      subst h
      exact hF
    | cons a as => simp [appC] at h
  | .v g t :: l, F, Q, hF, as, r, h => by
    simp only [appC] at h
    split at h
    · rename_i x cs' hx
      rw [dV_ok _ _ _ _ hx]
      exact AllC.app l (F x) _ (hF x) cs' r h
    · cases h
  | .o q :: l, F, Q, hF, as, r, h => by
    cases as with
    | nil => simp [appC] at h
    | cons a as =>
      simp only [appC] at h
      split at h
      · rename_i hx
        have hx := eqA_ok _ _ hx
        subst hx
        exact AllC.app l F _ hF as r h
      · cases h
  | .a q :: l, F, Q, hF, as, r, h => by
    cases as <;> simp [appC] at h
  | .r q :: l, F, Q, hF, as, r, h => by
    cases as <;> simp [appC] at h
  | .n f q :: l, F, Q, hF, as, r, h => by
    cases as <;> simp [appC] at h
theorem AllO.app {A : Type} : ∀ (l : List Ob) (F : FunO A l) (Q : List AO → A → Prop), AllO l F Q → ∀ (os : List AO) (r : A), appO l F os = some (some r) → Q os r
  | [], F, Q, hF, os, r, h => by
    cases os with
    | nil => exact hF r (Option.some.inj h)
    | cons a as => simp [appO] at h
  | .row v t :: l, F, Q, hF, os, r, h => by
    cases os with
    | nil => simp [appO] at h
    | cons a os =>
      cases a with
      | row v' t' xs =>
        simp only [appO] at h
        split at h
        · rename_i hv
          have := Nat.eq_of_beq_eq_true hv
          subst this
          split at h
          · rename_i ht
            subst ht
            exact AllO.app l (F xs) _ (hF xs) os r h
          · cases h
        · cases h
      | _ => simp [appO] at h
  | .tree t :: l, F, Q, hF, os, r, h => by
    cases os with
    | nil => simp [appO] at h
    | cons a os =>
      cases a with
      | tree t' xs =>
        simp only [appO] at h
        split at h
        · rename_i ht
          subst ht
          exact AllO.app l (F xs) _ (hF xs) os r h
        · cases h
      | _ => simp [appO] at h
  | .box cs :: l, F, Q, hF, os, r, h => by
    cases os with
    | nil => simp [appO] at h
    | cons a os =>
      cases a with
      | box ds =>
        simp only [appO] at h
        split at h
        · rename_i G hG
          exact AllO.app l G _ (AllC.app cs F _ hF ds G hG) os r h
        · cases h
      | _ => simp [appO] at h
theorem tabI_ok {P : Program} {f : FuncId} {A : Type} {l : List Ar} {ls : List Ob} {enc : A → Ret} {F : FunA (FunO A ls) l} (hf : okFn P f) (h : AllA l F fun as G => AllO ls G fun os r => ACalls P f as os (enc r)) : TabOk P f (tabI l ls enc F) := fun as os p t hp ht => by
  unfold tabI at hp
  split at hp
  · rename_i G hG
    split at hp
    · rename_i x hx
      have hp := Option.some.inj hp
      subst hp
      have ht : x = some t := ht
      rw [ht] at hx
      obtain ⟨as', k1, k2, k3⟩ := AllA.app l F _ h as G hG
      exact ⟨hf, (AllO.app ls G _ k3 os t hx).args k1 k2⟩
    · cases hp
  · cases hp
theorem orT_ok {P : Program} {f : FuncId} {a b : List AV → List AO → Option Pack} (ha : TabOk P f a) (hb : TabOk P f b) : TabOk P f (orT a b) := fun as os p t hp ht => by
  unfold orT at hp
  split at hp
  · rename_i q hq
    have hp := Option.some.inj hp
    subst hp
    exact ha as os _ t hq ht
  · exact hb as os p t hp ht
/-- a function to which objects are handed over -/
theorem fnD {E : En} (hmix : E.P.follows .mixedOrders = true) {T : Nat → Table} (hT : ∀ n, TS E.P (T n)) {f : FuncId} (hb : fnB E.P f E.N = true) {A O : Type} {cd : Cd A} {od : Od O} (hc : cd.Ok) (ho : od.Ok) {m : Nat} {cvs : List Cv} {bump : List Nat} {k : Nat} {as : List AV} {os : List AO} {r : A × O} (hm1 : os.length ≤ m) (hm2 : m ≤ 1000)
    (h : go E T (fun st => finD cd od m (finA E.P (resOf E.P f) m cvs bump st)) k [.code (bodyOf E.P f)] (initA as os) = some r) : ACalls E.P f as os (encD cd od m r) := by
  obtain ⟨fn, code, h1, h2, h3, h4, h5, h6⟩ := fnB_ok hb
  rw [h4, h5] at h
  exact fn_ok hmix hT h1 h2 h3 (er := fun r => ((cd.enc m r.1).1, od.enc r.2 ++ (cd.enc m r.1).2)) (m := m) (fun st r hr => finD_ok hc ho hr) hm1 hm2 h
theorem okFn_of {P : Program} {f : FuncId} {N : Nat} (h : fnB P f N = true) : okFn P f := by
  obtain ⟨fn, code, h1, h2, h3, h4, h5, h6⟩ := fnB_ok h
  exact h6
end Go.Proofs.YtafjengmkiepbaaGreat.Am
end
section
/- What an argument that reads as data is for the machine of values. -/
namespace Go.Proofs.YtafjengmkiepbaaGreat.Am
open Go Go.RowKit Go.Deep Go.ChangeShapes
set_option linter.constructorNameAsVariable false
set_option linter.unusedVariables false
set_option linter.unusedSimpArgs false

/-- what is known of data that is read -/
def Qd : (t : Ty) → t.D → Prop
  | .i k, n => (Lit.int k n).wf = true
  | .b, _ => True
  | .s, x => x.size ≤ maxLen
  | .u, _ => True
  | .pr a b, x => Qd a x.1 ∧ Qd b x.2
  | .sl t, xs => xs.length ≤ maxLen ∧ ∀ x, x ∈ xs → Qd t x
/-- the fields lie one behind the other -/
def layB (P : Program) : Nat → TypeId → Bool
  | 0, _ => false
  | n + 1, t => match P.underlying t with
    | some (.slice e) => match tyOf P n e with | some u => Nat.beq (P.cellsOf e) u.sz && (Nat.blt 0 u.sz && layB P n e) | none => false
    | some (.struct fs) => layF (layB P n) (tyOf P n) P 0 fs.toList && (match fieldsTy (tyOf P n) fs.toList with | some u => Nat.beq (P.cellsOf t) u.sz | none => false)
    | _ => true
  where
  layF (lay : TypeId → Bool) (ty : TypeId → Option Ty) (P : Program) : Nat → List Field → Bool
  | _, [] => true
  | off, f :: r => match ty f.type with
    | some u => Nat.beq f.offset off && (Nat.beq (P.cellsOf f.type) u.sz && (lay f.type && layF lay ty P (off + u.sz) r))
    | none => false

section
variable {H : Type} {enc : TypeId × Value → H} {P : Program} {w : World} {base : Nat} {spare : Nat → Bool} {held : Bool} {c : Cx}
def CellsV (c : Cx) (w : World) (cs : List Value) (t : Ty) (x : t.D) : Prop := cs.length = t.sz ∧ ∀ (j : Nat) (a : AV), (view t x)[j]? = some a → V c w a (cs.getD j undef) ∧ (cs.getD j undef).oneCell' = true
theorem cellsV_one {t : Ty} {x : t.D} {a : AV} {v : Value} (hv : view t x = [a]) (hs : t.sz = 1) (h : V c w a v) (h1 : v.oneCell' = true) : CellsV c w [v] t x :=
  ⟨hs.symm, fun j b hj => by
    rw [hv] at hj
    cases j with
    | zero => simp at hj; subst hj; exact ⟨h, h1⟩
    | succ j => simp at hj⟩
theorem list_of' {α : Type} (R : Nat → α → Prop) : ∀ n : Nat, (∀ i, i < n → ∃ x, R i x) → ∃ xs : List α, xs.length = n ∧ ∀ i x, xs[i]? = some x → R i x
  | 0, _ => ⟨[], rfl, fun i x h => by simp at h⟩
  | n + 1, h => by
    obtain ⟨xs, hl, hx⟩ := list_of' R n (fun i hi => h i (by omega))
    obtain ⟨x, hr⟩ := h n (by omega)
    refine ⟨xs ++ [x], by simp [hl], fun i y hy => ?_⟩
    rcases Nat.lt_or_ge i xs.length with hi | hi
    · rw [List.getElem?_append_left hi] at hy
      exact hx i y hy
    · have hlt := (List.getElem?_eq_some_iff.1 hy).1
      rw [List.length_append, List.length_singleton] at hlt
      obtain rfl : i = xs.length := by omega
      simp at hy
      subst hy
      rw [hl]
      exact hr

/-- data that is read at a type -/
theorem trod_V (hF : ∀ b, b < w.heap.size → c.F b) : ∀ (n : Nat) (t : TypeId) (u : Ty), tyOf P n t = some u → layB P n t = true → ∀ (m : Nat) (cs : List Value) (y : DataW H × List MemPlace), DataW.trod enc P w base spare held m t cs = some y → ∃ x : u.D, Qd u x ∧ CellsV c w cs u x
  | 0, t, u, h, _, _, _, _, _ => by simp [tyOf] at h
  | n + 1, t, u, ht, hl, m, cs, y, h => by
    simp only [tyOf] at ht
    simp only [layB] at hl
    split at ht
    · rename_i k hu
      simp only [Option.some.injEq] at ht
      subst ht
      obtain ⟨x, rfl, _, hw⟩ := DataW.trod_int hu h
      exact ⟨x, hw, cellsV_one rfl rfl (.i k x) rfl⟩
    · rename_i hu
      simp only [Option.some.injEq] at ht
      subst ht
      obtain ⟨x, rfl, _⟩ := DataW.trod_bool hu h
      exact ⟨x, trivial, cellsV_one rfl rfl (.b x) rfl⟩
    · rename_i hu
      simp only [Option.some.injEq] at ht
      subst ht
      obtain ⟨x, rfl, _, hw⟩ := DataW.trod_string hu h
      exact ⟨x, hw, cellsV_one rfl rfl (.s x) rfl⟩
    · rename_i e hu
      rw [hu] at hl
      simp only at hl
      split at ht
      · rename_i v hv
        simp only [Option.some.injEq] at ht
        subst ht
        rw [hv] at hl
        simp only [Bool.and_eq_true] at hl
        obtain ⟨hc, hpos, hle⟩ := hl
        have hc := Nat.eq_of_beq_eq_true hc
        have hpos : 0 < v.sz := Nat.le_of_ble_eq_true hpos
        rcases open_slice hu h with ⟨rfl, _⟩ | ⟨a, len, cap, mm, k, D, Pl, rfl, _, hlc, hm, hmm, _, hi⟩
        · exact ⟨([] : List v.D), ⟨by simp, fun x hx => by cases hx⟩, cellsV_one (t := .sl v) rfl rfl (.lst v [] none 0 (fun _ => undef) (Nat.le_refl _) (fun h0 => by simp at h0) (fun j x hx => by simp at hx)) rfl⟩
        · have hlm : len ≤ mm := by rw [hmm]; split <;> omega
          obtain ⟨xs, hxl, hx⟩ := list_of' (fun i (x : v.D) => ∃ cs', w.cells? base (a.add (i * P.cellsOf e)) (P.cellsOf e) = some cs' ∧ Qd v x ∧ CellsV c w cs' v x) len (fun i hlt => by
            obtain ⟨cs', hcs, hk⟩ := hi i (by omega)
            obtain ⟨x, h1, h2⟩ := trod_V hF n e v hv hle _ _ _ hk
            exact ⟨x, cs', hcs, h1, h2⟩)
          subst hxl
          have elt : ∀ (j q : Nat) (x : v.D), xs[j]? = some x → q < v.sz → ∃ u, w.cell? (a.add (j * v.sz + q)) = some u ∧ u.oneCell' = true ∧ ∀ b, (view v x)[q]? = some b → V c w b u := fun j q x hj hq => by
            obtain ⟨cs', hcs, _, hcv1, hcv2⟩ := hx j x hj
            rw [hc] at hcs
            obtain ⟨_, hcl, hat⟩ := World.cells?_some hcs
            have := hat q hq
            rw [Deep.add_add] at this
            have hql : q < cs'.length := by rw [hcl]; exact hq
            have hvl : q < (view v x).length := by rw [view_len]; exact hq
            have h2 := hcv2 q _ (List.getElem?_eq_getElem hvl)
            refine ⟨cs'.getD q undef, by rw [this, List.getElem?_eq_getElem hql, List.getD_eq_getElem?_getD, List.getElem?_eq_getElem hql]; rfl, h2.2, fun b hb => (hcv2 q b hb).1⟩
          have key : V c w (.lst v xs) (.slice (some a) xs.length cap) := by
            refine .lst v xs (some a) cap (fun j => (w.cell? (a.add j)).getD undef) hlc (fun h0 => ⟨a, rfl, ?_, fun j hj => ?_⟩) (fun j x hj q b hb => ?_)
            · have hx0 : xs[0]? = some xs[0] := List.getElem?_eq_getElem h0
              obtain ⟨u, hcell, _⟩ := elt 0 0 _ hx0 hpos
              rw [World.cell?] at hcell
              refine hF _ ?_
              have hb : (a.add (0 * v.sz + 0)).block = a.block := add_block' _ _
              rw [hb] at hcell
              cases hh : w.heap[a.block]? with
              | none => rw [hh] at hcell; simp at hcell
              | some o => exact (Array.getElem?_eq_some_iff.1 hh).1
            · have hjn : j / v.sz < xs.length := (Nat.div_lt_iff_lt_mul hpos).2 hj
              obtain ⟨u, hcell, h1, _⟩ := elt (j / v.sz) (j % v.sz) _ (List.getElem?_eq_getElem hjn) (Nat.mod_lt _ hpos)
              have hidx : j / v.sz * v.sz + j % v.sz = j := by rw [Nat.mul_comm]; exact Nat.div_add_mod j v.sz
              rw [hidx] at hcell
              rw [hcell]
              exact ⟨rfl, h1⟩
            · have hq : q < v.sz := by rw [← view_len v x]; exact (List.getElem?_eq_some_iff.1 hb).1
              obtain ⟨u, hcell, _, hV⟩ := elt j q x hj hq
              show V c w b ((w.cell? (a.add (j * v.sz + q))).getD undef)
              rw [hcell]
              exact hV b hb
          refine ⟨xs, ⟨by omega, fun x hmem => ?_⟩, cellsV_one (t := .sl v) rfl rfl key rfl⟩
          obtain ⟨i, hil, hi'⟩ := List.getElem_of_mem hmem
          obtain ⟨_, _, hq, _⟩ := hx i x (by rw [List.getElem?_eq_getElem hil, hi'])
          exact hq
      · cases ht
    · rename_i fs hu
      rw [hu] at hl
      simp only [Bool.and_eq_true] at hl
      rw [ht] at hl
      obtain ⟨hl, hsz⟩ := hl
      have hsz := Nat.eq_of_beq_eq_true hsz
      obtain ⟨ys, k, _, _, hcl, hyl, hf⟩ := DataW.trod_struct hu h
      -- field by field
      have go : ∀ (l : List Field) (off i : Nat) (u : Ty), (∀ j, l[j]? = fs[i + j]?) → fieldsTy (tyOf P n) l = some u → layB.layF (layB P n) (tyOf P n) P off l = true → off + u.sz ≤ cs.length → ∃ x : u.D, Qd u x ∧ CellsV c w ((cs.drop off).take u.sz) u x := by
        intro l
        induction l with
        | nil =>
          intro off i u _ hu _ _
          simp only [fieldsTy, Option.some.injEq] at hu
          subst hu
          exact ⟨(), trivial, by simp [Ty.sz], fun j a hj => by simp [view] at hj⟩
        | cons f r ih =>
          intro off i u hfs hu hlf hle
          have hf0 : fs[i]? = some f := by simpa using (hfs 0).symm
          simp only [layB.layF] at hlf
          split at hlf
          case h_2 => cases hlf
          rename_i v hv
          simp only [Bool.and_eq_true] at hlf
          obtain ⟨ho, hsz, hly, hrest⟩ := hlf
          have ho := Nat.eq_of_beq_eq_true ho
          have hsz := Nat.eq_of_beq_eq_true hsz
          have one : ∃ x : v.D, Qd v x ∧ CellsV c w ((cs.drop off).take v.sz) v x := by
            have h1 := hf i f hf0
            have hil : i < ys.length := by rw [hyl]; exact (Array.getElem?_eq_some_iff.1 hf0).1
            rw [ho, hsz, List.getElem?_eq_getElem hil] at h1
            exact trod_V hF n f.type v hv hly _ _ _ h1
          cases r with
          | nil =>
            simp only [fieldsTy] at hu
            rw [hv] at hu
            cases hu
            exact one
          | cons g q =>
            simp only [fieldsTy] at hu
            rw [hv] at hu
            split at hu
            · rename_i a b ha hb
              cases ha
              simp only [Option.some.injEq] at hu
              subst hu
              simp only [Ty.sz] at hle
              obtain ⟨x, qx, cx1, cx2⟩ := one
              obtain ⟨z, qz, cz1, cz2⟩ := ih (off + v.sz) (i + 1) b (fun j => by
                have := hfs (j + 1)
                rw [List.getElem?_cons_succ] at this
                rw [this]
                congr 1
                omega) hb hrest (by omega)
              refine ⟨(x, z), ⟨qx, qz⟩, ?_, fun j a hj => ?_⟩
              · rw [List.length_take, List.length_drop]
                simp only [Ty.sz]
                omega
              · simp only [view, List.getElem?_append] at hj
                have gd : ∀ (o s i : Nat), i < s → o + s ≤ cs.length → ((cs.drop o).take s).getD i undef = cs.getD (o + i) undef := fun o s i h1 h2 => by
                  rw [List.getD_eq_getElem?_getD, List.getD_eq_getElem?_getD, List.getElem?_take_of_lt h1, List.getElem?_drop]
                rw [view_len] at hj
                split at hj
                · rename_i hlt
                  have := cx2 j a hj
                  rw [gd _ _ _ hlt (by omega)] at this
                  rw [gd _ _ _ (by simp only [Ty.sz]; omega) (by simp only [Ty.sz]; omega)]
                  exact this
                · rename_i hlt
                  have hjb : j - v.sz < b.sz := by rw [← view_len b z]; exact (List.getElem?_eq_some_iff.1 hj).1
                  have := cz2 (j - v.sz) a hj
                  rw [gd _ _ _ hjb (by omega), show off + v.sz + (j - v.sz) = off + j by omega] at this
                  rw [gd _ _ _ (by simp only [Ty.sz]; omega) (by simp only [Ty.sz]; omega)]
                  exact this
            · cases hu
      obtain ⟨x, q, cv⟩ := go fs.toList 0 0 u (fun j => by simp) ht hl (by rw [hcl, hsz]; omega)
      rw [List.drop_zero, List.take_of_length_le (by rw [hcl, hsz]; exact Nat.le_refl _)] at cv
      exact ⟨x, q, cv⟩
    · cases ht
/-- an argument: its value, and what is known of it -/
theorem trod_arg (hF : ∀ b, b < w.heap.size → c.F b) {n : Nat} {t : TypeId} {u : Ty} {agg : Bool} (ht : tyOf P n t = some u) (hl : layB P n t = true) (ha : aggT P t = some agg) {v : Value} (hv : agg = true → ∃ vs, v = .agg vs) (hn : agg = false → u.sz = 1 ∧ ∃ x, v.cells = #[x] ∧ v = x) {m : Nat} {y : DataW H × List MemPlace} (h : DataW.trod enc P w base spare held m t v.cells.toList = some y) :
    ∃ x : u.D, Qd u x ∧ V c w (mkP agg u x) v := by
  obtain ⟨x, q, hc, hV⟩ := trod_V hF n t u ht hl m _ y h
  refine ⟨x, q, ?_⟩
  have gd : ∀ j, v.cells.toList.getD j undef = v.cells.getD j undef := fun j => by simp [Array.getD_eq_getD_getElem?, List.getD_eq_getElem?_getD]
  cases agg with
  | true =>
    obtain ⟨vs, rfl⟩ := hv rfl
    have hc : vs.size = u.sz := by simpa [Value.cells] using hc
    refine .agg (view u x) vs (by rw [hc, view_len]) (fun j hj => ?_) fun j a hj => ?_
    · have := hV j _ (List.getElem?_eq_getElem hj)
      rw [gd] at this
      exact this.2
    · have := hV j a hj
      rw [gd] at this
      exact this.1
  | false =>
    obtain ⟨hs, z, hz, rfl⟩ := hn rfl
    simp only [mkP]
    split
    · rename_i a hva
      have := (hV 0 a (by rw [hva]; rfl)).1
      rw [gd, hz] at this
      exact this
    · exact .bad _
end
/-- what a law's function answers, in a world -/
theorem calls_of {P : Program} {f : FuncId} {as : List AV} {r : Ret} {vs : Array Value} {w : World} (hA : ACalls P f as [] r) (hs : vs.size = as.length) (hv : ∀ j a, as[j]? = some a → V ⟨fun _ => none, fun b => b < w.heap.size⟩ w a (vs.getD j undef)) (hr : ∃ x, r.1 = .b x) :
    Calls P f vs w fun e w' => e = .returned (match r.1 with | .b x => .bool x | _ => undef) ∧ Below w.heap.size w w' := by
  obtain ⟨x, hx⟩ := hr
  refine (hA ⟨fun _ => none, fun b => b < w.heap.size⟩ w vs hs hv ⟨rfl, rfl, rfl, Nat.le_refl _, fun _ _ _ => rfl, fun o x h => (by simp [obL] at h), fun o i h => (by cases h), fun o o' x x' i i' b h => (by simp [obL] at h), fun b h => h, fun o x i b h => (by simp [obL] at h), fun b h => h, fun b h => .inl h⟩).mono fun e w' ⟨v, c', he, hv', hm, _⟩ => ?_
  rw [hx] at hv' ⊢
  cases hv'
  refine ⟨he, hm.os, hm.tape, hm.output, hm.size, fun k hk => hm.frame k hk fun ⟨o, y, i, h1, _⟩ => (by simp [obL] at h1)⟩
theorem vals_nil {c : Cx} {w : World} : ∀ (j : Nat) (b : AV), ([] : List AV)[j]? = some b → V c w b (([] : List Value).getD j undef) := fun j b h => by simp at h
theorem vals_cons {c : Cx} {w : World} {a : AV} {as : List AV} {v : Value} {vs : List Value} (h : V c w a v) (hr : ∀ (j : Nat) (b : AV), as[j]? = some b → V c w b (vs.getD j undef)) : ∀ (j : Nat) (b : AV), (a :: as)[j]? = some b → V c w b ((v :: vs).getD j undef) := fun j b hj => by
  cases j with
  | zero => simp at hj; subst hj; exact h
  | succ j => exact hr j b (by simpa using hj)
theorem calls_ofL {P : Program} {f : FuncId} {as : List AV} {r : Ret} {vs : List Value} {w : World} {x : Bool} (hA : ACalls P f as [] r) (hx : r.1 = .b x) (hs : vs.length = as.length) (hv : ∀ (j : Nat) (a : AV), as[j]? = some a → V ⟨fun _ => none, fun b => b < w.heap.size⟩ w a (vs.getD j undef)) :
    Calls P f vs.toArray w fun e w' => e = .returned (.bool x) ∧ Below w.heap.size w w' := by
  refine (calls_of hA (by simpa using hs) (fun j a ha => ?_) ⟨x, hx⟩).mono fun e w' h => ?_
  · have := hv j a ha
    rwa [show vs.toArray.getD j undef = vs.getD j undef by simp [Array.getD_eq_getD_getElem?, List.getD_eq_getElem?_getD]]
  · rw [hx] at h
    exact h
end Go.Proofs.YtafjengmkiepbaaGreat.Am
end
section
/- From some number of rounds on: what a function answers. -/
namespace Go.Proofs.YtafjengmkiepbaaGreat.Am
open Go
set_option linter.unusedVariables false
set_option linter.unusedSimpArgs false

def Ev {α : Type} (f : Nat → Option α) (a : α) : Prop := ∃ n, ∀ k, n ≤ k → f k = some a
section
variable {α β : Type} {f g : Nat → Option α} {a : α}
theorem br_t {x : Bool} {p q : Option α} (h : x = true) : br x p q = p := by rw [h]; rfl
theorem br_f {x : Bool} {p q : Option α} (h : x = false) : br x p q = q := by rw [h]; rfl
theorem bd_some {x : Option α} {f : α → Option β} {a : α} (h : x = some a) : bd x f = f a := by rw [h]; rfl
theorem gt_some {xs : List α} {j : Nat} {f : α → Option β} {a : α} (h : xs[j]? = some a) : gt xs j f = f a := by unfold gt; rw [h]
theorem both_self {x : Option α} : both x x = x := by
  unfold both
  split <;> rename_i h _
  · rfl
  · exact absurd rfl h
theorem both_eq {x y : Option α} {a : α} (h : x = some a) (k : y = some a) : both x y = some a := by rw [h, k]; exact both_self
theorem Ev.step (h : ∀ k, f (k + 1) = g k) (e : Ev g a) : Ev f a := by
  obtain ⟨n, e⟩ := e
  refine ⟨n + 1, fun k hk => ?_⟩
  obtain ⟨m, rfl⟩ : ∃ m, k = m + 1 := ⟨k - 1, by omega⟩
  rw [h m]
  exact e m (by omega)
theorem Ev.now (a : α) : Ev (fun _ => some a) a := ⟨0, fun _ _ => rfl⟩
theorem Ev.ret {a b : α} (h : a = b) : Ev (fun _ => some a) b := h ▸ Ev.now a
theorem Ev.eq {b : α} (e : Ev f a) (h : a = b) : Ev f b := h ▸ e
theorem Ev.pos {x : Bool} (h : x = true) (e : Ev f a) : Ev (fun k => br x (f k) (g k)) a := by
  obtain ⟨n, e⟩ := e
  exact ⟨n, fun k hk => (br_t h).trans (e k hk)⟩
theorem Ev.neg {x : Bool} (h : x = false) (e : Ev g a) : Ev (fun k => br x (f k) (g k)) a := by
  obtain ⟨n, e⟩ := e
  exact ⟨n, fun k hk => (br_f h).trans (e k hk)⟩
theorem Ev.bind {f : Nat → Option β} {g : Nat → β → Option α} {b : β} (e : Ev f b) (h : Ev (fun k => g k b) a) : Ev (fun k => bd (f k) (g k)) a := by
  obtain ⟨n, e⟩ := e
  obtain ⟨m, h⟩ := h
  exact ⟨n + m, fun k hk => (bd_some (e k (by omega))).trans (h k (by omega))⟩
/-- a callee without rounds -/
theorem Ev.here {x : Option β} {g : Nat → β → Option α} {b : β} (e : x = some b) (h : Ev (fun k => g k b) a) : Ev (fun k => bd x (g k)) a := by
  obtain ⟨m, h⟩ := h
  exact ⟨m, fun k hk => (bd_some e).trans (h k hk)⟩
theorem Ev.at {xs : List β} {j : Nat} {g : Nat → β → Option α} {b : β} (e : xs[j]? = some b) (h : Ev (fun k => g k b) a) : Ev (fun k => gt xs j (g k)) a := by
  obtain ⟨m, h⟩ := h
  exact ⟨m, fun k hk => (gt_some e).trans (h k hk)⟩
/-- a place of a list, at a number that counts -/
theorem Ev.get {xs : List β} {i : Nat} {g : Nat → β → Option α} (hi : i < xs.length) (h : Ev (fun k => g k xs[i]) a) : Ev (fun k => gt xs (Int.toNat (i : Int)) (g k)) a :=
  Ev.at (by rw [Int.toNat_natCast]; exact List.getElem?_eq_getElem hi) h
theorem Ev.both (e : Ev f a) (h : Ev g a) : Ev (fun k => Am.both (f k) (g k)) a := by
  obtain ⟨n, e⟩ := e
  obtain ⟨m, h⟩ := h
  exact ⟨n + m, fun k hk => both_eq (e k (by omega)) (h k (by omega))⟩
theorem Ev.loop (n : Nat) (g : Nat → Nat → Option β) (R : Nat → β) (hend : Ev (fun k => g k n) (R n)) (hstep : ∀ i, i < n → Ev (fun k => g k (i + 1)) (R (i + 1)) → Ev (fun k => g k i) (R i)) : ∀ i, i ≤ n → Ev (fun k => g k i) (R i) := by
  intro i hi
  obtain ⟨d, hd⟩ : ∃ d, n = i + d := ⟨n - i, by omega⟩
  induction d generalizing i with
  | zero => obtain rfl : i = n := by omega
            exact hend
  | succ d ih => exact hstep i (by omega) (ih (i + 1) (by omega) (by omega))
theorem Ev.some (e : Ev f a) : ∃ k, f k = Option.some a := by
  obtain ⟨n, e⟩ := e
  exact ⟨n, e n (Nat.le_refl _)⟩
end
theorem wrap_ok {x : Int} (h0 : -9223372036854775808 ≤ x) (h1 : x ≤ 9223372036854775807) : IntKind.wrap .i64 x = x := by
  rw [IntKind.wrap_i64]
  omega
/-- a counter's next value, as the loops write it -/
theorem next_ok (i n : Nat) (h : i < n) (hn : n ≤ 9223372036854775000) : IntKind.wrap .i64 ((i : Int) + 1) = ((i + 1 : Nat) : Int) := by
  rw [wrap_ok (by omega) (by omega)]; rfl
theorem set_step {α : Type} (xs : List α) (z : α) (i : Nat) (h : i < xs.length) : (xs.take i ++ List.replicate (xs.length - i) z).set i xs[i] = xs.take (i + 1) ++ List.replicate (xs.length - (i + 1)) z := by
  obtain ⟨d, hd⟩ : ∃ d, xs.length - i = d + 1 := ⟨xs.length - i - 1, by omega⟩
  rw [hd, List.replicate_succ, List.set_append_right i _ (by rw [List.length_take]; omega), List.take_succ_eq_append_getElem h, List.append_assoc]
  rw [show i - (xs.take i).length = 0 from by rw [List.length_take]; omega, List.set_cons_zero, show xs.length - (i + 1) = d from by omega]
  rfl
theorem seq_iff {x y : ByteArray} : seq x y = true ↔ x = y := by
  unfold seq
  rw [beq_iff_eq]
  constructor
  · intro h
    cases x with | mk a => cases y with | mk b =>
      have : a.toList = b.toList := by simpa [ByteArray.toList_eq] using h
      rw [Array.toList_inj.1 this]
  · intro h; rw [h]
end Go.Proofs.YtafjengmkiepbaaGreat.Am
end
section
/- From some number of rounds and some depth on: what a function that calls itself answers. -/
namespace Go.Proofs.YtafjengmkiepbaaGreat.Am
open Go
set_option linter.unusedVariables false
set_option linter.unusedSimpArgs false

def Ew {α : Type} (f : Nat → Nat → Option α) (a : α) : Prop := ∃ n, ∀ d k, n ≤ d → n ≤ k → f d k = some a
section
variable {α β : Type} {f g : Nat → Nat → Option α} {a : α}
theorem Ew.ev (e : Ew f a) : Ev (fun k => f k k) a := by
  obtain ⟨n, e⟩ := e
  exact ⟨n, fun k hk => e k k hk hk⟩
theorem Ev.ew {f : Nat → Option α} (e : Ev f a) : Ew (fun _ k => f k) a := by
  obtain ⟨n, e⟩ := e
  exact ⟨n, fun d k _ hk => e k hk⟩
/-- a call of itself -/
theorem Ew.deep (h : ∀ d k, f (d + 1) (k + 1) = g d k) (e : Ew g a) : Ew f a := by
  obtain ⟨n, e⟩ := e
  refine ⟨n + 1, fun d k hd hk => ?_⟩
  obtain ⟨m, rfl⟩ : ∃ m, k = m + 1 := ⟨k - 1, by omega⟩
  obtain ⟨c, rfl⟩ : ∃ c, d = c + 1 := ⟨d - 1, by omega⟩
  rw [h c m]
  exact e c m (by omega) (by omega)
/-- a round -/
theorem Ew.step (h : ∀ d k, f d (k + 1) = g d k) (e : Ew g a) : Ew f a := by
  obtain ⟨n, e⟩ := e
  refine ⟨n + 1, fun d k hd hk => ?_⟩
  obtain ⟨m, rfl⟩ : ∃ m, k = m + 1 := ⟨k - 1, by omega⟩
  rw [h d m]
  exact e d m (by omega) (by omega)
theorem Ew.now (a : α) : Ew (fun _ _ => some a) a := ⟨0, fun _ _ _ _ => rfl⟩
theorem Ew.ret {a b : α} (h : a = b) : Ew (fun _ _ => some a) b := h ▸ Ew.now a
theorem Ew.eq {b : α} (e : Ew f a) (h : a = b) : Ew f b := h ▸ e
theorem Ew.pos {x : Bool} (h : x = true) (e : Ew f a) : Ew (fun d k => br x (f d k) (g d k)) a := by
  obtain ⟨n, e⟩ := e
  exact ⟨n, fun d k hd hk => (br_t h).trans (e d k hd hk)⟩
theorem Ew.neg {x : Bool} (h : x = false) (e : Ew g a) : Ew (fun d k => br x (f d k) (g d k)) a := by
  obtain ⟨n, e⟩ := e
  exact ⟨n, fun d k hd hk => (br_f h).trans (e d k hd hk)⟩
theorem Ew.bind {f : Nat → Nat → Option β} {g : Nat → Nat → β → Option α} {b : β} (e : Ew f b) (h : Ew (fun d k => g d k b) a) : Ew (fun d k => bd (f d k) (g d k)) a := by
  obtain ⟨n, e⟩ := e
  obtain ⟨m, h⟩ := h
  exact ⟨n + m, fun d k hd hk => (bd_some (e d k (by omega) (by omega))).trans (h d k (by omega) (by omega))⟩
theorem Ew.here {x : Option β} {g : Nat → Nat → β → Option α} {b : β} (e : x = some b) (h : Ew (fun d k => g d k b) a) : Ew (fun d k => bd x (g d k)) a := by
  obtain ⟨m, h⟩ := h
  exact ⟨m, fun d k hd hk => (bd_some e).trans (h d k hd hk)⟩
theorem Ew.at {xs : List β} {j : Nat} {g : Nat → Nat → β → Option α} {b : β} (e : xs[j]? = some b) (h : Ew (fun d k => g d k b) a) : Ew (fun d k => gt xs j (g d k)) a := by
  obtain ⟨m, h⟩ := h
  exact ⟨m, fun d k hd hk => (gt_some e).trans (h d k hd hk)⟩
theorem Ew.get {xs : List β} {i : Nat} {g : Nat → Nat → β → Option α} (hi : i < xs.length) (h : Ew (fun d k => g d k xs[i]) a) : Ew (fun d k => gt xs (Int.toNat (i : Int)) (g d k)) a :=
  Ew.at (by rw [Int.toNat_natCast]; exact List.getElem?_eq_getElem hi) h
end
end Go.Proofs.YtafjengmkiepbaaGreat.Am
end
section
/- What a function answers from some number of rounds on, as a value; the machine's words as words of Option. -/
namespace Go.Proofs.YtafjengmkiepbaaGreat.Am
open Go
set_option linter.unusedVariables false
set_option linter.unusedSimpArgs false

section
variable {α β : Type}
theorem Ew.uniq {f : Nat → Nat → Option α} {a b : α} (h : Ew f a) (g : Ew f b) : a = b := by
  obtain ⟨n, h⟩ := h
  obtain ⟨m, g⟩ := g
  exact Option.some.inj ((h (n + m) (n + m) (by omega) (by omega)).symm.trans (g (n + m) (n + m) (by omega) (by omega)))
open Classical in
noncomputable def lim (f : Nat → Nat → Option α) : Option α := if h : ∃ a, Ew f a then some h.choose else none
theorem lim_eq {f : Nat → Nat → Option α} {a : α} (h : Ew f a) : lim f = some a := by
  have e : ∃ a, Ew f a := ⟨a, h⟩
  unfold lim
  rw [dif_pos e, Ew.uniq e.choose_spec h]
theorem lim_ew {f : Nat → Nat → Option α} {a : α} (h : lim f = some a) : Ew f a := by
  unfold lim at h
  split at h
  · rename_i e
    rw [← Option.some.inj h]; exact e.choose_spec
  · cases h
theorem lim_ev {f : Nat → Option α} {a : α} (h : lim (fun _ k => f k) = some a) : Ev f a := (lim_ew h).ev
theorem ev_lim {f : Nat → Option α} {a : α} (h : Ev f a) : lim (fun _ k => f k) = some a := lim_eq h.ew
/-- if the value on the right is there, f comes to it -/
def Lw (f : Nat → Nat → Option α) (x : Option α) : Prop := ∀ a, x = some a → Ew f a
theorem Lw.now (x : Option α) : Lw (fun _ _ => x) x := fun a h => ⟨0, fun _ _ _ _ => h⟩
theorem Lw.br {c : Bool} {f g : Nat → Nat → Option α} {x y : Option α} (hf : Lw f x) (hg : Lw g y) : Lw (fun d k => br c (f d k) (g d k)) (br c x y) := by
  cases c
  · exact hg
  · exact hf
theorem Lw.bd {f : Nat → Nat → Option β} {g : Nat → Nat → β → Option α} {x : Option β} {y : β → Option α} (hf : Lw f x) (hg : ∀ b, Lw (fun d k => g d k b) (y b)) : Lw (fun d k => bd (f d k) (g d k)) (bd x y) := by
  intro a h
  cases x with
  | none => cases h
  | some b => exact Ew.bind (hf b rfl) (hg b a h)
theorem Lw.gt {xs : List β} {j : Nat} {g : Nat → Nat → β → Option α} {y : β → Option α} (hg : ∀ b, Lw (fun d k => g d k b) (y b)) : Lw (fun d k => gt xs j (g d k)) (gt xs j y) := by
  intro a h
  unfold Am.gt at h
  split at h
  · rename_i b e; exact Ew.at e (hg b a h)
  · cases h
theorem Lw.both {f g : Nat → Nat → Option α} {x y : Option α} (hf : Lw f x) (hg : Lw g y) : Lw (fun d k => both (f d k) (g d k)) (both x y) := by
  intro a h
  unfold Am.both at h
  split at h
  · rename_i e _
    obtain ⟨n, p⟩ := hf a h
    obtain ⟨m, q⟩ := hg a (e ▸ h)
    exact ⟨n + m, fun d k hd hk => both_eq (p d k (by omega) (by omega)) (q d k (by omega) (by omega))⟩
  · cases h
theorem Lw.lim (f : Nat → Nat → Option α) : Lw f (lim f) := fun a h => lim_ew h
theorem Lw.diag {F : Nat → Nat → Option α} {f : Nat → Option α} (h : ∀ k, f k = F k k) : Lw (fun _ k => f k) (Am.lim F) := fun a e => by
  obtain ⟨n, p⟩ := lim_ew e
  exact ⟨n, fun _ k _ hk => (h k).trans (p k k hk hk)⟩
/-- a call -/
theorem vstep {f g : Nat → Nat → Option α} {x : Option α} {a : α} (h : ∀ d k, f d (k + 1) = g d k) (e : x = some a) (le : Lw g x := by
  repeat' first
    | with_reducible exact Lw.now _
    | with_reducible apply Lw.br
    | with_reducible refine Lw.bd ?_ fun _ => ?_
    | with_reducible refine Lw.gt fun _ => ?_
    | with_reducible apply Lw.both
    | exact Lw.lim _
    | exact Lw.diag fun _ => rfl) : Am.lim f = some a := lim_eq (Ew.step h (le a e))
theorem vdeep {f g : Nat → Nat → Option α} {x : Option α} {a : α} (h : ∀ d k, f (d + 1) (k + 1) = g d k) (e : x = some a) (le : Lw g x := by
  repeat' first
    | with_reducible exact Lw.now _
    | with_reducible apply Lw.br
    | with_reducible refine Lw.bd ?_ fun _ => ?_
    | with_reducible refine Lw.gt fun _ => ?_
    | with_reducible apply Lw.both
    | exact Lw.lim _
    | exact Lw.diag fun _ => rfl) : Am.lim f = some a := lim_eq (Ew.deep h (le a e))
theorem Lw.bq {f : Nat → Nat → Option β} {g : β → Nat → Nat → Option α} {x : Option β} {y : β → Option α} (hf : Lw f x) (hg : ∀ b, Lw (g b) (y b)) : Lw (fun d k => Am.bd (f d k) fun b => g b d k) (Am.bd x y) := Lw.bd hf hg
theorem Lw.gq {xs : List β} {j : Nat} {g : β → Nat → Nat → Option α} {y : β → Option α} (hg : ∀ b, Lw (g b) (y b)) : Lw (fun d k => Am.gt xs j fun b => g b d k) (Am.gt xs j y) := Lw.gt hg
theorem Lw.dia (F : Nat → Nat → Option α) : Lw (fun _ k => F k k) (Am.lim F) := Lw.diag fun _ => rfl
/-- a call, what it comes to without a name -/
theorem vq {f g : Nat → Nat → Option α} {x : Option α} {a : α} (e : x = some a) (le : Lw g x := by
  repeat' first
    | with_reducible intro _
    | with_reducible apply Lw.br
    | with_reducible apply Lw.bq
    | with_reducible apply Lw.gq
    | with_reducible apply Lw.both
    | with_reducible exact Lw.dia _
    | with_reducible exact Lw.now _) (h : ∀ d k, f d (k + 1) = g d k := by intro _ _; kernel_rfl) : Am.lim f = some a := lim_eq (Ew.step h (le a e))
@[simp] theorem br_if (c : Bool) (x y : Option α) : br c x y = if c = true then x else y := by cases c <;> rfl
@[simp] theorem bd_s (a : β) (f : β → Option α) : bd (some a) f = f a := rfl
@[simp] theorem bd_n (f : β → Option α) : bd none f = none := rfl
theorem gt_at {xs : List β} {j : Nat} (f : β → Option α) (h : j < xs.length) : gt xs j f = f xs[j] := gt_some (List.getElem?_eq_getElem h)
@[simp] theorem gt_zero (x : β) (xs : List β) (f : β → Option α) : gt (x :: xs) 0 f = f x := rfl
@[simp] theorem gt_one (x y : β) (xs : List β) (f : β → Option α) : gt (x :: y :: xs) 1 f = f y := rfl
@[simp] theorem both_same (x : Option α) : both x x = x := both_self
theorem bd_ite (c : Prop) [Decidable c] (x y : Option β) (f : β → Option α) : bd (if c then x else y) f = if c then bd x f else bd y f := by split <;> rfl
/-- rounds over the places of a row: L i s answers what P tells of the rest of the row -/
theorem rounds {σ : Type} {xs : List β} (L : Nat → σ → Option α) (P : List β → σ → α) (Inv : Nat → σ → Prop)
    (hend : ∀ s, Inv xs.length s → L xs.length s = some (P [] s))
    (hstep : ∀ i (h : i < xs.length) s, Inv i s → (∀ s', Inv (i + 1) s' → L (i + 1) s' = some (P (xs.drop (i + 1)) s')) → L i s = some (P (xs[i] :: xs.drop (i + 1)) s)) :
    ∀ i, i ≤ xs.length → ∀ s, Inv i s → L i s = some (P (xs.drop i) s) := by
  intro i hi
  obtain ⟨d, hd⟩ : ∃ d, xs.length = i + d := ⟨xs.length - i, by omega⟩
  induction d generalizing i with
  | zero =>
    intro s hs
    obtain rfl : i = xs.length := by omega
    rw [List.drop_length]; exact hend s hs
  | succ d ih =>
    intro s hs
    have hlt : i < xs.length := by omega
    rw [List.drop_eq_getElem_cons hlt]
    exact hstep i hlt s hs fun s' hs' => ih (i + 1) (by omega) (by omega) s' hs'
/-- rounds that count -/
theorem counts {σ : Type} {n : Nat} (L : Nat → σ → Option α) (P : Nat → σ → α) (Inv : Nat → σ → Prop)
    (hend : ∀ s, Inv n s → L n s = some (P n s))
    (hstep : ∀ i, i < n → ∀ s, Inv i s → (∀ s', Inv (i + 1) s' → L (i + 1) s' = some (P (i + 1) s')) → L i s = some (P i s)) :
    ∀ i, i ≤ n → ∀ s, Inv i s → L i s = some (P i s) := by
  intro i hi
  obtain ⟨d, hd⟩ : ∃ d, n = i + d := ⟨n - i, by omega⟩
  induction d generalizing i with
  | zero =>
    intro s hs
    obtain rfl : i = n := by omega
    exact hend s hs
  | succ d ih =>
    intro s hs
    exact hstep i (by omega) s hs fun s' hs' => ih (i + 1) (by omega) (by omega) s' hs'
end
theorem wrap_next (i n : Nat) (h : i < n) (hn : n ≤ 9223372036854775000) : IntKind.wrap .i64 ((i : Int) + 1) = ((i + 1 : Nat) : Int) := next_ok i n h hn
end Go.Proofs.YtafjengmkiepbaaGreat.Am
end
