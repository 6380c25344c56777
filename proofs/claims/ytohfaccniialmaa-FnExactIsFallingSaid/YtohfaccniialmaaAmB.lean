/- Functions' texts over the machine of values: their tables. -/
import Derived.Test.YtohfaccniialmaaAmF
namespace Go.Proofs.Ytohfaccniialmaa.Am
open Go
set_option linter.constructorNameAsVariable false
set_option linter.unusedVariables false
set_option linter.unusedSimpArgs false

theorem dV_ok : ∀ (t : Ty) (cs : List AV) (x : t.D) (r : List AV), dV t cs = some (x, r) → cs = view t x ++ r
  | .i k, cs, x, r, h => by
    cases cs with
    | nil => simp [dV] at h
    | cons a q =>
      cases a <;> simp [dV] at h
      obtain ⟨rfl, rfl, rfl⟩ := h
      rfl
  | .b, cs, x, r, h => by
    cases cs with
    | nil => simp [dV] at h
    | cons a q =>
      cases a <;> simp [dV] at h
      obtain ⟨rfl, rfl⟩ := h
      rfl
  | .s, cs, x, r, h => by
    cases cs with
    | nil => simp [dV] at h
    | cons a q =>
      cases a <;> simp [dV] at h
      obtain ⟨rfl, rfl⟩ := h
      rfl
  | .u, cs, x, r, h => by
    simp [dV] at h
    subst h
    rfl
  | .pr a b, cs, x, r, h => by
    simp only [dV] at h
    split at h
    · rename_i y q h1
      split at h
      · rename_i z p h2
        simp only [Option.some.injEq, Prod.mk.injEq] at h
        obtain ⟨rfl, rfl⟩ := h
        rw [dV_ok a _ _ _ h1, dV_ok b _ _ _ h2]
        simp [view]
      · cases h
    · cases h
  | .sl t, cs, x, r, h => by
    cases cs with
    | nil => simp [dV] at h
    | cons a q =>
      cases a <;> simp only [dV, reduceCtorEq] at h
      split at h
      · rename_i e
        subst e
        simp only [Option.some.injEq, Prod.mk.injEq] at h
        obtain ⟨rfl, rfl⟩ := h
        rfl
      · cases h
theorem cV_ok (agg : Bool) (t : Ty) : (cV agg t).Ok := fun i as os x as' os' h => by
  cases agg with
  | true =>
    simp only [cV] at h ⊢
    split at h
    · split at h
      · rename_i h1
        simp only [Option.some.injEq, Prod.mk.injEq] at h
        obtain ⟨rfl, rfl, rfl⟩ := h
        rw [dV_ok _ _ _ _ h1]
        simp
      · cases h
    · cases h
  | false =>
    simp only [cV] at h ⊢
    split at h
    · rename_i h1
      simp only [Option.some.injEq, Prod.mk.injEq] at h
      obtain ⟨rfl, rfl, rfl⟩ := h
      exact ⟨dV_ok _ _ _ _ h1, rfl⟩
    · cases h

/-- an argument that is read belongs to the same value -/
theorem unP_ok {agg : Bool} {t : Ty} {a : AV} {x : t.D} (h : unP agg t a = some x) {c : Cx} {w : World} {v : Value} (hv : V c w a v) : V c w (mkP agg t x) v := by
  cases agg with
  | true =>
    simp only [unP] at h
    split at h
    · rename_i cs
      obtain ⟨vs, rfl, q1, q2, q3⟩ := hv.inv_agg
      obtain ⟨hl, hu⟩ := unview_ok _ _ _ h
      exact .agg (view t x) vs (by rw [q1, hl, view_len]) (fun j hj => q2 j (by rw [hl, ← view_len t x]; exact hj)) fun j y hy => hu c w (fun j => vs.getD j undef) q3 j y hy
    · cases h
  | false =>
    simp only [unP] at h
    obtain ⟨hl, hu⟩ := unview_ok _ _ _ h
    simp only [mkP]
    split
    · rename_i b hb
      have := hu c w (fun _ => v) (fun j y hy => by
        cases j with
        | zero => simp at hy; subst hy; exact hv
        | succ j => simp at hy) 0 b (by rw [hb]; rfl)
      exact this
    · exact .bad _
def TabOk (P : Program) (f : FuncId) (g : List AV → List AO → Option Pack) : Prop := ∀ as os p t, g as os = some p → p.x = some t → okFn P f ∧ ACalls P f as os (p.enc t)
theorem ACalls.args {P : Program} {f : FuncId} {as as' : List AV} {os : List AO} {r : Ret} (hl : as'.length = as.length) (h : ∀ (j : Nat) (a a' : AV), as[j]? = some a → as'[j]? = some a' → ∀ (c : Cx) (w : World) (v : Value), V c w a v → V c w a' v) (hA : ACalls P f as' os r) : ACalls P f as os r :=
  fun c w vs hvs hva hm => hA c w vs (by rw [hvs, hl]) (fun j a' ha' => by
    have hj : j < as.length := by rw [← hl]; exact (List.getElem?_eq_some_iff.1 ha').1
    exact h j _ a' (List.getElem?_eq_getElem hj) ha' c w _ (hva j _ (List.getElem?_eq_getElem hj))) hm
def AllF {A : Type} : (l : List (Bool × Ty)) → Fun A l → (List AV → A → Prop) → Prop
  | [], F, Q => ∀ r, F = some r → Q [] r
  | p :: l, F, Q => ∀ x, AllF l (F x) fun as r => Q (mkP p.1 p.2 x :: as) r
theorem AllF.app {A : Type} : ∀ (l : List (Bool × Ty)) (F : Fun A l) (Q : List AV → A → Prop), AllF l F Q → ∀ (as : List AV) (r : A), appF l F as = some (some r) → ∃ as', as'.length = as.length ∧ (∀ (j : Nat) (a a' : AV), as[j]? = some a → as'[j]? = some a' → ∀ (c : Cx) (w : World) (v : Value), V c w a v → V c w a' v) ∧ Q as' r
  | [], F, Q, hF, as, r, h => by
    cases as with
    | nil =>
      exact ⟨[], rfl, fun j a a' ha => by simp at ha, hF r (Option.some.inj h)⟩
    | cons a as => simp [appF] at h
  | p :: l, F, Q, hF, as, r, h => by
    cases as with
    | nil => simp [appF] at h
    | cons a as =>
      simp only [appF] at h
      split at h
      · rename_i x hx
        obtain ⟨as', k1, k2, k3⟩ := AllF.app l (F x) _ (hF x) as r h
        refine ⟨_ :: as', by simp [k1], fun j b b' hb hb' c w v hv => ?_, k3⟩
        cases j with
        | zero =>
          simp at hb hb'
          subst hb hb'
          exact unP_ok hx hv
        | succ j => exact k2 j b b' (by simpa using hb) (by simpa using hb') c w v hv
      · cases h
theorem tabV_ok {P : Program} {f : FuncId} {A : Type} {l : List (Bool × Ty)} {cd : Cd A} {F : Fun A l} (hf : okFn P f) (h : AllF l F fun as r => ACalls P f as [] (enc0 cd r)) : TabOk P f (tabV l cd F) := fun as os p t hp ht => by
  unfold tabV at hp
  split at hp
  · split at hp
    · rename_i x hx
      have hp := Option.some.inj hp
      subst hp
      have ht : x = some t := ht
      rw [ht] at hx
      obtain ⟨as', k1, k2, k3⟩ := h.app l F _ as t hx
      exact ⟨hf, k3.args k1 k2⟩
    · cases hp
  · cases hp
theorem tabs_nil {P : Program} : TS P (tabs []) := fun f as os p t h => by simp [tabs] at h
theorem tabs_cons {P : Program} {f : FuncId} {g : List AV → List AO → Option Pack} {l : List (Nat × (List AV → List AO → Option Pack))} (hg : TabOk P f g) (hl : TS P (tabs l)) : TS P (tabs ((f, g) :: l)) := fun f' as os p t h => by
  simp only [tabs] at h
  cases hb : Nat.beq f f' with
  | true =>
    rw [hb] at h
    have := Nat.eq_of_beq_eq_true hb
    subst this
    exact hg as os p t h
  | false =>
    rw [hb] at h
    exact hl f' as os p t h
theorem fnB_ok {P : Program} {f : FuncId} {N : Nat} (h : fnB P f N = true) : ∃ fn code, P.funcs[f]? = some fn ∧ fn.body = some code ∧ N = fn.ntmps ∧ bodyOf P f = code ∧ resOf P f = fn.results.toList ∧ okFn P f := by
  unfold fnB at h
  split at h
  · rename_i fn hf
    simp only [Bool.and_eq_true, Bool.not_eq_true'] at h
    obtain ⟨h1, h2, h3⟩ := h
    obtain ⟨code, hc⟩ := Option.isSome_iff_exists.1 h1
    exact ⟨fn, code, hf, hc, Nat.eq_of_beq_eq_true h2, by unfold bodyOf; rw [hf]; simp only; rw [hc], by unfold resOf; rw [hf], fn, hf, h3, h1⟩
  · cases h
theorem fin0_ok {A : Type} {cd : Cd A} (hc : cd.Ok) {x : Option (List AV × List AO)} {a : A} (h : fin0 cd x = some a) : x = some (cd.enc 0 a) := by
  unfold fin0 at h
  split at h
  · split at h
    · rename_i h1
      simp only [Option.some.injEq] at h
      subst h
      obtain ⟨k1, k2⟩ := hc _ _ _ _ _ _ h1
      rw [List.append_nil] at k1 k2
      rw [k1, k2]
    · cases h
  · cases h
/-- a function to which nothing is handed over -/
theorem fn0 {E : En} (hmix : E.P.follows .mixedOrders = true) {T : Nat → Table} (hT : ∀ n, TS E.P (T n)) {f : FuncId} (hb : fnB E.P f E.N = true) {A : Type} {cd : Cd A} (hc : cd.Ok) {cvs : List Cv} {k : Nat} {as : List AV} {r : A}
    (h : go E T (fun st => fin0 cd (finA E.P (resOf E.P f) 0 cvs [] st)) k [.code (bodyOf E.P f)] (initA as []) = some r) : ACalls E.P f as [] (enc0 cd r) := by
  obtain ⟨fn, code, h1, h2, h3, h4, h5, h6⟩ := fnB_ok hb
  rw [h4, h5] at h
  exact fn_ok hmix hT h1 h2 h3 (er := fun r => cd.enc 0 r) (m := 0) (fun st r hr => fin0_ok hc hr) (Nat.le_refl _) (Nat.zero_le _) h

/-! ### functions to which objects are handed over -/
mutual
theorem eqA_ok : ∀ (a b : AV), eqA a b = true → a = b
  | .ptr a b, .ptr c d, h => by
    simp only [eqA, Bool.and_eq_true] at h
    rw [Nat.eq_of_beq_eq_true h.1, Nat.eq_of_beq_eq_true h.2]
  | .own a b, .own c d, h => by
    simp only [eqA, Bool.and_eq_true] at h
    rw [Nat.eq_of_beq_eq_true h.1, Nat.eq_of_beq_eq_true h.2]
  | .nils, .nils, _ => rfl
  | .nilp, .nilp, _ => rfl
  | .fn f cs, .fn g ds, h => by
    simp only [eqA, Bool.and_eq_true] at h
    rw [Nat.eq_of_beq_eq_true h.1, eqL_ok cs ds h.2]
  | .bad, b, h => by simp [eqA] at h
  | .und, b, h => by simp [eqA] at h
  | .i _ _, b, h => by simp [eqA] at h
  | .b _, b, h => by simp [eqA] at h
  | .s _, b, h => by simp [eqA] at h
  | .nilf, b, h => by simp [eqA] at h
  | .nili, b, h => by simp [eqA] at h
  | .eptr _ _ _ _, b, h => by simp [eqA] at h
  | .rp _, b, h => by simp [eqA] at h
  | .sub _ _ _ _, b, h => by simp [eqA] at h
  | .lst _ _, b, h => by simp [eqA] at h
  | .agg _, b, h => by simp [eqA] at h
  | .tup _, b, h => by simp [eqA] at h
theorem eqL_ok : ∀ (l m : List AV), eqA.eqL l m = true → l = m
  | [], [], _ => rfl
  | [], _ :: _, h => by simp [eqA.eqL] at h
  | _ :: _, [], h => by simp [eqA.eqL] at h
  | a :: r, b :: q, h => by
    simp only [eqA.eqL, Bool.and_eq_true] at h
    rw [eqA_ok a b h.1, eqL_ok r q h.2]
end
def AllD {X : Type} : (l : List Ac) → FunC X l → (List AV → X → Prop) → Prop
  | [], F, Q => Q [] F
  | .v t :: r, F, Q => ∀ x, AllD r (F x) fun as X => Q (view t x ++ as) X
  | .o b :: r, F, Q => AllD r F fun as X => Q (b :: as) X
def AllA {X : Type} : (l : List Ar) → FunA X l → (List AV → X → Prop) → Prop
  | .a cs :: r, F, Q => AllD cs F fun ds G => AllA r G fun as X => Q (.agg ds :: as) X
  | [], F, Q => Q [] F
  | .v g t :: r, F, Q => ∀ x, AllA r (F x) fun as X => Q (mkP g t x :: as) X
  | .o b :: r, F, Q => AllA r F fun as X => Q (b :: as) X
def AllC {X : Type} : (l : List Ar) → FunA X l → (List AV → X → Prop) → Prop
  | .a _ :: _, _, _ => True
  | [], F, Q => Q [] F
  | .v _ t :: r, F, Q => ∀ x, AllC r (F x) fun as X => Q (view t x ++ as) X
  | .o b :: r, F, Q => AllC r F fun as X => Q (b :: as) X
def AllO {A : Type} : (l : List Ob) → FunO A l → (List AO → A → Prop) → Prop
  | [], F, Q => ∀ r, F = some r → Q [] r
  | .row v t :: l, F, Q => ∀ xs, AllO l (F xs) fun os r => Q (.row v t xs :: os) r
  | .box cs :: l, F, Q => AllC cs F fun ds G => AllO l G fun os r => Q (.box ds :: os) r
theorem AllD.app {X : Type} : ∀ (l : List Ac) (F : FunC X l) (Q : List AV → X → Prop), AllD l F Q → ∀ (as : List AV) (r : X), appD l F as = some r → Q as r
  | [], F, Q, hF, as, r, h => by
    cases as with
    | nil =>
      have h := Option.some.inj h
      subst h
      exact hF
    | cons a as => simp [appD] at h
  | .v t :: l, F, Q, hF, as, r, h => by
    simp only [appD] at h
    split at h
    · rename_i x cs' hx
      rw [dV_ok _ _ _ _ hx]
      exact AllD.app l (F x) _ (hF x) cs' r h
    · cases h
  | .o q :: l, F, Q, hF, as, r, h => by
    cases as with
    | nil => simp [appD] at h
    | cons a as =>
      simp only [appD] at h
      split at h
      · rename_i hx
        have hx := eqA_ok _ _ hx
        subst hx
        exact AllD.app l F _ hF as r h
      · cases h
theorem AllA.app {X : Type} : ∀ (l : List Ar) (F : FunA X l) (Q : List AV → X → Prop), AllA l F Q → ∀ (as : List AV) (r : X), appA l F as = some r → ∃ as', as'.length = as.length ∧ (∀ (j : Nat) (a a' : AV), as[j]? = some a → as'[j]? = some a' → ∀ (c : Cx) (w : World) (v : Value), V c w a v → V c w a' v) ∧ Q as' r
  | [], F, Q, hF, as, r, h => by
    cases as with
    | nil =>
      have h := Option.some.inj h
      subst h
      exact ⟨[], rfl, fun j a a' ha => by simp at ha, hF⟩
    | cons a as => simp [appA] at h
  | .v g t :: l, F, Q, hF, as, r, h => by
    cases as with
    | nil => simp [appA] at h
    | cons a as =>
      simp only [appA] at h
      split at h
      · rename_i x hx
        obtain ⟨as', k1, k2, k3⟩ := AllA.app l (F x) _ (hF x) as r h
        refine ⟨_ :: as', by simp [k1], fun j b b' hb hb' c w v hv => ?_, k3⟩
        cases j with
        | zero =>
          simp at hb hb'
          subst hb hb'
          exact unP_ok hx hv
        | succ j => exact k2 j b b' (by simpa using hb) (by simpa using hb') c w v hv
      · cases h
  | .o q :: l, F, Q, hF, as, r, h => by
    cases as with
    | nil => simp [appA] at h
    | cons a as =>
      simp only [appA] at h
      split at h
      · rename_i hx
        have hx := eqA_ok _ _ hx
        subst hx
        obtain ⟨as', k1, k2, k3⟩ := AllA.app l F _ hF as r h
        refine ⟨_ :: as', by simp [k1], fun j b b' hb hb' c w v hv => ?_, k3⟩
        cases j with
        | zero =>
          simp at hb hb'
          subst hb hb'
          exact hv
        | succ j => exact k2 j b b' (by simpa using hb) (by simpa using hb') c w v hv
      · cases h
  | .a q :: l, F, Q, hF, as, r, h => by
    cases as with
    | nil => simp [appA] at h
    | cons a as =>
      cases a with
      | agg ds =>
        simp only [appA] at h
        split at h
        · rename_i G hG
          obtain ⟨as', k1, k2, k3⟩ := AllA.app l G _ (AllD.app q F _ hF ds G hG) as r h
          refine ⟨_ :: as', by simp [k1], fun j b b' hb hb' c w v hv => ?_, k3⟩
          cases j with
          | zero =>
            simp at hb hb'
            subst hb hb'
            exact hv
          | succ j => exact k2 j b b' (by simpa using hb) (by simpa using hb') c w v hv
        · cases h
      | _ => simp [appA] at h
theorem AllC.app {X : Type} : ∀ (l : List Ar) (F : FunA X l) (Q : List AV → X → Prop), AllC l F Q → ∀ (as : List AV) (r : X), appC l F as = some r → Q as r
  | [], F, Q, hF, as, r, h => by
    cases as with
    | nil =>
      have h := Option.some.inj h
      subst h
      exact hF
    | cons a as => simp [appC] at h
  | .v g t :: l, F, Q, hF, as, r, h => by
    simp only [appC] at h
    split at h
    · rename_i x cs' hx
      rw [dV_ok _ _ _ _ hx]
      exact AllC.app l (F x) _ (hF x) cs' r h
    · cases h
  | .o q :: l, F, Q, hF, as, r, h => by
    cases as with
    | nil => simp [appC] at h
    | cons a as =>
      simp only [appC] at h
      split at h
      · rename_i hx
        have hx := eqA_ok _ _ hx
        subst hx
        exact AllC.app l F _ hF as r h
      · cases h
  | .a q :: l, F, Q, hF, as, r, h => by
    cases as <;> simp [appC] at h
theorem AllO.app {A : Type} : ∀ (l : List Ob) (F : FunO A l) (Q : List AO → A → Prop), AllO l F Q → ∀ (os : List AO) (r : A), appO l F os = some (some r) → Q os r
  | [], F, Q, hF, os, r, h => by
    cases os with
    | nil => exact hF r (Option.some.inj h)
    | cons a as => simp [appO] at h
  | .row v t :: l, F, Q, hF, os, r, h => by
    cases os with
    | nil => simp [appO] at h
    | cons a os =>
      cases a with
      | row v' t' xs =>
        simp only [appO] at h
        split at h
        · rename_i hv
          have := Nat.eq_of_beq_eq_true hv
          subst this
          split at h
          · rename_i ht
            subst ht
            exact AllO.app l (F xs) _ (hF xs) os r h
          · cases h
        · cases h
      | _ => simp [appO] at h
  | .box cs :: l, F, Q, hF, os, r, h => by
    cases os with
    | nil => simp [appO] at h
    | cons a os =>
      cases a with
      | box ds =>
        simp only [appO] at h
        split at h
        · rename_i G hG
          exact AllO.app l G _ (AllC.app cs F _ hF ds G hG) os r h
        · cases h
      | _ => simp [appO] at h
theorem tabI_ok {P : Program} {f : FuncId} {A : Type} {l : List Ar} {ls : List Ob} {enc : A → Ret} {F : FunA (FunO A ls) l} (hf : okFn P f) (h : AllA l F fun as G => AllO ls G fun os r => ACalls P f as os (enc r)) : TabOk P f (tabI l ls enc F) := fun as os p t hp ht => by
  unfold tabI at hp
  split at hp
  · rename_i G hG
    split at hp
    · rename_i x hx
      have hp := Option.some.inj hp
      subst hp
      have ht : x = some t := ht
      rw [ht] at hx
      obtain ⟨as', k1, k2, k3⟩ := AllA.app l F _ h as G hG
      exact ⟨hf, (AllO.app ls G _ k3 os t hx).args k1 k2⟩
    · cases hp
  · cases hp
theorem orT_ok {P : Program} {f : FuncId} {a b : List AV → List AO → Option Pack} (ha : TabOk P f a) (hb : TabOk P f b) : TabOk P f (orT a b) := fun as os p t hp ht => by
  unfold orT at hp
  split at hp
  · rename_i q hq
    have hp := Option.some.inj hp
    subst hp
    exact ha as os _ t hq ht
  · exact hb as os p t hp ht
/-- a function to which objects are handed over -/
theorem fnD {E : En} (hmix : E.P.follows .mixedOrders = true) {T : Nat → Table} (hT : ∀ n, TS E.P (T n)) {f : FuncId} (hb : fnB E.P f E.N = true) {A O : Type} {cd : Cd A} {od : Od O} (hc : cd.Ok) (ho : od.Ok) {m : Nat} {cvs : List Cv} {bump : List Nat} {k : Nat} {as : List AV} {os : List AO} {r : A × O} (hm1 : os.length ≤ m) (hm2 : m ≤ 1000)
    (h : go E T (fun st => finD cd od m (finA E.P (resOf E.P f) m cvs bump st)) k [.code (bodyOf E.P f)] (initA as os) = some r) : ACalls E.P f as os (encD cd od m r) := by
  obtain ⟨fn, code, h1, h2, h3, h4, h5, h6⟩ := fnB_ok hb
  rw [h4, h5] at h
  exact fn_ok hmix hT h1 h2 h3 (er := fun r => ((cd.enc m r.1).1, od.enc r.2 ++ (cd.enc m r.1).2)) (m := m) (fun st r hr => finD_ok hc ho hr) hm1 hm2 h
theorem okFn_of {P : Program} {f : FuncId} {N : Nat} (h : fnB P f N = true) : okFn P f := by
  obtain ⟨fn, code, h1, h2, h3, h4, h5, h6⟩ := fnB_ok h
  exact h6
end Go.Proofs.Ytohfaccniialmaa.Am
