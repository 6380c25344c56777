/- What a function returns: a function's contract out of its text. -/
import Derived.Test.YtohfaccniialmaaAmE
namespace Go.Proofs.Ytohfaccniialmaa.Am
open Go
set_option linter.constructorNameAsVariable false
set_option linter.unusedVariables false
set_option linter.unusedSimpArgs false
section
variable {P : Program} {B : Base} {c : Cx} {w : World} {N : Nat} {st st' : St} {a : Act} {T : Table} {M : FuncId → List Bool} {R : Type}

/-! ### results in Lean's kinds -/
def Cd.Ok {A : Type} (d : Cd A) : Prop := ∀ i as os x as' os', d.dec i as os = some (x, as', os') → as = (d.enc i x).1 ++ as' ∧ os = (d.enc i x).2 ++ os'
def Od.Ok {A : Type} (d : Od A) : Prop := ∀ os x os', d.dec os = some (x, os') → os = d.enc x ++ os'
theorem cB_ok : cB.Ok := fun i as os x as' os' h => by
  simp only [cB] at h ⊢
  split at h
  · simp only [Option.some.injEq, Prod.mk.injEq] at h; obtain ⟨rfl, rfl, rfl⟩ := h; exact ⟨rfl, rfl⟩
  · cases h
theorem cI_ok (k : IntKind) : (cI k).Ok := fun i as os x as' os' h => by
  simp only [cI] at h ⊢
  split at h
  · split at h
    · rename_i e; subst e
      simp only [Option.some.injEq, Prod.mk.injEq] at h; obtain ⟨rfl, rfl, rfl⟩ := h; exact ⟨rfl, rfl⟩
    · cases h
  · cases h
theorem cS_ok : cS.Ok := fun i as os x as' os' h => by
  simp only [cS] at h ⊢
  split at h
  · simp only [Option.some.injEq, Prod.mk.injEq] at h; obtain ⟨rfl, rfl, rfl⟩ := h; exact ⟨rfl, rfl⟩
  · cases h
theorem cU_ok : cU.Ok := fun i as os x as' os' h => by
  simp only [cU, Option.some.injEq, Prod.mk.injEq] at h ⊢
  obtain ⟨_, rfl, rfl⟩ := h
  exact ⟨rfl, rfl⟩
theorem cL_ok (t : Ty) : (cL t).Ok := fun i as os x as' os' h => by
  simp only [cL] at h ⊢
  split at h
  · split at h
    · rename_i e; subst e
      simp only [Option.some.injEq, Prod.mk.injEq] at h; obtain ⟨rfl, rfl, rfl⟩ := h; exact ⟨rfl, rfl⟩
    · cases h
  · cases h
theorem cR_ok (t : Ty) : (cR t).Ok := fun i as os x as' os' h => by
  simp only [cR] at h ⊢
  split at h
  · split at h
    · rename_i e1 e2 e3
      have e1 := beq_true e1
      have e2 := beq_true e2
      have e3 := beq_true e3
      subst e1 e2 e3
      split at h
      · rename_i e; subst e
        simp only [Option.some.injEq, Prod.mk.injEq] at h; obtain ⟨rfl, rfl, rfl⟩ := h; exact ⟨rfl, rfl⟩
      · cases h
    · cases h
  · cases h
theorem cO_ok (o v : Nat) : (cO o v).Ok := fun i as os x as' os' h => by
  simp only [cO] at h ⊢
  split at h
  · split at h
    · rename_i e1 e2
      have e1 := beq_true e1
      have e2 := beq_true e2
      subst e1 e2
      simp only [Option.some.injEq, Prod.mk.injEq] at h; obtain ⟨_, rfl, rfl⟩ := h; exact ⟨rfl, rfl⟩
    · cases h
  · cases h
theorem cP_ok {A C : Type} {a : Cd A} {b : Cd C} (ha : a.Ok) (hb : b.Ok) : (cP a b).Ok := fun i as os x as' os' h => by
  simp only [cP] at h ⊢
  split at h
  · rename_i x1 as1 os1 h1
    split at h
    · rename_i y1 as2 os2 h2
      simp only [Option.some.injEq, Prod.mk.injEq] at h
      obtain ⟨rfl, rfl, rfl⟩ := h
      obtain ⟨k1, k2⟩ := ha i as os x1 as1 os1 h1
      obtain ⟨m1, m2⟩ := hb _ as1 os1 y1 as2 os2 h2
      exact ⟨by rw [k1, m1, List.append_assoc], by rw [k2, m2, List.append_assoc]⟩
    · cases h
  · cases h
theorem cG_ok {A : Type} {a : Cd A} (ha : a.Ok) : (cG a).Ok := fun i as os x as' os' h => by
  simp only [cG] at h ⊢
  split at h
  · split at h
    · rename_i x1 os1 h1
      simp only [Option.some.injEq, Prod.mk.injEq] at h
      obtain ⟨rfl, rfl, rfl⟩ := h
      obtain ⟨k1, k2⟩ := ha _ _ _ _ _ _ h1
      rw [List.append_nil] at k1
      exact ⟨by rw [k1]; rfl, k2⟩
    · cases h
  · cases h
theorem oU_ok : oU.Ok := fun os x os' h => by
  simp only [oU, Option.some.injEq, Prod.mk.injEq] at h ⊢
  obtain ⟨_, rfl⟩ := h
  rfl
theorem oR_ok (v : Nat) (t : Ty) : (oR v t).Ok := fun os x os' h => by
  simp only [oR] at h ⊢
  split at h
  · split at h
    · rename_i e1
      have e1 := beq_true e1
      subst e1
      split at h
      · rename_i e; subst e
        simp only [Option.some.injEq, Prod.mk.injEq] at h; obtain ⟨rfl, rfl⟩ := h; rfl
      · cases h
    · cases h
  · cases h
theorem oD_ok : oD.Ok := fun os x os' h => by
  simp only [oD] at h ⊢
  split at h
  · simp only [Option.some.injEq, Prod.mk.injEq] at h; obtain ⟨_, rfl⟩ := h; rfl
  · cases h
theorem oB_ok {A : Type} {a : Cd A} (ha : a.Ok) : (oB a).Ok := fun os x os' h => by
  simp only [oB] at h ⊢
  split at h
  · split at h
    · rename_i x1 h1
      simp only [Option.some.injEq, Prod.mk.injEq] at h
      obtain ⟨rfl, rfl⟩ := h
      obtain ⟨k1, k2⟩ := ha _ _ _ _ _ _ h1
      rw [List.append_nil] at k1
      rw [k1]
      rfl
    · cases h
  · cases h
theorem oP_ok {A C : Type} {a : Od A} {b : Od C} (ha : a.Ok) (hb : b.Ok) : (oP a b).Ok := fun os x os' h => by
  simp only [oP] at h ⊢
  split at h
  · rename_i x1 os1 h1
    split at h
    · rename_i y1 os2 h2
      simp only [Option.some.injEq, Prod.mk.injEq] at h
      obtain ⟨rfl, rfl⟩ := h
      rw [ha _ _ _ h1, hb _ _ _ h2, List.append_assoc]
    · cases h
  · cases h
theorem finD_ok {A O : Type} {cd : Cd A} {od : Od O} (hc : cd.Ok) (ho : od.Ok) {m : Nat} {x : Option (List AV × List AO)} {r : A × O} (h : finD cd od m x = some r) : x = some ((cd.enc m r.1).1, od.enc r.2 ++ (cd.enc m r.1).2) := by
  unfold finD at h
  split at h
  · rename_i rs os
    split at h
    · rename_i o os1 h1
      split at h
      · rename_i a h2
        simp only [Option.some.injEq] at h
        subst h
        obtain ⟨k1, k2⟩ := hc _ _ _ _ _ _ h2
        have k3 := ho _ _ _ h1
        rw [List.append_nil] at k1 k2
        rw [k1, k3, k2]
      · cases h
    · cases h
  · cases h

/-! ### results in memory -/
def resV (ts : Array Value) : ResultVar → Sem Value
  | .tmp t => pure (ts.getD t undef)
  | .cell p t => do loadVar t (← asAddr (ts.getD p undef))
theorem results_eq (fn : Func) (ts : Array Value) : results fn ts = (do let vs ← fn.results.mapM (resV ts); pure (if h : vs.size = 1 then vs[0] else .tuple vs)) := by
  have : (fun (x : ResultVar) => match x with | .tmp t => (pure (ts.getD t undef) : Sem Value) | .cell p t => do loadVar t (← asAddr (ts.getD p undef))) = resV ts := by
    funext x; cases x <;> rfl
  rw [← this]
  rfl
theorem resA_ok (hr : RelS B N c st a w) : ∀ (rv : List ResultVar) (rs : List AV), resA P (look st.ob) st rv = some rs →
    ∃ vs : List Value, (rv.mapM (resV a.tmps)).run P w = Result.ok vs w ∧ vs.length = rs.length ∧ ∀ j y, rs[j]? = some y → V c w y (vs.getD j undef)
  | [], rs, h => by
    simp only [resA, Option.some.injEq] at h
    subst h
    exact ⟨[], rfl, rfl, by simp⟩
  | .tmp t :: r, rs, h => by
    simp only [resA] at h
    split at h
    · rename_i l hl
      simp only [Option.some.injEq] at h
      subst h
      obtain ⟨vs, h1, h2, h3⟩ := resA_ok hr r l hl
      refine ⟨a.tmps.getD t undef :: vs, ?_, by simp [h2], fun j y hy => ?_⟩
      · simp only [List.mapM_cons, resV, Sem.run_bind, Sem.run_pure, Result.andThen_ok, h1]
      · cases j with
        | zero => simp at hy; subst hy; exact hr.tms t
        | succ j => simpa using h3 j y (by simpa using hy)
    · cases h
  | .cell p t :: r, rs, h => by
    simp only [resA] at h
    split at h
    · rename_i n o off l hn hp hl
      split at h
      · rename_i cs ho
        split at h
        · rename_i q hq
          split at h
          · rename_i x hx
            simp only [Option.some.injEq] at h
            subst h
            obtain ⟨vs, h1, h2, h3⟩ := resA_ok hr r l hl
            obtain ⟨hll, hlg⟩ := cut_eq hq
            obtain ⟨i, b, arr, el, k1, k2, k3, k4, k5, k6⟩ := hr.mem.obj o _ ho
            have htm := hr.tms p
            rw [hp] at htm
            obtain ⟨ad, i', ea, hi', hpp⟩ := htm.inv_ptr
            rw [k1] at hi'
            cases hi'
            obtain ⟨b', hb', rfl⟩ := hpp k2
            rw [k3] at hb'
            cases hb'
            obtain ⟨v, e1, e2⟩ := loadVar_ok (P := P) (w := w) (c := c) hn hll hx ⟨b, off, none⟩ (fun j => arr.getD (off + j) undef) (fun j hj => by
              have hcs : (cs[off + j]?).isSome = true := by rw [← hlg j hj]; simp [hll, hj]
              have hlt : off + j < cs.length := by simpa using hcs
              rw [add_mid']
              exact ⟨cell_in k4 (by rw [k5.1]; exact hlt), k5.2.1 _ hlt⟩) (fun j y hy => by
              have hj : j < n := by have := (List.getElem?_eq_some_iff.1 hy).1; omega
              rw [hlg j hj] at hy
              exact k5.2.2 _ y hy)
            refine ⟨v :: vs, ?_, by simp [h2], fun j y hy => ?_⟩
            · simp only [List.mapM_cons, resV, Sem.run_bind, ea, asAddr, Sem.run_pure, Result.andThen_ok, e1, h1]
            · cases j with
              | zero => simp at hy; subst hy; exact e2
              | succ j => simpa using h3 j y (by simpa using hy)
          · cases h
        · cases h
      · cases h
    · cases h

theorem upto_get : ∀ (n i j : Nat), j < n → (upto i n)[j]? = some (i + j)
  | 0, i, j, h => by omega
  | n + 1, i, 0, h => by simp [upto]
  | n + 1, i, j + 1, h => by
    simp only [upto, List.getElem?_cons_succ]
    rw [upto_get n (i + 1) j (by omega)]
    congr 1
    omega
theorem upto_len : ∀ (n i : Nat), (upto i n).length = n
  | 0, i => rfl
  | n + 1, i => by simp [upto, upto_len n (i + 1)]
theorem outs_get (l : List (Nat × AO)) : ∀ (L : List Nat) (j : Nat) (x : AO), (outs l L)[j]? = some x → ∃ i, L[j]? = some i ∧ (look l i = some x ∨ x = .dead)
  | [], j, x, h => by simp [outs] at h
  | i :: r, 0, x, h => by
    simp only [outs, List.getElem?_cons_zero, Option.some.injEq] at h
    refine ⟨i, rfl, ?_⟩
    split at h
    · exact .inr h.symm
    · rename_i hy
      subst h
      exact .inl hy
    · exact .inr h.symm
  | i :: r, j + 1, x, h => by
    obtain ⟨k, h1, h2⟩ := outs_get l r j x (by simpa [outs] using h)
    exact ⟨k, by simpa using h1, h2⟩
theorem outs_len (l : List (Nat × AO)) : ∀ (L : List Nat), (outs l L).length = L.length
  | [] => rfl
  | i :: r => by simp [outs, outs_len l r]
theorem names_idx (ob : Nat → Option AO) (bump : List Nat) : ∀ (L : List Nat) (i o n v : Nat), (o, n, v) ∈ names ob (fun i _ => i) bump i L → i ≤ n ∧ n < i + L.length
  | [], i, o, n, v, h => by simp [names] at h
  | x :: r, i, o, n, v, h => by
    simp only [names] at h
    have step : (o, n, v) ∈ names ob (fun i _ => i) bump (i + 1) r → i ≤ n ∧ n < i + (x :: r).length := fun h => by
      have := names_idx ob bump r (i + 1) o n v h
      simp only [List.length_cons]
      omega
    split at h
    · split at h
      · rcases List.mem_cons.1 h with h | h
        · simp only [Prod.mk.injEq] at h
          simp only [List.length_cons]
          omega
        · exact step h
      · exact step h
    · exact step h
theorem ends_ok {ob : Nat → Option AO} (hm : Mem B c ob w) {m : Nat} {bump : List Nat} {rs rs' : List AV} {os : List AO} (h : ends ob m bump rs = some (rs', os)) : ∃ c', Mem B c' (obL os) w ∧ c'.F = c.F ∧ (∀ n i', n < m → n < 1000 → c'.inf n = some i' → i'.ver = 0 → c.inf n = some i') ∧ rs'.length = rs.length ∧ ∀ (g : Nat → Value), (∀ j y, rs[j]? = some y → V c w y (g j)) → ∀ j y, rs'[j]? = some y → V c' w y (g j) := by
  unfold ends at h
  split at h
  case h_2 => cases h
  rename_i hck
  rw [Bool.and_eq_true] at hck
  simp only [Option.some.injEq, Prod.mk.injEq] at h
  obtain ⟨rfl, rfl⟩ := h
  have hK : ∀ o n v, (o, n, v) ∈ finK ob m bump rs → ∃ a, ob o = some a ∧ isDead a = false ∧ (isBox a = true → v = 0) := fun o n v h => names_mem _ _ _ _ o n v h
  obtain ⟨c', m1, m2, m3, m4⟩ := hm.names (ob' := obL (outs (objs ob (rnm ob (finK ob m bump rs)) (finK ob m bump rs)) (upto 0 (finL ob m rs).length))) hck.1 hck.2 hK (fun n x hx => by
    obtain ⟨i, h1, h2⟩ := outs_get _ _ n x hx
    have hn : n < (finL ob m rs).length := by
      have := (List.getElem?_eq_some_iff.1 h1).1
      rwa [upto_len] at this
    rw [upto_get _ _ _ hn] at h1
    have hi : n = i := by simpa using h1
    subst hi
    rcases h2 with h2 | h2
    · exact .inr (objs_look _ _ n x h2)
    · exact .inl h2) (fun o n v h => by
    have hn := (names_idx ob bump _ 0 o n v h).2
    rw [Nat.zero_add] at hn
    have : n < (outs (objs ob (rnm ob (finK ob m bump rs)) (finK ob m bump rs)) (upto 0 (finL ob m rs).length)).length := by rw [outs_len, upto_len]; exact hn
    exact ⟨_, List.getElem?_eq_getElem this⟩)
  refine ⟨c', m1, m3, fun n i' hn hn1 hi' hv => ?_, renL_len _ _, fun g hg j y hy => ?_⟩
  case refine_2 =>
    rw [renL_get] at hy
    obtain ⟨z, hz, rfl⟩ := Option.map_eq_some_iff.1 hy
    exact (hg j z hz).ren m2
  obtain ⟨o, v, i0, k1, k2, rfl⟩ := m4 n i' hi'
  have hv : v = 0 := hv
  subst hv
  obtain ⟨⟨j, q1, _, q2⟩, x, hx, hd, hver⟩ := names_nm _ _ _ _ o n 0 k1
  subst q1
  have hL : (finL ob m rs)[n - 0]? = some n := reach_pre _ _ _ _ _ (by rw [Nat.sub_zero, upto_get _ _ _ hn, Nat.zero_add])
  rw [hL] at q2
  cases q2
  have h0 : verO x = 0 := hver rfl hn1
  have := hm.ver hx hd k2
  rw [h0] at this
  rw [k2]
  cases i0
  simp only at this
  subst this
  rfl

theorem look_enum {α : Type} : ∀ (l : List α) (i o : Nat), look (enumA i l) o = if i ≤ o then l[o - i]? else none
  | [], i, o => by simp [enumA, look]
  | a :: r, i, o => by
    simp only [enumA, look]
    cases h : Nat.beq i o with
    | true =>
      have := beq_true h
      subst this
      simp
    | false =>
      have hne : i ≠ o := Nat.ne_of_beq_eq_false h
      simp only
      rw [look_enum r (i + 1) o]
      by_cases h1 : i + 1 ≤ o
      · rw [if_pos h1, if_pos (by omega)]
        rw [show o - i = (o - (i + 1)) + 1 by omega, List.getElem?_cons_succ]
      · rw [if_neg h1, if_neg (by omega)]
theorem look_enum0 {α : Type} (l : List α) (o : Nat) : look (enumA 0 l) o = l[o]? := by rw [look_enum]; simp

/-- **a function's contract** -/
theorem fn_ok {E : En} (hmix : E.P.follows .mixedOrders = true) {T : Nat → Table} (hT : ∀ n, TS E.P (T n)) {f : FuncId} {fn : Func} {code : Code} (hf : E.P.funcs[f]? = some fn) (hb : fn.body = some code) (hN : E.N = fn.ntmps) {R : Type} {fin : St → Option R} {er : R → List AV × List AO} {m : Nat} {cvs : List Cv} {bump : List Nat}
    (hfin : ∀ st r, fin st = some r → finA E.P fn.results.toList m cvs bump st = some (er r)) {k : Nat} {as : List AV} {os : List AO} {r : R} (hm1 : os.length ≤ m) (hm2 : m ≤ 1000) (h : go E T fin k [.code code] (initA as os) = some r) : ACalls E.P f as os (tupA (er r).1, (er r).2) := by
  intro c w vs hvs hva hm cs
  let a0 : Act := { tmps := vs ++ Array.replicate (fn.ntmps - vs.size) undef, defers := [] }
  let b : Frame := { (default : Frame) with fn := f, kind := .normal }
  have henter : Frame.enter E.P f vs .normal = b.at a0 [.code code] := by simp [Frame.enter, Frame.at, hf, hb, b, a0]
  have hdom : ∀ o i, c.inf o = some i → o < m := fun o i h => by
    obtain ⟨x, hx⟩ := hm.dom o i h
    have hx : os[o]? = some x := hx
    have := (List.getElem?_eq_some_iff.1 hx).1
    omega
  have hrel : RelS ⟨w, fun b => ∃ o, Blk c (obL os) o b, c.F, c.inf⟩ E.N c (initA as os) a0 w := by
    have hob : look (initA as os).ob = obL os := by
      funext o
      exact look_enum0 os o
    refine ⟨by rw [hob]; exact hm, fun t => ?_, by show E.N ≤ (vs ++ Array.replicate (fn.ntmps - vs.size) undef).size; rw [hN, Array.size_append, Array.size_replicate]; omega, rfl, fun o i i' h h' _ => by have h : c.inf o = some i := h; rw [h] at h'; cases h'; rfl, fun o i h => Nat.lt_of_lt_of_le (hdom o i h) hm2⟩
    show V c w (match look (enumA 0 as) t with | some a => a | none => .bad) _
    rw [look_enum0]
    split
    · rename_i x hx
      have ht : t < vs.size := by rw [hvs]; exact (List.getElem?_eq_some_iff.1 hx).1
      have e : a0.tmps.getD t undef = vs.getD t undef := getD_append_left ht
      rw [e]
      exact hva t x hx
    · exact .bad _
  obtain ⟨st', a', w', c', todo', h1, h2, h3⟩ := go_ok hmix hT k _ _ r c a0 w h hrel b cs
  have hfin := hfin st' r h1
  unfold finA at hfin
  simp only [bo] at hfin
  split at hfin
  case h_2 => cases hfin
  rename_i rs hrs
  split at hfin
  case h_2 => cases hfin
  rename_i p hp
  obtain ⟨rs1, ob1⟩ := p
  obtain ⟨vs', g1, g2, g3⟩ := resA_ok (P := E.P) h2 _ _ hrs
  obtain ⟨c1, k1, k2, k3, k4⟩ := convL_ok rs cvs st'.ob rs1 ob1 c' hp h2.mem (fun j => vs'.getD j undef) g3
  obtain ⟨c2, m1, m2, mp, m3, m4⟩ := ends_ok k1 hfin
  have hv := m4 _ k4
  have hrun : (results fn a'.tmps).run E.P w' = .ok (if h : vs'.toArray.size = 1 then vs'.toArray[0] else .tuple vs'.toArray) w' := by
    rw [results_eq, Array.mapM_eq_mapM_toList]
    simp only [Sem.run_bind, Sem.run_map, g1, Result.andThen_ok, Sem.run_pure]
  have hlen : (er r).1.length = vs'.length := by rw [m3, k3, g2]
  refine ⟨.returned (if h : vs'.toArray.size = 1 then vs'.toArray[0] else .tuple vs'.toArray), w', _, ⟨_, c2, rfl, ?_, m1, ?_⟩, by rw [henter]; exact h3, rfl, ?_⟩
  · show V c2 w' (tupA (er r).1) _
    generalize (er r).1 = rr at hv hlen
    cases rr with
    | nil =>
      have : vs' = [] := List.length_eq_zero_iff.1 hlen.symm
      subst this
      exact .tup [] #[] rfl (by simp)
    | cons x q =>
      cases q with
      | nil =>
        have hl1 : vs'.length = 1 := hlen.symm
        rw [dif_pos (by simpa using hl1)]
        have := hv 0 x rfl
        obtain ⟨v0, rfl⟩ : ∃ v0, vs' = [v0] := by
          cases vs' with
          | nil => cases hl1
          | cons v0 q => cases q with
            | nil => exact ⟨v0, rfl⟩
            | cons _ _ => simp at hl1
        exact this
      | cons y q =>
        have hl2 : ¬ vs'.toArray.size = 1 := by
          simp only [List.size_toArray]
          rw [← hlen]
          simp
        rw [dif_neg hl2]
        refine .tup (x :: y :: q) vs'.toArray (by simp [← hlen]) fun j z hz => ?_
        have := hv j z hz
        simpa [Array.getD_eq_getD_getElem?, List.getD_eq_getElem?_getD] using this
  · intro o i i' hi hi' hv0
    have ho := hdom o i hi
    have hi1 := mp o i' ho (Nat.lt_of_lt_of_le ho hm2) hi' hv0
    cases h0 : c'.inf o with
    | none => rw [k2.nw o (Nat.lt_of_lt_of_le ho hm2) h0] at hi1; cases hi1
    | some i1 =>
      obtain ⟨i2, q1, q2, q3⟩ := k2.inf o i1 h0
      rw [hi1] at q1
      cases q1
      have := q3 (by omega)
      subst this
      exact h2.pas o i _ hi h0 hv0
  · exact ⟨rfl, h2.dfs, rfl, fn, hf, hrun⟩
end
end Go.Proofs.Ytohfaccniialmaa.Am
