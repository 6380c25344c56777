/- What the machine of values does at an operation, the program does: objects that are made, frozen, written. -/
import Derived.Test.YtohfaccniialmaaAmP
namespace Go.Proofs.Ytohfaccniialmaa.Am
open Go
set_option linter.constructorNameAsVariable false
set_option linter.unusedVariables false
set_option linter.unusedSimpArgs false
section
variable {P : Program} {B : Base} {c : Cx} {ob : Nat → Option AO} {w : World} {s : Sem Next} {d : Delta}

theorem fup_append (ob : Nat → Option AO) (a b : List (Nat × AO)) : fup ob (a ++ b) = fup (fup ob a) b := by
  induction a generalizing ob with
  | nil => rfl
  | cons p r ih => obtain ⟨k, x⟩ := p; simp only [List.cons_append, fup, ih]
theorem fup_one (ob : Nat → Option AO) (k : Nat) (x : AO) : fup ob [(k, x)] = fun o => if o = k then some x else ob o := rfl

theorem Mem.inf_none (hm : Mem B c ob w) {k : Nat} (hk : ob k = none) : c.inf k = none := by
  cases h : c.inf k with
  | none => rfl
  | some i => obtain ⟨x, hx⟩ := hm.dom k i h; rw [hk] at hx; cases hx
theorem Mem.newBox (hm : Mem B c ob w) {k : Nat} (hnw : c.inf k = none → 1000 ≤ k) (hk : ob k = none) {cs : List AV} {arr : Array Value} (hc : Cl c w cs arr) (e : TypeId) :
    Mem B (c.set k ⟨some w.heap.size, 0, 0, 0, 0, 0⟩) (fup ob [(k, .box cs)]) (w.alloc (.cells arr e)) ∧ Ext c w (c.set k ⟨some w.heap.size, 0, 0, 0, 0, 0⟩) (w.alloc (.cells arr e)) := by
  refine hm.put k (.box cs) _ _ rfl rfl rfl (by show w.heap.size ≤ (w.heap.push _).size; simp) (fun b hb _ => heap_alloc_old w _ _ hb) (fun i hi => by rw [hm.inf_none hk] at hi; cases hi) (fun ext => ?_) (fun b _ hb => .inr (by simp at hb; omega))
  exact ⟨_, w.heap.size, arr, e, Cx.set_eq _ _ _, rfl, rfl, heap_alloc_new w _, hc.ext ext, fun hF => Nat.lt_irrefl _ (hm.F _ hF)⟩
theorem Mem.newRow (hm : Mem B c ob w) {k : Nat} (hnw : c.inf k = none → 1000 ≤ k) (hk : ob k = none) {t : Ty} {xs : List t.D} {arr : Array Value} (cap : Nat) (hc : Cells c w arr 0 t xs) (hl : xs.length ≤ cap) (hs : cap * t.sz ≤ arr.size) (e : TypeId) (w1 : World)
    (h1 : w1 = w.alloc (.cells arr e)) :
    Mem B (c.set k ⟨some w.heap.size, 0, cap, xs.length, 0, t.sz⟩) (fup ob [(k, .row 0 t xs)]) w1 ∧ Ext c w (c.set k ⟨some w.heap.size, 0, cap, xs.length, 0, t.sz⟩) w1 := by
  subst h1
  refine hm.put k (.row 0 t xs) _ _ rfl rfl rfl (by show w.heap.size ≤ (w.heap.push _).size; simp) (fun b hb _ => heap_alloc_old w _ _ hb) (fun i hi => by rw [hm.inf_none hk] at hi; cases hi) (fun ext => ?_) (fun b _ hb => .inr (by simp at hb; omega))
  exact ⟨_, Cx.set_eq _ _ _, rfl, rfl, rfl, hl, .inr ⟨w.heap.size, arr, e, rfl, heap_alloc_new w _, by simpa using hs, hc.ext ext, ⟨fun hF => absurd (hm.F _ hF) (Nat.lt_irrefl _), False.elim⟩⟩⟩

theorem consts_ok : ∀ (vs : List Value) (l : List AV), consts vs = some l → l.length = vs.length ∧ ∀ (c : Cx) (w : World) (j : Nat) (y : AV), l[j]? = some y → V c w y (vs.getD j undef) ∧ (vs.getD j undef).oneCell' = true
  | [], l, h => by simp [consts] at h; subst h; simp
  | v :: r, l, h => by
    simp only [consts] at h
    split at h
    · rename_i l' hb hr
      simp only [Option.some.injEq] at h
      subst h
      obtain ⟨h1, h2⟩ := consts_ok r l' hr
      refine ⟨by simp [h1], fun c w j y hy => ?_⟩
      cases j with
      | zero =>
        simp at hy
        subst hy
        simp only [List.getD_cons_zero]
        unfold constV at hb ⊢
        split <;> first | (refine ⟨?_, rfl⟩; constructor; done) | (exfalso; simp_all [isBad]; done) | skip
      | succ j =>
        simp at hy
        simpa using h2 c w j y hy
    · cases h
theorem constV_ok (v : Value) : V c w (constV v) v := by
  unfold constV
  split <;> constructor
theorem zeroC_ok {t : TypeId} {cs : List AV} (h : zeroC P t = some cs) : ∃ i z, P.info? t = some i ∧ i.zero = some z ∧ z.cells.size = cs.length ∧ ∀ (c : Cx) (w : World), Cl c w cs z.cells := by
  unfold zeroC at h
  split at h
  · rename_i i hi
    split at h
    · rename_i z hz
      obtain ⟨h1, h2⟩ := consts_ok _ _ h
      have hl : z.cells.size = cs.length := by rw [h1]; simp
      have key : ∀ j, z.cells.getD j undef = z.cells.toList.getD j undef := fun j => by simp [Array.getD_eq_getD_getElem?, List.getD_eq_getElem?_getD]
      refine ⟨i, z, hi, hz, hl, fun c w => ⟨hl, fun j hj => ?_, fun j y hy => ?_⟩⟩
      · rw [key]
        exact (h2 c w j cs[j] (List.getElem?_eq_getElem hj)).2
      · rw [key]
        exact (h2 c w j y hy).1
    · cases h
  · cases h
theorem run_zeroValue' {t : TypeId} {i : TypeInfo} {z : Value} (hi : P.info? t = some i) (hz : i.zero = some z) (w : World) : (zeroValue t).run P w = .ok z w := by
  simp [zeroValue, typeInfo, hi, hz]

/-- a new variable -/
theorem newVar_ok (hm : Mem B c ob w) {k : Nat} (hnw : c.inf k = none → 1000 ≤ k) (hk : ob k = none) {t : TypeId} {cs : List AV} {v : Value} (hc : Cl c w cs v.cells) :
    ∃ c', (newVar t v).run P w = .ok ⟨w.heap.size, 0, none⟩ (w.alloc (.cells v.cells t)) ∧ Mem B c' (fup ob [(k, .box cs)]) (w.alloc (.cells v.cells t)) ∧ Ext c w c' (w.alloc (.cells v.cells t)) ∧ V c' (w.alloc (.cells v.cells t)) (.ptr k 0) (.pointer (some ⟨w.heap.size, 0, none⟩)) := by
  obtain ⟨h1, h2⟩ := hm.newBox hnw hk hc t
  refine ⟨_, ?_, h1, h2, .ptr k 0 _ _ (Cx.set_eq _ _ _) fun _ => ⟨_, rfl, rfl⟩⟩
  rfl
theorem alloc_ok (hm : Mem B c ob w) {T : Table} {t : TypeId} {ρ : Operand → Value} {o : Oper} (ho : o.op = .alloc t) {k : Nat} (hnw : c.inf k = none → 1000 ≤ k)
    (h : run T (opt (zeroC P t) fun cs => fresh ob k (.ret ⟨.ptr k 0, [(k, .box cs)], []⟩)) = some d) : Eff P B c ob w (execOp ρ o) d := by
  obtain ⟨cs, hcs, h⟩ := run_opt h
  obtain ⟨hk, h⟩ := run_fresh h
  have hd := run_ret h
  subst hd
  obtain ⟨i, z, hi, hz, hl, hc⟩ := zeroC_ok hcs
  obtain ⟨c', h1, h2, h3, h4⟩ := newVar_ok (P := P) hm hnw hk (t := t) (hc c w)
  refine ⟨_, _, c', .inl ?_, h2, h3, h4⟩
  unfold execOp
  simp only [ho]
  simp only [Instr.alloc, Sem.run_bind, run_zeroValue' hi hz, Result.andThen_ok, h1, Sem.run_pure]
theorem box_ok (hm : Mem B c ob w) {T : Table} {t : TypeId} {x : Operand} {ρ : Operand → Value} {a : AV} (ha : V c w a (ρ x)) {o : Oper} (ho : o.op = .box t x) {k : Nat} (hnw : c.inf k = none → 1000 ≤ k)
    (h : run T (opt (cellsA a) fun cs => fresh ob k (.ret ⟨.ptr k 0, [(k, .box cs)], []⟩)) = some d) : Eff P B c ob w (execOp ρ o) d := by
  obtain ⟨cs, hcs, h⟩ := run_opt h
  obtain ⟨hk, h⟩ := run_fresh h
  have hd := run_ret h
  subst hd
  obtain ⟨c', h1, h2, h3, h4⟩ := newVar_ok (P := P) hm hnw hk (t := t) (ha.cells hcs)
  refine ⟨_, _, c', .inl ?_, h2, h3, h4⟩
  unfold execOp
  simp only [ho]
  simp only [Instr.box, Sem.run_bind, h1, Result.andThen_ok, Sem.run_pure]

/-! ### frozen -/
def Frz (ob ob1 : Nat → Option AO) : Prop := ∀ o, ob1 o = ob o ∨ ∃ v t xs, ob o = some (.row v t xs) ∧ ob1 o = some (.fro v t xs)
theorem Frz.refl (ob : Nat → Option AO) : Frz ob ob := fun o => .inl rfl
theorem own_stays (hm : Mem B c ob w) {o v : Nat} {t : Ty} {xs : List t.D} (h : ob o = some (.fro v t xs)) {x : Value} (hx : V c w (.own o v) x) : V c w (.lst t xs) x := by
  obtain ⟨i, h1, h2, h3, h4, h5, h6⟩ := hm.obj o _ h
  obtain ⟨A, n, cp, i', rfl, k1, k2, k3⟩ := hx.inv_own
  rw [h1] at k1; cases k1
  have := own_lst h3 h4 h6 (lo := 0) (n := xs.length) (by omega) (h3 ▸ k3 h2.symm)
  simpa using this
theorem frz1_ok {ob1 : Nat → Option AO} (hm : Mem B c ob1 w) (hf : Frz ob ob1) {a b : AV} {fs : List (Nat × AO)} (h : frz1 ob a = some (b, fs)) {x : Value} (hx : V c w a x) :
    ∃ c', Mem B c' (fup ob1 fs) w ∧ Frz ob (fup ob1 fs) ∧ Ext c w c' w ∧ V c' w b x := by
  have triv : some (a, ([] : List (Nat × AO))) = some (b, fs) → ∃ c', Mem B c' (fup ob1 fs) w ∧ Frz ob (fup ob1 fs) ∧ Ext c w c' w ∧ V c' w b x := fun e => by
    simp only [Option.some.injEq, Prod.mk.injEq] at e
    obtain ⟨rfl, rfl⟩ := e
    exact ⟨c, hm, hf, .refl c w, hx⟩
  have fro : ∀ (o v : Nat) (t : Ty) (xs : List t.D), a = .own o v → (ob o = some (.row v t xs) ∨ ob o = some (.fro v t xs)) → some (AV.lst t xs, [(o, AO.fro v t xs)]) = some (b, fs) → ∃ c', Mem B c' (fup ob1 fs) w ∧ Frz ob (fup ob1 fs) ∧ Ext c w c' w ∧ V c' w b x := fun o v t xs ea ho e => by
    subst ea
    simp only [Option.some.injEq, Prod.mk.injEq] at e
    obtain ⟨rfl, rfl⟩ := e
    have already : ob1 o = some (.fro v t xs) → ∃ c', Mem B c' (fup ob1 [(o, .fro v t xs)]) w ∧ Frz ob (fup ob1 [(o, .fro v t xs)]) ∧ Ext c w c' w ∧ V c' w (.lst t xs) x := fun h1 => by
      have he : fup ob1 [(o, .fro v t xs)] = ob1 := by
        rw [fup_one]
        funext q
        split
        · rename_i hq; rw [hq, h1]
        · rfl
      rw [he]
      exact ⟨c, hm, hf, .refl c w, own_stays hm h1 hx⟩
    rcases hf o with h1 | ⟨v', t', xs', h1, h2⟩
    · rcases ho with ho | ho
      · rw [ho] at h1
        obtain ⟨k1, k2⟩ := hm.freeze h1
        refine ⟨_, k1, fun q => ?_, k2, own_stays k1 (by simp [fup]) (hx.ext k2)⟩
        rw [fup_one]
        by_cases hq : q = o
        · subst hq
          exact .inr ⟨v, t, xs, ho, by simp⟩
        · simpa [hq] using hf q
      · rw [ho] at h1
        exact already h1
    · rcases ho with ho | ho
      · rw [ho] at h1
        cases h1
        exact already h2
      · rw [ho] at h1; cases h1
  cases a <;> simp only [frz1, reduceCtorEq] at h
  case own o v =>
    split at h
    · rename_i v' t xs ho
      split at h
      · rename_i hv
        have := Nat.eq_of_beq_eq_true hv
        subst this
        exact fro o v' t xs rfl (.inl ho) h
      · cases h
    · rename_i v' t xs ho
      split at h
      · rename_i hv
        have := Nat.eq_of_beq_eq_true hv
        subst this
        exact fro o v' t xs rfl (.inr ho) h
      · cases h
    · cases h
  all_goals exact triv h
theorem frz_ok : ∀ (cs l : List AV) (fs : List (Nat × AO)), frz ob cs = some (l, fs) → ∀ (c : Cx) (ob1 : Nat → Option AO), Mem B c ob1 w → Frz ob ob1 → ∀ (g : Nat → Value), (∀ j y, cs[j]? = some y → V c w y (g j)) →
    ∃ c', Mem B c' (fup ob1 fs) w ∧ Frz ob (fup ob1 fs) ∧ Ext c w c' w ∧ l.length = cs.length ∧ ∀ j y, l[j]? = some y → V c' w y (g j)
  | [], l, fs, h, c, ob1, hm, hf, g, hg => by
    simp [frz] at h
    obtain ⟨rfl, rfl⟩ := h
    exact ⟨c, hm, hf, .refl c w, rfl, by simp⟩
  | a :: r, l, fs, h, c, ob1, hm, hf, g, hg => by
    simp only [frz] at h
    split at h
    · rename_i b f1 s f2 h1 h2
      simp only [Option.some.injEq, Prod.mk.injEq] at h
      obtain ⟨rfl, rfl⟩ := h
      obtain ⟨c1, k1, k2, k3, k4⟩ := frz1_ok hm hf h1 (hg 0 a rfl)
      obtain ⟨c2, m1, m2, m3, m4, m5⟩ := frz_ok r s f2 h2 c1 (fup ob1 f1) k1 k2 (fun j => g (j + 1)) fun j y hy => (hg (j + 1) y (by simpa using hy)).ext k3
      refine ⟨c2, by rw [fup_append]; exact m1, by rw [fup_append]; exact m2, k3.trans m3, by simp [m4], fun j y hy => ?_⟩
      cases j with
      | zero => simp at hy; subst hy; exact k4.ext m3
      | succ j => exact m5 j y (by simpa using hy)
    · cases h

theorem unview_ok : ∀ (t : Ty) (cs : List AV) (x : t.D), unview t cs = some x → cs.length = t.sz ∧ ∀ (c : Cx) (w : World) (g : Nat → Value), (∀ j y, cs[j]? = some y → V c w y (g j)) → ∀ j y, (view t x)[j]? = some y → V c w y (g j)
  | .i k, cs, x, h => by
    simp only [unview, unI] at h
    split at h
    · split at h
      · rename_i e
        simp only [Option.some.injEq] at h
        subst h e
        exact ⟨rfl, fun c w g hg => hg⟩
      · cases h
    · cases h
  | .b, cs, x, h => by
    simp only [unview, unB] at h
    split at h
    · simp only [Option.some.injEq] at h
      subst h
      exact ⟨rfl, fun c w g hg => hg⟩
    · cases h
  | .s, cs, x, h => by
    simp only [unview, unS] at h
    split at h
    · simp only [Option.some.injEq] at h
      subst h
      exact ⟨rfl, fun c w g hg => hg⟩
    · cases h
  | .u, cs, x, h => by
    simp only [unview, unU] at h
    split at h
    · exact ⟨rfl, fun c w g hg => hg⟩
    · cases h
  | .sl t, cs, x, h => by
    simp only [unview, unL] at h
    split at h
    · split at h
      · rename_i e
        subst e
        simp only [Option.some.injEq] at h
        subst h
        exact ⟨rfl, fun c w g hg => hg⟩
      · cases h
    · simp only [Option.some.injEq] at h
      subst h
      refine ⟨rfl, fun c w g hg j y hy => ?_⟩
      cases j with
      | zero =>
        simp [view] at hy
        subst hy
        obtain ⟨A, e⟩ := (hg 0 _ rfl).inv_nils
        rw [e]
        exact .lst t [] A 0 (fun _ => undef) (by simp) (fun h0 => by simp at h0) (fun j x hx => by simp at hx)
      | succ j => simp [view] at hy
    · cases h
  | .pr a b, cs, x, h => by
    simp only [unview] at h
    split at h
    · rename_i x1 y1 h1 h2
      simp only [Option.some.injEq] at h
      subst h
      obtain ⟨k1, k2⟩ := unview_ok a _ x1 h1
      obtain ⟨m1, m2⟩ := unview_ok b _ y1 h2
      have hl : cs.length = a.sz + b.sz := by
        simp only [List.length_take, List.length_drop] at k1 m1
        omega
      refine ⟨by simpa [Ty.sz] using hl, fun c w g hg j y hy => ?_⟩
      simp only [view, List.getElem?_append, view_len] at hy
      split at hy
      · refine k2 c w g (fun j y hy => ?_) j y hy
        rw [List.getElem?_take] at hy
        split at hy
        · exact hg j y hy
        · cases hy
      · rename_i hj
        have := m2 c w (fun j => g (a.sz + j)) (fun j y hy => by rw [List.getElem?_drop] at hy; exact hg _ y hy) (j - a.sz) y hy
        rwa [show a.sz + (j - a.sz) = j by omega] at this
    · cases h
end
end Go.Proofs.Ytohfaccniialmaa.Am
