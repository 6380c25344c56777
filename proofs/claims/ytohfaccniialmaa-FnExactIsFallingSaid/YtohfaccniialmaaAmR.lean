/- The machine of values and the program's memory: how they belong together. -/
import Derived.Test.YtohfaccniialmaaAm
import Derived.Deep.AppendSrc
namespace Go.Proofs.Ytohfaccniialmaa.Am
open Go
set_option linter.constructorNameAsVariable false
set_option linter.unusedVariables false
set_option linter.unusedSimpArgs false

structure Inf where
  blk : Option Nat
  off : Nat
  cap : Nat
  len : Nat
  ver : Nat
  sz : Nat
structure Cx where
  inf : Nat → Option Inf
  F : Nat → Prop

/-- the head of a row's part -/
def Hd (i : Inf) (lo n : Nat) (v : Value) : Prop := ∃ A cp, v = .slice A n cp ∧ n ≤ cp ∧ lo + cp = i.cap ∧ (0 < cp → ∃ b, i.blk = some b ∧ A = some ⟨b, i.off + lo * i.sz, none⟩)

inductive V (c : Cx) (w : World) : AV → Value → Prop
  | bad (v : Value) : V c w .bad v
  | und : V c w .und undef
  | mb (x : Bool) : V c w .mb (.bool x)
  | i (k : IntKind) (n : Int) : V c w (.i k n) (.int k n)
  | b (x : Bool) : V c w (.b x) (.bool x)
  | s (x : ByteArray) : V c w (.s x) (.string x)
  | nilp : V c w .nilp (.pointer none)
  | nilf : V c w .nilf .nilFunc
  | nili : V c w .nili .nilIface
  | nils (A : Option Addr) : V c w .nils (.slice A 0 0)
  | ptr (o off : Nat) (a : Addr) (i : Inf) (hi : c.inf o = some i) (h : i.ver = 0 → ∃ b, i.blk = some b ∧ a = ⟨b, off, none⟩) : V c w (.ptr o off) (.pointer (some a))
  | eptr (o ver j off : Nat) (a : Addr) (i : Inf) (hi : c.inf o = some i) (hv : ver ≤ i.ver) (h : ver = i.ver → j < i.len ∧ ∃ b, i.blk = some b ∧ a = ⟨b, i.off + j * i.sz + off, none⟩) : V c w (.eptr o ver j off) (.pointer (some a))
  | own (o ver : Nat) (A : Option Addr) (n cp : Nat) (i : Inf) (hi : c.inf o = some i) (hv : ver ≤ i.ver) (h : ver = i.ver → Hd i 0 i.len (.slice A n cp)) : V c w (.own o ver) (.slice A n cp)
  | sub (o ver lo m : Nat) (A : Option Addr) (n cp : Nat) (i : Inf) (hi : c.inf o = some i) (hv : ver ≤ i.ver) (h : ver = i.ver → lo + m ≤ i.len ∧ Hd i lo m (.slice A n cp)) : V c w (.sub o ver lo m) (.slice A n cp)
  | lst (t : Ty) (xs : List t.D) (A : Option Addr) (cp : Nat) (g : Nat → Value) (hn : xs.length ≤ cp)
      (ha : 0 < xs.length → ∃ a, A = some a ∧ c.F a.block ∧ ∀ j, j < xs.length * t.sz → w.cell? (a.add j) = some (g j) ∧ (g j).oneCell' = true)
      (h : ∀ j x, xs[j]? = some x → ∀ q y, (view t x)[q]? = some y → V c w y (g (j * t.sz + q))) : V c w (.lst t xs) (.slice A xs.length cp)
  | rp (cs : List AV) (a : Addr) (g : Nat → Value) (hF : c.F a.block) (hc : ∀ j, j < cs.length → w.cell? (a.add j) = some (g j) ∧ (g j).oneCell' = true) (h : ∀ j y, cs[j]? = some y → V c w y (g j)) : V c w (.rp cs) (.pointer (some a))
  | fn (f : FuncId) (cs : List AV) (vs : Array Value) (hs : vs.size = cs.length) (h : ∀ j y, cs[j]? = some y → V c w y (vs.getD j undef)) : V c w (.fn f cs) (.func (.func f) #[] vs)
  | agg (cs : List AV) (vs : Array Value) (hs : vs.size = cs.length) (h1 : ∀ j, j < cs.length → (vs.getD j undef).oneCell' = true) (h : ∀ j y, cs[j]? = some y → V c w y (vs.getD j undef)) : V c w (.agg cs) (.agg vs)
  | tup (cs : List AV) (vs : Array Value) (hs : vs.size = cs.length) (h : ∀ j y, cs[j]? = some y → V c w y (vs.getD j undef)) : V c w (.tup cs) (.tuple vs)

/-- what comes later -/
structure Ext (c : Cx) (w : World) (c' : Cx) (w' : World) : Prop where
  F : ∀ b, c.F b → c'.F b
  inf : ∀ o i, c.inf o = some i → ∃ i', c'.inf o = some i' ∧ i.ver ≤ i'.ver ∧ (i'.ver = i.ver → i' = i)
  heap : ∀ b, c.F b → w'.heap[b]? = w.heap[b]?
  nw : ∀ o, o < 1000 → c.inf o = none → c'.inf o = none

theorem Ext.refl (c : Cx) (w : World) : Ext c w c w := ⟨fun _ h => h, fun _ i h => ⟨i, h, Nat.le_refl _, fun _ => rfl⟩, fun _ _ => rfl, fun _ _ h => h⟩
theorem Ext.trans {c c1 c2 : Cx} {w w1 w2 : World} (h : Ext c w c1 w1) (k : Ext c1 w1 c2 w2) : Ext c w c2 w2 := by
  refine ⟨fun b hb => k.F b (h.F b hb), fun o i hi => ?_, fun b hb => (k.heap b (h.F b hb)).trans (h.heap b hb), fun o ho h0 => k.nw o ho (h.nw o ho h0)⟩
  obtain ⟨i1, h1, h2, h3⟩ := h.inf o i hi
  obtain ⟨i2, k1, k2, k3⟩ := k.inf o i1 h1
  refine ⟨i2, k1, Nat.le_trans h2 k2, fun e => ?_⟩
  have e1 : i1.ver = i.ver := by omega
  rw [k3 (by omega), h3 e1]

theorem cell_of_heap {w w' : World} {a : Addr} (h : w'.heap[a.block]? = w.heap[a.block]?) : w'.cell? a = w.cell? a := by
  unfold World.cell?; rw [h]
theorem add_block' (a : Addr) (n : Nat) : (a.add n).block = a.block := by unfold Addr.add; split <;> rfl

theorem V.ext {c c' : Cx} {w w' : World} (e : Ext c w c' w') {a : AV} {v : Value} (h : V c w a v) : V c' w' a v := by
  induction h with
  | bad v => exact .bad v
  | und => exact .und
  | mb x => exact .mb x
  | i k n => exact .i k n
  | b x => exact .b x
  | s x => exact .s x
  | nilp => exact .nilp
  | nilf => exact .nilf
  | nili => exact .nili
  | nils A => exact .nils A
  | ptr o off a i hi h =>
    obtain ⟨i', h1, h2, h3⟩ := e.inf o i hi
    refine .ptr o off a i' h1 fun h0 => ?_
    have : i' = i := h3 (by omega)
    subst this
    exact h h0
  | eptr o ver j off a i hi hv h =>
    obtain ⟨i', h1, h2, h3⟩ := e.inf o i hi
    refine .eptr o ver j off a i' h1 (Nat.le_trans hv h2) fun h0 => ?_
    have : i' = i := h3 (by omega)
    subst this
    exact h h0
  | own o ver A n cp i hi hv h =>
    obtain ⟨i', h1, h2, h3⟩ := e.inf o i hi
    refine .own o ver A n cp i' h1 (Nat.le_trans hv h2) fun h0 => ?_
    have : i' = i := h3 (by omega)
    subst this
    exact h h0
  | sub o ver lo m A n cp i hi hv h =>
    obtain ⟨i', h1, h2, h3⟩ := e.inf o i hi
    refine .sub o ver lo m A n cp i' h1 (Nat.le_trans hv h2) fun h0 => ?_
    have : i' = i := h3 (by omega)
    subst this
    exact h h0
  | lst t xs A cp g hn ha h ih =>
    refine .lst t xs A cp g hn (fun h0 => ?_) ih
    obtain ⟨a, rfl, hF, hc⟩ := ha h0
    refine ⟨a, rfl, e.F _ hF, fun j hj => ?_⟩
    rw [cell_of_heap (w := w)]
    · exact hc j hj
    · rw [add_block']; exact e.heap _ hF
  | rp cs a g hF hc h ih =>
    refine .rp cs a g (e.F _ hF) (fun j hj => ?_) ih
    rw [cell_of_heap (w := w)]
    · exact hc j hj
    · rw [add_block']; exact e.heap _ hF
  | fn f cs vs hs h ih => exact .fn f cs vs hs ih
  | agg cs vs hs h1 h ih => exact .agg cs vs hs h1 ih
  | tup cs vs hs h ih => exact .tup cs vs hs ih

/-- names that are changed -/
structure Ren (ρ : Nat → Nat → Option (Nat × Nat)) (c : Cx) (w : World) (c' : Cx) (w' : World) : Prop where
  F : ∀ b, c.F b → c'.F b
  inf : ∀ o v o' v', ρ o v = some (o', v') → ∀ i, c.inf o = some i → v ≤ i.ver → ∃ i', c'.inf o' = some i' ∧ v' ≤ i'.ver ∧ (v' = i'.ver → v = i.ver ∧ i'.blk = i.blk ∧ i'.off = i.off ∧ i'.cap = i.cap ∧ i'.len = i.len ∧ i'.sz = i.sz)
  heap : ∀ b, c.F b → w'.heap[b]? = w.heap[b]?

theorem renL_get (ρ : Nat → Nat → Option (Nat × Nat)) : ∀ (cs : List AV) (j : Nat), (ren.renL ρ cs)[j]? = (cs[j]?).map (ren ρ)
  | [], j => by simp [ren.renL]
  | a :: r, 0 => by simp [ren.renL]
  | a :: r, j + 1 => by simp [ren.renL, renL_get ρ r j]
theorem renL_len (ρ : Nat → Nat → Option (Nat × Nat)) : ∀ cs : List AV, (ren.renL ρ cs).length = cs.length
  | [] => by simp [ren.renL]
  | a :: r => by simp [ren.renL, renL_len ρ r]

theorem view_len : ∀ (t : Ty) (x : t.D), (view t x).length = t.sz
  | .i k, _ => rfl
  | .b, _ => rfl
  | .s, _ => rfl
  | .u, _ => rfl
  | .sl t, _ => rfl
  | .pr a b, x => by simp [view, Ty.sz, view_len a x.1, view_len b x.2]
theorem view_ren (ρ : Nat → Nat → Option (Nat × Nat)) : ∀ (t : Ty) (x : t.D) (q : Nat) (y : AV), (view t x)[q]? = some y → ren ρ y = y
  | .i k, x, q, y, h => by cases q <;> simp [view] at h; subst h; rfl
  | .b, x, q, y, h => by cases q <;> simp [view] at h; subst h; rfl
  | .s, x, q, y, h => by cases q <;> simp [view] at h; subst h; rfl
  | .u, x, q, y, h => by simp [view] at h
  | .sl t, x, q, y, h => by cases q <;> simp [view] at h; subst h; rfl
  | .pr a b, x, q, y, h => by
    simp only [view, List.getElem?_append] at h
    split at h
    · exact view_ren ρ a x.1 _ _ h
    · exact view_ren ρ b x.2 _ _ h

theorem Hd.same {i i' : Inf} {lo n : Nat} {v : Value} (h : Hd i lo n v) (hb : i'.blk = i.blk) (ho : i'.off = i.off) (hc : i'.cap = i.cap) (hs : i'.sz = i.sz) : Hd i' lo n v := by
  unfold Hd at *
  rw [hb, ho, hc, hs]
  exact h

theorem V.ren {ρ : Nat → Nat → Option (Nat × Nat)} {c c' : Cx} {w w' : World} (e : Ren ρ c w c' w') {a : AV} {v : Value} (h : V c w a v) : V c' w' (ren ρ a) v := by
  induction h with
  | bad v => exact .bad v
  | und => exact .und
  | mb x => exact .mb x
  | i k n => exact .i k n
  | b x => exact .b x
  | s x => exact .s x
  | nilp => exact .nilp
  | nilf => exact .nilf
  | nili => exact .nili
  | nils A => exact .nils A
  | ptr o off a i hi h =>
    simp only [Am.ren]
    split
    · rename_i o' v' hr
      obtain ⟨i', h1, h2, h3⟩ := e.inf o 0 o' v' hr i hi (Nat.zero_le _)
      refine .ptr o' off a i' h1 fun h0 => ?_
      obtain ⟨k0, k1, _⟩ := h3 (by omega)
      rw [k1]
      exact h k0.symm
    · exact .bad _
  | eptr o ver j off a i hi hv h =>
    simp only [Am.ren]
    split
    · rename_i o' v' hr
      obtain ⟨i', h1, h2, h3⟩ := e.inf o ver o' v' hr i hi hv
      refine .eptr o' v' j off a i' h1 h2 fun h0 => ?_
      obtain ⟨k0, k1, k2, k3, k4, k5⟩ := h3 h0
      rw [k1, k2, k4, k5]
      exact h k0
    · exact .bad _
  | own o ver A n cp i hi hv h =>
    simp only [Am.ren]
    split
    · rename_i o' v' hr
      obtain ⟨i', h1, h2, h3⟩ := e.inf o ver o' v' hr i hi hv
      refine .own o' v' A n cp i' h1 h2 fun h0 => ?_
      obtain ⟨k0, k1, k2, k3, k4, k5⟩ := h3 h0
      rw [k4]
      exact (h k0).same k1 k2 k3 k5
    · exact .bad _
  | sub o ver lo m A n cp i hi hv h =>
    simp only [Am.ren]
    split
    · rename_i o' v' hr
      obtain ⟨i', h1, h2, h3⟩ := e.inf o ver o' v' hr i hi hv
      refine .sub o' v' lo m A n cp i' h1 h2 fun h0 => ?_
      obtain ⟨k0, k1, k2, k3, k4, k5⟩ := h3 h0
      rw [k4]
      exact ⟨(h k0).1, (h k0).2.same k1 k2 k3 k5⟩
    · exact .bad _
  | lst t xs A cp g hn ha h ih =>
    simp only [Am.ren]
    refine .lst t xs A cp g hn (fun h0 => ?_) (fun j x hx q y hy => ?_)
    · obtain ⟨a, rfl, hF, hc⟩ := ha h0
      refine ⟨a, rfl, e.F _ hF, fun j hj => ?_⟩
      rw [cell_of_heap (w := w)]
      · exact hc j hj
      · rw [add_block']; exact e.heap _ hF
    · have := ih j x hx q y hy
      rwa [view_ren ρ t x q y hy] at this
  | rp cs a g hF hc h ih =>
    simp only [Am.ren]
    refine .rp _ a g (e.F _ hF) (fun j hj => ?_) (fun j y hy => ?_)
    · rw [cell_of_heap (w := w)]
      · exact hc j (by rw [renL_len] at hj; exact hj)
      · rw [add_block']; exact e.heap _ hF
    · rw [renL_get] at hy
      obtain ⟨z, hz, rfl⟩ := Option.map_eq_some_iff.1 hy
      exact ih j z hz
  | fn f cs vs hs h ih =>
    simp only [Am.ren]
    refine .fn f _ vs (by rw [hs, renL_len]) fun j y hy => ?_
    rw [renL_get] at hy
    obtain ⟨z, hz, rfl⟩ := Option.map_eq_some_iff.1 hy
    exact ih j z hz
  | agg cs vs hs h1 h ih =>
    simp only [Am.ren]
    refine .agg _ vs (by rw [hs, renL_len]) (fun j hj => h1 j (by rw [renL_len] at hj; exact hj)) fun j y hy => ?_
    rw [renL_get] at hy
    obtain ⟨z, hz, rfl⟩ := Option.map_eq_some_iff.1 hy
    exact ih j z hz
  | tup cs vs hs h ih =>
    simp only [Am.ren]
    refine .tup _ vs (by rw [hs, renL_len]) fun j y hy => ?_
    rw [renL_get] at hy
    obtain ⟨z, hz, rfl⟩ := Option.map_eq_some_iff.1 hy
    exact ih j z hz

theorem immL_get : ∀ (cs : List AV) (j : Nat) (y : AV), imm.immL cs = false → cs[j]? = some y → imm y = false
  | [], j, y, _, h => by simp at h
  | a :: r, 0, y, hi, h => by
    simp [imm.immL] at hi h
    subst h
    exact hi.1
  | a :: r, j + 1, y, hi, h => by
    simp [imm.immL] at hi h
    exact immL_get r j y hi.2 h
/-- what holds no rows that stay hangs on no block that stays -/
theorem V.noimm {c c' : Cx} {w : World} {a : AV} {v : Value} (h : V c w a v) (w' : World) (he : c'.inf = c.inf) (hm : imm a = false) : V c' w' a v := by
  induction h with
  | bad v => exact .bad v
  | und => exact .und
  | mb x => exact .mb x
  | i k n => exact .i k n
  | b x => exact .b x
  | s x => exact .s x
  | nilp => exact .nilp
  | nilf => exact .nilf
  | nili => exact .nili
  | nils A => exact .nils A
  | ptr o off a i hi h => exact .ptr o off a i (he ▸ hi) h
  | eptr o ver j off a i hi hv h => exact .eptr o ver j off a i (he ▸ hi) hv h
  | own o ver A n cp i hi hv h => exact .own o ver A n cp i (he ▸ hi) hv h
  | sub o ver lo m A n cp i hi hv h => exact .sub o ver lo m A n cp i (he ▸ hi) hv h
  | lst t xs A cp g hn ha h ih => simp [imm] at hm
  | rp cs a g hF hc h ih => simp [imm] at hm
  | fn f cs vs hs h ih => exact .fn f cs vs hs fun j y hy => ih j y hy (immL_get cs j y (by simpa [imm] using hm) hy)
  | agg cs vs hs h1 h ih => exact .agg cs vs hs h1 fun j y hy => ih j y hy (immL_get cs j y (by simpa [imm] using hm) hy)
  | tup cs vs hs h ih => exact .tup cs vs hs fun j y hy => ih j y hy (immL_get cs j y (by simpa [imm] using hm) hy)

/-- the cells of a value -/
def Cl (c : Cx) (w : World) (cs : List AV) (vs : Array Value) : Prop := vs.size = cs.length ∧ (∀ j, j < cs.length → (vs.getD j undef).oneCell' = true) ∧ ∀ j y, cs[j]? = some y → V c w y (vs.getD j undef)
theorem Cl.ext {c c' : Cx} {w w' : World} (e : Ext c w c' w') {cs : List AV} {vs : Array Value} (h : Cl c w cs vs) : Cl c' w' cs vs := ⟨h.1, h.2.1, fun j y hy => (h.2.2 j y hy).ext e⟩
theorem Cl.one {c : Cx} {w : World} {a : AV} {v : Value} (h : V c w a v) (h1 : v.oneCell' = true) : Cl c w [a] #[v] := by
  refine ⟨rfl, fun j hj => ?_, fun j y hy => ?_⟩
  · have : j = 0 := by simpa using hj
    subst this
    exact h1
  · cases j with
    | zero => simp at hy; subst hy; exact h
    | succ j => simp at hy
theorem V.cells {c : Cx} {w : World} {a : AV} {v : Value} (h : V c w a v) {cs : List AV} (hc : cellsA a = some cs) : Cl c w cs v.cells := by
  cases h <;> simp only [cellsA, Option.some.injEq, reduceCtorEq] at hc <;> subst hc
  case agg vs hs h1 h => exact ⟨hs, h1, h⟩
  all_goals exact Cl.one (by constructor <;> assumption) rfl

/-! ### objects in memory -/
/-- the elements of a row in a block -/
def Cells (c : Cx) (w : World) (arr : Array Value) (off : Nat) (t : Ty) (xs : List t.D) : Prop :=
  ∀ j x, xs[j]? = some x → ∀ q y, (view t x)[q]? = some y → V c w y (arr.getD (off + (j * t.sz + q)) undef) ∧ (arr.getD (off + (j * t.sz + q)) undef).oneCell' = true
theorem Cells.ext {c c' : Cx} {w w' : World} (e : Ext c w c' w') {arr : Array Value} {off : Nat} {t : Ty} {xs : List t.D} (h : Cells c w arr off t xs) : Cells c' w' arr off t xs :=
  fun j x hx q y hy => ⟨(h j x hx q y hy).1.ext e, (h j x hx q y hy).2⟩

/-- a row's block -/
def RowB (c : Cx) (w : World) (i : Inf) (t : Ty) (xs : List t.D) (imm : Prop) : Prop :=
  (i.blk = none ∧ i.cap = 0) ∨ ∃ b arr e, i.blk = some b ∧ w.heap[b]? = some (.cells arr e (0, 0)) ∧ i.off + i.cap * t.sz ≤ arr.size ∧ Cells c w arr i.off t xs ∧ (c.F b ↔ imm)

def OR (c : Cx) (w : World) (o : Nat) : AO → Prop
  | .dead => True
  | .box cs => ∃ i b arr e, c.inf o = some i ∧ i.ver = 0 ∧ i.blk = some b ∧ w.heap[b]? = some (.cells arr e (0, 0)) ∧ Cl c w cs arr ∧ ¬ c.F b
  | .row v t xs => ∃ i, c.inf o = some i ∧ i.ver = v ∧ i.len = xs.length ∧ i.sz = t.sz ∧ xs.length ≤ i.cap ∧ RowB c w i t xs False
  | .fro v t xs => ∃ i, c.inf o = some i ∧ i.ver = v ∧ i.len = xs.length ∧ i.sz = t.sz ∧ xs.length ≤ i.cap ∧ RowB c w i t xs True

def live : AO → Bool
  | .box _ => true
  | .row _ _ _ => true
  | _ => false

/-- memory: the objects, and what was there before -/
structure Base where
  W : World
  M : Nat → Prop
  F : Nat → Prop
  I : Nat → Option Inf
structure Mem (B : Base) (c : Cx) (ob : Nat → Option AO) (w : World) : Prop where
  os : w.os = B.W.os
  tape : w.tape = B.W.tape
  output : w.output = B.W.output
  size : B.W.heap.size ≤ w.heap.size
  frame : ∀ b, b < B.W.heap.size → ¬ B.M b → w.heap[b]? = B.W.heap[b]?
  obj : ∀ o x, ob o = some x → OR c w o x
  dom : ∀ o i, c.inf o = some i → ∃ x, ob o = some x
  inj : ∀ o o' x x' i i' b, ob o = some x → ob o' = some x' → live x = true → live x' = true → c.inf o = some i → c.inf o' = some i' → i.blk = some b → i'.blk = some b → o = o'
  F : ∀ b, c.F b → b < w.heap.size
  own : ∀ o x i b, ob o = some x → live x = true → c.inf o = some i → i.blk = some b → B.M b ∨ B.W.heap.size ≤ b
  F0 : ∀ b, B.F b → c.F b
  Fn : ∀ b, c.F b → B.F b ∨ B.M b ∨ B.W.heap.size ≤ b

def Tms (c : Cx) (w : World) (st : St) (a : Act) : Prop := ∀ t, V c w (st.get t) (a.tmps.getD t undef)

def fup (ob : Nat → Option AO) : List (Nat × AO) → Nat → Option AO
  | [] => ob
  | (k, x) :: r => fup (fun o => if o = k then some x else ob o) r
theorem beq_ne {k o : Nat} (h : k ≠ o) : Nat.beq k o = false := by
  cases e : Nat.beq k o with
  | true => exact absurd (Nat.eq_of_beq_eq_true e) h
  | false => rfl
theorem look_upd {α : Type} (l : List (Nat × α)) (k : Nat) (x : α) (o : Nat) : look (upd l k x) o = if o = k then some x else look l o := by
  induction l with
  | nil =>
    simp only [upd, look]
    by_cases h : o = k
    · subst h; simp
    · have : Nat.beq k o = false := beq_ne fun e => h e.symm
      simp [this, h]
  | cons p r ih =>
    obtain ⟨q, y⟩ := p
    simp only [upd]
    cases hq : Nat.beq q k with
    | true =>
      have : q = k := Nat.eq_of_beq_eq_true hq
      subst this
      simp only [look]
      by_cases h : o = q
      · subst h; simp
      · have : Nat.beq q o = false := beq_ne fun e => h e.symm
        simp [this, h]
    | false =>
      have hne : q ≠ k := Nat.ne_of_beq_eq_false hq
      simp only [look, ih]
      cases hqo : Nat.beq q o with
      | true =>
        have : q = o := Nat.eq_of_beq_eq_true hqo
        subst this
        simp [hne]
      | false => simp
theorem look_upds (u : List (Nat × AO)) : ∀ l : List (Nat × AO), look (upds l u) = fup (look l) u := by
  induction u with
  | nil => intro l; rfl
  | cons p r ih =>
    intro l
    obtain ⟨k, x⟩ := p
    simp only [upds, fup]
    rw [ih]
    congr 1
    funext o
    exact look_upd l k x o
end Go.Proofs.Ytohfaccniialmaa.Am
