/- Memory that goes on: an object is made, written, frozen. -/
import Derived.Test.YtohfaccniialmaaAmR
namespace Go.Proofs.Ytohfaccniialmaa.Am
open Go
set_option linter.constructorNameAsVariable false
set_option linter.unusedVariables false
set_option linter.unusedSimpArgs false

def Cx.set (c : Cx) (k : Nat) (i : Inf) : Cx := ⟨fun o => if o = k then some i else c.inf o, c.F⟩
theorem Cx.set_eq (c : Cx) (k : Nat) (i : Inf) : (c.set k i).inf k = some i := by simp [Cx.set]
theorem Cx.set_ne (c : Cx) {k o : Nat} (i : Inf) (h : o ≠ k) : (c.set k i).inf o = c.inf o := by simp [Cx.set, h]

theorem newId_big (d r : Nat) : 1000 ≤ newId d r := by unfold newId; omega
/-- the block of an object -/
def Blk (c : Cx) (ob : Nat → Option AO) (k b : Nat) : Prop := ∃ x i, ob k = some x ∧ live x = true ∧ c.inf k = some i ∧ i.blk = some b

theorem RowB.ext {c c' : Cx} {w w' : World} {i : Inf} {t : Ty} {xs : List t.D} {p : Prop} (h : RowB c w i t xs p) (e : Ext c w c' w') (hb : ∀ b, i.blk = some b → (∃ ob, w.heap[b]? = some ob) → w'.heap[b]? = w.heap[b]? ∧ (c'.F b ↔ c.F b)) : RowB c' w' i t xs p := by
  rcases h with h | ⟨b, arr, el, h1, h2, h3, h4, h5⟩
  · exact .inl h
  · obtain ⟨k1, k2⟩ := hb b h1 ⟨_, h2⟩
    exact .inr ⟨b, arr, el, h1, k1.trans h2, h3, h4.ext e, k2.trans h5⟩
theorem OR.ext {c c' : Cx} {w w' : World} {o : Nat} {x : AO} (h : OR c w o x) (e : Ext c w c' w') (hi : c'.inf o = c.inf o) (hb : x ≠ .dead → ∀ i b, c.inf o = some i → i.blk = some b → (∃ ob, w.heap[b]? = some ob) → w'.heap[b]? = w.heap[b]? ∧ (c'.F b ↔ c.F b)) : OR c' w' o x := by
  cases x with
  | dead => trivial
  | box cs =>
    obtain ⟨i, b, arr, el, h1, h2, h3, h4, h5, h6⟩ := h
    obtain ⟨k1, k2⟩ := hb (by simp) i b h1 h3 ⟨_, h4⟩
    exact ⟨i, b, arr, el, hi.trans h1, h2, h3, k1.trans h4, h5.ext e, fun hF => h6 (k2.1 hF)⟩
  | row v t xs =>
    obtain ⟨i, h1, h2, h3, h4, h5, h6⟩ := h
    exact ⟨i, hi.trans h1, h2, h3, h4, h5, h6.ext e (hb (by simp) i · h1)⟩
  | fro v t xs =>
    obtain ⟨i, h1, h2, h3, h4, h5, h6⟩ := h
    exact ⟨i, hi.trans h1, h2, h3, h4, h5, h6.ext e (hb (by simp) i · h1)⟩

theorem lt_of_some {w : World} {b : Nat} {o : Obj} (h : w.heap[b]? = some o) : b < w.heap.size := (Array.getElem?_eq_some_iff.1 h).1

/-- a live object's block is there and does not stay -/
theorem Mem.blk {B : Base} {c : Cx} {ob : Nat → Option AO} {w : World} (hm : Mem B c ob w) {k b : Nat} (h : Blk c ob k b) : b < w.heap.size ∧ ¬ c.F b := by
  obtain ⟨x, i, h1, h2, h3, h4⟩ := h
  have := hm.obj k x h1
  cases x with
  | dead => simp [live] at h2
  | fro v t xs => simp [live] at h2
  | box cs =>
    obtain ⟨i', b', arr, el, k1, k2, k3, k4, k5, k6⟩ := this
    rw [h3] at k1; cases k1
    rw [h4] at k3; cases k3
    exact ⟨lt_of_some k4, k6⟩
  | row v t xs =>
    obtain ⟨i', k1, k2, k3, k4, k5, k6⟩ := this
    rw [h3] at k1; cases k1
    rcases k6 with ⟨k6, _⟩ | ⟨b', arr, el, k6, k7, k8, k9, k10⟩
    · rw [h4] at k6; cases k6
    · rw [h4] at k6; cases k6
      exact ⟨lt_of_some k7, fun hF => k10.1 hF⟩
/-- a frozen object's block stays -/
theorem Mem.fro {B : Base} {c : Cx} {ob : Nat → Option AO} {w : World} (hm : Mem B c ob w) {k b : Nat} {v : Nat} {t : Ty} {xs : List t.D} (h : ob k = some (.fro v t xs)) {i : Inf} (hi : c.inf k = some i) (hb : i.blk = some b) : c.F b := by
  obtain ⟨i', k1, k2, k3, k4, k5, k6⟩ := hm.obj k _ h
  rw [hi] at k1; cases k1
  rcases k6 with ⟨k6, _⟩ | ⟨b', arr, el, k6, k7, k8, k9, k10⟩
  · rw [hb] at k6; cases k6
  · rw [hb] at k6; cases k6
    exact k10.2 trivial

/-- an object is made, or written -/
theorem Mem.put {B : Base} {c : Cx} {ob : Nat → Option AO} {w : World} (hm : Mem B c ob w) (k : Nat) (x' : AO) (i' : Inf) (w' : World)
    (hos : w'.os = w.os) (htape : w'.tape = w.tape) (hout : w'.output = w.output) (hsize : w.heap.size ≤ w'.heap.size)
    (hheap : ∀ b, b < w.heap.size → ¬ Blk c ob k b → w'.heap[b]? = w.heap[b]?)
    (hk : ∀ i, c.inf k = some i → i.ver ≤ i'.ver ∧ (i'.ver = i.ver → i' = i))
    (hor : Ext c w (c.set k i') w' → OR (c.set k i') w' k x')
    (hblk : ∀ b, live x' = true → i'.blk = some b → Blk c ob k b ∨ w.heap.size ≤ b) (hnw : c.inf k = none → 1000 ≤ k := by first | assumption | exact fun _ => newId_big _ _ | (intro hnone; simp_all; done)) :
    Mem B (c.set k i') (fup ob [(k, x')]) w' ∧ Ext c w (c.set k i') w' := by
  have hext : Ext c w (c.set k i') w' := by
    refine ⟨fun b h => h, fun o i hi => ?_, fun b hF => ?_, fun o ho h0 => ?_⟩
    · by_cases ho : o = k
      · subst ho
        exact ⟨i', Cx.set_eq _ _ _, (hk i hi).1, (hk i hi).2⟩
      · exact ⟨i, (Cx.set_ne c i' ho).trans hi, Nat.le_refl _, fun _ => rfl⟩
    · exact hheap b (hm.F b hF) fun hB => (hm.blk hB).2 hF
    · have hne : o ≠ k := fun e => by
        subst e
        have := hnw h0
        omega
      rw [Cx.set_ne c i' hne]
      exact h0
  refine ⟨⟨hos.trans hm.os, htape.trans hm.tape, hout.trans hm.output, Nat.le_trans hm.size hsize, fun b hb hM => ?_, fun o x hx => ?_, fun o i hi => ?_, ?_, fun b hF => Nat.lt_of_lt_of_le (hm.F b hF) hsize, ?_, hm.F0, hm.Fn⟩, hext⟩
  · rw [hheap b (Nat.lt_of_lt_of_le hb hm.size), hm.frame b hb hM]
    rintro ⟨x, i, h1, h2, h3, h4⟩
    rcases hm.own k x i b h1 h2 h3 h4 with h | h
    · exact hM h
    · omega
  · by_cases ho : o = k
    · subst ho
      have hx' : x = x' := by simpa [fup] using hx.symm
      rw [hx']
      exact hor hext
    · have hx1 : ob o = some x := by simpa [fup, ho] using hx
      refine (hm.obj o x hx1).ext hext (Cx.set_ne c i' ho) fun hd i b hi hb hsome => ⟨?_, Iff.rfl⟩
      obtain ⟨obj, hobj⟩ := hsome
      refine hheap b (lt_of_some hobj) fun hB => ?_
      by_cases hl : live x = true
      · obtain ⟨y, i2, h1, h2, h3, h4⟩ := hB
        exact ho (hm.inj o k x y i i2 b hx1 h1 hl h2 hi h3 hb h4)
      · cases x with
        | dead => exact hd rfl
        | box cs => simp [live] at hl
        | row v t xs => simp [live] at hl
        | fro v t xs => exact (hm.blk hB).2 (hm.fro hx1 hi hb)
  · by_cases ho : o = k
    · subst ho
      exact ⟨x', by simp [fup]⟩
    · rw [Cx.set_ne c i' ho] at hi
      obtain ⟨x, hx⟩ := hm.dom o i hi
      exact ⟨x, by simp [fup, ho, hx]⟩
  · intro o o' x y i j b hx hy hlx hly hi hj hib hjb
    have old : ∀ o x, o ≠ k → fup ob [(k, x')] o = some x → ob o = some x := fun o x ho h => by simpa [fup, ho] using h
    have blkk : ∀ i, (c.set k i').inf k = some i → i = i' := fun i h => by rw [Cx.set_eq] at h; exact (Option.some.inj h).symm
    have xk : ∀ x, fup ob [(k, x')] k = some x → x = x' := fun x h => by simpa [fup] using h.symm
    have key : ∀ o x i, o ≠ k → ob o = some x → live x = true → c.inf o = some i → i.blk = some b → live x' = true → i'.blk = some b → False := fun o x i ho h1 h2 h3 h4 h5 h6 => by
      rcases hblk b h5 h6 with hB | hB
      · obtain ⟨y, i2, k1, k2, k3, k4⟩ := hB
        exact ho (hm.inj o k x y i i2 b h1 k1 h2 k2 h3 k3 h4 k4)
      · have := (hm.blk ⟨x, i, h1, h2, h3, h4⟩).1
        omega
    by_cases ho : o = k
    · by_cases ho' : o' = k
      · rw [ho, ho']
      · exfalso
        subst ho
        rw [blkk i hi] at hib
        rw [xk x hx] at hlx
        rw [Cx.set_ne c i' ho'] at hj
        exact key o' y j ho' (old o' y ho' hy) hly hj hjb hlx hib
    · by_cases ho' : o' = k
      · exfalso
        subst ho'
        rw [blkk j hj] at hjb
        rw [xk y hy] at hly
        rw [Cx.set_ne c i' ho] at hi
        exact key o x i ho (old o x ho hx) hlx hi hib hly hjb
      · rw [Cx.set_ne c i' ho] at hi
        rw [Cx.set_ne c i' ho'] at hj
        exact hm.inj o o' x y i j b (old o x ho hx) (old o' y ho' hy) hlx hly hi hj hib hjb
  · intro o x i b hx hl hi hb
    by_cases ho : o = k
    · subst ho
      rw [Cx.set_eq] at hi
      cases hi
      have hx' : x = x' := by simpa [fup] using hx.symm
      rw [hx'] at hl
      rcases hblk b hl hb with ⟨y, i2, k1, k2, k3, k4⟩ | hB
      · exact hm.own o y i2 b k1 k2 k3 k4
      · exact .inr (Nat.le_trans hm.size hB)
    · rw [Cx.set_ne c i' ho] at hi
      exact hm.own o x i b (by simpa [fup, ho] using hx) hl hi hb

/-- draws of the tape -/
theorem Mem.drew {B : Base} {c : Cx} {ob : Nat → Option AO} {w : World} (hm : Mem B c ob w) (n : Nat) : Mem B c ob { w with drawn := n } ∧ Ext c w c { w with drawn := n } := by
  have e : Ext c w c { w with drawn := n } := ⟨fun _ h => h, fun _ i h => ⟨i, h, Nat.le_refl _, fun _ => rfl⟩, fun _ _ => rfl, fun _ _ h => h⟩
  exact ⟨⟨hm.os, hm.tape, hm.output, hm.size, hm.frame, fun o x h => (hm.obj o x h).ext e rfl fun _ _ _ _ _ _ => ⟨rfl, Iff.rfl⟩, hm.dom, hm.inj, hm.F, hm.own, hm.F0, hm.Fn⟩, e⟩

/-! ### frozen -/
def Cx.frz (c : Cx) (p : Nat → Prop) : Cx := ⟨c.inf, fun b => c.F b ∨ p b⟩
theorem Mem.freeze {B : Base} {c : Cx} {ob : Nat → Option AO} {w : World} (hm : Mem B c ob w) {k : Nat} {v : Nat} {t : Ty} {xs : List t.D} (hk : ob k = some (.row v t xs)) :
    Mem B (c.frz (Blk c ob k)) (fup ob [(k, .fro v t xs)]) w ∧ Ext c w (c.frz (Blk c ob k)) w := by
  have e : Ext c w (c.frz (Blk c ob k)) w := ⟨fun _ h => .inl h, fun _ i h => ⟨i, h, Nat.le_refl _, fun _ => rfl⟩, fun _ _ => rfl, fun _ _ h => h⟩
  refine ⟨⟨hm.os, hm.tape, hm.output, hm.size, hm.frame, fun o x h => ?_, fun o i hi => ?_, ?_, fun b hF => ?_, ?_, fun b h => .inl (hm.F0 b h), fun b hF => ?_⟩, e⟩
  · by_cases ho : o = k
    · subst ho
      have hx' : x = .fro v t xs := by simpa [fup] using h.symm
      subst hx'
      obtain ⟨i, h1, h2, h3, h4, h5, h6⟩ := hm.obj o _ hk
      refine ⟨i, h1, h2, h3, h4, h5, ?_⟩
      rcases h6 with h6 | ⟨b, arr, el, k1, k2, k3, k4, k5⟩
      · exact .inl h6
      · exact .inr ⟨b, arr, el, k1, k2, k3, k4.ext e, ⟨fun _ => trivial, fun _ => .inr ⟨_, i, hk, rfl, h1, k1⟩⟩⟩
    · have hx1 : ob o = some x := by simpa [fup, ho] using h
      refine (hm.obj o x hx1).ext e rfl fun hd i b hi hb hs => ⟨rfl, ⟨fun hF => ?_, .inl⟩⟩
      rcases hF with hF | ⟨y, i2, h1, h2, h3, h4⟩
      · exact hF
      · by_cases hl : live x = true
        · exact absurd (hm.inj o k x y i i2 b hx1 h1 hl h2 hi h3 hb h4) ho
        · cases x with
          | dead => exact absurd rfl hd
          | box cs => simp [live] at hl
          | row v t xs => simp [live] at hl
          | fro v t xs => exact hm.fro hx1 hi hb
  · obtain ⟨x, hx⟩ := hm.dom o i hi
    by_cases ho : o = k
    · exact ⟨.fro v t xs, by simp [fup, ho]⟩
    · exact ⟨x, by simp [fup, ho, hx]⟩
  · intro o o' x y i j b hx hy hlx hly hi hj hib hjb
    have hne : ∀ o x, fup ob [(k, .fro v t xs)] o = some x → live x = true → ob o = some x := fun o x h hl => by
      by_cases ho : o = k
      · simp [fup, ho] at h; subst h; simp [live] at hl
      · simpa [fup, ho] using h
    exact hm.inj o o' x y i j b (hne o x hx hlx) (hne o' y hy hly) hlx hly hi hj hib hjb
  · rcases hF with hF | hB
    · exact hm.F b hF
    · exact (hm.blk hB).1
  · intro o x i b hx hl hi hb
    by_cases ho : o = k
    · simp [fup, ho] at hx; subst hx; simp [live] at hl
    · exact hm.own o x i b (by simpa [fup, ho] using hx) hl hi hb
  · rcases hF with hF | ⟨x, i, h1, h2, h3, h4⟩
    · exact hm.Fn b hF
    · exact .inr (hm.own k x i b h1 h2 h3 h4)

/-- a row of one's own, seen as one that stays -/
theorem own_lst {c : Cx} {w : World} {i : Inf} {t : Ty} {xs : List t.D} (hl : i.len = xs.length) (hs : i.sz = t.sz) (hB : RowB c w i t xs True) {lo n : Nat} {v : Value} (hn : lo + n ≤ xs.length) (h : Hd i lo n v) : V c w (.lst t ((xs.drop lo).take n)) v := by
  obtain ⟨A, cp, rfl, h1, h2, h3⟩ := h
  have hlen : ((xs.drop lo).take n).length = n := by rw [List.length_take, List.length_drop]; omega
  have hgo : V c w (.lst t ((xs.drop lo).take n)) (.slice A ((xs.drop lo).take n).length cp) := by
    rcases hB with ⟨hb0, hc0⟩ | ⟨b, arr, el, hb, hh, hsz, hc, hF⟩
    · have hn0 : n = 0 := by omega
      subst hn0
      refine .lst t _ A cp (fun _ => undef) (by rw [hlen]; exact h1) (fun h0 => by rw [hlen] at h0; omega) (fun j x hx => by simp at hx)
    · refine .lst t _ A cp (fun j => arr.getD (i.off + (lo * t.sz + j)) undef) (by rw [hlen]; exact h1) (fun h0 => ?_) (fun j x hx q y hy => ?_)
      · rw [hlen] at h0
        obtain ⟨b', hb', rfl⟩ := h3 (by omega)
        rw [hb] at hb'; cases hb'
        refine ⟨_, rfl, hF.2 trivial, fun j hj => ?_⟩
        rw [hlen] at hj
        have hts : 0 < t.sz := Nat.pos_of_ne_zero fun e => by rw [e] at hj; simp at hj
        have hjn : j / t.sz < n := (Nat.div_lt_iff_lt_mul hts).2 hj
        have hx := List.getElem?_eq_getElem (l := xs) (i := lo + j / t.sz) (by omega)
        have hq : j % t.sz < (view t xs[lo + j / t.sz]).length := by rw [view_len]; exact Nat.mod_lt _ hts
        have hcc := hc (lo + j / t.sz) _ hx (j % t.sz) _ (List.getElem?_eq_getElem hq)
        have hidx : i.off + ((lo + j / t.sz) * t.sz + j % t.sz) = i.off + (lo * t.sz + j) := by
          rw [Nat.add_mul]
          have := Nat.div_add_mod j t.sz
          rw [Nat.mul_comm] at this
          omega
        rw [hidx] at hcc
        have hlt : i.off + (lo * t.sz + j) < arr.size := by
          have h5 : lo * t.sz + j < (lo + n) * t.sz := by rw [Nat.add_mul]; omega
          have h6 : (lo + n) * t.sz ≤ i.cap * t.sz := Nat.mul_le_mul_right _ (by omega)
          omega
        refine ⟨?_, hcc.2⟩
        have hadd : (⟨b, i.off + lo * i.sz, none⟩ : Addr).add j = ⟨b, i.off + (lo * t.sz + j), none⟩ := by
          unfold Addr.add
          split
          · rename_i h0; rw [h0, hs]; simp
          · rw [hs]; simp [Nat.add_assoc]
        rw [hadd, World.cell?, hh]
        simp [hlt]
      · have hx2 : xs[lo + j]? = some x := by
          rw [List.getElem?_take] at hx
          split at hx
          · rw [List.getElem?_drop] at hx; exact hx
          · cases hx
        have := (hc (lo + j) x hx2 q y hy).1
        rwa [show i.off + ((lo + j) * t.sz + q) = i.off + (lo * t.sz + (j * t.sz + q)) by rw [Nat.add_mul]; omega] at this
  rw [hlen] at hgo
  exact hgo
end Go.Proofs.Ytohfaccniialmaa.Am
