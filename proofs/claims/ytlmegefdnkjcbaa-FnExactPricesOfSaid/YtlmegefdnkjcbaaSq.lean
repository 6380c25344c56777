/- Short words for what the printed walks say again and again: each is one of the print's own steps, its proof left to a default. -/
import Derived.Test.YtlmegefdnkjcbaaWMore
import Derived.Test.YtlmegefdnkjcbaaWTab
import Derived.RegionTactic
import Derived.BigRegion
namespace Go.Proofs.Ytlmegefdnkjcbaa.Pa
open Go.RowKit Go.Proofs.YtlmegefdnkjcbaaW.PrintWords Go.Proofs.YtlmegefdnkjcbaaW.PrintLast Go.Proofs.YtlmegefdnkjcbaaW.PrintMore
theorem BA {w W : World} (h : Below w.heap.size w W := by repeat (first | (with_reducible first | exact HB.out | apply below_alloc | apply pw_below_drewN | apply below_drew1 | refine below_set ?_ (Aside0.out (by assumption))) | exact HB.out)) : Below w.heap.size w W := h
theorem DA {w W : World} (h : Drawn0 w W := by repeat (first | exact Drawn0.refl _ | apply Drawn0.step)) : Drawn0 w W := h
theorem DT {p : Prop} [Decidable p] (h : decide p = true := by first | (with_reducible assumption) | assumption) : p := of_decide_eq_true h
theorem EQ {α : Type} {a b : α} (h : a = b := by first | rfl | (simp [errW_none, errW_some] <;> rfl) | (simp [*, errW_none, errW_some] <;> rfl)) : a = b := h
theorem EQ1 {α : Type} {a b : α} (h : a = b := by first | rfl | (simp; done) | (simp [*]; done)) : a = b := h
theorem cb {α : Type} {d : Kd α} {W W' : World} {A : Option Addr} {n : Nat} {xs : List α} (h : Kd.C d W A n xs) (hb : Below W.heap.size W W' := by repeat (first | (with_reducible first | exact Below.refl _ _ | apply below_alloc | apply pw_below_drewN | apply below_drew1) | exact Below.refl _ _)) : Kd.C d W' A n xs := Kd.C_below h hb
theorem bk {W W' : World} {g : Nat} {o : Obj} (h : W.heap[g]? = some o) (hb : Below W.heap.size W W' := by repeat (first | (with_reducible first | exact Below.refl _ _ | apply below_alloc | apply pw_below_drewN | apply below_drew1) | exact Below.refl _ _)) : W'.heap[g]? = some o := blk_below h hb
theorem bcv {w : World} {g : Nat} {t : TypeId} {cs : Array Value} (h : w.heap[g]? = some (.cells cs t (0, 0))) (i : Nat) (v : Value) (e : cs[i]? = some v := by rfl) : w.cell? ⟨g, i, none⟩ = some v := (blk_cell h i).trans e
theorem R_box_set {W : World} {b0 g t : Nat} {ok : Nat → Prop} {v : Value} {xs : List Int} {cells : Array Value} (h : Kd.R (Kd.int .i64) 3 W b0 ok v xs) (hb : W.heap[g]? = some (.cells cells t (0, 0))) (ht : 3 ≠ t) (u : Value) : Kd.R (Kd.int .i64) 3 (W.setCell ⟨g, 0, none⟩ u) b0 ok v xs :=
  Kd.R_set h hb (fun q hq => by
    rcases List.mem_cons.1 hq with e | h_
    · rw [e]; exact ht
    · exact absurd h_ (by intro z; cases z)) 0 u
theorem gK {P : Program} {ops : Array Oper} {Q : Exit → Act → World → Prop} {rest : List Oper} {oi : Oper} {a : Act} {w : World} (N : Option Tmp) {f : FuncId} {fn : Func} (hf : P.funcs[f]? = some fn) (args : Array Value) {as : Array Operand} {ts : Array TypeId} (hd : oi.dst = N) (hg : oi.guard = none) (hop : oi.op = .call { callee := .value (.func f), args := as, argTypes := ts })
    (h : Calls P f args w fun e w' => ∃ v, e = .returned v ∧ wpList P ops Q rest (a.put N v) w')
    (hname : (fn.name == "runtime.NumGoroutine") = false := by kernel_rfl) (hb : fn.body.isSome = true := by rfl)
    (hargs : as.map a.eval = args := by (try simp only [List.map_toArray, List.map_cons, List.map_nil]); first | done | rfl | (simp only [List.length_drop, List.length_take]; rfl)) : wpList P ops Q (oi :: rest) a w :=
  goesL_ N hd hg hf hname hb args hop hargs h
/-- a table of the first n places: those whose bit is in b are taken -/
def mk (n b : Nat) : Array Bool := ((List.range n).map fun i => b.testBit i).toArray
section
variable {P : Program} {ops : Array Oper} {Q : Exit → Act → World → Prop} {S : World → Prop} {ds : List Nat} {md : Region.Mode}
/-- a step of a region: an operation that reads no memory -/
theorem pu {oi : Oper} {v : Value} {fuel : Nat} {l : Array Bool} {a a' : Act} {w : World} (i N n b : Nat) (hi : ops[i]? = some oi) (hN : oi.dst = some N) (h : wpAnyLast P md ops Q S ds fuel (mk n b) a' w)
    (hy : Yields P ops oi v a := by (refine Or.inl ⟨by rfl, ?_⟩; intro w'; go_simp; with_reducible rfl)) (ha : a.put (some N) v = a' := by (simp only [Act.put, List.setIfInBounds_toArray, List.set_cons_zero, List.set_cons_succ, i64_w, i32_w]; rfl))
    (hc : anyB md ops l (mk n b) i = true := by first | exact any_of HT_.out (by kernel_rfl) | kernel_rfl) (hQ : ∀ c a w, Q (.panic c) (a.put oi.dst v) w → Q (.panic c) a w := by exact fun _ _ _ h => h) : wpAnyLast P md ops Q S ds (fuel + 1) l a w :=
  pure_ (mk n b) hi hN hc hQ hy ha h
/-- an operation whose guard is off -/
theorem po {oi : Oper} {fuel : Nat} {l : Array Bool} {a a' : Act} {w : World} (i : Nat) (N : Option Tmp) (n b : Nat) (hi : ops[i]? = some oi) (hN : oi.dst = N) (h : wpAnyLast P md ops Q S ds fuel (mk n b) a' w)
    (hy : Yields P ops oi undef a := by exact Or.inr ⟨by rfl, rfl⟩) (ha : a.put N undef = a' := by (first | rfl | (simp only [Act.put, List.setIfInBounds_toArray, List.set_cons_zero, List.set_cons_succ]; rfl)))
    (hc : anyB md ops l (mk n b) i = true := by first | exact any_of HT_.out (by kernel_rfl) | kernel_rfl) (hQ : ∀ c a w, Q (.panic c) (a.put oi.dst undef) w → Q (.panic c) a w := by exact fun _ _ _ h => h) : wpAnyLast P md ops Q S ds (fuel + 1) l a w :=
  pure_ (mk n b) hi hN hc hQ hy ha h
/-- an operation that reads -/
theorem ta {oi : Oper} {v : Value} {fuel : Nat} {l : Array Bool} {a a' : Act} {w : World} (i N n b : Nat) (hi : ops[i]? = some oi) (hN : oi.dst = some N) (h : wpAnyLast P md ops Q S ds fuel (mk n b) a' w)
    (hy : YieldsIf P ops S oi v a := by (refine Or.inl ⟨by rfl, ?_⟩; intro w' s; (repeat (obtain ⟨_, s⟩ : _ ∧ _ := s)); go_simp; with_reducible rfl)) (ha : a.put (some N) v = a' := by (simp only [Act.put, List.setIfInBounds_toArray, List.set_cons_zero, List.set_cons_succ, i64_w, i32_w]; rfl))
    (hS : S w := by exact hHeld) (hc : takeB md ops ds l (mk n b) i = true := by first | exact take_ofW HT_.out HW_.out (by kernel_rfl) | kernel_rfl) (hQ : ∀ c a w, Q (.panic c) (a.put oi.dst v) w → Q (.panic c) a w := by exact fun _ _ _ h => h) : wpAnyLast P md ops Q S ds (fuel + 1) l a w :=
  take_ (mk n b) hi hN hc hQ hy hS ha h
end
/-- a run of operations whose guards are off, in one step -/
def offA : List (Nat × Option Tmp) → Act → Act
  | [], a => a
  | j :: r, a => offA r (a.put j.2 undef)
def offsB (ops : Array Oper) : List (Nat × Option Tmp) → Act → Bool
  | [], _ => true
  | j :: r, a => (match ops[j.1]? with | some o => !(Region.wanted o (yielded ops a.tmps)) && (o.dst == j.2) | none => false) && offsB ops r (a.put j.2 undef)
def offsT (T : Bool × List (List Nat × List Nat)) : List (Nat × Option Tmp) → List Bool → List Bool → Bool
  | [], l, l' => l == l'
  | j :: r, l, l' => anyT T l (l.set j.1 true) j.1 && offsT T r (l.set j.1 true) l'
section
variable {P : Program} {ops : Array Oper} {Q : Exit → Act → World → Prop} {S : World → Prop} {ds : List Nat} {md : Region.Mode}
theorem offs_ {T : Bool × List (List Nat × List Nat)} (hT : rtab md ops = T) (hQ : ∀ d c a w, Q (.panic c) (Act.put a d undef) w → Q (.panic c) a w) (js : List (Nat × Option Tmp)) : ∀ (l l' : Array Bool) (fuel : Nat) (a : Act) (w : World), offsB ops js a = true → offsT T js l.toList l'.toList = true →
    wpAnyLast P md ops Q S ds fuel l' (offA js a) w → wpAnyLast P md ops Q S ds (fuel + js.length) l a w := by
  induction js with
  | nil =>
    intro l l' fuel a w _ ht h
    simp only [offsT, beq_iff_eq] at ht
    have : l = l' := Array.ext' ht
    subst this
    exact h
  | cons j r ih =>
    intro l l' fuel a w hb ht h
    simp only [offsB, offsT, Bool.and_eq_true] at hb ht
    obtain ⟨hb1, hb2⟩ := hb
    obtain ⟨ht1, ht2⟩ := ht
    cases ho : ops[j.1]? with
    | none => rw [ho] at hb1; exact absurd hb1 (by simp)
    | some o =>
      rw [ho] at hb1
      simp only [Bool.and_eq_true, Bool.not_eq_true', beq_iff_eq] at hb1
      obtain ⟨hw, hd⟩ := hb1
      have h2 := ih (l.setIfInBounds j.1 true) l' fuel (a.put j.2 undef) w hb2 (by rw [Array.toList_setIfInBounds]; exact ht2) h
      rw [List.length_cons, ← Nat.add_assoc]
      exact pure_ (l.setIfInBounds j.1 true) ho hd (any_of hT (by rw [Array.toList_setIfInBounds]; exact ht1)) (fun c a w hq => hQ _ c a w hq) (Or.inr ⟨hw, rfl⟩) rfl h2
theorem pos {l : Array Bool} {a a' : Act} {w : World} {fuel' : Nat} (js : List (Nat × Option Tmp)) (n b fuel : Nat) (h : wpAnyLast P md ops Q S ds fuel (mk n b) a' w)
    (hf : fuel' = fuel + js.length := by rfl) (ha : offA js a = a' := by (simp only [offA, Act.put, List.setIfInBounds_toArray, List.set_cons_zero, List.set_cons_succ]; rfl)) (hb : offsB ops js a = true := by first | kernel_rfl | rfl)
    {T : Bool × List (List Nat × List Nat)} (hT : rtab md ops = T := by first | exact HT_.out | rfl) (hc : offsT T js l.toList (mk n b).toList = true := by kernel_rfl) (hQ : ∀ d c a w, Q (.panic c) (Act.put a d undef) w → Q (.panic c) a w := by (intro d c a w h; cases d <;> exact h)) : wpAnyLast P md ops Q S ds fuel' l a w := by
  subst ha
  subst hf
  exact offs_ hT hQ js _ _ _ _ _ hb hc h
end
/-- a block behind stores into it and into others -/
theorem blk_putq {w : World} {g : Nat} {t : TypeId} {cs cs' : Array Value} {i : Nat} {u : Value} (h : w.heap[g]? = some (.cells cs t (0, 0))) (e : cs.setIfInBounds i u = cs') : (w.setCell ⟨g, i, none⟩ u).heap[g]? = some (.cells cs' t (0, 0)) := blk_put h i u e
theorem bq {W W' : World} {g : Nat} {o o' : Obj} (_h : W.heap[g]? = some o) (k : W'.heap[g]? = some o' := by ((repeat (with_reducible first | apply blk_drewN | apply blk_drew | apply blk_alloc | apply blk_putq | (apply blk_far; (case hp => exact Aside0.out (by assumption))))); (with_reducible exact Aside0.out (by assumption)); (all_goals rfl))) : W'.heap[g]? = some o' := k
theorem gd {P : Program} {ops : Array Oper} {Q : Exit → Act → World → Prop} {rest : List Oper} {o : Oper} {a : Act} {W : World} (N : Tmp) (hN : o.dst = some N) (h : wpList P ops Q (o :: rest) a W) : wpList P ops Q (o :: rest) a W := gate_dst hN h
/-- a box -/
theorem bx {P : Program} {ops : Array Oper} {Q : Exit → Act → World → Prop} {rest : List Oper} {o : Oper} {a : Act} {W w : World} (N : Tmp) (cs : Array Value) (t : TypeId)
    (h : ∀ g, g = W.heap.size → ∀ w1, Aside0 (w1.heap[g]? = some (.cells cs t (0, 0))) → Aside0 (w.heap.size ≤ g) → Aside0 (Below w.heap.size w w1) → Below W.heap.size W w1 → wpList P ops Q rest (a.put o.dst (.pointer (some ⟨g, 0, none⟩))) w1)
    (hB : Below w.heap.size w W := by repeat (first | (with_reducible first | exact HB.out | apply below_alloc | apply pw_below_drewN | apply below_drew1 | refine below_set ?_ (Aside0.out (by assumption))) | exact HB.out))
    (hgd : o.guard = none := by rfl) (hrun : (execOp a.eval o).run P W = .ok (.value (.pointer (some ⟨W.heap.size, 0, none⟩))) (W.alloc (.cells cs t (0, 0))) := by first | (go_simp; done) | (go_simp; rfl)) (hd : o.dst = some N := by rfl) : wpList P ops Q (o :: rest) a W := by
  refine box_event hgd hd hrun (fun g hg w1 hbox hb => h g hg w1 ⟨hbox⟩ ⟨?_⟩ ⟨below_step hB hb⟩ hb)
  rw [hg]
  exact hB.size
theorem nbl {W : World} {g g' : Nat} {o : Obj} (hg : g = W.heap.size) (h : W.heap[g']? = some o) : Aside0 (g' ≠ g) := ⟨by have := blk_lt h; omega⟩
theorem nbr {W : World} {g g' : Nat} {o : Obj} (hg : g = W.heap.size) (h : W.heap[g']? = some o) : Aside0 (g ≠ g') := ⟨by have := blk_lt h; omega⟩
theorem rb {α : Type} {d : Kd α} {e : Nat} {W W' : World} {base : Nat} {ok : Nat → Prop} {v : Value} {xs : List α} (h : Kd.R d e W base ok v xs) (hb : Below W.heap.size W W' := by repeat (first | (with_reducible first | exact Below.refl _ _ | apply below_alloc | apply pw_below_drewN | apply below_drew1) | exact Below.refl _ _)) : Kd.R d e W' base ok v xs := Kd.R_below h hb
theorem reps_map {α : Type} {enc : α → Value} {h1 : ∀ x, (enc x).oneCell' = true} (W : World) (base : Nat) (okp : Nat → Prop) (xs : List α) : Reps ((Kd.scalar enc h1).M W base okp) 1 xs (xs.map enc) := by
  refine ⟨by simp, fun j p hj => ?_⟩
  show ((xs.map enc).drop (j * 1)).take 1 = [enc p]
  obtain ⟨hlt, rfl⟩ := List.getElem?_eq_some_iff.1 hj
  rw [Nat.mul_one, List.drop_eq_getElem_cons (by simpa using hlt)]
  simp
section
variable {P : Program} {ops : Array Oper} {Q : Exit → Act → World → Prop} {rest : List Oper} {o : Oper} {a : Act} {W : World}
/-- a row of texts, or of numbers, that is written out -/
theorem ls (N : Tmp) (e : Nat) {y xs : List ByteArray} (hy : y = xs) (h : ∀ v1 w1, Kd.R Kd.string e w1 W.heap.size (fun _ => True) v1 y → Below W.heap.size W w1 → wpList P ops Q rest (a.put o.dst v1) w1)
    (hr : (execOp a.eval o).run P W = .ok (.value (.slice (some ⟨W.heap.size, 0, none⟩) xs.length xs.length)) (W.alloc (.cells (xs.map Value.string).toArray e)) := by first | (go_simp; done) | (go_simp; rfl))
    (hgd : o.guard = none := by rfl) (hd : o.dst = some N := by rfl) (hm : xs.length ≤ 9223372036854775807 := by simp) : wpList P ops Q (o :: rest) a W := by
  subst hy
  exact Kd.R_lit Kd.string W.heap.size e hgd hd hr (reps_map _ _ _ _) (okp := fun _ => True) (fun _ _ => trivial) trivial (Below.refl _ _) (Nat.le_refl _) hm (fun v1 w1 hR hb _ _ => h v1 w1 hR hb)
theorem li (N : Tmp) (e : Nat) {y xs : List Int} (hy : y = xs) (h : ∀ v1 w1, Kd.R (Kd.int .i64) e w1 W.heap.size (fun _ => True) v1 y → Below W.heap.size W w1 → wpList P ops Q rest (a.put o.dst v1) w1)
    (hr : (execOp a.eval o).run P W = .ok (.value (.slice (some ⟨W.heap.size, 0, none⟩) xs.length xs.length)) (W.alloc (.cells (xs.map (Value.int .i64)).toArray e)) := by first | (go_simp; done) | (go_simp; rfl))
    (hgd : o.guard = none := by rfl) (hd : o.dst = some N := by rfl) (hm : xs.length ≤ 9223372036854775807 := by simp) : wpList P ops Q (o :: rest) a W := by
  subst hy
  exact Kd.R_lit (Kd.int .i64) W.heap.size e hgd hd hr (reps_map _ _ _ _) (okp := fun _ => True) (fun _ _ => trivial) trivial (Below.refl _ _) (Nat.le_refl _) hm (fun v1 w1 hR hb _ _ => h v1 w1 hR hb)
variable {Kc : Act → World → Prop}
theorem lss (N : Tmp) (e : Nat) {y xs : List ByteArray} (hy : y = xs) (h : ∀ v1 w1, Kd.R Kd.string e w1 W.heap.size (fun _ => True) v1 y → Below W.heap.size W w1 → Kc (a.put o.dst v1) w1)
    (hr : (execOp a.eval o).run P W = .ok (.value (.slice (some ⟨W.heap.size, 0, none⟩) xs.length xs.length)) (W.alloc (.cells (xs.map Value.string).toArray e)) := by first | (go_simp; done) | (go_simp; rfl))
    (hw : Region.wanted o (yielded ops a.tmps) = true := by rfl) (hd : o.dst = some N := by rfl) (hm : xs.length ≤ 9223372036854775807 := by simp) : if Region.wanted o (yielded ops a.tmps) = true then Oper.wp P o a W Kc Q else Kc (a.put o.dst undef) W := by
  subst hy
  exact Kd.R_lit_step Kd.string W.heap.size e hw hd hr (reps_map _ _ _ _) (okp := fun _ => True) (fun _ _ => trivial) trivial (Below.refl _ _) (Nat.le_refl _) hm (fun v1 w1 hR hb _ _ => h v1 w1 hR hb)
theorem lis (N : Tmp) (e : Nat) {y xs : List Int} (hy : y = xs) (h : ∀ v1 w1, Kd.R (Kd.int .i64) e w1 W.heap.size (fun _ => True) v1 y → Below W.heap.size W w1 → Kc (a.put o.dst v1) w1)
    (hr : (execOp a.eval o).run P W = .ok (.value (.slice (some ⟨W.heap.size, 0, none⟩) xs.length xs.length)) (W.alloc (.cells (xs.map (Value.int .i64)).toArray e)) := by first | (go_simp; done) | (go_simp; rfl))
    (hw : Region.wanted o (yielded ops a.tmps) = true := by rfl) (hd : o.dst = some N := by rfl) (hm : xs.length ≤ 9223372036854775807 := by simp) : if Region.wanted o (yielded ops a.tmps) = true then Oper.wp P o a W Kc Q else Kc (a.put o.dst undef) W := by
  subst hy
  exact Kd.R_lit_step (Kd.int .i64) W.heap.size e hw hd hr (reps_map _ _ _ _) (okp := fun _ => True) (fun _ _ => trivial) trivial (Below.refl _ _) (Nat.le_refl _) hm (fun v1 w1 hR hb _ _ => h v1 w1 hR hb)
end
theorem ifs {α : Type} {c : Prop} [Decidable c] {a : Option α} {r : α} (h : (if c then a else none) = some r) : c ∧ a = some r := by
  by_cases hc : c
  · rw [if_pos hc] at h; exact ⟨hc, h⟩
  · rw [if_neg hc] at h; exact absurd h (by simp)
theorem ob {α β : Type} {o : Option α} {f : α → Option β} {r : β} (h : o.bind f = some r) : ∃ t, Aside0 (o = some t) ∧ f t = some r := by
  obtain ⟨t, h1, h2⟩ := Option.bind_eq_some_iff.mp h
  exact ⟨t, ⟨h1⟩, h2⟩
theorem ifn {α : Type} {c : Prop} [Decidable c] {a : Option α} {r : α} (h : (if c then none else a) = some r) : ¬ c ∧ a = some r := by
  by_cases hc : c
  · rw [if_pos hc] at h; exact absurd h (by simp)
  · rw [if_neg hc] at h; exact ⟨hc, h⟩
/-- a block, and what was as it was, behind new memory -/
theorem kb {W W' W2 : World} {g : Nat} {o : Obj} (h : Aside0 (W.heap[g]? = some o)) (hb : Below W'.heap.size W' W2) (k : Below W.heap.size W W' := by repeat (first | (with_reducible first | exact Below.refl _ _ | apply below_alloc | apply pw_below_drewN | apply below_drew1) | exact Below.refl _ _)) : Aside0 (W2.heap[g]? = some o) := ⟨blk_below (blk_below h.out k) hb⟩
theorem bs {w W W2 : World} (k : Below W.heap.size W W2) (h : Below w.heap.size w W := by repeat (first | (with_reducible first | exact HB.out | apply below_alloc | apply pw_below_drewN | apply below_drew1 | refine below_set ?_ (Aside0.out (by assumption))) | exact HB.out)) : Aside0 (Below w.heap.size w W2) := ⟨below_step h k⟩
theorem bc2 {w : World} {g t : Nat} {v0 v1 : Value} (h : w.heap[g]? = some (.cells #[v0, v1] t (0, 0))) : w.cell? ⟨g, 0, none⟩ = some v0 ∧ w.cell? ⟨g, 1, none⟩ = some v1 := ⟨(blk_cell h 0).trans rfl, (blk_cell h 1).trans rfl⟩
theorem bc3 {w : World} {g t : Nat} {v0 v1 v2 : Value} (h : w.heap[g]? = some (.cells #[v0, v1, v2] t (0, 0))) : w.cell? ⟨g, 0, none⟩ = some v0 ∧ w.cell? ⟨g, 1, none⟩ = some v1 ∧ w.cell? ⟨g, 2, none⟩ = some v2 := ⟨(blk_cell h 0).trans rfl, (blk_cell h 1).trans rfl, (blk_cell h 2).trans rfl⟩
theorem bc4 {w : World} {g t : Nat} {v0 v1 v2 v3 : Value} (h : w.heap[g]? = some (.cells #[v0, v1, v2, v3] t (0, 0))) : w.cell? ⟨g, 0, none⟩ = some v0 ∧ w.cell? ⟨g, 1, none⟩ = some v1 ∧ w.cell? ⟨g, 2, none⟩ = some v2 ∧ w.cell? ⟨g, 3, none⟩ = some v3 := ⟨(blk_cell h 0).trans rfl, (blk_cell h 1).trans rfl, (blk_cell h 2).trans rfl, (blk_cell h 3).trans rfl⟩
theorem bc5 {w : World} {g t : Nat} {v0 v1 v2 v3 v4 : Value} (h : w.heap[g]? = some (.cells #[v0, v1, v2, v3, v4] t (0, 0))) : w.cell? ⟨g, 0, none⟩ = some v0 ∧ w.cell? ⟨g, 1, none⟩ = some v1 ∧ w.cell? ⟨g, 2, none⟩ = some v2 ∧ w.cell? ⟨g, 3, none⟩ = some v3 ∧ w.cell? ⟨g, 4, none⟩ = some v4 := ⟨(blk_cell h 0).trans rfl, (blk_cell h 1).trans rfl, (blk_cell h 2).trans rfl, (blk_cell h 3).trans rfl, (blk_cell h 4).trans rfl⟩
theorem bc6 {w : World} {g t : Nat} {v0 v1 v2 v3 v4 v5 : Value} (h : w.heap[g]? = some (.cells #[v0, v1, v2, v3, v4, v5] t (0, 0))) : w.cell? ⟨g, 0, none⟩ = some v0 ∧ w.cell? ⟨g, 1, none⟩ = some v1 ∧ w.cell? ⟨g, 2, none⟩ = some v2 ∧ w.cell? ⟨g, 3, none⟩ = some v3 ∧ w.cell? ⟨g, 4, none⟩ = some v4 ∧ w.cell? ⟨g, 5, none⟩ = some v5 := ⟨(blk_cell h 0).trans rfl, (blk_cell h 1).trans rfl, (blk_cell h 2).trans rfl, (blk_cell h 3).trans rfl, (blk_cell h 4).trans rfl, (blk_cell h 5).trans rfl⟩
abbrev C2 (g : Nat) (v0 v1 : Value) (w : World) : Prop := w.cell? ⟨g, 0, none⟩ = some v0 ∧ w.cell? ⟨g, 1, none⟩ = some v1
abbrev C3 (g : Nat) (v0 v1 v2 : Value) (w : World) : Prop := w.cell? ⟨g, 0, none⟩ = some v0 ∧ w.cell? ⟨g, 1, none⟩ = some v1 ∧ w.cell? ⟨g, 2, none⟩ = some v2
abbrev C4 (g : Nat) (v0 v1 v2 v3 : Value) (w : World) : Prop := w.cell? ⟨g, 0, none⟩ = some v0 ∧ w.cell? ⟨g, 1, none⟩ = some v1 ∧ w.cell? ⟨g, 2, none⟩ = some v2 ∧ w.cell? ⟨g, 3, none⟩ = some v3
abbrev C5 (g : Nat) (v0 v1 v2 v3 v4 : Value) (w : World) : Prop := w.cell? ⟨g, 0, none⟩ = some v0 ∧ w.cell? ⟨g, 1, none⟩ = some v1 ∧ w.cell? ⟨g, 2, none⟩ = some v2 ∧ w.cell? ⟨g, 3, none⟩ = some v3 ∧ w.cell? ⟨g, 4, none⟩ = some v4
theorem lets {α β : Type} {x : α} {f : α → Option β} {r : β} (h : (Option.some x).bind f = some r) : ∃ y, y = x ∧ f y = some r := ⟨x, rfl, h⟩
theorem nm {P : Program} {ops : Array Oper} {Q : Exit → Act → World → Prop} {S : World → Prop} {ds : List Nat} {md : Region.Mode} {fuel : Nat} {l : Array Bool} {a a' : Act} {v : Value} {w : World} (N : Tmp) (h : wpAnyLast P md ops Q S ds fuel l a' w)
    (ha : Act.put a (some N) v = a' := by (simp only [Act.put, List.setIfInBounds_toArray, List.set_cons_zero, List.set_cons_succ, i64_w, i32_w]; rfl)) : wpAnyLast P md ops Q S ds fuel l (Act.put a (some N) v) w := norm_ ha h
end Go.Proofs.Ytlmegefdnkjcbaa.Pa
