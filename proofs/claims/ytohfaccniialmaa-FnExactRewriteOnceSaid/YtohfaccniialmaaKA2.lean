/- A machine of values, which answers as the program does (part 2). -/
import Derived.Test.YtohfaccniialmaaKA1
import Derived.ProofKit
import Derived.OpenShut
import Derived.ShutString
import Derived.ChangeOld
import Derived.Below
import Derived.Deep.Slices
import Derived.DataReads
import Derived.IntWalk
section
/- What an argument that reads as data is for the machine of values. -/
namespace Go.Proofs.Ytohfaccniialmaa.Am
open Go Go.RowKit Go.Deep Go.ChangeShapes
set_option linter.constructorNameAsVariable false
set_option linter.unusedVariables false
set_option linter.unusedSimpArgs false

/-- what is known of data that is read -/
def Qd : (t : Ty) → t.D → Prop
  | .i k, n => (Lit.int k n).wf = true
  | .b, _ => True
  | .s, x => x.size ≤ maxLen
  | .u, _ => True
  | .pr a b, x => Qd a x.1 ∧ Qd b x.2
  | .sl t, xs => xs.length ≤ maxLen ∧ ∀ x, x ∈ xs → Qd t x
/-- the fields lie one behind the other -/
def layB (P : Program) : Nat → TypeId → Bool
  | 0, _ => false
  | n + 1, t => match P.underlying t with
    | some (.slice e) => match tyOf P n e with | some u => Nat.beq (P.cellsOf e) u.sz && (Nat.blt 0 u.sz && layB P n e) | none => false
    | some (.struct fs) => layF (layB P n) (tyOf P n) P 0 fs.toList && (match fieldsTy (tyOf P n) fs.toList with | some u => Nat.beq (P.cellsOf t) u.sz | none => false)
    | _ => true
  where
  layF (lay : TypeId → Bool) (ty : TypeId → Option Ty) (P : Program) : Nat → List Field → Bool
  | _, [] => true
  | off, f :: r => match ty f.type with
    | some u => Nat.beq f.offset off && (Nat.beq (P.cellsOf f.type) u.sz && (lay f.type && layF lay ty P (off + u.sz) r))
    | none => false

section
variable {H : Type} {enc : TypeId × Value → H} {P : Program} {w : World} {base : Nat} {spare : Nat → Bool} {held : Bool} {c : Cx}
def CellsV (c : Cx) (w : World) (cs : List Value) (t : Ty) (x : t.D) : Prop := cs.length = t.sz ∧ ∀ (j : Nat) (a : AV), (view t x)[j]? = some a → V c w a (cs.getD j undef) ∧ (cs.getD j undef).oneCell' = true
theorem cellsV_one {t : Ty} {x : t.D} {a : AV} {v : Value} (hv : view t x = [a]) (hs : t.sz = 1) (h : V c w a v) (h1 : v.oneCell' = true) : CellsV c w [v] t x :=
  ⟨hs.symm, fun j b hj => by
    rw [hv] at hj
    cases j with
    | zero => simp at hj; subst hj; exact ⟨h, h1⟩
    | succ j => simp at hj⟩
theorem list_of' {α : Type} (R : Nat → α → Prop) : ∀ n : Nat, (∀ i, i < n → ∃ x, R i x) → ∃ xs : List α, xs.length = n ∧ ∀ i x, xs[i]? = some x → R i x
  | 0, _ => ⟨[], rfl, fun i x h => by simp at h⟩
  | n + 1, h => by
    obtain ⟨xs, hl, hx⟩ := list_of' R n (fun i hi => h i (by omega))
    obtain ⟨x, hr⟩ := h n (by omega)
    refine ⟨xs ++ [x], by simp [hl], fun i y hy => ?_⟩
    rcases Nat.lt_or_ge i xs.length with hi | hi
    · rw [List.getElem?_append_left hi] at hy
      exact hx i y hy
    · have hlt := (List.getElem?_eq_some_iff.1 hy).1
      rw [List.length_append, List.length_singleton] at hlt
      obtain rfl : i = xs.length := by omega
      simp at hy
      subst hy
      rw [hl]
      exact hr

/-- data that is read at a type -/
theorem trod_V (hF : ∀ b, b < w.heap.size → c.F b) : ∀ (n : Nat) (t : TypeId) (u : Ty), tyOf P n t = some u → layB P n t = true → ∀ (m : Nat) (cs : List Value) (y : DataW H × List MemPlace), DataW.trod enc P w base spare held m t cs = some y → ∃ x : u.D, Qd u x ∧ CellsV c w cs u x
  | 0, t, u, h, _, _, _, _, _ => by simp [tyOf] at h
  | n + 1, t, u, ht, hl, m, cs, y, h => by
    simp only [tyOf] at ht
    simp only [layB] at hl
    split at ht
    · rename_i k hu
      simp only [Option.some.injEq] at ht
      subst ht
      obtain ⟨x, rfl, _, hw⟩ := DataW.trod_int hu h
      exact ⟨x, hw, cellsV_one rfl rfl (.i k x) rfl⟩
    · rename_i hu
      simp only [Option.some.injEq] at ht
      subst ht
      obtain ⟨x, rfl, _⟩ := DataW.trod_bool hu h
      exact ⟨x, trivial, cellsV_one rfl rfl (.b x) rfl⟩
    · rename_i hu
      simp only [Option.some.injEq] at ht
      subst ht
      obtain ⟨x, rfl, _, hw⟩ := DataW.trod_string hu h
      exact ⟨x, hw, cellsV_one rfl rfl (.s x) rfl⟩
    · rename_i e hu
      rw [hu] at hl
      simp only at hl
      split at ht
      · rename_i v hv
        simp only [Option.some.injEq] at ht
        subst ht
        rw [hv] at hl
        simp only [Bool.and_eq_true] at hl
        obtain ⟨hc, hpos, hle⟩ := hl
        have hc := Nat.eq_of_beq_eq_true hc
        have hpos : 0 < v.sz := Nat.le_of_ble_eq_true hpos
        rcases open_slice hu h with ⟨rfl, _⟩ | ⟨a, len, cap, mm, k, D, Pl, rfl, _, hlc, hm, hmm, _, hi⟩
        · exact ⟨([] : List v.D), ⟨by simp, fun x hx => by cases hx⟩, cellsV_one (t := .sl v) rfl rfl (.lst v [] none 0 (fun _ => undef) (Nat.le_refl _) (fun h0 => by simp at h0) (fun j x hx => by simp at hx)) rfl⟩
        · have hlm : len ≤ mm := by rw [hmm]; split <;> omega
          obtain ⟨xs, hxl, hx⟩ := list_of' (fun i (x : v.D) => ∃ cs', w.cells? base (a.add (i * P.cellsOf e)) (P.cellsOf e) = some cs' ∧ Qd v x ∧ CellsV c w cs' v x) len (fun i hlt => by
            obtain ⟨cs', hcs, hk⟩ := hi i (by omega)
            obtain ⟨x, h1, h2⟩ := trod_V hF n e v hv hle _ _ _ hk
            exact ⟨x, cs', hcs, h1, h2⟩)
          subst hxl
          have elt : ∀ (j q : Nat) (x : v.D), xs[j]? = some x → q < v.sz → ∃ u, w.cell? (a.add (j * v.sz + q)) = some u ∧ u.oneCell' = true ∧ ∀ b, (view v x)[q]? = some b → V c w b u := fun j q x hj hq => by
            obtain ⟨cs', hcs, _, hcv1, hcv2⟩ := hx j x hj
            rw [hc] at hcs
            obtain ⟨_, hcl, hat⟩ := World.cells?_some hcs
            have := hat q hq
            rw [Deep.add_add] at this
            have hql : q < cs'.length := by rw [hcl]; exact hq
            have hvl : q < (view v x).length := by rw [view_len]; exact hq
            have h2 := hcv2 q _ (List.getElem?_eq_getElem hvl)
            refine ⟨cs'.getD q undef, by rw [this, List.getElem?_eq_getElem hql, List.getD_eq_getElem?_getD, List.getElem?_eq_getElem hql]; rfl, h2.2, fun b hb => (hcv2 q b hb).1⟩
          have key : V c w (.lst v xs) (.slice (some a) xs.length cap) := by
            refine .lst v xs (some a) cap (fun j => (w.cell? (a.add j)).getD undef) hlc (fun h0 => ⟨a, rfl, ?_, fun j hj => ?_⟩) (fun j x hj q b hb => ?_)
            · have hx0 : xs[0]? = some xs[0] := List.getElem?_eq_getElem h0
              obtain ⟨u, hcell, _⟩ := elt 0 0 _ hx0 hpos
              rw [World.cell?] at hcell
              refine hF _ ?_
              have hb : (a.add (0 * v.sz + 0)).block = a.block := add_block' _ _
              rw [hb] at hcell
              cases hh : w.heap[a.block]? with
              | none => rw [hh] at hcell; simp at hcell
              | some o => exact (Array.getElem?_eq_some_iff.1 hh).1
            · have hjn : j / v.sz < xs.length := (Nat.div_lt_iff_lt_mul hpos).2 hj
              obtain ⟨u, hcell, h1, _⟩ := elt (j / v.sz) (j % v.sz) _ (List.getElem?_eq_getElem hjn) (Nat.mod_lt _ hpos)
              have hidx : j / v.sz * v.sz + j % v.sz = j := by rw [Nat.mul_comm]; exact Nat.div_add_mod j v.sz
              rw [hidx] at hcell
              rw [hcell]
              exact ⟨rfl, h1⟩
            · have hq : q < v.sz := by rw [← view_len v x]; exact (List.getElem?_eq_some_iff.1 hb).1
              obtain ⟨u, hcell, _, hV⟩ := elt j q x hj hq
              show V c w b ((w.cell? (a.add (j * v.sz + q))).getD undef)
              rw [hcell]
              exact hV b hb
          refine ⟨xs, ⟨by omega, fun x hmem => ?_⟩, cellsV_one (t := .sl v) rfl rfl key rfl⟩
          obtain ⟨i, hil, hi'⟩ := List.getElem_of_mem hmem
          obtain ⟨_, _, hq, _⟩ := hx i x (by rw [List.getElem?_eq_getElem hil, hi'])
          exact hq
      · cases ht
    · rename_i fs hu
      rw [hu] at hl
      simp only [Bool.and_eq_true] at hl
      rw [ht] at hl
      obtain ⟨hl, hsz⟩ := hl
      have hsz := Nat.eq_of_beq_eq_true hsz
      obtain ⟨ys, k, _, _, hcl, hyl, hf⟩ := DataW.trod_struct hu h
      -- field by field
      have go : ∀ (l : List Field) (off i : Nat) (u : Ty), (∀ j, l[j]? = fs[i + j]?) → fieldsTy (tyOf P n) l = some u → layB.layF (layB P n) (tyOf P n) P off l = true → off + u.sz ≤ cs.length → ∃ x : u.D, Qd u x ∧ CellsV c w ((cs.drop off).take u.sz) u x := by
        intro l
        induction l with
        | nil =>
          intro off i u _ hu _ _
          simp only [fieldsTy, Option.some.injEq] at hu
          subst hu
          exact ⟨(), trivial, by simp [Ty.sz], fun j a hj => by simp [view] at hj⟩
        | cons f r ih =>
          intro off i u hfs hu hlf hle
          have hf0 : fs[i]? = some f := by simpa using (hfs 0).symm
          simp only [layB.layF] at hlf
          split at hlf
          case h_2 => cases hlf
          rename_i v hv
          simp only [Bool.and_eq_true] at hlf
          obtain ⟨ho, hsz, hly, hrest⟩ := hlf
          have ho := Nat.eq_of_beq_eq_true ho
          have hsz := Nat.eq_of_beq_eq_true hsz
          have one : ∃ x : v.D, Qd v x ∧ CellsV c w ((cs.drop off).take v.sz) v x := by
            have h1 := hf i f hf0
            have hil : i < ys.length := by rw [hyl]; exact (Array.getElem?_eq_some_iff.1 hf0).1
            rw [ho, hsz, List.getElem?_eq_getElem hil] at h1
            exact trod_V hF n f.type v hv hly _ _ _ h1
          cases r with
          | nil =>
            simp only [fieldsTy] at hu
            rw [hv] at hu
            cases hu
            exact one
          | cons g q =>
            simp only [fieldsTy] at hu
            rw [hv] at hu
            split at hu
            · rename_i a b ha hb
              cases ha
              simp only [Option.some.injEq] at hu
              subst hu
              simp only [Ty.sz] at hle
              obtain ⟨x, qx, cx1, cx2⟩ := one
              obtain ⟨z, qz, cz1, cz2⟩ := ih (off + v.sz) (i + 1) b (fun j => by
                have := hfs (j + 1)
                rw [List.getElem?_cons_succ] at this
                rw [this]
                congr 1
                omega) hb hrest (by omega)
              refine ⟨(x, z), ⟨qx, qz⟩, ?_, fun j a hj => ?_⟩
              · rw [List.length_take, List.length_drop]
                simp only [Ty.sz]
                omega
              · simp only [view, List.getElem?_append] at hj
                have gd : ∀ (o s i : Nat), i < s → o + s ≤ cs.length → ((cs.drop o).take s).getD i undef = cs.getD (o + i) undef := fun o s i h1 h2 => by
                  rw [List.getD_eq_getElem?_getD, List.getD_eq_getElem?_getD, List.getElem?_take_of_lt h1, List.getElem?_drop]
                rw [view_len] at hj
                split at hj
                · rename_i hlt
                  have := cx2 j a hj
                  rw [gd _ _ _ hlt (by omega)] at this
                  rw [gd _ _ _ (by simp only [Ty.sz]; omega) (by simp only [Ty.sz]; omega)]
                  exact this
                · rename_i hlt
                  have hjb : j - v.sz < b.sz := by rw [← view_len b z]; exact (List.getElem?_eq_some_iff.1 hj).1
                  have := cz2 (j - v.sz) a hj
                  rw [gd _ _ _ hjb (by omega), show off + v.sz + (j - v.sz) = off + j by omega] at this
                  rw [gd _ _ _ (by simp only [Ty.sz]; omega) (by simp only [Ty.sz]; omega)]
                  exact this
            · cases hu
      obtain ⟨x, q, cv⟩ := go fs.toList 0 0 u (fun j => by simp) ht hl (by rw [hcl, hsz]; omega)
      rw [List.drop_zero, List.take_of_length_le (by rw [hcl, hsz]; exact Nat.le_refl _)] at cv
      exact ⟨x, q, cv⟩
    · cases ht
/-- an argument: its value, and what is known of it -/
theorem trod_arg (hF : ∀ b, b < w.heap.size → c.F b) {n : Nat} {t : TypeId} {u : Ty} {agg : Bool} (ht : tyOf P n t = some u) (hl : layB P n t = true) (ha : aggT P t = some agg) {v : Value} (hv : agg = true → ∃ vs, v = .agg vs) (hn : agg = false → u.sz = 1 ∧ ∃ x, v.cells = #[x] ∧ v = x) {m : Nat} {y : DataW H × List MemPlace} (h : DataW.trod enc P w base spare held m t v.cells.toList = some y) :
    ∃ x : u.D, Qd u x ∧ V c w (mkP agg u x) v := by
  obtain ⟨x, q, hc, hV⟩ := trod_V hF n t u ht hl m _ y h
  refine ⟨x, q, ?_⟩
  have gd : ∀ j, v.cells.toList.getD j undef = v.cells.getD j undef := fun j => by simp [Array.getD_eq_getD_getElem?, List.getD_eq_getElem?_getD]
  cases agg with
  | true =>
    obtain ⟨vs, rfl⟩ := hv rfl
    have hc : vs.size = u.sz := by simpa [Value.cells] using hc
    refine .agg (view u x) vs (by rw [hc, view_len]) (fun j hj => ?_) fun j a hj => ?_
    · have := hV j _ (List.getElem?_eq_getElem hj)
      rw [gd] at this
      exact this.2
    · have := hV j a hj
      rw [gd] at this
      exact this.1
  | false =>
    obtain ⟨hs, z, hz, rfl⟩ := hn rfl
    simp only [mkP]
    split
    · rename_i a hva
      have := (hV 0 a (by rw [hva]; rfl)).1
      rw [gd, hz] at this
      exact this
    · exact .bad _
end
/-- what a law's function answers, in a world -/
theorem calls_of {P : Program} {f : FuncId} {as : List AV} {r : Ret} {vs : Array Value} {w : World} (hA : ACalls P f as [] r) (hs : vs.size = as.length) (hv : ∀ j a, as[j]? = some a → V ⟨fun _ => none, fun b => b < w.heap.size⟩ w a (vs.getD j undef)) (hr : ∃ x, r.1 = .b x) :
    Calls P f vs w fun e w' => e = .returned (match r.1 with | .b x => .bool x | _ => undef) ∧ Below w.heap.size w w' := by
  obtain ⟨x, hx⟩ := hr
  refine (hA ⟨fun _ => none, fun b => b < w.heap.size⟩ w vs hs hv ⟨rfl, rfl, rfl, Nat.le_refl _, fun _ _ _ => rfl, fun o x h => (by simp [obL] at h), fun o i h => (by cases h), fun o o' x x' i i' b h => (by simp [obL] at h), fun b h => h, fun o x i b h => (by simp [obL] at h), fun b h => h, fun b h => .inl h⟩).mono fun e w' ⟨v, c', he, hv', hm, _⟩ => ?_
  rw [hx] at hv' ⊢
  cases hv'
  refine ⟨he, hm.os, hm.tape, hm.output, hm.size, fun k hk => hm.frame k hk fun ⟨o, y, i, h1, _⟩ => (by simp [obL] at h1)⟩
theorem vals_nil {c : Cx} {w : World} : ∀ (j : Nat) (b : AV), ([] : List AV)[j]? = some b → V c w b (([] : List Value).getD j undef) := fun j b h => by simp at h
theorem vals_cons {c : Cx} {w : World} {a : AV} {as : List AV} {v : Value} {vs : List Value} (h : V c w a v) (hr : ∀ (j : Nat) (b : AV), as[j]? = some b → V c w b (vs.getD j undef)) : ∀ (j : Nat) (b : AV), (a :: as)[j]? = some b → V c w b ((v :: vs).getD j undef) := fun j b hj => by
  cases j with
  | zero => simp at hj; subst hj; exact h
  | succ j => exact hr j b (by simpa using hj)
theorem calls_ofL {P : Program} {f : FuncId} {as : List AV} {r : Ret} {vs : List Value} {w : World} {x : Bool} (hA : ACalls P f as [] r) (hx : r.1 = .b x) (hs : vs.length = as.length) (hv : ∀ (j : Nat) (a : AV), as[j]? = some a → V ⟨fun _ => none, fun b => b < w.heap.size⟩ w a (vs.getD j undef)) :
    Calls P f vs.toArray w fun e w' => e = .returned (.bool x) ∧ Below w.heap.size w w' := by
  refine (calls_of hA (by simpa using hs) (fun j a ha => ?_) ⟨x, hx⟩).mono fun e w' h => ?_
  · have := hv j a ha
    rwa [show vs.toArray.getD j undef = vs.getD j undef by simp [Array.getD_eq_getD_getElem?, List.getD_eq_getElem?_getD]]
  · rw [hx] at h
    exact h
end Go.Proofs.Ytohfaccniialmaa.Am
end
section
/- From some number of rounds on: what a function answers. -/
namespace Go.Proofs.Ytohfaccniialmaa.Am
open Go
set_option linter.unusedVariables false
set_option linter.unusedSimpArgs false

def Ev {α : Type} (f : Nat → Option α) (a : α) : Prop := ∃ n, ∀ k, n ≤ k → f k = some a
section
variable {α β : Type} {f g : Nat → Option α} {a : α}
theorem br_t {x : Bool} {p q : Option α} (h : x = true) : br x p q = p := by rw [h]; rfl
theorem br_f {x : Bool} {p q : Option α} (h : x = false) : br x p q = q := by rw [h]; rfl
theorem bd_some {x : Option α} {f : α → Option β} {a : α} (h : x = some a) : bd x f = f a := by rw [h]; rfl
theorem gt_some {xs : List α} {j : Nat} {f : α → Option β} {a : α} (h : xs[j]? = some a) : gt xs j f = f a := by unfold gt; rw [h]
theorem both_self {x : Option α} : both x x = x := by
  unfold both
  split <;> rename_i h _
  · rfl
  · exact absurd rfl h
theorem both_eq {x y : Option α} {a : α} (h : x = some a) (k : y = some a) : both x y = some a := by rw [h, k]; exact both_self
theorem Ev.step (h : ∀ k, f (k + 1) = g k) (e : Ev g a) : Ev f a := by
  obtain ⟨n, e⟩ := e
  refine ⟨n + 1, fun k hk => ?_⟩
  obtain ⟨m, rfl⟩ : ∃ m, k = m + 1 := ⟨k - 1, by omega⟩
  rw [h m]
  exact e m (by omega)
theorem Ev.now (a : α) : Ev (fun _ => some a) a := ⟨0, fun _ _ => rfl⟩
theorem Ev.ret {a b : α} (h : a = b) : Ev (fun _ => some a) b := h ▸ Ev.now a
theorem Ev.eq {b : α} (e : Ev f a) (h : a = b) : Ev f b := h ▸ e
theorem Ev.pos {x : Bool} (h : x = true) (e : Ev f a) : Ev (fun k => br x (f k) (g k)) a := by
  obtain ⟨n, e⟩ := e
  exact ⟨n, fun k hk => (br_t h).trans (e k hk)⟩
theorem Ev.neg {x : Bool} (h : x = false) (e : Ev g a) : Ev (fun k => br x (f k) (g k)) a := by
  obtain ⟨n, e⟩ := e
  exact ⟨n, fun k hk => (br_f h).trans (e k hk)⟩
theorem Ev.bind {f : Nat → Option β} {g : Nat → β → Option α} {b : β} (e : Ev f b) (h : Ev (fun k => g k b) a) : Ev (fun k => bd (f k) (g k)) a := by
  obtain ⟨n, e⟩ := e
  obtain ⟨m, h⟩ := h
  exact ⟨n + m, fun k hk => (bd_some (e k (by omega))).trans (h k (by omega))⟩
/-- a callee without rounds -/
theorem Ev.here {x : Option β} {g : Nat → β → Option α} {b : β} (e : x = some b) (h : Ev (fun k => g k b) a) : Ev (fun k => bd x (g k)) a := by
  obtain ⟨m, h⟩ := h
  exact ⟨m, fun k hk => (bd_some e).trans (h k hk)⟩
theorem Ev.at {xs : List β} {j : Nat} {g : Nat → β → Option α} {b : β} (e : xs[j]? = some b) (h : Ev (fun k => g k b) a) : Ev (fun k => gt xs j (g k)) a := by
  obtain ⟨m, h⟩ := h
  exact ⟨m, fun k hk => (gt_some e).trans (h k hk)⟩
/-- a place of a list, at a number that counts -/
theorem Ev.get {xs : List β} {i : Nat} {g : Nat → β → Option α} (hi : i < xs.length) (h : Ev (fun k => g k xs[i]) a) : Ev (fun k => gt xs (Int.toNat (i : Int)) (g k)) a :=
  Ev.at (by rw [Int.toNat_natCast]; exact List.getElem?_eq_getElem hi) h
theorem Ev.both (e : Ev f a) (h : Ev g a) : Ev (fun k => Am.both (f k) (g k)) a := by
  obtain ⟨n, e⟩ := e
  obtain ⟨m, h⟩ := h
  exact ⟨n + m, fun k hk => both_eq (e k (by omega)) (h k (by omega))⟩
theorem Ev.loop (n : Nat) (g : Nat → Nat → Option β) (R : Nat → β) (hend : Ev (fun k => g k n) (R n)) (hstep : ∀ i, i < n → Ev (fun k => g k (i + 1)) (R (i + 1)) → Ev (fun k => g k i) (R i)) : ∀ i, i ≤ n → Ev (fun k => g k i) (R i) := by
  intro i hi
  obtain ⟨d, hd⟩ : ∃ d, n = i + d := ⟨n - i, by omega⟩
  induction d generalizing i with
  | zero => obtain rfl : i = n := by omega
            exact hend
  | succ d ih => exact hstep i (by omega) (ih (i + 1) (by omega) (by omega))
theorem Ev.some (e : Ev f a) : ∃ k, f k = Option.some a := by
  obtain ⟨n, e⟩ := e
  exact ⟨n, e n (Nat.le_refl _)⟩
end
theorem wrap_ok {x : Int} (h0 : -9223372036854775808 ≤ x) (h1 : x ≤ 9223372036854775807) : IntKind.wrap .i64 x = x := by
  rw [IntKind.wrap_i64]
  omega
/-- a counter's next value, as the loops write it -/
theorem next_ok (i n : Nat) (h : i < n) (hn : n ≤ 9223372036854775000) : IntKind.wrap .i64 ((i : Int) + 1) = ((i + 1 : Nat) : Int) := by
  rw [wrap_ok (by omega) (by omega)]; rfl
theorem set_step {α : Type} (xs : List α) (z : α) (i : Nat) (h : i < xs.length) : (xs.take i ++ List.replicate (xs.length - i) z).set i xs[i] = xs.take (i + 1) ++ List.replicate (xs.length - (i + 1)) z := by
  obtain ⟨d, hd⟩ : ∃ d, xs.length - i = d + 1 := ⟨xs.length - i - 1, by omega⟩
  rw [hd, List.replicate_succ, List.set_append_right i _ (by rw [List.length_take]; omega), List.take_succ_eq_append_getElem h, List.append_assoc]
  rw [show i - (xs.take i).length = 0 from by rw [List.length_take]; omega, List.set_cons_zero, show xs.length - (i + 1) = d from by omega]
  rfl
theorem seq_iff {x y : ByteArray} : seq x y = true ↔ x = y := by
  unfold seq
  rw [beq_iff_eq]
  constructor
  · intro h
    cases x with | mk a => cases y with | mk b =>
      have : a.toList = b.toList := by simpa [ByteArray.toList_eq] using h
      rw [Array.toList_inj.1 this]
  · intro h; rw [h]
end Go.Proofs.Ytohfaccniialmaa.Am
end
section
/- From some number of rounds and some depth on: what a function that calls itself answers. -/
namespace Go.Proofs.Ytohfaccniialmaa.Am
open Go
set_option linter.unusedVariables false
set_option linter.unusedSimpArgs false

def Ew {α : Type} (f : Nat → Nat → Option α) (a : α) : Prop := ∃ n, ∀ d k, n ≤ d → n ≤ k → f d k = some a
section
variable {α β : Type} {f g : Nat → Nat → Option α} {a : α}
theorem Ew.ev (e : Ew f a) : Ev (fun k => f k k) a := by
  obtain ⟨n, e⟩ := e
  exact ⟨n, fun k hk => e k k hk hk⟩
theorem Ev.ew {f : Nat → Option α} (e : Ev f a) : Ew (fun _ k => f k) a := by
  obtain ⟨n, e⟩ := e
  exact ⟨n, fun d k _ hk => e k hk⟩
/-- a call of itself -/
theorem Ew.deep (h : ∀ d k, f (d + 1) (k + 1) = g d k) (e : Ew g a) : Ew f a := by
  obtain ⟨n, e⟩ := e
  refine ⟨n + 1, fun d k hd hk => ?_⟩
  obtain ⟨m, rfl⟩ : ∃ m, k = m + 1 := ⟨k - 1, by omega⟩
  obtain ⟨c, rfl⟩ : ∃ c, d = c + 1 := ⟨d - 1, by omega⟩
  rw [h c m]
  exact e c m (by omega) (by omega)
/-- a round -/
theorem Ew.step (h : ∀ d k, f d (k + 1) = g d k) (e : Ew g a) : Ew f a := by
  obtain ⟨n, e⟩ := e
  refine ⟨n + 1, fun d k hd hk => ?_⟩
  obtain ⟨m, rfl⟩ : ∃ m, k = m + 1 := ⟨k - 1, by omega⟩
  rw [h d m]
  exact e d m (by omega) (by omega)
theorem Ew.now (a : α) : Ew (fun _ _ => some a) a := ⟨0, fun _ _ _ _ => rfl⟩
theorem Ew.ret {a b : α} (h : a = b) : Ew (fun _ _ => some a) b := h ▸ Ew.now a
theorem Ew.eq {b : α} (e : Ew f a) (h : a = b) : Ew f b := h ▸ e
theorem Ew.pos {x : Bool} (h : x = true) (e : Ew f a) : Ew (fun d k => br x (f d k) (g d k)) a := by
  obtain ⟨n, e⟩ := e
  exact ⟨n, fun d k hd hk => (br_t h).trans (e d k hd hk)⟩
theorem Ew.neg {x : Bool} (h : x = false) (e : Ew g a) : Ew (fun d k => br x (f d k) (g d k)) a := by
  obtain ⟨n, e⟩ := e
  exact ⟨n, fun d k hd hk => (br_f h).trans (e d k hd hk)⟩
theorem Ew.bind {f : Nat → Nat → Option β} {g : Nat → Nat → β → Option α} {b : β} (e : Ew f b) (h : Ew (fun d k => g d k b) a) : Ew (fun d k => bd (f d k) (g d k)) a := by
  obtain ⟨n, e⟩ := e
  obtain ⟨m, h⟩ := h
  exact ⟨n + m, fun d k hd hk => (bd_some (e d k (by omega) (by omega))).trans (h d k (by omega) (by omega))⟩
theorem Ew.here {x : Option β} {g : Nat → Nat → β → Option α} {b : β} (e : x = some b) (h : Ew (fun d k => g d k b) a) : Ew (fun d k => bd x (g d k)) a := by
  obtain ⟨m, h⟩ := h
  exact ⟨m, fun d k hd hk => (bd_some e).trans (h d k hd hk)⟩
theorem Ew.at {xs : List β} {j : Nat} {g : Nat → Nat → β → Option α} {b : β} (e : xs[j]? = some b) (h : Ew (fun d k => g d k b) a) : Ew (fun d k => gt xs j (g d k)) a := by
  obtain ⟨m, h⟩ := h
  exact ⟨m, fun d k hd hk => (gt_some e).trans (h d k hd hk)⟩
theorem Ew.get {xs : List β} {i : Nat} {g : Nat → Nat → β → Option α} (hi : i < xs.length) (h : Ew (fun d k => g d k xs[i]) a) : Ew (fun d k => gt xs (Int.toNat (i : Int)) (g d k)) a :=
  Ew.at (by rw [Int.toNat_natCast]; exact List.getElem?_eq_getElem hi) h
end
end Go.Proofs.Ytohfaccniialmaa.Am
end
section
/- What a function answers from some number of rounds on, as a value; the machine's words as words of Option. -/
namespace Go.Proofs.Ytohfaccniialmaa.Am
open Go
set_option linter.unusedVariables false
set_option linter.unusedSimpArgs false

section
variable {α β : Type}
theorem Ew.uniq {f : Nat → Nat → Option α} {a b : α} (h : Ew f a) (g : Ew f b) : a = b := by
  obtain ⟨n, h⟩ := h
  obtain ⟨m, g⟩ := g
  exact Option.some.inj ((h (n + m) (n + m) (by omega) (by omega)).symm.trans (g (n + m) (n + m) (by omega) (by omega)))
open Classical in
noncomputable def lim (f : Nat → Nat → Option α) : Option α := if h : ∃ a, Ew f a then some h.choose else none
theorem lim_eq {f : Nat → Nat → Option α} {a : α} (h : Ew f a) : lim f = some a := by
  have e : ∃ a, Ew f a := ⟨a, h⟩
  unfold lim
  rw [dif_pos e, Ew.uniq e.choose_spec h]
theorem lim_ew {f : Nat → Nat → Option α} {a : α} (h : lim f = some a) : Ew f a := by
  unfold lim at h
  split at h
  · rename_i e
    rw [← Option.some.inj h]; exact e.choose_spec
  · cases h
theorem lim_ev {f : Nat → Option α} {a : α} (h : lim (fun _ k => f k) = some a) : Ev f a := (lim_ew h).ev
theorem ev_lim {f : Nat → Option α} {a : α} (h : Ev f a) : lim (fun _ k => f k) = some a := lim_eq h.ew
/-- if the value on the right is there, f comes to it -/
def Lw (f : Nat → Nat → Option α) (x : Option α) : Prop := ∀ a, x = some a → Ew f a
theorem Lw.now (x : Option α) : Lw (fun _ _ => x) x := fun a h => ⟨0, fun _ _ _ _ => h⟩
theorem Lw.br {c : Bool} {f g : Nat → Nat → Option α} {x y : Option α} (hf : Lw f x) (hg : Lw g y) : Lw (fun d k => br c (f d k) (g d k)) (br c x y) := by
  cases c
  · exact hg
  · exact hf
theorem Lw.bd {f : Nat → Nat → Option β} {g : Nat → Nat → β → Option α} {x : Option β} {y : β → Option α} (hf : Lw f x) (hg : ∀ b, Lw (fun d k => g d k b) (y b)) : Lw (fun d k => bd (f d k) (g d k)) (bd x y) := by
  intro a h
  cases x with
  | none => cases h
  | some b => exact Ew.bind (hf b rfl) (hg b a h)
theorem Lw.gt {xs : List β} {j : Nat} {g : Nat → Nat → β → Option α} {y : β → Option α} (hg : ∀ b, Lw (fun d k => g d k b) (y b)) : Lw (fun d k => gt xs j (g d k)) (gt xs j y) := by
  intro a h
  unfold Am.gt at h
  split at h
  · rename_i b e; exact Ew.at e (hg b a h)
  · cases h
theorem Lw.both {f g : Nat → Nat → Option α} {x y : Option α} (hf : Lw f x) (hg : Lw g y) : Lw (fun d k => both (f d k) (g d k)) (both x y) := by
  intro a h
  unfold Am.both at h
  split at h
  · rename_i e _
    obtain ⟨n, p⟩ := hf a h
    obtain ⟨m, q⟩ := hg a (e ▸ h)
    exact ⟨n + m, fun d k hd hk => both_eq (p d k (by omega) (by omega)) (q d k (by omega) (by omega))⟩
  · cases h
theorem Lw.lim (f : Nat → Nat → Option α) : Lw f (lim f) := fun a h => lim_ew h
theorem Lw.diag {F : Nat → Nat → Option α} {f : Nat → Option α} (h : ∀ k, f k = F k k) : Lw (fun _ k => f k) (Am.lim F) := fun a e => by
  obtain ⟨n, p⟩ := lim_ew e
  exact ⟨n, fun _ k _ hk => (h k).trans (p k k hk hk)⟩
/-- a call -/
theorem vstep {f g : Nat → Nat → Option α} {x : Option α} {a : α} (h : ∀ d k, f d (k + 1) = g d k) (e : x = some a) (le : Lw g x := by
  repeat' first
    | with_reducible exact Lw.now _
    | with_reducible apply Lw.br
    | with_reducible refine Lw.bd ?_ fun _ => ?_
    | with_reducible refine Lw.gt fun _ => ?_
    | with_reducible apply Lw.both
    | exact Lw.lim _
    | exact Lw.diag fun _ => rfl) : Am.lim f = some a := lim_eq (Ew.step h (le a e))
theorem vdeep {f g : Nat → Nat → Option α} {x : Option α} {a : α} (h : ∀ d k, f (d + 1) (k + 1) = g d k) (e : x = some a) (le : Lw g x := by
  repeat' first
    | with_reducible exact Lw.now _
    | with_reducible apply Lw.br
    | with_reducible refine Lw.bd ?_ fun _ => ?_
    | with_reducible refine Lw.gt fun _ => ?_
    | with_reducible apply Lw.both
    | exact Lw.lim _
    | exact Lw.diag fun _ => rfl) : Am.lim f = some a := lim_eq (Ew.deep h (le a e))
@[simp] theorem br_if (c : Bool) (x y : Option α) : br c x y = if c = true then x else y := by cases c <;> rfl
@[simp] theorem bd_s (a : β) (f : β → Option α) : bd (some a) f = f a := rfl
@[simp] theorem bd_n (f : β → Option α) : bd none f = none := rfl
theorem gt_at {xs : List β} {j : Nat} (f : β → Option α) (h : j < xs.length) : gt xs j f = f xs[j] := gt_some (List.getElem?_eq_getElem h)
@[simp] theorem gt_zero (x : β) (xs : List β) (f : β → Option α) : gt (x :: xs) 0 f = f x := rfl
@[simp] theorem gt_one (x y : β) (xs : List β) (f : β → Option α) : gt (x :: y :: xs) 1 f = f y := rfl
@[simp] theorem both_same (x : Option α) : both x x = x := both_self
theorem bd_ite (c : Prop) [Decidable c] (x y : Option β) (f : β → Option α) : bd (if c then x else y) f = if c then bd x f else bd y f := by split <;> rfl
/-- rounds over the places of a row: L i s answers what P tells of the rest of the row -/
theorem rounds {σ : Type} {xs : List β} (L : Nat → σ → Option α) (P : List β → σ → α) (Inv : Nat → σ → Prop)
    (hend : ∀ s, Inv xs.length s → L xs.length s = some (P [] s))
    (hstep : ∀ i (h : i < xs.length) s, Inv i s → (∀ s', Inv (i + 1) s' → L (i + 1) s' = some (P (xs.drop (i + 1)) s')) → L i s = some (P (xs[i] :: xs.drop (i + 1)) s)) :
    ∀ i, i ≤ xs.length → ∀ s, Inv i s → L i s = some (P (xs.drop i) s) := by
  intro i hi
  obtain ⟨d, hd⟩ : ∃ d, xs.length = i + d := ⟨xs.length - i, by omega⟩
  induction d generalizing i with
  | zero =>
    intro s hs
    obtain rfl : i = xs.length := by omega
    rw [List.drop_length]; exact hend s hs
  | succ d ih =>
    intro s hs
    have hlt : i < xs.length := by omega
    rw [List.drop_eq_getElem_cons hlt]
    exact hstep i hlt s hs fun s' hs' => ih (i + 1) (by omega) (by omega) s' hs'
/-- rounds that count -/
theorem counts {σ : Type} {n : Nat} (L : Nat → σ → Option α) (P : Nat → σ → α) (Inv : Nat → σ → Prop)
    (hend : ∀ s, Inv n s → L n s = some (P n s))
    (hstep : ∀ i, i < n → ∀ s, Inv i s → (∀ s', Inv (i + 1) s' → L (i + 1) s' = some (P (i + 1) s')) → L i s = some (P i s)) :
    ∀ i, i ≤ n → ∀ s, Inv i s → L i s = some (P i s) := by
  intro i hi
  obtain ⟨d, hd⟩ : ∃ d, n = i + d := ⟨n - i, by omega⟩
  induction d generalizing i with
  | zero =>
    intro s hs
    obtain rfl : i = n := by omega
    exact hend s hs
  | succ d ih =>
    intro s hs
    exact hstep i (by omega) s hs fun s' hs' => ih (i + 1) (by omega) (by omega) s' hs'
end
theorem wrap_next (i n : Nat) (h : i < n) (hn : n ≤ 9223372036854775000) : IntKind.wrap .i64 ((i : Int) + 1) = ((i + 1 : Nat) : Int) := next_ok i n h hn
end Go.Proofs.Ytohfaccniialmaa.Am
end
