/- What an argument that reads as data is for the machine of values. -/
import Derived.Test.YtohfaccniialmaaAmB
import Derived.ProofKit
import Derived.OpenShut
import Derived.ShutString
import Derived.ChangeOld
import Derived.Below
import Derived.Deep.Slices
import Derived.DataReads
namespace Go.Proofs.Ytohfaccniialmaa.Am
open Go Go.RowKit Go.Deep Go.ChangeShapes
set_option linter.constructorNameAsVariable false
set_option linter.unusedVariables false
set_option linter.unusedSimpArgs false

/-- what is known of data that is read -/
def Qd : (t : Ty) → t.D → Prop
  | .i k, n => (Lit.int k n).wf = true
  | .b, _ => True
  | .s, x => x.size ≤ maxLen
  | .u, _ => True
  | .pr a b, x => Qd a x.1 ∧ Qd b x.2
  | .sl t, xs => xs.length ≤ maxLen ∧ ∀ x, x ∈ xs → Qd t x
/-- the fields lie one behind the other -/
def layB (P : Program) : Nat → TypeId → Bool
  | 0, _ => false
  | n + 1, t => match P.underlying t with
    | some (.slice e) => match tyOf P n e with | some u => Nat.beq (P.cellsOf e) u.sz && (Nat.blt 0 u.sz && layB P n e) | none => false
    | some (.struct fs) => layF (layB P n) (tyOf P n) P 0 fs.toList && (match fieldsTy (tyOf P n) fs.toList with | some u => Nat.beq (P.cellsOf t) u.sz | none => false)
    | _ => true
  where
  layF (lay : TypeId → Bool) (ty : TypeId → Option Ty) (P : Program) : Nat → List Field → Bool
  | _, [] => true
  | off, f :: r => match ty f.type with
    | some u => Nat.beq f.offset off && (Nat.beq (P.cellsOf f.type) u.sz && (lay f.type && layF lay ty P (off + u.sz) r))
    | none => false

section
variable {H : Type} {enc : TypeId × Value → H} {P : Program} {w : World} {base : Nat} {spare : Nat → Bool} {held : Bool} {c : Cx}
def CellsV (c : Cx) (w : World) (cs : List Value) (t : Ty) (x : t.D) : Prop := cs.length = t.sz ∧ ∀ (j : Nat) (a : AV), (view t x)[j]? = some a → V c w a (cs.getD j undef) ∧ (cs.getD j undef).oneCell' = true
theorem cellsV_one {t : Ty} {x : t.D} {a : AV} {v : Value} (hv : view t x = [a]) (hs : t.sz = 1) (h : V c w a v) (h1 : v.oneCell' = true) : CellsV c w [v] t x :=
  ⟨hs.symm, fun j b hj => by
    rw [hv] at hj
    cases j with
    | zero => simp at hj; subst hj; exact ⟨h, h1⟩
    | succ j => simp at hj⟩
theorem list_of' {α : Type} (R : Nat → α → Prop) : ∀ n : Nat, (∀ i, i < n → ∃ x, R i x) → ∃ xs : List α, xs.length = n ∧ ∀ i x, xs[i]? = some x → R i x
  | 0, _ => ⟨[], rfl, fun i x h => by simp at h⟩
  | n + 1, h => by
    obtain ⟨xs, hl, hx⟩ := list_of' R n (fun i hi => h i (by omega))
    obtain ⟨x, hr⟩ := h n (by omega)
    refine ⟨xs ++ [x], by simp [hl], fun i y hy => ?_⟩
    rcases Nat.lt_or_ge i xs.length with hi | hi
    · rw [List.getElem?_append_left hi] at hy
      exact hx i y hy
    · have hlt := (List.getElem?_eq_some_iff.1 hy).1
      rw [List.length_append, List.length_singleton] at hlt
      obtain rfl : i = xs.length := by omega
      simp at hy
      subst hy
      rw [hl]
      exact hr

/-- data that is read at a type -/
theorem trod_V (hF : ∀ b, b < w.heap.size → c.F b) : ∀ (n : Nat) (t : TypeId) (u : Ty), tyOf P n t = some u → layB P n t = true → ∀ (m : Nat) (cs : List Value) (y : DataW H × List MemPlace), DataW.trod enc P w base spare held m t cs = some y → ∃ x : u.D, Qd u x ∧ CellsV c w cs u x
  | 0, t, u, h, _, _, _, _, _ => by simp [tyOf] at h
  | n + 1, t, u, ht, hl, m, cs, y, h => by
    simp only [tyOf] at ht
    simp only [layB] at hl
    split at ht
    · rename_i k hu
      simp only [Option.some.injEq] at ht
      subst ht
      obtain ⟨x, rfl, _, hw⟩ := DataW.trod_int hu h
      exact ⟨x, hw, cellsV_one rfl rfl (.i k x) rfl⟩
    · rename_i hu
      simp only [Option.some.injEq] at ht
      subst ht
      obtain ⟨x, rfl, _⟩ := DataW.trod_bool hu h
      exact ⟨x, trivial, cellsV_one rfl rfl (.b x) rfl⟩
    · rename_i hu
      simp only [Option.some.injEq] at ht
      subst ht
      obtain ⟨x, rfl, _, hw⟩ := DataW.trod_string hu h
      exact ⟨x, hw, cellsV_one rfl rfl (.s x) rfl⟩
    · rename_i e hu
      rw [hu] at hl
      simp only at hl
      split at ht
      · rename_i v hv
        simp only [Option.some.injEq] at ht
        subst ht
        rw [hv] at hl
        simp only [Bool.and_eq_true] at hl
        obtain ⟨hc, hpos, hle⟩ := hl
        have hc := Nat.eq_of_beq_eq_true hc
        have hpos : 0 < v.sz := Nat.le_of_ble_eq_true hpos
        rcases open_slice hu h with ⟨rfl, _⟩ | ⟨a, len, cap, mm, k, D, Pl, rfl, _, hlc, hm, hmm, _, hi⟩
        · exact ⟨([] : List v.D), ⟨by simp, fun x hx => by cases hx⟩, cellsV_one (t := .sl v) rfl rfl (.lst v [] none 0 (fun _ => undef) (Nat.le_refl _) (fun h0 => by simp at h0) (fun j x hx => by simp at hx)) rfl⟩
        · have hlm : len ≤ mm := by rw [hmm]; split <;> omega
          obtain ⟨xs, hxl, hx⟩ := list_of' (fun i (x : v.D) => ∃ cs', w.cells? base (a.add (i * P.cellsOf e)) (P.cellsOf e) = some cs' ∧ Qd v x ∧ CellsV c w cs' v x) len (fun i hlt => by
            obtain ⟨cs', hcs, hk⟩ := hi i (by omega)
            obtain ⟨x, h1, h2⟩ := trod_V hF n e v hv hle _ _ _ hk
            exact ⟨x, cs', hcs, h1, h2⟩)
          subst hxl
          have elt : ∀ (j q : Nat) (x : v.D), xs[j]? = some x → q < v.sz → ∃ u, w.cell? (a.add (j * v.sz + q)) = some u ∧ u.oneCell' = true ∧ ∀ b, (view v x)[q]? = some b → V c w b u := fun j q x hj hq => by
            obtain ⟨cs', hcs, _, hcv1, hcv2⟩ := hx j x hj
            rw [hc] at hcs
            obtain ⟨_, hcl, hat⟩ := World.cells?_some hcs
            have := hat q hq
            rw [Deep.add_add] at this
            have hql : q < cs'.length := by rw [hcl]; exact hq
            have hvl : q < (view v x).length := by rw [view_len]; exact hq
            have h2 := hcv2 q _ (List.getElem?_eq_getElem hvl)
            refine ⟨cs'.getD q undef, by rw [this, List.getElem?_eq_getElem hql, List.getD_eq_getElem?_getD, List.getElem?_eq_getElem hql]; rfl, h2.2, fun b hb => (hcv2 q b hb).1⟩
          have key : V c w (.lst v xs) (.slice (some a) xs.length cap) := by
            refine .lst v xs (some a) cap (fun j => (w.cell? (a.add j)).getD undef) hlc (fun h0 => ⟨a, rfl, ?_, fun j hj => ?_⟩) (fun j x hj q b hb => ?_)
            · have hx0 : xs[0]? = some xs[0] := List.getElem?_eq_getElem h0
              obtain ⟨u, hcell, _⟩ := elt 0 0 _ hx0 hpos
              rw [World.cell?] at hcell
              refine hF _ ?_
              have hb : (a.add (0 * v.sz + 0)).block = a.block := add_block' _ _
              rw [hb] at hcell
              cases hh : w.heap[a.block]? with
              | none => rw [hh] at hcell; simp at hcell
              | some o => exact (Array.getElem?_eq_some_iff.1 hh).1
            · have hjn : j / v.sz < xs.length := (Nat.div_lt_iff_lt_mul hpos).2 hj
              obtain ⟨u, hcell, h1, _⟩ := elt (j / v.sz) (j % v.sz) _ (List.getElem?_eq_getElem hjn) (Nat.mod_lt _ hpos)
              have hidx : j / v.sz * v.sz + j % v.sz = j := by rw [Nat.mul_comm]; exact Nat.div_add_mod j v.sz
              rw [hidx] at hcell
              rw [hcell]
              exact ⟨rfl, h1⟩
            · have hq : q < v.sz := by rw [← view_len v x]; exact (List.getElem?_eq_some_iff.1 hb).1
              obtain ⟨u, hcell, _, hV⟩ := elt j q x hj hq
              show V c w b ((w.cell? (a.add (j * v.sz + q))).getD undef)
              rw [hcell]
              exact hV b hb
          refine ⟨xs, ⟨by omega, fun x hmem => ?_⟩, cellsV_one (t := .sl v) rfl rfl key rfl⟩
          obtain ⟨i, hil, hi'⟩ := List.getElem_of_mem hmem
          obtain ⟨_, _, hq, _⟩ := hx i x (by rw [List.getElem?_eq_getElem hil, hi'])
          exact hq
      · cases ht
    · rename_i fs hu
      rw [hu] at hl
      simp only [Bool.and_eq_true] at hl
      rw [ht] at hl
      obtain ⟨hl, hsz⟩ := hl
      have hsz := Nat.eq_of_beq_eq_true hsz
      obtain ⟨ys, k, _, _, hcl, hyl, hf⟩ := DataW.trod_struct hu h
      -- field by field
      have go : ∀ (l : List Field) (off i : Nat) (u : Ty), (∀ j, l[j]? = fs[i + j]?) → fieldsTy (tyOf P n) l = some u → layB.layF (layB P n) (tyOf P n) P off l = true → off + u.sz ≤ cs.length → ∃ x : u.D, Qd u x ∧ CellsV c w ((cs.drop off).take u.sz) u x := by
        intro l
        induction l with
        | nil =>
          intro off i u _ hu _ _
          simp only [fieldsTy, Option.some.injEq] at hu
          subst hu
          exact ⟨(), trivial, by simp [Ty.sz], fun j a hj => by simp [view] at hj⟩
        | cons f r ih =>
          intro off i u hfs hu hlf hle
          have hf0 : fs[i]? = some f := by simpa using (hfs 0).symm
          simp only [layB.layF] at hlf
          split at hlf
          case h_2 => cases hlf
          rename_i v hv
          simp only [Bool.and_eq_true] at hlf
          obtain ⟨ho, hsz, hly, hrest⟩ := hlf
          have ho := Nat.eq_of_beq_eq_true ho
          have hsz := Nat.eq_of_beq_eq_true hsz
          have one : ∃ x : v.D, Qd v x ∧ CellsV c w ((cs.drop off).take v.sz) v x := by
            have h1 := hf i f hf0
            have hil : i < ys.length := by rw [hyl]; exact (Array.getElem?_eq_some_iff.1 hf0).1
            rw [ho, hsz, List.getElem?_eq_getElem hil] at h1
            exact trod_V hF n f.type v hv hly _ _ _ h1
          cases r with
          | nil =>
            simp only [fieldsTy] at hu
            rw [hv] at hu
            cases hu
            exact one
          | cons g q =>
            simp only [fieldsTy] at hu
            rw [hv] at hu
            split at hu
            · rename_i a b ha hb
              cases ha
              simp only [Option.some.injEq] at hu
              subst hu
              simp only [Ty.sz] at hle
              obtain ⟨x, qx, cx1, cx2⟩ := one
              obtain ⟨z, qz, cz1, cz2⟩ := ih (off + v.sz) (i + 1) b (fun j => by
                have := hfs (j + 1)
                rw [List.getElem?_cons_succ] at this
                rw [this]
                congr 1
                omega) hb hrest (by omega)
              refine ⟨(x, z), ⟨qx, qz⟩, ?_, fun j a hj => ?_⟩
              · rw [List.length_take, List.length_drop]
                simp only [Ty.sz]
                omega
              · simp only [view, List.getElem?_append] at hj
                have gd : ∀ (o s i : Nat), i < s → o + s ≤ cs.length → ((cs.drop o).take s).getD i undef = cs.getD (o + i) undef := fun o s i h1 h2 => by
                  rw [List.getD_eq_getElem?_getD, List.getD_eq_getElem?_getD, List.getElem?_take_of_lt h1, List.getElem?_drop]
                rw [view_len] at hj
                split at hj
                · rename_i hlt
                  have := cx2 j a hj
                  rw [gd _ _ _ hlt (by omega)] at this
                  rw [gd _ _ _ (by simp only [Ty.sz]; omega) (by simp only [Ty.sz]; omega)]
                  exact this
                · rename_i hlt
                  have hjb : j - v.sz < b.sz := by rw [← view_len b z]; exact (List.getElem?_eq_some_iff.1 hj).1
                  have := cz2 (j - v.sz) a hj
                  rw [gd _ _ _ hjb (by omega), show off + v.sz + (j - v.sz) = off + j by omega] at this
                  rw [gd _ _ _ (by simp only [Ty.sz]; omega) (by simp only [Ty.sz]; omega)]
                  exact this
            · cases hu
      obtain ⟨x, q, cv⟩ := go fs.toList 0 0 u (fun j => by simp) ht hl (by rw [hcl, hsz]; omega)
      rw [List.drop_zero, List.take_of_length_le (by rw [hcl, hsz]; exact Nat.le_refl _)] at cv
      exact ⟨x, q, cv⟩
    · cases ht
/-- an argument: its value, and what is known of it -/
theorem trod_arg (hF : ∀ b, b < w.heap.size → c.F b) {n : Nat} {t : TypeId} {u : Ty} {agg : Bool} (ht : tyOf P n t = some u) (hl : layB P n t = true) (ha : aggT P t = some agg) {v : Value} (hv : agg = true → ∃ vs, v = .agg vs) (hn : agg = false → u.sz = 1 ∧ ∃ x, v.cells = #[x] ∧ v = x) {m : Nat} {y : DataW H × List MemPlace} (h : DataW.trod enc P w base spare held m t v.cells.toList = some y) :
    ∃ x : u.D, Qd u x ∧ V c w (mkP agg u x) v := by
  obtain ⟨x, q, hc, hV⟩ := trod_V hF n t u ht hl m _ y h
  refine ⟨x, q, ?_⟩
  have gd : ∀ j, v.cells.toList.getD j undef = v.cells.getD j undef := fun j => by simp [Array.getD_eq_getD_getElem?, List.getD_eq_getElem?_getD]
  cases agg with
  | true =>
    obtain ⟨vs, rfl⟩ := hv rfl
    have hc : vs.size = u.sz := by simpa [Value.cells] using hc
    refine .agg (view u x) vs (by rw [hc, view_len]) (fun j hj => ?_) fun j a hj => ?_
    · have := hV j _ (List.getElem?_eq_getElem hj)
      rw [gd] at this
      exact this.2
    · have := hV j a hj
      rw [gd] at this
      exact this.1
  | false =>
    obtain ⟨hs, z, hz, rfl⟩ := hn rfl
    simp only [mkP]
    split
    · rename_i a hva
      have := (hV 0 a (by rw [hva]; rfl)).1
      rw [gd, hz] at this
      exact this
    · exact .bad _
end
/-- what a law's function answers, in a world -/
theorem calls_of {P : Program} {f : FuncId} {as : List AV} {r : Ret} {vs : Array Value} {w : World} (hA : ACalls P f as [] r) (hs : vs.size = as.length) (hv : ∀ j a, as[j]? = some a → V ⟨fun _ => none, fun b => b < w.heap.size⟩ w a (vs.getD j undef)) (hr : ∃ x, r.1 = .b x) :
    Calls P f vs w fun e w' => e = .returned (match r.1 with | .b x => .bool x | _ => undef) ∧ Below w.heap.size w w' := by
  obtain ⟨x, hx⟩ := hr
  refine (hA ⟨fun _ => none, fun b => b < w.heap.size⟩ w vs hs hv ⟨rfl, rfl, rfl, Nat.le_refl _, fun _ _ _ => rfl, fun o x h => (by simp [obL] at h), fun o i h => (by cases h), fun o o' x x' i i' b h => (by simp [obL] at h), fun b h => h, fun o x i b h => (by simp [obL] at h), fun b h => h, fun b h => .inl h⟩).mono fun e w' ⟨v, c', he, hv', hm, _⟩ => ?_
  rw [hx] at hv' ⊢
  cases hv'
  refine ⟨he, hm.os, hm.tape, hm.output, hm.size, fun k hk => hm.frame k hk fun ⟨o, y, i, h1, _⟩ => (by simp [obL] at h1)⟩
theorem vals_nil {c : Cx} {w : World} : ∀ (j : Nat) (b : AV), ([] : List AV)[j]? = some b → V c w b (([] : List Value).getD j undef) := fun j b h => by simp at h
theorem vals_cons {c : Cx} {w : World} {a : AV} {as : List AV} {v : Value} {vs : List Value} (h : V c w a v) (hr : ∀ (j : Nat) (b : AV), as[j]? = some b → V c w b (vs.getD j undef)) : ∀ (j : Nat) (b : AV), (a :: as)[j]? = some b → V c w b ((v :: vs).getD j undef) := fun j b hj => by
  cases j with
  | zero => simp at hj; subst hj; exact h
  | succ j => exact hr j b (by simpa using hj)
theorem calls_ofL {P : Program} {f : FuncId} {as : List AV} {r : Ret} {vs : List Value} {w : World} {x : Bool} (hA : ACalls P f as [] r) (hx : r.1 = .b x) (hs : vs.length = as.length) (hv : ∀ (j : Nat) (a : AV), as[j]? = some a → V ⟨fun _ => none, fun b => b < w.heap.size⟩ w a (vs.getD j undef)) :
    Calls P f vs.toArray w fun e w' => e = .returned (.bool x) ∧ Below w.heap.size w w' := by
  refine (calls_of hA (by simpa using hs) (fun j a ha => ?_) ⟨x, hx⟩).mono fun e w' h => ?_
  · have := hv j a ha
    rwa [show vs.toArray.getD j undef = vs.getD j undef by simp [Array.getD_eq_getD_getElem?, List.getD_eq_getElem?_getD]]
  · rw [hx] at h
    exact h
end Go.Proofs.Ytohfaccniialmaa.Am
