/- What a function answers from some number of rounds on, as a value; the machine's words as words of Option. -/
import Derived.Test.YtohfaccniialmaaEw
namespace Go.Proofs.Ytohfaccniialmaa.Am
open Go
set_option linter.unusedVariables false
set_option linter.unusedSimpArgs false

section
variable {α β : Type}
theorem Ew.uniq {f : Nat → Nat → Option α} {a b : α} (h : Ew f a) (g : Ew f b) : a = b := by
  obtain ⟨n, h⟩ := h
  obtain ⟨m, g⟩ := g
  exact Option.some.inj ((h (n + m) (n + m) (by omega) (by omega)).symm.trans (g (n + m) (n + m) (by omega) (by omega)))
open Classical in
noncomputable def lim (f : Nat → Nat → Option α) : Option α := if h : ∃ a, Ew f a then some h.choose else none
theorem lim_eq {f : Nat → Nat → Option α} {a : α} (h : Ew f a) : lim f = some a := by
  have e : ∃ a, Ew f a := ⟨a, h⟩
  unfold lim
  rw [dif_pos e, Ew.uniq e.choose_spec h]
theorem lim_ew {f : Nat → Nat → Option α} {a : α} (h : lim f = some a) : Ew f a := by
  unfold lim at h
  split at h
  · rename_i e
    rw [← Option.some.inj h]; exact e.choose_spec
  · cases h
theorem lim_ev {f : Nat → Option α} {a : α} (h : lim (fun _ k => f k) = some a) : Ev f a := (lim_ew h).ev
theorem ev_lim {f : Nat → Option α} {a : α} (h : Ev f a) : lim (fun _ k => f k) = some a := lim_eq h.ew
/-- if the value on the right is there, f comes to it -/
def Lw (f : Nat → Nat → Option α) (x : Option α) : Prop := ∀ a, x = some a → Ew f a
theorem Lw.now (x : Option α) : Lw (fun _ _ => x) x := fun a h => ⟨0, fun _ _ _ _ => h⟩
theorem Lw.br {c : Bool} {f g : Nat → Nat → Option α} {x y : Option α} (hf : Lw f x) (hg : Lw g y) : Lw (fun d k => br c (f d k) (g d k)) (br c x y) := by
  cases c
  · exact hg
  · exact hf
theorem Lw.bd {f : Nat → Nat → Option β} {g : Nat → Nat → β → Option α} {x : Option β} {y : β → Option α} (hf : Lw f x) (hg : ∀ b, Lw (fun d k => g d k b) (y b)) : Lw (fun d k => bd (f d k) (g d k)) (bd x y) := by
  intro a h
  cases x with
  | none => cases h
  | some b => exact Ew.bind (hf b rfl) (hg b a h)
theorem Lw.gt {xs : List β} {j : Nat} {g : Nat → Nat → β → Option α} {y : β → Option α} (hg : ∀ b, Lw (fun d k => g d k b) (y b)) : Lw (fun d k => gt xs j (g d k)) (gt xs j y) := by
  intro a h
  unfold Am.gt at h
  split at h
  · rename_i b e; exact Ew.at e (hg b a h)
  · cases h
theorem Lw.both {f g : Nat → Nat → Option α} {x y : Option α} (hf : Lw f x) (hg : Lw g y) : Lw (fun d k => both (f d k) (g d k)) (both x y) := by
  intro a h
  unfold Am.both at h
  split at h
  · rename_i e _
    obtain ⟨n, p⟩ := hf a h
    obtain ⟨m, q⟩ := hg a (e ▸ h)
    exact ⟨n + m, fun d k hd hk => both_eq (p d k (by omega) (by omega)) (q d k (by omega) (by omega))⟩
  · cases h
theorem Lw.lim (f : Nat → Nat → Option α) : Lw f (lim f) := fun a h => lim_ew h
theorem Lw.diag {F : Nat → Nat → Option α} {f : Nat → Option α} (h : ∀ k, f k = F k k) : Lw (fun _ k => f k) (Am.lim F) := fun a e => by
  obtain ⟨n, p⟩ := lim_ew e
  exact ⟨n, fun _ k _ hk => (h k).trans (p k k hk hk)⟩
/-- a call -/
theorem vstep {f g : Nat → Nat → Option α} {x : Option α} {a : α} (h : ∀ d k, f d (k + 1) = g d k) (e : x = some a) (le : Lw g x := by
  repeat' first
    | with_reducible exact Lw.now _
    | with_reducible apply Lw.br
    | with_reducible refine Lw.bd ?_ fun _ => ?_
    | with_reducible refine Lw.gt fun _ => ?_
    | with_reducible apply Lw.both
    | exact Lw.lim _
    | exact Lw.diag fun _ => rfl) : Am.lim f = some a := lim_eq (Ew.step h (le a e))
theorem vdeep {f g : Nat → Nat → Option α} {x : Option α} {a : α} (h : ∀ d k, f (d + 1) (k + 1) = g d k) (e : x = some a) (le : Lw g x := by
  repeat' first
    | with_reducible exact Lw.now _
    | with_reducible apply Lw.br
    | with_reducible refine Lw.bd ?_ fun _ => ?_
    | with_reducible refine Lw.gt fun _ => ?_
    | with_reducible apply Lw.both
    | exact Lw.lim _
    | exact Lw.diag fun _ => rfl) : Am.lim f = some a := lim_eq (Ew.deep h (le a e))
@[simp] theorem br_if (c : Bool) (x y : Option α) : br c x y = if c = true then x else y := by cases c <;> rfl
@[simp] theorem bd_s (a : β) (f : β → Option α) : bd (some a) f = f a := rfl
@[simp] theorem bd_n (f : β → Option α) : bd none f = none := rfl
theorem gt_at {xs : List β} {j : Nat} (f : β → Option α) (h : j < xs.length) : gt xs j f = f xs[j] := gt_some (List.getElem?_eq_getElem h)
@[simp] theorem gt_zero (x : β) (xs : List β) (f : β → Option α) : gt (x :: xs) 0 f = f x := rfl
@[simp] theorem gt_one (x y : β) (xs : List β) (f : β → Option α) : gt (x :: y :: xs) 1 f = f y := rfl
@[simp] theorem both_same (x : Option α) : both x x = x := both_self
theorem bd_ite (c : Prop) [Decidable c] (x y : Option β) (f : β → Option α) : bd (if c then x else y) f = if c then bd x f else bd y f := by split <;> rfl
/-- rounds over the places of a row: L i s answers what P tells of the rest of the row -/
theorem rounds {σ : Type} {xs : List β} (L : Nat → σ → Option α) (P : List β → σ → α) (Inv : Nat → σ → Prop)
    (hend : ∀ s, Inv xs.length s → L xs.length s = some (P [] s))
    (hstep : ∀ i (h : i < xs.length) s, Inv i s → (∀ s', Inv (i + 1) s' → L (i + 1) s' = some (P (xs.drop (i + 1)) s')) → L i s = some (P (xs[i] :: xs.drop (i + 1)) s)) :
    ∀ i, i ≤ xs.length → ∀ s, Inv i s → L i s = some (P (xs.drop i) s) := by
  intro i hi
  obtain ⟨d, hd⟩ : ∃ d, xs.length = i + d := ⟨xs.length - i, by omega⟩
  induction d generalizing i with
  | zero =>
    intro s hs
    obtain rfl : i = xs.length := by omega
    rw [List.drop_length]; exact hend s hs
  | succ d ih =>
    intro s hs
    have hlt : i < xs.length := by omega
    rw [List.drop_eq_getElem_cons hlt]
    exact hstep i hlt s hs fun s' hs' => ih (i + 1) (by omega) (by omega) s' hs'
/-- rounds that count -/
theorem counts {σ : Type} {n : Nat} (L : Nat → σ → Option α) (P : Nat → σ → α) (Inv : Nat → σ → Prop)
    (hend : ∀ s, Inv n s → L n s = some (P n s))
    (hstep : ∀ i, i < n → ∀ s, Inv i s → (∀ s', Inv (i + 1) s' → L (i + 1) s' = some (P (i + 1) s')) → L i s = some (P i s)) :
    ∀ i, i ≤ n → ∀ s, Inv i s → L i s = some (P i s) := by
  intro i hi
  obtain ⟨d, hd⟩ : ∃ d, n = i + d := ⟨n - i, by omega⟩
  induction d generalizing i with
  | zero =>
    intro s hs
    obtain rfl : i = n := by omega
    exact hend s hs
  | succ d ih =>
    intro s hs
    exact hstep i (by omega) s hs fun s' hs' => ih (i + 1) (by omega) (by omega) s' hs'
end
theorem wrap_next (i n : Nat) (h : i < n) (hn : n ≤ 9223372036854775000) : IntKind.wrap .i64 ((i : Int) + 1) = ((i + 1 : Nat) : Int) := next_ok i n h hn
end Go.Proofs.Ytohfaccniialmaa.Am
