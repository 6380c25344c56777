/- From some number of rounds and some depth on: what a function that calls itself answers. -/
import Derived.Test.YtohfaccniialmaaEv
namespace Go.Proofs.Ytohfaccniialmaa.Am
open Go
set_option linter.unusedVariables false
set_option linter.unusedSimpArgs false

def Ew {α : Type} (f : Nat → Nat → Option α) (a : α) : Prop := ∃ n, ∀ d k, n ≤ d → n ≤ k → f d k = some a
section
variable {α β : Type} {f g : Nat → Nat → Option α} {a : α}
theorem Ew.ev (e : Ew f a) : Ev (fun k => f k k) a := by
  obtain ⟨n, e⟩ := e
  exact ⟨n, fun k hk => e k k hk hk⟩
theorem Ev.ew {f : Nat → Option α} (e : Ev f a) : Ew (fun _ k => f k) a := by
  obtain ⟨n, e⟩ := e
  exact ⟨n, fun d k _ hk => e k hk⟩
/-- a call of itself -/
theorem Ew.deep (h : ∀ d k, f (d + 1) (k + 1) = g d k) (e : Ew g a) : Ew f a := by
  obtain ⟨n, e⟩ := e
  refine ⟨n + 1, fun d k hd hk => ?_⟩
  obtain ⟨m, rfl⟩ : ∃ m, k = m + 1 := ⟨k - 1, by omega⟩
  obtain ⟨c, rfl⟩ : ∃ c, d = c + 1 := ⟨d - 1, by omega⟩
  rw [h c m]
  exact e c m (by omega) (by omega)
/-- a round -/
theorem Ew.step (h : ∀ d k, f d (k + 1) = g d k) (e : Ew g a) : Ew f a := by
  obtain ⟨n, e⟩ := e
  refine ⟨n + 1, fun d k hd hk => ?_⟩
  obtain ⟨m, rfl⟩ : ∃ m, k = m + 1 := ⟨k - 1, by omega⟩
  rw [h d m]
  exact e d m (by omega) (by omega)
theorem Ew.now (a : α) : Ew (fun _ _ => some a) a := ⟨0, fun _ _ _ _ => rfl⟩
theorem Ew.ret {a b : α} (h : a = b) : Ew (fun _ _ => some a) b := h ▸ Ew.now a
theorem Ew.eq {b : α} (e : Ew f a) (h : a = b) : Ew f b := h ▸ e
theorem Ew.pos {x : Bool} (h : x = true) (e : Ew f a) : Ew (fun d k => br x (f d k) (g d k)) a := by
  obtain ⟨n, e⟩ := e
  exact ⟨n, fun d k hd hk => (br_t h).trans (e d k hd hk)⟩
theorem Ew.neg {x : Bool} (h : x = false) (e : Ew g a) : Ew (fun d k => br x (f d k) (g d k)) a := by
  obtain ⟨n, e⟩ := e
  exact ⟨n, fun d k hd hk => (br_f h).trans (e d k hd hk)⟩
theorem Ew.bind {f : Nat → Nat → Option β} {g : Nat → Nat → β → Option α} {b : β} (e : Ew f b) (h : Ew (fun d k => g d k b) a) : Ew (fun d k => bd (f d k) (g d k)) a := by
  obtain ⟨n, e⟩ := e
  obtain ⟨m, h⟩ := h
  exact ⟨n + m, fun d k hd hk => (bd_some (e d k (by omega) (by omega))).trans (h d k (by omega) (by omega))⟩
theorem Ew.here {x : Option β} {g : Nat → Nat → β → Option α} {b : β} (e : x = some b) (h : Ew (fun d k => g d k b) a) : Ew (fun d k => bd x (g d k)) a := by
  obtain ⟨m, h⟩ := h
  exact ⟨m, fun d k hd hk => (bd_some e).trans (h d k hd hk)⟩
theorem Ew.at {xs : List β} {j : Nat} {g : Nat → Nat → β → Option α} {b : β} (e : xs[j]? = some b) (h : Ew (fun d k => g d k b) a) : Ew (fun d k => gt xs j (g d k)) a := by
  obtain ⟨m, h⟩ := h
  exact ⟨m, fun d k hd hk => (gt_some e).trans (h d k hd hk)⟩
theorem Ew.get {xs : List β} {i : Nat} {g : Nat → Nat → β → Option α} (hi : i < xs.length) (h : Ew (fun d k => g d k xs[i]) a) : Ew (fun d k => gt xs (Int.toNat (i : Int)) (g d k)) a :=
  Ew.at (by rw [Int.toNat_natCast]; exact List.getElem?_eq_getElem hi) h
end
end Go.Proofs.Ytohfaccniialmaa.Am
