/- From some number of rounds on: what a function answers. -/
import Derived.Test.YtohfaccniialmaaAmB
import Derived.IntWalk
namespace Go.Proofs.Ytohfaccniialmaa.Am
open Go
set_option linter.unusedVariables false
set_option linter.unusedSimpArgs false

def Ev {α : Type} (f : Nat → Option α) (a : α) : Prop := ∃ n, ∀ k, n ≤ k → f k = some a
section
variable {α β : Type} {f g : Nat → Option α} {a : α}
theorem br_t {x : Bool} {p q : Option α} (h : x = true) : br x p q = p := by rw [h]; rfl
theorem br_f {x : Bool} {p q : Option α} (h : x = false) : br x p q = q := by rw [h]; rfl
theorem bd_some {x : Option α} {f : α → Option β} {a : α} (h : x = some a) : bd x f = f a := by rw [h]; rfl
theorem gt_some {xs : List α} {j : Nat} {f : α → Option β} {a : α} (h : xs[j]? = some a) : gt xs j f = f a := by unfold gt; rw [h]
theorem both_self {x : Option α} : both x x = x := by
  unfold both
  split <;> rename_i h _
  · rfl
  · exact absurd rfl h
theorem both_eq {x y : Option α} {a : α} (h : x = some a) (k : y = some a) : both x y = some a := by rw [h, k]; exact both_self
theorem Ev.step (h : ∀ k, f (k + 1) = g k) (e : Ev g a) : Ev f a := by
  obtain ⟨n, e⟩ := e
  refine ⟨n + 1, fun k hk => ?_⟩
  obtain ⟨m, rfl⟩ : ∃ m, k = m + 1 := ⟨k - 1, by omega⟩
  rw [h m]
  exact e m (by omega)
theorem Ev.now (a : α) : Ev (fun _ => some a) a := ⟨0, fun _ _ => rfl⟩
theorem Ev.ret {a b : α} (h : a = b) : Ev (fun _ => some a) b := h ▸ Ev.now a
theorem Ev.eq {b : α} (e : Ev f a) (h : a = b) : Ev f b := h ▸ e
theorem Ev.pos {x : Bool} (h : x = true) (e : Ev f a) : Ev (fun k => br x (f k) (g k)) a := by
  obtain ⟨n, e⟩ := e
  exact ⟨n, fun k hk => (br_t h).trans (e k hk)⟩
theorem Ev.neg {x : Bool} (h : x = false) (e : Ev g a) : Ev (fun k => br x (f k) (g k)) a := by
  obtain ⟨n, e⟩ := e
  exact ⟨n, fun k hk => (br_f h).trans (e k hk)⟩
theorem Ev.bind {f : Nat → Option β} {g : Nat → β → Option α} {b : β} (e : Ev f b) (h : Ev (fun k => g k b) a) : Ev (fun k => bd (f k) (g k)) a := by
  obtain ⟨n, e⟩ := e
  obtain ⟨m, h⟩ := h
  exact ⟨n + m, fun k hk => (bd_some (e k (by omega))).trans (h k (by omega))⟩
/-- a callee without rounds -/
theorem Ev.here {x : Option β} {g : Nat → β → Option α} {b : β} (e : x = some b) (h : Ev (fun k => g k b) a) : Ev (fun k => bd x (g k)) a := by
  obtain ⟨m, h⟩ := h
  exact ⟨m, fun k hk => (bd_some e).trans (h k hk)⟩
theorem Ev.at {xs : List β} {j : Nat} {g : Nat → β → Option α} {b : β} (e : xs[j]? = some b) (h : Ev (fun k => g k b) a) : Ev (fun k => gt xs j (g k)) a := by
  obtain ⟨m, h⟩ := h
  exact ⟨m, fun k hk => (gt_some e).trans (h k hk)⟩
/-- a place of a list, at a number that counts -/
theorem Ev.get {xs : List β} {i : Nat} {g : Nat → β → Option α} (hi : i < xs.length) (h : Ev (fun k => g k xs[i]) a) : Ev (fun k => gt xs (Int.toNat (i : Int)) (g k)) a :=
  Ev.at (by rw [Int.toNat_natCast]; exact List.getElem?_eq_getElem hi) h
theorem Ev.both (e : Ev f a) (h : Ev g a) : Ev (fun k => Am.both (f k) (g k)) a := by
  obtain ⟨n, e⟩ := e
  obtain ⟨m, h⟩ := h
  exact ⟨n + m, fun k hk => both_eq (e k (by omega)) (h k (by omega))⟩
theorem Ev.loop (n : Nat) (g : Nat → Nat → Option β) (R : Nat → β) (hend : Ev (fun k => g k n) (R n)) (hstep : ∀ i, i < n → Ev (fun k => g k (i + 1)) (R (i + 1)) → Ev (fun k => g k i) (R i)) : ∀ i, i ≤ n → Ev (fun k => g k i) (R i) := by
  intro i hi
  obtain ⟨d, hd⟩ : ∃ d, n = i + d := ⟨n - i, by omega⟩
  induction d generalizing i with
  | zero => obtain rfl : i = n := by omega
            exact hend
  | succ d ih => exact hstep i (by omega) (ih (i + 1) (by omega) (by omega))
theorem Ev.some (e : Ev f a) : ∃ k, f k = Option.some a := by
  obtain ⟨n, e⟩ := e
  exact ⟨n, e n (Nat.le_refl _)⟩
end
theorem wrap_ok {x : Int} (h0 : -9223372036854775808 ≤ x) (h1 : x ≤ 9223372036854775807) : IntKind.wrap .i64 x = x := by
  rw [IntKind.wrap_i64]
  omega
/-- a counter's next value, as the loops write it -/
theorem next_ok (i n : Nat) (h : i < n) (hn : n ≤ 9223372036854775000) : IntKind.wrap .i64 ((i : Int) + 1) = ((i + 1 : Nat) : Int) := by
  rw [wrap_ok (by omega) (by omega)]; rfl
theorem set_step {α : Type} (xs : List α) (z : α) (i : Nat) (h : i < xs.length) : (xs.take i ++ List.replicate (xs.length - i) z).set i xs[i] = xs.take (i + 1) ++ List.replicate (xs.length - (i + 1)) z := by
  obtain ⟨d, hd⟩ : ∃ d, xs.length - i = d + 1 := ⟨xs.length - i - 1, by omega⟩
  rw [hd, List.replicate_succ, List.set_append_right i _ (by rw [List.length_take]; omega), List.take_succ_eq_append_getElem h, List.append_assoc]
  rw [show i - (xs.take i).length = 0 from by rw [List.length_take]; omega, List.set_cons_zero, show xs.length - (i + 1) = d from by omega]
  rfl
theorem seq_iff {x y : ByteArray} : seq x y = true ↔ x = y := by
  unfold seq
  rw [beq_iff_eq]
  constructor
  · intro h
    cases x with | mk a => cases y with | mk b =>
      have : a.toList = b.toList := by simpa [ByteArray.toList_eq] using h
      rw [Array.toList_inj.1 this]
  · intro h; rw [h]
end Go.Proofs.Ytohfaccniialmaa.Am
