/- What the machine of values answers, the program answers: a function's text. -/
import Derived.Test.YtohfaccniialmaaAmD
namespace Go.Proofs.Ytohfaccniialmaa.Am
open Go
set_option linter.constructorNameAsVariable false
set_option linter.unusedVariables false
set_option linter.unusedSimpArgs false
section
variable {P : Program} {B : Base} {c : Cx} {w : World} {N : Nat} {st st' : St} {a : Act} {T : Table} {M : FuncId → List Bool} {R : Type}

/-- what is come to -/
def Done (P : Program) (B : Base) (N : Nat) (fin : St → Option R) (r : R) (todo : List Item) (a : Act) (w : World) : Prop :=
  ∀ (b : Frame) (cs : List Frame), ∃ st' a' w' c' todo', fin st' = some r ∧ RelS B N c' st' a' w' ∧ Steps P (lone (b.at a todo) cs w) (lone { b.at a' todo' with mode := .returning } cs w')
theorem Done.step {fin : St → Option R} {r : R} {todo todo' : List Item} {a : Act} {w : World} (h : Done P B N fin r todo' a w) (hs : ∀ (b : Frame) cs, step P (lone (b.at a todo) cs w) = .next (lone (b.at a todo') cs w)) : Done P B N fin r todo a w := fun b cs => by
  obtain ⟨st', a', w', c', todo2, h1, h2, h3⟩ := h b cs
  exact ⟨st', a', w', c', todo2, h1, h2, .head (hs b cs) h3⟩
theorem step_scope' {P : Program} {b : Frame} {a : Act} {k : List Item} {cs : List Frame} {w : World} {x : Code} : Go.step P (lone (b.at a (.code (.scope x) :: k)) cs w) = .next (lone (b.at a (.code x :: .inScope x :: k)) cs w) := step_lone_go (by simp [stepG, stepG.exec, Frame.at])
theorem step_inScope' {P : Program} {b : Frame} {a : Act} {k : List Item} {cs : List Frame} {w : World} {x : Code} : Go.step P (lone (b.at a (.inScope x :: k)) cs w) = .next (lone (b.at a k) cs w) := step_lone_go (by simp [stepG, stepG.exec, Frame.at])

theorem both_some {R : Type} {x y : Option R} {r : R} (h : both x y = some r) : x = some r ∧ y = some r := by
  unfold both at h
  split at h
  · rename_i e _
    exact ⟨h, e ▸ h⟩
  · cases h
theorem V.inv_mb {v : Value} (h : V c w .mb v) : ∃ x, v = .bool x := by cases h; exact ⟨_, rfl⟩
theorem goS_ok {E : En} (hmix : E.P.follows .mixedOrders = true) (hT : TS E.P T) {fin : St → Option R} {self : List Item → St → Option R} (hself : ∀ todo st r c a w, self todo st = some r → RelS B E.N c st a w → Done E.P B E.N fin r todo a w) :
    ∀ (s : Nat) (todo : List Item) (st : St) (r : R) (c : Cx) (a : Act) (w : World), goS E T fin self s todo st = some r → RelS B E.N c st a w → Done E.P B E.N fin r todo a w
  | 0, todo, st, r, c, a, w, h, hr => by simp [goS] at h
  | s + 1, todo, st, r, c, a, w, h, hr => by
    have ih := goS_ok hmix hT hself s
    unfold goS at h
    split at h
    · exact fun b cs => ⟨st, a, w, c, _, h, hr, .one step_end⟩
    · exact fun b cs => ⟨st, a, w, c, _, h, hr, .one step_ret⟩
    · exact (ih _ _ _ _ _ _ h hr).step fun b cs => step_skip
    · exact (ih _ _ _ _ _ _ h hr).step fun b cs => step_label
    · exact (ih _ _ _ _ _ _ h hr).step fun b cs => step_inBlock
    · exact (ih _ _ _ _ _ _ h hr).step fun b cs => step_inScope'
    · exact (ih _ _ _ _ _ _ h hr).step fun b cs => step_seq
    · rename_i cnd x y k
      have hcv := ev_ok hr cnd
      split at h
      · rename_i t ht
        rw [ht] at hcv
        cases t with
        | true => exact (ih _ _ _ _ _ _ h hr).step fun b cs => step_cond (V.inv_b hcv)
        | false => exact (ih _ _ _ _ _ _ h hr).step fun b cs => step_cond (V.inv_b hcv)
      · rename_i ht
        rw [ht] at hcv
        obtain ⟨h1, h2⟩ := both_some h
        obtain ⟨t, hv⟩ := V.inv_mb hcv
        cases t with
        | true => exact (ih _ _ _ _ _ _ h1 hr).step fun b cs => step_cond hv
        | false => exact (ih _ _ _ _ _ _ h2 hr).step fun b cs => step_cond hv
      · cases h
    · exact (ih _ _ _ _ _ _ h hr).step fun b cs => step_block
    · exact (ih _ _ _ _ _ _ h hr).step fun b cs => step_scope'
    · unfold bo at h
      split at h
      · rename_i st1 h1
        obtain ⟨c1, hr1⟩ := cleanAt_ok hr h1
        exact (hself _ _ _ _ _ _ h hr1).step fun b cs => step_loop
      · cases h
    · unfold bo at h
      split at h
      · rename_i st1 h1
        obtain ⟨c1, hr1⟩ := cleanAt_ok hr h1
        exact (hself _ _ _ _ _ _ h hr1).step fun b cs => step_inLoop
      · cases h
    · split at h
      · rename_i k' hk
        exact (ih _ _ _ _ _ _ h hr).step fun b cs => step_exit hk
      · cases h
    · rename_i id ops draw k
      split at h
      · rename_i hd
        obtain ⟨st1, h1, h2⟩ := cps_run T _ r _ h
        intro b cs
        have hw := regA_ok (B := B) (M := E.M) hT hd (Q := fun e a' w' => e = .normal ∧ ∃ c', RelS B E.N c' st1 a' w') (fun a' w' c' h => ⟨rfl, c', h⟩) ops.toList 0 st c a w (by simp) hr h1
        obtain ⟨e, a', w', ⟨rfl, c', hr'⟩, harr⟩ := wp_ops _ a w hw b k cs
        obtain ⟨st2, a2, w2, c2, todo2, k1, k2, k3⟩ := ih _ _ _ _ _ _ h2 hr' b cs
        refine ⟨st2, a2, w2, c2, todo2, k1, k2, .head ?_ (Steps.trans harr k3)⟩
        have := step_region (P := E.P) (b := b) (a := a) (k := k) (cs := cs) (w := w) (ops := ops) (id := id)
        rw [this]
        congr 3
        simp [List.range_eq_range']
      · rename_i hd
        obtain ⟨q, h1, h2⟩ := cps_run T _ r _ h
        obtain ⟨st1, ds⟩ := q
        split at h2
        case h_2 => cases h2
        rename_i hok
        intro b cs
        have hw := wp_region_any (id := id) hmix (regD_ok (B := B) (M := E.M) hT hd (Q := fun e a' w' => e = .normal ∧ ∃ c', RelS B E.N c' st1 a' w') (fun a' w' c' h => ⟨rfl, c', h⟩) hr h1 hok)
        obtain ⟨e, a', w', ⟨rfl, c', hr'⟩, harr⟩ := hw b k cs
        obtain ⟨st2, a2, w2, c2, todo2, k1, k2, k3⟩ := ih _ _ _ _ _ _ h2 hr' b cs
        exact ⟨st2, a2, w2, c2, todo2, k1, k2, Steps.trans harr k3⟩
      · cases h
    · cases h
theorem go_ok {E : En} (hmix : E.P.follows .mixedOrders = true) {T : Nat → Table} (hT : ∀ n, TS E.P (T n)) {fin : St → Option R} : ∀ (n : Nat) (todo : List Item) (st : St) (r : R) (c : Cx) (a : Act) (w : World), go E T fin n todo st = some r → RelS B E.N c st a w → Done E.P B E.N fin r todo a w
  | 0, todo, st, r, c, a, w, h, hr => by simp [go] at h
  | n + 1, todo, st, r, c, a, w, h, hr => goS_ok hmix (hT n) (fun todo st r c a w h hr => go_ok hmix hT n todo st r c a w h hr) 100000 todo st r c a w h hr
end
end Go.Proofs.Ytohfaccniialmaa.Am
