/- Rows that are told otherwise. -/
import Derived.Test.YtohfaccniialmaaAmG
namespace Go.Proofs.Ytohfaccniialmaa.Am
open Go
set_option linter.constructorNameAsVariable false
set_option linter.unusedVariables false
set_option linter.unusedSimpArgs false
section
variable {P : Program} {B : Base} {c : Cx} {w : World}

/-! ### results told as rows of one's own, or as rows that stay -/
theorem conv1_ok {ob : Nat → Option AO} (hm : Mem B c ob w) {cv : Cv} {x y : AV} {u : List (Nat × AO)} {v : Value} (hv : V c w x v) (h : conv1 ob cv x = some (y, u)) : ∃ c', Mem B c' (fup ob u) w ∧ Ext c w c' w ∧ V c' w y v := by
  have triv : some (x, ([] : List (Nat × AO))) = some (y, u) → ∃ c', Mem B c' (fup ob u) w ∧ Ext c w c' w ∧ V c' w y v := fun e => by
    simp only [Option.some.injEq, Prod.mk.injEq] at e
    obtain ⟨rfl, rfl⟩ := e
    exact ⟨c, hm, .refl c w, hv⟩
  cases cv <;> simp only [conv1] at h
  case own t k =>
    split at h
    · split at h
      · rename_i hk hkb
        simp only [Option.some.injEq, Prod.mk.injEq] at h
        obtain ⟨rfl, rfl⟩ := h
        obtain ⟨A, rfl⟩ := hv.inv_nils
        obtain ⟨k1, k2⟩ := hm.put k (.row 0 t []) ⟨none, 0, 0, 0, 0, t.sz⟩ w rfl rfl rfl (Nat.le_refl _) (fun _ _ _ => rfl) (fun j hj => by rw [hm.inf_none hk] at hj; cases hj)
          (fun ext => ⟨_, Cx.set_eq _ _ _, rfl, rfl, rfl, Nat.le_refl _, .inl ⟨rfl, rfl⟩⟩) (fun b _ hb => by cases hb) (fun _ => ble_true hkb)
        exact ⟨_, k1, k2, .own k 0 A 0 0 _ (Cx.set_eq _ _ _) (Nat.le_refl _) fun _ => ⟨A, 0, rfl, Nat.le_refl _, rfl, fun h => by omega⟩⟩
      · cases h
    · rename_i o ver lo n
      split at h
      · rename_i v' t' xs ho
        split at h
        · rename_i hvv
          have hvv := beq_true hvv
          subst hvv
          simp only [Option.some.injEq, Prod.mk.injEq] at h
          obtain ⟨rfl, rfl⟩ := h
          obtain ⟨i, p, h1, h2, h3, h4, h5, h6, h7, A, cp, rfl, h8, h9, h10⟩ := sub_head hm (.inl ho) hv
          obtain ⟨i', k1, k2, k3, k4, k5, k6⟩ := hm.obj o _ ho
          rw [h1] at k1
          cases k1
          have hlen : ((xs.drop lo).take n).length = n := by rw [List.length_take, List.length_drop]; omega
          obtain ⟨m1, m2⟩ := hm.put o (.row (v' + 1) t' ((xs.drop lo).take n)) { i with off := i.off + lo * i.sz, cap := cp, len := n, ver := v' + 1 } w rfl rfl rfl (Nat.le_refl _) (fun _ _ _ => rfl)
            (fun j hj => by rw [h1] at hj; cases hj; exact ⟨by show i.ver ≤ v' + 1; omega, fun e => by have e' : v' + 1 = i.ver := e; omega⟩)
            (fun ext => ⟨_, Cx.set_eq _ _ _, rfl, hlen.symm, h4, by rw [hlen]; exact h8, by
              rcases k6 with ⟨q1, q2⟩ | ⟨b, arr, el, q1, q2, q3, q4, q5⟩
              · exact .inl ⟨q1, by show cp = 0; omega⟩
              · refine .inr ⟨b, arr, el, q1, q2, ?_, fun j x hx qq y hy => ?_, q5⟩
                · show i.off + lo * i.sz + cp * t'.sz ≤ arr.size
                  have : i.cap * t'.sz = lo * t'.sz + cp * t'.sz := by rw [← h9, Nat.add_mul]
                  rw [h4]
                  omega
                · have hx2 : xs[lo + j]? = some x := by
                    rw [List.getElem?_take] at hx
                    split at hx
                    · rw [List.getElem?_drop] at hx; exact hx
                    · cases hx
                  have := q4 (lo + j) x hx2 qq y hy
                  show V _ _ y (arr.getD (i.off + lo * i.sz + (j * t'.sz + qq)) undef) ∧ (arr.getD (i.off + lo * i.sz + (j * t'.sz + qq)) undef).oneCell' = true
                  rw [show i.off + lo * i.sz + (j * t'.sz + qq) = i.off + ((lo + j) * t'.sz + qq) by rw [h4, Nat.add_mul]; omega]
                  exact ⟨this.1.ext ext, this.2⟩⟩) (fun b _ hb => .inl ⟨_, i, ho, rfl, h1, hb⟩)
          refine ⟨_, m1, m2, .own o (v' + 1) A n cp _ (Cx.set_eq _ _ _) (Nat.le_refl _) fun _ => ⟨A, cp, rfl, h8, Nat.zero_add _, fun h0 => ?_⟩⟩
          obtain ⟨b, hb, rfl⟩ := h10 h0
          exact ⟨b, hb, by simp⟩
        · cases h
      · cases h
    · exact triv h
  case lst t =>
    split at h
    · simp only [Option.some.injEq, Prod.mk.injEq] at h
      obtain ⟨rfl, rfl⟩ := h
      obtain ⟨A, rfl⟩ := hv.inv_nils
      exact ⟨c, hm, .refl c w, .lst t [] A 0 (fun _ => undef) (by simp) (fun h0 => by simp at h0) (fun j x hx => by simp at hx)⟩
    · obtain ⟨c', k1, k2, k3, k4⟩ := frz1_ok hm (.refl ob) h hv
      exact ⟨c', k1, k3, k4⟩
    · rename_i o ver lo n
      split at h
      · rename_i v' t' xs ho
        split at h
        · rename_i hvv
          have hvv := beq_true hvv
          subst hvv
          simp only [Option.some.injEq, Prod.mk.injEq] at h
          obtain ⟨rfl, rfl⟩ := h
          obtain ⟨i, p, h1, h2, h3, h4, h5, h6, h7, h8⟩ := sub_head hm (.inl ho) hv
          obtain ⟨m1, m2⟩ := hm.freeze ho
          obtain ⟨i', k1, k2, k3, k4, k5, k6⟩ := m1.obj o (.fro v' t' xs) (by simp [fup])
          have k1 : c.inf o = some i' := k1
          rw [h1] at k1
          cases k1
          exact ⟨_, m1, m2, own_lst h3 h4 k6 h7 h8⟩
        · cases h
      · rename_i v' t' xs ho
        split at h
        · rename_i hvv
          have hvv := beq_true hvv
          subst hvv
          simp only [Option.some.injEq, Prod.mk.injEq] at h
          obtain ⟨rfl, rfl⟩ := h
          obtain ⟨i, p, h1, h2, h3, h4, h5, h6, h7, h8⟩ := sub_head hm (.inr ho) hv
          obtain ⟨i', k1, k2, k3, k4, k5, k6⟩ := hm.obj o _ ho
          rw [h1] at k1
          cases k1
          exact ⟨c, hm, .refl c w, own_lst h3 h4 k6 h7 h8⟩
        · cases h
      · cases h
    · exact triv h
  all_goals exact triv h
theorem convF_ok : ∀ (as : List AV) (cvs : List Cv) (ob : List (Nat × AO)) (l : List AV) (ob' : List (Nat × AO)) (c : Cx), convL.convF cvs ob as = some (l, ob') → Mem B c (look ob) w → ∀ (g : Nat → Value), (∀ j y, as[j]? = some y → V c w y (g j)) → ∃ c', Mem B c' (look ob') w ∧ Ext c w c' w ∧ l.length = as.length ∧ ∀ j y, l[j]? = some y → V c' w y (g j)
  | [], cvs, ob, l, ob', c, h, hm, g, hg => by
    simp only [convL.convF, Option.some.injEq, Prod.mk.injEq] at h
    obtain ⟨rfl, rfl⟩ := h
    exact ⟨c, hm, .refl c w, rfl, by simp⟩
  | a :: r, cvs, ob, l, ob', c, h, hm, g, hg => by
    simp only [convL.convF] at h
    split at h
    · split at h
      · rename_i l1 ob1 h1
        simp only [Option.some.injEq, Prod.mk.injEq] at h
        obtain ⟨rfl, rfl⟩ := h
        obtain ⟨c', k1, k2, k3, k4⟩ := convF_ok r [] ob l1 ob1 c h1 hm (fun j => g (j + 1)) fun j y hy => hg (j + 1) y (by simpa using hy)
        refine ⟨c', k1, k2, by simp [k3], fun j y hy => ?_⟩
        cases j with
        | zero => simp at hy; subst hy; exact (hg 0 a rfl).ext k2
        | succ j => exact k4 j y (by simpa using hy)
      · cases h
    · split at h
      · rename_i b u hcv
        split at h
        · rename_i l1 ob1 h1
          simp only [Option.some.injEq, Prod.mk.injEq] at h
          obtain ⟨rfl, rfl⟩ := h
          obtain ⟨c1, m1, m2, m3⟩ := conv1_ok hm (hg 0 a rfl) hcv
          obtain ⟨c', k1, k2, k3, k4⟩ := convF_ok r _ (upds ob u) l1 ob1 c1 h1 (by rw [look_upds]; exact m1) (fun j => g (j + 1)) fun j y hy => (hg (j + 1) y (by simpa using hy)).ext m2
          refine ⟨c', k1, m2.trans k2, by simp [k3], fun j y hy => ?_⟩
          cases j with
          | zero => simp at hy; subst hy; exact m3.ext k2
          | succ j => exact k4 j y (by simpa using hy)
        · cases h
      · cases h
theorem convL_ok : ∀ (as : List AV) (cvs : List Cv) (ob : List (Nat × AO)) (l : List AV) (ob' : List (Nat × AO)) (c : Cx), convL cvs ob as = some (l, ob') → Mem B c (look ob) w → ∀ (g : Nat → Value), (∀ j y, as[j]? = some y → V c w y (g j)) → ∃ c', Mem B c' (look ob') w ∧ Ext c w c' w ∧ l.length = as.length ∧ ∀ j y, l[j]? = some y → V c' w y (g j)
  | [], cvs, ob, l, ob', c, h, hm, g, hg => by
    simp only [convL, Option.some.injEq, Prod.mk.injEq] at h
    obtain ⟨rfl, rfl⟩ := h
    exact ⟨c, hm, .refl c w, rfl, by simp⟩
  | a :: r, cvs, ob, l, ob', c, h, hm, g, hg => by
    have fin : ∀ (b : AV) (ob1 : List (Nat × AO)) (m : List Cv) (l1 : List AV) (ob2 : List (Nat × AO)) (c1 : Cx), Mem B c1 (look ob1) w → Ext c w c1 w → V c1 w b (g 0) → convL m ob1 r = some (l1, ob2) → l = b :: l1 → ob' = ob2 → ∃ c', Mem B c' (look ob') w ∧ Ext c w c' w ∧ l.length = (a :: r).length ∧ ∀ j y, l[j]? = some y → V c' w y (g j) := fun b ob1 m l1 ob2 c1 m1 m2 m3 h1 e1 e2 => by
      subst e1 e2
      obtain ⟨c', k1, k2, k3, k4⟩ := convL_ok r m ob1 l1 ob' c1 h1 m1 (fun j => g (j + 1)) fun j y hy => (hg (j + 1) y (by simpa using hy)).ext m2
      refine ⟨c', k1, m2.trans k2, by simp [k3], fun j y hy => ?_⟩
      cases j with
      | zero => simp at hy; subst hy; exact m3.ext k2
      | succ j => exact k4 j y (by simpa using hy)
    simp only [convL] at h
    split at h
    · split at h
      · rename_i l1 ob1 h1
        simp only [Option.some.injEq, Prod.mk.injEq] at h
        exact fin a ob [] l1 ob1 c hm (.refl c w) (hg 0 a rfl) h1 h.1.symm h.2.symm
      · cases h
    · split at h
      · rename_i as
        split at h
        · rename_i as' ob1 h1
          split at h
          · rename_i l1 ob2 h2
            simp only [Option.some.injEq, Prod.mk.injEq] at h
            obtain ⟨vs, ev, q1, q2, q3⟩ := (hg 0 _ rfl).inv_agg
            obtain ⟨c1, m1, m2, m3, m4⟩ := convF_ok as _ ob as' ob1 c h1 hm (fun j => vs.getD j undef) q3
            refine fin (.agg as') ob1 _ l1 ob2 c1 m1 m2 ?_ h2 h.1.symm h.2.symm
            rw [ev]
            exact .agg as' vs (by rw [q1, m3]) (fun j hj => q2 j (by rw [← m3]; exact hj)) m4
          · cases h
        · cases h
      · cases h
    · split at h
      · rename_i b u hcv
        split at h
        · rename_i l1 ob1 h1
          simp only [Option.some.injEq, Prod.mk.injEq] at h
          obtain ⟨c1, m1, m2, m3⟩ := conv1_ok hm (hg 0 a rfl) hcv
          exact fin b _ _ l1 ob1 c1 (by rw [look_upds]; exact m1) m2 m3 h1 h.1.symm h.2.symm
        · cases h
      · cases h

end
end Go.Proofs.Ytohfaccniialmaa.Am
