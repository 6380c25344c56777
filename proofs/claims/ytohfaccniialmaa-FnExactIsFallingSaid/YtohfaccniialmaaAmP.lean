/- What the machine of values does at an operation, the program does: new objects, reads, places. -/
import Derived.Test.YtohfaccniialmaaAmO
namespace Go.Proofs.Ytohfaccniialmaa.Am
open Go
set_option linter.constructorNameAsVariable false
set_option linter.unusedVariables false
set_option linter.unusedSimpArgs false
section
variable {P : Program} {B : Base} {c : Cx} {ob : Nat → Option AO} {w : World} {s : Sem Next} {d : Delta}

theorem szOf_info {t : TypeId} {n : Nat} (h : szOf P t = some n) : ∃ i, P.info? t = some i ∧ i.size = n := by
  unfold szOf at h
  split at h
  · exact ⟨_, ‹_›, by simpa using h⟩
  · cases h
theorem run_sizeOf' {t : TypeId} {n : Nat} (h : szOf P t = some n) (w : World) : (sizeOf t).run P w = .ok n w := by
  obtain ⟨i, hi, rfl⟩ := szOf_info h
  simp [sizeOf, typeInfo, hi]

theorem V.inv_ptr {o off : Nat} {v : Value} (h : V c w (.ptr o off) v) : ∃ a i, v = .pointer (some a) ∧ c.inf o = some i ∧ (i.ver = 0 → ∃ b, i.blk = some b ∧ a = ⟨b, off, none⟩) := by
  cases h with
  | ptr _ _ a i hi h => exact ⟨a, i, rfl, hi, h⟩
theorem V.inv_eptr {o ver j off : Nat} {v : Value} (h : V c w (.eptr o ver j off) v) : ∃ a i, v = .pointer (some a) ∧ c.inf o = some i ∧ ver ≤ i.ver ∧ (ver = i.ver → j < i.len ∧ ∃ b, i.blk = some b ∧ a = ⟨b, i.off + j * i.sz + off, none⟩) := by
  cases h with
  | eptr _ _ _ _ a i hi hv h => exact ⟨a, i, rfl, hi, hv, h⟩
theorem V.inv_own {o ver : Nat} {v : Value} (h : V c w (.own o ver) v) : ∃ A n cp i, v = .slice A n cp ∧ c.inf o = some i ∧ ver ≤ i.ver ∧ (ver = i.ver → Hd i 0 i.len v) := by
  cases h with
  | own _ _ A n cp i hi hv h => exact ⟨A, n, cp, i, rfl, hi, hv, h⟩
theorem V.inv_sub {o ver lo m : Nat} {v : Value} (h : V c w (.sub o ver lo m) v) : ∃ A n cp i, v = .slice A n cp ∧ c.inf o = some i ∧ ver ≤ i.ver ∧ (ver = i.ver → lo + m ≤ i.len ∧ Hd i lo m v) := by
  cases h with
  | sub _ _ _ _ A n cp i hi hv h => exact ⟨A, n, cp, i, rfl, hi, hv, h⟩
theorem V.inv_rp {cs : List AV} {v : Value} (h : V c w (.rp cs) v) : ∃ (a : Addr) (g : Nat → Value), v = .pointer (some a) ∧ c.F a.block ∧ (∀ j, j < cs.length → w.cell? (a.add j) = some (g j) ∧ (g j).oneCell' = true) ∧ ∀ j y, cs[j]? = some y → V c w y (g j) := by
  cases h with
  | rp _ a g hF hc h => exact ⟨a, g, rfl, hF, hc, h⟩
theorem V.inv_lst {t : Ty} {xs : List t.D} {v : Value} (h : V c w (.lst t xs) v) : ∃ (A : Option Addr) (cp : Nat) (g : Nat → Value), v = .slice A xs.length cp ∧ xs.length ≤ cp ∧ (0 < xs.length → ∃ a, A = some a ∧ c.F a.block ∧ ∀ j, j < xs.length * t.sz → w.cell? (a.add j) = some (g j) ∧ (g j).oneCell' = true) ∧
    (∀ j x, xs[j]? = some x → ∀ q y, (view t x)[q]? = some y → V c w y (g (j * t.sz + q))) := by
  cases h with
  | lst _ _ A cp g hn ha h => exact ⟨A, cp, g, rfl, hn, ha, h⟩
theorem V.inv_agg {cs : List AV} {v : Value} (h : V c w (.agg cs) v) : ∃ vs, v = .agg vs ∧ Cl c w cs vs := by
  cases h with
  | agg _ vs hs h1 h => exact ⟨vs, rfl, hs, h1, h⟩
theorem V.inv_tup {cs : List AV} {v : Value} (h : V c w (.tup cs) v) : ∃ vs, v = .tuple vs ∧ vs.size = cs.length ∧ ∀ j y, cs[j]? = some y → V c w y (vs.getD j undef) := by
  cases h with
  | tup _ vs hs h => exact ⟨vs, rfl, hs, h⟩
theorem V.inv_nils {v : Value} (h : V c w .nils v) : ∃ A, v = .slice A 0 0 := by
  cases h with
  | nils A => exact ⟨A, rfl⟩
theorem V.inv_fn {f : FuncId} {cs : List AV} {v : Value} (h : V c w (.fn f cs) v) : ∃ vs, v = .func (.func f) #[] vs ∧ vs.size = cs.length ∧ ∀ j y, cs[j]? = some y → V c w y (vs.getD j undef) := by
  cases h with
  | fn _ _ vs hs h => exact ⟨vs, rfl, hs, h⟩

theorem cut_eq {cs l : List AV} {off n : Nat} (h : cut cs off n = some l) : l.length = n ∧ ∀ j, j < n → l[j]? = cs[off + j]? := by
  unfold cut at h
  split at h
  · rename_i e
    simp only [Option.some.injEq] at h
    subst h
    have hl := Nat.eq_of_beq_eq_true e
    refine ⟨hl, fun j hj => ?_⟩
    rw [List.getElem?_take, if_pos hj, List.getElem?_drop]
  · cases h

/-- a variable is read -/
theorem loadVar_ok {t : TypeId} {n : Nat} (hsz : szOf P t = some n) {cs : List AV} (hlen : cs.length = n) {x : AV} (hx : mkA P t cs = some x) (a : Addr) (g : Nat → Value)
    (hc : ∀ j, j < n → w.cell? (a.add j) = some (g j) ∧ (g j).oneCell' = true) (hv : ∀ j y, cs[j]? = some y → V c w y (g j)) : ∃ v, (loadVar t a).run P w = .ok v w ∧ V c w x v := by
  have hadd : a.add 0 = a := by simp [Addr.add]
  unfold mkA at hx
  split at hx
  · rename_i e
    simp only [Option.some.injEq] at hx
    subst hx
    have hl : (loadCells a ((List.range n).map g).length).run P w = .ok ((List.range n).map g).toArray w := run_loadCells_list (P := P) w a ((List.range n).map g) fun j v hv => by
      rw [List.getElem?_map] at hv
      obtain ⟨q, hq, rfl⟩ := Option.map_eq_some_iff.1 hv
      obtain ⟨h1, h2⟩ := List.getElem?_eq_some_iff.1 hq
      simp at h1 h2
      subst h2
      exact (hc j h1).1
    refine ⟨.agg ((List.range n).map g).toArray, ?_, .agg _ _ (by simp [hlen]) (fun j hj => ?_) (fun j y hy => ?_)⟩
    · simp only [loadVar, Sem.run_bind, run_isAgg' e, Result.andThen_ok, if_true, run_sizeOf' hsz]
      simp only [List.length_map, List.length_range] at hl
      rw [hl]
      rfl
    · have hjn : j < n := by omega
      simp [hjn, (hc j hjn).2]
    · have hjn : j < n := by
        have := (List.getElem?_eq_some_iff.1 hy).1
        omega
      simp [hjn]
      exact hv j y hy
  · rename_i e
    split at hx
    · rename_i y
      simp only [Option.some.injEq] at hx
      subst hx
      have hn : n = 1 := by simpa using hlen.symm
      subst hn
      have h0 := hc 0 (by omega)
      rw [hadd] at h0
      refine ⟨g 0, ?_, hv 0 y rfl⟩
      simp [loadVar, Sem.run_bind, run_isAgg' e, h0.1]
    · cases hx
  · cases hx

theorem add_mid' (b o j : Nat) : (⟨b, o, none⟩ : Addr).add j = ⟨b, o + j, none⟩ := by
  unfold Addr.add
  split
  · rename_i h; rw [h]; simp
  · rfl
theorem cell_in {w : World} {b o : Nat} {arr : Array Value} {e : TypeId} {fr : Nat × Nat} (h : w.heap[b]? = some (.cells arr e fr)) (ho : o < arr.size) : w.cell? ⟨b, o, none⟩ = some (arr.getD o undef) := by
  unfold World.cell?
  rw [h]
  simp [ho]

theorem loadA_ok (hm : Mem B c ob w) {T : Table} {t : TypeId} {n : Nat} (hsz : szOf P t = some n) {x : Operand} {ρ : Operand → Value} {a : AV} (ha : V c w a (ρ x)) (h : run T (loadA P ob t n a) = some d) {o : Oper} (ho : o.op = .load t x) :
    Eff P B c ob w (execOp ρ o) d := by
  unfold execOp
  simp only [ho]
  have fin : ∀ (ad : Addr) (y : AV) (rd : List Nat), ρ x = .pointer (some ad) → (∃ v, (loadVar t ad).run P w = .ok v w ∧ V c w y v) → d = ⟨y, [], rd⟩ → Eff P B c ob w (do pure (Next.value (← Instr.loadAt t (ρ x)))) d := fun ad y rd e ⟨v, h1, h2⟩ hd => by
    refine .pure hm (v := v) ?_ h2 hd
    simp [Instr.loadAt, Instr.sureAddr, e, h1]
  cases a <;> simp only [loadA] at h
  case ptr q off =>
    split at h
    · rename_i cs hq
      obtain ⟨l, hl, h⟩ := run_opt h
      obtain ⟨y, hy, h⟩ := run_opt h
      have hd := run_ret h
      obtain ⟨i, b, arr, el, h1, h2, h3, h4, h5, h6⟩ := hm.obj q _ hq
      obtain ⟨ad, i', hz, hi', hp⟩ := ha.inv_ptr
      rw [h1] at hi'; cases hi'
      obtain ⟨b', hb', rfl⟩ := hp h2
      rw [h3] at hb'; cases hb'
      obtain ⟨hll, hlg⟩ := cut_eq hl
      refine fin _ y [q] hz (loadVar_ok hsz hll hy _ (fun j => arr.getD (off + j) undef) (fun j hj => ?_) (fun j y' hy' => ?_)) hd.symm
      · have hcs : (cs[off + j]?).isSome = true := by rw [← hlg j hj]; simp [hll, hj]
        have hlt : off + j < cs.length := by simpa using hcs
        rw [add_mid']
        exact ⟨cell_in h4 (by rw [h5.1]; exact hlt), h5.2.1 _ hlt⟩
      · have hj : j < n := by have := (List.getElem?_eq_some_iff.1 hy').1; omega
        rw [hlg j hj] at hy'
        exact h5.2.2 _ _ hy'
    · exact (run_fail h).elim
  case rp cs =>
    obtain ⟨l, hl, h⟩ := run_opt h
    obtain ⟨y, hy, h⟩ := run_opt h
    have hd := run_ret h
    obtain ⟨ad, g, hz, hF, hc, hv⟩ := ha.inv_rp
    obtain ⟨hll, hlg⟩ := cut_eq hl
    refine fin _ y [] hz (loadVar_ok hsz hll hy _ g (fun j hj => ?_) (fun j y' hy' => ?_)) hd.symm
    · have hcs : (cs[0 + j]?).isSome = true := by rw [← hlg j hj]; simp [hll, hj]
      exact hc j (by simpa using hcs)
    · have hj : j < n := by have := (List.getElem?_eq_some_iff.1 hy').1; omega
      rw [hlg j hj] at hy'
      exact hv j _ (by simpa using hy')
  case eptr q v j off =>
    have go : ∀ (u : Ty) (xs : List u.D) (v' : Nat) (imm : Prop) (i : Inf), c.inf q = some i → i.ver = v' → i.len = xs.length → i.sz = u.sz → xs.length ≤ i.cap → RowB c w i u xs imm → Nat.beq v' v = true →
        run T (.gt u xs j fun x => opt (cut (view u x) off n) fun l => opt (mkA P t l) fun a => .ret ⟨a, [], [q]⟩) = some d → Eff P B c ob w (do pure (Next.value (← Instr.loadAt t (ρ x)))) d := fun u xs v' im i h1 h2 h3 h4 h5 h6 hv h => by
      have hvv := Nat.eq_of_beq_eq_true hv
      simp only [run] at h
      split at h
      case h_2 => cases h
      rename_i e hx
      obtain ⟨l, hl, h⟩ := run_opt h
      obtain ⟨y, hy, h⟩ := run_opt h
      have hd := run_ret h
      obtain ⟨ad, i', hz, hi', hvle, hp⟩ := ha.inv_eptr
      rw [h1] at hi'; cases hi'
      obtain ⟨hjl, b', hb', rfl⟩ := hp (by omega)
      rcases h6 with ⟨h6, h7⟩ | ⟨b, arr, el, k1, k2, k3, k4, k5⟩
      · rw [hb'] at h6; cases h6
      rw [hb'] at k1; cases k1
      obtain ⟨hll, hlg⟩ := cut_eq hl
      refine fin _ y [q] hz (loadVar_ok hsz hll hy _ (fun r => arr.getD (i.off + (j * u.sz + (off + r))) undef) (fun r hr => ?_) (fun r y' hy' => ?_)) hd.symm
      · have hcs : ((view u e)[off + r]?).isSome = true := by rw [← hlg r hr]; simp [hll, hr]
        obtain ⟨yy, hyy⟩ := Option.isSome_iff_exists.1 hcs
        have hlt : off + r < u.sz := by rw [← view_len u e]; exact (List.getElem?_eq_some_iff.1 hyy).1
        have hcc := k4 j e hx (off + r) yy hyy
        have hsz2 : i.off + (j * u.sz + (off + r)) < arr.size := by
          have h8 : j * u.sz + (off + r) < (j + 1) * u.sz := by rw [Nat.add_mul]; omega
          have h9 : (j + 1) * u.sz ≤ i.cap * u.sz := Nat.mul_le_mul_right _ (by omega)
          omega
        rw [add_mid', h4, show i.off + j * u.sz + off + r = i.off + (j * u.sz + (off + r)) by omega]
        exact ⟨cell_in k2 hsz2, hcc.2⟩
      · have hr : r < n := by have := (List.getElem?_eq_some_iff.1 hy').1; omega
        rw [hlg r hr] at hy'
        exact (k4 j e hx _ _ hy').1
    split at h
    · rename_i v' u xs hq
      split at h
      · rename_i hv
        obtain ⟨i, h1, h2, h3, h4, h5, h6⟩ := hm.obj q _ hq
        exact go u xs v' _ i h1 h2 h3 h4 h5 h6 hv h
      · exact (run_fail h).elim
    · rename_i v' u xs hq
      split at h
      · rename_i hv
        obtain ⟨i, h1, h2, h3, h4, h5, h6⟩ := hm.obj q _ hq
        exact go u xs v' _ i h1 h2 h3 h4 h5 h6 hv h
      · exact (run_fail h).elim
    · exact (run_fail h).elim
  all_goals exact (run_fail h).elim
end
end Go.Proofs.Ytohfaccniialmaa.Am
