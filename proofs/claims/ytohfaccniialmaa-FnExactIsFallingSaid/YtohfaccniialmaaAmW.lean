/- What the machine of values does at an operation, the program does: rows that are made, elements, lengths, cuts. -/
import Derived.Test.YtohfaccniialmaaAmU
import Derived.Laws.MakeOwn
namespace Go.Proofs.Ytohfaccniialmaa.Am
open Go
set_option linter.constructorNameAsVariable false
set_option linter.unusedVariables false
set_option linter.unusedSimpArgs false
section
variable {P : Program} {B : Base} {c : Cx} {ob : Nat → Option AO} {w : World} {s : Sem Next} {d : Delta}

theorem bytesT_eq {t e : TypeId} {n : Nat} (hu : P.underlying t = some (.slice e)) (h : bytesT P t = some n) : ∃ i, P.info? e = some i ∧ i.bytes = n := by
  unfold bytesT at h
  rw [hu] at h
  simp only at h
  split at h
  · exact ⟨_, ‹_›, by simpa using h⟩
  · cases h
theorem room_le {n by_ : Nat} (h : n ≤ room by_) : n * by_ ≤ 35184372088832 ∧ n ≤ 35184372088832 := by
  unfold room at h
  have h1 : n * (by_ + 1) ≤ 35184372088832 := Nat.le_trans (Nat.mul_le_mul_right _ h) (Nat.div_mul_le_self _ _)
  have h2 : n * by_ ≤ n * (by_ + 1) := Nat.mul_le_mul_left _ (Nat.le_succ _)
  have h3 : n * 1 ≤ n * (by_ + 1) := Nat.mul_le_mul_left _ (by omega)
  omega
theorem wrap64' {n : Int} (h0 : 0 ≤ n) (h1 : n ≤ 35184372088832) : IntKind.i64.wrap n = n := by
  simp only [IntKind.wrap, IntKind.bits, IntKind.signed]
  have e : n % (2 ^ 64 : Int) = n := Int.emod_eq_of_lt h0 (by omega)
  simp only [e]
  split
  · rename_i h
    simp only [Bool.true_and, decide_eq_true_eq] at h
    omega
  · rfl

theorem _root_.Nat.mul_add_mod_of_lt' {j n q : Nat} (h : q < n) : (j * n + q) % n = q := by
  rw [Nat.add_comm, Nat.add_mul_mod_self_right, Nat.mod_eq_of_lt h]
theorem makeSlice_ok (hm : Mem B c ob w) {T : Table} {t : TypeId} {k : Nat} (hkb : 1000 ≤ k) {x y : Operand} {ρ : Operand → Value} {a b : AV} (ha : V c w a (ρ x)) (hb : V c w b (ρ y)) {o : Oper} (ho : o.op = .makeSlice t x y)
    (h : run T (opt (elemT P t) fun u => match P.underlying t with
    | some (.slice e) => opt (zeroC P e) fun z => opt (unview u z) fun y => opt (bytesT P t) fun by_ => match a, b, szIs P e u.sz with
      | .i .i64 n, .i .i64 m, true => grd (decide (0 ≤ n)) (grd (decide (n ≤ m)) (grd (decide (m ≤ (room by_ : Int))) (fresh ob k (.ret ⟨.own k 0, [(k, .row 0 u (List.replicate n.toNat y))], []⟩))))
      | _, _, _ => .fail
    | _ => .fail) = some d) : Eff P B c ob w (execOp ρ o) d := by
  obtain ⟨u, hty, g1⟩ := run_opt h
  clear h
  split at g1
  case h_2 => exact (run_fail g1).elim
  rename_i e hu
  obtain ⟨z, hz, g2⟩ := run_opt g1
  clear g1
  obtain ⟨yv, hyv, g3⟩ := run_opt g2
  clear g2
  obtain ⟨by_, hby, h⟩ := run_opt g3
  clear g3
  split at h
  case h_2 => exact (run_fail h).elim
  rename_i n m hszis
  obtain ⟨h0, h⟩ := run_grd h
  obtain ⟨h1, h⟩ := run_grd h
  obtain ⟨h2, h⟩ := run_grd h
  have h0 : 0 ≤ n := by simpa using h0
  have h1 : n ≤ m := by simpa using h1
  have h2 : m ≤ (room by_ : Int) := by simpa using h2
  obtain ⟨hk, h⟩ := run_fresh h
  have hd := run_ret h
  subst hd
  have ex := V.inv_i ha
  have ey := V.inv_i hb
  obtain ⟨i, zv, hi, hzv, hl, hc⟩ := zeroC_ok hz
  obtain ⟨i2, hi2, hbs⟩ := bytesT_eq hu hby
  rw [hi] at hi2
  cases hi2
  obtain ⟨hul, huv⟩ := unview_ok u z yv hyv
  obtain ⟨mm, rfl⟩ : ∃ mm : Nat, m = (mm : Int) := ⟨m.toNat, by omega⟩
  obtain ⟨nn, rfl⟩ : ∃ nn : Nat, n = (nn : Int) := ⟨n.toNat, by omega⟩
  have hroom := room_le (n := mm) (by_ := by_) (by omega)
  have hisz : i.size = u.sz := by
    unfold szIs at hszis
    split at hszis
    · rename_i q hq
      obtain ⟨i3, hi3, rfl⟩ := szOf_info hq
      rw [hi] at hi3
      cases hi3
      exact beq_true hszis
    · cases hszis
  have hZ := zeros_ok (hc c w) mm u.sz hul zv.cells (fun _ => rfl)
  have hrun := run_make (P := P) w t e i zv hu hi hzv .i64 .i64 nn mm h0 h1 (by
    have : ((i.bytes * mm : Nat) : Int) ≤ 35184372088832 := by rw [Nat.mul_comm, hbs]; omega
    rw [Int.natCast_mul] at this
    omega) (by omega)
  simp only [Int.toNat_natCast, hisz] at hrun
  have hcells : Cells c w (madeCells zv.cells (mm * u.sz)) 0 u (List.replicate nn yv) := fun j x hx q y hy => by
    have hj : j < nn := by have := (List.getElem?_eq_some_iff.1 hx).1; simpa using this
    have hxy : x = yv := by
      have := (List.getElem?_eq_some_iff.1 hx).2
      simpa using this.symm
    subst hxy
    have hq : q < u.sz := by rw [← view_len u x]; exact (List.getElem?_eq_some_iff.1 hy).1
    have hlt : j * u.sz + q < mm * u.sz := by
      have := Nat.mul_le_mul_right u.sz (show j + 1 ≤ mm by omega)
      rw [Nat.add_mul, Nat.one_mul] at this
      omega
    have hzl : (repl mm z).length = mm * u.sz := by rw [repl_len, hul]
    rw [Nat.zero_add]
    refine ⟨?_, hZ.2.1 _ (by rw [hzl]; exact hlt)⟩
    refine huv c w (fun q => (madeCells zv.cells (mm * u.sz)).getD (j * u.sz + q) undef) (fun q' y' hy' => ?_) q y hy
    have hq' : q' < u.sz := by rw [← hul]; exact (List.getElem?_eq_some_iff.1 hy').1
    have hlt' : j * u.sz + q' < mm * z.length := by
      have := Nat.mul_le_mul_right u.sz (show j + 1 ≤ mm by omega)
      rw [Nat.add_mul, Nat.one_mul] at this
      rw [hul]
      omega
    refine hZ.2.2 _ y' ?_
    rw [repl_get z mm _ hlt', hul, Nat.mul_add_mod_of_lt' hq']
    exact hy'
  obtain ⟨k1, k2⟩ := hm.newRow (fun _ => hkb) hk mm hcells (by simpa using (by omega : nn ≤ mm)) (by simp [size_madeCells]) e _ rfl
  rw [Int.toNat_natCast]
  refine ⟨_, _, _, .inl ?_, k1, k2, .own k 0 (some ⟨w.heap.size, 0, none⟩) nn mm _ (Cx.set_eq _ _ _) (Nat.le_refl _) fun _ => ⟨some ⟨w.heap.size, 0, none⟩, mm, by rw [List.length_replicate], by simpa using (by omega : nn ≤ mm), Nat.zero_add _, fun _ => ⟨_, rfl, by simp⟩⟩⟩
  unfold execOp
  simp only [ho]
  simp only [Sem.run_bind, ex, ey, hrun, Result.andThen_ok, Sem.run_pure]
end
end Go.Proofs.Ytohfaccniialmaa.Am
