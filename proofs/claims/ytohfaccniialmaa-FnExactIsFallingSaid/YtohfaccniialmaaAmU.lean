/- What the machine of values does at an operation, the program does: structs and rows that are built, elements, lengths, cuts. -/
import Derived.Test.YtohfaccniialmaaAmT
namespace Go.Proofs.Ytohfaccniialmaa.Am
open Go
set_option linter.constructorNameAsVariable false
set_option linter.unusedVariables false
set_option linter.unusedSimpArgs false
section
variable {P : Program} {B : Base} {c : Cx} {ob : Nat → Option AO} {w : World} {s : Sem Next} {d : Delta}

/-- cells that are filled in, one after the other -/
theorem fold_get (off : Nat) : ∀ (l : List Value) (k : Nat) (cells : Array Value), ((l.zipIdx k).foldl (fun (cs : Array Value) (p : Value × Nat) => cs.setIfInBounds (off + p.2) p.1) cells).size = cells.size ∧
    ∀ i, off + k + l.length ≤ cells.size → ((l.zipIdx k).foldl (fun (cs : Array Value) (p : Value × Nat) => cs.setIfInBounds (off + p.2) p.1) cells).getD i undef = if off + k ≤ i ∧ i < off + k + l.length then l.getD (i - (off + k)) undef else cells.getD i undef
  | [], k, cells => by
    refine ⟨rfl, fun i _ => ?_⟩
    rw [if_neg (by simp)]
    rfl
  | v :: r, k, cells => by
    obtain ⟨h1, h2⟩ := fold_get off r (k + 1) (cells.setIfInBounds (off + k) v)
    refine ⟨by simpa using h1, fun i hi => ?_⟩
    simp only [List.length_cons] at hi
    simp only [List.zipIdx_cons, List.foldl_cons]
    rw [h2 i (by simp; omega)]
    simp only [List.length_cons]
    by_cases e1 : off + (k + 1) ≤ i ∧ i < off + (k + 1) + r.length
    · rw [if_pos e1, if_pos (by omega)]
      rw [show i - (off + k) = (i - (off + (k + 1))) + 1 by omega, List.getD_cons_succ]
    · rw [if_neg e1]
      by_cases e2 : i = off + k
      · subst e2
        rw [if_pos (by omega)]
        have hlt : off + k < cells.size := by omega
        simp [hlt]
      · rw [if_neg (by omega)]
        simp only [Array.getD_eq_getD_getElem?]
        rw [Array.getElem?_setIfInBounds_ne (fun e => e2 e.symm)]

theorem Cl.of_get {cs : List AV} {arr arr' : Array Value} (h : Cl c w cs arr) (hs : arr'.size = arr.size) (hg : ∀ i, arr'.getD i undef = arr.getD i undef) : Cl c w cs arr' :=
  ⟨hs.trans h.1, fun j hj => by rw [hg]; exact h.2.1 j hj, fun j y hy => by rw [hg]; exact h.2.2 j y hy⟩

theorem fillA_len (place : Nat → Option (Nat × Nat)) : ∀ (ps : List (Nat × AV)) (cs l : List AV), fillA place cs ps = some l → l.length = cs.length
  | [], cs, l, h => by
    simp only [fillA, Option.some.injEq] at h
    rw [h]
  | (i, a) :: r, cs, l, h => by
    simp only [fillA] at h
    split at h
    · cases h
    split at h
    · cases h
    split at h
    case h_2 => cases h
    rename_i h1 h2
    have h1 := beq_true h1
    have h2 := ble_true h2
    rw [fillA_len place r _ l h, splice_len (by omega)]
theorem fill_ok (place : Nat → Option (Nat × Nat)) {ev : Operand → AV} {ρ : Operand → Value} (hev : ∀ x, V c w (ev x) (ρ x)) : ∀ (ps : List (Nat × Operand)) (cs l : List AV) (arr : Array Value), Cl c w cs arr → fillA place cs (ps.map fun p => (p.1, ev p.2)) = some l →
    ∃ arr', Instr.fill place arr (ps.map fun p => (p.1, ρ p.2)) = some arr' ∧ Cl c w l arr'
  | [], cs, l, arr, hc, h => by
    simp only [List.map_nil, fillA, Option.some.injEq] at h
    subst h
    exact ⟨arr, rfl, hc⟩
  | (i, x) :: r, cs, l, arr, hc, h => by
    simp only [List.map_cons, fillA] at h
    split at h
    · cases h
    rename_i off size hp
    split at h
    · cases h
    rename_i ac hac
    split at h
    case h_2 => cases h
    rename_i h1 h2
    have h1 := beq_true h1
    have h2 := ble_true h2
    have hx := (hev x).cells hac
    have hcl := hc.spl hx (show off + ac.length ≤ cs.length by omega)
    have hsz : (ρ x).cells.size = size := hx.1.trans h1
    have hlen : (ρ x).cells.toList.length = size := by simp [hsz]
    have hfold := fold_get off (ρ x).cells.toList 0 arr
    have hz : (ρ x).cells.zipIdx.foldl (fun cs (c, j) => cs.setIfInBounds (off + j) c) arr = (((ρ x).cells.toList.zipIdx 0).foldl (fun (cs : Array Value) (p : Value × Nat) => cs.setIfInBounds (off + p.2) p.1) arr) := by
      rw [← Array.foldl_toList]
      simp [Array.toList_zipIdx]
    have hfit : off + (ρ x).cells.toList.length ≤ arr.size := by rw [hlen, hc.1]; exact h2
    have hcl2 : Cl c w (splice cs off ac) ((ρ x).cells.zipIdx.foldl (fun cs (c, j) => cs.setIfInBounds (off + j) c) arr) := by
      rw [hz]
      refine hcl.of_get (by rw [hfold.1, spl_size hfit]) fun j => ?_
      rw [hfold.2 j (by omega), spl_get hfit]
      simp
    obtain ⟨arr', k1, k2⟩ := fill_ok place hev r _ l _ hcl2 h
    refine ⟨arr', ?_, k2⟩
    simp only [List.map_cons, Instr.fill, hp]
    rw [if_neg (by simp [hsz]; have := hc.1; omega)]
    exact k1

theorem places_mapM : ∀ (fs : List Field) (pl : List (Nat × Nat)), places P fs = some pl → fs.mapM (fun f => (P.info? f.type).map fun i => (f.offset, i.size)) = some pl
  | [], pl, h => by
    simp only [places, Option.some.injEq] at h
    subst h
    rfl
  | f :: r, pl, h => by
    simp only [places] at h
    split at h
    · rename_i n l hn hl
      simp only [Option.some.injEq] at h
      subst h
      obtain ⟨i, hi, rfl⟩ := szOf_info hn
      simp [List.mapM_cons, hi, places_mapM r l hl]
    · cases h

theorem build_ok (hm : Mem B c ob w) {T : Table} {t : TypeId} {ps : Array (Nat × Operand)} {ρ : Operand → Value} {ev : Operand → AV} (hev : ∀ x, V c w (ev x) (ρ x)) {o : Oper} (ho : o.op = .build t ps)
    (h : run T (opt (zeroC P t) fun z => opt (fieldsOf P t) fun fs => opt (places P fs) fun pl => opt (fillA (fun i => pl[i]?) z (ps.toList.map fun p => (p.1, ev p.2))) fun cs => now (.agg cs)) = some d) : Eff P B c ob w (execOp ρ o) d := by
  obtain ⟨z, hz, h⟩ := run_opt h
  obtain ⟨fs, hfs, h⟩ := run_opt h
  obtain ⟨pl, hpl, h⟩ := run_opt h
  obtain ⟨cs, hcs, h⟩ := run_opt h
  obtain ⟨i, zv, hi, hzv, hl, hc⟩ := zeroC_ok hz
  obtain ⟨fa, hu, hfa⟩ := fieldsOf_eq hfs
  obtain ⟨arr', k1, k2⟩ := fill_ok (fun i => pl[i]?) hev ps.toList z cs zv.cells (hc c w) hcs
  have hb : P.built t (ps.map fun p => (p.1, ρ p.2)).toList = some arr' := by
    simp only [Program.built, hi, hu, hzv, hfa, places_mapM fs pl hpl, Array.toList_map]
    simpa using k1
  refine .now hm h (v := .agg arr') ?_ (.agg _ _ k2.1 k2.2.1 k2.2.2)
  unfold execOp
  simp only [ho]
  have := run_build w t _ arr' hb
  simp only [Sem.run_bind]
  rw [show (ps.map fun x => match x with | (i, x) => (i, ρ x)) = ps.map fun p => (p.1, ρ p.2) from rfl, this]
  rfl

theorem repl_len {α : Type} (l : List α) : ∀ n, (repl n l).length = n * l.length
  | 0 => by simp [repl]
  | n + 1 => by simp [repl, repl_len l n, Nat.add_mul]; omega
theorem repl_get {α : Type} (l : List α) : ∀ (n j : Nat), j < n * l.length → (repl n l)[j]? = l[j % l.length]?
  | 0, j, h => by simp at h
  | n + 1, j, h => by
    simp only [repl, List.getElem?_append]
    split
    · rename_i h1
      rw [Nat.mod_eq_of_lt h1]
    · rename_i h1
      rw [repl_get l n _ (by rw [Nat.add_mul] at h; omega)]
      congr 1
      exact (Nat.mod_eq_sub_mod (by omega)).symm

theorem zeros_ok {z : List AV} {zv : Array Value} (hc : Cl c w z zv) (n sz : Nat) (hsz : z.length = sz) (za : Array Value) (hza : n * sz ≠ 0 → za = zv) :
    Cl c w (repl n z) ((Array.range (n * sz)).map (za[· % za.size]!)) := by
  have hl : (repl n z).length = n * sz := by rw [repl_len, hsz]
  have key : ∀ j, j < n * sz → ((Array.range (n * sz)).map (za[· % za.size]!)).getD j undef = zv.getD (j % z.length) undef := fun j hj => by
    have hne : n * sz ≠ 0 := by omega
    have hsp : 0 < sz := Nat.pos_of_ne_zero fun e => by rw [e] at hne; simp at hne
    rw [hza hne]
    have hm : j % zv.size < zv.size := Nat.mod_lt _ (by rw [hc.1, hsz]; exact hsp)
    have e : zv.size = z.length := hc.1
    rw [e] at hm
    have hm' : j % z.length < zv.size := by rw [e]; exact hm
    simp [hj, e]
    rw [getElem!_pos zv _ hm', Array.getElem?_eq_getElem hm']
    rfl
  refine ⟨by simp [hl], fun j hj => ?_, fun j y hy => ?_⟩
  · rw [hl] at hj
    rw [key j hj]
    have hsp : 0 < z.length := by rw [hsz]; exact Nat.pos_of_ne_zero fun e => by rw [e] at hj; simp at hj
    exact hc.2.1 _ (Nat.mod_lt _ hsp)
  · have hj : j < n * sz := by rw [← hl]; exact (List.getElem?_eq_some_iff.1 hy).1
    rw [key j hj]
    rw [repl_get z n j (by rw [hsz]; exact hj)] at hy
    exact hc.2.2 _ y hy

theorem unviews_ok {t : Ty} : ∀ (n : Nat) (cs : List AV) (xs : List t.D), unviews t (chunks t.sz n cs) = some xs → n * t.sz ≤ cs.length → xs.length = n ∧
    ∀ (c : Cx) (w : World) (g : Nat → Value), (∀ j y, cs[j]? = some y → V c w y (g j)) → ∀ j x, xs[j]? = some x → ∀ q y, (view t x)[q]? = some y → V c w y (g (j * t.sz + q))
  | 0, cs, xs, h, _ => by
    simp only [chunks, unviews, Option.some.injEq] at h
    subst h
    exact ⟨rfl, fun c w g hg j x hx => by simp at hx⟩
  | n + 1, cs, xs, h, hl => by
    simp only [chunks, unviews] at h
    split at h
    · rename_i x0 l h1 h2
      simp only [Option.some.injEq] at h
      subst h
      rw [Nat.add_mul, Nat.one_mul] at hl
      obtain ⟨k1, k2⟩ := unview_ok t _ x0 h1
      obtain ⟨m1, m2⟩ := unviews_ok n _ l h2 (by rw [List.length_drop]; omega)
      refine ⟨by simp [m1], fun c w g hg j x hx q y hy => ?_⟩
      cases j with
      | zero =>
        simp at hx
        subst hx
        have := k2 c w g (fun j y hy => by
          rw [List.getElem?_take] at hy
          split at hy
          · exact hg j y hy
          · cases hy) q y hy
        simpa using this
      | succ j =>
        simp at hx
        have := m2 c w (fun j => g (t.sz + j)) (fun j y hy => by rw [List.getElem?_drop] at hy; exact hg _ y hy) j x hx q y hy
        rwa [show t.sz + (j * t.sz + q) = (j + 1) * t.sz + q by rw [Nat.add_mul]; omega] at this
    · cases h

/-- a new row out of cells -/
theorem newRow_ok (hm : Mem B c ob w) {k : Nat} (hnw : c.inf k = none → 1000 ≤ k) (hk : ob k = none) {u : Ty} {xs : List u.D} {arr : Array Value} {n : Nat} (hn : xs.length = n) (hs : arr.size = n * u.sz) (h1 : ∀ j, j < n * u.sz → (arr.getD j undef).oneCell' = true)
    (hv : ∀ j x, xs[j]? = some x → ∀ q y, (view u x)[q]? = some y → V c w y (arr.getD (j * u.sz + q) undef)) (e : TypeId) :
    ∃ c', Mem B c' (fup ob [(k, .row 0 u xs)]) (w.alloc (.cells arr e)) ∧ Ext c w c' (w.alloc (.cells arr e)) ∧ V c' (w.alloc (.cells arr e)) (.own k 0) (.slice (some ⟨w.heap.size, 0, none⟩) n n) := by
  obtain ⟨k1, k2⟩ := hm.newRow hnw hk (xs := xs) (arr := arr) n (fun j x hx q y hy => by
    rw [Nat.zero_add]
    refine ⟨hv j x hx q y hy, h1 _ ?_⟩
    have hq : q < u.sz := by rw [← view_len u x]; exact (List.getElem?_eq_some_iff.1 hy).1
    have hj : j < n := by rw [← hn]; exact (List.getElem?_eq_some_iff.1 hx).1
    have := Nat.mul_le_mul_right u.sz (show j + 1 ≤ n from hj)
    rw [Nat.add_mul, Nat.one_mul] at this
    omega) (by omega) (by omega) e _ rfl
  refine ⟨_, k1, k2, .own k 0 _ _ _ _ (Cx.set_eq _ _ _) (Nat.le_refl _) fun _ => ?_⟩
  refine ⟨some ⟨w.heap.size, 0, none⟩, n, by rw [hn], by simp [hn], by simp, fun _ => ⟨_, rfl, by simp⟩⟩

theorem buildSlice_ok (hm : Mem B c ob w) {T : Table} {t : TypeId} {n k : Nat} (hkb : 1000 ≤ k) {ps : Array (Nat × Operand)} {ρ : Operand → Value} {ev : Operand → AV} (hev : ∀ x, V c w (ev x) (ρ x)) {o : Oper} (ho : o.op = .buildSlice t n ps)
    (h : run T (match P.underlying t with
    | some (.slice e) => opt (tyOf P 8 e) fun u => opt (szOf P e) fun sz => opt (zeroC P e) fun z => match Nat.beq sz u.sz && Nat.beq z.length sz, Nat.ble (n * sz) 16777216 with
      | true, true => opt (fillA (fun i => some (i * sz, sz)) (repl n z) (ps.toList.map fun p => (p.1, ev p.2))) fun cs =>
          opt (frz ob cs) fun w => opt (unviews u (chunks sz n w.1)) fun xs => fresh ob k (.ret ⟨.own k 0, w.2 ++ [(k, .row 0 u xs)], w.2.map (·.1)⟩)
      | _, _ => .fail
    | _ => .fail) = some d) : Eff P B c ob w (execOp ρ o) d := by
  split at h
  case h_2 => exact (run_fail h).elim
  rename_i e hu
  obtain ⟨u, hty, h⟩ := run_opt h
  obtain ⟨sz, hsz, h⟩ := run_opt h
  obtain ⟨z, hz, h⟩ := run_opt h
  split at h
  case h_2 => exact (run_fail h).elim
  rename_i hb hle
  rw [Bool.and_eq_true] at hb
  have hzl := beq_true hb.2
  have hb := beq_true hb.1
  have hle := ble_true hle
  subst hb
  obtain ⟨cs, hcs, h⟩ := run_opt h
  obtain ⟨⟨l, fs⟩, hfz, h⟩ := run_opt h
  obtain ⟨xs, hxs, h⟩ := run_opt h
  obtain ⟨hk, h⟩ := run_fresh h
  have hd := run_ret h
  subst hd
  obtain ⟨i, zv, hi, hzv, hl, hc⟩ := zeroC_ok hz
  obtain ⟨i2, hi2, his⟩ := szOf_info hsz
  rw [hi] at hi2
  cases hi2
  obtain ⟨arr', k1, k2⟩ := fill_ok (fun i => some (i * u.sz, u.sz)) hev ps.toList (repl n z) cs _ (zeros_ok (hc c w) n u.sz hzl (if n * u.sz = 0 then #[] else zv.cells) (fun h0 => if_neg h0)) hcs
  have hcl : cs.length = n * u.sz := by
    rw [fillA_len _ _ _ _ hcs, repl_len, hzl]
  obtain ⟨c1, m1, m2, m3, m4, m5⟩ := frz_ok cs l fs hfz c ob hm (.refl ob) (fun j => arr'.getD j undef) (fun j y hy => k2.2.2 j y hy)
  obtain ⟨q1, q2⟩ := unviews_ok n l xs hxs (by rw [m4, hcl]; exact Nat.le_refl _)
  have hk1 : fup ob fs k = none := by
    rcases m2 k with h | ⟨v, t, xs, h, _⟩
    · rw [h]; exact hk
    · rw [hk] at h; cases h
  obtain ⟨c2, r1, r2, r3⟩ := newRow_ok m1 (fun _ => hkb) hk1 q1 (by rw [k2.1, hcl]) (fun j hj => k2.2.1 j (by rw [hcl]; exact hj)) (q2 c1 w _ m5) e
  refine ⟨_, _, c2, .inl ?_, by rw [fup_append]; exact r1, m3.trans r2, r3⟩
  unfold execOp
  simp only [ho]
  have hps : (ps.map fun x => match x with | (i, x) => (i, ρ x)) = ps.map fun p => (p.1, ρ p.2) := rfl
  simp only [Sem.run_bind, Instr.buildSlice, run_underlying hu, Result.andThen_ok, run_sizeOf' hsz]
  rw [if_neg (by omega)]
  by_cases h0 : n * u.sz = 0
  · rw [if_pos h0] at k1 ⊢
    simp only [Sem.run_bind, Sem.run_pure, Result.andThen_ok]
    rw [hps, Array.toList_map, k1]
    rfl
  · rw [if_neg h0] at k1 ⊢
    simp only [Sem.run_bind, Sem.run_pure, Result.andThen_ok, run_zeroValue' hi hzv]
    rw [hps, Array.toList_map, k1]
    rfl
end
end Go.Proofs.Ytohfaccniialmaa.Am
