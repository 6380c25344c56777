/- What the machine of values does at an operation, the program does: elements and cuts. -/
import Derived.Test.YtohfaccniialmaaAmY
namespace Go.Proofs.Ytohfaccniialmaa.Am
open Go
set_option linter.constructorNameAsVariable false
set_option linter.unusedVariables false
set_option linter.unusedSimpArgs false
section
variable {P : Program} {B : Base} {c : Cx} {ob : Nat → Option AO} {w : World} {s : Sem Next} {d : Delta}

theorem indexAddr_ok (hm : Mem B c ob w) {T : Table} {t : TypeId} {x y : Operand} {ρ : Operand → Value} {a b : AV} (ha : V c w a (ρ x)) (hb : V c w b (ρ y)) {o : Oper} (ho : o.op = .indexAddr t x y)
    (h : run T (match P.underlying t, b with
    | some (.slice e), .i _ n => opt (szOf P e) fun sz => match a with
      | .lst u xs => match Nat.beq u.sz sz with
        | true => grd (decide (0 ≤ n)) (.gt u xs n.toNat fun y => now (.rp (view u y)))
        | false => .fail
      | .own o v => opt (rowOf ob none (.own o v)) fun r => match Nat.beq r.t.sz sz with
        | true => grd (decide (0 ≤ n)) (grd (decide (n < (r.xs.length : Int))) (.ret ⟨.eptr o v n.toNat 0, [], r.rd⟩))
        | false => .fail
      | .sub o v lo m => opt (rowOf ob none (.own o v)) fun r => match Nat.beq r.t.sz sz with
        | true => grd (decide (0 ≤ n)) (grd (decide (n < (m : Int))) (.ret ⟨.eptr o v (lo + n.toNat) 0, [], r.rd⟩))
        | false => .fail
      | _ => .fail
    | _, _ => .fail) = some d) : Eff P B c ob w (execOp ρ o) d := by
  split at h
  case h_2 => exact (run_fail h).elim
  rename_i e k n hu
  obtain ⟨sz, hsz, h2⟩ := run_opt h
  clear h
  have ey := V.inv_i hb
  have go : ∀ (ad : Addr) (l cp : Nat), ρ x = .slice (some ad) l cp → 0 ≤ n → n < (l : Int) → (execOp ρ o).run P w = .ok (.value (.pointer (some (ad.add (n.toNat * sz))))) w := fun ad l cp ex h0 h1 => by
    unfold execOp
    simp only [ho]
    simp [Instr.indexAt, asIntOf, ey, ex, run_underlying hu, h0, h1, run_sizeOf' hsz]
  cases a <;> simp only at h2
  case lst u xs =>
    split at h2
    case h_2 => exact (run_fail h2).elim
    rename_i hs
    have hs := beq_true hs
    obtain ⟨h0, h3⟩ := run_grd h2
    clear h2
    have h0 : 0 ≤ n := by simpa using h0
    simp only [run] at h3
    split at h3
    case h_2 => cases h3
    rename_i z hz
    obtain ⟨A, cp, g, ex, hn, hA, hv⟩ := ha.inv_lst
    have hlt : n.toNat < xs.length := (List.getElem?_eq_some_iff.1 hz).1
    obtain ⟨ad, rfl, hF, hc⟩ := hA (by omega)
    have hd : some (⟨.rp (view u z), [], []⟩ : Delta) = some d := h3
    refine .pure hm (go ad _ _ ex h0 (by omega)) (.rp _ _ (fun j => g (n.toNat * u.sz + j)) (by rw [add_block']; exact hF) (fun j hj => ?_) (fun j y' hy' => hv _ z hz j y' hy')) (Option.some.inj hd).symm
    rw [view_len] at hj
    rw [add_add', ← hs]
    refine hc _ ?_
    have := Nat.mul_le_mul_right u.sz (show n.toNat + 1 ≤ xs.length from hlt)
    rw [Nat.add_mul, Nat.one_mul] at this
    omega
  case own q v =>
    obtain ⟨r, hr, h3⟩ := run_opt h2
    clear h2
    split at h3
    case h_2 => exact (run_fail h3).elim
    rename_i hs
    have hs := beq_true hs
    obtain ⟨h0, h4⟩ := run_grd h3
    clear h3
    obtain ⟨h1, h5⟩ := run_grd h4
    clear h4
    have h0 : 0 ≤ n := by simpa using h0
    have h1 : n < (r.xs.length : Int) := by simpa using h1
    have hd := run_ret h5
    obtain ⟨hq, _⟩ := rowOf_own hr
    obtain ⟨i, p, k1, k2, k3, k4, k5, k6, A, cp, ex, k7, k8, k9⟩ := own_head hm hq ha
    obtain ⟨b', hb', rfl⟩ := k9 (by omega)
    refine .pure hm (go _ _ _ ex h0 h1) (.eptr q v n.toNat 0 _ i k1 (by omega) fun _ => ⟨by omega, b', hb', ?_⟩) hd.symm
    rw [add_mid', k4, hs]
    simp
  case sub q v lo m =>
    obtain ⟨r, hr, h3⟩ := run_opt h2
    clear h2
    split at h3
    case h_2 => exact (run_fail h3).elim
    rename_i hs
    have hs := beq_true hs
    obtain ⟨h0, h4⟩ := run_grd h3
    clear h3
    obtain ⟨h1, h5⟩ := run_grd h4
    clear h4
    have h0 : 0 ≤ n := by simpa using h0
    have h1 : n < (m : Int) := by simpa using h1
    have hd := run_ret h5
    obtain ⟨hq, _⟩ := rowOf_own hr
    obtain ⟨i, p, k1, k2, k3, k4, k5, k6, hlo, A, cp, ex, k7, k8, k9⟩ := sub_head hm hq ha
    obtain ⟨b', hb', rfl⟩ := k9 (by omega)
    refine .pure hm (go _ _ _ ex h0 h1) (.eptr q v (lo + n.toNat) 0 _ i k1 (by omega) fun _ => ⟨by omega, b', hb', ?_⟩) hd.symm
    rw [add_mid', k4, hs, Nat.add_mul]
    simp [Nat.add_assoc]
  all_goals exact (run_fail h2).elim

theorem index_ok (hm : Mem B c ob w) {T : Table} {t : TypeId} {x y : Operand} {ρ : Operand → Value} {a b : AV} (ha : V c w a (ρ x)) (hb : V c w b (ρ y)) {o : Oper} (ho : o.op = .index t x y)
    (h : run T (match P.underlying t, a, b with
      | some .string, .s b, .i _ n => grd (decide (0 ≤ n)) (grd (decide (n < (b.size : Int))) (now (.i .u8 ((b.data.toList.getD n.toNat 0).toNat : Int))))
      | _, _, _ => .fail) = some d) : Eff P B c ob w (execOp ρ o) d := by
  split at h
  case h_2 => exact (run_fail h).elim
  rename_i bs k n hu
  obtain ⟨h0, h2⟩ := run_grd h
  clear h
  obtain ⟨h1, h3⟩ := run_grd h2
  clear h2
  have h0 : 0 ≤ n := by simpa using h0
  have h1 : n < (bs.size : Int) := by simpa using h1
  have hlt : n.toNat < bs.size := by omega
  refine .now hm h3 (v := .int .u8 ((bs.data.toList.getD n.toNat 0).toNat : Int)) ?_ (.i _ _)
  unfold execOp
  simp only [ho]
  have hg : bs[n.toNat]? = some (bs.data.toList.getD n.toNat 0) := by
    have hlt2 : n.toNat < bs.data.size := hlt
    rw [getElem?_pos bs n.toNat hlt]
    congr 1
    rw [List.getD_eq_getElem?_getD, Array.getElem?_toList, Array.getElem?_eq_getElem hlt2]
    rfl
  simp [Instr.index, asIntOf, V.inv_s ha, V.inv_i hb, run_underlying hu, h0, hg]

/-! ### cuts -/
theorem bnd_ok {T : Table} {n : Nat} {l h : Int} {k : TD} (e : run T (bndA n l h k) = some d) : 0 ≤ l ∧ l ≤ h ∧ h ≤ (n : Int) ∧ run T k = some d := by
  unfold bndA at e
  obtain ⟨h0, e⟩ := run_grd e
  obtain ⟨h1, e⟩ := run_grd e
  obtain ⟨h2, e⟩ := run_grd e
  exact ⟨by simpa using h0, by simpa using h1, by simpa using h2, e⟩
theorem sliceBounds_ok {isS : Bool} {len cap : Nat} {lo hi : Option Operand} {ρ : Operand → Value} {ev : Operand → AV} (hev : ∀ x, V c w (ev x) (ρ x)) {l h : Int} (h1 : numA 0 (lo.map ev) = some l) (h2 : numA (len : Int) (hi.map ev) = some h)
    (h0 : 0 ≤ l) (hlh : l ≤ h) (hh : h ≤ (len : Int)) (hc : len ≤ cap) (mk : Option Value) : (Instr.sliceBounds isS len cap (lo.map ρ) (hi.map ρ) none).run P w = .ok (l.toNat, h.toNat, cap) w := by
  have bnd : ∀ (x : Operand) (n : Int) (k : IntKind) (y : Nat) (code : BoundsCode), ev x = .i k n → 0 ≤ n → n ≤ (y : Int) → (Instr.sliceBound (ρ x) y code).run P w = .ok n.toNat w := fun x n k y code e h0 h1 => by
    have := hev x
    rw [e] at this
    rw [V.inv_i this]
    simp [Instr.sliceBound, asIntOf, h0, h1]
  have hln : ∀ x, lo = some x → ∃ k, ev x = .i k l := fun x e => by
    subst e
    simp only [Option.map_some] at h1
    unfold numA at h1
    split at h1
    · rename_i e; cases e
    · rename_i k n e
      simp only [Option.some.injEq] at h1 e
      subst h1
      exact ⟨k, e⟩
    · cases h1
  have hhn : ∀ x, hi = some x → ∃ k, ev x = .i k h := fun x e => by
    subst e
    simp only [Option.map_some] at h2
    unfold numA at h2
    split at h2
    · rename_i e; cases e
    · rename_i k n e
      simp only [Option.some.injEq] at h2 e
      subst h2
      exact ⟨k, e⟩
    · cases h2
  have hl0 : lo = none → l = 0 := fun e => by
    subst e
    simp only [Option.map_none, numA, Option.some.injEq] at h1
    exact h1.symm
  have hh0 : hi = none → h = len := fun e => by
    subst e
    simp only [Option.map_none, numA, Option.some.injEq] at h2
    exact h2.symm
  cases hi with
  | none =>
    have eh := hh0 rfl
    subst eh
    cases lo with
    | none =>
      have el := hl0 rfl
      subst el
      simp [Instr.sliceBounds]
    | some x =>
      obtain ⟨k, e⟩ := hln x rfl
      simp [Instr.sliceBounds, bnd x l k len _ e h0 hlh]
  | some y =>
    obtain ⟨k', e'⟩ := hhn y rfl
    cases lo with
    | none =>
      have el := hl0 rfl
      subst el
      simp [Instr.sliceBounds, bnd y h k' cap _ e' (by omega) (by omega)]
    | some x =>
      obtain ⟨k, e⟩ := hln x rfl
      simp [Instr.sliceBounds, bnd y h k' cap _ e' (by omega) (by omega), bnd x l k h.toNat _ e h0 (by omega)]
theorem zeroA_eq {x : Option AV} (h : zeroA x = true) : ∃ k, x = some (.i k 0) := by
  unfold zeroA at h
  split at h
  · rename_i k n
    split at h
    · rename_i m
      have := beq_true h
      subst this
      exact ⟨k, rfl⟩
    · cases h
  · cases h
theorem lenA_slice (hm : Mem B c ob w) {a : AV} {x : Value} (ha : V c w a x) {r : Int × List Nat} (h : lenA ob a = some r) : ∃ A l cp, x = .slice A l cp := by
  cases a <;> simp only [lenA, reduceCtorEq] at h
  case own q v => obtain ⟨A, n, cp, i, e, _⟩ := ha.inv_own; exact ⟨A, n, cp, e⟩
  case sub q v lo m => obtain ⟨A, n, cp, i, e, _⟩ := ha.inv_sub; exact ⟨A, n, cp, e⟩
  case lst t xs => obtain ⟨A, cp, g, e, _⟩ := ha.inv_lst; exact ⟨A, _, cp, e⟩
  case nils => obtain ⟨A, e⟩ := ha.inv_nils; exact ⟨A, _, _, e⟩

theorem slice_ok (hm : Mem B c ob w) {T : Table} {t : TypeId} {x : Operand} {lo hi mx : Option Operand} {ρ : Operand → Value} {ev : Operand → AV} (hev : ∀ x, V c w (ev x) (ρ x)) {o : Oper} (ho : o.op = .slice t x lo hi mx)
    (h : run T (sliceA P ob t (ev x) (lo.map ev) (hi.map ev) (mx.map ev)) = some d) : Eff P B c ob w (execOp ρ o) d := by
  have ha := hev x
  have hex : execOp ρ o = (do pure (Next.value (← Instr.sliceAt t (ρ x) (lo.map ρ) (hi.map ρ) (mx.map ρ)))) := by
    unfold execOp
    simp only [ho]
  rw [hex]
  unfold sliceA at h
  split at h
  · rename_i hu
    split at h
    · rename_i b hax hmx
      rw [hax] at ha
      have hmx0 : mx = none := by simpa using hmx
      subst hmx0
      obtain ⟨l, hl, h1⟩ := run_opt h
      obtain ⟨hh, hhh, h2⟩ := run_opt h1
      obtain ⟨b0, b1, b2, h3⟩ := bnd_ok h2
      refine .now hm h3 (v := .string (b.extract l.toNat hh.toNat)) ?_ (.s _)
      simp [Instr.sliceAt, run_underlying hu, Instr.slice, V.inv_s ha, sliceBounds_ok (P := P) (w := w) (isS := false) (cap := b.size) hev hl hhh b0 b1 b2 (Nat.le_refl _) none]
    · exact (run_fail h).elim
  · rename_i e hu
    obtain ⟨sz, hsz, h1⟩ := run_opt h
    clear h
    split at h1
    · rename_i m hmx
      split at h1
      · rename_i hz
        rw [Bool.and_eq_true, Bool.and_eq_true] at hz
        obtain ⟨z1, z2, z3⟩ := hz
        rw [← hmx] at z3
        obtain ⟨r, hr, h2⟩ := run_opt h1
        have hd := run_ret h2
        obtain ⟨A, l, cp, ex⟩ := lenA_slice hm ha hr
        have bnd : ∀ (y : Option Operand), zeroA (y.map ev) = true → ∃ z k, y = some z ∧ ρ z = .int k 0 := fun y hy => by
          obtain ⟨k, hk⟩ := zeroA_eq hy
          cases y with
          | none => cases hk
          | some z =>
            simp only [Option.map_some, Option.some.injEq] at hk
            have := hev z
            rw [hk] at this
            exact ⟨z, k, rfl, V.inv_i this⟩
        obtain ⟨y1, k1, rfl, e1⟩ := bnd lo z1
        obtain ⟨y2, k2, rfl, e2⟩ := bnd hi z2
        obtain ⟨y3, k3, rfl, e3⟩ := bnd mx z3
        refine .pure hm (v := .slice A 0 0) ?_ (.nils A) hd.symm
        simp [Instr.sliceAt, run_underlying hu, Instr.slice, ex, Instr.sliceBounds, Instr.sliceBound, asIntOf, e1, e2, e3, run_sizeOf' hsz]
      · exact (run_fail h1).elim
    · rename_i hmx
      have hmx0 : mx = none := by simpa using hmx
      subst hmx0
      have go : ∀ (A : Option Addr) (len cp : Nat) (l hh : Int), ρ x = .slice A len cp → numA 0 (lo.map ev) = some l → numA (len : Int) (hi.map ev) = some hh → 0 ≤ l → l ≤ hh → hh ≤ (len : Int) → len ≤ cp →
          ((do pure (Next.value (← Instr.sliceAt t (ρ x) (lo.map ρ) (hi.map ρ) ((none : Option Operand).map ρ)))) : Sem Next).run P w = .ok (.value (.slice (if cp = l.toNat then A else A.map (·.add (l.toNat * sz))) (hh.toNat - l.toNat) (cp - l.toNat))) w := fun A len cp l hh ex hl hhh b0 b1 b2 b3 => by
        simp [Instr.sliceAt, run_underlying hu, Instr.slice, ex, sliceBounds_ok (P := P) (w := w) (isS := true) (cap := cp) hev hl hhh b0 b1 b2 b3 none, run_sizeOf' hsz]
      split at h1
      · rename_i u xs hax
        rw [hax] at ha
        split at h1
        case h_2 => exact (run_fail h1).elim
        rename_i hs
        have hs := beq_true hs
        obtain ⟨l, hl, h2⟩ := run_opt h1
        obtain ⟨hh, hhh, h3⟩ := run_opt h2
        obtain ⟨b0, b1, b2, h4⟩ := bnd_ok h3
        obtain ⟨A, cp, g, ex, hn, hA, hv⟩ := ha.inv_lst
        refine .now hm h4 (go A xs.length cp l hh ex hl hhh b0 b1 b2 hn) ?_
        have hlen : ((xs.take hh.toNat).drop l.toNat).length = hh.toNat - l.toNat := by rw [List.length_drop, List.length_take]; omega
        have key : V c w (.lst u ((xs.take hh.toNat).drop l.toNat)) (.slice (if cp = l.toNat then A else A.map (·.add (l.toNat * sz))) ((xs.take hh.toNat).drop l.toNat).length (cp - l.toNat)) := by
          refine .lst u _ _ _ (fun j => g (l.toNat * u.sz + j)) (by rw [hlen]; omega) (fun h0 => ?_) (fun j z hz q y hy => ?_)
          · rw [hlen] at h0
            obtain ⟨ad, rfl, hF, hc⟩ := hA (by omega)
            rw [if_neg (by omega)]
            refine ⟨_, rfl, by rw [add_block']; exact hF, fun j hj => ?_⟩
            rw [hlen] at hj
            rw [add_add', ← hs]
            refine hc _ ?_
            have h9 := Nat.mul_le_mul_right u.sz (show l.toNat + (hh.toNat - l.toNat) ≤ xs.length by omega)
            rw [Nat.add_mul] at h9
            omega
          · rw [List.getElem?_drop, List.getElem?_take] at hz
            split at hz
            · have := hv _ z hz q y hy
              rwa [Nat.add_mul, Nat.add_assoc] at this
            · cases hz
        rw [hlen] at key
        exact key
      · rename_i q v hax
        rw [hax] at ha
        obtain ⟨r, hr, h2⟩ := run_opt h1
        clear h1
        split at h2
        case h_2 => exact (run_fail h2).elim
        rename_i hs
        have hs := beq_true hs
        obtain ⟨l, hl, h3⟩ := run_opt h2
        obtain ⟨hh, hhh, h4⟩ := run_opt h3
        obtain ⟨b0, b1, b2, h5⟩ := bnd_ok h4
        have hd := run_ret h5
        obtain ⟨hq, _⟩ := rowOf_own hr
        obtain ⟨i, p, k1, k2, k3, k4, k5, k6, A, cp, ex, k7, k8, k9⟩ := own_head hm hq ha
        refine .pure hm (go A r.xs.length cp l hh ex hl hhh b0 b1 b2 k7) (.sub q v l.toNat _ _ _ _ i k1 (by omega) fun _ => ⟨by omega, _, _, rfl, by omega, by omega, fun h0 => ?_⟩) hd.symm
        obtain ⟨b', hb', rfl⟩ := k9 (by omega)
        refine ⟨b', hb', ?_⟩
        rw [if_neg (by omega)]
        simp only [Option.map_some, add_mid', Nat.zero_mul, Nat.add_zero, k4, hs]
      · exact (run_fail h1).elim
  · exact (run_fail h).elim

/-! ### least and greatest -/
theorem fold_ok (f : Int → Int → Int) (g : Value → Value → Sem Value) (hg : ∀ (k : IntKind) (n m : Int), (g (.int k n) (.int k m)).run P w = .ok (.int k (f n m)) w) (k : IntKind) : ∀ (l : List Operand) (n m : Int) (ρ : Operand → Value) (ev : Operand → AV), (∀ x, V c w (ev x) (ρ x)) → foldI f k n (l.map ev) = some m →
    (List.foldlM g (.int k n) (l.map ρ)).run P w = .ok (.int k m) w
  | [], n, m, ρ, ev, hev, h => by
    simp only [List.map_nil, foldI, Option.some.injEq] at h
    subst h
    rfl
  | x :: r, n, m, ρ, ev, hev, h => by
    simp only [List.map_cons] at h
    cases ex : ev x <;> rw [ex] at h <;> simp only [foldI, reduceCtorEq] at h
    rename_i k' q
    split at h
    · rename_i e
      subst e
      have := hev x
      rw [ex] at this
      simp only [List.map_cons, List.foldlM_cons, Sem.run_bind, V.inv_i this, hg, Result.andThen_ok]
      exact fold_ok f g hg k' r _ m ρ ev hev h
    · cases h
theorem min_ok (hm : Mem B c ob w) {T : Table} {ρ : Operand → Value} {ev : Operand → AV} (hev : ∀ x, V c w (ev x) (ρ x)) {o : Oper} {cl : Call} (ho : o.op = .call cl) (hb : cl.callee = .builtin .min) {x : Operand} {l : List Operand} (hargs : cl.args.toList = x :: l) {k : IntKind} {n : Int} (hx : ev x = .i k n)
    (h : run T (opt (foldI minI k n (l.map ev)) fun m => now (.i k m)) = some d) : Eff P B c ob w (execOp ρ o) d := by
  obtain ⟨m, hm', h⟩ := run_opt h
  have e := hev x
  rw [hx] at e
  have := fold_ok (P := P) (w := w) (c := c) minI Builtin.min2 (fun k n m => by simp [Builtin.min2, minI]) k l n m ρ ev hev hm'
  refine .now hm h (v := .int k m) ?_ (.i _ _)
  rw [call_builtin ho hb, args_of hargs]
  simp [builtin, Builtin.min_, V.inv_i e, this]
theorem max_ok (hm : Mem B c ob w) {T : Table} {ρ : Operand → Value} {ev : Operand → AV} (hev : ∀ x, V c w (ev x) (ρ x)) {o : Oper} {cl : Call} (ho : o.op = .call cl) (hb : cl.callee = .builtin .max) {x : Operand} {l : List Operand} (hargs : cl.args.toList = x :: l) {k : IntKind} {n : Int} (hx : ev x = .i k n)
    (h : run T (opt (foldI maxI k n (l.map ev)) fun m => now (.i k m)) = some d) : Eff P B c ob w (execOp ρ o) d := by
  obtain ⟨m, hm', h⟩ := run_opt h
  have e := hev x
  rw [hx] at e
  have := fold_ok (P := P) (w := w) (c := c) maxI Builtin.max2 (fun k n m => by simp [Builtin.max2, maxI]) k l n m ρ ev hev hm'
  refine .now hm h (v := .int k m) ?_ (.i _ _)
  rw [call_builtin ho hb, args_of hargs]
  simp [builtin, Builtin.max_, V.inv_i e, this]
end
end Go.Proofs.Ytohfaccniialmaa.Am
