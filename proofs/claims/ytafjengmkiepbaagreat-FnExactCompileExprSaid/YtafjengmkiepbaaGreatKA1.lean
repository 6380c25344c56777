/- A machine of values, which answers as the program does (part 1). -/
import Derived.Test.YtafjengmkiepbaaGreatKA0
import Derived.Deep.Upon
import Derived.Laws.BytesArg
import Derived.MapKept
section
/- What the machine of values does at an operation, the program does: elements and cuts. -/
namespace Go.Proofs.YtafjengmkiepbaaGreat.Am
open Go
set_option linter.constructorNameAsVariable false
set_option linter.unusedVariables false
set_option linter.unusedSimpArgs false
section
variable {P : Program} {B : Base} {c : Cx} {ob : Nat → Option AO} {w : World} {s : Sem Next} {d : Delta}

theorem indexAddr_ok (hm : Mem B c ob w) {T : Table} {t : TypeId} {x y : Operand} {ρ : Operand → Value} {a b : AV} (ha : V c w a (ρ x)) (hb : V c w b (ρ y)) {o : Oper} (ho : o.op = .indexAddr t x y)
    (h : run T (match P.underlying t, b with
    | some (.slice e), .i _ n => opt (szOf P e) fun sz => match a with
      | .lst u xs => match Nat.beq u.sz sz with
        | true => grd (decide (0 ≤ n)) (.gt u xs n.toNat fun y => now (.rp (view u y)))
        | false => .fail
      | .own o v => match rowOf ob none (.own o v) with
        | some r => match Nat.beq r.t.sz sz with
          | true => grd (decide (0 ≤ n)) (grd (decide (n < (r.xs.length : Int))) (.ret ⟨.eptr o v n.toNat 0, [], r.rd⟩))
          | false => .fail
        | none => match ob o with
          | some (.tree u xs) => match Nat.beq v 0 && Nat.beq u.sz sz with
            | true => grd (decide (0 ≤ n)) (grd (decide (n < (xs.length : Int))) (.ret ⟨.eptr o 0 n.toNat 0, [], [o]⟩))
            | false => .fail
          | _ => .fail
      | .sub o v lo m => opt (rowOf ob none (.own o v)) fun r => match Nat.beq r.t.sz sz with
        | true => grd (decide (0 ≤ n)) (grd (decide (n < (m : Int))) (.ret ⟨.eptr o v (lo + n.toNat) 0, [], r.rd⟩))
        | false => .fail
      | _ => .fail
    | _, _ => .fail) = some d) : Eff P B c ob w (execOp ρ o) d := by
  split at h
  case h_2 => exact (run_fail h).elim
  rename_i e k n hu
  obtain ⟨sz, hsz, h2⟩ := run_opt h
  clear h
  have ey := V.inv_i hb
  have go : ∀ (ad : Addr) (l cp : Nat), ρ x = .slice (some ad) l cp → 0 ≤ n → n < (l : Int) → (execOp ρ o).run P w = .ok (.value (.pointer (some (ad.add (n.toNat * sz))))) w := fun ad l cp ex h0 h1 => by
    unfold execOp
    simp only [ho]
    simp [Instr.indexAt, asIntOf, ey, ex, run_underlying hu, h0, h1, run_sizeOf' hsz]
  cases a <;> simp only at h2
  case lst u xs =>
    split at h2
    case h_2 => exact (run_fail h2).elim
    rename_i hs
    have hs := beq_true hs
    obtain ⟨h0, h3⟩ := run_grd h2
    clear h2
    have h0 : 0 ≤ n := by simpa using h0
    simp only [run] at h3
    split at h3
    case h_2 => cases h3
    rename_i z hz
    obtain ⟨A, cp, g, ex, hn, hA, hv⟩ := ha.inv_lst
    have hlt : n.toNat < xs.length := (List.getElem?_eq_some_iff.1 hz).1
    obtain ⟨ad, rfl, hF, hc⟩ := hA (by omega)
    have hd : some (⟨.rp (view u z), [], []⟩ : Delta) = some d := h3
    refine .pure hm (go ad _ _ ex h0 (by omega)) (.rp _ _ (fun j => g (n.toNat * u.sz + j)) (by rw [add_block']; exact hF) (fun j hj => ?_) (fun j y' hy' => hv _ z hz j y' hy')) (Option.some.inj hd).symm
    rw [view_len] at hj
    rw [add_add', ← hs]
    refine hc _ ?_
    have := Nat.mul_le_mul_right u.sz (show n.toNat + 1 ≤ xs.length from hlt)
    rw [Nat.add_mul, Nat.one_mul] at this
    omega
  case own q v =>
    split at h2
    · rename_i r hr
      have h3 := h2
      clear h2
      split at h3
      case h_2 => exact (run_fail h3).elim
      rename_i hs
      have hs := beq_true hs
      obtain ⟨h0, h4⟩ := run_grd h3
      clear h3
      obtain ⟨h1, h5⟩ := run_grd h4
      clear h4
      have h0 : 0 ≤ n := by simpa using h0
      have h1 : n < (r.xs.length : Int) := by simpa using h1
      have hd := run_ret h5
      obtain ⟨hq, _⟩ := rowOf_own hr
      obtain ⟨i, p, k1, k2, k3, k4, k5, k6, A, cp, ex, k7, k8, k9⟩ := own_head hm hq ha
      obtain ⟨b', hb', rfl⟩ := k9 (by omega)
      refine .pure hm (go _ _ _ ex h0 h1) (.eptr q v n.toNat 0 _ i k1 (by omega) fun _ => ⟨by omega, b', hb', ?_⟩) hd.symm
      rw [add_mid', k4, hs]
      simp
    · split at h2
      case h_2 => exact (run_fail h2).elim
      rename_i u xs hq
      split at h2
      case h_2 => exact (run_fail h2).elim
      rename_i hs
      rw [Bool.and_eq_true] at hs
      obtain ⟨hv, hs⟩ := hs
      have hv := beq_true hv
      have hs := beq_true hs
      subst hv
      obtain ⟨h0, h4⟩ := run_grd h2
      clear h2
      obtain ⟨h1, h5⟩ := run_grd h4
      clear h4
      have h0 : 0 ≤ n := by simpa using h0
      have h1 : n < (xs.length : Int) := by simpa using h1
      have hd := run_ret h5
      obtain ⟨i, A0, cp0, k1, k2, k3, k4, k5, ex, A, cp, ex', k7, k8, k9⟩ := tree_head hm hq ha
      obtain ⟨b', hb', rfl⟩ := k9 (by omega)
      refine .pure hm (go _ _ _ ex' h0 h1) (.eptr q 0 n.toNat 0 _ i k1 (by omega) fun _ => ⟨by omega, b', hb', ?_⟩) hd.symm
      rw [add_mid', k4, hs]
      simp
  case sub q v lo m =>
    obtain ⟨r, hr, h3⟩ := run_opt h2
    clear h2
    split at h3
    case h_2 => exact (run_fail h3).elim
    rename_i hs
    have hs := beq_true hs
    obtain ⟨h0, h4⟩ := run_grd h3
    clear h3
    obtain ⟨h1, h5⟩ := run_grd h4
    clear h4
    have h0 : 0 ≤ n := by simpa using h0
    have h1 : n < (m : Int) := by simpa using h1
    have hd := run_ret h5
    obtain ⟨hq, _⟩ := rowOf_own hr
    obtain ⟨i, p, k1, k2, k3, k4, k5, k6, hlo, A, cp, ex, k7, k8, k9⟩ := sub_head hm hq ha
    obtain ⟨b', hb', rfl⟩ := k9 (by omega)
    refine .pure hm (go _ _ _ ex h0 h1) (.eptr q v (lo + n.toNat) 0 _ i k1 (by omega) fun _ => ⟨by omega, b', hb', ?_⟩) hd.symm
    rw [add_mid', k4, hs, Nat.add_mul]
    simp [Nat.add_assoc]
  all_goals exact (run_fail h2).elim

theorem index_ok (hm : Mem B c ob w) {T : Table} {t : TypeId} {x y : Operand} {ρ : Operand → Value} {a b : AV} (ha : V c w a (ρ x)) (hb : V c w b (ρ y)) {o : Oper} (ho : o.op = .index t x y)
    (h : run T (match P.underlying t, a, b with
      | some .string, .s b, .i _ n => grd (decide (0 ≤ n)) (grd (decide (n < (b.size : Int))) (now (.i .u8 ((b.data.toList.getD n.toNat 0).toNat : Int))))
      | _, _, _ => .fail) = some d) : Eff P B c ob w (execOp ρ o) d := by
  split at h
  case h_2 => exact (run_fail h).elim
  rename_i bs k n hu
  obtain ⟨h0, h2⟩ := run_grd h
  clear h
  obtain ⟨h1, h3⟩ := run_grd h2
  clear h2
  have h0 : 0 ≤ n := by simpa using h0
  have h1 : n < (bs.size : Int) := by simpa using h1
  have hlt : n.toNat < bs.size := by omega
  refine .now hm h3 (v := .int .u8 ((bs.data.toList.getD n.toNat 0).toNat : Int)) ?_ (.i _ _)
  unfold execOp
  simp only [ho]
  have hg : bs[n.toNat]? = some (bs.data.toList.getD n.toNat 0) := by
    have hlt2 : n.toNat < bs.data.size := hlt
    rw [getElem?_pos bs n.toNat hlt]
    congr 1
    rw [List.getD_eq_getElem?_getD, Array.getElem?_toList, Array.getElem?_eq_getElem hlt2]
    rfl
  simp [Instr.index, asIntOf, V.inv_s ha, V.inv_i hb, run_underlying hu, h0, hg]

/-! ### cuts -/
theorem bnd_ok {T : Table} {n : Nat} {l h : Int} {k : TD} (e : run T (bndA n l h k) = some d) : 0 ≤ l ∧ l ≤ h ∧ h ≤ (n : Int) ∧ run T k = some d := by
  unfold bndA at e
  obtain ⟨h0, e⟩ := run_grd e
  obtain ⟨h1, e⟩ := run_grd e
  obtain ⟨h2, e⟩ := run_grd e
  exact ⟨by simpa using h0, by simpa using h1, by simpa using h2, e⟩
theorem sliceBounds_ok {isS : Bool} {len cap : Nat} {lo hi : Option Operand} {ρ : Operand → Value} {ev : Operand → AV} (hev : ∀ x, V c w (ev x) (ρ x)) {l h : Int} (h1 : numA 0 (lo.map ev) = some l) (h2 : numA (len : Int) (hi.map ev) = some h)
    (h0 : 0 ≤ l) (hlh : l ≤ h) (hh : h ≤ (len : Int)) (hc : len ≤ cap) (mk : Option Value) : (Instr.sliceBounds isS len cap (lo.map ρ) (hi.map ρ) none).run P w = .ok (l.toNat, h.toNat, cap) w := by
  have bnd : ∀ (x : Operand) (n : Int) (k : IntKind) (y : Nat) (code : BoundsCode), ev x = .i k n → 0 ≤ n → n ≤ (y : Int) → (Instr.sliceBound (ρ x) y code).run P w = .ok n.toNat w := fun x n k y code e h0 h1 => by
    have := hev x
    rw [e] at this
    rw [V.inv_i this]
    simp [Instr.sliceBound, asIntOf, h0, h1]
  have hln : ∀ x, lo = some x → ∃ k, ev x = .i k l := fun x e => by
    subst e
    simp only [Option.map_some] at h1
    unfold numA at h1
    split at h1
    · rename_i e; cases e
    · rename_i k n e
      simp only [Option.some.injEq] at h1 e
      subst h1
      exact ⟨k, e⟩
    · cases h1
  have hhn : ∀ x, hi = some x → ∃ k, ev x = .i k h := fun x e => by
    subst e
    simp only [Option.map_some] at h2
    unfold numA at h2
    split at h2
    · rename_i e; cases e
    · rename_i k n e
      simp only [Option.some.injEq] at h2 e
      subst h2
      exact ⟨k, e⟩
    · cases h2
  have hl0 : lo = none → l = 0 := fun e => by
    subst e
    simp only [Option.map_none, numA, Option.some.injEq] at h1
    exact h1.symm
  have hh0 : hi = none → h = len := fun e => by
    subst e
    simp only [Option.map_none, numA, Option.some.injEq] at h2
    exact h2.symm
  cases hi with
  | none =>
    have eh := hh0 rfl
    subst eh
    cases lo with
    | none =>
      have el := hl0 rfl
      subst el
      simp [Instr.sliceBounds]
    | some x =>
      obtain ⟨k, e⟩ := hln x rfl
      simp [Instr.sliceBounds, bnd x l k len _ e h0 hlh]
  | some y =>
    obtain ⟨k', e'⟩ := hhn y rfl
    cases lo with
    | none =>
      have el := hl0 rfl
      subst el
      simp [Instr.sliceBounds, bnd y h k' cap _ e' (by omega) (by omega)]
    | some x =>
      obtain ⟨k, e⟩ := hln x rfl
      simp [Instr.sliceBounds, bnd y h k' cap _ e' (by omega) (by omega), bnd x l k h.toNat _ e h0 (by omega)]
theorem zeroA_eq {x : Option AV} (h : zeroA x = true) : ∃ k, x = some (.i k 0) := by
  unfold zeroA at h
  split at h
  · rename_i k n
    split at h
    · rename_i m
      have := beq_true h
      subst this
      exact ⟨k, rfl⟩
    · cases h
  · cases h
theorem lenA_slice (hm : Mem B c ob w) {a : AV} {x : Value} (ha : V c w a x) {r : Int × List Nat} (h : lenA ob a = some r) : ∃ A l cp, x = .slice A l cp := by
  cases a <;> simp only [lenA, reduceCtorEq] at h
  case own q v => obtain ⟨A, n, cp, i, e, _⟩ := ha.inv_own; exact ⟨A, n, cp, e⟩
  case sub q v lo m => obtain ⟨A, n, cp, i, e, _⟩ := ha.inv_sub; exact ⟨A, n, cp, e⟩
  case lst t xs => obtain ⟨A, cp, g, e, _⟩ := ha.inv_lst; exact ⟨A, _, cp, e⟩
  case nils => obtain ⟨A, e⟩ := ha.inv_nils; exact ⟨A, _, _, e⟩

theorem slice_ok (hm : Mem B c ob w) {T : Table} {t : TypeId} {x : Operand} {lo hi mx : Option Operand} {ρ : Operand → Value} {ev : Operand → AV} (hev : ∀ x, V c w (ev x) (ρ x)) {o : Oper} (ho : o.op = .slice t x lo hi mx)
    (h : run T (sliceA P ob t (ev x) (lo.map ev) (hi.map ev) (mx.map ev)) = some d) : Eff P B c ob w (execOp ρ o) d := by
  have ha := hev x
  have hex : execOp ρ o = (do pure (Next.value (← Instr.sliceAt t (ρ x) (lo.map ρ) (hi.map ρ) (mx.map ρ)))) := by
    unfold execOp
    simp only [ho]
  rw [hex]
  unfold sliceA at h
  split at h
  · rename_i hu
    split at h
    · rename_i b hax hmx
      rw [hax] at ha
      have hmx0 : mx = none := by simpa using hmx
      subst hmx0
      obtain ⟨l, hl, h1⟩ := run_opt h
      obtain ⟨hh, hhh, h2⟩ := run_opt h1
      obtain ⟨b0, b1, b2, h3⟩ := bnd_ok h2
      refine .now hm h3 (v := .string (b.extract l.toNat hh.toNat)) ?_ (.s _)
      simp [Instr.sliceAt, run_underlying hu, Instr.slice, V.inv_s ha, sliceBounds_ok (P := P) (w := w) (isS := false) (cap := b.size) hev hl hhh b0 b1 b2 (Nat.le_refl _) none]
    · exact (run_fail h).elim
  · rename_i e hu
    obtain ⟨sz, hsz, h1⟩ := run_opt h
    clear h
    split at h1
    · rename_i m hmx
      split at h1
      · rename_i hz
        rw [Bool.and_eq_true, Bool.and_eq_true] at hz
        obtain ⟨z1, z2, z3⟩ := hz
        rw [← hmx] at z3
        obtain ⟨r, hr, h2⟩ := run_opt h1
        have hd := run_ret h2
        obtain ⟨A, l, cp, ex⟩ := lenA_slice hm ha hr
        have bnd : ∀ (y : Option Operand), zeroA (y.map ev) = true → ∃ z k, y = some z ∧ ρ z = .int k 0 := fun y hy => by
          obtain ⟨k, hk⟩ := zeroA_eq hy
          cases y with
          | none => cases hk
          | some z =>
            simp only [Option.map_some, Option.some.injEq] at hk
            have := hev z
            rw [hk] at this
            exact ⟨z, k, rfl, V.inv_i this⟩
        obtain ⟨y1, k1, rfl, e1⟩ := bnd lo z1
        obtain ⟨y2, k2, rfl, e2⟩ := bnd hi z2
        obtain ⟨y3, k3, rfl, e3⟩ := bnd mx z3
        refine .pure hm (v := .slice A 0 0) ?_ (.nils A) hd.symm
        simp [Instr.sliceAt, run_underlying hu, Instr.slice, ex, Instr.sliceBounds, Instr.sliceBound, asIntOf, e1, e2, e3, run_sizeOf' hsz]
      · exact (run_fail h1).elim
    · rename_i hmx
      have hmx0 : mx = none := by simpa using hmx
      subst hmx0
      have go : ∀ (A : Option Addr) (len cp : Nat) (l hh : Int), ρ x = .slice A len cp → numA 0 (lo.map ev) = some l → numA (len : Int) (hi.map ev) = some hh → 0 ≤ l → l ≤ hh → hh ≤ (len : Int) → len ≤ cp →
          ((do pure (Next.value (← Instr.sliceAt t (ρ x) (lo.map ρ) (hi.map ρ) ((none : Option Operand).map ρ)))) : Sem Next).run P w = .ok (.value (.slice (if cp = l.toNat then A else A.map (·.add (l.toNat * sz))) (hh.toNat - l.toNat) (cp - l.toNat))) w := fun A len cp l hh ex hl hhh b0 b1 b2 b3 => by
        simp [Instr.sliceAt, run_underlying hu, Instr.slice, ex, sliceBounds_ok (P := P) (w := w) (isS := true) (cap := cp) hev hl hhh b0 b1 b2 b3 none, run_sizeOf' hsz]
      split at h1
      · rename_i u xs hax
        rw [hax] at ha
        split at h1
        case h_2 => exact (run_fail h1).elim
        rename_i hs
        have hs := beq_true hs
        obtain ⟨l, hl, h2⟩ := run_opt h1
        obtain ⟨hh, hhh, h3⟩ := run_opt h2
        obtain ⟨b0, b1, b2, h4⟩ := bnd_ok h3
        obtain ⟨A, cp, g, ex, hn, hA, hv⟩ := ha.inv_lst
        refine .now hm h4 (go A xs.length cp l hh ex hl hhh b0 b1 b2 hn) ?_
        have hlen : ((xs.take hh.toNat).drop l.toNat).length = hh.toNat - l.toNat := by rw [List.length_drop, List.length_take]; omega
        have key : V c w (.lst u ((xs.take hh.toNat).drop l.toNat)) (.slice (if cp = l.toNat then A else A.map (·.add (l.toNat * sz))) ((xs.take hh.toNat).drop l.toNat).length (cp - l.toNat)) := by
          refine .lst u _ _ _ (fun j => g (l.toNat * u.sz + j)) (by rw [hlen]; omega) (fun h0 => ?_) (fun j z hz q y hy => ?_)
          · rw [hlen] at h0
            obtain ⟨ad, rfl, hF, hc⟩ := hA (by omega)
            rw [if_neg (by omega)]
            refine ⟨_, rfl, by rw [add_block']; exact hF, fun j hj => ?_⟩
            rw [hlen] at hj
            rw [add_add', ← hs]
            refine hc _ ?_
            have h9 := Nat.mul_le_mul_right u.sz (show l.toNat + (hh.toNat - l.toNat) ≤ xs.length by omega)
            rw [Nat.add_mul] at h9
            omega
          · rw [List.getElem?_drop, List.getElem?_take] at hz
            split at hz
            · have := hv _ z hz q y hy
              rwa [Nat.add_mul, Nat.add_assoc] at this
            · cases hz
        rw [hlen] at key
        exact key
      · rename_i q v hax
        rw [hax] at ha
        obtain ⟨r, hr, h2⟩ := run_opt h1
        clear h1
        split at h2
        case h_2 => exact (run_fail h2).elim
        rename_i hs
        have hs := beq_true hs
        obtain ⟨l, hl, h3⟩ := run_opt h2
        obtain ⟨hh, hhh, h4⟩ := run_opt h3
        obtain ⟨b0, b1, b2, h5⟩ := bnd_ok h4
        have hd := run_ret h5
        obtain ⟨hq, _⟩ := rowOf_own hr
        obtain ⟨i, p, k1, k2, k3, k4, k5, k6, A, cp, ex, k7, k8, k9⟩ := own_head hm hq ha
        refine .pure hm (go A r.xs.length cp l hh ex hl hhh b0 b1 b2 k7) (.sub q v l.toNat _ _ _ _ i k1 (by omega) fun _ => ⟨by omega, _, _, rfl, by omega, by omega, fun h0 => ?_⟩) hd.symm
        obtain ⟨b', hb', rfl⟩ := k9 (by omega)
        refine ⟨b', hb', ?_⟩
        rw [if_neg (by omega)]
        simp only [Option.map_some, add_mid', Nat.zero_mul, Nat.add_zero, k4, hs]
      · rename_i hax
        rw [hax] at ha
        obtain ⟨A, ex⟩ := ha.inv_nils
        obtain ⟨l, hl, h2⟩ := run_opt h1
        obtain ⟨hh, hhh, h3⟩ := run_opt h2
        obtain ⟨b0, b1, b2, h4⟩ := bnd_ok h3
        refine .now hm h4 (go A 0 0 l hh ex hl hhh b0 b1 b2 (Nat.le_refl 0)) ?_
        rw [show l.toNat = 0 by omega, show hh.toNat = 0 by omega]
        exact .nils A
      · exact (run_fail h1).elim
  · exact (run_fail h).elim

/-! ### least and greatest -/
theorem fold_ok (f : Int → Int → Int) (g : Value → Value → Sem Value) (hg : ∀ (k : IntKind) (n m : Int), (g (.int k n) (.int k m)).run P w = .ok (.int k (f n m)) w) (k : IntKind) : ∀ (l : List Operand) (n m : Int) (ρ : Operand → Value) (ev : Operand → AV), (∀ x, V c w (ev x) (ρ x)) → foldI f k n (l.map ev) = some m →
    (List.foldlM g (.int k n) (l.map ρ)).run P w = .ok (.int k m) w
  | [], n, m, ρ, ev, hev, h => by
    simp only [List.map_nil, foldI, Option.some.injEq] at h
    subst h
    rfl
  | x :: r, n, m, ρ, ev, hev, h => by
    simp only [List.map_cons] at h
    cases ex : ev x <;> rw [ex] at h <;> simp only [foldI, reduceCtorEq] at h
    rename_i k' q
    split at h
    · rename_i e
      subst e
      have := hev x
      rw [ex] at this
      simp only [List.map_cons, List.foldlM_cons, Sem.run_bind, V.inv_i this, hg, Result.andThen_ok]
      exact fold_ok f g hg k' r _ m ρ ev hev h
    · cases h
theorem min_ok (hm : Mem B c ob w) {T : Table} {ρ : Operand → Value} {ev : Operand → AV} (hev : ∀ x, V c w (ev x) (ρ x)) {o : Oper} {cl : Call} (ho : o.op = .call cl) (hb : cl.callee = .builtin .min) {x : Operand} {l : List Operand} (hargs : cl.args.toList = x :: l) {k : IntKind} {n : Int} (hx : ev x = .i k n)
    (h : run T (opt (foldI minI k n (l.map ev)) fun m => now (.i k m)) = some d) : Eff P B c ob w (execOp ρ o) d := by
  obtain ⟨m, hm', h⟩ := run_opt h
  have e := hev x
  rw [hx] at e
  have := fold_ok (P := P) (w := w) (c := c) minI Builtin.min2 (fun k n m => by simp [Builtin.min2, minI]) k l n m ρ ev hev hm'
  refine .now hm h (v := .int k m) ?_ (.i _ _)
  rw [call_builtin ho hb, args_of hargs]
  simp [builtin, Builtin.min_, V.inv_i e, this]
theorem max_ok (hm : Mem B c ob w) {T : Table} {ρ : Operand → Value} {ev : Operand → AV} (hev : ∀ x, V c w (ev x) (ρ x)) {o : Oper} {cl : Call} (ho : o.op = .call cl) (hb : cl.callee = .builtin .max) {x : Operand} {l : List Operand} (hargs : cl.args.toList = x :: l) {k : IntKind} {n : Int} (hx : ev x = .i k n)
    (h : run T (opt (foldI maxI k n (l.map ev)) fun m => now (.i k m)) = some d) : Eff P B c ob w (execOp ρ o) d := by
  obtain ⟨m, hm', h⟩ := run_opt h
  have e := hev x
  rw [hx] at e
  have := fold_ok (P := P) (w := w) (c := c) maxI Builtin.max2 (fun k n m => by simp [Builtin.max2, maxI]) k l n m ρ ev hev hm'
  refine .now hm h (v := .int k m) ?_ (.i _ _)
  rw [call_builtin ho hb, args_of hargs]
  simp [builtin, Builtin.max_, V.inv_i e, this]
end
end Go.Proofs.YtafjengmkiepbaaGreat.Am
end
section
/- What the machine of values does at an operation, the program does: append. -/
namespace Go.Proofs.YtafjengmkiepbaaGreat.Am
open Go
set_option linter.constructorNameAsVariable false
set_option linter.unusedVariables false
set_option linter.unusedSimpArgs false
section
variable {P : Program} {B : Base} {c : Cx} {ob : Nat → Option AO} {w : World} {s : Sem Next} {d : Delta}

/-- what is appended -/
theorem Rd.src {t : Ty} {xs : List t.D} {v : Value} (h : Rd c w t xs v) {tx e : TypeId} (hu : P.underlying tx = some (.slice e)) :
    ∃ (news : List Value), Src P t.sz tx v xs.length news w ∧ ∀ j x, xs[j]? = some x → ∀ q y, (view t x)[q]? = some y → V c w y (news.getD (j * t.sz + q) undef) := by
  obtain ⟨A, cp, g, rfl, hn, hA, hv⟩ := h
  refine ⟨(List.range (xs.length * t.sz)).map g, ?_, fun j x hx q y hy => ?_⟩
  · cases A with
    | none =>
      have h0 : xs.length = 0 := by
        rcases Nat.eq_zero_or_pos xs.length with h | h
        · exact h
        · obtain ⟨a, e, _⟩ := hA h
          cases e
      rw [h0]
      simpa using Src.ofNil (P := P) w (size := t.sz) hu cp
    | some a =>
      refine Src.ofSlice w hu a xs.length cp _ (by simp) (fun j u hj => ?_) (fun u hu => ?_)
      · rw [List.getElem?_map] at hj
        obtain ⟨q, hq, rfl⟩ := Option.map_eq_some_iff.1 hj
        obtain ⟨h1, h2⟩ := List.getElem?_eq_some_iff.1 hq
        simp at h1 h2
        subst h2
        have hp : 0 < xs.length := Nat.pos_of_ne_zero fun e => by rw [e] at h1; simp at h1
        obtain ⟨a', e, hc⟩ := hA hp
        cases e
        exact (hc j h1).1
      · obtain ⟨j, hj, rfl⟩ := List.mem_map.1 hu
        have hj := List.mem_range.1 hj
        have hp : 0 < xs.length := Nat.pos_of_ne_zero fun e => by rw [e] at hj; simp at hj
        obtain ⟨a', e, hc⟩ := hA hp
        exact (hc j hj).2
  · have hq : q < t.sz := by rw [← view_len t x]; exact (List.getElem?_eq_some_iff.1 hy).1
    have hj : j < xs.length := (List.getElem?_eq_some_iff.1 hx).1
    have h9 := Nat.mul_le_mul_right t.sz (show j + 1 ≤ xs.length from hj)
    rw [Nat.add_mul, Nat.one_mul] at h9
    have hlt : j * t.sz + q < xs.length * t.sz := by omega
    simp [List.getD_eq_getElem?_getD, hlt]
    exact hv j x hx q y hy

theorem setCells_spl {b p : Nat} {arr : Array Value} {e : TypeId} (hb : w.heap[b]? = some (.cells arr e (0, 0))) {vs : List Value} (hf : p + vs.length ≤ arr.size) (h1 : ∀ v ∈ vs, v.oneCell' = true) : w.setCells b p vs = w.setRow b (spl arr p vs) := by
  have k1 := run_storeCells_at (P := default) b p e vs 0 arr w hb (by omega) h1
  have k2 := run_storeCells_cells (P := default) b p vs 0 w (fun j hj => by rw [cell_in hb (by omega)]; rfl) (fun j hj => by simp [World.frozen?, hb]) h1
  rw [k1] at k2
  simp only [Nat.add_zero, Result.ok.injEq, true_and] at k2
  exact k2.symm
theorem castR_eq {t : Ty} {r : RV} {xs : List t.D} (h : castR t r = some xs) : ∃ e : r.t = t, e ▸ r.xs = xs := by
  unfold castR at h
  split at h
  · rename_i e
    exact ⟨e, by simpa using h⟩
  · cases h
theorem Rd.cast {t : Ty} {r : RV} {xs : List t.D} {v : Value} (h : castR t r = some xs) (hr : Rd c w r.t r.xs v) : Rd c w t xs v := by
  obtain ⟨e, k⟩ := castR_eq h
  subst e
  subst k
  exact hr
theorem szIs_eq {t : TypeId} {n : Nat} (h : szIs P t n = true) {i : TypeInfo} (hi : P.info? t = some i) : i.size = n := by
  unfold szIs at h
  split at h
  · rename_i q hq
    obtain ⟨i3, hi3, rfl⟩ := szOf_info hq
    rw [hi] at hi3
    cases hi3
    exact beq_true h
  · cases h

/-- a row in a new block -/
theorem Mem.rowNew (hm : Mem B c ob w) (k : Nat) (ver : Nat) {u : Ty} {xs : List u.D} {arr : Array Value} {cap : Nat} {e : TypeId} {w1 : World} (h1 : w1 = w.drew.alloc (.cells arr e)) (hc : Cells c w arr 0 u xs) (hl : xs.length ≤ cap) (hs : cap * u.sz ≤ arr.size)
    (hk : ∀ i, c.inf k = some i → i.ver < ver) (hnw : c.inf k = none → 1000 ≤ k := by first | assumption | exact fun _ => newId_big _ _ | (intro hnone; simp_all; done)) :
    ∃ c', Mem B c' (fup ob [(k, .row ver u xs)]) w1 ∧ Ext c w c' w1 ∧ V c' w1 (.own k ver) (.slice (some ⟨w.heap.size, 0, none⟩) xs.length cap) := by
  subst h1
  obtain ⟨d1, d2⟩ := hm.drew (w.drawn + 1)
  have d1' : Mem B c ob w.drew := d1
  have d2' : Ext c w c w.drew := d2
  obtain ⟨k1, k2⟩ := d1'.put k (.row ver u xs) ⟨some w.heap.size, 0, cap, xs.length, ver, u.sz, fun _ => False, fun _ _ => undef⟩ (w.drew.alloc (.cells arr e)) rfl rfl rfl (by show w.heap.size ≤ (w.heap.push _).size; simp) (fun b hb _ => heap_alloc_old w.drew _ _ hb)
    (fun i hi => by have := hk i hi; exact ⟨by show i.ver ≤ ver; omega, fun e => by have e' : ver = i.ver := e; omega⟩)
    (fun ext => ⟨_, Cx.set_eq _ _ _, rfl, rfl, rfl, hl, .inr ⟨w.heap.size, arr, e, rfl, heap_alloc_new w.drew _, by simpa using hs, (hc.ext d2').ext ext, ⟨fun hF => absurd (hm.F _ hF) (Nat.lt_irrefl _), False.elim⟩⟩⟩)
    (fun b _ hb => .inr (by simp at hb; show w.heap.size ≤ b; omega))
  exact ⟨_, k1, d2'.trans k2, .own k ver _ _ _ _ (Cx.set_eq _ _ _) (Nat.le_refl _) fun _ => ⟨_, cap, rfl, hl, by simp, fun _ => ⟨_, rfl, by simp⟩⟩⟩

theorem news_cells {t : Ty} {xs ys : List t.D} {olds news rest : List Value} (h1 : olds.length = xs.length * t.sz) (h2 : news.length = ys.length * t.sz) (o1 : ∀ u ∈ olds, u.oneCell' = true) (o2 : ∀ u ∈ news, u.oneCell' = true)
    (k1 : ∀ j x, xs[j]? = some x → ∀ q y, (view t x)[q]? = some y → V c w y (olds.getD (j * t.sz + q) undef)) (k2 : ∀ j x, ys[j]? = some x → ∀ q y, (view t x)[q]? = some y → V c w y (news.getD (j * t.sz + q) undef)) (arr : Array Value) (ha : arr.toList = olds ++ news ++ rest) : Cells c w arr 0 t (xs ++ ys) := by
  intro j x hx q y hy
  have hq : q < t.sz := by rw [← view_len t x]; exact (List.getElem?_eq_some_iff.1 hy).1
  have e : ∀ n, arr.getD n undef = (olds ++ news ++ rest).getD n undef := fun n => by rw [← ha]; simp [Array.getD_eq_getD_getElem?, List.getD_eq_getElem?_getD]
  rw [e, Nat.zero_add]
  rw [List.getElem?_append] at hx
  split at hx
  · rename_i hj
    have h9 := Nat.mul_le_mul_right t.sz (show j + 1 ≤ xs.length from hj)
    rw [Nat.add_mul, Nat.one_mul] at h9
    have hlt : j * t.sz + q < olds.length := by omega
    have : (olds ++ news ++ rest).getD (j * t.sz + q) undef = olds.getD (j * t.sz + q) undef := by
      simp only [List.getD_eq_getElem?_getD, List.append_assoc]
      rw [List.getElem?_append_left hlt]
    rw [this]
    refine ⟨k1 j x hx q y hy, o1 _ ?_⟩
    rw [List.getD_eq_getElem?_getD, List.getElem?_eq_getElem hlt]
    exact List.getElem_mem hlt
  · rename_i hj
    have hjl : j - xs.length < ys.length := (List.getElem?_eq_some_iff.1 hx).1
    have h9 := Nat.mul_le_mul_right t.sz (show j - xs.length + 1 ≤ ys.length from hjl)
    rw [Nat.add_mul, Nat.one_mul] at h9
    have hlt : (j - xs.length) * t.sz + q < news.length := by omega
    have hge : olds.length ≤ j * t.sz + q := by
      have := Nat.mul_le_mul_right t.sz (show xs.length ≤ j by omega)
      omega
    have hsub : j * t.sz + q - olds.length = (j - xs.length) * t.sz + q := by
      rw [Nat.sub_mul, h1]
      have := Nat.mul_le_mul_right t.sz (show xs.length ≤ j by omega)
      omega
    have : (olds ++ news ++ rest).getD (j * t.sz + q) undef = news.getD ((j - xs.length) * t.sz + q) undef := by
      simp only [List.getD_eq_getElem?_getD, List.append_assoc]
      rw [List.getElem?_append_right hge, hsub, List.getElem?_append_left hlt]
    rw [this]
    refine ⟨k2 _ x hx q y hy, o2 _ ?_⟩
    rw [List.getD_eq_getElem?_getD, List.getElem?_eq_getElem hlt]
    exact List.getElem_mem hlt

theorem appendB_ok (hm : Mem B c ob w) {T : Table} {t tx e e' : TypeId} {x y : Operand} {ρ : Operand → Value} {a : AV} {k by_ : Nat} {rd : List Nat} {u : Ty} {ys : List u.D} {i : TypeInfo} {z : Value} (ha : V c w a (ρ x)) (hy : Rd c w u ys (ρ y)) {o : Oper} {cl : Call} (ho : o.op = .call cl) (hb : cl.callee = .builtin .append) (hargs : cl.args.toList = [x, y])
    (hts : cl.argTypes.toList = [t, tx]) (ht : P.underlying t = some (.slice e)) (htx : P.underlying tx = some (.slice e')) (hi : P.info? e = some i) (hz : i.zero = some z) (hby : i.bytes = by_) (hsz : i.size = u.sz) (hzs : z.cells.size = u.sz)
    (h : run T (appendB k ob u by_ rd ys a) = some d) : Eff P B c ob w (execOp ρ o) d := by
  obtain ⟨news, hsrc, hnews⟩ := hy.src htx
  have hrun : ∀ v w', (Builtin.append_ #[t, tx] o.type #[ρ x, ρ y]).run P w = .ok v w' → (execOp ρ o).run P w = .ok (.value v) w' := fun v w' e => by
    have hts' : cl.argTypes = #[t, tx] := by rw [← hts]
    rw [call_builtin ho hb, args_of hargs, hts']
    simp [builtin, e]
  have hsrc' : Src P i.size tx (ρ y) ys.length news w := by rw [hsz]; exact hsrc
  have nothing : ∀ A n cp, ρ x = .slice A n cp → n ≤ cp → ys.length = 0 → (execOp ρ o).run P w = .ok (.value (ρ x)) w := fun A n cp ex hle h0 => by
    refine hrun _ _ ?_
    rw [ex]
    refine run_append_nothing w t tx o.type e i ht hi A n cp hle (ρ y) ?_
    have hn : news = [] := by
      have := hsrc.newsLen
      rw [h0] at this
      simpa using this
    rw [hn, h0] at hsrc'
    exact hsrc'
  have grow : ∀ (A : Option Addr) (zs : List u.D) (cp : Nat), ρ x = .slice A zs.length cp → Rd c w u zs (ρ x) → cp < zs.length + ys.length → zs.length + ys.length ≤ room by_ →
      ∃ arr cap, (execOp ρ o).run P w = .ok (.value (.slice (some ⟨w.heap.size, 0, none⟩) (zs ++ ys).length cap)) (w.drew.alloc (.cells arr e)) ∧ Cells c w arr 0 u (zs ++ ys) ∧ (zs ++ ys).length ≤ cap ∧ cap * u.sz ≤ arr.size := fun A zs cp ex hr hlt hroom => by
    obtain ⟨olds, hold, holds⟩ := hr.src htx
    have hr2 := room_le hroom
    have h := run_append_grow_src (P := P) w t tx o.type e i z ht hi hz A zs.length cp olds (by have := hold.cellsD; rw [ex] at this; rw [hsz]; exact this) (ρ y) ys.length news hsrc' hlt (by omega) (growslice_fits hlt (by rw [hby]; omega))
    refine ⟨_, _, hrun _ _ (by rw [ex, List.length_append]; exact h), ?_, ?_, ?_⟩
    · exact news_cells hold.newsLen hsrc.newsLen hold.one hsrc.one holds hnews _ (rest := (Builtin.zeroCells z.cells (grownCap w (zs.length + ys.length) cp e - (zs.length + ys.length))).toList) (by simp)
    · rw [List.length_append]; exact grownCap_ge _ _ _ _
    · have hge := grownCap_ge w (zs.length + ys.length) cp e
      simp only [Array.size_append, List.size_toArray, size_zeroCells, hzs, List.length_append, hold.newsLen, hsrc.newsLen, ← Nat.add_mul]
      exact Nat.mul_le_mul_right _ (by omega)
  cases a <;> simp only [appendB] at h
  case nils =>
    obtain ⟨h1, h2⟩ := run_grd h
    clear h
    have h1 : ys.length ≤ room by_ := by simpa using h1
    obtain ⟨hk, h3⟩ := run_fresh h2
    clear h2
    have hd := run_ret h3
    subst hd
    obtain ⟨A, ex⟩ := ha.inv_nils
    by_cases h0 : ys.length = 0
    · have hys : ys = [] := List.length_eq_zero_iff.1 h0
      obtain ⟨k1, k2⟩ := hm.put (newId k 0) (.row 0 u ys) ⟨none, 0, 0, 0, 0, u.sz, fun _ => False, fun _ _ => undef⟩ w rfl rfl rfl (Nat.le_refl _) (fun _ _ _ => rfl) (fun j hj => by rw [hm.inf_none hk] at hj; cases hj)
        (fun ext => ⟨_, Cx.set_eq _ _ _, rfl, by simp [h0], rfl, by simp [h0], .inl ⟨rfl, rfl⟩⟩) (fun b _ hb => by cases hb)
      exact ⟨_, _, _, .inl (nothing A 0 0 ex (Nat.le_refl _) h0), k1, k2, by rw [ex]; exact .own _ 0 A 0 0 _ (Cx.set_eq _ _ _) (Nat.le_refl _) fun _ => ⟨A, 0, rfl, Nat.le_refl _, rfl, fun h => by omega⟩⟩
    · obtain ⟨arr, cap, r1, r2, r3, r4⟩ := grow A [] 0 ex ⟨A, 0, fun _ => undef, ex, Nat.le_refl _, fun h => by simp at h, fun j x hx => by simp at hx⟩ (by simp; omega) (by simpa using h1)
      simp only [List.nil_append] at r1 r2 r3
      obtain ⟨c', k1, k2, k3⟩ := hm.rowNew (newId k 0) 0 rfl r2 r3 r4 (fun i hi => by rw [hm.inf_none hk] at hi; cases hi) (e := e)
      exact ⟨_, _, c', .inl r1, k1, k2, k3⟩
  case own q v =>
    split at h
    case h_2 => exact (run_fail h).elim
    rename_i v' t' xs hq
    split at h
    case h_2 => exact (run_fail h).elim
    rename_i hv
    have hv := beq_true hv
    subst hv
    obtain ⟨zs, hzs', h2⟩ := run_opt h
    clear h
    obtain ⟨et, ezs⟩ := castR_eq hzs'
    simp only at et
    subst et
    simp only at ezs
    subst ezs
    obtain ⟨h1, h3⟩ := run_grd h2
    clear h2
    have h1 : xs.length + ys.length ≤ room by_ := by simpa using h1
    have hd := run_ret h3
    subst hd
    obtain ⟨ii, p, k1, k2, k3, k4, k5, k6, A, cp, ex, k7, k8, k9⟩ := own_head hm (.inl hq) ha
    have hver : ∀ j, c.inf q = some j → j.ver < v' + 1 := fun j hj => by rw [k1] at hj; cases hj; omega
    by_cases h0 : ys.length = 0
    · have hys : ys = [] := List.length_eq_zero_iff.1 h0
      obtain ⟨i2, m1, m2, m3, m4, m5, m6⟩ := hm.obj q _ hq
      rw [k1] at m1
      cases m1
      obtain ⟨r1, r2⟩ := hm.put q (.row (v' + 1) t' (xs ++ ys)) { ii with ver := v' + 1 } w rfl rfl rfl (Nat.le_refl _) (fun _ _ _ => rfl) (fun j hj => by have := hver j hj; exact ⟨by show j.ver ≤ v' + 1; omega, fun e => by have e' : v' + 1 = j.ver := e; omega⟩)
        (fun ext => ⟨_, Cx.set_eq _ _ _, rfl, by simp [hys, k3], k4, by simpa [hys] using k5, by
          rw [hys, List.append_nil]
          have := m6.ext ext (fun b hb _ => ⟨rfl, Iff.rfl⟩)
          exact this⟩) (fun b _ hb => .inl ⟨_, ii, hq, rfl, k1, hb⟩)
      refine ⟨_, _, _, .inl (nothing A _ cp ex k7 h0), r1, r2, ?_⟩
      rw [ex]
      exact .own q (v' + 1) A _ cp _ (Cx.set_eq _ _ _) (Nat.le_refl _) fun _ => ⟨A, cp, by simp [k3], by simpa [k3] using k7, k8, fun h => k9 h⟩
    · by_cases hfit : xs.length + ys.length ≤ cp
      · obtain ⟨b, hb, rfl⟩ := k9 (by omega)
        obtain ⟨i2, m1, m2, m3, m4, m5, m6⟩ := hm.obj q _ hq
        rw [k1] at m1
        cases m1
        rcases m6 with ⟨m6, _⟩ | ⟨b', arr, el, n1, n2, n3, n4, n5⟩
        · rw [hb] at m6; cases m6
        rw [hb] at n1
        cases n1
        rw [Nat.zero_mul, Nat.add_zero] at ex
        have hcap : cp = ii.cap := by omega
        have hnl := hsrc.newsLen
        have hfa : ii.off + xs.length * t'.sz + news.length ≤ arr.size := by
          have h9 := Nat.mul_le_mul_right t'.sz (show xs.length + ys.length ≤ ii.cap by omega)
          rw [Nat.add_mul] at h9
          omega
        have hr := run_append_room_src (P := P) w t tx o.type e i ht hi b ii.off xs.length cp (ρ y) ys.length news hsrc' hfit (fun j hj => by rw [cell_in n2 (by rw [hsz]; omega)]; rfl) (fun j hj => by simp [World.frozen?, n2])
        rw [hsz, setCells_spl n2 hfa hsrc.one] at hr
        obtain ⟨r1, r2⟩ := hm.put q (.row (v' + 1) t' (xs ++ ys)) { ii with ver := v' + 1, len := xs.length + ys.length } (w.setRow b (spl arr (ii.off + xs.length * t'.sz) news)) rfl rfl rfl (by rw [setRow_size]; exact Nat.le_refl _)
          (fun b2 hb2 hB => setRow_other w b _ fun e => hB ⟨_, ii, hq, rfl, k1, by rw [e]; exact hb⟩) (fun j hj => by have := hver j hj; exact ⟨by show j.ver ≤ v' + 1; omega, fun e => by have e' : v' + 1 = j.ver := e; omega⟩)
          (fun ext => ⟨_, Cx.set_eq _ _ _, rfl, by simp, k4, by simp; omega, .inr ⟨b, _, el, hb, setRow_heap w b arr _ el (0, 0) n2, by rw [spl_size hfa]; exact n3, by
            intro j x hx qq y hy
            have hqq : qq < t'.sz := by rw [← view_len t' x]; exact (List.getElem?_eq_some_iff.1 hy).1
            rw [spl_get hfa]
            rw [List.getElem?_append] at hx
            split at hx
            · rename_i hj
              have h9 := Nat.mul_le_mul_right t'.sz (show j + 1 ≤ xs.length from hj)
              rw [Nat.add_mul, Nat.one_mul] at h9
              rw [if_neg (by show ¬ (ii.off + xs.length * t'.sz ≤ ii.off + (j * t'.sz + qq) ∧ _); omega)]
              exact ⟨(n4 j x hx qq y hy).1.ext ext, (n4 j x hx qq y hy).2⟩
            · rename_i hj
              have hjl : j - xs.length < ys.length := (List.getElem?_eq_some_iff.1 hx).1
              have h9 := Nat.mul_le_mul_right t'.sz (show j - xs.length + 1 ≤ ys.length from hjl)
              rw [Nat.add_mul, Nat.one_mul] at h9
              have h8 := Nat.mul_le_mul_right t'.sz (show xs.length ≤ j by omega)
              have hsub : ii.off + (j * t'.sz + qq) - (ii.off + xs.length * t'.sz) = (j - xs.length) * t'.sz + qq := by
                rw [Nat.sub_mul]
                omega
              have h7 : (j - xs.length) * t'.sz = j * t'.sz - xs.length * t'.sz := Nat.sub_mul _ _ _
              rw [if_pos (by show ii.off + xs.length * t'.sz ≤ ii.off + (j * t'.sz + qq) ∧ ii.off + (j * t'.sz + qq) < _; omega)]
              show V _ _ y (news.getD (ii.off + (j * t'.sz + qq) - (ii.off + xs.length * t'.sz)) undef) ∧ (news.getD (ii.off + (j * t'.sz + qq) - (ii.off + xs.length * t'.sz)) undef).oneCell' = true
              rw [hsub]
              have hlt : (j - xs.length) * t'.sz + qq < news.length := by omega
              refine ⟨(hnews _ x hx qq y hy).ext ext, hsrc.one _ ?_⟩
              rw [List.getD_eq_getElem?_getD, List.getElem?_eq_getElem hlt]
              exact List.getElem_mem hlt, n5⟩⟩)
          (fun b2 _ hb2 => .inl ⟨_, ii, hq, rfl, k1, hb2⟩)
        refine ⟨_, _, _, .inl (hrun _ _ (by rw [ex]; exact hr)), r1, r2, ?_⟩
        exact .own q (v' + 1) _ _ cp _ (Cx.set_eq _ _ _) (Nat.le_refl _) fun _ => ⟨_, cp, rfl, hfit, by omega, fun _ => ⟨b, hb, by simp⟩⟩
      · obtain ⟨arr, cap, r1, r2, r3, r4⟩ := grow A xs cp ex (by
          have := Rd.ofRow k3 k4 k6 (lo := 0) (n := xs.length) (by omega) ⟨A, cp, ex, k7, k8, k9⟩
          simpa using this) (by omega) h1
        obtain ⟨c', m1, m2, m3⟩ := hm.rowNew q (v' + 1) rfl r2 r3 r4 hver (e := e)
        exact ⟨_, _, c', .inl r1, m1, m2, m3⟩
  all_goals exact (run_fail h).elim
/-! ### zeros behind nothing -/
theorem zeroCells_add (z : Array Value) (n m : Nat) : Builtin.zeroCells z n ++ Builtin.zeroCells z m = madeCells z ((n + m) * z.size) := by
  apply Array.ext
  · simp [Builtin.zeroCells, madeCells, Nat.add_mul]
  · intro i h1 h2
    rw [Array.getElem_append]
    simp only [Builtin.zeroCells, madeCells, Array.getElem_map, Array.getElem_range, Array.size_map, Array.size_range]
    split
    · rfl
    · rename_i h
      have : (i - n * z.size) % z.size = i % z.size := by
        obtain ⟨j, rfl⟩ : ∃ j, i = j + n * z.size := ⟨i - n * z.size, by omega⟩
        rw [Nat.add_sub_cancel, Nat.add_mul_mod_self_right]
      rw [this]
theorem run_append_zeros (t tx ty e : TypeId) (i : TypeInfo) (z : Value) {k : IntKind} (ht : P.underlying t = some (.slice e)) (htx : P.underlying tx = some (.int k)) (hi : P.info? e = some i) (hz : i.zero = some z) (base : Option Addr)
    (hold : (Builtin.firstCells i.size 0 (.slice base 0 0)).run P w.drew = .ok #[] w.drew) (n : Nat) (h1 : 1 ≤ n) (hs : 1 ≤ i.size) (h63 : (n : Int) ≤ 35184372088832) (hfit : n * i.bytes ≤ 281474976710656) :
    (Builtin.append_ #[t, tx] ty #[.slice base 0 0, .int .i64 n]).run P w =
      .ok (.slice (some ⟨w.heap.size, 0, none⟩) n (grownCap w n 0 e)) (w.drew.alloc (.cells (Builtin.zeroCells z.cells n ++ Builtin.zeroCells z.cells (grownCap w n 0 e - n)) e)) := by
  have hw : IntKind.i64.wrap (n : Int) = n := wrap64' (by omega) h63
  have h0 : ¬ ((n : Int) < 0) := by omega
  have h48 : ¬ (281474976710656 < (n : Int) * (i.bytes : Int)) := by rw [← Int.natCast_mul]; omega
  have hn : ¬ (n = 0) := by omega
  have hsz : ¬ (i.size = 0) := by omega
  have hc : Builtin.nextslicecap n 0 = n := by simp [Builtin.nextslicecap]; omega
  have h48' : ¬ (281474976710656 < n * i.bytes) := by omega
  have h63' : ¬ (9223372036854775807 < (n : Int)) := by omega
  have hns : ¬ (n * i.size = 0) := Nat.ne_of_gt (Nat.mul_pos (by omega) (by omega))
  simp [Builtin.append_, run_underlying ht, run_underlying htx, sizeOf, typeInfo, zeroValue, hi, hz, asInt, asIntOf, hw, h0, h48, hn, hsz, hc, h48', h63', Question.forced, hold, newRow, grownCap]
  exact fun h => absurd h hns
theorem appendZ_ok (hm : Mem B c ob w) {T : Table} {t tx e : TypeId} {ik : IntKind} {x y : Operand} {ρ : Operand → Value} {a b : AV} {k : Nat} (ha : V c w a (ρ x)) (hy : V c w b (ρ y)) {o : Oper} {cl : Call} (ho : o.op = .call cl) (hb : cl.callee = .builtin .append) (hargs : cl.args.toList = [x, y])
    (hts : cl.argTypes.toList = [t, tx]) (ht : P.underlying t = some (.slice e)) (htx : P.underlying tx = some (.int ik)) (h : run T (appendZ P k ob t e a b) = some d) : Eff P B c ob w (execOp ρ o) d := by
  unfold appendZ at h
  split at h
  case h_2 => exact (run_fail h).elim
  rename_i n
  obtain ⟨A, ex⟩ := ha.inv_nils
  have ey := V.inv_i hy
  obtain ⟨u, hu, h⟩ := run_opt h
  obtain ⟨by_, hby, h⟩ := run_opt h
  obtain ⟨z, hz, h⟩ := run_opt h
  obtain ⟨yv, hyv, h⟩ := run_opt h
  split at h
  case h_2 => exact (run_fail h).elim
  rename_i hck
  rw [Bool.and_eq_true, Bool.and_eq_true] at hck
  obtain ⟨h1, h⟩ := run_grd h
  obtain ⟨h2, h⟩ := run_grd h
  have h1 : 1 ≤ n := by simpa using h1
  have h2 : n ≤ (room by_ : Int) := by simpa using h2
  obtain ⟨hk, h⟩ := run_fresh h
  have hd := run_ret h
  subst hd
  obtain ⟨nn, rfl⟩ : ∃ nn : Nat, n = (nn : Int) := ⟨n.toNat, by omega⟩
  obtain ⟨i, zv, hi, hzv, hl, hul, hcells⟩ := made_cells hz hyv
  obtain ⟨i2, hi2, hbs⟩ := bytesT_eq ht hby
  rw [hi] at hi2
  cases hi2
  have hisz := szIs_eq hck.1 hi
  have hu1 : 1 ≤ u.sz := by simpa using Nat.le_of_ble_eq_true hck.2.2
  have hroom := room_le (n := nn) (by_ := by_) (by omega)
  have hr : Rd c w u [] (ρ x) := ⟨A, 0, fun _ => undef, ex, Nat.le_refl _, fun h => by simp at h, fun j x hx => by simp at hx⟩
  obtain ⟨olds, hold, holds⟩ := hr.src ht
  have hon : olds = [] := by
    have := hold.newsLen
    simpa using this
  subst hon
  have hrun := run_append_zeros (P := P) (w := w) t tx o.type e i zv ht htx hi hzv A (by have := hold.cellsD; rw [ex] at this; rw [hisz]; exact this) nn (by omega) (by omega) (by omega) (by rw [hbs]; omega)
  have hge := grownCap_ge w nn 0 e
  have hzs : zv.cells.size = u.sz := hl.trans hul
  rw [zeroCells_add, hzs] at hrun
  have hcap : nn + (grownCap w nn 0 e - nn) = grownCap w nn 0 e := by omega
  rw [hcap] at hrun
  obtain ⟨c', k1, k2, k3⟩ := hm.rowNew (newId k 0) 0 (cap := grownCap w nn 0 e) rfl (hcells c w nn (grownCap w nn 0 e) hge) (by simpa using hge) (by rw [size_madeCells]; exact Nat.le_refl _) (fun i hi => by rw [hm.inf_none hk] at hi; cases hi) (e := e)
  refine ⟨_, _, c', .inl ?_, k1, k2, by simpa using k3⟩
  have hts' : cl.argTypes = #[t, tx] := by rw [← hts]
  rw [call_builtin ho hb, args_of hargs, hts']
  simp [builtin, ex, ey, hrun]
theorem cap_ok (hm : Mem B c ob w) {T : Table} {t e : TypeId} {ts : List TypeId} {x : Operand} {ρ : Operand → Value} (ha : V c w .nils (ρ x)) {o : Oper} {cl : Call} (ho : o.op = .call cl) (hb : cl.callee = .builtin .cap) (hargs : cl.args.toList = [x])
    (hts : cl.argTypes.toList = t :: ts) (ht : P.underlying t = some (.slice e)) (h : run T (now (.i .i64 0)) = some d) : Eff P B c ob w (execOp ρ o) d := by
  obtain ⟨A, ex⟩ := ha.inv_nils
  refine .now hm h (v := .int .i64 0) ?_ (.i _ _)
  have hts' : cl.argTypes[0]? = some t := by rw [← Array.getElem?_toList, hts]; rfl
  rw [call_builtin ho hb, args_of hargs]
  simp [builtin, Builtin.cap_, hts', run_underlying ht, ex, goInt]
end
end Go.Proofs.YtafjengmkiepbaaGreat.Am
end
section
/- What the machine of values does at an operation, the program does: append of rows of one's own. -/
namespace Go.Proofs.YtafjengmkiepbaaGreat.Am
open Go
set_option linter.constructorNameAsVariable false
set_option linter.unusedVariables false
set_option linter.unusedSimpArgs false
section
variable {P : Program} {B : Base} {c : Cx} {ob : Nat → Option AO} {w : World} {s : Sem Next} {d : Delta}
/-- the cells of a row of rows, as they are -/
theorem tree_raw {i : Inf} {t : Ty} {xs : List t.D} (hB : TreeB w i t xs) (hl : xs.length ≤ i.cap) (hs : i.sz = t.sz) {v : Value} (hd : Hd i 0 xs.length v) : ∃ news : List Value, (∀ tx e, P.underlying tx = some (.slice e) → Src P t.sz tx v xs.length news w) ∧ news.length = xs.length * t.sz ∧ (∀ u ∈ news, u.oneCell' = true) ∧
    (∀ j x, xs[j]? = some x → ∀ q y, (view t x)[q]? = some y → NC w i j q y (news.getD (j * t.sz + q) undef)) ∧ ∀ b arr e, i.blk = some b → w.heap[b]? = some (.cells arr e (0, 0)) → ∀ j, j < xs.length * t.sz → arr.getD (i.off + j) undef = news.getD j undef := by
  obtain ⟨A, cp, rfl, h1, h2, h3⟩ := hd
  rcases hB with ⟨hb, hc⟩ | ⟨b, arr, e, k1, k2, k3, k4, k5, k6⟩
  · have h0 : xs.length = 0 := by omega
    have hx : xs = [] := List.length_eq_zero_iff.1 h0
    subst hx
    refine ⟨[], fun tx e hu => ?_, by simp, by simp, fun j x hx => by simp at hx, fun b arr e h => by rw [hb] at h; cases h⟩
    cases A with
    | none => simpa using Src.ofNil (P := P) w (size := t.sz) hu cp
    | some a => exact Src.ofSlice w hu a 0 cp [] (by simp) (fun j u hj => by simp at hj) (fun u hu => by simp at hu)
  · have hfit : i.off + xs.length * t.sz ≤ arr.size := by
      have := Nat.mul_le_mul_right t.sz hl
      omega
    have hget : ∀ j, j < xs.length * t.sz → ((List.range (xs.length * t.sz)).map fun j => arr.getD (i.off + j) undef).getD j undef = arr.getD (i.off + j) undef := fun j hj => by
      simp [List.getD_eq_getElem?_getD, hj]
    have hone : ∀ j, j < xs.length * t.sz → (arr.getD (i.off + j) undef).oneCell' = true := fun j hj => by
      have hts : 0 < t.sz := Nat.pos_of_ne_zero fun e => by rw [e] at hj; simp at hj
      have hjn : j / t.sz < xs.length := (Nat.div_lt_iff_lt_mul hts).2 hj
      have hq : j % t.sz < (view t xs[j / t.sz]).length := by rw [view_len]; exact Nat.mod_lt _ hts
      have := (k5 _ _ (List.getElem?_eq_getElem hjn) _ _ (List.getElem?_eq_getElem hq)).1
      have hd := Nat.div_add_mod j t.sz
      rw [Nat.mul_comm] at hd
      rwa [hd] at this
    refine ⟨(List.range (xs.length * t.sz)).map fun j => arr.getD (i.off + j) undef, fun tx e' hu => ?_, by simp, fun u hu => ?_, fun j x hx q y hy => ?_, fun b' arr' e' h1 h2 j hj => ?_⟩
    · cases A with
      | none =>
        have h0 : xs.length = 0 := by
          rcases Nat.eq_zero_or_pos xs.length with h | h
          · exact h
          · obtain ⟨a, _, e⟩ := h3 (by omega)
            cases e
        rw [h0]
        simpa using Src.ofNil (P := P) w (size := t.sz) hu cp
      | some a =>
        refine Src.ofSlice w hu a xs.length cp _ (by simp) (fun j u hj => ?_) (fun u hu => ?_)
        · rw [List.getElem?_map] at hj
          obtain ⟨q, hq, rfl⟩ := Option.map_eq_some_iff.1 hj
          obtain ⟨g1, g2⟩ := List.getElem?_eq_some_iff.1 hq
          simp at g1 g2
          subst g2
          have hp : 0 < xs.length := Nat.pos_of_ne_zero fun e => by rw [e] at g1; simp at g1
          obtain ⟨a', hb', e⟩ := h3 (by omega)
          rw [k1] at hb'; cases hb'
          cases e
          rw [Nat.zero_mul, Nat.add_zero, add_mid']
          exact cell_in k2 (by omega)
        · obtain ⟨j, hj, rfl⟩ := List.mem_map.1 hu
          exact hone j (List.mem_range.1 hj)
    · obtain ⟨j, hj, rfl⟩ := List.mem_map.1 hu
      exact hone j (List.mem_range.1 hj)
    · have hq : q < t.sz := by rw [← view_len t x]; exact (List.getElem?_eq_some_iff.1 hy).1
      have hj : j < xs.length := (List.getElem?_eq_some_iff.1 hx).1
      have h9 := Nat.mul_le_mul_right t.sz (show j + 1 ≤ xs.length from hj)
      rw [Nat.add_mul, Nat.one_mul] at h9
      rw [hget _ (by omega)]
      exact k5 j x hx q y hy
    · rw [k1] at h1; cases h1
      rw [k2] at h2; cases h2
      exact (hget j hj).symm
/-- two rows of rows, one behind the other -/
def joinI (n : Nat) (i1 i2 : Inf) (i' : Inf) : Inf := { i' with S := fun b => i1.S b ∨ i2.S b, N := fun j q => if j < n then i1.N j q else i2.N (j - n) q }
theorem tree_cells {w' : World} {i1 i2 i' : Inf} {t : Ty} {xs ys : List t.D} {olds news : List Value}
    (k1 : ∀ j x, xs[j]? = some x → ∀ q y, (view t x)[q]? = some y → NC w i1 j q y (olds.getD (j * t.sz + q) undef)) (k2 : ∀ j x, ys[j]? = some x → ∀ q y, (view t x)[q]? = some y → NC w i2 j q y (news.getD (j * t.sz + q) undef))
    (hh : ∀ b, i1.S b ∨ i2.S b → w'.heap[b]? = w.heap[b]?) :
    ∀ j x, (xs ++ ys)[j]? = some x → ∀ q y, (view t x)[q]? = some y → NC w' (joinI xs.length i1 i2 i') j q y (if j < xs.length then olds.getD (j * t.sz + q) undef else news.getD ((j - xs.length) * t.sz + q) undef) := by
  have mv : ∀ (i : Inf) j q y v (x : t.D), (view t x)[q]? = some y → (∀ b, i.S b → i1.S b ∨ i2.S b) → NC w i j q y v → v.oneCell' = true ∧ (∀ (u : Ty) (l : List u.D), y = AV.lst u l → v = i.N j q ∧ Nest w' (fun b => i1.S b ∨ i2.S b) u l v) ∧ (imm y = false → V ⟨fun _ => none, fun _ => False⟩ w' y v) := fun i j q y v x hy hS ⟨g1, g2, g3⟩ =>
    ⟨g1, fun u l e => ⟨(g2 u l e).1, by
      obtain ⟨A, cp, m1, m2, m3, m4⟩ := (g2 u l e).2
      refine ⟨A, cp, m1, m2, m3, fun h0 => ?_⟩
      obtain ⟨b, off, arr, el, p1, p2, p3, p4, p5⟩ := m4 h0
      exact ⟨b, off, arr, el, p1, hS b p2, (hh b (hS b p2)).trans p3, p4, cells_mv p5⟩⟩, fun him => view_mv (c := ⟨fun _ => none, fun _ => False⟩) (fun _ h => h.elim) (fun _ h => h.elim) hy (g3 him)⟩
  intro j x hx q y hy
  rw [List.getElem?_append] at hx
  split at hx
  · rename_i hj
    rw [if_pos hj]
    obtain ⟨g1, g2, g3⟩ := mv i1 j q y _ x hy (fun b h => .inl h) (k1 j x hx q y hy)
    refine ⟨g1, fun u l e => ⟨?_, (g2 u l e).2⟩, g3⟩
    show _ = if j < xs.length then _ else _
    rw [if_pos hj]
    exact (g2 u l e).1
  · rename_i hj
    rw [if_neg hj]
    obtain ⟨g1, g2, g3⟩ := mv i2 (j - xs.length) q y _ x hy (fun b h => .inr h) (k2 _ x hx q y hy)
    refine ⟨g1, fun u l e => ⟨?_, (g2 u l e).2⟩, g3⟩
    show _ = if j < xs.length then _ else _
    rw [if_neg hj]
    exact (g2 u l e).1
theorem nb_S {S : Nat → Prop} {u : Ty} {l : List u.D} {v : Value} (h : Nest w S u l v) {b : Nat} (hb : nb v = some b) : S b := by
  obtain ⟨A, cp, m1, m2, m3, m4⟩ := h
  rw [m1] at hb
  cases cp with
  | zero => cases A <;> simp [nb] at hb
  | succ n =>
    obtain ⟨b1, off1, arr1, el1, p1, p2, _⟩ := m4 (by omega)
    rw [p1] at hb
    have : b1 = b := by simpa [nb] using hb
    exact this ▸ p2
theorem inj_of {i : Inf} {t : Ty} {xs : List t.D} (hB : TreeB w i t xs) (hl : xs.length ≤ i.cap) : ∀ (j q j' q' b : Nat) (x x' : t.D) (u : Ty) (l : List u.D) (u' : Ty) (l' : List u'.D), xs[j]? = some x → (view t x)[q]? = some (AV.lst u l) → xs[j']? = some x' → (view t x')[q']? = some (AV.lst u' l') → nb (i.N j q) = some b → nb (i.N j' q') = some b → j = j' ∧ q = q' := by
  rcases hB with ⟨g1, g2⟩ | ⟨_, _, _, _, _, _, _, _, g⟩
  · intro j q j' q' b x x' u l u' l' a1
    have := (List.getElem?_eq_some_iff.1 a1).1
    omega
  · exact g
theorem tree_inj {i1 i2 i' : Inf} {t : Ty} {xs ys : List t.D} {olds news : List Value}
    (k1 : ∀ j x, xs[j]? = some x → ∀ q y, (view t x)[q]? = some y → NC w i1 j q y (olds.getD (j * t.sz + q) undef)) (k2 : ∀ j x, ys[j]? = some x → ∀ q y, (view t x)[q]? = some y → NC w i2 j q y (news.getD (j * t.sz + q) undef))
    (h1 : TreeB w i1 t xs) (l1 : xs.length ≤ i1.cap) (h2 : TreeB w i2 t ys) (l2 : ys.length ≤ i2.cap) (hdis : ∀ b, i1.S b → i2.S b → False) :
    ∀ (j q j' q' b : Nat) (x x' : t.D) (u : Ty) (l : List u.D) (u' : Ty) (l' : List u'.D), (xs ++ ys)[j]? = some x → (view t x)[q]? = some (AV.lst u l) → (xs ++ ys)[j']? = some x' → (view t x')[q']? = some (AV.lst u' l') → nb ((joinI xs.length i1 i2 i').N j q) = some b → nb ((joinI xs.length i1 i2 i').N j' q') = some b → j = j' ∧ q = q' := by
  have s1 : ∀ (j q b : Nat) (x : t.D) (u : Ty) (l : List u.D), xs[j]? = some x → (view t x)[q]? = some (AV.lst u l) → nb (i1.N j q) = some b → i1.S b := fun j q b x u l a1 a2 a3 => by
    obtain ⟨m1, m2⟩ := (k1 j x a1 q _ a2).2.1 u l rfl
    exact nb_S m2 (by rw [m1]; exact a3)
  have s2 : ∀ (j q b : Nat) (x : t.D) (u : Ty) (l : List u.D), ys[j]? = some x → (view t x)[q]? = some (AV.lst u l) → nb (i2.N j q) = some b → i2.S b := fun j q b x u l a1 a2 a3 => by
    obtain ⟨m1, m2⟩ := (k2 j x a1 q _ a2).2.1 u l rfl
    exact nb_S m2 (by rw [m1]; exact a3)
  intro j q j' q' b x x' u l u' l' a1 a2 a3 a4 a5 a6
  have a5 : nb (if j < xs.length then i1.N j q else i2.N (j - xs.length) q) = some b := a5
  have a6 : nb (if j' < xs.length then i1.N j' q' else i2.N (j' - xs.length) q') = some b := a6
  rw [List.getElem?_append] at a1 a3
  by_cases c1 : j < xs.length
  · rw [if_pos c1] at a1 a5
    by_cases c2 : j' < xs.length
    · rw [if_pos c2] at a3 a6
      exact inj_of h1 l1 j q j' q' b x x' u l u' l' a1 a2 a3 a4 a5 a6
    · rw [if_neg c2] at a3 a6
      exact (hdis b (s1 j q b x u l a1 a2 a5) (s2 _ q' b x' u' l' a3 a4 a6)).elim
  · rw [if_neg c1] at a1 a5
    by_cases c2 : j' < xs.length
    · rw [if_pos c2] at a3 a6
      exact (hdis b (s1 j' q' b x' u' l' a3 a4 a6) (s2 _ q b x u l a1 a2 a5)).elim
    · rw [if_neg c2] at a3 a6
      obtain ⟨m1, m2⟩ := inj_of h2 l2 _ q _ q' b x x' u l u' l' a1 a2 a3 a4 a5 a6
      exact ⟨by omega, m2⟩
/-- the elements behind each other, out of one tree and the other; K are the objects that they come from -/
theorem appendT_core (hm : Mem B c ob w) {t tx e e' : TypeId} {x y : Operand} {ρ : Operand → Value} {k by_ : Nat} (hkb : 1000 ≤ k) (hk : ob k = none) {u : Ty} {xs ys : List u.D} {i : TypeInfo} {z : Value} {o : Oper} {cl : Call} (ho : o.op = .call cl) (hb : cl.callee = .builtin .append) (hargs : cl.args.toList = [x, y])
    (hts : cl.argTypes.toList = [t, tx]) (ht : P.underlying t = some (.slice e)) (htx : P.underlying tx = some (.slice e')) (hi : P.info? e = some i) (hz : i.zero = some z) (hby : i.bytes = by_) (hsz : i.size = u.sz) (hzs : z.cells.size = u.sz)
    {K : List Nat} {ob' : Nat → Option AO} {i1 i2 : Inf} {K1 : List Nat} {o2 : Nat} (hK : ∀ q, q ∈ K ↔ q ∈ K1 ∨ q = o2) (hKk : ∀ q, q ∈ K → q ≠ k)
    (hob1 : ob' k = some (.tree u (xs ++ ys))) (hob2 : ∀ q, q ∈ K → ob' q = some .dead) (hob3 : ∀ q, q ≠ k → ¬ q ∈ K → ob' q = ob q)
    (h1 : TreeB w i1 u xs) (l1 : xs.length ≤ i1.cap) (z1 : i1.sz = u.sz) (d1 : Hd i1 0 xs.length (ρ x)) (b1 : ∀ b, i1.blk = some b ∨ i1.S b → ∃ q, q ∈ K1 ∧ Blk c ob q b)
    (h2 : TreeB w i2 u ys) (l2 : ys.length ≤ i2.cap) (z2 : i2.sz = u.sz) (d2 : Hd i2 0 ys.length (ρ y)) (b2 : ∀ b, i2.blk = some b ∨ i2.S b → Blk c ob o2 b) (hdj : ∀ b q, q ∈ K1 → Blk c ob q b → Blk c ob o2 b → False) (hroom : xs.length + ys.length ≤ room by_) :
    ∃ v w' c', (execOp ρ o).run P w = .ok (.value v) w' ∧ Mem B c' ob' w' ∧ Ext c w c' w' ∧ V c' w' (.own k 0) v := by
  obtain ⟨olds, so, _, oo, co, ro⟩ := tree_raw (P := P) h1 l1 z1 d1
  obtain ⟨news, sn, hnl, on, cn, rn⟩ := tree_raw (P := P) h2 l2 z2 d2
  have hsrc := sn tx e' htx
  have hsrc' : Src P i.size tx (ρ y) ys.length news w := by rw [hsz]; exact hsrc
  have hold := so tx e' htx
  have hrun : ∀ v w', (Builtin.append_ #[t, tx] o.type #[ρ x, ρ y]).run P w = .ok v w' → (execOp ρ o).run P w = .ok (.value v) w' := fun v w' e => by
    have hts' : cl.argTypes = #[t, tx] := by rw [← hts]
    rw [call_builtin ho hb, args_of hargs, hts']
    simp [builtin, e]
  have hdis : ∀ b, i1.S b → i2.S b → False := fun b g1 g2 => by
    obtain ⟨q, hq, hB⟩ := b1 b (.inr g1)
    exact hdj b q hq hB (b2 b (.inr g2))
  have blkK : ∀ b, (i1.blk = some b ∨ i1.S b) ∨ (i2.blk = some b ∨ i2.S b) → ∃ q, q ∈ K ∧ Blk c ob q b := fun b hb => by
    rcases hb with hb | hb
    · obtain ⟨q, hq, hB⟩ := b1 b hb
      exact ⟨q, (hK q).2 (.inl hq), hB⟩
    · exact ⟨o2, (hK o2).2 (.inr rfl), b2 b hb⟩
  have blkI : ∀ b, (i1.blk = some b ∨ i1.S b) ∨ (i2.blk = some b ∨ i2.S b) → b < w.heap.size ∧ ¬ c.F b := fun b hb => by
    obtain ⟨q, _, hB⟩ := blkK b hb
    exact hm.blk hB
  obtain ⟨A, cp, ex, k7, k8, k9⟩ := d1
  by_cases h0 : ys.length = 0
  · -- nothing is appended
    have hys : ys = [] := List.length_eq_zero_iff.1 h0
    have hn : news = [] := by rw [h0] at hnl; simpa using hnl
    have hnothing := hrun _ _ (by
      rw [ex]
      exact run_append_nothing w t tx o.type e i ht hi A xs.length cp k7 (ρ y) (by rw [hn, h0] at hsrc'; exact hsrc'))
    have hput := hm.absorb (ob' := ob') K k (.tree u (xs ++ ys)) { i1 with ver := 0, len := xs.length } w rfl rfl rfl (Nat.le_refl _) (fun _ _ _ => rfl) hk hkb hob1 (fun _ q hq => ⟨.dead, hob2 q hq, rfl, rfl, trivial⟩) hob3
      (fun ext => ⟨_, Cx.set_eq _ _ _, rfl, by simp [hys], z1, by simpa [hys] using l1, fun b hb => blkI b (.inl hb), by rw [hys, List.append_nil]; exact h1⟩) (fun b hb => .inl (blkK b (.inl hb)))
    refine ⟨_, _, _, hnothing, hput.1, hput.2, .own k 0 A xs.length cp _ (Cx.set_eq _ _ _) (Nat.zero_le _) fun _ => ⟨A, cp, rfl, k7, k8, k9⟩⟩
  · by_cases hfit : xs.length + ys.length ≤ cp
    · -- there is room
      obtain ⟨b, hbb, rfl⟩ := k9 (by omega)
      rcases h1 with ⟨g1, _⟩ | ⟨b', arr, el, n1, n2, n3, n4, n5, n6⟩
      · rw [hbb] at g1; cases g1
      rw [hbb] at n1; cases n1
      rw [Nat.zero_mul, Nat.add_zero] at ex
      have hcap : cp = i1.cap := by omega
      have hfa : i1.off + xs.length * u.sz + news.length ≤ arr.size := by
        have h9 := Nat.mul_le_mul_right u.sz (show xs.length + ys.length ≤ i1.cap by omega)
        rw [Nat.add_mul] at h9
        omega
      have hr := run_append_room_src (P := P) w t tx o.type e i ht hi b i1.off xs.length cp (ρ y) ys.length news hsrc' hfit (fun j hj => by rw [cell_in n2 (by rw [hsz]; omega)]; rfl) (fun j hj => by simp [World.frozen?, n2])
      rw [hsz, setCells_spl n2 hfa on] at hr
      have hbS : ∀ b', i1.S b' ∨ i2.S b' → b' ≠ b := fun b' hb' e => by
        subst e
        rcases hb' with hb' | hb'
        · exact n4 hb'
        · obtain ⟨q, hq, hB⟩ := b1 b' (.inl hbb)
          exact hdj b' q hq hB (b2 b' (.inr hb'))
      have hother : ∀ b', i1.S b' ∨ i2.S b' → (w.setRow b (spl arr (i1.off + xs.length * u.sz) news)).heap[b']? = w.heap[b']? := fun b' hb' => setRow_other w b _ (hbS b' hb')
      have h1' : TreeB w i1 u xs := .inr ⟨b, arr, el, hbb, n2, n3, n4, n5, n6⟩
      have hput := hm.absorb (ob' := ob') K k (.tree u (xs ++ ys)) (joinI xs.length i1 i2 { i1 with ver := 0, len := xs.length + ys.length }) (w.setRow b (spl arr (i1.off + xs.length * u.sz) news)) rfl rfl rfl (by rw [setRow_size]; exact Nat.le_refl _)
        (fun b2' _ hnB => setRow_other w b _ fun e => hnB (by rw [e]; exact blkK b (.inl (.inl hbb)))) hk hkb hob1 (fun _ q hq => ⟨.dead, hob2 q hq, rfl, rfl, trivial⟩) hob3
        (fun ext => ⟨_, Cx.set_eq _ _ _, rfl, by simp [joinI], z1, by simp [joinI]; omega, fun b' hb' => ?_, .inr ⟨b, _, el, hbb, setRow_heap w b arr _ el (0, 0) n2, by rw [spl_size hfa]; exact n3, fun hh => hbS b hh rfl, ?_, tree_inj co cn h1' l1 h2 l2 hdis⟩⟩)
        (fun b' hb' => by
          rcases hb' with hb' | hb' | hb'
          · exact .inl (blkK b' (.inl (.inl hb')))
          · exact .inl (blkK b' (.inl (.inr hb')))
          · exact .inl (blkK b' (.inr (.inr hb'))))
      · refine ⟨_, _, _, hrun _ _ (by rw [ex]; exact hr), hput.1, hput.2, .own k 0 _ (xs.length + ys.length) cp _ (Cx.set_eq _ _ _) (Nat.zero_le _) fun _ => ⟨_, cp, rfl, hfit, by show 0 + cp = i1.cap; omega, fun _ => ⟨b, hbb, by simp [joinI]⟩⟩⟩
      · rw [setRow_size]
        rcases hb' with hb' | hb' | hb'
        · exact blkI b' (.inl (.inl hb'))
        · exact blkI b' (.inl (.inr hb'))
        · exact blkI b' (.inr (.inr hb'))
      · intro j x0 hx q y0 hy
        have hq : q < u.sz := by rw [← view_len u x0]; exact (List.getElem?_eq_some_iff.1 hy).1
        have hcc := tree_cells (i' := { i1 with ver := 0, len := xs.length + ys.length }) co cn hother j x0 hx q y0 hy
        show NC _ _ j q y0 ((spl arr (i1.off + xs.length * u.sz) news).getD (i1.off + (j * u.sz + q)) undef)
        rw [spl_get hfa]
        have hjl : j < xs.length + ys.length := by rw [← List.length_append]; exact (List.getElem?_eq_some_iff.1 hx).1
        by_cases hj : j < xs.length
        · rw [if_pos hj] at hcc
          have h9 := Nat.mul_le_mul_right u.sz (show j + 1 ≤ xs.length from hj)
          rw [Nat.add_mul, Nat.one_mul] at h9
          rw [if_neg (by omega), ro b arr el hbb n2 _ (by omega)]
          exact hcc
        · rw [if_neg hj] at hcc
          have h9 := Nat.mul_le_mul_right u.sz (show j - xs.length + 1 ≤ ys.length by omega)
          rw [Nat.add_mul, Nat.one_mul] at h9
          have h8 := Nat.mul_le_mul_right u.sz (show xs.length ≤ j by omega)
          have h7 : (j - xs.length) * u.sz = j * u.sz - xs.length * u.sz := Nat.sub_mul _ _ _
          rw [if_pos (by omega), show i1.off + (j * u.sz + q) - (i1.off + xs.length * u.sz) = (j - xs.length) * u.sz + q by omega]
          exact hcc
    · -- there is none
      have hr2 := room_le hroom
      have hg := run_append_grow_src (P := P) w t tx o.type e i z ht hi hz A xs.length cp olds (by have := hold.cellsD; rw [ex] at this; rw [hsz]; exact this) (ρ y) ys.length news hsrc' (by omega) (by omega) (growslice_fits (by omega) (by rw [hby]; omega))
      have hol := hold.newsLen
      have hge := grownCap_ge w (xs.length + ys.length) cp e
      have hold' : ∀ (arr : Array Value) b', b' < w.heap.size → (w.drew.alloc (.cells arr e)).heap[b']? = w.heap[b']? := fun arr b' hb' => heap_alloc_old w.drew _ _ hb'
      have hother : ∀ (arr : Array Value) b', i1.S b' ∨ i2.S b' → (w.drew.alloc (.cells arr e)).heap[b']? = w.heap[b']? := fun arr b' hb' => hold' arr b' (by
        rcases hb' with hb' | hb'
        · exact (blkI b' (.inl (.inr hb'))).1
        · exact (blkI b' (.inr (.inr hb'))).1)
      have hput := hm.absorb (ob' := ob') K k (.tree u (xs ++ ys)) (joinI xs.length i1 i2 ⟨some w.heap.size, 0, grownCap w (xs.length + ys.length) cp e, xs.length + ys.length, 0, u.sz, fun _ => False, fun _ _ => undef⟩) (w.drew.alloc (.cells ((olds ++ news).toArray ++ Builtin.zeroCells z.cells (grownCap w (xs.length + ys.length) cp e - (xs.length + ys.length))) e)) rfl rfl rfl (by show w.heap.size ≤ (w.heap.push _).size; simp)
        (fun b' hb' _ => hold' _ b' hb') hk hkb hob1 (fun _ q hq => ⟨.dead, hob2 q hq, rfl, rfl, trivial⟩) hob3
        (fun ext => ⟨_, Cx.set_eq _ _ _, rfl, by simp [joinI], rfl, by simp [joinI]; exact hge, fun b' hb' => ?_, .inr ⟨w.heap.size, _, e, rfl, heap_alloc_new w.drew _, ?_, fun hh => ?_, ?_, tree_inj co cn h1 l1 h2 l2 hdis⟩⟩)
        (fun b' hb' => by
          rcases hb' with hb' | hb' | hb'
          · have : w.heap.size = b' := by simpa [joinI] using hb'
            exact .inr (by omega)
          · exact .inl (blkK b' (.inl (.inr hb')))
          · exact .inl (blkK b' (.inr (.inr hb'))))
      · refine ⟨_, _, _, hrun _ _ (by rw [ex]; exact hg), hput.1, hput.2, .own k 0 _ (xs.length + ys.length) _ _ (Cx.set_eq _ _ _) (Nat.zero_le _) fun _ => ⟨_, _, rfl, hge, by simp [joinI], fun _ => ⟨_, rfl, by simp [joinI]⟩⟩⟩
      · have hsz2 : w.heap.size ≤ (w.drew.alloc (.cells ((olds ++ news).toArray ++ Builtin.zeroCells z.cells (grownCap w (xs.length + ys.length) cp e - (xs.length + ys.length))) e)).heap.size := by show w.heap.size ≤ (w.heap.push _).size; simp
        rcases hb' with hb' | hb' | hb'
        · have : b' = w.heap.size := by simpa [joinI] using hb'.symm
          subst this
          exact ⟨by show w.heap.size < (w.heap.push _).size; simp, fun hF => Nat.lt_irrefl _ (hm.F _ hF)⟩
        · have := blkI b' (.inl (.inr hb'))
          exact ⟨Nat.lt_of_lt_of_le this.1 hsz2, this.2⟩
        · have := blkI b' (.inr (.inr hb'))
          exact ⟨Nat.lt_of_lt_of_le this.1 hsz2, this.2⟩
      · show 0 + grownCap w (xs.length + ys.length) cp e * u.sz ≤ _
        simp only [Array.size_append, List.size_toArray, size_zeroCells, hzs, List.length_append, hol, hsrc.newsLen, ← Nat.add_mul, Nat.zero_add]
        exact Nat.mul_le_mul_right _ (by omega)
      · rcases hh with hh | hh
        · have := (blkI _ (.inl (.inr hh))).1
          omega
        · have := (blkI _ (.inr (.inr hh))).1
          omega
      · intro j x0 hx q y0 hy
        have hq : q < u.sz := by rw [← view_len u x0]; exact (List.getElem?_eq_some_iff.1 hy).1
        have hcc := tree_cells (i' := ⟨some w.heap.size, 0, grownCap w (xs.length + ys.length) cp e, xs.length + ys.length, 0, u.sz, fun _ => False, fun _ _ => undef⟩) co cn (hother ((olds ++ news).toArray ++ Builtin.zeroCells z.cells (grownCap w (xs.length + ys.length) cp e - (xs.length + ys.length)))) j x0 hx q y0 hy
        have hjl : j < xs.length + ys.length := by rw [← List.length_append]; exact (List.getElem?_eq_some_iff.1 hx).1
        have hget : ∀ n, ((olds ++ news).toArray ++ Builtin.zeroCells z.cells (grownCap w (xs.length + ys.length) cp e - (xs.length + ys.length))).getD n undef = (olds ++ news ++ (Builtin.zeroCells z.cells (grownCap w (xs.length + ys.length) cp e - (xs.length + ys.length))).toList).getD n undef := fun n => by
          rw [Array.getD_eq_getD_getElem?, List.getD_eq_getElem?_getD, ← Array.getElem?_toList]
          simp
        show NC _ _ j q y0 (Array.getD _ (0 + (j * u.sz + q)) undef)
        rw [hget, Nat.zero_add]
        by_cases hj : j < xs.length
        · rw [if_pos hj] at hcc
          have h9 := Nat.mul_le_mul_right u.sz (show j + 1 ≤ xs.length from hj)
          rw [Nat.add_mul, Nat.one_mul] at h9
          have : (olds ++ news ++ (Builtin.zeroCells z.cells (grownCap w (xs.length + ys.length) cp e - (xs.length + ys.length))).toList).getD (j * u.sz + q) undef = olds.getD (j * u.sz + q) undef := by
            simp only [List.getD_eq_getElem?_getD, List.append_assoc]
            rw [List.getElem?_append_left (by omega)]
          rw [this]
          exact hcc
        · rw [if_neg hj] at hcc
          have h9 := Nat.mul_le_mul_right u.sz (show j - xs.length + 1 ≤ ys.length by omega)
          rw [Nat.add_mul, Nat.one_mul] at h9
          have h8 := Nat.mul_le_mul_right u.sz (show xs.length ≤ j by omega)
          have h7 : (j - xs.length) * u.sz = j * u.sz - xs.length * u.sz := Nat.sub_mul _ _ _
          have : (olds ++ news ++ (Builtin.zeroCells z.cells (grownCap w (xs.length + ys.length) cp e - (xs.length + ys.length))).toList).getD (j * u.sz + q) undef = news.getD ((j - xs.length) * u.sz + q) undef := by
            simp only [List.getD_eq_getElem?_getD, List.append_assoc]
            rw [List.getElem?_append_right (by omega), List.getElem?_append_left (by omega)]
            congr 2
            omega
          rw [this]
          exact hcc
theorem treeOf_ok {u : Ty} {a : AV} {p : Nat × List u.D} (h : treeOf ob u a = some p) : a = .own p.1 0 ∧ ob p.1 = some (.tree u p.2) := by
  unfold treeOf at h
  split at h
  · split at h
    · rename_i o v t xs ho
      split at h
      · rename_i hv
        have := beq_true hv
        subst this
        split at h
        · rename_i zs hz
          simp only [Option.some.injEq] at h
          subst h
          obtain ⟨e1, e2⟩ := castR_eq hz
          simp only at e1
          subst e1
          simp only at e2
          subst e2
          exact ⟨rfl, ho⟩
        · cases h
      · cases h
    · cases h
  · cases h
theorem appendT_ok (hm : Mem B c ob w) {T : Table} {t tx e e' : TypeId} {x y : Operand} {ρ : Operand → Value} {a a2 : AV} {k by_ : Nat} (hkb : 1000 ≤ k) {u : Ty} {i : TypeInfo} {z : Value} {p2 : Nat × List u.D} (ha : V c w a (ρ x)) (ha2 : V c w a2 (ρ y)) (h2 : treeOf ob u a2 = some p2) {o : Oper} {cl : Call} (ho : o.op = .call cl) (hb : cl.callee = .builtin .append) (hargs : cl.args.toList = [x, y])
    (hts : cl.argTypes.toList = [t, tx]) (ht : P.underlying t = some (.slice e)) (htx : P.underlying tx = some (.slice e')) (hi : P.info? e = some i) (hz : i.zero = some z) (hby : i.bytes = by_) (hsz : i.size = u.sz) (hzs : z.cells.size = u.sz)
    (h : run T (appendT ob k u by_ p2.1 p2.2 a) = some d) : Eff P B c ob w (execOp ρ o) d := by
  obtain ⟨e2, ho2⟩ := treeOf_ok h2
  subst e2
  obtain ⟨o2, ys⟩ := p2
  simp only at ho2 ha2 h
  obtain ⟨i2, A2, cp2, g1, g2, g3, g4, g5, g6, g7⟩ := tree_head hm ho2 ha2
  obtain ⟨i2', g1', _, _, _, _, _, g8⟩ := hm.obj o2 _ ho2
  rw [g1] at g1'; cases g1'
  have hb2 : ∀ b, i2.blk = some b ∨ i2.S b → Blk c ob o2 b := fun b hb => ⟨_, i2, ho2, rfl, g1, hb⟩
  by_cases hn : a = .nils
  · subst hn
    simp only [appendT] at h
    obtain ⟨hr, h⟩ := run_grd h
    obtain ⟨hk, h⟩ := run_fresh h
    have hd := run_ret h
    subst hd
    obtain ⟨A, ex⟩ := ha.inv_nils
    have ho2k : o2 ≠ k := fun e => by rw [e, hk] at ho2; cases ho2
    obtain ⟨v, w', c', r1, r2, r3, r4⟩ := appendT_core (P := P) (ρ := ρ) hm hkb hk (xs := ([] : List u.D)) (ys := ys) ho hb hargs hts ht htx hi hz hby hsz hzs (K := [o2]) (K1 := []) (o2 := o2)
      (ob' := fup ob [(o2, .dead), (k, .tree u ys)]) (i1 := ⟨none, 0, 0, 0, 0, u.sz, fun _ => False, fun _ _ => undef⟩) (i2 := i2) (fun q => by simp) (fun q hq => by simp at hq; rw [hq]; exact ho2k)
      (by simp [fup]) (fun q hq => by simp at hq; subst hq; simp [fup, ho2k]) (fun q hq hn => by simp at hn; simp [fup, hq, hn])
      (.inl ⟨rfl, rfl⟩) (by simp) rfl ⟨A, 0, by rw [ex]; rfl, Nat.le_refl _, rfl, fun h => by omega⟩ (fun b hb => by rcases hb with hb | hb <;> cases hb) g8 g5 g4 g7 hb2 (fun b q hq => by cases hq) (by simpa using hr)
    exact ⟨v, w', c', .inl r1, r2, r3, r4⟩
  · have h' : run T (opt (treeOf ob u a) fun p => match Nat.beq p.1 o2 with
        | true => .fail
        | false => grd (decide (p.2.length + ys.length ≤ room by_)) (fresh ob k (.ret ⟨.own k 0, [(p.1, .dead), (o2, .dead), (k, .tree u (p.2 ++ ys))], [p.1, o2]⟩))) = some d := by
      cases a <;> first | exact h | exact absurd rfl hn
    clear h
    obtain ⟨⟨o1, xs⟩, hp, h3⟩ := run_opt h'
    clear h'
    simp only at h3
    split at h3
    case h_1 => exact (run_fail h3).elim
    rename_i hne
    have hne : o1 ≠ o2 := Nat.ne_of_beq_eq_false hne
    obtain ⟨hr, h3⟩ := run_grd h3
    obtain ⟨hk, h3⟩ := run_fresh h3
    have hd := run_ret h3
    subst hd
    obtain ⟨e1, ho1⟩ := treeOf_ok hp
    subst e1
    simp only at ho1 ha
    obtain ⟨i1, A1, cp1, f1, f2, f3, f4, f5, f6, f7⟩ := tree_head hm ho1 ha
    obtain ⟨i1', f1', _, _, _, _, _, f8⟩ := hm.obj o1 _ ho1
    rw [f1] at f1'; cases f1'
    have ho1k : o1 ≠ k := fun e => by rw [e, hk] at ho1; cases ho1
    have ho2k : o2 ≠ k := fun e => by rw [e, hk] at ho2; cases ho2
    obtain ⟨v, w', c', r1, r2, r3, r4⟩ := appendT_core (P := P) (ρ := ρ) hm hkb hk (xs := xs) (ys := ys) ho hb hargs hts ht htx hi hz hby hsz hzs (K := [o1, o2]) (K1 := [o1]) (o2 := o2)
      (ob' := fup ob [(o1, .dead), (o2, .dead), (k, .tree u (xs ++ ys))]) (i1 := i1) (i2 := i2) (fun q => by simp) (fun q hq => by simp at hq; rcases hq with hq | hq <;> rw [hq] <;> assumption)
      (by simp [fup]) (fun q hq => by
        simp at hq
        rcases hq with hq | hq
        · subst hq; simp [fup, ho1k, hne]
        · subst hq; simp [fup, ho2k]) (fun q hq hn => by simp at hn; simp [fup, hq, hn.1, hn.2])
      f8 f5 f4 f7 (fun b hb => ⟨o1, by simp, _, i1, ho1, rfl, f1, hb⟩) g8 g5 g4 g7 hb2 (fun b q hq hB1 hB2 => by
        simp at hq
        subst hq
        obtain ⟨y1, j1, a1, a2, a3, a4⟩ := hB1
        obtain ⟨y2, j2, b1, b2, b3, b4⟩ := hB2
        exact hne (hm.inj _ o2 y1 y2 j1 j2 b a1 b1 a2 b2 a3 b3 a4 b4)) (by simpa using hr)
    exact ⟨v, w', c', .inl r1, r2, r3, r4⟩
end
end Go.Proofs.YtafjengmkiepbaaGreat.Am
end
section
/- What the machine of values does at a call, the program does. -/
namespace Go.Proofs.YtafjengmkiepbaaGreat.Am
open Go
set_option linter.constructorNameAsVariable false
set_option linter.unusedVariables false
set_option linter.unusedSimpArgs false

def obL (os : List AO) : Nat → Option AO := fun o => os[o]?
/-- a function's contract: what the machine of values says of it -/
def ACalls (P : Program) (f : FuncId) (as : List AV) (os : List AO) (r : Ret) : Prop :=
  ∀ (c : Cx) (w : World) (vs : Array Value), vs.size = as.length → (∀ j a, as[j]? = some a → V c w a (vs.getD j undef)) → Mem ⟨w, fun b => ∃ o, Blk c (obL os) o b, c.F, c.inf⟩ c (obL os) w →
    Calls P f vs w fun e w' => ∃ v c', e = .returned v ∧ V c' w' r.1 v ∧ Mem ⟨w, fun b => ∃ o, Blk c (obL os) o b, c.F, c.inf⟩ c' (obL r.2) w' ∧ ∀ o i i', c.inf o = some i → c'.inf o = some i' → i'.ver = 0 → i' = i
def okFn (P : Program) (f : FuncId) : Prop := ∃ fn, P.funcs[f]? = some fn ∧ (fn.name == "runtime.NumGoroutine") = false ∧ fn.body.isSome = true
def TS (P : Program) (T : Table) : Prop := ∀ f as os p t, T f as os = some p → p.x = some t → okFn P f ∧ ACalls P f as os (p.enc t)

section
variable {P : Program} {B : Base} {c : Cx} {ob : Nat → Option AO} {w : World} {s : Sem Next} {d : Delta}

theorem idx_some : ∀ (L : List Nat) (o i : Nat), idx L o = some i → L[i]? = some o
  | [], o, i, h => by simp [idx] at h
  | k :: l, o, i, h => by
    simp only [idx] at h
    split at h
    · rename_i e
      have := beq_true e
      simp only [Option.some.injEq] at h
      subst h this
      rfl
    · split at h
      · rename_i j hj
        simp only [Option.some.injEq] at h
        subst h
        simpa using idx_some l o j hj
      · cases h
theorem nodup_get : ∀ (L : List Nat), nodupB L = true → ∀ (i j o : Nat), L[i]? = some o → L[j]? = some o → i = j
  | [], _, i, j, o, h, _ => by simp at h
  | a :: r, hn, i, j, o, hi, hj => by
    simp only [nodupB] at hn
    split at hn
    · cases hn
    rename_i hh
    have hh := has_mem _ _ hh
    cases i with
    | zero =>
      cases j with
      | zero => rfl
      | succ j =>
        simp at hi hj
        subst hi
        exact absurd (List.mem_of_getElem? hj) hh
    | succ i =>
      cases j with
      | zero =>
        simp at hi hj
        subst hj
        exact absurd (List.mem_of_getElem? hi) hh
      | succ j =>
        simp at hi hj
        rw [nodup_get r hn i j o hi hj]
theorem idx_of : ∀ (L : List Nat) (o i : Nat), L[i]? = some o → ∃ j, idx L o = some j
  | [], o, i, h => by simp at h
  | k :: l, o, i, h => by
    simp only [idx]
    split
    · exact ⟨0, rfl⟩
    · rename_i hne
      cases i with
      | zero =>
        simp at h
        exact absurd h (Nat.ne_of_beq_eq_false hne)
      | succ i =>
        obtain ⟨j, hj⟩ := idx_of l o i (by simpa using h)
        exact ⟨j + 1, by simp [hj]⟩
theorem disj_mem : ∀ (a l : List Nat), disj a l = true → ∀ x, x ∈ a → ¬ x ∈ l
  | [], l, _, x, h => by cases h
  | y :: r, l, hd, x, h => by
    simp only [disj] at hd
    split at hd
    · cases hd
    rename_i hh
    rcases List.mem_cons.1 h with h | h
    · subst h; exact has_mem _ _ hh
    · exact disj_mem r l hd x h
theorem freshN_get (k : Nat) : ∀ n, freshN ob k n = true → ∀ r, r < n → ob (k + r) = none
  | 0, _, r, h => by omega
  | n + 1, hf, r, h => by
    simp only [freshN] at hf
    split at hf
    · rename_i h0
      rcases Nat.lt_or_ge r n with h1 | h1
      · exact freshN_get k n hf r h1
      · have : r = n := by omega
        subst this
        exact h0
    · cases hf

/-- what is lent -/
def Lent (c : Cx) (ob : Nat → Option AO) (l : List Nat) (b : Nat) : Prop := ∃ o x i, o ∈ l ∧ ob o = some x ∧ isDead x = false ∧ c.inf o = some i ∧ ofB x i b

theorem lend_row (hm : Mem B c ob w) {c' : Cx} (he : c'.inf = c.inf) (hF : ∀ b, c.F b → c'.F b) {o : Nat} {t : Ty} {xs : List t.D} {v : Nat} (h : ob o = some (.row v t xs) ∨ ob o = some (.fro v t xs)) (hl : ∀ b, Lent c ob [o] b → c'.F b) {i : Inf} {p : Prop} (hi : c.inf o = some i) (hB : RowB c w i t xs p) : RowB c' w i t xs True := by
  have e : Ext c w c' w := ⟨hF, fun o i h => ⟨i, by rw [he]; exact h, Nat.le_refl _, fun _ => rfl⟩, fun _ _ => rfl, fun o _ h => by rw [he]; exact h⟩
  rcases hB with hB | ⟨b, arr, el, h1, h2, h3, h4, h5⟩
  · exact .inl hB
  · refine .inr ⟨b, arr, el, h1, h2, h3, h4.ext e, ⟨fun _ => trivial, fun _ => hl b ?_⟩⟩
    rcases h with h | h
    · exact ⟨o, _, i, by simp, h, rfl, hi, h1⟩
    · exact ⟨o, _, i, by simp, h, rfl, hi, h1⟩
theorem lend_ext {c' : Cx} (he : c'.inf = c.inf) (hF : ∀ b, c.F b → c'.F b) : Ext c w c' w := ⟨hF, fun o i h => ⟨i, by rw [he]; exact h, Nat.le_refl _, fun _ => rfl⟩, fun _ _ => rfl, fun o _ h => by rw [he]; exact h⟩
theorem Lent.mono {c' : Cx} {l l' : List Nat} (h1 : ∀ o, o ∈ l → o ∈ l') (h2 : ∀ x, Lent c ob l' x → c'.F x) : ∀ x, Lent c ob l x → c'.F x := fun x ⟨o, y, i, k1, k2⟩ => h2 x ⟨o, y, i, h1 o k1, k2⟩
theorem lend0_ok (hm : Mem B c ob w) {c' : Cx} (he : c'.inf = c.inf) (hF : ∀ b, c.F b → c'.F b) (a b : AV) (l : List Nat) (v : Value) (h : lend0 ob a = some (b, l)) (hl : ∀ x, Lent c ob l x → c'.F x) (hv : V c w a v) : V c' w b v := by
  have e : Ext c w c' w := lend_ext he hF
  have triv : some (a, ([] : List Nat)) = some (b, l) → V c' w b v := fun k => by
    simp only [Option.some.injEq, Prod.mk.injEq] at k
    obtain ⟨rfl, rfl⟩ := k
    exact hv.ext e
  cases a <;> simp only [lend0, reduceCtorEq] at h
  case own o ver =>
    split at h
    · rename_i r hr
      simp only [Option.some.injEq, Prod.mk.injEq] at h
      obtain ⟨rfl, rfl⟩ := h
      obtain ⟨hq, _⟩ := rowOf_own hr
      obtain ⟨i, p, h1, h2, h3, h4, h5, h6, h7⟩ := own_head hm hq hv
      have hB := lend_row hm he hF hq hl h1 h6
      have := own_lst h3 h4 hB (lo := 0) (n := r.xs.length) (by omega) h7
      simpa using this
    · split at h
      · rename_i t xs ho
        split at h
        · rename_i hvv
          have := beq_true hvv
          subst this
          simp only [Option.some.injEq, Prod.mk.injEq] at h
          obtain ⟨rfl, rfl⟩ := h
          obtain ⟨i, h1, h2, h3, h4, h5, h6, h7⟩ := hm.obj o _ ho
          obtain ⟨A, n, cp, i', rfl, k1, k2, k3⟩ := hv.inv_own
          rw [h1] at k1; cases k1
          have hl' : ∀ b, i.blk = some b ∨ i.S b → c'.F b := fun b hb => hl b ⟨o, _, i, by simp, ho, rfl, h1, hb⟩
          have hB : RowB c' w i t xs True := tree_stays h7 hl'
          have := own_lst h3 h4 hB (lo := 0) (n := xs.length) (by omega) (h3 ▸ k3 h2.symm)
          simpa using this
        · cases h
      · cases h
  case sub o ver lo n =>
    split at h
    · rename_i r hr
      simp only [Option.some.injEq, Prod.mk.injEq] at h
      obtain ⟨rfl, rfl⟩ := h
      simp only [rowOf] at hr
      split at hr
      · rename_i v' t xs ho
        split at hr
        · rename_i hvv
          have := beq_true hvv
          simp only [Option.some.injEq] at hr
          subst hr this
          obtain ⟨i, p, h1, h2, h3, h4, h5, h6, h7, h8⟩ := sub_head hm (.inl ho) hv
          exact own_lst h3 h4 (lend_row hm he hF (.inl ho) hl h1 h6) h7 h8
        · cases hr
      · rename_i v' t xs ho
        split at hr
        · rename_i hvv
          have := beq_true hvv
          simp only [Option.some.injEq] at hr
          subst hr this
          obtain ⟨i, p, h1, h2, h3, h4, h5, h6, h7, h8⟩ := sub_head hm (.inr ho) hv
          exact own_lst h3 h4 (lend_row hm he hF (.inr ho) hl h1 h6) h7 h8
        · cases hr
      · cases hr
    · cases h
  case nst o j q =>
    split at h
    · rename_i u xs ho
      split at h
      · rename_i hq
        have := beq_true hq
        subst this
        simp only [Option.some.injEq, Prod.mk.injEq] at h
        obtain ⟨rfl, rfl⟩ := h
        obtain ⟨i, h1, h2⟩ := nst_row hm ho hv
        exact nest_lst h2 fun b hb => hl b ⟨o, _, i, by simp, ho, rfl, h1, .inr hb⟩
      · cases h
    · cases h
  all_goals exact triv h
theorem lends0_ok (hm : Mem B c ob w) {c' : Cx} (he : c'.inf = c.inf) (hF : ∀ b, c.F b → c'.F b) : ∀ (cs s : List AV) (l : List Nat), lends0 ob cs = some (s, l) → (∀ x, Lent c ob l x → c'.F x) → s.length = cs.length ∧ ∀ (g : Nat → Value), (∀ j y, cs[j]? = some y → V c w y (g j)) → ∀ j y, s[j]? = some y → V c' w y (g j)
  | [], s, l, h, _ => by
    simp only [lends0, Option.some.injEq, Prod.mk.injEq] at h
    obtain ⟨rfl, rfl⟩ := h
    exact ⟨rfl, by simp⟩
  | a :: r, s, l, h, hl => by
    simp only [lends0] at h
    split at h
    · rename_i b l1 s1 l2 h1 h2
      simp only [Option.some.injEq, Prod.mk.injEq] at h
      obtain ⟨rfl, rfl⟩ := h
      obtain ⟨k1, k2⟩ := lends0_ok hm he hF r s1 l2 h2 (Lent.mono (fun o ho => List.mem_append_right _ ho) hl)
      refine ⟨by simp [k1], fun g hg j y hy => ?_⟩
      cases j with
      | zero =>
        simp at hy
        subst hy
        exact lend0_ok hm he hF a b l1 _ h1 (Lent.mono (fun o ho => List.mem_append_left _ ho) hl) (hg 0 a rfl)
      | succ j => exact k2 (fun j => g (j + 1)) (fun j y hy => hg (j + 1) y (by simpa using hy)) j y (by simpa using hy)
    · cases h
theorem lendB_ok (hm : Mem B c ob w) {c' : Cx} (he : c'.inf = c.inf) (hF : ∀ b, c.F b → c'.F b) {o off : Nat} {b : AV} {l : List Nat} {v : Value} (h : lendB ob o off = some (b, l)) (hl : ∀ x, Lent c ob l x → c'.F x) (hv : V c w (.ptr o off) v) : V c' w b v := by
  unfold lendB at h
  split at h
  · rename_i cs ho
    split at h
    · rename_i s l1 hs
      simp only [Option.some.injEq, Prod.mk.injEq] at h
      obtain ⟨rfl, rfl⟩ := h
      obtain ⟨i, q, arr, el, k1, k2, k3, k4, k5, k6⟩ := hm.obj o _ ho
      obtain ⟨ad, i', rfl, hi', hpp⟩ := hv.inv_ptr
      rw [k1] at hi'
      cases hi'
      obtain ⟨b', hb', rfl⟩ := hpp k2
      rw [k3] at hb'
      cases hb'
      obtain ⟨m1, m2⟩ := lends0_ok hm he hF (cs.drop off) s l1 hs (Lent.mono (fun o ho => List.mem_cons_of_mem _ ho) hl)
      have hlen : ∀ j, j < s.length → off + j < cs.length := fun j hj => by rw [m1, List.length_drop] at hj; omega
      refine .rp s ⟨q, off, none⟩ (fun j => arr.getD (off + j) undef) (hl q ⟨o, _, i, by simp, ho, rfl, k1, k3⟩) (fun j hj => ?_) (m2 _ fun j y hy => ?_)
      · rw [add_mid']
        exact ⟨cell_in k4 (by rw [k5.1]; exact hlen j hj), k5.2.1 _ (hlen j hj)⟩
      · rw [List.getElem?_drop] at hy
        exact k5.2.2 _ y hy
    · cases h
  · cases h
theorem lend_ok (hm : Mem B c ob w) {c' : Cx} (he : c'.inf = c.inf) (hF : ∀ b, c.F b → c'.F b) : ∀ (a b : AV) (l : List Nat) (v : Value), lend ob a = some (b, l) → (∀ x, Lent c ob l x → c'.F x) → V c w a v → V c' w b v := by
  have e : Ext c w c' w := lend_ext he hF
  have agg : ∀ (cs : List AV), (∀ a, a ∈ cs → ∀ b l v, lend ob a = some (b, l) → (∀ x, Lent c ob l x → c'.F x) → V c w a v → V c' w b v) → ∀ (s : List AV) (l : List Nat), lend.lends ob cs = some (s, l) → (∀ x, Lent c ob l x → c'.F x) → s.length = cs.length ∧ ∀ (g : Nat → Value), (∀ j y, cs[j]? = some y → V c w y (g j)) → ∀ j y, s[j]? = some y → V c' w y (g j) := by
    intro cs
    induction cs with
    | nil =>
      intro _ s l h _
      simp only [lend.lends, Option.some.injEq, Prod.mk.injEq] at h
      obtain ⟨rfl, rfl⟩ := h
      exact ⟨rfl, by simp⟩
    | cons a r ih =>
      intro hall s l h hl
      simp only [lend.lends] at h
      split at h
      · rename_i b l1 s1 l2 h1 h2
        simp only [Option.some.injEq, Prod.mk.injEq] at h
        obtain ⟨rfl, rfl⟩ := h
        obtain ⟨k1, k2⟩ := ih (fun a ha => hall a (List.mem_cons_of_mem _ ha)) s1 l2 h2 (Lent.mono (fun o ho => List.mem_append_right _ ho) hl)
        refine ⟨by simp [k1], fun g hg j y hy => ?_⟩
        cases j with
        | zero =>
          simp at hy
          subst hy
          exact hall a List.mem_cons_self b l1 _ h1 (Lent.mono (fun o ho => List.mem_append_left _ ho) hl) (hg 0 a rfl)
        | succ j => exact k2 (fun j => g (j + 1)) (fun j y hy => hg (j + 1) y (by simpa using hy)) j y (by simpa using hy)
      · cases h
  have two : ∀ (n : Nat) (a b : AV) (l : List Nat) (v : Value), SizeOf.sizeOf a < n → lend ob a = some (b, l) → (∀ x, Lent c ob l x → c'.F x) → V c w a v → V c' w b v := by
    intro n
    induction n with
    | zero => intro a b l v h; omega
    | succ n ih =>
      intro a b l v hn h hl hv
      cases a <;> simp only [lend] at h
      case ptr o off => exact lendB_ok hm he hF h hl hv
      case agg cs =>
        split at h
        · rename_i s l1 h1
          simp only [Option.some.injEq, Prod.mk.injEq] at h
          obtain ⟨rfl, rfl⟩ := h
          obtain ⟨k1, k2⟩ := agg cs (fun a ha b l v => ih a b l v (by
            have := List.sizeOf_lt_of_mem ha
            simp only [AV.agg.sizeOf_spec] at hn
            omega)) s l1 h1 hl
          obtain ⟨vs, rfl, q1, q2, q3⟩ := hv.inv_agg
          exact .agg s vs (by rw [q1, k1]) (fun j hj => q2 j (by rw [← k1]; exact hj)) (k2 _ q3)
        · cases h
      case fn f cs =>
        split at h
        · rename_i s l1 h1
          simp only [Option.some.injEq, Prod.mk.injEq] at h
          obtain ⟨rfl, rfl⟩ := h
          obtain ⟨k1, k2⟩ := agg cs (fun a ha b l v => ih a b l v (by
            have := List.sizeOf_lt_of_mem ha
            simp only [AV.fn.sizeOf_spec] at hn
            omega)) s l1 h1 hl
          obtain ⟨vs, rfl, q1, q3⟩ := hv.inv_fn
          exact .fn f s vs (by rw [q1, k1]) (k2 _ q3)
        · cases h
      all_goals exact lend0_ok hm he hF _ b l v h hl hv
  exact fun a b l v h hl hv => two (SizeOf.sizeOf a + 1) a b l v (by omega) h hl hv
theorem passes_ok (hm : Mem B c ob w) {c' : Cx} (he : c'.inf = c.inf) (hF : ∀ b, c.F b → c'.F b) : ∀ (as : List AV) (m : List Bool) (s : List AV) (l : List Nat), passes ob m as = some (s, l) → (∀ x, Lent c ob l x → c'.F x) → s.length = as.length ∧ ∀ (g : Nat → Value), (∀ j y, as[j]? = some y → V c w y (g j)) → ∀ j y, s[j]? = some y → V c' w y (g j)
  | [], m, s, l, h, _ => by
    simp only [passes, Option.some.injEq, Prod.mk.injEq] at h
    obtain ⟨rfl, rfl⟩ := h
    exact ⟨rfl, by simp⟩
  | a :: r, m, s, l, h, hl => by
    have e : Ext c w c' w := ⟨hF, fun o i h => ⟨i, by rw [he]; exact h, Nat.le_refl _, fun _ => rfl⟩, fun _ _ => rfl, fun o _ h => by rw [he]; exact h⟩
    have mono : ∀ (l l' : List Nat), (∀ o, o ∈ l → o ∈ l') → (∀ x, Lent c ob l' x → c'.F x) → ∀ x, Lent c ob l x → c'.F x := fun l l' h1 h2 x ⟨o, y, i, k1, k2⟩ => h2 x ⟨o, y, i, h1 o k1, k2⟩
    have step : ∀ (b : AV) (m' : List Bool) (s1 : List AV) (l1 l2 : List Nat), (∀ v, V c w a v → V c' w b v) → passes ob m' r = some (s1, l2) → s = b :: s1 → l = l1 ++ l2 → s.length = (a :: r).length ∧ ∀ (g : Nat → Value), (∀ j y, (a :: r)[j]? = some y → V c w y (g j)) → ∀ j y, s[j]? = some y → V c' w y (g j) := fun b m' s1 l1 l2 h1 h2 e1 e2 => by
      subst e1 e2
      obtain ⟨k1, k2⟩ := passes_ok hm he hF r m' s1 l2 h2 (mono _ _ (fun o ho => List.mem_append_right _ ho) hl)
      refine ⟨by simp [k1], fun g hg j y hy => ?_⟩
      cases j with
      | zero => simp at hy; subst hy; exact h1 _ (hg 0 a rfl)
      | succ j => exact k2 (fun j => g (j + 1)) (fun j y hy => hg (j + 1) y (by simpa using hy)) j y (by simpa using hy)
    have lent : ∀ (m' : List Bool), (match lend ob a, passes ob m' r with | some (b, w), some (s, w') => some (b :: s, w ++ w') | _, _ => none) = some (s, l) → s.length = (a :: r).length ∧ ∀ (g : Nat → Value), (∀ j y, (a :: r)[j]? = some y → V c w y (g j)) → ∀ j y, s[j]? = some y → V c' w y (g j) := fun m' h => by
      split at h
      · rename_i b l1 s1 l2 h1 h2
        simp only [Option.some.injEq, Prod.mk.injEq] at h
        obtain ⟨rfl, rfl⟩ := h
        exact step b m' s1 l1 l2 (fun v hv => lend_ok hm he hF a b l1 v h1 (mono _ _ (fun o ho => List.mem_append_left _ ho) hl) hv) h2 rfl rfl
      · cases h
    cases m with
    | nil => exact lent [] (by simp only [passes] at h; exact h)
    | cons x m =>
      cases x with
      | false => exact lent m (by simp only [passes] at h; exact h)
      | true =>
        simp only [passes] at h
        split at h
        · rename_i s1 l2 h2
          simp only [Option.some.injEq, Prod.mk.injEq] at h
          obtain ⟨rfl, rfl⟩ := h
          exact step a m s1 [] l2 (fun v hv => hv.ext e) h2 rfl rfl
        · cases h
end
end Go.Proofs.YtafjengmkiepbaaGreat.Am
end
section
/- What the machine of values does at a call, the program does: the call itself. -/
namespace Go.Proofs.YtafjengmkiepbaaGreat.Am
open Go
set_option linter.constructorNameAsVariable false
set_option linter.unusedVariables false
set_option linter.unusedSimpArgs false
section
variable {P : Program} {B : Base} {c : Cx} {ob : Nat → Option AO} {w : World} {s : Sem Next} {d : Delta}

theorem fup_in : ∀ (l : List (Nat × AO)) (X Y : Nat → Option AO) (o : Nat), o ∈ l.map (·.1) → fup X l o = fup Y l o
  | [], X, Y, o, h => by simp at h
  | (k, x) :: r, X, Y, o, h => by
    simp only [fup]
    by_cases hr : o ∈ r.map (·.1)
    · exact fup_in r _ _ o hr
    · have hk : o = k := by
        simp only [List.map_cons, List.mem_cons] at h
        exact h.resolve_right hr
      rw [fup_not r _ o hr, fup_not r _ o hr, if_pos hk, if_pos hk]
theorem fup_comm (a b : List (Nat × AO)) (ob : Nat → Option AO) (h : ∀ o, o ∈ a.map (·.1) → ¬ o ∈ b.map (·.1)) : fup (fup ob a) b = fup (fup ob b) a := by
  funext o
  by_cases hb : o ∈ b.map (·.1)
  · have ha : ¬ o ∈ a.map (·.1) := fun ha => h o ha hb
    rw [fup_not a _ o ha, fup_in b _ ob o hb]
  · rw [fup_not b _ o hb]
    by_cases ha : o ∈ a.map (·.1)
    · exact fup_in a _ _ o ha
    · rw [fup_not a _ o ha, fup_not a _ o ha, fup_not b _ o hb]

theorem backO_keys (k : Nat) (L : List Nat) : ∀ (l : List AO) (i o : Nat), o ∈ (backO k ob L i l).map (·.1) → ∃ j, i ≤ j ∧ j < i + l.length ∧ o = sig k L j
  | [], i, o, h => by simp [backO] at h
  | a :: r, i, o, h => by
    simp only [backO, List.map_cons, List.mem_cons] at h
    rcases h with h | h
    · exact ⟨i, Nat.le_refl _, by simp, h⟩
    · obtain ⟨j, h1, h2, h3⟩ := backO_keys k L r (i + 1) o h
      exact ⟨j, by omega, by simp; omega, h3⟩
theorem backO_at (k : Nat) (L : List Nat) (N : Nat) (hinj : ∀ i j, i < N → j < N → sig k L i = sig k L j → i = j) : ∀ (l : List AO) (i : Nat) (X : Nat → Option AO) (j : Nat) (a : AO), i + l.length ≤ N → l[j]? = some a → fup X (backO k ob L i l) (sig k L (i + j)) = some (renO (rout k ob L) (verAt ob L (i + j) + verO a) a)
  | [], i, X, j, a, _, h => by simp at h
  | b :: r, i, X, 0, a, hN, h => by
    simp at h
    subst h
    simp only [List.length_cons] at hN
    simp only [backO, fup, Nat.add_zero]
    rw [fup_not, if_pos rfl]
    intro hk
    obtain ⟨j, h1, h2, h3⟩ := backO_keys k L r (i + 1) _ hk
    have := hinj _ _ (by omega) (by omega) h3
    omega
  | b :: r, i, X, j + 1, a, hN, h => by
    simp only [List.length_cons] at hN
    simp only [backO, fup]
    have := backO_at k L N hinj r (i + 1) (fun o => if o = sig k L i then some (renO (rout k ob L) (verAt ob L i + verO b) b) else X o) j a (by omega) (by simpa using h)
    rw [show i + (j + 1) = i + 1 + j by omega]
    exact this
theorem boxOk_get (v : Nat → Nat) : ∀ (l : List AO) (i : Nat), boxOk v i l = true → ∀ (j : Nat) (x : AO), isBox x = true → l[j]? = some x → v (i + j) = 0
  | [], i, _, j, x, _, h => by simp at h
  | a :: r, i, hb, 0, x, hx, h => by
    simp at h
    subst h
    cases a <;> simp only [isBox, Bool.false_eq_true] at hx
    all_goals
      simp only [boxOk] at hb
      split at hb
      · rename_i e; exact e
      · cases hb
  | a :: r, i, hb, j + 1, x, hx, h => by
    have hb' : boxOk v (i + 1) r = true := by
      cases a <;> simp only [boxOk] at hb
      case box _ =>
        split at hb
        · exact hb
        · cases hb
      case tree _ _ =>
        split at hb
        · exact hb
        · cases hb
      case mpo _ =>
        split at hb
        · exact hb
        · cases hb
      all_goals exact hb
    have := boxOk_get v r (i + 1) hb' j x hx (by simpa using h)
    rw [show i + (j + 1) = i + 1 + j by omega]
    exact this
theorem ofB_ren (ρ : Nat → Nat → Option (Nat × Nat)) (n : Nat) (a : AO) (i : Inf) (v b : Nat) : ofB (renO ρ n a) { i with ver := v } b = ofB a i b := by cases a <;> rfl
theorem ofB_rn (ρ : Nat → Nat → Option (Nat × Nat)) (n : Nat) (a : AO) (i : Inf) (b : Nat) : ofB (renO ρ n a) i b = ofB a i b := by cases a <;> rfl
theorem ofB_ver (a : AO) (i : Inf) (v b : Nat) : ofB a { i with ver := v } b = ofB a i b := by cases a <;> rfl

theorem obsOf_get (ρ : Nat → Nat → Option (Nat × Nat)) : ∀ (L : List Nat) (os : List AO), obsOf ob ρ L = some os → os.length = L.length ∧ ∀ (i o : Nat), L[i]? = some o → ∃ a, ob o = some a ∧ os[i]? = some (renO ρ 0 a)
  | [], os, h => by
    simp only [obsOf, Option.some.injEq] at h
    subst h
    exact ⟨rfl, by simp⟩
  | k :: r, os, h => by
    simp only [obsOf] at h
    split at h
    · rename_i a l h1 h2
      simp only [Option.some.injEq] at h
      subst h
      obtain ⟨k1, k2⟩ := obsOf_get ρ r l h2
      refine ⟨by simp [k1], fun i o hi => ?_⟩
      cases i with
      | zero => simp at hi; subst hi; exact ⟨a, h1, rfl⟩
      | succ i => simpa using k2 i o (by simpa using hi)
    · cases h
theorem live_renO (ρ : Nat → Nat → Option (Nat × Nat)) (n : Nat) (a : AO) : live (renO ρ n a) = live a := by cases a <;> rfl
theorem rowsOk_get : ∀ (os : List AO), rowsOk os = true → ∀ (i : Nat) (v : Nat) (t : Ty) (xs : List t.D), os[i]? = some (.fro v t xs) → False
  | [], _, i, v, t, xs, h => by simp at h
  | a :: r, hr, 0, v, t, xs, h => by
    simp at h
    subst h
    simp [rowsOk] at hr
  | a :: r, hr, i + 1, v, t, xs, h => by
    refine rowsOk_get r ?_ i v t xs (by simpa using h)
    cases a <;> simp [rowsOk] at hr ⊢ <;> exact hr

/-- the version of an object that is not dead -/
theorem Mem.ver (hm : Mem B c ob w) {o : Nat} {a : AO} (h : ob o = some a) (hd : isDead a = false) {i : Inf} (hi : c.inf o = some i) : verO a = i.ver := by
  have := hm.obj o a h
  cases a with
  | dead => simp [isDead] at hd
  | box cs =>
    obtain ⟨i', b, arr, el, h1, h2, _⟩ := this
    rw [hi] at h1; cases h1
    exact h2.symm
  | row v t xs =>
    obtain ⟨i', h1, h2, _⟩ := this
    rw [hi] at h1; cases h1
    exact h2.symm
  | fwd k => simp [isDead] at hd
  | mpo es =>
    obtain ⟨i', b, arr, el, h1, h2, _⟩ := this
    rw [hi] at h1; cases h1
    exact h2.symm
  | tree t xs =>
    obtain ⟨i', h1, h2, _⟩ := this
    rw [hi] at h1; cases h1
    exact h2.symm
  | fro v t xs =>
    obtain ⟨i', h1, h2, _⟩ := this
    rw [hi] at h1; cases h1
    exact h2.symm

/-- objects under other names -/
theorem OR.ren {ρ : Nat → Nat → Option (Nat × Nat)} {c1 c2 : Cx} {w1 w2 : World} (e : Ren ρ c1 w1 c2 w2) {o o' n : Nat} {a : AO} (h : OR c1 w1 o a) {i i' : Inf} (hi : c1.inf o = some i) (hi' : c2.inf o' = some i') (hn : i'.ver = n) (hb : i'.blk = i.blk) (ho : i'.off = i.off) (hc : i'.cap = i.cap) (hl : i'.len = i.len) (hs : i'.sz = i.sz) (hS : i'.S = i.S) (hN : i'.N = i.N)
    (hbox : isBox a = true → n = 0) (hheap : ∀ b, ofB a i b → (∃ x, w1.heap[b]? = some x) → w2.heap[b]? = w1.heap[b]?) (hF : isDead a = false → ∀ b, ofB a i b → (c2.F b ↔ c1.F b)) : OR c2 w2 o' (renO ρ n a) := by
  have cells : ∀ (arr : Array Value) (off : Nat) (t : Ty) (xs : List t.D), Cells c1 w1 arr off t xs → Cells c2 w2 arr off t xs := fun arr off t xs h j x hx q y hy => by
    have := h j x hx q y hy
    have k := this.1.ren e
    rw [view_ren ρ t x q y hy] at k
    exact ⟨k, this.2⟩
  have rowB : ∀ (t : Ty) (xs : List t.D) (p : Prop), isDead a = false → RowB c1 w1 i t xs p → RowB c2 w2 i' t xs p := fun t xs p hd h => by
    rcases h with ⟨h1, h2⟩ | ⟨b, arr, el, h1, h2, h3, h4, h5⟩
    · exact .inl ⟨by rw [hb]; exact h1, by rw [hc]; exact h2⟩
    · exact .inr ⟨b, arr, el, by rw [hb]; exact h1, (hheap b (ofB_blk h1) ⟨_, h2⟩).trans h2, by rw [ho, hc]; exact h3, by rw [ho]; exact cells _ _ _ _ h4, (hF hd b (ofB_blk h1)).trans h5⟩
  cases a with
  | dead => trivial
  | fwd k => trivial
  | box cs =>
    obtain ⟨i0, b, arr, el, h1, h2, h3, h4, h5, h6⟩ := h
    rw [hi] at h1; cases h1
    refine ⟨i', b, arr, el, hi', by rw [hn]; exact hbox rfl, by rw [hb]; exact h3, (hheap b h3 ⟨_, h4⟩).trans h4, ⟨by rw [h5.1, renL_len], fun j hj => h5.2.1 j (by rw [renL_len] at hj; exact hj), fun j y hy => ?_⟩, fun hf => h6 ((hF rfl b h3).1 hf)⟩
    rw [renL_get] at hy
    obtain ⟨z, hz, rfl⟩ := Option.map_eq_some_iff.1 hy
    exact (h5.2.2 j z hz).ren e
  | mpo es =>
    obtain ⟨i0, b, arr, el, h1, h2, h3, h4, h5, h6⟩ := h
    rw [hi] at h1; cases h1
    exact ⟨i', b, arr, el, hi', by rw [hn]; exact hbox rfl, by rw [hb]; exact h3, (hheap b h3 ⟨_, h4⟩).trans h4, h5, fun hf => h6 ((hF rfl b h3).1 hf)⟩
  | row v t xs =>
    obtain ⟨i0, h1, h2, h3, h4, h5, h6⟩ := h
    rw [hi] at h1; cases h1
    exact ⟨i', hi', hn, by rw [hl]; exact h3, by rw [hs]; exact h4, by rw [hc]; exact h5, rowB t xs _ rfl h6⟩
  | fro v t xs =>
    obtain ⟨i0, h1, h2, h3, h4, h5, h6⟩ := h
    rw [hi] at h1; cases h1
    exact ⟨i', hi', hn, by rw [hl]; exact h3, by rw [hs]; exact h4, by rw [hc]; exact h5, rowB t xs _ rfl h6⟩
  | tree t xs =>
    obtain ⟨i0, h1, h2, h3, h4, h5, h6, h7⟩ := h
    rw [hi] at h1; cases h1
    have hh : ∀ b, i.blk = some b ∨ i.S b → w2.heap[b]? = w1.heap[b]? := fun b hB => hheap b hB ⟨_, Array.getElem?_eq_getElem (h6 b hB).1⟩
    refine ⟨i', hi', by rw [hn]; exact hbox rfl, by rw [hl]; exact h3, by rw [hs]; exact h4, by rw [hc]; exact h5, fun b hB => ?_, ?_⟩
    · rw [hb, hS] at hB
      refine ⟨?_, fun hf => (h6 b hB).2 ((hF rfl b hB).1 hf)⟩
      have := hh b hB
      rw [Array.getElem?_eq_getElem (h6 b hB).1] at this
      exact (Array.getElem?_eq_some_iff.1 this).1
    · have e : ∀ b, i'.blk = some b ∨ i'.S b → w2.heap[b]? = w1.heap[b]? := fun b hB => by rw [hb, hS] at hB; exact hh b hB
      have h7 : TreeB w1 i' t xs := by
        unfold TreeB NC
        rw [hb, hc, ho, hS, hN]
        exact h7
      exact h7.mv e

theorem anyImm_get : ∀ (l : List AO), anyImm l = false → ∀ (i : Nat) (a : AO), l[i]? = some a → immO a = false
  | [], _, i, a, h => by simp at h
  | b :: r, hr, 0, a, h => by
    simp [anyImm] at hr h
    subst h
    exact hr.1
  | b :: r, hr, i + 1, a, h => by
    simp [anyImm] at hr h
    exact anyImm_get r hr.2 i a h
/-- an object that hangs on no rows that stay -/
theorem OR.noimm {c c' : Cx} {w : World} {o : Nat} {a : AO} (h : OR c w o a) (he : c'.inf = c.inf) (hF : ∀ b, c'.F b → c.F b) (hi : immO a = false) : OR c' w o a := by
  cases a with
  | dead => trivial
  | fwd k =>
    obtain ⟨i, i', h1, h2, h3⟩ := h
    exact ⟨i, i', he ▸ h1, he ▸ h2, h3⟩
  | box cs =>
    obtain ⟨i, b, arr, el, h1, h2, h3, h4, h5, h6⟩ := h
    exact ⟨i, b, arr, el, he ▸ h1, h2, h3, h4, ⟨h5.1, h5.2.1, fun j y hy => (h5.2.2 j y hy).noimm w he (immL_get cs j y hi hy)⟩, fun hf => h6 (hF b hf)⟩
  | row v t xs =>
    obtain ⟨i, h1, h2, h3, h4, h5, h6⟩ := h
    refine ⟨i, he ▸ h1, h2, h3, h4, h5, ?_⟩
    rcases h6 with h6 | ⟨b, arr, el, k1, k2, k3, k4, k5⟩
    · exact .inl h6
    · exact .inr ⟨b, arr, el, k1, k2, k3, fun j x hx q y hy => ⟨(k4 j x hx q y hy).1.noimm w he (view_imm t x q y hi hy), (k4 j x hx q y hy).2⟩, ⟨fun hf => k5.1 (hF b hf), False.elim⟩⟩
  | fro v t xs => simp [immO] at hi
  | mpo es =>
    obtain ⟨i, b, arr, el, h1, h2, h3, h4, h5, h6⟩ := h
    exact ⟨i, b, arr, el, he ▸ h1, h2, h3, h4, h5, fun hf => h6 (hF b hf)⟩
  | tree t xs =>
    obtain ⟨i, h1, h2, h3, h4, h5, h6, h7⟩ := h
    exact ⟨i, he ▸ h1, h2, h3, h4, h5, fun b hB => ⟨(h6 b hB).1, fun hf => (h6 b hB).2 (hF b hf)⟩, h7⟩

theorem sig_new {k : Nat} {L : List Nat} {i : Nat} (h : L.length ≤ i) : sig k L i = newId k 0 + (i - L.length) := by
  unfold sig
  rw [List.getElem?_eq_none h]
theorem sig_old {k : Nat} {L : List Nat} {i o : Nat} (h : L[i]? = some o) : sig k L i = o := by
  unfold sig
  rw [h]

/-- the call, its objects told -/
theorem call_core (hm : Mem B c ob w) {ob0 : Nat → Option AO} {k : Nat} {L : List Nat} {os : List AO} {f : FuncId} {as : List AV} {vs : Array Value} {r : Ret} {F1 : Nat → Prop}
    (hL : ∀ (i o : Nat), L[i]? = some o → ∃ a, ob o = some a ∧ ob0 o = some a ∧ os[i]? = some (renO (rin ob0 L) 0 a)) (hlen : os.length = L.length) (hnd : nodupB L = true) (hrows : rowsOk os = true)
    (hF1 : ∀ b, c.F b → F1 b) (hF1' : ∀ b, F1 b → b < w.heap.size ∧ ∀ o, o ∈ L → ¬ Blk c ob o b)
    (hvs : vs.size = as.length) (hva : ∀ j a, as[j]? = some a → V ⟨c.inf, F1⟩ w a (vs.getD j undef)) (hA : ACalls P f (ren.renL (rin ob0 L) as) os r) (hr : L.length ≤ r.2.length) (hfr : ∀ q, q < r.2.length - L.length → ob (newId k 0 + q) = none ∧ ob0 (newId k 0 + q) = none) (hbox : boxOk (verAt ob0 L) 0 r.2 = true)
    (hfl : (imm r.1 || anyImm r.2) = true → ∀ b, F1 b → c.F b) :
    Calls P f vs w fun e w' => ∃ v c', e = .returned v ∧ Mem B c' (fup ob (backO k ob0 L 0 r.2)) w' ∧ Ext c w c' w' ∧ V c' w' (ren (rout k ob0 L) r.1) v := by
  let cc : Cx := ⟨fun i => match L[i]? with | some o => (match c.inf o with | some i0 => some { i0 with ver := 0 } | none => none) | none => none, F1⟩
  have hcc : ∀ i o i0, L[i]? = some o → c.inf o = some i0 → cc.inf i = some { i0 with ver := 0 } := fun i o i0 h1 h2 => by show (match L[i]? with | some o => (match c.inf o with | some i0 => some { i0 with ver := 0 } | none => none) | none => none) = _; rw [h1]; simp only; rw [h2]
  have hcc' : ∀ i j, cc.inf i = some j → ∃ o i0, L[i]? = some o ∧ c.inf o = some i0 ∧ j = { i0 with ver := 0 } := fun i j h => by
    have h : (match L[i]? with | some o => (match c.inf o with | some i0 => some { i0 with ver := 0 } | none => none) | none => none) = some j := h
    split at h
    · rename_i o ho
      split at h
      · rename_i i0 hi0
        exact ⟨o, i0, ho, hi0, (Option.some.inj h).symm⟩
      · cases h
    · cases h
  have hmem : ∀ i o, L[i]? = some o → o ∈ L := fun i o h => List.mem_of_getElem? h
  have ren1 : Ren (rin ob0 L) ⟨c.inf, F1⟩ w cc w := by
    refine ⟨fun b h => h, fun o v o' v' hρ i0 hi0 hv => ?_, fun _ _ => rfl⟩
    unfold rin at hρ
    split at hρ
    · rename_i i hidx
      split at hρ
      · rename_i a ha
        split at hρ
        · rename_i hd hvv
          simp only [Option.some.injEq, Prod.mk.injEq] at hρ
          obtain ⟨rfl, rfl⟩ := hρ
          have hLi := idx_some L o i hidx
          obtain ⟨a', h1, h2, _⟩ := hL i o hLi
          rw [ha] at h2
          cases h2
          have hver := hm.ver h1 hd hi0
          have := beq_true hvv
          exact ⟨_, hcc i o i0 hLi hi0, Nat.le_refl _, fun _ => ⟨by omega, rfl, rfl, rfl, rfl, rfl, rfl⟩⟩
        · cases hρ
      · cases hρ
    · cases hρ
  have hblk : ∀ i b, Blk cc (obL os) i b → ∃ o, L[i]? = some o ∧ Blk c ob o b := fun i b ⟨x, j, h1, h2, h3, h4⟩ => by
    obtain ⟨o, i0, k1, k2, rfl⟩ := hcc' i j h3
    obtain ⟨a, m1, m2, m3⟩ := hL i o k1
    have hx : os[i]? = some x := h1
    rw [m3] at hx
    cases hx
    rw [ofB_ren] at h4
    exact ⟨o, k1, a, i0, m1, by rw [live_renO] at h2; exact h2, k2, h4⟩
  have mem1 : Mem ⟨w, fun b => ∃ o, Blk cc (obL os) o b, cc.F, cc.inf⟩ cc (obL os) w := by
    refine ⟨rfl, rfl, rfl, Nat.le_refl _, fun _ _ _ => rfl, fun i x hx => ?_, fun i j hi => ?_, ?_, fun b hb => (hF1' b hb).1, fun o x i b h1 h2 h3 h4 => .inl ⟨o, x, i, h1, h2, h3, h4⟩, fun b h => h, fun b h => .inl h⟩
    · have hx : os[i]? = some x := hx
      have hi : i < L.length := by rw [← hlen]; exact (List.getElem?_eq_some_iff.1 hx).1
      obtain ⟨a, m1, m2, m3⟩ := hL i _ (List.getElem?_eq_getElem hi)
      rw [m3] at hx
      cases hx
      by_cases hd : isDead a = true
      · cases a <;> simp [isDead] at hd <;> trivial
      · have hd : isDead a = false := by simpa using hd
        have hor := hm.obj _ a m1
        have hinf : ∃ i0, c.inf L[i] = some i0 := by
          cases a with
          | dead => simp [isDead] at hd
          | box cs => obtain ⟨i0, _, _, _, h1, _⟩ := hor; exact ⟨i0, h1⟩
          | row v t xs => obtain ⟨i0, h1, _⟩ := hor; exact ⟨i0, h1⟩
          | fro v t xs => obtain ⟨i0, h1, _⟩ := hor; exact ⟨i0, h1⟩
          | tree t xs => obtain ⟨i0, h1, _⟩ := hor; exact ⟨i0, h1⟩
          | mpo es => obtain ⟨i0, _, _, _, h1, _⟩ := hor; exact ⟨i0, h1⟩
          | fwd k => simp [isDead] at hd
        obtain ⟨i0, hi0⟩ := hinf
        have hlive : live a = true := by
          cases a with
          | dead => simp [isDead] at hd
          | box cs => rfl
          | row v t xs => rfl
          | fro v t xs => exact (rowsOk_get os hrows i 0 t xs m3).elim
          | tree t xs => rfl
          | mpo es => rfl
          | fwd k => simp [isDead] at hd
        have ext1 : Ext c w ⟨c.inf, F1⟩ w := ⟨hF1, fun o i h => ⟨i, h, Nat.le_refl _, fun _ => rfl⟩, fun _ _ => rfl, fun _ _ h => h⟩
        have hnF : ∀ b, ofB a i0 b → (F1 b ↔ c.F b) := fun b hb => ⟨fun h => absurd ⟨a, i0, m1, hlive, hi0, hb⟩ ((hF1' b h).2 _ (List.getElem_mem hi)), hF1 b⟩
        have hor1 : OR ⟨c.inf, F1⟩ w L[i] a := hor.ext ext1 rfl fun _ i1 b h1 h2 _ => ⟨rfl, by rw [hi0] at h1; cases h1; exact hnF b h2⟩
        exact hor1.ren ren1 hi0 (hcc i _ i0 (List.getElem?_eq_getElem hi) hi0) rfl rfl rfl rfl rfl rfl rfl rfl (fun _ => rfl) (fun _ _ _ => rfl) (fun _ b hb => Iff.rfl)
    · obtain ⟨o, i0, k1, k2, k3⟩ := hcc' i j hi
      obtain ⟨a, m1, m2, m3⟩ := hL i o k1
      exact ⟨_, m3⟩
    · intro i i' x x' j j' b h1 h2 h3 h4 h5 h6 h7 h8
      obtain ⟨o, k1, y, q, y1, y2, y3, y4⟩ := hblk i b ⟨x, j, h1, h3, h5, h7⟩
      obtain ⟨o', k1', y', q', z1, z2, z3, z4⟩ := hblk i' b ⟨x', j', h2, h4, h6, h8⟩
      have := hm.inj o o' y y' q q' b y1 z1 y2 z2 y3 z3 y4 z4
      subst this
      exact nodup_get L hnd i i' o k1 k1'
  refine (hA cc w vs (by rw [renL_len]; exact hvs) (fun j a ha => ?_) mem1).mono fun e w' => ?_
  · rw [renL_get] at ha
    obtain ⟨z, hz, rfl⟩ := Option.map_eq_some_iff.1 ha
    exact (hva j z hz).ren ren1
  rintro ⟨v, c', he, hv, hm', hpas⟩
  have hheap : ∀ b, F1 b → w'.heap[b]? = w.heap[b]? := fun b hb => hm'.frame b (hF1' b hb).1 fun ⟨i, hB⟩ => by
    obtain ⟨o, k1, k2⟩ := hblk i b hB
    exact (hF1' b hb).2 o (hmem i o k1) k2
  -- the marks of what stays, behind the call
  obtain ⟨F2, a1, a2, a3, a4, a5⟩ : ∃ F2 : Nat → Prop, (∀ b, c.F b → F2 b) ∧ (∀ b, F2 b → c'.F b) ∧ (∀ b, F2 b → c.F b ∨ (∃ i, Blk cc (obL os) i b) ∨ w.heap.size ≤ b) ∧ V ⟨c'.inf, F2⟩ w' r.1 v ∧ ∀ i x, r.2[i]? = some x → OR ⟨c'.inf, F2⟩ w' i x := by
    cases hflag : (imm r.1 || anyImm r.2) with
    | true =>
      refine ⟨c'.F, fun b h => hm'.F0 b (hF1 b h), fun b h => h, fun b h => ?_, hv, fun i x hx => hm'.obj i x hx⟩
      rcases hm'.Fn b h with h | h | h
      · exact .inl (hfl hflag b h)
      · exact .inr (.inl h)
      · exact .inr (.inr h)
    | false =>
      simp only [Bool.or_eq_false_iff] at hflag
      exact ⟨c.F, fun b h => h, fun b h => hm'.F0 b (hF1 b h), fun b h => .inl h, hv.noimm w' rfl hflag.1, fun i x hx => (hm'.obj i x hx).noimm rfl (fun b h => hm'.F0 b (hF1 b h)) (anyImm_get r.2 hflag.2 i x hx)⟩
  let n := r.2.length - L.length
  let c2 : Cx := ⟨fun o => match idx L o with
    | some i => (match c'.inf i with | some i' => some { i' with ver := verAt ob0 L i + i'.ver } | none => c.inf o)
    | none => if newId k 0 ≤ o ∧ o < newId k 0 + n then c'.inf (L.length + (o - newId k 0)) else c.inf o, F2⟩
  have hidx : ∀ i o, L[i]? = some o → idx L o = some i := fun i o h => by
    obtain ⟨j, hj⟩ := idx_of L o i h
    rw [nodup_get L hnd i j o h (idx_some L o j hj)]
    exact hj
  have hnot : ∀ q, q < n → idx L (newId k 0 + q) = none := fun q hq => by
    cases h : idx L (newId k 0 + q) with
    | none => rfl
    | some i =>
      obtain ⟨a, m1, _⟩ := hL i _ (idx_some L _ i h)
      rw [(hfr q hq).1] at m1
      cases m1
  have c2old : ∀ i o i', L[i]? = some o → c'.inf i = some i' → c2.inf o = some { i' with ver := verAt ob0 L i + i'.ver } := fun i o i' h1 h2 => by
    show (match idx L o with | some i => _ | none => _) = _
    rw [hidx i o h1]
    simp only
    rw [h2]
  have c2new : ∀ q i', q < n → c'.inf (L.length + q) = some i' → c2.inf (newId k 0 + q) = some i' := fun q i' h1 h2 => by
    show (match idx L (newId k 0 + q) with | some i => _ | none => _) = _
    rw [hnot q h1]
    simp only
    rw [if_pos ⟨by omega, by omega⟩, show newId k 0 + q - newId k 0 = q by omega]
    exact h2
  have c2else : ∀ o, idx L o = none → ¬ (newId k 0 ≤ o ∧ o < newId k 0 + n) → c2.inf o = c.inf o := fun o h1 h2 => by
    show (match idx L o with | some i => _ | none => _) = _
    rw [h1]
    simp only
    rw [if_neg h2]
  have verNew : ∀ i, L.length ≤ i → verAt ob0 L i = 0 := fun i h => by unfold verAt; rw [List.getElem?_eq_none h]
  -- what an object is called behind the call
  have c2sig : ∀ i i', i < r.2.length → c'.inf i = some i' → c2.inf (sig k L i) = some { i' with ver := verAt ob0 L i + i'.ver } := fun i i' h1 h2 => by
    by_cases hi : i < L.length
    · rw [sig_old (List.getElem?_eq_getElem hi)]
      exact c2old i _ i' (List.getElem?_eq_getElem hi) h2
    · rw [sig_new (by omega), verNew i (by omega)]
      have := c2new (i - L.length) i' (by omega) (by rw [show L.length + (i - L.length) = i by omega]; exact h2)
      simpa using this
  have siginj : ∀ i j, i < r.2.length → j < r.2.length → sig k L i = sig k L j → i = j := fun i j hi hj h => by
    by_cases h1 : i < L.length
    · by_cases h2 : j < L.length
      · rw [sig_old (List.getElem?_eq_getElem h1), sig_old (List.getElem?_eq_getElem h2)] at h
        exact nodup_get L hnd i j L[i] (List.getElem?_eq_getElem h1) (by rw [h]; exact List.getElem?_eq_getElem h2)
      · rw [sig_old (List.getElem?_eq_getElem h1), sig_new (by omega)] at h
        have e1 := hidx i _ (List.getElem?_eq_getElem h1)
        rw [h, hnot _ (by omega)] at e1
        cases e1
    · by_cases h2 : j < L.length
      · rw [sig_new (by omega), sig_old (List.getElem?_eq_getElem h2)] at h
        have e1 := hidx j _ (List.getElem?_eq_getElem h2)
        rw [← h, hnot _ (by omega)] at e1
        cases e1
      · rw [sig_new (by omega), sig_new (by omega)] at h
        omega
  have lt_of_c' : ∀ i i', c'.inf i = some i' → i < r.2.length := fun i i' h => by
    obtain ⟨x, hx⟩ := hm'.dom i i' h
    exact (List.getElem?_eq_some_iff.1 hx).1
  have ren2 : Ren (rout k ob0 L) ⟨c'.inf, F2⟩ w' c2 w' := by
    refine ⟨fun b h => h, fun i v o' v' hρ i0 hi0 hv => ?_, fun _ _ => rfl⟩
    simp only [rout, Option.some.injEq, Prod.mk.injEq] at hρ
    obtain ⟨rfl, rfl⟩ := hρ
    exact ⟨_, c2sig i i0 (lt_of_c' i i0 hi0) hi0, Nat.add_le_add_left hv _, fun h => ⟨by have h' : verAt ob0 L i + v = verAt ob0 L i + i0.ver := h; omega, rfl, rfl, rfl, rfl, rfl, rfl⟩⟩
  have ob2sig : ∀ i a, r.2[i]? = some a → fup ob (backO k ob0 L 0 r.2) (sig k L i) = some (renO (rout k ob0 L) (verAt ob0 L i + verO a) a) := fun i a h => by
    have := backO_at (ob := ob0) k L r.2.length siginj r.2 0 ob i a (by omega) h
    simpa using this
  have ob2not : ∀ o, (∀ i, i < r.2.length → o ≠ sig k L i) → fup ob (backO k ob0 L 0 r.2) o = ob o := fun o h => fup_not _ _ _ fun hk => by
    obtain ⟨j, h1, h2, h3⟩ := backO_keys k L r.2 0 o hk
    exact h j (by omega) h3
  have notidx : ∀ o, (∀ i, i < r.2.length → o ≠ sig k L i) → idx L o = none ∧ ¬ (newId k 0 ≤ o ∧ o < newId k 0 + n) := fun o h => by
    refine ⟨?_, fun ⟨h1, h2⟩ => ?_⟩
    · cases e : idx L o with
      | none => rfl
      | some i =>
        have hLi := idx_some L o i e
        have hi : i < L.length := (List.getElem?_eq_some_iff.1 hLi).1
        exact absurd (sig_old hLi).symm (h i (by omega))
    · refine h (L.length + (o - newId k 0)) (by omega) ?_
      rw [sig_new (by omega)]
      omega
  -- the block of an object that is not handed on
  have far : ∀ o x i b, (∀ i, i < r.2.length → o ≠ sig k L i) → ob o = some x → isDead x = false → c.inf o = some i → ofB x i b → ¬ ∃ i, Blk cc (obL os) i b := fun o x i b hno hx hd hi hb ⟨j, hB⟩ => by
    obtain ⟨o', k1, hB'⟩ := hblk j b hB
    by_cases hl : live x = true
    · obtain ⟨y, q, y1, y2, y3, y4⟩ := hB'
      have := hm.inj o o' x y i q b hx y1 hl y2 hi y3 hb y4
      subst this
      have hj : j < L.length := (List.getElem?_eq_some_iff.1 k1).1
      exact hno j (by omega) (sig_old k1).symm
    · cases x with
      | dead => simp [isDead] at hd
      | box cs => simp [live] at hl
      | row v t xs => simp [live] at hl
      | tree t xs => simp [live] at hl
      | mpo es => simp [live] at hl
      | fwd k => simp [isDead] at hd
      | fro v t xs => exact (hm.blk hB').2 (hm.fro hx hi hb)
  have lt_blk : ∀ o x i b, ob o = some x → isDead x = false → c.inf o = some i → ofB x i b → b < w.heap.size := fun o x i b hx hd hi hb => by
    by_cases hl : live x = true
    · exact (hm.blk ⟨x, i, hx, hl, hi, hb⟩).1
    · cases x with
      | dead => simp [isDead] at hd
      | box cs => simp [live] at hl
      | row v t xs => simp [live] at hl
      | tree t xs => simp [live] at hl
      | mpo es => simp [live] at hl
      | fwd k => simp [isDead] at hd
      | fro v t xs => exact hm.F b (hm.fro hx hi hb)
  have hdead : ∀ i a, os[i]? = some (renO (rin ob0 L) 0 a) → isDead a = false := fun i a m3 => by
    cases a with
    | dead =>
      exfalso
      have : ∀ (l : List AO), rowsOk l = true → ∀ (j : Nat), l[j]? = some .dead → False := by
        intro l
        induction l with
        | nil => intro _ j h; simp at h
        | cons q l ih =>
          intro hr j h
          cases j with
          | zero => simp at h; subst h; simp [rowsOk] at hr
          | succ j => exact ih (by cases q <;> simp [rowsOk] at hr ⊢ <;> exact hr) j (by simpa using h)
      exact this os hrows i m3
    | fwd k =>
      exfalso
      have : ∀ (l : List AO), rowsOk l = true → ∀ (j : Nat), l[j]? = some .dead → False := by
        intro l
        induction l with
        | nil => intro _ j h; simp at h
        | cons q l ih =>
          intro hr j h
          cases j with
          | zero => simp at h; subst h; simp [rowsOk] at hr
          | succ j => exact ih (by cases q <;> simp [rowsOk] at hr ⊢ <;> exact hr) j (by simpa using h)
      exact this os hrows i m3
    | _ => rfl
  have ext2 : Ext c w c2 w' := by
    refine ⟨a1, fun o i0 hi0 => ?_, fun b hb => hheap b (hF1 b hb), fun o ho h0 => ?_⟩
    · cases e : idx L o with
      | some i =>
        have hLi := idx_some L o i e
        obtain ⟨a, m1, m2, m3⟩ := hL i o hLi
        have hver := hm.ver m1 (hdead i a m3) hi0
        have hva : verAt ob0 L i = i0.ver := by unfold verAt; rw [hLi]; simp only; rw [m2]; exact hver
        cases e1 : c'.inf i with
        | none =>
          refine ⟨i0, ?_, Nat.le_refl _, fun _ => rfl⟩
          show (match idx L o with | some i => _ | none => _) = _
          rw [e]
          simp only
          rw [e1]
          exact hi0
        | some i' =>
          refine ⟨_, c2old i o i' hLi e1, by show i0.ver ≤ verAt ob0 L i + i'.ver; omega, fun h => ?_⟩
          have h' : verAt ob0 L i + i'.ver = i0.ver := h
          have h0 : i'.ver = 0 := by omega
          have := hpas i _ i' (hcc i o i0 hLi hi0) e1 h0
          subst this
          show ({ i0 with ver := verAt ob0 L i + 0 } : Inf) = i0
          rw [hva]
          rfl
      | none =>
        have hnn : ¬ (newId k 0 ≤ o ∧ o < newId k 0 + n) := fun ⟨h1, h2⟩ => by
          have := (hfr (o - newId k 0) (by omega)).1
          rw [show newId k 0 + (o - newId k 0) = o by omega] at this
          rw [hm.inf_none this] at hi0
          cases hi0
        exact ⟨i0, (c2else o e hnn).trans hi0, Nat.le_refl _, fun _ => rfl⟩
    · cases e : idx L o with
      | some i =>
        obtain ⟨a, m1, m2, m3⟩ := hL i o (idx_some L o i e)
        have hor := hm.obj o a m1
        have hd := hdead i a m3
        exfalso
        cases a with
        | dead => simp [isDead] at hd
        | box cs => obtain ⟨i0, _, _, _, h1, _⟩ := hor; rw [h0] at h1; cases h1
        | row v t xs => obtain ⟨i0, h1, _⟩ := hor; rw [h0] at h1; cases h1
        | fro v t xs => obtain ⟨i0, h1, _⟩ := hor; rw [h0] at h1; cases h1
        | tree t xs => obtain ⟨i0, h1, _⟩ := hor; rw [h0] at h1; cases h1
        | mpo es => obtain ⟨i0, _, _, _, h1, _⟩ := hor; rw [h0] at h1; cases h1
        | fwd k => simp [isDead] at hd
      | none => exact (c2else o e fun ⟨h1, _⟩ => by unfold newId at h1; omega).trans h0
  have infsig : ∀ i a j, r.2[i]? = some a → isDead a = false → c2.inf (sig k L i) = some j → ∃ i', c'.inf i = some i' ∧ j = { i' with ver := verAt ob0 L i + i'.ver } := fun i a j ha hd hj => by
    have hor := a5 i a ha
    have hinf : ∃ i0, c'.inf i = some i0 := by
      cases a with
      | dead => simp [isDead] at hd
      | box cs => obtain ⟨i0, _, _, _, h1, _⟩ := hor; exact ⟨i0, h1⟩
      | row v t xs => obtain ⟨i0, h1, _⟩ := hor; exact ⟨i0, h1⟩
      | fro v t xs => obtain ⟨i0, h1, _⟩ := hor; exact ⟨i0, h1⟩
      | tree t xs => obtain ⟨i0, h1, _⟩ := hor; exact ⟨i0, h1⟩
      | mpo es => obtain ⟨i0, _, _, _, h1, _⟩ := hor; exact ⟨i0, h1⟩
      | fwd k => simp [isDead] at hd
    obtain ⟨i', hi'⟩ := hinf
    rw [c2sig i i' ((List.getElem?_eq_some_iff.1 ha).1) hi'] at hj
    exact ⟨i', hi', (Option.some.inj hj).symm⟩
  have live_dead : ∀ x : AO, live x = true → isDead x = false := fun x h => by cases x <;> first | rfl | simp [live] at h
  have split2 : ∀ o, (∃ i a, r.2[i]? = some a ∧ o = sig k L i) ∨ (∀ i, i < r.2.length → o ≠ sig k L i) := fun o => by
    by_cases h : ∃ i, i < r.2.length ∧ o = sig k L i
    · obtain ⟨i, hi, e⟩ := h
      exact .inl ⟨i, r.2[i], List.getElem?_eq_getElem hi, e⟩
    · exact .inr fun i hi e => h ⟨i, hi, e⟩
  refine ⟨v, c2, he, ⟨hm'.os.trans hm.os, hm'.tape.trans hm.tape, hm'.output.trans hm.output, Nat.le_trans hm.size hm'.size, fun b hb hM => ?_, fun o x hx => ?_, fun o i hi => ?_, ?_, fun b hb => hm'.F b (a2 b hb), ?_, fun b hb => a1 b (hm.F0 b hb), fun b hb => ?_⟩, ext2, a4.ren ren2⟩
  · refine (hm'.frame b (Nat.lt_of_lt_of_le hb hm.size) fun ⟨j, hB⟩ => ?_).trans (hm.frame b hb hM)
    obtain ⟨o', k1, y, q, y1, y2, y3, y4⟩ := hblk j b hB
    rcases hm.own o' y q b y1 y2 y3 y4 with h | h
    · exact hM h
    · omega
  · rcases split2 o with ⟨i, a, ha, rfl⟩ | hno
    · rw [ob2sig i a ha] at hx
      cases hx
      by_cases hd : isDead a = true
      · cases a <;> simp [isDead] at hd <;> trivial
      · have hd : isDead a = false := by simpa using hd
        have hor := a5 i a ha
        have hinf : ∃ i0, c'.inf i = some i0 := by
          cases a with
          | dead => simp [isDead] at hd
          | box cs => obtain ⟨i0, _, _, _, h1, _⟩ := hor; exact ⟨i0, h1⟩
          | row v t xs => obtain ⟨i0, h1, _⟩ := hor; exact ⟨i0, h1⟩
          | fro v t xs => obtain ⟨i0, h1, _⟩ := hor; exact ⟨i0, h1⟩
          | tree t xs => obtain ⟨i0, h1, _⟩ := hor; exact ⟨i0, h1⟩
          | mpo es => obtain ⟨i0, _, _, _, h1, _⟩ := hor; exact ⟨i0, h1⟩
          | fwd k => simp [isDead] at hd
        obtain ⟨i', hi'⟩ := hinf
        have hver : verO a = i'.ver := hm'.ver (o := i) ha hd hi'
        refine hor.ren ren2 hi' (c2sig i i' ((List.getElem?_eq_some_iff.1 ha).1) hi') (by show verAt ob0 L i + i'.ver = _; rw [hver]) rfl rfl rfl rfl rfl rfl rfl (fun hbx => ?_) (fun _ _ _ => rfl) (fun _ _ _ => Iff.rfl)
        have := boxOk_get _ r.2 0 hbox i a hbx ha
        simp only [Nat.zero_add] at this
        rw [this]
        cases a <;> simp only [isBox, Bool.false_eq_true] at hbx <;> rfl
    · rw [ob2not o hno] at hx
      obtain ⟨n1, n2⟩ := notidx o hno
      refine (hm.obj o x hx).ext ext2 (c2else o n1 n2) fun hd i b hi hb _ => ?_
      have hd' : isDead x = false := hd
      have hlt := lt_blk o x i b hx hd' hi hb
      have hfar := far o x i b hno hx hd' hi hb
      refine ⟨hm'.frame b hlt hfar, fun h => ?_, a1 b⟩
      rcases a3 b h with h | h | h
      · exact h
      · exact absurd h hfar
      · omega
  · rcases split2 o with ⟨j, a, ha, rfl⟩ | hno
    · exact ⟨_, ob2sig j a ha⟩
    · obtain ⟨n1, n2⟩ := notidx o hno
      rw [c2else o n1 n2] at hi
      obtain ⟨x, hx⟩ := hm.dom o i hi
      exact ⟨x, by rw [ob2not o hno]; exact hx⟩
  · intro o o' x y i j b hx hy hlx hly hi hj hib hjb
    have mixed : ∀ (q : Nat) (a : AO) (i : Inf) (o' : Nat) (y : AO) (j : Inf), r.2[q]? = some a → live a = true → c2.inf (sig k L q) = some i → ofB a i b → (∀ i, i < r.2.length → o' ≠ sig k L i) → ob o' = some y → live y = true → c.inf o' = some j → ofB y j b → False := fun q a i o' y j ha hla hi hib hno hy hly hj hjb => by
      obtain ⟨i', hi', rfl⟩ := infsig q a i ha (live_dead a hla) hi
      have hlt := lt_blk o' y j b hy (live_dead y hly) hj hjb
      rw [ofB_ver] at hib
      rcases hm'.own q a i' b ha hla hi' hib with h | h
      · exact far o' y j b hno hy (live_dead y hly) hj hjb h
      · have h : w.heap.size ≤ b := h
        omega
    rcases split2 o with ⟨q, a, ha, rfl⟩ | hno
    · rw [ob2sig q a ha] at hx
      cases hx
      rw [live_renO] at hlx
      rw [ofB_rn] at hib
      rcases split2 o' with ⟨q', a', ha', rfl⟩ | hno'
      · rw [ob2sig q' a' ha'] at hy
        cases hy
        rw [live_renO] at hly
        rw [ofB_rn] at hjb
        obtain ⟨i', hi', rfl⟩ := infsig q a i ha (live_dead a hlx) hi
        obtain ⟨j', hj', rfl⟩ := infsig q' a' j ha' (live_dead a' hly) hj
        rw [ofB_ver] at hib hjb
        rw [hm'.inj q q' a a' i' j' b ha ha' hlx hly hi' hj' hib hjb]
      · obtain ⟨n1, n2⟩ := notidx o' hno'
        rw [ob2not o' hno'] at hy
        rw [c2else o' n1 n2] at hj
        exact (mixed q a i o' y j ha hlx hi hib hno' hy hly hj hjb).elim
    · obtain ⟨n1, n2⟩ := notidx o hno
      rw [ob2not o hno] at hx
      rw [c2else o n1 n2] at hi
      rcases split2 o' with ⟨q', a', ha', rfl⟩ | hno'
      · rw [ob2sig q' a' ha'] at hy
        cases hy
        rw [live_renO] at hly
        rw [ofB_rn] at hjb
        exact (mixed q' a' j o x i ha' hly hj hjb hno hx hlx hi hib).elim
      · obtain ⟨n1', n2'⟩ := notidx o' hno'
        rw [ob2not o' hno'] at hy
        rw [c2else o' n1' n2'] at hj
        exact hm.inj o o' x y i j b hx hy hlx hly hi hj hib hjb
  · intro o x i b hx hl hi hb
    rcases split2 o with ⟨q, a, ha, rfl⟩ | hno
    · rw [ob2sig q a ha] at hx
      cases hx
      rw [live_renO] at hl
      obtain ⟨i', hi', rfl⟩ := infsig q a i ha (live_dead a hl) hi
      rw [ofB_ren] at hb
      rcases hm'.own q a i' b ha hl hi' hb with ⟨j, hB⟩ | h
      · obtain ⟨o', k1, y, z, y1, y2, y3, y4⟩ := hblk j b hB
        exact hm.own o' y z b y1 y2 y3 y4
      · exact .inr (Nat.le_trans hm.size h)
    · obtain ⟨n1, n2⟩ := notidx o hno
      rw [ob2not o hno] at hx
      rw [c2else o n1 n2] at hi
      exact hm.own o x i b hx hl hi hb
  · rcases a3 b hb with h | ⟨j, hB⟩ | h
    · exact hm.Fn b h
    · obtain ⟨o', k1, y, q, y1, y2, y3, y4⟩ := hblk j b hB
      exact .inr (hm.own o' y q b y1 y2 y3 y4)
    · exact .inr (.inr (Nat.le_trans hm.size h))
end
end Go.Proofs.YtafjengmkiepbaaGreat.Am
end
section
/- What the machine of values does at an operation, the program does: the call with what is lent. -/
namespace Go.Proofs.YtafjengmkiepbaaGreat.Am
open Go
set_option linter.constructorNameAsVariable false
set_option linter.unusedVariables false
set_option linter.unusedSimpArgs false
section
variable {P : Program} {B : Base} {c : Cx} {ob : Nat → Option AO} {w : World} {s : Sem Next} {d : Delta}

theorem froz_keys : ∀ (l : List Nat) (o : Nat), o ∈ (froz ob l).map (·.1) → o ∈ l
  | [], o, h => by simp [froz] at h
  | a :: r, o, h => by
    simp only [froz, List.map_append, List.mem_append] at h
    rcases h with h | h
    · split at h
      · simp at h; subst h; exact List.mem_cons_self
      · simp at h
    · exact List.mem_cons_of_mem _ (froz_keys r o h)
/-- what is lent is frozen -/
theorem froz_ok : ∀ (l : List Nat) (c : Cx) (ob1 : Nat → Option AO), Mem B c ob1 w → Frz ob ob1 → ∃ c', Mem B c' (fup ob1 (froz ob l)) w ∧ Frz ob (fup ob1 (froz ob l)) ∧ Ext c w c' w ∧ c'.inf = c.inf ∧ ∀ b, Lent c ob l b → (∀ o, o ∈ l → ∃ x, ob o = some x ∧ isBox x = false) → c'.F b
  | [], c, ob1, hm, hf => ⟨c, hm, hf, .refl c w, rfl, fun b ⟨o, x, i, h, _⟩ => by cases h⟩
  | a :: r, c, ob1, hm, hf => by
    have rest : ∀ (c1 : Cx) (ob2 : Nat → Option AO) (fs : List (Nat × AO)), froz ob (a :: r) = fs ++ froz ob r → ob2 = fup ob1 fs → Mem B c1 ob2 w → Frz ob ob2 → Ext c w c1 w → c1.inf = c.inf → (∀ b, (∃ x i, ob a = some x ∧ isDead x = false ∧ c.inf a = some i ∧ ofB x i b) → (∀ x, ob a = some x → isBox x = false) → c1.F b) →
        ∃ c', Mem B c' (fup ob1 (froz ob (a :: r))) w ∧ Frz ob (fup ob1 (froz ob (a :: r))) ∧ Ext c w c' w ∧ c'.inf = c.inf ∧ ∀ b, Lent c ob (a :: r) b → (∀ o, o ∈ (a :: r) → ∃ x, ob o = some x ∧ isBox x = false) → c'.F b := fun c1 ob2 fs e1 e2 h1 h2 h3 h4 h5 => by
      obtain ⟨c', k1, k2, k3, k4, k5⟩ := froz_ok r c1 ob2 h1 h2
      refine ⟨c', by rw [e1, fup_append, ← e2]; exact k1, by rw [e1, fup_append, ← e2]; exact k2, h3.trans k3, k4.trans h4, fun b hb hall => ?_⟩
      obtain ⟨o, x, i, m1, m2, m3, m4, m5⟩ := hb
      rcases List.mem_cons.1 m1 with m | m
      · subst m
        refine k3.F b (h5 b ⟨x, i, m2, m3, m4, m5⟩ fun y hy => ?_)
        obtain ⟨z, hz, hzz⟩ := hall o List.mem_cons_self
        rw [hy] at hz
        cases hz
        exact hzz
      · exact k5 b ⟨o, x, i, m, m2, m3, by rw [h4]; exact m4, m5⟩ fun o ho => hall o (List.mem_cons_of_mem _ ho)
    cases hq : ob a with
    | none => exact rest c ob1 [] (by simp only [froz]; rw [hq]) rfl hm hf (.refl c w) rfl fun b ⟨x, i, h, _⟩ => by rw [hq] at h; cases h
    | some x =>
      cases x with
      | dead => exact rest c ob1 [] (by simp only [froz]; rw [hq]) rfl hm hf (.refl c w) rfl fun b ⟨x, i, h, h2, _⟩ => by rw [hq] at h; cases h; simp [isDead] at h2
      | fwd k => exact rest c ob1 [] (by simp only [froz]; rw [hq]) rfl hm hf (.refl c w) rfl fun b ⟨x, i, h, h2, _⟩ => by rw [hq] at h; cases h; simp [isDead] at h2
      | box cs => exact rest c ob1 [] (by simp only [froz]; rw [hq]) rfl hm hf (.refl c w) rfl fun b _ h => by have := h (.box cs) hq; simp [isBox] at this
      | tree t xs => exact rest c ob1 [] (by simp only [froz]; rw [hq]) rfl hm hf (.refl c w) rfl fun b _ h => by have := h (.tree t xs) hq; simp [isBox] at this
      | mpo es => exact rest c ob1 [] (by simp only [froz]; rw [hq]) rfl hm hf (.refl c w) rfl fun b _ h => by have := h (.mpo es) hq; simp [isBox] at this
      | fro v t xs =>
        refine rest c ob1 [] (by simp only [froz]; rw [hq]) rfl hm hf (.refl c w) rfl fun b ⟨x, i, h1, h2, h3, h4⟩ _ => ?_
        have h5 : ob1 a = some (.fro v t xs) := by
          rcases hf a with h | ⟨v', t', xs', h, _⟩
          · rw [h, hq]
          · rw [hq] at h; cases h
        rw [hq] at h1; cases h1
        exact hm.fro h5 h3 h4
      | row v t xs =>
        have fz : froz ob (a :: r) = [(a, .fro v t xs)] ++ froz ob r := by simp only [froz]; rw [hq]
        rcases hf a with h | ⟨v', t', xs', h, h'⟩
        · rw [hq] at h
          obtain ⟨k1, k2⟩ := hm.freeze h
          refine rest _ _ [(a, .fro v t xs)] fz rfl k1 (fun q => ?_) k2 rfl fun b ⟨x, i, h1, h2, h3, h4⟩ _ => .inr ⟨_, i, h, rfl, h3, by rw [hq] at h1; cases h1; exact h4⟩
          rw [fup_one]
          by_cases hqa : q = a
          · subst hqa
            exact .inr ⟨v, t, xs, hq, by simp⟩
          · simpa [hqa] using hf q
        · rw [hq] at h
          cases h
          have he : fup ob1 [(a, .fro v t xs)] = ob1 := by
            rw [fup_one]
            funext q
            split
            · rename_i hqa; rw [hqa, h']
            · rfl
          exact rest c ob1 [(a, .fro v t xs)] fz he.symm hm hf (.refl c w) rfl fun b ⟨x, i, h1, h2, h3, h4⟩ _ => hm.fro h' h3 (by rw [hq] at h1; cases h1; exact h4)

theorem rowsL_ok : ∀ (l : List Nat), rowsL ob l = true → ∀ o, o ∈ l → ∃ x, ob o = some x ∧ isBox x = false
  | [], _, o, ho => by cases ho
  | q :: r, h, o, ho => by
    simp only [rowsL, Bool.and_eq_true] at h
    rcases List.mem_cons.1 ho with e | ho
    · subst e
      have h1 := h.1
      cases hx : ob o with
      | none => rw [hx] at h1; cases h1
      | some x =>
        rw [hx] at h1
        refine ⟨x, rfl, ?_⟩
        cases x <;> simp [isRowO] at h1 <;> rfl
    · exact rowsL_ok r h.2 o ho

theorem callA_ok (hm : Mem B c ob w) {T : Table} (hT : TS P T) {M : FuncId → List Bool} {k : Nat} {f : FuncId} {as : List AV} {vs : Array Value} (hvs : vs.size = as.length) (hva : ∀ j a, as[j]? = some a → V c w a (vs.getD j undef)) (h : run T (callA M k ob f as) = some d) :
    okFn P f ∧ Calls P f vs w fun e w' => ∃ v c', e = .returned v ∧ Mem B c' (fup ob d.ow) w' ∧ Ext c w c' w' ∧ V c' w' d.v v := by
  unfold callA at h
  obtain ⟨⟨as', lent⟩, hp, h1⟩ := run_opt h
  clear h
  obtain ⟨os, hos, h2⟩ := run_opt h1
  clear h1
  simp only at hos h2
  generalize hLdef : reach ob 100 (refs.refsL as') [] = L at hos h2
  split at h2
  case h_1 => exact (run_fail h2).elim
  rename_i hck
  rw [Bool.and_eq_true, Bool.and_eq_true] at hck
  obtain ⟨⟨hnd, hdj⟩, hrows⟩ := hck
  simp only [run] at h2
  split at h2
  case h_2 => cases h2
  rename_i p hTp
  split at h2
  case h_2 => cases h2
  rename_i t hpt
  obtain ⟨hfn, hA⟩ := hT f _ os p t hTp hpt
  refine ⟨hfn, ?_⟩
  split at h2
  case h_1 => exact (run_fail h2).elim
  rename_i hck2
  rw [Bool.and_eq_true, Bool.and_eq_true] at hck2
  obtain ⟨⟨hle, hfr⟩, hbox⟩ := hck2
  have hle := ble_true hle
  obtain ⟨hlen, hget⟩ := obsOf_get _ L os hos
  have hdj' := disj_mem lent L hdj
  have hfresh := freshN_get (ob := ob) (newId k 0) _ hfr
  rcases Bool.eq_false_or_eq_true (imm (p.enc t).1 || anyImm (p.enc t).2) with hflag | hflag
  · rw [hflag] at h2
    simp only at h2
    split at h2
    case h_2 => exact (run_fail h2).elim
    rename_i hrl
    have hd := run_ret h2
    subst hd
    obtain ⟨cf, m1, m2, m3, m4, m5⟩ := froz_ok lent c ob hm (.refl ob)
    have hlentF : ∀ b, Lent c ob lent b → cf.F b := fun b hb => m5 b hb (rowsL_ok lent hrl)
    obtain ⟨q1, q2⟩ := passes_ok hm (c' := cf) m4 m3.F as (M f) as' lent hp hlentF
    have hne : ∀ o, o ∈ L → fup ob (froz ob lent) o = ob o := fun o ho => fup_not _ _ _ fun hk => hdj' o (froz_keys lent o hk) ho
    have core := call_core (P := P) m1 (ob0 := ob) (k := k) (L := L) (os := os) (f := f) (as := as') (vs := vs) (r := p.enc t) (F1 := cf.F)
      (fun i o hi => by
        obtain ⟨a, a1, a2⟩ := hget i o hi
        exact ⟨a, by rw [hne o (List.mem_of_getElem? hi)]; exact a1, a1, a2⟩) hlen hnd hrows (fun b h => h) (fun b hb => ⟨m1.F b hb, fun o ho hB => (m1.blk hB).2 hb⟩) (by rw [hvs, q1]) (q2 _ hva) hA hle (fun q hq => by
        have := hfresh q hq
        refine ⟨?_, this⟩
        rcases m2 (newId k 0 + q) with h | ⟨v, t, xs, h, _⟩
        · rw [h, this]
        · rw [this] at h; cases h) hbox (fun _ b h => h)
    refine core.mono fun e w' ⟨v, c', he, k1, k2, k3⟩ => ⟨v, c', he, ?_, m3.trans k2, k3⟩
    rw [fup_append, ← fup_comm]
    · exact k1
    · intro o h1 h2
      have h1 := froz_keys lent o h1
      obtain ⟨j, _, hj, rfl⟩ := backO_keys k L (p.enc t).2 0 o h2
      by_cases hjl : j < L.length
      · rw [sig_old (List.getElem?_eq_getElem hjl)] at h1
        exact hdj' _ h1 (List.getElem_mem hjl)
      · rw [sig_new (by omega)] at h1
        obtain ⟨x, hx, _⟩ := rowsL_ok lent hrl _ h1
        rw [hfresh _ (by omega)] at hx
        cases hx
  · rw [hflag] at h2
    simp only at h2
    have hd := run_ret h2
    subst hd
    have hF : ∀ b, c.F b → c.F b ∨ Lent c ob lent b := fun b h => .inl h
    obtain ⟨q1, q2⟩ := passes_ok hm (c' := ⟨c.inf, fun b => c.F b ∨ Lent c ob lent b⟩) rfl hF as (M f) as' lent hp (fun b h => .inr h)
    refine call_core (P := P) hm (ob0 := ob) (k := k) (L := L) (os := os) (f := f) (as := as') (vs := vs) (r := p.enc t) (F1 := fun b => c.F b ∨ Lent c ob lent b)
      (fun i o hi => by
        obtain ⟨a, a1, a2⟩ := hget i o hi
        exact ⟨a, a1, a1, a2⟩) hlen hnd hrows hF (fun b hb => ?_) (by rw [hvs, q1]) (q2 _ hva) hA hle (fun q hq => ⟨hfresh q hq, hfresh q hq⟩) hbox (fun hfl => by rw [hflag] at hfl; cases hfl)
    rcases hb with hb | ⟨o, x, i, k1, k2, k3, k4, k5⟩
    · exact ⟨hm.F b hb, fun o ho hB => (hm.blk hB).2 hb⟩
    · by_cases hl : live x = true
      · have hB : Blk c ob o b := ⟨x, i, k2, hl, k4, k5⟩
        refine ⟨(hm.blk hB).1, fun o' ho' ⟨y, j, y1, y2, y3, y4⟩ => ?_⟩
        have := hm.inj o o' x y i j b k2 y1 hl y2 k4 y3 k5 y4
        subst this
        exact hdj' o k1 ho'
      · have hFb : c.F b := by
          cases x with
          | dead => simp [isDead] at k3
          | box cs => simp [live] at hl
          | row v t xs => simp [live] at hl
          | tree t xs => simp [live] at hl
          | mpo es => simp [live] at hl
          | fwd k => simp [isDead] at k3
          | fro v t xs => exact hm.fro k2 k4 k5
        exact ⟨hm.F b hFb, fun o ho hB => (hm.blk hB).2 hFb⟩
end
end Go.Proofs.YtafjengmkiepbaaGreat.Am
end
section
/- What the machine of values does at a call that is handed a row inside a row of one's own, the program does. -/
namespace Go.Proofs.YtafjengmkiepbaaGreat.Am
open Go
set_option linter.constructorNameAsVariable false
set_option linter.unusedVariables false
set_option linter.unusedSimpArgs false
section
variable {P : Program} {B : Base} {c : Cx} {ob : Nat → Option AO} {w : World} {s : Sem Next} {d : Delta}

theorem plainL_get : ∀ (l : List AV), plainL l = true → ∀ (j : Nat) (a : AV), l[j]? = some a → plainV a = true
  | [], _, j, a, h => by simp at h
  | b :: r, hl, 0, a, h => by
    simp only [plainL, Bool.and_eq_true] at hl
    simp at h
    subst h
    exact hl.1
  | b :: r, hl, j + 1, a, h => by
    simp only [plainL, Bool.and_eq_true] at hl
    exact plainL_get r hl.2 j a (by simpa using h)
theorem Nest.mv1 {w w' : World} {S : Nat → Prop} {u : Ty} {l : List u.D} {v : Value} (h : Nest w S u l v) (hh : ∀ b, nb v = some b → S b → b < w.heap.size → w'.heap[b]? = w.heap[b]?) : Nest w' S u l v := by
  obtain ⟨A, cp, h1, h2, h3, h4⟩ := h
  refine ⟨A, cp, h1, h2, h3, fun h0 => ?_⟩
  obtain ⟨b, off, arr, e, k1, k2, k3, k4, k5⟩ := h4 h0
  refine ⟨b, off, arr, e, k1, k2, (hh b ?_ k2 (lt_of_some k3)).trans k3, k4, cells_mv k5⟩
  subst k1 h1
  obtain ⟨k, rfl⟩ : ∃ k, cp = k + 1 := ⟨cp - 1, by omega⟩
  rfl
theorem callN_ok (hm : Mem B c ob w) {T : Table} (hT : TS P T) {f : FuncId} {o j q : Nat} {rest : List AV} {vs : Array Value} (hvs : vs.size = rest.length + 1) (hva : ∀ jj a, (AV.nst o j q :: rest)[jj]? = some a → V c w a (vs.getD jj undef)) (h : run T (callN ob f o j q rest) = some d) :
    okFn P f ∧ Calls P f vs w fun e w' => ∃ v c', e = .returned v ∧ Mem B c' (fup ob d.ow) w' ∧ Ext c w c' w' ∧ V c' w' d.v v := by
  unfold callN at h
  split at h
  case h_2 => exact (run_fail h).elim
  rename_i t xs hpl ho
  simp only [run] at h
  split at h
  case h_2 => cases h
  rename_i x hx
  split at h
  case h_2 => exact (run_fail h).elim
  rename_i u l hy
  split at h
  case h_2 => exact (run_fail h).elim
  rename_i hiu
  simp only [run] at h
  split at h
  case h_2 => cases h
  rename_i p hTp
  split at h
  case h_2 => cases h
  rename_i tt hpt
  obtain ⟨hfn, hA⟩ := hT f _ _ p tt hTp hpt
  refine ⟨hfn, ?_⟩
  generalize p.enc tt = r at h hA
  obtain ⟨rv, ros⟩ := r
  simp only at h
  split at h
  case h_2 => exact (run_fail h).elim
  rename_i u' l' hprv
  split at h
  case h_2 => exact (run_fail h).elim
  rename_i hiu'
  obtain ⟨z, hz, h⟩ := run_opt h
  have hd := run_ret h
  subst hd
  -- the row inside
  obtain ⟨i, h1, h2, h3, h4, h5, h6, h7⟩ := hm.obj o _ ho
  have hjx : j < xs.length := (List.getElem?_eq_some_iff.1 hx).1
  rcases h7 with ⟨_, h7⟩ | ⟨ox, arr, el, k1, k2, k3, k4, k5, k6⟩
  · omega
  obtain ⟨n1, n2, _⟩ := k5 j x hx q _ hy
  obtain ⟨n3, n4⟩ := n2 u l rfl
  have hql : q < t.sz := by rw [← view_len t x]; exact (List.getElem?_eq_some_iff.1 hy).1
  obtain ⟨i', e1, e2⟩ := (hva 0 _ rfl).inv_nst
  rw [h1] at e1; cases e1
  have hv0 : vs.getD 0 undef = i.N j q := (e2 h2).2
  rw [n3] at n4
  obtain ⟨A, cp, m1, m2, m3, m4⟩ := n4
  have hbS : ∀ b, nb (i.N j q) = some b → i.S b := fun b hb => by
    rw [m1] at hb
    cases cp with
    | zero => cases A <;> simp [nb] at hb
    | succ k =>
      obtain ⟨b', off, arr', e', q1, q2, _⟩ := m4 (by omega)
      rw [q1] at hb
      have : b' = b := by simpa [nb] using hb
      exact this ▸ q2
  -- as an object
  obtain ⟨i0, z1, z2, z3, z4, z5, z6, z7, z8⟩ : ∃ i0 : Inf, i0.ver = 0 ∧ i0.len = l.length ∧ i0.sz = u.sz ∧ l.length ≤ i0.cap ∧ Hd i0 0 l.length (i.N j q) ∧ (∀ b, i0.blk = some b → nb (i.N j q) = some b ∧ i.S b) ∧ (∀ c', (∀ b, i0.blk = some b → ¬ c'.F b) → RowB c' w i0 u l False) ∧ i0.cap = cp ∧ (0 < cp → ∃ b, A = some ⟨b, i0.off, none⟩ ∧ i0.blk = some b) := by
    by_cases h0 : 0 < cp
    · obtain ⟨b, off, arr', e', q1, q2, q3, q4, q5⟩ := m4 h0
      refine ⟨⟨some b, off, cp, l.length, 0, u.sz, fun _ => False, fun _ _ => undef⟩, rfl, rfl, rfl, m2, ⟨A, cp, m1, m2, by simp, fun _ => ⟨b, rfl, by rw [q1]; simp⟩⟩, fun b' hb' => ?_, fun c' hF => .inr ⟨b, arr', e', rfl, q3, q4, cells_mv q5, ⟨fun h => (hF b rfl h).elim, False.elim⟩⟩, rfl, fun _ => ⟨b, q1, rfl⟩⟩
      obtain rfl := Option.some.inj hb'
      rw [m1, q1]
      obtain ⟨k, rfl⟩ : ∃ k, cp = k + 1 := ⟨cp - 1, by omega⟩
      exact ⟨rfl, q2⟩
    · obtain rfl : cp = 0 := by omega
      exact ⟨⟨none, 0, 0, l.length, 0, u.sz, fun _ => False, fun _ _ => undef⟩, rfl, rfl, rfl, m2, ⟨A, 0, m1, m2, by simp, fun h => by omega⟩, (fun b' hb' => nomatch hb'), fun c' hF => .inl ⟨rfl, rfl⟩, rfl, fun h => by omega⟩
  let c0 : Cx := ⟨fun n => if n = 0 then some i0 else none, fun _ => False⟩
  have hob : ∀ n y, obL [AO.row 0 u l] n = some y → n = 0 ∧ y = .row 0 u l := fun n y hn => by
    cases n with
    | zero => simp [obL] at hn; exact ⟨rfl, hn.symm⟩
    | succ n => simp [obL] at hn
  have hB0 : ∀ b, (∃ o, Blk c0 (obL [AO.row 0 u l]) o b) → nb (i.N j q) = some b ∧ i.S b := fun b ⟨n, y, i2, a1, a2, a3, a4⟩ => by
    obtain ⟨rfl, rfl⟩ := hob n y a1
    have : i2 = i0 := (Option.some.inj a3).symm
    subst this
    exact z6 b a4
  have mem0 : Mem ⟨w, fun b => ∃ o, Blk c0 (obL [AO.row 0 u l]) o b, c0.F, c0.inf⟩ c0 (obL [AO.row 0 u l]) w := by
    refine ⟨rfl, rfl, rfl, Nat.le_refl _, fun _ _ _ => rfl, fun n y hy => ?_, fun n i2 hi => ?_, ?_, fun b hb => hb.elim, fun n y i2 b a1 a2 a3 a4 => .inl ⟨n, y, i2, a1, a2, a3, a4⟩, fun b hb => hb, fun b hb => hb.elim⟩
    · obtain ⟨rfl, rfl⟩ := hob n y hy
      exact ⟨i0, rfl, z1, z2, z3, z4, z7 c0 fun _ _ h => h⟩
    · have : n = 0 := by
        by_cases hn : n = 0
        · exact hn
        · simp [c0, hn] at hi
      subst this
      exact ⟨_, rfl⟩
    · intro n n' y y' i2 i2' b a1 a1' _ _ _ _ _ _
      rw [(hob n y a1).1, (hob n' y' a1').1]
  refine (hA c0 w vs (by simpa using hvs) (fun jj a ha => ?_) mem0).mono fun e w' => ?_
  · cases jj with
    | zero =>
      simp at ha
      subst ha
      rw [hv0]
      have hd := z5
      rw [m1] at hd ⊢
      exact .own 0 0 A l.length cp i0 rfl (Nat.zero_le _) fun _ => by rw [z2]; exact hd
    | succ jj =>
      have ha : rest[jj]? = some a := by simpa using ha
      exact plainV_mv (plainL_get rest hpl jj a ha) (hva (jj + 1) a (by simpa using ha))
  rintro ⟨v, c', he, hv, hm', hpas⟩
  obtain ⟨i2, y1, y2, y3, y4, y5, y6⟩ := hm'.obj 0 _ rfl
  have := hpas 0 i0 i2 rfl y1 y2
  subst this
  have hll : l'.length = l.length := by omega
  have hframe : ∀ b, b < w.heap.size → nb (i.N j q) ≠ some b → w'.heap[b]? = w.heap[b]? := fun b hb hn => hm'.frame b hb fun hB => hn (hB0 b hB).1
  have hvz := unview_set t x q _ z (by simp) hz
  have hnew : Nest w' i.S u' l' (i.N j q) := by
    refine ⟨A, cp, by rw [hll]; exact m1, by omega, hiu', fun h0 => ?_⟩
    obtain ⟨b, g1, g2⟩ := z8.2 h0
    rcases y6 with ⟨y6, _⟩ | ⟨b', arr', e', y6, y7, y8, y9, _⟩
    · rw [g2] at y6; cases y6
    rw [g2] at y6; cases y6
    exact ⟨b, i2.off, arr', e', g1, (z6 b g2).2, y7, by rw [← z8.1]; exact y8, fun jj xx hxx qq yy hyy => ⟨view_mv (c := ⟨c'.inf, fun _ => False⟩) (fun _ h => h.elim) (fun _ h => h.elim) hyy ((y9 jj xx hxx qq yy hyy).1.noimm w' rfl (view_imm u' xx qq yy hiu' hyy)), (y9 jj xx hxx qq yy hyy).2⟩⟩
  have hcells : ∀ jj xx, (xs.set j z)[jj]? = some xx → ∀ q' yy, (view t xx)[q']? = some yy → NC w' i jj q' yy (arr.getD (i.off + (jj * t.sz + q')) undef) := by
    intro jj xx hxx q' yy hyy
    have old : ∀ x0, xs[jj]? = some x0 → (view t x0)[q']? = some yy → ¬ (jj = j ∧ q' = q) → NC w' i jj q' yy (arr.getD (i.off + (jj * t.sz + q')) undef) := fun x0 hx0 hy0 hne => by
      obtain ⟨g1, g2, g3⟩ := k5 jj x0 hx0 q' yy hy0
      refine ⟨g1, fun u l e => ⟨(g2 u l e).1, (g2 u l e).2.mv1 fun b hb hS hbl => hframe b hbl fun hc => ?_⟩, fun hm => view_mv (c := ⟨fun _ => none, fun _ => False⟩) (fun _ h => h.elim) (fun _ h => h.elim) hy0 (g3 hm)⟩
      rw [(g2 u l e).1] at hb
      subst e
      exact hne (k6 jj q' j q b x0 x _ _ _ _ hx0 hy0 hx hy hb hc)
    by_cases hjj : jj = j
    · subst hjj
      have hxz : xx = z := by
        have : (xs.set jj z)[jj]? = some z := by simp [hjx]
        rw [this] at hxx
        exact (Option.some.inj hxx).symm
      subst hxz
      rw [hvz] at hyy
      by_cases hoq : q = q'
      · subst hoq
        rw [List.getElem?_set_self (by rw [view_len]; exact hql)] at hyy
        have hyy := (Option.some.inj hyy).symm
        subst hyy
        refine ⟨n1, fun u2 l2 e => ?_, fun hm => by cases hm⟩
        cases e
        exact ⟨n3, by rw [n3]; exact hnew⟩
      · rw [List.getElem?_set_ne hoq] at hyy
        exact old x hx hyy fun h => hoq h.2.symm
    · have hxx2 : xs[jj]? = some xx := by rwa [List.getElem?_set_ne (fun e => hjj e.symm)] at hxx
      exact old xx hxx2 hyy fun h => hjj h.1
  have hsize : w.heap.size ≤ w'.heap.size := hm'.size
  have hput := hm.put o (.tree t (xs.set j z)) i w' hm'.os hm'.tape hm'.output hsize (fun b hb hnB => hframe b hb fun hc => ?_) (fun j' hj' => by rw [h1] at hj'; cases hj'; exact ⟨Nat.le_refl _, fun _ => rfl⟩) (fun ext => ?_) (fun b _ hb => .inl ⟨_, i, ho, rfl, h1, hb⟩)
  · exact ⟨v, _, he, hput.1, hput.2, plainV_mv hprv hv⟩
  · exact hnB ⟨_, i, ho, rfl, h1, .inr (hbS b hc)⟩
  · refine ⟨i, Cx.set_eq _ _ _, h2, by simpa using h3, h4, by simpa using h5, fun b hb => ⟨Nat.lt_of_lt_of_le (h6 b hb).1 hsize, (h6 b hb).2⟩, .inr ⟨ox, arr, el, k1, (hframe ox (lt_of_some k2) fun hc => ?_).trans k2, k3, k4, hcells, fun j1 q1 j2 q2 b' x1 x2 u1 l1 u2 l2 g1 g2 g3 g4 => by
      have back := list_set hvz fun _ _ _ => ⟨u, l, hy⟩
      obtain ⟨x10, u10, l10, g5, g6⟩ := list_back hx back g1 g2
      obtain ⟨x20, u20, l20, g7, g8⟩ := list_back hx back g3 g4
      exact k6 j1 q1 j2 q2 b' x10 x20 u10 l10 u20 l20 g5 g6 g7 g8⟩⟩
    exact k4 (hbS ox hc)
theorem callW_ok (hm : Mem B c ob w) {T : Table} (hT : TS P T) {M : FuncId → List Bool} {k : Nat} {f : FuncId} {as : List AV} {vs : Array Value} (hvs : vs.size = as.length) (hva : ∀ j a, as[j]? = some a → V c w a (vs.getD j undef)) (h : run T (callW M k ob f as) = some d) :
    okFn P f ∧ Calls P f vs w fun e w' => ∃ v c', e = .returned v ∧ Mem B c' (fup ob d.ow) w' ∧ Ext c w c' w' ∧ V c' w' d.v v := by
  unfold callW at h
  split at h
  · split at h
    · exact callN_ok hm hT (by simpa using hvs) hva h
    · exact callA_ok hm hT hvs hva h
  · exact callA_ok hm hT hvs hva h
end
end Go.Proofs.YtafjengmkiepbaaGreat.Am
end
section
/- What the machine of values does at an operation, the program does: copy, clear. -/
namespace Go.Proofs.YtafjengmkiepbaaGreat.Am
open Go
set_option linter.constructorNameAsVariable false
set_option linter.unusedVariables false
set_option linter.unusedSimpArgs false
section
variable {P : Program} {B : Base} {c : Cx} {ob : Nat → Option AO} {w : World} {s : Sem Next} {d : Delta}

theorem partA_ok (hm : Mem B c ob w) {a : AV} {x : Value} (ha : V c w a x) {o v lo n : Nat} (h : partA ob a = some (o, v, lo, n)) {t : Ty} {xs : List t.D} {v' : Nat} (ho : ob o = some (.row v' t xs)) :
    v' = v ∧ ∃ i, c.inf o = some i ∧ i.ver = v ∧ i.len = xs.length ∧ i.sz = t.sz ∧ xs.length ≤ i.cap ∧ RowB c w i t xs False ∧ lo + n ≤ xs.length ∧ Hd i lo n x := by
  cases a <;> simp only [partA, reduceCtorEq] at h
  case own q ver =>
    split at h
    · rename_i v2 t2 xs2 hq
      split at h
      · rename_i hv
        have hv := beq_true hv
        simp only [Option.some.injEq, Prod.mk.injEq] at h
        obtain ⟨rfl, rfl, rfl, rfl⟩ := h
        rw [ho] at hq
        cases hq
        subst hv
        obtain ⟨i, p, h1, h2, h3, h4, h5, h6, h7⟩ := own_head hm (.inl ho) ha
        obtain ⟨i', k1, k2, k3, k4, k5, k6⟩ := hm.obj _ _ ho
        rw [h1] at k1
        cases k1
        exact ⟨rfl, i, h1, h2, h3, h4, h5, k6, by omega, h7⟩
      · cases h
    · cases h
  case sub q ver l m =>
    split at h
    · rename_i v2 t2 xs2 hq
      split at h
      · rename_i hv
        have hv := beq_true hv
        simp only [Option.some.injEq, Prod.mk.injEq] at h
        obtain ⟨rfl, rfl, rfl, rfl⟩ := h
        rw [ho] at hq
        cases hq
        subst hv
        obtain ⟨i, p, h1, h2, h3, h4, h5, h6, h7, h8⟩ := sub_head hm (.inl ho) ha
        obtain ⟨i', k1, k2, k3, k4, k5, k6⟩ := hm.obj _ _ ho
        rw [h1] at k1
        cases k1
        exact ⟨rfl, i, h1, h2, h3, h4, h5, k6, h7, h8⟩
      · cases h
    · cases h

/-- elements that are written over others -/
theorem row_write (hm : Mem B c ob w) {q v : Nat} {t : Ty} {xs zs : List t.D} (hq : ob q = some (.row v t xs)) {i : Inf} {b : Nat} {arr : Array Value} {el : TypeId} (hi : c.inf q = some i) (hv : i.ver = v) (hl : i.len = xs.length) (hs : i.sz = t.sz) (hcap : xs.length ≤ i.cap) (hb : i.blk = some b) (hh : w.heap[b]? = some (.cells arr el (0, 0)))
    (hsz : i.off + i.cap * t.sz ≤ arr.size) (hc : Cells c w arr i.off t xs) (hF : ¬ c.F b) {lo : Nat} (hfit : lo + zs.length ≤ xs.length) {vs : List Value} (hvl : vs.length = zs.length * t.sz) (h1 : ∀ u ∈ vs, u.oneCell' = true) (hz : ∀ j x, zs[j]? = some x → ∀ p y, (view t x)[p]? = some y → V c w y (vs.getD (j * t.sz + p) undef)) :
    Mem B (c.set q i) (fup ob [(q, .row v t (xs.take lo ++ zs ++ xs.drop (lo + zs.length)))]) (w.setRow b (spl arr (i.off + lo * t.sz) vs)) ∧ Ext c w (c.set q i) (w.setRow b (spl arr (i.off + lo * t.sz) vs)) := by
  have hlen : (xs.take lo ++ zs ++ xs.drop (lo + zs.length)).length = xs.length := by
    simp only [List.length_append, List.length_take, List.length_drop]
    omega
  have h9 := Nat.mul_le_mul_right t.sz (show lo + zs.length ≤ i.cap by omega)
  rw [Nat.add_mul] at h9
  have hfa : i.off + lo * t.sz + vs.length ≤ arr.size := by omega
  refine hm.write (x' := .row v t (xs.take lo ++ zs ++ xs.drop (lo + zs.length))) hq rfl hi hb fun ext => ⟨i, Cx.set_eq _ _ _, hv, by rw [hlen]; exact hl, hs, by rw [hlen]; exact hcap, .inr ⟨b, _, el, hb, setRow_heap w b arr _ el (0, 0) hh, by rw [spl_size hfa]; exact hsz, ?_, ⟨fun h => hF h, False.elim⟩⟩⟩
  intro j x hx p y hy
  have hp : p < t.sz := by rw [← view_len t x]; exact (List.getElem?_eq_some_iff.1 hy).1
  have htl : (xs.take lo).length = lo := by rw [List.length_take]; omega
  rw [spl_get hfa]
  rw [List.append_assoc, List.getElem?_append, htl] at hx
  have old : xs[j]? = some x → ¬ (i.off + lo * t.sz ≤ i.off + (j * t.sz + p) ∧ i.off + (j * t.sz + p) < i.off + lo * t.sz + vs.length) → V (c.set q i) (w.setRow b (spl arr (i.off + lo * t.sz) vs)) y (if i.off + lo * t.sz ≤ i.off + (j * t.sz + p) ∧ i.off + (j * t.sz + p) < i.off + lo * t.sz + vs.length then vs.getD (i.off + (j * t.sz + p) - (i.off + lo * t.sz)) undef else arr.getD (i.off + (j * t.sz + p)) undef) ∧ (if i.off + lo * t.sz ≤ i.off + (j * t.sz + p) ∧ i.off + (j * t.sz + p) < i.off + lo * t.sz + vs.length then vs.getD (i.off + (j * t.sz + p) - (i.off + lo * t.sz)) undef else arr.getD (i.off + (j * t.sz + p)) undef).oneCell' = true := fun e hn => by
    rw [if_neg hn]
    exact ⟨(hc j x e p y hy).1.ext ext, (hc j x e p y hy).2⟩
  split at hx
  · rename_i hj
    rw [List.getElem?_take, if_pos hj] at hx
    refine old hx ?_
    have := Nat.mul_le_mul_right t.sz (show j + 1 ≤ lo from hj)
    rw [Nat.add_mul, Nat.one_mul] at this
    omega
  · rename_i hj
    rw [List.getElem?_append] at hx
    split at hx
    · rename_i hj2
      have g1 := Nat.mul_le_mul_right t.sz (show j - lo + 1 ≤ zs.length from hj2)
      rw [Nat.add_mul, Nat.one_mul] at g1
      have g2 := Nat.mul_le_mul_right t.sz (show lo ≤ j by omega)
      have g3 : (j - lo) * t.sz = j * t.sz - lo * t.sz := Nat.sub_mul _ _ _
      rw [if_pos (by omega)]
      rw [show i.off + (j * t.sz + p) - (i.off + lo * t.sz) = (j - lo) * t.sz + p by omega]
      have hlt : (j - lo) * t.sz + p < vs.length := by omega
      refine ⟨(hz _ x hx p y hy).ext ext, h1 _ ?_⟩
      rw [List.getD_eq_getElem?_getD, List.getElem?_eq_getElem hlt]
      exact List.getElem_mem hlt
    · rename_i hj2
      rw [List.getElem?_drop] at hx
      rw [show lo + zs.length + (j - lo - zs.length) = j by omega] at hx
      refine old hx ?_
      have g1 := Nat.mul_le_mul_right t.sz (show lo + zs.length ≤ j by omega)
      rw [Nat.add_mul] at g1
      omega

theorem fup_same {q : Nat} {x : AO} (h : ob q = some x) : fup ob [(q, x)] = ob := by
  rw [fup_one]
  funext o
  split
  · rename_i e; rw [e, h]
  · rfl

theorem run_store_part {b p : Nat} {arr : Array Value} {e : TypeId} (hb : w.heap[b]? = some (.cells arr e (0, 0))) {vs : List Value} (hf : p + vs.length ≤ arr.size) (h1 : ∀ v ∈ vs, v.oneCell' = true) : (storeCells ⟨b, p, none⟩ vs 0).run P w = .ok () (w.setRow b (spl arr p vs)) := by
  have := run_storeCells_at (P := P) b p e vs 0 arr w hb (by omega) h1
  simpa [spl] using this

theorem copy_ok (hm : Mem B c ob w) {T : Table} {t e : TypeId} {ts : List TypeId} {x y : Operand} {ρ : Operand → Value} {a z : AV} (ha : V c w a (ρ x)) (hz : V c w z (ρ y)) {o : Oper} {cl : Call} (ho : o.op = .call cl) (hb : cl.callee = .builtin .copy) (hargs : cl.args.toList = [x, y])
    (hts : cl.argTypes.toList = t :: ts) (ht : P.underlying t = some (.slice e)) (h : run T (copyA P ob e a z) = some d) : Eff P B c ob w (execOp ρ o) d := by
  unfold copyA at h
  obtain ⟨sz, hsz, h1⟩ := run_opt h
  clear h
  obtain ⟨⟨q, v, lo, n⟩, hp, h2⟩ := run_opt h1
  clear h1
  simp only at h2
  split at h2
  case h_2 => exact (run_fail h2).elim
  rename_i v' u xs hq
  split at h2
  case h_2 => exact (run_fail h2).elim
  rename_i hs
  have hs := beq_true hs
  subst hs
  obtain ⟨r, hr, h3⟩ := run_opt h2
  clear h2
  obtain ⟨ys, hys, h4⟩ := run_opt h3
  clear h3
  have hd := run_ret h4
  clear h4
  subst hd
  obtain ⟨rfl, i, k1, k2, k3, k4, k5, k6, k7, A, cp, ex, k8, k9, k10⟩ := partA_ok hm ha hp hq
  have hrd := Rd.cast hys (rowOf_rd hm hz hr)
  obtain ⟨A', cp', g, ey, m1, m2, m3⟩ := hrd
  have hts' : cl.argTypes[0]? = some t := by
    have : cl.argTypes.toList[0]? = some t := by rw [hts]; rfl
    simpa using this
  have hex : ∀ w', (Builtin.copy_ cl.argTypes o.type #[ρ x, ρ y]).run P w = .ok (goInt ((min ys.length n : Nat))) w' → (execOp ρ o).run P w = .ok (.value (.int .i64 ((min ys.length n : Nat) : Int))) w' := fun w' e => by
    rw [call_builtin ho hb, args_of hargs]
    simp [builtin, e, goInt]
  have htk : (ys.take n).length = min ys.length n := by rw [List.length_take, Nat.min_comm]
  by_cases h0 : min ys.length n = 0
  · have hnil : ys.take n = [] := List.length_eq_zero_iff.1 (by rw [htk]; exact h0)
    have hsame : xs.take lo ++ ys.take n ++ xs.drop (lo + min ys.length n) = xs := by rw [hnil, h0]; simp
    have hob : fup ob [(q, .row v' u (xs.take lo ++ ys.take n ++ xs.drop (lo + min ys.length n)))] = ob := by rw [hsame]; exact fup_same hq
    refine ⟨_, w, c, .inl (hex w ?_), by rw [hob]; exact hm, .refl c w, .i _ _⟩
    rw [ex, ey]
    have hmin : Nat.min ys.length n = 0 := h0
    have hfc : (Builtin.firstCells u.sz 0 (.slice A' ys.length cp')).run P w = .ok #[] w := by
      cases A' with
      | none => rfl
      | some a' => simpa using run_firstCells_some (P := P) w u.sz 0 a' ys.length cp' [] (by simp) (by simp)
    cases A <;> simp [Builtin.copy_, hts', run_underlying ht, Builtin.lenOf, hmin, run_sizeOf' hsz, hfc, storeCells, goInt, h0]
  · have hn0 : 0 < ys.length ∧ 0 < n := by omega
    obtain ⟨b, hblk, rfl⟩ := k10 (by omega)
    obtain ⟨a', rfl, hcells⟩ := m2 hn0.1
    rcases k6 with ⟨k6, _⟩ | ⟨b', arr, el, q1, q2, q3, q4, q5⟩
    · rw [hblk] at k6; cases k6
    rw [hblk] at q1
    cases q1
    let news : List Value := (List.range (min ys.length n * u.sz)).map g
    have hnl : news.length = min ys.length n * u.sz := by simp [news]
    have hle : min ys.length n * u.sz ≤ ys.length * u.sz := Nat.mul_le_mul_right _ (Nat.min_le_left _ _)
    have hone : ∀ v ∈ news, v.oneCell' = true := fun v hv => by
      obtain ⟨j, hj, rfl⟩ := List.mem_map.1 hv
      exact (hcells j (by have := List.mem_range.1 hj; omega)).2
    have hfc := run_firstCells_some (P := P) w u.sz (min ys.length n) a' ys.length cp' news hnl (fun j v hv => by
      rw [List.getElem?_map] at hv
      obtain ⟨p, hp, rfl⟩ := Option.map_eq_some_iff.1 hv
      obtain ⟨p1, p2⟩ := List.getElem?_eq_some_iff.1 hp
      simp at p1 p2
      subst p2
      exact (hcells j (by omega)).1)
    have h9 := Nat.mul_le_mul_right u.sz (show lo + min ys.length n ≤ i.cap by omega)
    rw [Nat.add_mul] at h9
    have hst := run_store_part (P := P) (p := i.off + lo * u.sz) q2 (vs := news) (by rw [hnl]; omega) hone
    have hrun : (Builtin.copy_ cl.argTypes o.type #[ρ x, ρ y]).run P w = .ok (goInt ((min ys.length n : Nat))) (w.setRow b (spl arr (i.off + lo * u.sz) news)) := by
      rw [ex, ey]
      have hmin : Nat.min ys.length n = min ys.length n := rfl
      simp [Builtin.copy_, hts', run_underlying ht, Builtin.lenOf, hmin, run_sizeOf' hsz, hfc, k4, hst]
    obtain ⟨r1, r2⟩ := row_write hm hq k1 k2 k3 k4 k5 hblk q2 q3 q4 (fun h => q5.1 h) (zs := ys.take n) (lo := lo) (by rw [htk]; omega) (vs := news) (by rw [hnl, htk]) hone (fun j x' hx' p y' hy' => by
      have hxy : ys[j]? = some x' := by
        rw [List.getElem?_take] at hx'
        split at hx'
        · exact hx'
        · cases hx'
      have hjn : j < min ys.length n := by rw [← htk]; exact (List.getElem?_eq_some_iff.1 hx').1
      have hp : p < u.sz := by rw [← view_len u x']; exact (List.getElem?_eq_some_iff.1 hy').1
      have g1 := Nat.mul_le_mul_right u.sz (show j + 1 ≤ min ys.length n from hjn)
      rw [Nat.add_mul, Nat.one_mul] at g1
      have : news.getD (j * u.sz + p) undef = g (j * u.sz + p) := by
        have hlt : j * u.sz + p < min ys.length n * u.sz := by omega
        simp [news, List.getD_eq_getElem?_getD, hlt]
      rw [this]
      exact m3 j x' hxy p y' hy')
    rw [htk] at r1
    exact ⟨_, _, _, .inl (hex _ hrun), r1, r2, .i _ _⟩

theorem clear_ok (hm : Mem B c ob w) {T : Table} {t e : TypeId} {ts : List TypeId} {x : Operand} {ρ : Operand → Value} {a : AV} (ha : V c w a (ρ x)) {o : Oper} {cl : Call} (ho : o.op = .call cl) (hb : cl.callee = .builtin .clear) (hargs : cl.args.toList = [x])
    (hts : cl.argTypes.toList = t :: ts) (ht : P.underlying t = some (.slice e)) (h : run T (clearA P ob e a) = some d) : Eff P B c ob w (execOp ρ o) d := by
  unfold clearA at h
  obtain ⟨z, hz, h1⟩ := run_opt h
  clear h
  obtain ⟨⟨q, v, lo, n⟩, hp, h2⟩ := run_opt h1
  clear h1
  simp only at h2
  split at h2
  case h_2 => exact (run_fail h2).elim
  rename_i v' u xs hq
  split at h2
  case h_2 => exact (run_fail h2).elim
  rename_i hs
  have hs := beq_true hs
  obtain ⟨yv, hyv, h3⟩ := run_opt h2
  clear h2
  have hd := run_ret h3
  clear h3
  subst hd
  obtain ⟨rfl, i, k1, k2, k3, k4, k5, k6, k7, A, cp, ex, k8, k9, k10⟩ := partA_ok hm ha hp hq
  obtain ⟨ti, zv, hi, hzv, hl, hc⟩ := zeroC_ok hz
  obtain ⟨hul, huv⟩ := unview_ok u z yv hyv
  have hts' : cl.argTypes[0]? = some t := by
    have : cl.argTypes.toList[0]? = some t := by rw [hts]; rfl
    simpa using this
  have hex : ∀ w', (Builtin.clear_ cl.argTypes o.type #[ρ x]).run P w = .ok (.tuple #[]) w' → (execOp ρ o).run P w = .ok (.value (.tuple #[])) w' := fun w' e => by
    rw [call_builtin ho hb, args_of hargs]
    simp [builtin, e]
  by_cases h0 : n = 0
  · subst h0
    have hsame : xs.take lo ++ List.replicate 0 yv ++ xs.drop (lo + 0) = xs := by simp
    have hob : fup ob [(q, .row v' u (xs.take lo ++ List.replicate 0 yv ++ xs.drop (lo + 0)))] = ob := by rw [hsame]; exact fup_same hq
    refine ⟨_, w, c, .inl (hex w ?_), by rw [hob]; exact hm, .refl c w, .bad _⟩
    rw [ex]
    cases A <;> simp [Builtin.clear_, hts', run_underlying ht]
  · obtain ⟨b, hblk, rfl⟩ := k10 (by omega)
    rcases k6 with ⟨k6, _⟩ | ⟨b', arr, el, q1, q2, q3, q4, q5⟩
    · rw [hblk] at k6; cases k6
    rw [hblk] at q1
    cases q1
    have hzs : zv.cells.size = u.sz := by rw [hl, hs]
    have hcl := hc c w
    have hnl : (Builtin.zeroCells zv.cells n).toList.length = n * u.sz := by simp [size_zeroCells, hzs]
    have hget : ∀ j p, j < n → p < u.sz → (Builtin.zeroCells zv.cells n).toList.getD (j * u.sz + p) undef = zv.cells.getD p undef := fun j p hj hp => by
      have g1 := Nat.mul_le_mul_right u.sz (show j + 1 ≤ n from hj)
      rw [Nat.add_mul, Nat.one_mul] at g1
      have hlt : j * u.sz + p < n * u.sz := by omega
      have hps : p < zv.cells.size := by omega
      simp only [Builtin.zeroCells, hzs, List.getD_eq_getElem?_getD, Array.getElem?_toList, Array.getElem?_map]
      simp [hlt, Nat.mul_add_mod_of_lt' hp]
      rw [getElem!_pos zv.cells p hps]
      simp [hps]
    have hone : ∀ v ∈ (Builtin.zeroCells zv.cells n).toList, v.oneCell' = true := fun v hv => by
      obtain ⟨j, hj, rfl⟩ := List.getElem_of_mem hv
      rw [hnl] at hj
      have hsp : 0 < u.sz := Nat.pos_of_ne_zero fun e => by rw [e] at hj; simp at hj
      have hjd : j / u.sz < n := (Nat.div_lt_iff_lt_mul hsp).2 hj
      have hm' := Nat.mod_lt j hsp
      have := hget (j / u.sz) (j % u.sz) hjd hm'
      rw [Nat.mul_comm, Nat.div_add_mod] at this
      rw [List.getD_eq_getElem?_getD, List.getElem?_eq_getElem (by rw [hnl]; exact hj)] at this
      simp only [Option.getD_some] at this
      rw [this]
      exact hcl.2.1 _ (by omega)
    have h9 := Nat.mul_le_mul_right u.sz (show lo + n ≤ i.cap by omega)
    rw [Nat.add_mul] at h9
    have hst := run_store_part (P := P) (p := i.off + lo * u.sz) q2 (vs := (Builtin.zeroCells zv.cells n).toList) (by rw [hnl]; omega) hone
    have hrun : (Builtin.clear_ cl.argTypes o.type #[ρ x]).run P w = .ok (.tuple #[]) (w.setRow b (spl arr (i.off + lo * u.sz) (Builtin.zeroCells zv.cells n).toList)) := by
      rw [ex]
      cases n with
      | zero => exact absurd rfl h0
      | succ n => simp [Builtin.clear_, hts', run_underlying ht, run_zeroValue' hi hzv, k4, hst]
    obtain ⟨r1, r2⟩ := row_write hm hq k1 k2 k3 k4 k5 hblk q2 q3 q4 (fun h => q5.1 h) (zs := List.replicate n yv) (lo := lo) (by simpa using k7) (vs := (Builtin.zeroCells zv.cells n).toList) (by rw [hnl]; simp) hone (fun j x' hx' p y' hy' => by
      have hj : j < n := by have := (List.getElem?_eq_some_iff.1 hx').1; simpa using this
      have hxy : x' = yv := by
        have := (List.getElem?_eq_some_iff.1 hx').2
        simpa using this.symm
      subst hxy
      have hp : p < u.sz := by rw [← view_len u x']; exact (List.getElem?_eq_some_iff.1 hy').1
      rw [hget j p hj hp]
      exact huv c w (fun p => zv.cells.getD p undef) (fun p y hy => hcl.2.2 p y hy) p y' hy')
    rw [List.length_replicate] at r1
    exact ⟨_, _, _, .inl (hex _ hrun), r1, r2, .bad _⟩
theorem conv_ok (hm : Mem B c ob w) {T : Table} {st tt : TypeId} {x : Operand} {ρ : Operand → Value} {a : AV} (ha : V c w a (ρ x)) {o : Oper} (ho : o.op = .convert st tt x) (h : run T (convA P ob st tt a) = some d) : Eff P B c ob w (execOp ρ o) d := by
  unfold execOp
  simp only [ho]
  unfold convA at h
  split at h
  case h_3 => exact (run_fail h).elim
  case h_1 u k hs ht =>
    cases a <;> simp only at h
    case i k' n =>
      rw [V.inv_i ha]
      exact .now hm h (v := .int k (k.wrap n)) (by simp [convert, run_underlying hs, run_underlying ht, Conv.intToInt]) (.i _ _)
    all_goals exact (run_fail h).elim
  case h_2 e hs ht =>
    split at h
    case h_2 => exact (run_fail h).elim
    rename_i he
    obtain ⟨r, hr, h1⟩ := run_opt h
    clear h
    obtain ⟨ys, hys, h2⟩ := run_opt h1
    clear h1
    obtain ⟨A, cp, g, e1, e2, e3, e4⟩ := Rd.cast hys (rowOf_rd hm ha hr)
    rw [e1]
    refine .pure hm (v := .string (strOf ys)) ?_ (.s _) (run_ret h2).symm
    have key : (convert st tt (.slice A ys.length cp)).run P w = .ok (.string (strOf ys)) w := by
      cases A with
      | none =>
        have h0 : ys = [] := by
          cases ys with
          | nil => rfl
          | cons y q => obtain ⟨b, hb, _⟩ := e3 (by simp); cases hb
        subst h0
        rw [run_convert_bytes_nil w st e hs he _ _ tt ht]
        rfl
      | some b =>
        have hl : (loadCells b ys.length).run P w = .ok (ys.map (Value.int .u8)).toArray w := by
          have := run_loadCells_list (P := P) w b (ys.map (Value.int .u8)) (fun j v hj => by
            rw [List.getElem?_map] at hj
            obtain ⟨y, hy, rfl⟩ := Option.map_eq_some_iff.1 hj
            have hlt : j < ys.length := (List.getElem?_eq_some_iff.1 hy).1
            obtain ⟨b', hb', k⟩ := e3 (by omega)
            cases hb'
            have := V.inv_i (e4 j y hy 0 (.i .u8 y) rfl)
            have hsz : Ty.sz (.i .u8) = 1 := rfl
            rw [hsz] at k this
            rw [(k j (by omega)).1]
            rw [show j * 1 + 0 = j by omega] at this
            rw [this])
          simpa using this
        rw [run_convert_bytes_string w st tt e _ ys.length cp hs he ht, run_bytesToString w _ ys.length cp ys hl, foldl_push_bytes]
        simp [strOf, ByteArray.empty, ByteArray.emptyWithCapacity]
        rfl
    simp only [Sem.run_bind, key, Result.andThen_ok, Sem.run_pure]
end
end Go.Proofs.YtafjengmkiepbaaGreat.Am
end
section
/- What the machine of values does with maps of numbers to truth values, the program does. -/
namespace Go.Proofs.YtafjengmkiepbaaGreat.Am
open Go
set_option linter.constructorNameAsVariable false
set_option linter.unusedVariables false
set_option linter.unusedSimpArgs false
section
variable {P : Program} {B : Base} {c : Cx} {ob : Nat → Option AO} {w : World} {s : Sem Next} {d : Delta}

theorem V.inv_mp {o : Nat} {v : Value} (h : V c w (.mp o) v) : ∃ b i, v = .map (some b) ∧ c.inf o = some i ∧ (i.ver = 0 → i.blk = some b) := by
  cases h with
  | mp o b i hi h => exact ⟨b, i, rfl, hi, h⟩
theorem mapIB_ok {t : TypeId} (h : mapIB P t = true) : ∃ k e i, P.underlying t = some (.map k e) ∧ P.underlying k = some (.int .i64) ∧ P.info? e = some i ∧ i.zero = some (.bool false) := by
  unfold mapIB at h
  split at h
  · rename_i k e ht
    rw [Bool.and_eq_true] at h
    obtain ⟨h1, h2⟩ := h
    have hk : P.underlying k = some (.int .i64) := by
      unfold isI64 at h1
      split at h1
      · rename_i kk hkk
        rw [hkk, of_decide_eq_true h1]
      · cases h1
    unfold zIsF at h2
    split at h2
    · rename_i i hi
      split at h2
      · rename_i y hz
        have hy : y = false := by simpa using h2
        subst hy
        exact ⟨k, e, i, ht, hk, hi, hz⟩
      · cases h2
    · cases h2
  · cases h
theorem find_ents (n : Int) : ∀ (l : List MapEntry) (es : List (Int × Bool)) (i : Nat), l.map (fun x => (x.key, x.val)) = es.map (fun p => (Value.int .i64 p.1, Value.bool p.2)) →
    (Instr.findNow (.int .i64) (.int .i64 n) l i = some none ∧ es.find? (fun p => decide (n = p.1)) = none ∧ es.findIdx? (fun p => decide (n = p.1)) = none) ∨
    ∃ j p e0, Instr.findNow (.int .i64) (.int .i64 n) l i = some (some (i + j, .bool p.2)) ∧ es.find? (fun p => decide (n = p.1)) = some p ∧ es.findIdx? (fun p => decide (n = p.1)) = some j ∧ l[j]? = some e0 ∧ e0.key = .int .i64 n
  | [], es, i, h => by
    have : es = [] := by simpa using h.symm
    subst this
    exact .inl ⟨rfl, rfl, rfl⟩
  | e :: l, [], i, h => by simp at h
  | e :: l, p :: es, i, h => by
    simp only [List.map_cons, List.cons.injEq, Prod.mk.injEq] at h
    obtain ⟨⟨h1, h2⟩, h3⟩ := h
    have hs : Instr.sameNow (.int .i64) (.int .i64 n) e.key = some (n == p.1) := by rw [h1]; simp [Instr.sameNow]
    by_cases c : n = p.1
    · refine .inr ⟨0, p, e, ?_, ?_, ?_, rfl, by rw [h1, c]⟩
      · unfold Instr.findNow
        rw [hs, show (n == p.1) = true by simpa using c, h2]; rfl
      · rw [List.find?_cons_of_pos (by simpa using c)]
      · rw [List.findIdx?_cons, if_pos (by simpa using c)]
    · have hf : Instr.findNow (.int .i64) (.int .i64 n) (e :: l) i = Instr.findNow (.int .i64) (.int .i64 n) l (i + 1) := by
        conv => lhs; unfold Instr.findNow
        rw [hs, show (n == p.1) = false by simpa using c]
      rcases find_ents n l es (i + 1) h3 with ⟨k1, k2, k3⟩ | ⟨j, q, e0, k1, k2, k3, k4, k5⟩
      · refine .inl ⟨hf.trans k1, ?_, ?_⟩
        · rw [List.find?_cons_of_neg (by simpa using c)]; exact k2
        · rw [List.findIdx?_cons, if_neg (by simpa using c), k3]; rfl
      · refine .inr ⟨j + 1, q, e0, by rw [hf, k1, show i + 1 + j = i + (j + 1) by omega], ?_, ?_, by simpa using k4, k5⟩
        · rw [List.find?_cons_of_neg (by simpa using c)]; exact k2
        · rw [List.findIdx?_cons, if_neg (by simpa using c), k3]; rfl
theorem isKey64 (n : Int) : MapKept.IsKey (.int .i64) (.int .i64 n) := rfl
theorem makeMap_ok (hm : Mem B c ob w) {T : Table} {t : TypeId} {ρ : Operand → Value} {o : Oper} (ho : o.op = .makeMap t none) {k : Nat} (hnw : c.inf k = none → 1000 ≤ k)
    (h : run T (fresh ob k (.ret ⟨.mp k, [(k, .mpo [])], []⟩)) = some d) : Eff P B c ob w (execOp ρ o) d := by
  obtain ⟨hk, h⟩ := run_fresh h
  have hd := run_ret h
  subst hd
  obtain ⟨h1, h2⟩ : Mem B (c.set k ⟨some w.heap.size, 0, 0, 0, 0, 0, fun _ => False, fun _ _ => undef⟩) (fup ob [(k, .mpo [])]) (w.alloc (.map #[] 0)) ∧ Ext c w (c.set k ⟨some w.heap.size, 0, 0, 0, 0, 0, fun _ => False, fun _ _ => undef⟩) (w.alloc (.map #[] 0)) := by
    refine hm.put k (.mpo []) _ _ rfl rfl rfl (by show w.heap.size ≤ (w.heap.push _).size; simp) (fun b hb _ => by show (w.heap.push _)[b]? = _; rw [Array.getElem?_push, if_neg (by omega)]) (fun i hi => by rw [hm.inf_none hk] at hi; cases hi) (fun ext => ?_) (fun b _ hb => .inr (by simp at hb; omega))
    exact ⟨_, w.heap.size, #[], 0, Cx.set_eq _ _ _, rfl, rfl, by show (w.heap.push _)[w.heap.size]? = _; simp, rfl, fun hF => Nat.lt_irrefl _ (hm.F _ hF)⟩
  refine ⟨.map (some w.heap.size), w.alloc (.map #[] 0), _, .inl ?_, h1, h2, .mp k _ _ (Cx.set_eq _ _ _) fun _ => rfl⟩
  unfold execOp
  simp only [ho]
  rfl
theorem lookup_ok (hm : Mem B c ob w) {T : Table} {t : TypeId} {x y : Operand} {ρ : Operand → Value} {q : Nat} {n : Int} (hx : V c w (.mp q) (ρ x)) (hy : V c w (.i .i64 n) (ρ y)) (ht : mapIB P t = true) {o : Oper} (ho : o.op = .lookup t x y false) {es : List (Int × Bool)} (hq : ob q = some (.mpo es))
    (h : run T (.ret ⟨.b (lookB es n), [], [q]⟩ : TD) = some d) : Eff P B c ob w (execOp ρ o) d := by
  obtain ⟨k, e, ti, h1, h2, h3, h4⟩ := mapIB_ok ht
  obtain ⟨b, i, e1, e2, e3⟩ := hx.inv_mp
  obtain ⟨i', b', arr, clock, m1, m2, m3, m4, m5, m6⟩ := hm.obj q _ hq
  rw [e2] at m1; cases m1
  rw [e3 m2] at m3; cases m3
  refine .pure hm (v := .bool (lookB es n)) ?_ (.b _) (run_ret h).symm
  unfold execOp
  simp only [ho]
  rw [e1, hy.inv_i]
  rcases find_ents n arr.toList es 0 m5 with ⟨k1, k2, k3⟩ | ⟨j, p, e0, k1, k2, k3, k4, k5⟩
  · have : lookB es n = false := by unfold lookB; rw [k2]
    rw [this]
    simp [Instr.lookup, run_underlying h1, MapKept.run_getObj_map m4, MapKept.run_checkKey h2 (isKey64 n), MapKept.run_findKey h2 k1, run_zeroValue' h3 h4, Result.andThen]
  · have : lookB es n = p.2 := by unfold lookB; rw [k2]
    rw [this]
    simp [Instr.lookup, run_underlying h1, MapKept.run_getObj_map m4, MapKept.run_checkKey h2 (isKey64 n), MapKept.run_findKey h2 k1, Result.andThen]
theorem ents_push {arr : Array MapEntry} {es : List (Int × Bool)} (h : Ents arr es) (n : Int) (y : Bool) (k : Nat) : Ents (arr.push ⟨.int .i64 n, .bool y, k⟩) (es ++ [(n, y)]) := by
  unfold Ents at h ⊢
  rw [Array.toList_push, List.map_append, List.map_append, h]; rfl
theorem ents_modify {arr : Array MapEntry} {es : List (Int × Bool)} (h : Ents arr es) (j : Nat) (n : Int) (y : Bool) : Ents (arr.modify j fun e => { e with key := .int .i64 n, val := .bool y }) (es.set j (n, y)) := by
  unfold Ents at h ⊢
  rw [Array.toList_modify]
  apply List.ext_getElem?
  intro m
  have hm := congrArg (fun l => l[m]?) h
  simp only [List.getElem?_map] at hm
  rw [List.getElem?_map, List.getElem?_map, List.getElem?_modify, List.getElem?_set]
  by_cases c : j = m
  · subst c
    rw [if_pos rfl]
    cases hx : arr.toList[j]? with
    | none =>
      rw [hx] at hm
      cases hy : es[j]? with
      | none =>
        rw [if_neg (fun h => by rw [List.getElem?_eq_getElem h] at hy; cases hy)]; rfl
      | some p => rw [hy] at hm; cases hm
    | some e0 =>
      rw [hx] at hm
      cases hy : es[j]? with
      | none => rw [hy] at hm; cases hm
      | some p => rw [if_pos (List.getElem?_eq_some_iff.1 hy).1]; simp
  · rw [if_neg c]
    simpa [c] using hm
theorem mapUpdate_ok (hm : Mem B c ob w) {T : Table} {t : TypeId} {x y z : Operand} {ρ : Operand → Value} {q : Nat} {n : Int} {v : Bool} (hx : V c w (.mp q) (ρ x)) (hy : V c w (.i .i64 n) (ρ y)) (hz : V c w (.b v) (ρ z)) (ht : mapIB P t = true) {o : Oper} (ho : o.op = .mapUpdate t x y z) {es : List (Int × Bool)} (hq : ob q = some (.mpo es))
    (h : run T (.ret ⟨.bad, [(q, .mpo (putB es n v))], [q]⟩ : TD) = some d) : Eff P B c ob w (execOp ρ o) d := by
  have hd := run_ret h
  subst hd
  obtain ⟨k, e, ti, h1, h2, h3, h4⟩ := mapIB_ok ht
  obtain ⟨b, i, e1, e2, e3⟩ := hx.inv_mp
  obtain ⟨i', b', arr, clock, m1, m2, m3, m4, m5, m6⟩ := hm.obj q _ hq
  rw [e2] at m1; cases m1
  rw [e3 m2] at m3; cases m3
  have hlt : b < w.heap.size := (Array.getElem?_eq_some_iff.1 m4).1
  have fin : ∀ (arr' : Array MapEntry) (clock' : Nat), Ents arr' (putB es n v) → (execOp ρ o).run P w = .ok .skip { w with heap := w.heap.setIfInBounds b (.map arr' clock') } → Eff P B c ob w (execOp ρ o) ⟨.bad, [(q, .mpo (putB es n v))], [q]⟩ := fun arr' clock' he hr => by
    obtain ⟨g1, g2⟩ := hm.put q (.mpo (putB es n v)) i { w with heap := w.heap.setIfInBounds b (.map arr' clock') } rfl rfl rfl (by show w.heap.size ≤ (w.heap.setIfInBounds b _).size; simp) (fun b' hb' hB => by
        show (w.heap.setIfInBounds b _)[b']? = _
        have : b ≠ b' := fun e => by
          subst e
          exact hB ⟨_, i, hq, rfl, e2, e3 m2⟩
        simp [this]) (fun i' hi => by rw [e2] at hi; cases hi; exact ⟨Nat.le_refl _, fun _ => rfl⟩) (fun ext => ⟨i, b, arr', clock', Cx.set_eq _ _ _, m2, e3 m2, by show (w.heap.setIfInBounds b _)[b]? = _; simp [hlt], he, m6⟩) (fun b' _ hb' => .inl ⟨_, i, hq, rfl, e2, hb'⟩) (fun hn => by rw [e2] at hn; cases hn)
    exact ⟨undef, _, _, .inr ⟨hr, rfl⟩, g1, g2, .bad _⟩
  rcases find_ents n arr.toList es 0 m5 with ⟨k1, k2, k3⟩ | ⟨j, p, e0, k1, k2, k3, k4, k5⟩
  · refine fin (arr.push ⟨.int .i64 n, .bool v, clock⟩) (clock + 1) ?_ ?_
    · have : putB es n v = es ++ [(n, v)] := by unfold putB; rw [k3]
      rw [this]; exact ents_push m5 n v clock
    · unfold execOp
      simp only [ho]
      rw [e1, hy.inv_i, hz.inv_b]
      simp [Instr.mapUpdate, run_underlying h1, MapKept.run_getObj_map m4, MapKept.run_checkKey h2 (isKey64 n), MapKept.run_findKey h2 k1, MapKept.run_setObj_map _ m4, Result.andThen]
  · have hj : arr[j]? = some e0 := by simpa using k4
    refine fin (arr.modify j fun e => { e with key := .int .i64 n, val := .bool v }) clock ?_ ?_
    · have : putB es n v = es.set j (n, v) := by unfold putB; rw [k3]
      rw [this]; exact ents_modify m5 j n v
    · unfold execOp
      simp only [ho]
      rw [e1, hy.inv_i, hz.inv_b]
      rw [Nat.zero_add] at k1
      simp [Instr.mapUpdate, run_underlying h1, MapKept.run_getObj_map m4, MapKept.run_checkKey h2 (isKey64 n), MapKept.run_findKey h2 k1, hj, k5, MapKept.run_keyThatStays (isKey64 n), MapKept.run_setObj_map _ m4, Result.andThen]
end
end Go.Proofs.YtafjengmkiepbaaGreat.Am
end
section
/- What the machine of values does at an operation, the program does: all operations. -/
namespace Go.Proofs.YtafjengmkiepbaaGreat.Am
open Go
set_option linter.constructorNameAsVariable false
set_option linter.unusedVariables false
set_option linter.unusedSimpArgs false
section
variable {P : Program} {B : Base} {c : Cx} {ob : Nat → Option AO} {w : World} {s : Sem Next} {d : Delta}

def CallEff (P : Program) (B : Base) (c : Cx) (ob : Nat → Option AO) (w : World) (s : Sem Next) (d : Delta) : Prop :=
  ∃ f vs, s.run P w = .ok (.enter f vs) w ∧ Calls P f vs w fun e w' => ∃ v c', e = .returned v ∧ Mem B c' (fup ob d.ow) w' ∧ Ext c w c' w' ∧ V c' w' d.v v

theorem getD_append_left {a b : Array Value} {j : Nat} (h : j < a.size) : (a ++ b).getD j undef = a.getD j undef := by
  simp only [Array.getD_eq_getD_getElem?]
  rw [Array.getElem?_append_left h]
theorem getD_append_right {a b : Array Value} {j : Nat} (h : a.size ≤ j) : (a ++ b).getD j undef = b.getD (j - a.size) undef := by
  simp only [Array.getD_eq_getD_getElem?]
  rw [Array.getElem?_append_right h]

theorem callV_ok (hm : Mem B c ob w) {T : Table} (hT : TS P T) {M : FuncId → List Bool} {k : Nat} {f : Operand} {ρ : Operand → Value} {ev : Operand → AV} (hev : ∀ x, V c w (ev x) (ρ x)) {o : Oper} {cl : Call} (ho : o.op = .call cl) (hb : cl.callee = .value f)
    (h : run T (match ev f with | .fn g cs => callW M k ob g (cl.args.toList.map ev ++ cs) | _ => .fail) = some d) : CallEff P B c ob w (execOp ρ o) d := by
  have hf := hev f
  cases ef : ev f <;> rw [ef] at h hf <;> simp only at h
  case fn g cs =>
    obtain ⟨vs, ex, hs, hv⟩ := hf.inv_fn
    have hsz : (cl.args.map ρ ++ vs).size = (cl.args.toList.map ev ++ cs).length := by simp [hs]
    obtain ⟨⟨fn, k1, k2, k3⟩, hc⟩ := callW_ok (P := P) (vs := cl.args.map ρ ++ vs) hm hT hsz (fun j a ha => by
      rw [List.getElem?_append] at ha
      split at ha
      · rename_i hj
        rw [List.length_map] at hj
        have hj' : j < cl.args.size := by simpa using hj
        rw [List.getElem?_map] at ha
        obtain ⟨z, hz, rfl⟩ := Option.map_eq_some_iff.1 ha
        have hzz : cl.args[j] = z := by
          have := (List.getElem?_eq_some_iff.1 hz).2
          simpa using this
        rw [getD_append_left (by simpa using hj')]
        have : (cl.args.map ρ).getD j undef = ρ z := by simp [hj', hzz]
        rw [this]
        exact hev z
      · rename_i hj
        rw [List.length_map] at hj ha
        have hj' : cl.args.size ≤ j := by simpa using hj
        rw [getD_append_right (by simpa using hj')]
        have := hv _ a ha
        simpa using this) h
    refine ⟨g, cl.args.map ρ ++ vs, ?_, hc⟩
    unfold execOp
    simp only [ho]
    simp only [resolve, hb, Deferred.ofValue, ex, Sem.run_bind, Sem.run_pure, Result.andThen_ok, invoke, callFunc, run_program, k1]
    rw [if_neg (by simp [k2])]
    rw [if_neg (by cases hbd : fn.body <;> simp [hbd] at k3 ⊢)]
    simp
  all_goals exact (run_fail h).elim

theorem builtinA_ok (hm : Mem B c ob w) {T : Table} {k : Nat} {ρ : Operand → Value} {ev : Operand → AV} (hev : ∀ x, V c w (ev x) (ρ x)) {o : Oper} {cl : Call} {b : Builtin} (ho : o.op = .call cl) (hb : cl.callee = .builtin b)
    (h : run T (builtinA P k ob b cl.argTypes.toList (cl.args.toList.map ev)) = some d) : Eff P B c ob w (execOp ρ o) d := by
  have args1 : ∀ x, cl.args.toList.map ev = [x] → ∃ p, cl.args.toList = [p] ∧ ev p = x := fun x e => by
    cases e2 : cl.args.toList with
    | nil => rw [e2] at e; cases e
    | cons p r =>
      rw [e2] at e
      cases r with
      | nil => simp at e; exact ⟨p, rfl, e⟩
      | cons q r => simp at e
  have args2 : ∀ x y, cl.args.toList.map ev = [x, y] → ∃ p q, cl.args.toList = [p, q] ∧ ev p = x ∧ ev q = y := fun x y e => by
    cases e2 : cl.args.toList with
    | nil => rw [e2] at e; cases e
    | cons p r =>
      rw [e2] at e
      cases r with
      | nil => simp at e
      | cons q r =>
        cases r with
        | nil => simp at e; exact ⟨p, q, rfl, e.1, e.2⟩
        | cons z r => simp at e
  unfold builtinA at h
  split at h
  · rename_i x hx
    obtain ⟨p, hp, rfl⟩ := args1 x hx
    exact len_ok hm (hev p) ho hb hp h
  · rename_i sx x hx
    obtain ⟨p, q, hpq, rfl, rfl⟩ := args2 sx x hx
    unfold appendA at h
    split at h
    case h_2 => exact (run_fail h).elim
    rename_i t tx hts
    split at h
    case h_3 => exact (run_fail h).elim
    case h_2 => rename_i e ik ht htx; exact appendZ_ok hm (hev p) (hev q) ho hb hpq hts ht htx h
    rename_i e e' ht htx
    obtain ⟨u, hu, h1⟩ := run_opt h
    clear h
    obtain ⟨by_, hby, h2⟩ := run_opt h1
    clear h1
    obtain ⟨z, hz, h3⟩ := run_opt h2
    clear h2
    split at h3
    case h_2 => exact (run_fail h3).elim
    rename_i hck
    rw [Bool.and_eq_true] at hck
    split at h3
    · rename_i p2 hp2
      obtain ⟨i, zv, hi, hzv, hl, hc⟩ := zeroC_ok hz
      obtain ⟨i2, hi2, hbs⟩ := bytesT_eq ht hby
      rw [hi] at hi2
      cases hi2
      exact appendT_ok hm (newId_big _ _) (hev p) (hev q) hp2 ho hb hpq hts ht htx hi hzv hbs (szIs_eq hck.1 hi) (hl.trans (beq_true hck.2)) h3
    obtain ⟨r, hr, h4⟩ := run_opt h3
    clear h3
    obtain ⟨ys, hys, h5⟩ := run_opt h4
    clear h4
    obtain ⟨i, zv, hi, hzv, hl, hc⟩ := zeroC_ok hz
    obtain ⟨i2, hi2, hbs⟩ := bytesT_eq ht hby
    rw [hi] at hi2
    cases hi2
    exact appendB_ok hm (hev p) (Rd.cast hys (rowOf_rd hm (hev q) hr)) ho hb hpq hts ht htx hi hzv hbs (szIs_eq hck.1 hi) (hl.trans (beq_true hck.2)) h5
  · rename_i hx
    obtain ⟨p, hp, hpe⟩ := args1 _ hx
    have hvp := hev p
    rw [hpe] at hvp
    split at h
    · rename_i t ts hts
      split at h
      · rename_i e ht
        exact cap_ok hm hvp ho hb hp hts ht h
      · exact (run_fail h).elim
    · exact (run_fail h).elim
  · rename_i x y hx
    obtain ⟨p, q, hpq, rfl, rfl⟩ := args2 x y hx
    split at h
    · rename_i t ts hts
      split at h
      · rename_i e ht
        exact copy_ok hm (hev p) (hev q) ho hb hpq hts ht h
      · exact (run_fail h).elim
    · exact (run_fail h).elim
  · rename_i x hx
    obtain ⟨p, hp, rfl⟩ := args1 x hx
    split at h
    · rename_i t ts hts
      split at h
      · rename_i e ht
        exact clear_ok hm (hev p) ho hb hp hts ht h
      · exact (run_fail h).elim
    · exact (run_fail h).elim
  · rename_i kk n r hx
    cases e2 : cl.args.toList with
    | nil => rw [e2] at hx; cases hx
    | cons p l =>
      rw [e2] at hx
      simp only [List.map_cons, List.cons.injEq] at hx
      obtain ⟨hx1, rfl⟩ := hx
      exact min_ok hm hev ho hb e2 hx1 h
  · rename_i kk n r hx
    cases e2 : cl.args.toList with
    | nil => rw [e2] at hx; cases hx
    | cons p l =>
      rw [e2] at hx
      simp only [List.map_cons, List.cons.injEq] at hx
      obtain ⟨hx1, rfl⟩ := hx
      exact max_ok hm hev ho hb e2 hx1 h
  · exact (run_fail h).elim

theorem opA_ok (hm : Mem B c ob w) {T : Table} (hT : TS P T) {M : FuncId → List Bool} {ρ : Operand → Value} {ev : Operand → AV} (hev : ∀ x, V c w (ev x) (ρ x)) (hρ : ∀ v, ρ (.const v) = v) {o : Oper} (h : run T (opA P M ev ob o) = some d) :
    Eff P B c ob w (execOp ρ o) d ∨ CallEff P B c ob w (execOp ρ o) d := by
  unfold opA at h
  simp only at h
  split at h
  case h_1 x ho => exact .inl (.now hm h (v := ρ x) (by unfold execOp; simp only [ho]; rfl) (hev x))
  case h_2 x ho => exact .inl (.now hm h (v := ρ x) (by unfold execOp; simp only [ho]; rfl) (hev x))
  case h_3 x y z ho => exact .inl (pick_ok hm (hev x) (hev y) (hev z) ho h)
  case h_4 t ho => exact .inl (alloc_ok hm ho (fun _ => newId_big _ _) h)
  case h_5 t x ho => exact .inl (box_ok hm (hev x) ho (fun _ => newId_big _ _) h)
  case h_6 t ps ho => exact .inl (build_ok hm hev ho h)
  case h_7 t n ps ho => exact .inl (buildSlice_ok hm (newId_big _ _) hev ho h)
  case h_8 t x ho =>
    obtain ⟨n, hn, h⟩ := run_opt h
    exact .inl (loadA_ok hm hn (hev x) h ho)
  case h_9 t p x ho =>
    obtain ⟨n, hn, h⟩ := run_opt h
    exact .inl (storeA_ok hm hn (hev p) (hev x) (newId_big _ _) h ho)
  case h_10 x ho => exact .inl (nilCheck_ok hm (hev x) ho h)
  case h_11 op t x y yt ho =>
    split at h
    · rename_i hn
      exact .inl (nilA_ok hm (hev x) (by rw [isNilC_ok hn, hρ]) h ho)
    · exact .inl (binA_ok hm (hev x) (hev y) h ho)
  case h_12 op t x ho => exact .inl (unA_ok hm (hev x) h ho)
  case h_13 f a cs ho => exact .inl (makeFunc_ok hm hev ho h)
  case h_14 t l cp ho => exact .inl (makeSlice_ok hm (newId_big _ _) (hev l) (hev cp) ho h)
  case h_15 t x lo hi mx ho => exact .inl (slice_ok hm hev ho h)
  case h_16 t x f ho => exact .inl (fieldAddr_ok hm (hev x) ho h)
  case h_17 t x f ho => exact .inl (field_ok hm (hev x) ho h)
  case h_18 t x i ho => exact .inl (indexAddr_ok hm (hev x) (hev i) ho h)
  case h_19 t x i ho => exact .inl (index_ok hm (hev x) (hev i) ho h)
  case h_20 x i ho => exact .inl (extract_ok hm (hev x) ho h)
  case h_21 s t x ho => exact .inl (conv_ok hm (hev x) ho h)
  case h_22 t hint ho =>
    split at h
    · exact .inl (makeMap_ok hm ho (fun _ => newId_big _ _) h)
    · exact (run_fail h).elim
  case h_23 t x k ok ho =>
    split at h
    · rename_i q n ht hx hk
      split at h
      · rename_i es hq
        exact .inl (lookup_ok hm (hx ▸ hev x) (hk ▸ hev k) ht ho hq h)
      · exact (run_fail h).elim
    · exact (run_fail h).elim
  case h_24 t m k v ho =>
    split at h
    · rename_i q n y ht hx hk hv
      split at h
      · rename_i es hq
        exact .inl (mapUpdate_ok hm (hx ▸ hev m) (hk ▸ hev k) (hv ▸ hev v) ht ho hq h)
      · exact (run_fail h).elim
    · exact (run_fail h).elim
  case h_25 cl ho =>
    split at h
    · rename_i b hb
      exact .inl (builtinA_ok hm hev ho hb h)
    · rename_i f hf
      exact .inr (callV_ok hm hT hev ho hf h)
    · exact (run_fail h).elim
  case h_26 => exact (run_fail h).elim
end
end Go.Proofs.YtafjengmkiepbaaGreat.Am
end
section
/- Rows that are told otherwise. -/
namespace Go.Proofs.YtafjengmkiepbaaGreat.Am
open Go
set_option linter.constructorNameAsVariable false
set_option linter.unusedVariables false
set_option linter.unusedSimpArgs false
section
variable {P : Program} {B : Base} {c : Cx} {w : World}

/-! ### results told as rows of one's own, or as rows that stay -/
theorem conv1_ok {ob : Nat → Option AO} (hm : Mem B c ob w) {cv : Cv} {x y : AV} {u : List (Nat × AO)} {v : Value} (hv : V c w x v) (h : conv1 ob cv x = some (y, u)) : ∃ c', Mem B c' (fup ob u) w ∧ Ext c w c' w ∧ V c' w y v := by
  have triv : some (x, ([] : List (Nat × AO))) = some (y, u) → ∃ c', Mem B c' (fup ob u) w ∧ Ext c w c' w ∧ V c' w y v := fun e => by
    simp only [Option.some.injEq, Prod.mk.injEq] at e
    obtain ⟨rfl, rfl⟩ := e
    exact ⟨c, hm, .refl c w, hv⟩
  cases cv <;> simp only [conv1] at h
  case own t k =>
    split at h
    · split at h
      · rename_i hk hkb
        simp only [Option.some.injEq, Prod.mk.injEq] at h
        obtain ⟨rfl, rfl⟩ := h
        obtain ⟨A, rfl⟩ := hv.inv_nils
        obtain ⟨k1, k2⟩ := hm.put k (.row 0 t []) ⟨none, 0, 0, 0, 0, t.sz, fun _ => False, fun _ _ => undef⟩ w rfl rfl rfl (Nat.le_refl _) (fun _ _ _ => rfl) (fun j hj => by rw [hm.inf_none hk] at hj; cases hj)
          (fun ext => ⟨_, Cx.set_eq _ _ _, rfl, rfl, rfl, Nat.le_refl _, .inl ⟨rfl, rfl⟩⟩) (fun b _ hb => by cases hb) (fun _ => ble_true hkb)
        exact ⟨_, k1, k2, .own k 0 A 0 0 _ (Cx.set_eq _ _ _) (Nat.le_refl _) fun _ => ⟨A, 0, rfl, Nat.le_refl _, rfl, fun h => by omega⟩⟩
      · cases h
    · rename_i o ver lo n
      split at h
      · rename_i v' t' xs ho
        split at h
        · rename_i hvv
          have hvv := beq_true hvv
          subst hvv
          simp only [Option.some.injEq, Prod.mk.injEq] at h
          obtain ⟨rfl, rfl⟩ := h
          obtain ⟨i, p, h1, h2, h3, h4, h5, h6, h7, A, cp, rfl, h8, h9, h10⟩ := sub_head hm (.inl ho) hv
          obtain ⟨i', k1, k2, k3, k4, k5, k6⟩ := hm.obj o _ ho
          rw [h1] at k1
          cases k1
          have hlen : ((xs.drop lo).take n).length = n := by rw [List.length_take, List.length_drop]; omega
          obtain ⟨m1, m2⟩ := hm.put o (.row (v' + 1) t' ((xs.drop lo).take n)) { i with off := i.off + lo * i.sz, cap := cp, len := n, ver := v' + 1 } w rfl rfl rfl (Nat.le_refl _) (fun _ _ _ => rfl)
            (fun j hj => by rw [h1] at hj; cases hj; exact ⟨by show i.ver ≤ v' + 1; omega, fun e => by have e' : v' + 1 = i.ver := e; omega⟩)
            (fun ext => ⟨_, Cx.set_eq _ _ _, rfl, hlen.symm, h4, by rw [hlen]; exact h8, by
              rcases k6 with ⟨q1, q2⟩ | ⟨b, arr, el, q1, q2, q3, q4, q5⟩
              · exact .inl ⟨q1, by show cp = 0; omega⟩
              · refine .inr ⟨b, arr, el, q1, q2, ?_, fun j x hx qq y hy => ?_, q5⟩
                · show i.off + lo * i.sz + cp * t'.sz ≤ arr.size
                  have : i.cap * t'.sz = lo * t'.sz + cp * t'.sz := by rw [← h9, Nat.add_mul]
                  rw [h4]
                  omega
                · have hx2 : xs[lo + j]? = some x := by
                    rw [List.getElem?_take] at hx
                    split at hx
                    · rw [List.getElem?_drop] at hx; exact hx
                    · cases hx
                  have := q4 (lo + j) x hx2 qq y hy
                  show V _ _ y (arr.getD (i.off + lo * i.sz + (j * t'.sz + qq)) undef) ∧ (arr.getD (i.off + lo * i.sz + (j * t'.sz + qq)) undef).oneCell' = true
                  rw [show i.off + lo * i.sz + (j * t'.sz + qq) = i.off + ((lo + j) * t'.sz + qq) by rw [h4, Nat.add_mul]; omega]
                  exact ⟨this.1.ext ext, this.2⟩⟩) (fun b _ hb => .inl ⟨_, i, ho, rfl, h1, hb⟩)
          refine ⟨_, m1, m2, .own o (v' + 1) A n cp _ (Cx.set_eq _ _ _) (Nat.le_refl _) fun _ => ⟨A, cp, rfl, h8, Nat.zero_add _, fun h0 => ?_⟩⟩
          obtain ⟨b, hb, rfl⟩ := h10 h0
          exact ⟨b, hb, by simp⟩
        · cases h
      · cases h
    · rename_i o j q
      split at h
      · rename_i t' xs ho hk
        split at h
        · rename_i hkb hq
          have hq := beq_true hq
          have hkb := ble_true hkb
          subst hq
          simp only [Option.some.injEq, Prod.mk.injEq] at h
          obtain ⟨rfl, rfl⟩ := h
          obtain ⟨i, h1, A, cp, rfl, q1, q2, q3⟩ := nst_row hm ho hv
          have hok : o ≠ k := fun e => by rw [e, hk] at ho; cases ho
          obtain ⟨i0, z1, z2, z3, z4, z5, z6, z7⟩ : ∃ i0 : Inf, i0.ver = 0 ∧ i0.len = (xs.getD j []).length ∧ i0.sz = t'.sz ∧ (xs.getD j []).length ≤ i0.cap ∧ Hd i0 0 (xs.getD j []).length (.slice A (xs.getD j []).length cp) ∧ (∀ b, i0.blk = some b → i.S b) ∧ (∀ c', (∀ b, i0.blk = some b → ¬ c'.F b) → RowB c' w i0 t' (xs.getD j []) False) := by
            by_cases h0 : 0 < cp
            · obtain ⟨b, off, arr', e', p1, p2, p3, p4, p5⟩ := q3 h0
              refine ⟨⟨some b, off, cp, (xs.getD j []).length, 0, t'.sz, fun _ => False, fun _ _ => undef⟩, rfl, rfl, rfl, q1, ⟨A, cp, rfl, q1, by simp, fun _ => ⟨b, rfl, by rw [p1]; simp⟩⟩, fun b' hb' => ?_, fun c' hF => .inr ⟨b, arr', e', rfl, p3, p4, cells_mv p5, ⟨fun h => (hF b rfl h).elim, False.elim⟩⟩⟩
              obtain rfl := Option.some.inj hb'
              exact p2
            · obtain rfl : cp = 0 := by omega
              exact ⟨⟨none, 0, 0, (xs.getD j []).length, 0, t'.sz, fun _ => False, fun _ _ => undef⟩, rfl, rfl, rfl, q1, ⟨A, 0, rfl, q1, by simp, fun h => by omega⟩, (fun b' hb' => nomatch hb'), fun c' hF => .inl ⟨rfl, rfl⟩⟩
          have hS : ∀ b, i0.blk = some b → Blk c ob o b := fun b hb => ⟨_, i, ho, rfl, h1, .inr (z6 b hb)⟩
          obtain ⟨m1, m2⟩ := hm.absorb (ob' := fup ob [(o, .dead), (k, .row 0 t' (xs.getD j []))]) [o] k (.row 0 t' (xs.getD j [])) i0 w rfl rfl rfl (Nat.le_refl _) (fun _ _ _ => rfl) hk hkb (by simp [fup])
            (fun _ q hq => ⟨.dead, by simp at hq; subst hq; simp [fup, hok], rfl, rfl, trivial⟩) (fun q hq hn => by simp at hn; simp [fup, hq, hn])
            (fun ext => ⟨_, Cx.set_eq _ _ _, z1, z2, z3, z4, z7 _ fun b hb hF => (hm.blk (hS b hb)).2 hF⟩) (fun b hb => .inl ⟨o, by simp, hS b hb⟩)
          exact ⟨_, m1, m2, .own k 0 A _ cp _ (Cx.set_eq _ _ _) (Nat.zero_le _) fun _ => by rw [z2]; exact z5⟩
        · cases h
      · cases h
    · exact triv h
  case lst t =>
    split at h
    · simp only [Option.some.injEq, Prod.mk.injEq] at h
      obtain ⟨rfl, rfl⟩ := h
      obtain ⟨A, rfl⟩ := hv.inv_nils
      exact ⟨c, hm, .refl c w, .lst t [] A 0 (fun _ => undef) (by simp) (fun h0 => by simp at h0) (fun j x hx => by simp at hx)⟩
    · obtain ⟨c', k1, k2, k3, k4⟩ := frz1_ok hm (.refl ob) h hv
      exact ⟨c', k1, k3, k4⟩
    · rename_i o ver lo n
      split at h
      · rename_i v' t' xs ho
        split at h
        · rename_i hvv
          have hvv := beq_true hvv
          subst hvv
          simp only [Option.some.injEq, Prod.mk.injEq] at h
          obtain ⟨rfl, rfl⟩ := h
          obtain ⟨i, p, h1, h2, h3, h4, h5, h6, h7, h8⟩ := sub_head hm (.inl ho) hv
          obtain ⟨m1, m2⟩ := hm.freeze ho
          obtain ⟨i', k1, k2, k3, k4, k5, k6⟩ := m1.obj o (.fro v' t' xs) (by simp [fup])
          have k1 : c.inf o = some i' := k1
          rw [h1] at k1
          cases k1
          exact ⟨_, m1, m2, own_lst h3 h4 k6 h7 h8⟩
        · cases h
      · rename_i v' t' xs ho
        split at h
        · rename_i hvv
          have hvv := beq_true hvv
          subst hvv
          simp only [Option.some.injEq, Prod.mk.injEq] at h
          obtain ⟨rfl, rfl⟩ := h
          obtain ⟨i, p, h1, h2, h3, h4, h5, h6, h7, h8⟩ := sub_head hm (.inr ho) hv
          obtain ⟨i', k1, k2, k3, k4, k5, k6⟩ := hm.obj o _ ho
          rw [h1] at k1
          cases k1
          exact ⟨c, hm, .refl c w, own_lst h3 h4 k6 h7 h8⟩
        · cases h
      · cases h
    · exact triv h
  all_goals exact triv h
theorem convF_ok : ∀ (as : List AV) (cvs : List Cv) (ob : List (Nat × AO)) (l : List AV) (ob' : List (Nat × AO)) (c : Cx), convL.convF cvs ob as = some (l, ob') → Mem B c (look ob) w → ∀ (g : Nat → Value), (∀ j y, as[j]? = some y → V c w y (g j)) → ∃ c', Mem B c' (look ob') w ∧ Ext c w c' w ∧ l.length = as.length ∧ ∀ j y, l[j]? = some y → V c' w y (g j)
  | [], cvs, ob, l, ob', c, h, hm, g, hg => by
    simp only [convL.convF, Option.some.injEq, Prod.mk.injEq] at h
    obtain ⟨rfl, rfl⟩ := h
    exact ⟨c, hm, .refl c w, rfl, by simp⟩
  | a :: r, cvs, ob, l, ob', c, h, hm, g, hg => by
    simp only [convL.convF] at h
    split at h
    · split at h
      · rename_i l1 ob1 h1
        simp only [Option.some.injEq, Prod.mk.injEq] at h
        obtain ⟨rfl, rfl⟩ := h
        obtain ⟨c', k1, k2, k3, k4⟩ := convF_ok r [] ob l1 ob1 c h1 hm (fun j => g (j + 1)) fun j y hy => hg (j + 1) y (by simpa using hy)
        refine ⟨c', k1, k2, by simp [k3], fun j y hy => ?_⟩
        cases j with
        | zero => simp at hy; subst hy; exact (hg 0 a rfl).ext k2
        | succ j => exact k4 j y (by simpa using hy)
      · cases h
    · split at h
      · rename_i b u hcv
        split at h
        · rename_i l1 ob1 h1
          simp only [Option.some.injEq, Prod.mk.injEq] at h
          obtain ⟨rfl, rfl⟩ := h
          obtain ⟨c1, m1, m2, m3⟩ := conv1_ok hm (hg 0 a rfl) hcv
          obtain ⟨c', k1, k2, k3, k4⟩ := convF_ok r _ (upds ob u) l1 ob1 c1 h1 (by rw [look_upds]; exact m1) (fun j => g (j + 1)) fun j y hy => (hg (j + 1) y (by simpa using hy)).ext m2
          refine ⟨c', k1, m2.trans k2, by simp [k3], fun j y hy => ?_⟩
          cases j with
          | zero => simp at hy; subst hy; exact m3.ext k2
          | succ j => exact k4 j y (by simpa using hy)
        · cases h
      · cases h
theorem convL_ok : ∀ (as : List AV) (cvs : List Cv) (ob : List (Nat × AO)) (l : List AV) (ob' : List (Nat × AO)) (c : Cx), convL cvs ob as = some (l, ob') → Mem B c (look ob) w → ∀ (g : Nat → Value), (∀ j y, as[j]? = some y → V c w y (g j)) → ∃ c', Mem B c' (look ob') w ∧ Ext c w c' w ∧ l.length = as.length ∧ ∀ j y, l[j]? = some y → V c' w y (g j)
  | [], cvs, ob, l, ob', c, h, hm, g, hg => by
    simp only [convL, Option.some.injEq, Prod.mk.injEq] at h
    obtain ⟨rfl, rfl⟩ := h
    exact ⟨c, hm, .refl c w, rfl, by simp⟩
  | a :: r, cvs, ob, l, ob', c, h, hm, g, hg => by
    have fin : ∀ (b : AV) (ob1 : List (Nat × AO)) (m : List Cv) (l1 : List AV) (ob2 : List (Nat × AO)) (c1 : Cx), Mem B c1 (look ob1) w → Ext c w c1 w → V c1 w b (g 0) → convL m ob1 r = some (l1, ob2) → l = b :: l1 → ob' = ob2 → ∃ c', Mem B c' (look ob') w ∧ Ext c w c' w ∧ l.length = (a :: r).length ∧ ∀ j y, l[j]? = some y → V c' w y (g j) := fun b ob1 m l1 ob2 c1 m1 m2 m3 h1 e1 e2 => by
      subst e1 e2
      obtain ⟨c', k1, k2, k3, k4⟩ := convL_ok r m ob1 l1 ob' c1 h1 m1 (fun j => g (j + 1)) fun j y hy => (hg (j + 1) y (by simpa using hy)).ext m2
      refine ⟨c', k1, m2.trans k2, by simp [k3], fun j y hy => ?_⟩
      cases j with
      | zero => simp at hy; subst hy; exact m3.ext k2
      | succ j => exact k4 j y (by simpa using hy)
    simp only [convL] at h
    split at h
    · split at h
      · rename_i l1 ob1 h1
        simp only [Option.some.injEq, Prod.mk.injEq] at h
        exact fin a ob [] l1 ob1 c hm (.refl c w) (hg 0 a rfl) h1 h.1.symm h.2.symm
      · cases h
    · split at h
      · rename_i as
        split at h
        · rename_i as' ob1 h1
          split at h
          · rename_i l1 ob2 h2
            simp only [Option.some.injEq, Prod.mk.injEq] at h
            obtain ⟨vs, ev, q1, q2, q3⟩ := (hg 0 _ rfl).inv_agg
            obtain ⟨c1, m1, m2, m3, m4⟩ := convF_ok as _ ob as' ob1 c h1 hm (fun j => vs.getD j undef) q3
            refine fin (.agg as') ob1 _ l1 ob2 c1 m1 m2 ?_ h2 h.1.symm h.2.symm
            rw [ev]
            exact .agg as' vs (by rw [q1, m3]) (fun j hj => q2 j (by rw [← m3]; exact hj)) m4
          · cases h
        · cases h
      · cases h
    · split at h
      · rename_i b u hcv
        split at h
        · rename_i l1 ob1 h1
          simp only [Option.some.injEq, Prod.mk.injEq] at h
          obtain ⟨c1, m1, m2, m3⟩ := conv1_ok hm (hg 0 a rfl) hcv
          exact fin b _ _ l1 ob1 c1 (by rw [look_upds]; exact m1) m2 m3 h1 h.1.symm h.2.symm
        · cases h
      · cases h

end
end Go.Proofs.YtafjengmkiepbaaGreat.Am
end
section
/- Objects that are called otherwise, or go. -/
namespace Go.Proofs.YtafjengmkiepbaaGreat.Am
open Go
set_option linter.constructorNameAsVariable false
set_option linter.unusedVariables false
set_option linter.unusedSimpArgs false
section
variable {P : Program} {B : Base} {c : Cx} {ob : Nat → Option AO} {w : World}

theorem names_mem (nm : Nat → Nat → Nat) (bump : List Nat) : ∀ (L : List Nat) (i : Nat) (o n v : Nat), (o, n, v) ∈ names ob nm bump i L → ∃ a, ob o = some a ∧ isDead a = false ∧ (isBox a = true → v = 0)
  | [], i, o, n, v, h => by simp [names] at h
  | x :: r, i, o, n, v, h => by
    simp only [names] at h
    split at h
    · rename_i a ha
      split at h
      · rename_i hd
        rcases List.mem_cons.1 h with h | h
        · simp only [Prod.mk.injEq] at h
          obtain ⟨rfl, rfl, rfl⟩ := h
          exact ⟨a, ha, hd, fun hb => by rw [hb]⟩
        · exact names_mem nm bump r (i + 1) o n v h
      · exact names_mem nm bump r (i + 1) o n v h
    · exact names_mem nm bump r (i + 1) o n v h
theorem names_nm (nm : Nat → Nat → Nat) (bump : List Nat) : ∀ (L : List Nat) (i : Nat) (o n v : Nat), (o, n, v) ∈ names ob nm bump i L → (∃ j, n = nm j o ∧ i ≤ j ∧ L[j - i]? = some o) ∧ ∃ a, ob o = some a ∧ isDead a = false ∧ (v = 0 → o < 1000 → verO a = 0)
  | [], i, o, n, v, h => by simp [names] at h
  | x :: r, i, o, n, v, h => by
    simp only [names] at h
    have rest : (o, n, v) ∈ names ob nm bump (i + 1) r → (∃ j, n = nm j o ∧ i ≤ j ∧ (x :: r)[j - i]? = some o) ∧ ∃ a, ob o = some a ∧ isDead a = false ∧ (v = 0 → o < 1000 → verO a = 0) := fun h => by
      obtain ⟨⟨j, h1, h2, h3⟩, h4⟩ := names_nm nm bump r (i + 1) o n v h
      exact ⟨⟨j, h1, by omega, by rw [show j - i = (j - (i + 1)) + 1 by omega, List.getElem?_cons_succ]; exact h3⟩, h4⟩
    split at h
    · rename_i a ha
      split at h
      · rename_i hd
        rcases List.mem_cons.1 h with h | h
        · simp only [Prod.mk.injEq] at h
          obtain ⟨rfl, rfl, rfl⟩ := h
          refine ⟨⟨i, rfl, Nat.le_refl _, by simp⟩, a, ha, hd, fun hv ho => ?_⟩
          have hlt : Nat.blt o 1000 = true := Nat.ble_eq_true_of_le ho
          cases a with
          | row v t xs =>
            simp only [isBox, newV, hlt] at hv
            split at hv <;> first | (simp at hv; done) | (rename_i h2 h3; exact h3) | (exact absurd hv (by simp))
          | fro v t xs =>
            simp only [isBox, newV, hlt] at hv
            split at hv <;> first | (simp at hv; done) | (rename_i h2 h3; exact h3) | (exact absurd hv (by simp))
          | box cs => rfl
          | tree t xs => rfl
          | mpo es => rfl
          | fwd k => rfl
          | dead => rfl
        · exact rest h
      · exact rest h
    · exact rest h
theorem rnm_mem : ∀ (K : List (Nat × Nat × Nat)) (o v o' v' : Nat), rnm ob K o v = some (o', v') → (o, o', v') ∈ K ∧ ∃ a, ob o = some a ∧ verO a = v
  | [], o, v, o', v', h => by simp [rnm] at h
  | (x, n, u) :: r, o, v, o', v', h => by
    simp only [rnm] at h
    split at h
    · rename_i hx
      have hx := beq_true hx
      subst hx
      split at h
      · rename_i a ha
        split at h
        · rename_i hv
          simp only [Option.some.injEq, Prod.mk.injEq] at h
          obtain ⟨rfl, rfl⟩ := h
          exact ⟨List.mem_cons_self, a, ha, beq_true hv⟩
        · cases h
      · cases h
    · obtain ⟨h1, h2⟩ := rnm_mem r o v o' v' h
      exact ⟨List.mem_cons_of_mem _ h1, h2⟩
theorem fsts_mem : ∀ (K : List (Nat × Nat × Nat)) (o n v : Nat), (o, n, v) ∈ K → o ∈ fsts K
  | [], o, n, v, h => by cases h
  | (x, y, z) :: r, o, n, v, h => by
    simp only [fsts]
    rcases List.mem_cons.1 h with h | h
    · simp only [Prod.mk.injEq] at h
      rw [h.1]
      exact List.mem_cons_self
    · exact List.mem_cons_of_mem _ (fsts_mem r o n v h)
theorem snds_mem : ∀ (K : List (Nat × Nat × Nat)) (o n v : Nat), (o, n, v) ∈ K → n ∈ snds K
  | [], o, n, v, h => by cases h
  | (x, y, z) :: r, o, n, v, h => by
    simp only [snds]
    rcases List.mem_cons.1 h with h | h
    · simp only [Prod.mk.injEq] at h
      rw [h.2.1]
      exact List.mem_cons_self
    · exact List.mem_cons_of_mem _ (snds_mem r o n v h)
theorem nodupB_cons {a : Nat} {r : List Nat} (h : nodupB (a :: r) = true) : ¬ a ∈ r ∧ nodupB r = true := by
  simp only [nodupB] at h
  split at h
  · cases h
  · rename_i hh
    exact ⟨has_mem _ _ hh, h⟩
theorem fsts_inj : ∀ (K : List (Nat × Nat × Nat)), nodupB (fsts K) = true → ∀ (o n v n' v' : Nat), (o, n, v) ∈ K → (o, n', v') ∈ K → n = n' ∧ v = v'
  | [], _, o, n, v, n', v', h, _ => by cases h
  | (x, y, z) :: r, hn, o, n, v, n', v', h, h' => by
    obtain ⟨h1, h2⟩ := nodupB_cons hn
    rcases List.mem_cons.1 h with h | h
    · rcases List.mem_cons.1 h' with h' | h'
      · simp only [Prod.mk.injEq] at h h'
        exact ⟨h.2.1.trans h'.2.1.symm, h.2.2.trans h'.2.2.symm⟩
      · simp only [Prod.mk.injEq] at h
        rw [h.1] at h'
        exact absurd (fsts_mem r _ _ _ h') h1
    · rcases List.mem_cons.1 h' with h' | h'
      · simp only [Prod.mk.injEq] at h'
        rw [h'.1] at h
        exact absurd (fsts_mem r _ _ _ h) h1
      · exact fsts_inj r h2 o n v n' v' h h'
theorem snds_inj : ∀ (K : List (Nat × Nat × Nat)), nodupB (snds K) = true → ∀ (o n v o' v' : Nat), (o, n, v) ∈ K → (o', n, v') ∈ K → o = o' ∧ v = v'
  | [], _, o, n, v, n', v', h, _ => by cases h
  | (x, y, z) :: r, hn, o, n, v, o', v', h, h' => by
    obtain ⟨h1, h2⟩ := nodupB_cons hn
    rcases List.mem_cons.1 h with h | h
    · rcases List.mem_cons.1 h' with h' | h'
      · simp only [Prod.mk.injEq] at h h'
        exact ⟨h.1.trans h'.1.symm, h.2.2.trans h'.2.2.symm⟩
      · simp only [Prod.mk.injEq] at h
        rw [h.2.1] at h'
        exact absurd (snds_mem r _ _ _ h') h1
    · rcases List.mem_cons.1 h' with h' | h'
      · simp only [Prod.mk.injEq] at h'
        rw [h'.2.1] at h
        exact absurd (snds_mem r _ _ _ h) h1
      · exact snds_inj r h2 o n v o' v' h h'

/-- all of it under new names -/
theorem Mem.names (hm : Mem B c ob w) {K : List (Nat × Nat × Nat)} (h1 : nodupB (fsts K) = true) (h2 : nodupB (snds K) = true) (hK : ∀ o n v, (o, n, v) ∈ K → ∃ a, ob o = some a ∧ isDead a = false ∧ (isBox a = true → v = 0)) {ob' : Nat → Option AO}
    (hob : ∀ n x, ob' n = some x → x = .dead ∨ ∃ o v a, (o, n, v) ∈ K ∧ ob o = some a ∧ x = renO (rnm ob K) v a) (hob' : ∀ o n v, (o, n, v) ∈ K → ∃ x, ob' n = some x) :
    ∃ c', Mem B c' ob' w ∧ Ren (rnm ob K) c w c' w ∧ c'.F = c.F ∧ ∀ n i, c'.inf n = some i → ∃ o v i0, (o, n, v) ∈ K ∧ c.inf o = some i0 ∧ i = { i0 with ver := v } := by
  classical
  let c' : Cx := ⟨fun n => if h : ∃ p : Nat × Nat, (p.1, n, p.2) ∈ K then (c.inf (Classical.choose h).1).map fun i => { i with ver := (Classical.choose h).2 } else none, c.F⟩
  have hinf : ∀ o n v, (o, n, v) ∈ K → c'.inf n = (c.inf o).map fun i => { i with ver := v } := fun o n v h => by
    have hex : ∃ p : Nat × Nat, (p.1, n, p.2) ∈ K := ⟨(o, v), h⟩
    show (if h : ∃ p : Nat × Nat, (p.1, n, p.2) ∈ K then _ else none) = _
    rw [dif_pos hex]
    obtain ⟨e1, e2⟩ := snds_inj K h2 _ _ _ _ _ (Classical.choose_spec hex) h
    rw [e1, e2]
  have hinf' : ∀ n i, c'.inf n = some i → ∃ o v i0, (o, n, v) ∈ K ∧ c.inf o = some i0 ∧ i = { i0 with ver := v } := fun n i h => by
    have h : (if h : ∃ p : Nat × Nat, (p.1, n, p.2) ∈ K then (c.inf (Classical.choose h).1).map fun i => { i with ver := (Classical.choose h).2 } else none) = some i := h
    split at h
    · rename_i hex
      obtain ⟨i0, e1, e2⟩ := Option.map_eq_some_iff.1 h
      exact ⟨_, _, i0, Classical.choose_spec hex, e1, e2.symm⟩
    · cases h
  have hren : Ren (rnm ob K) c w c' w := by
    refine ⟨fun b h => h, fun o v o' v' hρ i hi hv => ?_, fun _ _ => rfl⟩
    obtain ⟨k1, a, k2, k3⟩ := rnm_mem K o v o' v' hρ
    obtain ⟨a', k4, k5, k6⟩ := hK o o' v' k1
    rw [k2] at k4
    cases k4
    have hver := hm.ver k2 k5 hi
    exact ⟨{ i with ver := v' }, by rw [hinf o o' v' k1, hi]; rfl, Nat.le_refl _, fun _ => ⟨by omega, rfl, rfl, rfl, rfl, rfl, rfl⟩⟩
  have nd : ∀ o a, ob o = some a → isDead a = false → ∃ i, c.inf o = some i := fun o a ha hd => by
    have hor := hm.obj o a ha
    cases a with
    | dead => simp [isDead] at hd
    | box cs => obtain ⟨i0, _, _, _, h1, _⟩ := hor; exact ⟨i0, h1⟩
    | row v t xs => obtain ⟨i0, h1, _⟩ := hor; exact ⟨i0, h1⟩
    | fro v t xs => obtain ⟨i0, h1, _⟩ := hor; exact ⟨i0, h1⟩
    | tree t xs => obtain ⟨i0, h1, _⟩ := hor; exact ⟨i0, h1⟩
    | mpo es => obtain ⟨i0, _, _, _, h1, _⟩ := hor; exact ⟨i0, h1⟩
    | fwd k => simp [isDead] at hd
  have back : ∀ n x i b, ob' n = some x → live x = true → c'.inf n = some i → ofB x i b → ∃ o v a i0, (o, n, v) ∈ K ∧ ob o = some a ∧ live a = true ∧ c.inf o = some i0 ∧ ofB a i0 b := fun n x i b hx hl hi hb => by
    rcases hob n x hx with rfl | ⟨o, v, a, k1, k2, rfl⟩
    · simp [live] at hl
    · rw [live_renO] at hl
      rw [hinf o n v k1] at hi
      obtain ⟨i0, e1, rfl⟩ := Option.map_eq_some_iff.1 hi
      rw [ofB_ren] at hb
      exact ⟨o, v, a, i0, k1, k2, hl, e1, hb⟩
  refine ⟨c', ⟨hm.os, hm.tape, hm.output, hm.size, hm.frame, fun n x hx => ?_, fun n i hi => ?_, ?_, hm.F, ?_, hm.F0, hm.Fn⟩, hren, rfl, hinf'⟩
  · rcases hob n x hx with rfl | ⟨o, v, a, k1, k2, rfl⟩
    · trivial
    · obtain ⟨a', k3, k4, k5⟩ := hK o n v k1
      rw [k2] at k3
      cases k3
      obtain ⟨i0, hi0⟩ := nd o a k2 k4
      exact (hm.obj o a k2).ren hren (i' := { i0 with ver := v }) hi0 (by rw [hinf o n v k1, hi0]; rfl) rfl rfl rfl rfl rfl rfl rfl rfl k5 (fun _ _ _ => rfl) (fun _ _ _ => Iff.rfl)
  · obtain ⟨o, v, i0, k1, _⟩ := hinf' n i hi
    exact hob' o n v k1
  · intro n n' x x' i i' b hx hx' hl hl' hi hi' hb hb'
    obtain ⟨o, v, a, i0, k1, k2, k3, k4, k5⟩ := back n x i b hx hl hi hb
    obtain ⟨o', v', a', i0', m1, m2, m3, m4, m5⟩ := back n' x' i' b hx' hl' hi' hb'
    have := hm.inj o o' a a' i0 i0' b k2 m2 k3 m3 k4 m4 k5 m5
    subst this
    exact (fsts_inj K h1 o n v n' v' k1 m1).1
  · intro n x i b hx hl hi hb
    obtain ⟨o, v, a, i0, k1, k2, k3, k4, k5⟩ := back n x i b hx hl hi hb
    exact hm.own o a i0 b k2 k3 k4 k5

theorem objs_look (ρ : Nat → Nat → Option (Nat × Nat)) : ∀ (K : List (Nat × Nat × Nat)) (n : Nat) (x : AO), look (objs ob ρ K) n = some x → ∃ o v a, (o, n, v) ∈ K ∧ ob o = some a ∧ x = renO ρ v a
  | [], n, x, h => by simp [objs, look] at h
  | (o, m, v) :: r, n, x, h => by
    simp only [objs] at h
    split at h
    · rename_i a ha
      simp only [look] at h
      split at h
      · rename_i hb
        have := beq_true hb
        simp only [Option.some.injEq] at h
        subst this h
        exact ⟨o, v, a, List.mem_cons_self, ha, rfl⟩
      · obtain ⟨o', v', a', h1, h2, h3⟩ := objs_look ρ r n x h
        exact ⟨o', v', a', List.mem_cons_of_mem _ h1, h2, h3⟩
    · obtain ⟨o', v', a', h1, h2, h3⟩ := objs_look ρ r n x h
      exact ⟨o', v', a', List.mem_cons_of_mem _ h1, h2, h3⟩
theorem objs_has (ρ : Nat → Nat → Option (Nat × Nat)) : ∀ (K : List (Nat × Nat × Nat)) (o n v : Nat) (a : AO), (o, n, v) ∈ K → ob o = some a → ∃ x, look (objs ob ρ K) n = some x
  | [], o, n, v, a, h, _ => by cases h
  | (o', m, u) :: r, o, n, v, a, h, ha => by
    simp only [objs]
    rcases List.mem_cons.1 h with h | h
    · simp only [Prod.mk.injEq] at h
      obtain ⟨rfl, rfl, rfl⟩ := h
      rw [ha]
      exact ⟨_, by simp [look]; rfl⟩
    · obtain ⟨x, hx⟩ := objs_has ρ r o n v a h ha
      split
      · simp only [look]
        split
        · exact ⟨_, rfl⟩
        · exact ⟨x, hx⟩
      · exact ⟨x, hx⟩

/-! ### the machine's state -/
structure RelS (B : Base) (N : Nat) (c : Cx) (st : St) (a : Act) (w : World) : Prop where
  mem : Mem B c (look st.ob) w
  tms : Tms c w st a
  sz : N ≤ a.tmps.size
  dfs : a.defers = []
  pas : ∀ o i i', B.I o = some i → c.inf o = some i' → i'.ver = 0 → i' = i
  Ib : ∀ o i, B.I o = some i → o < 1000

theorem keepT_get (st : St) (ρ : Nat → Nat → Option (Nat × Nat)) : ∀ (l : List Nat) (t : Nat) (x : AV), look (keepT st ρ l) t = some x → x = ren ρ (st.get t)
  | [], t, x, h => by simp [keepT, look] at h
  | y :: r, t, x, h => by
    simp only [keepT, look] at h
    split at h
    · rename_i hb
      have := beq_true hb
      simp only [Option.some.injEq] at h
      subst this h
      rfl
    · exact keepT_get st ρ r t x h
theorem clean_ok {N : Nat} {st st' : St} {a : Act} {l bump : List Nat} (hr : RelS B N c st a w) (h : clean st l bump = some st') : ∃ c', RelS B N c' st' a w := by
  unfold clean at h
  split at h
  case h_2 => cases h
  rename_i hck
  rw [Bool.and_eq_true] at hck
  simp only [Option.some.injEq] at h
  subst h
  have hK : ∀ o n v, (o, n, v) ∈ cleanK st l bump → ∃ a, look st.ob o = some a ∧ isDead a = false ∧ (isBox a = true → v = 0) := fun o n v h => names_mem _ _ _ _ o n v h
  obtain ⟨c', m1, m2, m3, m4⟩ := hr.mem.names (ob' := look (objs (look st.ob) (rnm (look st.ob) (cleanK st l bump)) (cleanK st l bump))) hck.1 hck.2 hK (fun n x hx => .inr (objs_look _ _ n x hx)) (fun o n v h => by
    obtain ⟨a, ha, _⟩ := hK o n v h
    exact objs_has _ _ o n v a h ha)
  refine ⟨c', m1, fun t => ?_, hr.sz, hr.dfs, fun n i i' hI hi' hv => ?_, hr.Ib⟩
  case refine_2 =>
    obtain ⟨o, v, i0, k1, k2, rfl⟩ := m4 n i' hi'
    have hv : v = 0 := hv
    subst hv
    obtain ⟨q1, q2⟩ := names_nm _ _ _ _ o n 0 k1
    obtain ⟨j, q1, _⟩ := q1
    have hn := hr.Ib n i hI
    have hno : n = o := by
      unfold loopNm at q1
      split at q1
      · exact q1
      · omega
    subst hno
    obtain ⟨x, hx, hd, hver⟩ := q2
    have h0 : verO x = 0 := hver rfl hn
    have := hr.mem.ver hx hd k2
    rw [h0] at this
    have e := hr.pas n i i0 hI k2 this.symm
    subst e
    cases i0
    simp only at this
    subst this
    rfl
  show V c' w (match look (keepT st (rnm (look st.ob) (cleanK st l bump)) l) t with | some a => a | none => .bad) _
  split
  · rename_i x hx
    rw [keepT_get st _ l t x hx]
    exact (hr.tms t).ren m2
  · exact .bad _
theorem RelS.re {N : Nat} {st : St} {a : Act} (hr : RelS B N c st a w) {c' : Cx} {st' : St} (hm : Mem B c' (look st'.ob) w) (he : Ext c w c' w) (ht : ∀ t, V c' w (st'.get t) (a.tmps.getD t undef)) : RelS B N c' st' a w := by
  refine ⟨hm, ht, hr.sz, hr.dfs, fun o i i' hI hi' hv => ?_, hr.Ib⟩
  cases h0 : c.inf o with
  | none => rw [he.nw o (hr.Ib o i hI) h0] at hi'; cases hi'
  | some i1 =>
    obtain ⟨i2, k1, k2, k3⟩ := he.inf o i1 h0
    rw [hi'] at k1
    cases k1
    have := k3 (by omega)
    subst this
    exact hr.pas o i _ hI h0 hv
theorem convT_ok {N : Nat} {a : Act} : ∀ (l : List (Nat × Cv)) (st st' : St) (c : Cx), RelS B N c st a w → convT l st = some st' → ∃ c', RelS B N c' st' a w
  | [], st, st', c, hr, h => by
    simp only [convT, Option.some.injEq] at h
    subst h
    exact ⟨c, hr⟩
  | p :: r, st, st', c, hr, h => by
    simp only [convT] at h
    split at h
    · rename_i b ob' h1
      obtain ⟨c1, k1, k2, k3, k4⟩ := convL_ok [st.get p.1] [p.2] st.ob [b] ob' c h1 hr.mem (fun _ => a.tmps.getD p.1 undef) (fun j y hy => by
        cases j with
        | zero => simp at hy; subst hy; exact hr.tms p.1
        | succ j => simp at hy)
      refine convT_ok r _ st' c1 (hr.re k1 k2 fun t => ?_) h
      have : St.get ⟨upd st.tm p.1 b, ob'⟩ t = if t = p.1 then b else st.get t := by
        unfold St.get
        simp only [look_upd]
        by_cases h : t = p.1 <;> simp [h]
      rw [this]
      by_cases e : t = p.1
      · rw [if_pos e, e]
        exact k4 0 b rfl
      · rw [if_neg e]
        exact (hr.tms t).ext k2
    · cases h
theorem upd_fup (l : List (Nat × AO)) (k : Nat) (x : AO) : look (upd l k x) = fup (look l) [(k, x)] := funext fun o => look_upd l k x o
theorem convB_ok {N : Nat} {a : Act} : ∀ (l : List (Nat × List Cv)) (st st' : St) (c : Cx), RelS B N c st a w → convB l st = some st' → ∃ c', RelS B N c' st' a w
  | [], st, st', c, hr, h => by
    simp only [convB, Option.some.injEq] at h
    subst h
    exact ⟨c, hr⟩
  | p :: r, st, st', c, hr, h => by
    simp only [convB] at h
    split at h
    · rename_i cs ho
      split at h
      · rename_i cs' ob' h1
        split at h
        · rename_i cs0 ho'
          obtain ⟨i, b, arr, el, q1, q2, q3, q4, q5, q6⟩ := hr.mem.obj _ _ ho
          obtain ⟨c1, k1, k2, k3, k4⟩ := convF_ok cs p.2 st.ob cs' ob' c h1 hr.mem (fun j => arr.getD j undef) q5.2.2
          obtain ⟨i', b', arr', el', m1, m2, m3, m4, m5, m6⟩ := k1.obj _ _ ho'
          obtain ⟨i2, n1, n2, n3⟩ := k2.inf _ _ q1
          rw [m1] at n1
          cases n1
          have := n3 (by omega)
          subst this
          rw [q3] at m3
          cases m3
          rw [q4] at m4
          cases m4
          obtain ⟨z1, z2⟩ := k1.put p.1 (.box cs') i' w rfl rfl rfl (Nat.le_refl _) (fun _ _ _ => rfl) (fun j hj => by rw [m1] at hj; cases hj; exact ⟨Nat.le_refl _, fun _ => rfl⟩)
            (fun ext => ⟨i', b, arr, el, Cx.set_eq _ _ _, m2, q3, q4, ⟨by rw [q5.1, k3], fun j hj => q5.2.1 j (by rw [← k3]; exact hj), fun j y hy => (k4 j y hy).ext ext⟩, m6⟩)
            (fun b2 _ hb2 => .inl ⟨_, i', ho', rfl, m1, hb2⟩) (fun h0 => by rw [m1] at h0; cases h0)
          refine convB_ok r _ st' _ (hr.re (c' := c1.set p.1 i') (st' := ⟨st.tm, upd ob' p.1 (.box cs')⟩) (by show Mem B _ (look (upd ob' p.1 (.box cs'))) w; rw [upd_fup]; exact z1) (k2.trans z2) fun t => ((hr.tms t).ext k2).ext z2) h
        · cases h
      · cases h
    · exact convB_ok r st st' c hr h
theorem cleanH_ok {N : Nat} {st st' : St} {a : Act} {hd : Hd_} (hr : RelS B N c st a w) (h : cleanH hd st = some st') : ∃ c', RelS B N c' st' a w := by
  unfold cleanH at h
  split at h
  · rename_i st1 h1
    obtain ⟨c1, hr1⟩ := convT_ok _ st st1 c hr h1
    split at h
    · rename_i st2 h2
      obtain ⟨c2, hr2⟩ := convB_ok _ st1 st2 c1 hr1 h2
      exact clean_ok hr2 h
    · cases h
  · cases h
theorem cleanAt_ok {N : Nat} {st st' : St} {a : Act} {cl : Cl_} {body : Code} (hr : RelS B N c st a w) (h : cleanAt cl body st = some st') : ∃ c', RelS B N c' st' a w := by
  unfold cleanAt at h
  split at h
  · split at h
    · exact cleanH_ok hr h
    · simp only [Option.some.injEq] at h; subst h; exact ⟨c, hr⟩
  · simp only [Option.some.injEq] at h; subst h; exact ⟨c, hr⟩
end
end Go.Proofs.YtafjengmkiepbaaGreat.Am
end
section
/- What the machine of values answers, the program answers: text by text. -/
namespace Go.Proofs.YtafjengmkiepbaaGreat.Am
open Go
set_option linter.constructorNameAsVariable false
set_option linter.unusedVariables false
set_option linter.unusedSimpArgs false
section
variable {P : Program} {B : Base} {c : Cx} {w : World} {N : Nat} {st st' : St} {a : Act} {T : Table} {M : FuncId → List Bool} {R : Type}

theorem get_upd (l : List (Nat × AV)) (ob : List (Nat × AO)) (k : Nat) (x : AV) (t : Nat) : St.get ⟨upd l k x, ob⟩ t = if t = k then x else St.get ⟨l, ob⟩ t := by
  unfold St.get
  simp only [look_upd]
  by_cases h : t = k <;> simp [h]
theorem put_get (a : Act) (k : Nat) (v : Value) (t : Nat) (h : k < a.tmps.size) : (a.put (some k) v).tmps.getD t undef = if t = k then v else a.tmps.getD t undef := by
  by_cases e : t = k
  · subst e
    rw [if_pos rfl]
    simp only [Act.put, Array.getD_eq_getD_getElem?]
    rw [Array.getElem?_setIfInBounds_self_of_lt h]
    rfl
  · rw [if_neg e]
    simp only [Act.put, Array.getD_eq_getD_getElem?]
    rw [Array.getElem?_setIfInBounds_ne fun h => e h.symm]
theorem put_size (a : Act) (k : Option Nat) (v : Value) : (a.put k v).tmps.size = a.tmps.size := by
  cases k <;> simp [Act.put]

theorem app_ok (hr : RelS B N c st a w) {c' : Cx} {w' : World} {d : Delta} {dst : Option Nat} {v : Value} (hm : Mem B c' (fup (look st.ob) d.ow) w') (he : Ext c w c' w') (hv : V c' w' d.v v) (hd : ∀ t, dst = some t → t < N) : RelS B N c' (st.app dst d) (a.put dst v) w' := by
  refine ⟨by show Mem B c' (look (upds st.ob d.ow)) w'; rw [look_upds]; exact hm, fun t => ?_, by rw [put_size]; exact hr.sz, by cases dst <;> exact hr.dfs, fun o i i' hI hi' hv => ?_, hr.Ib⟩
  case refine_2 =>
    cases h0 : c.inf o with
    | none => rw [he.nw o (hr.Ib o i hI) h0] at hi'; cases hi'
    | some i1 =>
      obtain ⟨i2, k1, k2, k3⟩ := he.inf o i1 h0
      rw [hi'] at k1
      cases k1
      have := k3 (by omega)
      subst this
      exact hr.pas o i _ hI h0 hv
  cases dst with
  | none => exact (hr.tms t).ext he
  | some k =>
    have hk : k < a.tmps.size := Nat.lt_of_lt_of_le (hd k rfl) hr.sz
    rw [put_get a k v t hk]
    have : (st.app (some k) d).get t = if t = k then d.v else st.get t := get_upd st.tm _ k d.v t
    rw [this]
    by_cases e : t = k
    · rw [if_pos e, if_pos e]; exact hv
    · rw [if_neg e, if_neg e]; exact (hr.tms t).ext he
theorem rel_same (hr : RelS B N c st a w) {g : Nat} {x : AV} (h : st.get g = x) : RelS B N c { st with tm := upd st.tm g x } a w := by
  refine ⟨hr.mem, fun t => ?_, hr.sz, hr.dfs, hr.pas, hr.Ib⟩
  have : St.get { st with tm := upd st.tm g x } t = if t = g then x else st.get t := get_upd st.tm _ g x t
  rw [this]
  by_cases e : t = g
  · rw [if_pos e, ← h, e]; exact hr.tms g
  · rw [if_neg e]; exact hr.tms t
theorem ev_ok (hr : RelS B N c st a w) (x : Operand) : V c w (st.ev x) (a.eval x) := by
  cases x with
  | tmp t => exact hr.tms t
  | const v => exact constV_ok v
  | global g => exact .bad _
  | func f => exact .fn f [] #[] rfl (by simp)

theorem oper_ok (hT : TS P T) (hr : RelS B N c st a w) {o : Oper} {d : Delta} (h : run T (opA P M st.ev (look st.ob) o) = some d) (hd : ∀ t, o.dst = some t → t < N) {K : Act → World → Prop} {Q : Exit → Act → World → Prop}
    (hK : ∀ a' w' c', RelS B N c' (st.app o.dst d) a' w' → K a' w') : o.wp P a w K Q := by
  unfold Oper.wp
  rcases opA_ok (ρ := a.eval) hr.mem hT (ev_ok hr) (fun _ => rfl) h with ⟨v, w', c', hrun, hm, he, hv⟩ | ⟨f, vs, hrun, hc⟩
  · rcases hrun with hrun | ⟨hrun, rfl⟩
    · rw [hrun, Oper.upon_value]
      exact hK _ _ c' (app_ok hr hm he hv hd)
    · rw [hrun, Oper.upon_skip]
      exact hK _ _ c' (app_ok hr hm he hv hd)
  · rw [hrun, Oper.upon_enter]
    exact hc.mono fun e w' ⟨v, c', he, hm, hx, hv⟩ => by subst he; exact hK _ _ c' (app_ok hr hm hx hv hd)

theorem V.inv_und {v : Value} (h : V c w .und v) : v = undef := by cases h; rfl
theorem stepA_ok (hT : TS P T) (hr : RelS B N c st a w) {ops : Array Oper} {o : Oper} (h : run T (stepA P M ops st o) = some st') (hd : ∀ t, o.dst = some t → t < N) {K : Act → World → Prop} {Q : Exit → Act → World → Prop}
    (hK : ∀ a' w' c', RelS B N c' st' a' w' → K a' w') : if Region.wanted o (yielded ops a.tmps) = true then o.wp P a w K Q else K (a.put o.dst undef) w := by
  have skip : ∀ (st0 : St), RelS B N c st0 a w → st0.app o.dst ⟨.und, [], []⟩ = st' → K (a.put o.dst undef) w := fun st0 h0 e => by
    subst e
    exact hK _ _ c (app_ok h0 (d := ⟨.und, [], []⟩) h0.mem (.refl c w) .und hd)
  unfold stepA at h
  split at h
  · rename_i hg
    obtain ⟨d, h1, h2⟩ := run_bind T _ _ _ h
    have h2 := run_ret h2
    subst h2
    have hw : Region.wanted o (yielded ops a.tmps) = true := by simp [Region.wanted, hg]
    rw [if_pos hw]
    exact oper_ok hT hr h1 hd hK
  · rename_i j want hg
    split at h
    · exact (run_fail h).elim
    rename_i g hgd
    have hy : ∀ x, a.tmps.getD g undef = .bool x → yielded ops a.tmps j = some x := fun x e => by
      have hlt : g < a.tmps.size := by
        rcases Nat.lt_or_ge g a.tmps.size with h | h
        · exact h
        · rw [Array.getD_eq_getD_getElem?, Array.getElem?_eq_none h] at e; cases e
      rw [Array.getD_eq_getD_getElem?, Array.getElem?_eq_getElem hlt] at e
      simp only [Option.getD_some] at e
      simp only [yielded, hgd, Option.bind_some, Array.getElem?_eq_getElem hlt, e]
    have hyn : a.tmps.getD g undef = undef → yielded ops a.tmps j = none := fun e => by
      simp only [yielded, hgd, Option.bind_some]
      rcases Nat.lt_or_ge g a.tmps.size with h | h
      · rw [Array.getD_eq_getD_getElem?, Array.getElem?_eq_getElem h] at e
        simp only [Option.getD_some] at e
        rw [Array.getElem?_eq_getElem h, e]
        rfl
      · rw [Array.getElem?_eq_none h]
    have htm := hr.tms g
    split at h
    · rename_i hu
      rw [hu] at htm
      have hw : ¬ Region.wanted o (yielded ops a.tmps) = true := by simp [Region.wanted, hg, hyn (V.inv_und htm)]
      rw [if_neg hw]
      exact skip st hr (run_ret h)
    · rename_i x hx
      rw [hx] at htm
      have hyx := hy x (V.inv_b htm)
      have yes : x = want → run T ((opA P M (St.ev { st with tm := upd st.tm g (.b want) }) (look st.ob) o).bind fun d => .ret (St.app { st with tm := upd st.tm g (.b want) } o.dst d)) = some st' → if Region.wanted o (yielded ops a.tmps) = true then o.wp P a w K Q else K (a.put o.dst undef) w := fun e h => by
        subst e
        obtain ⟨d, h1, h2⟩ := run_bind T _ _ _ h
        have h2 := run_ret h2
        subst h2
        have hw : Region.wanted o (yielded ops a.tmps) = true := by simp [Region.wanted, hg, hyx]
        rw [if_pos hw]
        exact oper_ok hT (rel_same hr hx) h1 hd hK
      have no : x ≠ want → run T (.ret (St.app { st with tm := upd st.tm g (.b (!want)) } o.dst ⟨.und, [], []⟩) : Tree St) = some st' → if Region.wanted o (yielded ops a.tmps) = true then o.wp P a w K Q else K (a.put o.dst undef) w := fun e h => by
        have hxw : x = !want := by cases x <;> cases want <;> first | rfl | exact absurd rfl e
        have hw : ¬ Region.wanted o (yielded ops a.tmps) = true := by
          unfold Region.wanted
          rw [hg]
          simp only [hyx]
          cases x <;> cases want <;> first | exact absurd rfl e | exact Bool.false_ne_true
        rw [if_neg hw]
        exact skip _ (rel_same hr (by rw [hx, hxw])) (run_ret h)
      cases want with
      | true =>
        cases x with
        | true => exact yes rfl h
        | false => exact no (by simp) h
      | false =>
        cases x with
        | true => exact no (by simp) h
        | false => exact yes rfl h
    · exact (run_fail h).elim

theorem dstsOk_get : ∀ (l : List Oper), dstsOk N l = true → ∀ (i : Nat) (o : Oper), l[i]? = some o → ∀ t, o.dst = some t → t < N
  | [], _, i, o, h, _, _ => by simp at h
  | x :: r, hd, i, o, h, t, ht => by
    simp only [dstsOk] at hd
    cases i with
    | zero =>
      simp at h
      subst h
      rw [ht] at hd
      simp only at hd
      split at hd
      · rename_i e
        exact Nat.lt_of_lt_of_le (Nat.lt_succ_self _) (Nat.le_of_ble_eq_true e)
      · cases hd
    | succ i =>
      have hr : dstsOk N r = true := by
        split at hd
        · split at hd
          · exact hd
          · cases hd
        · exact hd
      exact dstsOk_get r hr i o (by simpa using h) t ht

/-- a region, in its text's order -/
theorem regA_ok (hT : TS P T) {ops : Array Oper} (hd : dstsOk N ops.toList = true) {Q : Exit → Act → World → Prop} {st' : St} (hQ : ∀ a' w' c', RelS B N c' st' a' w' → Q .normal a' w') : ∀ (l : List Oper) (i : Nat) (st : St) (c : Cx) (a : Act) (w : World), (∀ j, l[j]? = ops[i + j]?) → RelS B N c st a w → run T (regA P M ops l st) = some st' →
    wpOps P ops Q (List.range' i l.length) a w
  | [], i, st, c, a, w, hl, hr, h => by
    have := run_ret h
    subst this
    exact hQ a w c hr
  | o :: r, i, st, c, a, w, hl, hr, h => by
    obtain ⟨st1, h1, h2⟩ := run_bind T _ _ _ h
    have h0 : ops[i]? = some o := by simpa using (hl 0).symm
    simp only [List.length_cons, List.range'_succ]
    rw [wpOps_cons]
    unfold wpOp
    simp only [h0]
    have hdst : ∀ t, o.dst = some t → t < N := dstsOk_get ops.toList hd i o (by simpa using h0)
    have key := stepA_ok (Q := Q) (K := wpOps P ops Q (List.range' (i + 1) r.length)) hT hr h1 hdst fun a' w' c' hr' => regA_ok hT hd hQ r (i + 1) st1 c' a' w' (fun j => by
      have := hl (j + 1)
      simpa [Nat.add_assoc, Nat.add_comm 1 j] using this) hr' h2
    split at key
    · rename_i hw
      rw [if_pos hw]
      exact .inl key
    · rename_i hw
      rw [if_neg hw]
      exact key

end
end Go.Proofs.YtafjengmkiepbaaGreat.Am
end
section
/- What an operation of the machine of values looks at. -/
namespace Go.Proofs.YtafjengmkiepbaaGreat.Am
open Go
set_option linter.constructorNameAsVariable false
set_option linter.unusedVariables false
set_option linter.unusedSimpArgs false
section
variable {P : Program} {M : FuncId → List Bool} {T : Table} {ob ob' : Nat → Option AO} {d : Delta}

theorem run_opt' {α β : Type} {T : Table} {x : Option α} {f : α → Tree β} {a : α} {b : β} (hx : x = some a) (h : run T (f a) = some b) : run T (opt x f) = some b := by
  rw [hx]; exact h
theorem run_grd' {β : Type} {T : Table} {c : Bool} {t : Tree β} {b : β} (hc : c = true) (h : run T t = some b) : run T (grd c t) = some b := by
  rw [hc]; exact h
theorem run_fresh' {β : Type} {T : Table} {ob : Nat → Option AO} {k : Nat} {t : Tree β} {b : β} (hk : ob k = none) (h : run T t = some b) : run T (fresh ob k t) = some b := by
  unfold fresh; rw [hk]; exact h

theorem rowOf_cg {dflt : Option Ty} {a : AV} {r : RV} (h : rowOf ob dflt a = some r) (hg : ∀ k, k ∈ r.rd → ob' k = ob k) : rowOf ob' dflt a = some r := by
  cases a <;> simp only [rowOf] at h ⊢
  case own o v =>
    have : ob' o = ob o := hg o (by
      split at h
      · split at h
        · simp only [Option.some.injEq] at h; subst h; simp
        · cases h
      · split at h
        · simp only [Option.some.injEq] at h; subst h; simp
        · cases h
      · cases h)
    rw [this]; exact h
  case sub o v lo n =>
    have : ob' o = ob o := hg o (by
      split at h
      · split at h
        · simp only [Option.some.injEq] at h; subst h; simp
        · cases h
      · split at h
        · simp only [Option.some.injEq] at h; subst h; simp
        · cases h
      · cases h)
    rw [this]; exact h
  all_goals exact h
theorem lenA_cg {a : AV} {r : Int × List Nat} (h : lenA ob a = some r) (hg : ∀ k, k ∈ r.2 → ob' k = ob k) : lenA ob' a = some r := by
  cases a <;> simp only [lenA] at h ⊢
  case own o v =>
    split at h
    · rename_i q hq
      simp only [Option.some.injEq] at h; subst h
      rw [rowOf_cg hq hg]
    · split at h
      · rename_i u xs ho
        split at h
        · rename_i hv
          simp only [Option.some.injEq] at h; subst h
          have e : ob' o = some (.tree u xs) := (hg o (by simp)).trans ho
          simp [rowOf, e, hv]
        · cases h
      · cases h
  case sub o v lo n =>
    split at h
    · rename_i q hq
      simp only [Option.some.injEq] at h; subst h
      rw [rowOf_cg hq hg]
    · cases h
  all_goals exact h
theorem frz1_cg {a : AV} {r : AV × List (Nat × AO)} (h : frz1 ob a = some r) (hg : ∀ k, k ∈ r.2.map (·.1) → ob' k = ob k) : frz1 ob' a = some r := by
  cases a <;> simp only [frz1] at h ⊢
  case own o v =>
    have : ob' o = ob o := hg o (by
      split at h
      · split at h
        · simp only [Option.some.injEq] at h; subst h; simp
        · cases h
      · split at h
        · simp only [Option.some.injEq] at h; subst h; simp
        · cases h
      · cases h)
    rw [this]; exact h
  all_goals exact h
theorem frz_cg : ∀ {cs : List AV} {r : List AV × List (Nat × AO)}, frz ob cs = some r → (∀ k, k ∈ r.2.map (·.1) → ob' k = ob k) → frz ob' cs = some r
  | [], r, h, _ => by simpa [frz] using h
  | a :: l, r, h, hg => by
    simp only [frz] at h ⊢
    split at h
    · rename_i b w s w' h1 h2
      simp only [Option.some.injEq] at h; subst h
      rw [frz1_cg h1 fun k hk => hg k (by simp only [List.map_append, List.mem_append]; exact .inl hk), frz_cg h2 fun k hk => hg k (by simp only [List.map_append, List.mem_append]; exact .inr hk)]
    · cases h
theorem load_cg {t : TypeId} {n : Nat} {a : AV} (h : run T (loadA P ob t n a) = some d) (hg : ∀ k, k ∈ d.rd → ob' k = ob k) : run T (loadA P ob' t n a) = some d := by
  cases a <;> simp only [loadA] at h ⊢
  case ptr o off =>
    have : ob' o = ob o := hg o (by
      split at h
      · obtain ⟨_, _, h⟩ := run_opt h
        obtain ⟨_, _, h⟩ := run_opt h
        have := run_ret h; subst this; simp
      · exact (run_fail h).elim)
    rw [this]; exact h
  case eptr o v j off =>
    have key : ∀ (u : Ty) (xs : List u.D), run T (.gt u xs j fun x => opt (cut (view u x) off n) fun l => opt (mkA P t l) fun a => (.ret ⟨a, [], [o]⟩ : TD)) = some d → ob' o = ob o := fun u xs h => hg o (by
      simp only [run] at h
      split at h
      · obtain ⟨_, _, h⟩ := run_opt h
        obtain ⟨_, _, h⟩ := run_opt h
        have := run_ret h; subst this; simp
      · cases h)
    have : ob' o = ob o := by
      split at h
      · split at h
        · exact key _ _ h
        · exact (run_fail h).elim
      · split at h
        · exact key _ _ h
        · exact (run_fail h).elim
      · split at h
        · simp only [run] at h
          split at h
          · split at h
            · obtain ⟨_, _, h⟩ := run_opt h
              have := run_ret h; subst this
              exact hg o (by simp)
            · exact (run_fail h).elim
          · cases h
        · exact (run_fail h).elim
      · exact (run_fail h).elim
    rw [this]; exact h
  all_goals exact h
theorem absOk_cg : ∀ {cs : List AV}, absOk ob cs = true → (∀ o v, AV.own o v ∈ cs → ob' o = ob o) → absOk ob' cs = true
  | [], _, _ => rfl
  | a :: r, h, hg => by
    simp only [absOk, Bool.and_eq_true] at h ⊢
    refine ⟨?_, absOk_cg h.2 fun o v hm => hg o v (List.mem_cons_of_mem _ hm)⟩
    cases a with
    | own o v =>
      have := hg o v (by simp)
      simp only [abs1] at h ⊢
      rw [this]
      exact h.1
    | _ => exact h.1
theorem frz_has : ∀ {cs l : List AV} {fs : List (Nat × AO)}, frz ob cs = some (l, fs) → ∀ o v, AV.own o v ∈ cs → o ∈ fs.map (·.1)
  | [], l, fs, h, o, v, hm => by cases hm
  | a :: q, l, fs, h, o, v, hm => by
    simp only [frz] at h
    split at h
    · rename_i b f1 s f2 g1 g2
      simp only [Option.some.injEq, Prod.mk.injEq] at h
      obtain ⟨rfl, rfl⟩ := h
      rw [List.map_append, List.mem_append]
      rcases List.mem_cons.1 hm with e | hm
      · subst e
        refine .inl ?_
        simp only [frz1] at g1
        split at g1
        · split at g1
          · simp only [Option.some.injEq, Prod.mk.injEq] at g1; rw [← g1.2]; simp
          · cases g1
        · split at g1
          · simp only [Option.some.injEq, Prod.mk.injEq] at g1; rw [← g1.2]; simp
          · cases g1
        · cases g1
      · exact .inr (frz_has g2 o v hm)
    · cases h
theorem absOk_eq : ∀ {cs : List AV}, (∀ o v, AV.own o v ∈ cs → ob' o = ob o) → absOk ob' cs = absOk ob cs
  | [], _ => rfl
  | a :: r, hg => by
    simp only [absOk]
    rw [absOk_eq fun o v hm => hg o v (List.mem_cons_of_mem _ hm)]
    cases a with
    | own o v =>
      simp only [abs1]
      rw [hg o v (by simp)]
    | _ => rfl
theorem litO_cg {tmd : Bool} {k : Nat} {u : Ty} {cs l : List AV} {fs : List (Nat × AO)} {xs : List u.D} (h : frz ob cs = some (l, fs)) (hg : ∀ k, k ∈ fs.map (·.1) → ob' k = ob k) : litO tmd ob' k u cs fs xs = litO tmd ob k u cs fs xs := by
  unfold litO
  rw [absOk_eq fun o v hm => hg o (frz_has h o v hm)]
theorem fresh_cg' {α : Type} {k : Nat} {t : Tree α} {x : α} (h : run T (fresh ob k t) = some x) (hg : ob' k = ob k) : run T (fresh ob' k t) = some x := by
  unfold fresh at h ⊢
  rw [hg]; exact h
theorem absorb_cg {k o v j off : Nat} {u : Ty} {xs : List u.D} {xc : List AV} (h : run T (absorbA ob k o v j off u xs xc) = some d) (hg : ∀ k, k ∈ d.rd ∨ k ∈ d.ow.map (·.1) → ob' k = ob k) : ob' o = ob o ∧ run T (absorbA ob' k o v j off u xs xc) = some d := by
  unfold absorbA at h ⊢
  obtain ⟨w, hw, h1⟩ := run_opt h
  clear h
  split at h1
  case h_2 => exact (run_fail h1).elim
  rename_i hck
  have hd : d.rd = o :: w.2.map (·.1) ∧ k ∈ d.ow.map (·.1) := by
    have h2 := h1
    simp only [run] at h2
    split at h2
    case h_2 => cases h2
    obtain ⟨_, _, h3⟩ := run_opt h2
    obtain ⟨_, h4⟩ := run_fresh h3
    have := run_ret h4
    subst this
    exact ⟨rfl, by simp⟩
  refine ⟨hg o (.inl (by rw [hd.1]; simp)), ?_⟩
  refine run_opt' (frz_cg hw fun k hk => hg k (.inl (by rw [hd.1]; exact List.mem_cons_of_mem _ hk))) ?_
  have hck' := hck
  simp only [Bool.and_eq_true] at hck'
  obtain ⟨g1, g2, g3, g4, g5, g6⟩ := hck'
  have hok : absOk ob' xc = true := absOk_cg g4 fun o1 v1 hm => by
    obtain ⟨r, hr, e⟩ := List.getElem_of_mem hm
    obtain ⟨_, _, fc⟩ := frz_cells xc w.1 w.2 hw g4
    rcases fc r _ (List.getElem?_eq_getElem hr) with ⟨h, _⟩ | ⟨o2, v2, t, ys, e2, _, _, hin⟩
    · rw [e] at h; simp [plainV] at h
    · rw [e] at e2; cases e2
      exact hg o1 (.inl (by rw [hd.1]; exact List.mem_cons_of_mem _ hin))
  have : (Nat.beq v 0 && (Nat.beq off 0 && (Nat.beq xc.length u.sz && (absOk ob' xc && (nestT u && nodup1 (o :: w.2.map (·.1))))))) = true := by
    rw [g1, g2, g3, hok, g5, g6]; rfl
  rw [this]
  simp only [run] at h1 ⊢
  split at h1
  case h_2 => cases h1
  rename_i y hy
  obtain ⟨z, hz, h3⟩ := run_opt h1
  exact run_opt' hz (fresh_cg' h3 (hg k (.inr hd.2)))
theorem store_cg {tmd : Bool} {kk : Nat} {n : Nat} {p x : AV} (h : run T (storeA ob tmd kk n p x) = some d) (hg0 : ∀ k, k ∈ d.rd ∨ k ∈ d.ow.map (·.1) → ob' k = ob k) : run T (storeA ob' tmd kk n p x) = some d := by
  have hg : ∀ k, k ∈ d.rd → ob' k = ob k := fun k hk => hg0 k (.inl hk)
  unfold storeA at h ⊢
  obtain ⟨xc, hx, h⟩ := run_opt h
  refine run_opt' hx ?_
  split at h
  · exact (run_fail h).elim
  rename_i hn
  cases p with
  | ptr o off =>
    simp only at h ⊢
    have : ob' o = ob o := hg o (by
      split at h
      · split at h
        · have := run_ret h; subst this; simp
        · exact (run_fail h).elim
      · exact (run_fail h).elim)
    rw [this]; exact h
  | eptr o v j off =>
    simp only at h ⊢
    split at h
    · rename_i v' u xs ho
      split at h
      · rename_i hv
        obtain ⟨fw, hw, h⟩ := run_opt h
        have hrd : d.rd = o :: fw.2.map (·.1) := by
          simp only [run] at h
          split at h
          · split at h
            · obtain ⟨_, _, h⟩ := run_opt h
              have := run_ret h; subst this; rfl
            · simp [run] at h
          · cases h
        have h1 : ob' o = ob o := hg o (by rw [hrd]; simp)
        rw [h1, ho]
        simp only [hv]
        refine run_opt' (frz_cg hw fun k hk => hg k (by rw [hrd]; exact List.mem_cons_of_mem _ hk)) h
      · exact (run_fail h).elim
    · rename_i u xs ho
      split at h
      · obtain ⟨e, h'⟩ := absorb_cg h hg0
        rw [e, ho]
        exact h'
      have h1 : ob' o = ob o := by
        obtain ⟨z, hz, h⟩ := run_opt h
        split at h
        · simp only [run] at h
          split at h
          · split at h
            · obtain ⟨_, _, h⟩ := run_opt h
              have := run_ret h; subst this
              exact hg o (by simp)
            · exact (run_fail h).elim
          · cases h
        · exact (run_fail h).elim
      rw [h1, ho]
      exact h
    · exact (run_fail h).elim
  | _ => exact h
theorem fresh_cg {α : Type} {k : Nat} {t : Tree α} {x : α} (h : run T (fresh ob k t) = some x) (hg : ob' k = ob k) : run T (fresh ob' k t) = some x := by
  unfold fresh at h ⊢
  rw [hg]; exact h
theorem slice_cg {t : TypeId} {x : AV} {lo hi mx : Option AV} (h : run T (sliceA P ob t x lo hi mx) = some d) (hg : ∀ k, k ∈ d.rd → ob' k = ob k) : run T (sliceA P ob' t x lo hi mx) = some d := by
  have bnd : ∀ (n : Nat) (l u : Int) (e : Delta), run T (bndA n l u (.ret e)) = some d → e = d := fun n l u e h => by
    unfold bndA at h
    exact run_ret (run_grd (run_grd (run_grd h).2).2).2
  unfold sliceA at h ⊢
  split at h
  · exact h
  · obtain ⟨sz, hs, h⟩ := run_opt h
    refine run_opt' hs ?_
    split at h
    · split at h
      · obtain ⟨r, hr, h⟩ := run_opt h
        have := run_ret h; subst this
        exact run_opt' (lenA_cg hr hg) rfl
      · exact (run_fail h).elim
    · split at h
      · exact h
      · obtain ⟨r, hr, h⟩ := run_opt h
        have hrd : d.rd = r.rd := by
          split at h
          · obtain ⟨_, _, h⟩ := run_opt h
            obtain ⟨_, _, h⟩ := run_opt h
            have := bnd _ _ _ _ h; subst this; rfl
          · exact (run_fail h).elim
        exact run_opt' (rowOf_cg hr fun k hk => hg k (by rw [hrd]; exact hk)) h
      · exact h
      · exact (run_fail h).elim
  · exact (run_fail h).elim
theorem partA_cg {x : AV} {p : Nat × Nat × Nat × Nat} (h : partA ob x = some p) (hg : ob' p.1 = ob p.1) : partA ob' x = some p := by
  cases x <;> simp only [partA] at h ⊢
  case own o v =>
    have : p.1 = o := by
      split at h
      · split at h
        · simp only [Option.some.injEq] at h; subst h; rfl
        · cases h
      · cases h
    rw [this] at hg
    rw [hg]; exact h
  case sub o v lo n =>
    have : p.1 = o := by
      split at h
      · split at h
        · simp only [Option.some.injEq] at h; subst h; rfl
        · cases h
      · cases h
    rw [this] at hg
    rw [hg]; exact h
  all_goals exact h
theorem clear_cg {e : TypeId} {x : AV} (h : run T (clearA P ob e x) = some d) (hg : ∀ k, k ∈ d.rd → ob' k = ob k) : run T (clearA P ob' e x) = some d := by
  unfold clearA at h ⊢
  obtain ⟨z, hz, h⟩ := run_opt h
  obtain ⟨p, hp, h⟩ := run_opt h
  have hrd : d.rd = [p.1] := by
    split at h
    · split at h
      · obtain ⟨_, _, h⟩ := run_opt h
        have := run_ret h; subst this; rfl
      · exact (run_fail h).elim
    · exact (run_fail h).elim
  have h1 : ob' p.1 = ob p.1 := hg _ (by rw [hrd]; simp)
  refine run_opt' hz (run_opt' (partA_cg hp h1) ?_)
  rw [h1]; exact h
theorem copy_cg {e : TypeId} {x s : AV} (h : run T (copyA P ob e x s) = some d) (hg : ∀ k, k ∈ d.rd → ob' k = ob k) : run T (copyA P ob' e x s) = some d := by
  unfold copyA at h ⊢
  obtain ⟨z, hz, h⟩ := run_opt h
  obtain ⟨p, hp, h⟩ := run_opt h
  split at h
  · rename_i v t xs ho
    split at h
    · rename_i hsz
      obtain ⟨r, hr, h⟩ := run_opt h
      have hrd : d.rd = p.1 :: r.rd := by
        obtain ⟨_, _, h⟩ := run_opt h
        have := run_ret h; subst this; rfl
      have h1 : ob' p.1 = ob p.1 := hg _ (by rw [hrd]; simp)
      refine run_opt' hz (run_opt' (partA_cg hp h1) ?_)
      rw [h1, ho]
      simp only [hsz]
      exact run_opt' (rowOf_cg hr fun k hk => hg k (by rw [hrd]; exact List.mem_cons_of_mem _ hk)) h
    · exact (run_fail h).elim
  · exact (run_fail h).elim
theorem appendB_cg {k : Nat} {u : Ty} {by_ : Nat} {rd : List Nat} {ys : List u.D} {a : AV} (h : run T (appendB k ob u by_ rd ys a) = some d) (hg : ∀ k, k ∈ d.rd ∨ k ∈ d.ow.map (·.1) → ob' k = ob k) : run T (appendB k ob' u by_ rd ys a) = some d ∧ ∀ k, k ∈ rd → k ∈ d.rd := by
  cases a <;> simp only [appendB] at h ⊢
  case nils =>
    obtain ⟨h1, h⟩ := run_grd h
    obtain ⟨h2, h3⟩ := run_fresh h
    have := run_ret h3; subst this
    exact ⟨run_grd' h1 (fresh_cg h (hg _ (.inr (by simp)))), fun k hk => hk⟩
  case own o v =>
    split at h
    · rename_i v' t' xs ho
      split at h
      · rename_i hv
        obtain ⟨zs, hz, h⟩ := run_opt h
        obtain ⟨h1, h⟩ := run_grd h
        have := run_ret h; subst this
        rw [hg o (.inl (by simp)), ho]
        simp only [hv]
        exact ⟨run_opt' hz (run_grd' h1 rfl), fun k hk => List.mem_cons_of_mem _ hk⟩
      · exact (run_fail h).elim
    · exact (run_fail h).elim
  all_goals exact (run_fail h).elim
theorem treeOf_cg {u : Ty} {a : AV} {p : Nat × List u.D} (h : treeOf ob u a = some p) (hg : ob' p.1 = ob p.1) : treeOf ob' u a = some p := by
  obtain ⟨e, ho⟩ := treeOf_ok h
  subst e
  simp only [treeOf] at h ⊢
  rw [hg]
  exact h
theorem appendT_cg {k o2 by_ : Nat} {u : Ty} {ys : List u.D} {a : AV} (h : run T (appendT ob k u by_ o2 ys a) = some d) (hg : ∀ k, k ∈ d.rd ∨ k ∈ d.ow.map (·.1) → ob' k = ob k) : run T (appendT ob' k u by_ o2 ys a) = some d ∧ o2 ∈ d.rd := by
  have own : ∀ a : AV, run T (opt (treeOf ob u a) fun p => match Nat.beq p.1 o2 with
      | true => .fail
      | false => grd (decide (p.2.length + ys.length ≤ room by_)) (fresh ob k (.ret ⟨.own k 0, [(p.1, .dead), (o2, .dead), (k, .tree u (p.2 ++ ys))], [p.1, o2]⟩))) = some d →
      run T (opt (treeOf ob' u a) fun p => match Nat.beq p.1 o2 with
      | true => .fail
      | false => grd (decide (p.2.length + ys.length ≤ room by_)) (fresh ob' k (.ret ⟨.own k 0, [(p.1, .dead), (o2, .dead), (k, .tree u (p.2 ++ ys))], [p.1, o2]⟩))) = some d ∧ o2 ∈ d.rd := fun a h => by
    obtain ⟨p, hp, h1⟩ := run_opt h
    clear h
    split at h1
    case h_1 => exact (run_fail h1).elim
    rename_i hne
    obtain ⟨hr, h2⟩ := run_grd h1
    obtain ⟨_, h3⟩ := run_fresh h2
    have := run_ret h3
    subst this
    refine ⟨run_opt' (treeOf_cg hp (hg _ (.inl (by simp)))) ?_, by simp⟩
    rw [hne]
    exact run_grd' hr (fresh_cg' h2 (hg k (.inr (by simp))))
  by_cases hn : a = .nils
  · subst hn
    simp only [appendT] at h ⊢
    obtain ⟨hr, h2⟩ := run_grd h
    obtain ⟨_, h3⟩ := run_fresh h2
    have := run_ret h3
    subst this
    exact ⟨run_grd' hr (fresh_cg' h2 (hg k (.inr (by simp)))), by simp⟩
  · have eq : ∀ ob : Nat → Option AO, appendT ob k u by_ o2 ys a = opt (treeOf ob u a) fun p => match Nat.beq p.1 o2 with
        | true => .fail
        | false => grd (decide (p.2.length + ys.length ≤ room by_)) (fresh ob k (.ret ⟨.own k 0, [(p.1, .dead), (o2, .dead), (k, .tree u (p.2 ++ ys))], [p.1, o2]⟩)) := fun ob => by
      cases a <;> first | rfl | exact absurd rfl hn
    rw [eq] at h ⊢
    exact own a h
theorem treeOf_row {u : Ty} {a : AV} {dflt : Option Ty} {r : RV} (h : rowOf ob dflt a = some r) : treeOf ob u a = none := by
  cases a <;> simp only [treeOf]
  case own o v =>
    simp only [rowOf] at h
    split at h
    · rename_i ho; rw [ho]
    · rename_i ho; rw [ho]
    · cases h
theorem appendZ_cg {k : Nat} {t e : TypeId} {s x : AV} (h : run T (appendZ P k ob t e s x) = some d) (hg : ∀ k, k ∈ d.rd ∨ k ∈ d.ow.map (·.1) → ob' k = ob k) : run T (appendZ P k ob' t e s x) = some d := by
  unfold appendZ at h ⊢
  split at h
  case h_2 => exact (run_fail h).elim
  obtain ⟨u, hu, h⟩ := run_opt h
  obtain ⟨by_, hb, h⟩ := run_opt h
  obtain ⟨z, hz, h⟩ := run_opt h
  obtain ⟨y, hy, h⟩ := run_opt h
  refine run_opt' hu (run_opt' hb (run_opt' hz (run_opt' hy ?_)))
  split at h
  case h_2 => exact (run_fail h).elim
  obtain ⟨h1, h⟩ := run_grd h
  obtain ⟨h2, h⟩ := run_grd h
  obtain ⟨_, h3⟩ := run_fresh h
  have := run_ret h3; subst this
  exact run_grd' h1 (run_grd' h2 (fresh_cg' h (hg _ (.inr (by simp)))))
theorem append_cg {k : Nat} {ts : List TypeId} {s x : AV} (h : run T (appendA P k ob ts s x) = some d) (hg : ∀ k, k ∈ d.rd ∨ k ∈ d.ow.map (·.1) → ob' k = ob k) : run T (appendA P k ob' ts s x) = some d := by
  unfold appendA at h ⊢
  split at h
  · split at h
    · obtain ⟨u, hu, h⟩ := run_opt h
      obtain ⟨by_, hb, h⟩ := run_opt h
      obtain ⟨z, hz, h⟩ := run_opt h
      refine run_opt' hu (run_opt' hb (run_opt' hz ?_))
      split at h
      · rename_i hc
        split at h
        · rename_i p hp
          obtain ⟨k1, k2⟩ := appendT_cg h hg
          rw [treeOf_cg hp (hg _ (.inl k2))]
          exact k1
        obtain ⟨rx, hr, h⟩ := run_opt h
        obtain ⟨ys, hy, h⟩ := run_opt h
        obtain ⟨k1, k2⟩ := appendB_cg h hg
        have hr' := rowOf_cg hr fun k hk => hg k (.inl (k2 k hk))
        rw [treeOf_row hr']
        exact run_opt' hr' (run_opt' hy k1)
      · exact (run_fail h).elim
    · exact appendZ_cg h hg
    · exact (run_fail h).elim
  · exact (run_fail h).elim
theorem len_cg {ts : List TypeId} {x : AV} (h : run T (lenB P ob ts x) = some d) (hg : ∀ k, k ∈ d.rd → ob' k = ob k) : run T (lenB P ob' ts x) = some d := by
  unfold lenB at h ⊢
  split at h
  · split at h
    · exact h
    · split at h
      · exact (run_fail h).elim
      · obtain ⟨n, hn, h⟩ := run_opt h
        have := run_ret h; subst this
        exact run_opt' (lenA_cg hn hg) rfl
    · exact (run_fail h).elim
  · exact (run_fail h).elim
theorem conv_cg {s t : TypeId} {x : AV} (h : run T (convA P ob s t x) = some d) (hg : ∀ k, k ∈ d.rd → ob' k = ob k) : run T (convA P ob' s t x) = some d := by
  unfold convA at h ⊢
  split at h
  · exact h
  · split at h
    · obtain ⟨r, hr, h1⟩ := run_opt h
      obtain ⟨ys, hy, h2⟩ := run_opt h1
      have := run_ret h2
      subst this
      exact run_opt' (rowOf_cg hr fun k hk => hg k hk) (run_opt' hy h2)
    · exact (run_fail h).elim
  · exact (run_fail h).elim
theorem builtin_cg {k : Nat} {b : Builtin} {ts : List TypeId} {as : List AV} (h : run T (builtinA P k ob b ts as) = some d) (hg : ∀ k, k ∈ d.rd ∨ k ∈ d.ow.map (·.1) → ob' k = ob k) : run T (builtinA P k ob' b ts as) = some d := by
  unfold builtinA at h ⊢
  split at h
  · exact len_cg h fun k hk => hg k (.inl hk)
  · exact append_cg h hg
  · exact h
  · split at h
    · split at h
      · exact copy_cg h fun k hk => hg k (.inl hk)
      · exact (run_fail h).elim
    · exact (run_fail h).elim
  · split at h
    · split at h
      · exact clear_cg h fun k hk => hg k (.inl hk)
      · exact (run_fail h).elim
    · exact (run_fail h).elim
  · exact h
  · exact h
  · exact (run_fail h).elim

/-! ### calls -/
theorem lend0_cg {a : AV} {r : AV × List Nat} (h : lend0 ob a = some r) (hg : ∀ k, k ∈ r.2 → ob' k = ob k) : lend0 ob' a = some r := by
  cases a <;> simp only [lend0] at h ⊢
  case own o v =>
    split at h
    · rename_i q hq
      simp only [Option.some.injEq] at h; subst h
      rw [rowOf_cg hq fun k hk => hg k (by have := (rowOf_own hq).2; rw [this] at hk; exact hk)]
    · split at h
      · rename_i t xs ho
        split at h
        · rename_i hv
          simp only [Option.some.injEq] at h; subst h
          have e : ob' o = some (.tree t xs) := (hg o (by simp)).trans ho
          simp [rowOf, e, hv]
        · cases h
      · cases h
  case sub o v lo m =>
    split at h
    · rename_i q hq
      simp only [Option.some.injEq] at h; subst h
      rw [rowOf_cg hq fun k hk => hg k (by
        simp only [rowOf] at hq
        split at hq
        · split at hq
          · simp only [Option.some.injEq] at hq; subst hq; exact hk
          · cases hq
        · split at hq
          · simp only [Option.some.injEq] at hq; subst hq; exact hk
          · cases hq
        · cases hq)]
    · cases h
  case nst o j q =>
    split at h
    · rename_i u xs ho
      split at h
      · rename_i hq
        simp only [Option.some.injEq] at h; subst h
        have e : ob' o = some (.tree (.sl u) xs) := (hg o (by simp)).trans ho
        simp [e, hq]
      · cases h
    · cases h
  all_goals exact h
theorem lends0_cg : ∀ {cs : List AV} {s : List AV × List Nat}, lends0 ob cs = some s → (∀ k, k ∈ s.2 → ob' k = ob k) → lends0 ob' cs = some s
  | [], s, h, _ => by simpa [lends0] using h
  | a :: l, s, h, hg => by
    simp only [lends0] at h ⊢
    split at h
    · rename_i b w s1 w' h1 h2
      simp only [Option.some.injEq] at h; subst h
      rw [lend0_cg h1 fun k hk => hg k (List.mem_append_left _ hk), lends0_cg h2 fun k hk => hg k (List.mem_append_right _ hk)]
    · cases h
theorem lendB_cg {o off : Nat} {r : AV × List Nat} (h : lendB ob o off = some r) (hg : ∀ k, k ∈ r.2 → ob' k = ob k) : lendB ob' o off = some r := by
  unfold lendB at h ⊢
  split at h
  · rename_i cs ho
    split at h
    · rename_i l w hl
      simp only [Option.some.injEq] at h; subst h
      rw [hg o List.mem_cons_self, ho]
      simp only
      rw [lends0_cg hl fun k hk => hg k (List.mem_cons_of_mem _ hk)]
    · cases h
  · cases h
theorem lend_cg : ∀ (n : Nat) (a : AV) (r : AV × List Nat), SizeOf.sizeOf a < n → lend ob a = some r → (∀ k, k ∈ r.2 → ob' k = ob k) → lend ob' a = some r
  | 0, a, r, hn, _, _ => by omega
  | n + 1, a, r, hn, h, hg => by
    have lists : ∀ (cs : List AV) (s : List AV × List Nat), (∀ a, a ∈ cs → SizeOf.sizeOf a < n) → lend.lends ob cs = some s → (∀ k, k ∈ s.2 → ob' k = ob k) → lend.lends ob' cs = some s := by
      intro cs
      induction cs with
      | nil => intro s _ h _; simpa [lend.lends] using h
      | cons a l ih =>
        intro s hs h hg
        simp only [lend.lends] at h ⊢
        split at h
        · rename_i b w s1 w' h1 h2
          simp only [Option.some.injEq] at h; subst h
          rw [lend_cg n a _ (hs a List.mem_cons_self) h1 fun k hk => hg k (List.mem_append_left _ hk), ih _ (fun a ha => hs a (List.mem_cons_of_mem _ ha)) h2 fun k hk => hg k (List.mem_append_right _ hk)]
        · cases h
    cases a <;> simp only [lend] at h ⊢
    case ptr o off => exact lendB_cg h hg
    case agg cs =>
      split at h
      · rename_i l w hl
        simp only [Option.some.injEq] at h; subst h
        rw [lists cs _ (fun a ha => by
          have := List.sizeOf_lt_of_mem ha
          simp only [AV.agg.sizeOf_spec] at hn
          omega) hl hg]
      · cases h
    case fn f cs =>
      split at h
      · rename_i l w hl
        simp only [Option.some.injEq] at h; subst h
        rw [lists cs _ (fun a ha => by
          have := List.sizeOf_lt_of_mem ha
          simp only [AV.fn.sizeOf_spec] at hn
          omega) hl hg]
      · cases h
    all_goals exact lend0_cg h hg
theorem rowsL_cg : ∀ {l : List Nat}, (∀ k, k ∈ l → ob' k = ob k) → rowsL ob' l = rowsL ob l
  | [], _ => rfl
  | o :: r, hg => by
    simp only [rowsL]
    rw [hg o List.mem_cons_self, rowsL_cg fun k hk => hg k (List.mem_cons_of_mem _ hk)]
theorem passes_cg : ∀ (as : List AV) (m : List Bool) (r : List AV × List Nat), passes ob m as = some r → (∀ k, k ∈ r.2 → ob' k = ob k) → passes ob' m as = some r
  | [], m, r, h, _ => by simpa [passes] using h
  | a :: l, m, r, h, hg => by
    have lent : ∀ (m' : List Bool), (match lend ob a, passes ob m' l with | some (b, w), some (s, w') => some (b :: s, w ++ w') | _, _ => none) = some r → (match lend ob' a, passes ob' m' l with | some (b, w), some (s, w') => some (b :: s, w ++ w') | _, _ => none) = some r := fun m' h => by
      split at h
      · rename_i b w s w' h1 h2
        simp only [Option.some.injEq] at h; subst h
        rw [lend_cg (SizeOf.sizeOf a + 1) a _ (by omega) h1 fun k hk => hg k (List.mem_append_left _ hk), passes_cg l m' _ h2 fun k hk => hg k (List.mem_append_right _ hk)]
      · cases h
    cases m with
    | nil => simp only [passes] at h ⊢; exact lent [] h
    | cons x m =>
      cases x with
      | false => simp only [passes] at h ⊢; exact lent m h
      | true =>
        simp only [passes] at h ⊢
        split at h
        · rename_i s w h1
          simp only [Option.some.injEq] at h; subst h
          rw [passes_cg l m _ h1 hg]
        · cases h
theorem reach_pre {ob : Nat → Option AO} : ∀ (n : Nat) (l seen : List Nat) (j o : Nat), seen[j]? = some o → (reach ob n l seen)[j]? = some o
  | 0, l, seen, j, o, h => by simpa [reach] using h
  | n + 1, [], seen, j, o, h => by simpa [reach] using h
  | n + 1, x :: r, seen, j, o, h => by
    simp only [reach]
    split
    · exact reach_pre n _ _ j o h
    · split <;>
      · refine reach_pre n _ _ j o ?_
        rw [List.getElem?_append_left (List.getElem?_eq_some_iff.1 h).1]
        exact h
theorem reach_cg : ∀ (n : Nat) (l seen : List Nat), (∀ k, k ∈ reach ob n l seen → ob' k = ob k) → reach ob' n l seen = reach ob n l seen
  | 0, l, seen, _ => by simp [reach]
  | n + 1, [], seen, _ => by simp [reach]
  | n + 1, o :: r, seen, hg => by
    simp only [reach] at hg ⊢
    split
    · rename_i hh
      simp only [hh] at hg
      exact reach_cg n r seen hg
    · rename_i hh
      simp only [hh] at hg
      have ho : ob' o = ob o := hg o (by
        have mem : ∀ (l : List Nat), o ∈ reach ob n l (seen ++ [o]) := fun l => List.mem_of_getElem? (reach_pre n l (seen ++ [o]) seen.length o (by simp))
        split <;> exact mem _)
      rw [ho]
      split
      · rename_i a ha
        simp only [ha] at hg
        exact reach_cg n _ _ hg
      · rename_i ha
        simp only [ha] at hg
        exact reach_cg n _ _ hg
theorem rin_cg {L : List Nat} (hg : ∀ k, k ∈ L → ob' k = ob k) : rin ob' L = rin ob L := by
  funext o v
  unfold rin
  split
  · rename_i i hi
    rw [hg o (List.mem_of_getElem? (idx_some L o i hi))]
  · rfl
theorem verAt_cg {L : List Nat} (hg : ∀ k, k ∈ L → ob' k = ob k) : verAt ob' L = verAt ob L := by
  funext i
  unfold verAt
  split
  · rename_i o ho
    rw [hg o (List.mem_of_getElem? ho)]
  · rfl
theorem rout_cg {k : Nat} {L : List Nat} (hg : ∀ k, k ∈ L → ob' k = ob k) : rout k ob' L = rout k ob L := by
  funext i v
  unfold rout
  rw [verAt_cg hg]
theorem obsOf_cg {ρ : Nat → Nat → Option (Nat × Nat)} : ∀ {L : List Nat}, (∀ k, k ∈ L → ob' k = ob k) → obsOf ob' ρ L = obsOf ob ρ L
  | [], _ => rfl
  | a :: r, hg => by
    simp only [obsOf]
    rw [hg a List.mem_cons_self, obsOf_cg fun k hk => hg k (List.mem_cons_of_mem _ hk)]
theorem backO_cg {k : Nat} {L : List Nat} (hg : ∀ k, k ∈ L → ob' k = ob k) : ∀ (l : List AO) (i : Nat), backO k ob' L i l = backO k ob L i l
  | [], i => rfl
  | a :: r, i => by
    simp only [backO]
    rw [rout_cg hg, verAt_cg hg, backO_cg hg r (i + 1)]
theorem froz_cg : ∀ {l : List Nat}, (∀ k, k ∈ l → ob' k = ob k) → froz ob' l = froz ob l
  | [], _ => rfl
  | a :: r, hg => by
    simp only [froz]
    rw [hg a List.mem_cons_self, froz_cg fun k hk => hg k (List.mem_cons_of_mem _ hk)]
theorem freshN_cg {k : Nat} : ∀ {n : Nat}, (∀ q, q < n → ob' (k + q) = ob (k + q)) → freshN ob' k n = freshN ob k n
  | 0, _ => rfl
  | n + 1, hg => by
    simp only [freshN]
    rw [hg n (by omega), freshN_cg fun q hq => hg q (by omega)]
theorem backO_has (k : Nat) (L : List Nat) : ∀ (l : List AO) (i j : Nat), i ≤ j → j < i + l.length → sig k L j ∈ (backO k ob L i l).map (·.1)
  | [], i, j, h1, h2 => by simp at h2; omega
  | a :: r, i, j, h1, h2 => by
    simp only [backO, List.map_cons, List.mem_cons]
    by_cases e : i = j
    · subst e; exact .inl rfl
    · exact .inr (backO_has k L r (i + 1) j (by omega) (by simp at h2; omega))
theorem call_cg {k : Nat} {f : FuncId} {as : List AV} (h : run T (callA M k ob f as) = some d) (hg : ∀ k, k ∈ d.rd ∨ k ∈ d.ow.map (·.1) → ob' k = ob k) : run T (callA M k ob' f as) = some d := by
  unfold callA at h ⊢
  obtain ⟨p, hp, h⟩ := run_opt h
  generalize hL : reach ob 100 (refs.refsL p.1) [] = L at h
  obtain ⟨os, ho, h⟩ := run_opt h
  split at h
  · exact (run_fail h).elim
  rename_i hck
  simp only [run] at h
  split at h
  case h_2 => cases h
  rename_i pk hT
  split at h
  case h_2 => cases h
  rename_i t ht
  split at h
  · exact (run_fail h).elim
  rename_i hck2
  have hrd : d.rd = L ++ p.2 ∧ ∀ q, q ∈ (backO k ob L 0 (pk.enc t).2).map (·.1) → q ∈ d.ow.map (·.1) := by
    split at h
    · split at h
      · have := run_ret h; subst this
        exact ⟨rfl, fun q hq => by simp only [List.map_append, List.mem_append]; exact .inl hq⟩
      · exact (run_fail h).elim
    · have := run_ret h; subst this
      exact ⟨rfl, fun q hq => hq⟩
  have gL : ∀ q, q ∈ L → ob' q = ob q := fun q hq => hg q (.inl (by rw [hrd.1]; exact List.mem_append_left _ hq))
  have gp : ∀ q, q ∈ p.2 → ob' q = ob q := fun q hq => hg q (.inl (by rw [hrd.1]; exact List.mem_append_right _ hq))
  refine run_opt' (passes_cg as _ p hp gp) ?_
  rw [reach_cg 100 _ _ (by rw [hL]; exact gL), hL, rin_cg gL]
  refine run_opt' (by rw [obsOf_cg gL]; exact ho) ?_
  rw [hck]
  simp only [run]
  rw [hT]
  simp only
  rw [ht]
  simp only
  rw [verAt_cg gL, rout_cg gL, backO_cg gL, froz_cg gp, rowsL_cg gp]
  have hck3 := hck2
  rw [Bool.and_eq_true, Bool.and_eq_true] at hck3
  have hlen := ble_true hck3.1.1
  rw [freshN_cg (ob := ob) fun q hq => hg _ (.inr (hrd.2 _ (by
    have := backO_has (ob := ob) k L (pk.enc t).2 0 (L.length + q) (by omega) (by omega)
    rw [sig_new (by omega), show L.length + q - L.length = q by omega] at this
    exact this))), hck2]
  exact h
theorem callN_cg {f : FuncId} {o j q : Nat} {rest : List AV} (h : run T (callN ob f o j q rest) = some d) (hg : ∀ k, k ∈ d.rd ∨ k ∈ d.ow.map (·.1) → ob' k = ob k) : run T (callN ob' f o j q rest) = some d := by
  have e : ob' o = ob o := by
    refine hg o (.inl ?_)
    unfold callN at h
    split at h
    case h_2 => exact (run_fail h).elim
    simp only [run] at h
    split at h
    case h_2 => cases h
    split at h
    case h_2 => exact (run_fail h).elim
    split at h
    case h_2 => exact (run_fail h).elim
    simp only [run] at h
    split at h
    case h_2 => cases h
    split at h
    case h_2 => cases h
    split at h
    case h_2 => exact (run_fail h).elim
    split at h
    case h_2 => exact (run_fail h).elim
    obtain ⟨_, _, h⟩ := run_opt h
    have := run_ret h; subst this
    simp
  unfold callN at h ⊢
  rw [e]
  exact h
theorem callW_cg {k : Nat} {f : FuncId} {as : List AV} (h : run T (callW M k ob f as) = some d) (hg : ∀ k, k ∈ d.rd ∨ k ∈ d.ow.map (·.1) → ob' k = ob k) : run T (callW M k ob' f as) = some d := by
  unfold callW at h ⊢
  split at h
  · cases hMf : M f with
    | nil =>
      rw [hMf] at h
      exact call_cg h hg
    | cons b r =>
      rw [hMf] at h
      cases b with
      | true => exact callN_cg h hg
      | false => exact call_cg h hg
  · exact call_cg h hg
end
end Go.Proofs.YtafjengmkiepbaaGreat.Am
end
section
/- What an operation of the machine of values looks at: all of them. -/
namespace Go.Proofs.YtafjengmkiepbaaGreat.Am
open Go
set_option linter.constructorNameAsVariable false
set_option linter.unusedVariables false
set_option linter.unusedSimpArgs false
section
variable {P : Program} {M : FuncId → List Bool} {T : Table} {ob ob' : Nat → Option AO} {d : Delta}

theorem opA_ev {ev ev' : Operand → AV} (o : Oper) (h : ∀ x, x ∈ opsOf o.op → ev' x = ev x) : opA P M ev' ob o = opA P M ev ob o := by
  have pairs : ∀ ps : Array (Nat × Operand), (∀ x, x ∈ ps.toList.map (fun p => p.2) → ev' x = ev x) → (ps.toList.map fun p => (p.1, ev' p.2)) = ps.toList.map fun p => (p.1, ev p.2) := fun ps hp =>
    List.map_congr_left fun p hm => by rw [hp p.2 (List.mem_map.2 ⟨p, hm, rfl⟩)]
  have many : ∀ l : List Operand, (∀ x, x ∈ l → ev' x = ev x) → l.map ev' = l.map ev := fun l hl => List.map_congr_left hl
  have one : ∀ l : Option Operand, (∀ x, x ∈ l.toList → ev' x = ev x) → l.map ev' = l.map ev := fun l hl => by
    cases l with
    | none => rfl
    | some x => simp [hl x (by simp)]
  obtain ⟨dst, op, type, pos, after, guard⟩ := o
  cases op <;> simp only [opsOf] at h <;> simp only [opA]
  case move x => rw [h x (by simp)]
  case assign x => rw [h x (by simp)]
  case pick c a b => rw [h c (by simp), h a (by simp), h b (by simp)]
  case box t x => rw [h x (by simp)]
  case build t ps => rw [pairs ps h]
  case buildSlice t n ps => rw [pairs ps h]
  case load t x => rw [h x (by simp)]
  case store t p x => rw [h p (by simp), h x (by simp)]
  case nilCheck x => rw [h x (by simp)]
  case binOp op t x y u => rw [h x (by simp), h y (by simp)]
  case unOp op t x => rw [h x (by simp)]
  case makeFunc f a cs => cases f <;> simp only <;> first | rfl | rw [many cs.toList h]
  case makeSlice t l c => rw [h l (by simp), h c (by simp)]
  case slice t x lo hi mx => rw [h x (by simp), one lo fun x hx => h x (by simp at hx ⊢; simp [hx]), one hi fun x hx => h x (by simp at hx ⊢; simp [hx]), one mx fun x hx => h x (by simp at hx ⊢; simp [hx])]
  case fieldAddr t x f => rw [h x (by simp)]
  case field t x f => rw [h x (by simp)]
  case indexAddr t x i => rw [h x (by simp), h i (by simp)]
  case index t x i => rw [h x (by simp), h i (by simp)]
  case extract x i => rw [h x (by simp)]
  case convert s t x => rw [h x (by simp)]
  case lookup t x k ok => rw [h x (by simp), h k (by simp)]
  case mapUpdate t m k v => rw [h m (by simp), h k (by simp), h v (by simp)]
  case call cl =>
    rw [many cl.args.toList fun x hx => h x (List.mem_append_right _ hx)]
    cases hc : cl.callee with
    | value f => simp only; rw [h f (List.mem_append_left _ (by rw [hc]; simp))]
    | builtin b => rfl
    | invoke r m => rfl

theorem opA_cg {ev : Operand → AV} (o : Oper) (h : run T (opA P M ev ob o) = some d) (hg : ∀ k, k ∈ d.rd ∨ k ∈ d.ow.map (·.1) → ob' k = ob k) : run T (opA P M ev ob' o) = some d := by
  have hr : ∀ k, k ∈ d.rd → ob' k = ob k := fun k hk => hg k (.inl hk)
  obtain ⟨dst, op, type, pos, after, guard⟩ := o
  cases op <;> simp only [opA] at h ⊢
  case alloc t =>
    obtain ⟨cs, hc, h⟩ := run_opt h
    obtain ⟨_, h1⟩ := run_fresh h
    have := run_ret h1; subst this
    exact run_opt' hc (fresh_cg h (hg _ (.inr (by simp))))
  case box t x =>
    obtain ⟨cs, hc, h⟩ := run_opt h
    obtain ⟨_, h1⟩ := run_fresh h
    have := run_ret h1; subst this
    exact run_opt' hc (fresh_cg h (hg _ (.inr (by simp))))
  case buildSlice t n ps =>
    split at h
    · obtain ⟨u, hu, h⟩ := run_opt h
      obtain ⟨sz, hs, h⟩ := run_opt h
      obtain ⟨z, hz, h⟩ := run_opt h
      refine run_opt' hu (run_opt' hs (run_opt' hz ?_))
      split at h
      · obtain ⟨cs, hc, h⟩ := run_opt h
        obtain ⟨w, hw, h⟩ := run_opt h
        obtain ⟨xs, hx, h⟩ := run_opt h
        obtain ⟨_, h1⟩ := run_fresh h
        have := run_ret h1; subst this
        have hlit := litO_cg (tmd := treeM M) (k := newId (dst.getD 0) 0) (u := u) (xs := xs) hw fun k hk => hg k (.inl hk)
        have hin : newId (dst.getD 0) 0 ∈ (litO (treeM M) ob (newId (dst.getD 0) 0) u cs w.2 xs).map (·.1) := by unfold litO; split <;> simp
        refine run_opt' hc (run_opt' (frz_cg hw fun k hk => hg k (.inl hk)) (run_opt' hx ?_))
        rw [hlit]
        exact fresh_cg h (hg _ (.inr hin))
      · exact (run_fail h).elim
    · exact (run_fail h).elim
  case load t x =>
    obtain ⟨n, hn, h⟩ := run_opt h
    exact run_opt' hn (load_cg h hr)
  case store t p x =>
    obtain ⟨n, hn, h⟩ := run_opt h
    exact run_opt' hn (store_cg h hg)
  case makeSlice t l c =>
    obtain ⟨u, hu, h⟩ := run_opt h
    refine run_opt' hu ?_
    split at h
    · obtain ⟨z, hz, h⟩ := run_opt h
      obtain ⟨y, hy, h⟩ := run_opt h
      obtain ⟨b, hb, h⟩ := run_opt h
      refine run_opt' hz (run_opt' hy (run_opt' hb ?_))
      split at h
      · obtain ⟨g1, h⟩ := run_grd h
        obtain ⟨g2, h⟩ := run_grd h
        obtain ⟨g3, h⟩ := run_grd h
        obtain ⟨_, h1⟩ := run_fresh h
        have := run_ret h1; subst this
        exact run_grd' g1 (run_grd' g2 (run_grd' g3 (fresh_cg h (hg _ (.inr (by simp))))))
      · exact (run_fail h).elim
    · exact (run_fail h).elim
  case slice t x lo hi mx => exact slice_cg h hr
  case convert s t x => exact conv_cg h hr
  case makeMap t hint =>
    split at h
    · obtain ⟨_, h1⟩ := run_fresh h
      have := run_ret h1; subst this
      exact fresh_cg h (hg _ (.inr (by simp)))
    · exact (run_fail h).elim
  case lookup t x k ok =>
    split at h
    · split at h
      · rename_i es ho
        have := run_ret h; subst this
        rw [hr _ (by simp), ho]; rfl
      · exact (run_fail h).elim
    · exact (run_fail h).elim
  case mapUpdate t m k v =>
    split at h
    · split at h
      · rename_i es ho
        have := run_ret h; subst this
        rw [hr _ (by simp), ho]; rfl
      · exact (run_fail h).elim
    · exact (run_fail h).elim
  case indexAddr t x i =>
    split at h
    · obtain ⟨sz, hs, h⟩ := run_opt h
      refine run_opt' hs ?_
      split at h
      · exact h
      · split at h
        · rename_i r hq
          have hrd : d.rd = r.rd := by
            split at h
            · have := run_ret (run_grd (run_grd h).2).2; subst this; rfl
            · exact (run_fail h).elim
          rw [rowOf_cg hq fun k hk => hr k (by rw [hrd]; exact hk)]
          exact h
        · rename_i hq0
          split at h
          · rename_i u xs ho
            have e : ob' _ = some (.tree u xs) := (hr _ (by
              split at h
              · have := run_ret (run_grd (run_grd h).2).2; subst this; simp
              · exact (run_fail h).elim)).trans ho
            simp only [rowOf, e]
            exact h
          · exact (run_fail h).elim
      · obtain ⟨r, hq, h⟩ := run_opt h
        have hrd : d.rd = r.rd := by
          split at h
          · have := run_ret (run_grd (run_grd h).2).2; subst this; rfl
          · exact (run_fail h).elim
        exact run_opt' (rowOf_cg hq fun k hk => hr k (by rw [hrd]; exact hk)) h
      · exact (run_fail h).elim
    · exact (run_fail h).elim
  case makeFunc f a cs => cases f <;> exact h
  case call cl =>
    split at h
    · exact builtin_cg h hg
    · split at h
      · exact callW_cg h hg
      · exact (run_fail h).elim
    · exact (run_fail h).elim
  all_goals exact h

theorem keysOf_eq : ∀ l : List (Nat × AO), keysOf l = l.map (·.1)
  | [] => rfl
  | p :: r => by simp [keysOf, keysOf_eq r]
theorem tmpsOf_mem : ∀ (l : List Operand) (t : Nat), .tmp t ∈ l → t ∈ tmpsOf l
  | [], t, h => by cases h
  | x :: r, t, h => by
    cases x with
    | tmp u =>
      simp only [tmpsOf]
      rcases List.mem_cons.1 h with h | h
      · cases h; exact List.mem_cons_self
      · exact List.mem_cons_of_mem _ (tmpsOf_mem r t h)
    | _ =>
      simp only [tmpsOf]
      rcases List.mem_cons.1 h with h | h
      · cases h
      · exact tmpsOf_mem r t h
theorem ev_eq {st st' : St} {x : Operand} (h : ∀ t, x = .tmp t → st'.get t = st.get t) : st'.ev x = st.ev x := by
  cases x with
  | tmp t => exact h t rfl
  | _ => rfl
theorem reads_op {ops : Array Oper} {o : Oper} {t : Nat} (h : t ∈ tmpsOf (opsOf o.op)) : t ∈ readsOf ops o := by
  unfold readsOf
  split
  · exact h
  · split
    · exact List.mem_cons_of_mem _ h
    · exact h
theorem run_bind' {α β : Type} {T : Table} {f : α → Tree β} {a : α} {b : β} : ∀ {t : Tree α}, run T t = some a → run T (f a) = some b → run T (t.bind f) = some b
  | .ret x, h, k => by have := run_ret h; subst this; exact k
  | .fail, h, _ => (run_fail h).elim
  | .br x a c, h, k => by
    cases x
    · exact run_bind' (t := c) h k
    · exact run_bind' (t := a) h k
  | .gt t xs j f', h, k => by
    simp only [Tree.bind, run] at h ⊢
    split at h
    · exact run_bind' h k
    · cases h
  | .call g as os f', h, k => by
    simp only [Tree.bind, run] at h ⊢
    split at h
    · split at h
      · exact run_bind' h k
      · cases h
    · cases h

section
variable {ops : Array Oper} {o : Oper} {st st' st1 : St}
theorem stepD_stepA (h : run T (stepD P M ops st o) = some (st1, d)) : run T (stepA P M ops st o) = some st1 := by
  have op : ∀ (s : St), run T ((opA P M s.ev (look s.ob) o).bind fun d => .ret (s.app o.dst d, d)) = some (st1, d) → run T ((opA P M s.ev (look s.ob) o).bind fun d => .ret (s.app o.dst d)) = some st1 := fun s h => by
    obtain ⟨d', h1, h2⟩ := run_bind T _ _ _ h
    have := run_ret h2
    simp only [Prod.mk.injEq] at this
    obtain ⟨rfl, rfl⟩ := this
    exact run_bind' h1 rfl
  have nop : ∀ (s : St), run T (.ret (s.app o.dst ⟨.und, [], []⟩, ⟨.und, [], []⟩) : Tree (St × Delta)) = some (st1, d) → run T (.ret (s.app o.dst ⟨.und, [], []⟩) : Tree St) = some st1 := fun s h => by
    have := run_ret h
    simp only [Prod.mk.injEq] at this
    obtain ⟨rfl, rfl⟩ := this
    rfl
  unfold stepD at h
  unfold stepA
  split at h
  · exact op st h
  · rename_i j want hg
    split at h
    · exact (run_fail h).elim
    · rename_i g hgd
      split at h
      · exact nop st h
      · rename_i x hx
        cases want with
        | true =>
          cases x with
          | true => exact op _ h
          | false => exact nop { st with tm := upd st.tm g (.b false) } h
        | false =>
          cases x with
          | true => exact nop { st with tm := upd st.tm g (.b true) } h
          | false => exact op _ h
      · exact (run_fail h).elim
theorem app_get (s : St) (d : Delta) (dst : Option Nat) (t : Nat) : (s.app dst d).get t = if dst = some t then d.v else s.get t := by
  cases dst with
  | none => simp [St.app, St.get]
  | some k =>
    have : (s.app (some k) d).get t = if t = k then d.v else s.get t := get_upd s.tm _ k d.v t
    rw [this]
    by_cases h : t = k
    · subst h; simp
    · rw [if_neg h, if_neg (by simpa using fun e => h e.symm)]
theorem app_ob (s : St) (d : Delta) (dst : Option Nat) : look (s.app dst d).ob = fup (look s.ob) d.ow := look_upds d.ow s.ob
theorem same_get {s : St} {g : Nat} {x : AV} (h : s.get g = x) (t : Nat) : St.get { s with tm := upd s.tm g x } t = s.get t := by
  have : St.get { s with tm := upd s.tm g x } t = if t = g then x else s.get t := get_upd s.tm _ g x t
  rw [this]
  by_cases e : t = g
  · rw [if_pos e, e, h]
  · rw [if_neg e]
/-- what a step changes, and what it looks at -/
theorem stepD_ok (h : run T (stepD P M ops st o) = some (st1, d)) : (∀ t, st1.get t = if o.dst = some t then d.v else st.get t) ∧ look st1.ob = fup (look st.ob) d.ow ∧
    ∀ st' : St, (∀ t, t ∈ readsOf ops o → st'.get t = st.get t) → (∀ k, k ∈ d.rd ∨ k ∈ d.ow.map (·.1) → look st'.ob k = look st.ob k) → ∃ st1', run T (stepD P M ops st' o) = some (st1', d) := by
  have op : ∀ (s : St), (∀ t, s.get t = st.get t) → look s.ob = look st.ob → run T ((opA P M s.ev (look s.ob) o).bind fun d => .ret (s.app o.dst d, d)) = some (st1, d) →
      (∀ t, st1.get t = if o.dst = some t then d.v else st.get t) ∧ look st1.ob = fup (look st.ob) d.ow ∧ ∀ st' : St, (∀ t, t ∈ readsOf ops o → st'.get t = st.get t) → (∀ k, k ∈ d.rd ∨ k ∈ d.ow.map (·.1) → look st'.ob k = look st.ob k) → ∃ st1', run T ((opA P M st'.ev (look st'.ob) o).bind fun d => .ret (st'.app o.dst d, d)) = some (st1', d) := fun s e1 e2 h => by
    obtain ⟨d', h1, h2⟩ := run_bind T _ _ _ h
    have := run_ret h2
    simp only [Prod.mk.injEq] at this
    obtain ⟨rfl, rfl⟩ := this
    refine ⟨fun t => by rw [app_get, e1], by rw [app_ob, e2], fun st' g1 g2 => ⟨st'.app o.dst d', run_bind' (a := d') ?_ rfl⟩⟩
    rw [opA_ev (ev := s.ev) o fun x hx => ev_eq fun t e => by subst e; rw [g1 t (reads_op (tmpsOf_mem _ t hx)), e1]]
    exact opA_cg o h1 fun k hk => by rw [g2 k hk, e2]
  have nop : ∀ (s : St), (∀ t, s.get t = st.get t) → look s.ob = look st.ob → run T (.ret (s.app o.dst ⟨.und, [], []⟩, ⟨.und, [], []⟩) : Tree (St × Delta)) = some (st1, d) →
      (∀ t, st1.get t = if o.dst = some t then d.v else st.get t) ∧ look st1.ob = fup (look st.ob) d.ow ∧ d = ⟨.und, [], []⟩ := fun s e1 e2 h => by
    have := run_ret h
    simp only [Prod.mk.injEq] at this
    obtain ⟨rfl, rfl⟩ := this
    exact ⟨fun t => by rw [app_get, e1], by rw [app_ob, e2], rfl⟩
  unfold stepD at h
  split at h
  · rename_i hg
    obtain ⟨k1, k2, k3⟩ := op st (fun _ => rfl) rfl h
    refine ⟨k1, k2, fun st' g1 g2 => ?_⟩
    obtain ⟨s, hs⟩ := k3 st' g1 g2
    exact ⟨s, by unfold stepD; rw [hg]; exact hs⟩
  · rename_i j want hg
    split at h
    · exact (run_fail h).elim
    · rename_i g hgd
      have hgr : g ∈ readsOf ops o := by unfold readsOf; rw [hg]; simp only; rw [hgd]; exact List.mem_cons_self
      split at h
      · rename_i hu
        obtain ⟨k1, k2, rfl⟩ := nop st (fun _ => rfl) rfl h
        refine ⟨k1, k2, fun st' g1 g2 => ⟨st'.app o.dst ⟨.und, [], []⟩, ?_⟩⟩
        unfold stepD
        rw [hg]
        simp only
        rw [hgd]
        simp only
        rw [g1 g hgr, hu]
        rfl
      · rename_i x hx
        have yes : x = want → run T ((opA P M (St.ev { st with tm := upd st.tm g (.b want) }) (look st.ob) o).bind fun d => .ret (St.app { st with tm := upd st.tm g (.b want) } o.dst d, d)) = some (st1, d) → (∀ t, st1.get t = if o.dst = some t then d.v else st.get t) ∧ look st1.ob = fup (look st.ob) d.ow ∧
            ∀ st' : St, (∀ t, t ∈ readsOf ops o → st'.get t = st.get t) → (∀ k, k ∈ d.rd ∨ k ∈ d.ow.map (·.1) → look st'.ob k = look st.ob k) → ∃ st1', run T (stepD P M ops st' o) = some (st1', d) := fun e h => by
          subst e
          obtain ⟨k1, k2, k3⟩ := op { st with tm := upd st.tm g (.b x) } (same_get hx) rfl h
          refine ⟨k1, k2, fun st' g1 g2 => ?_⟩
          have hx' : st'.get g = .b x := by rw [g1 g hgr, hx]
          obtain ⟨s, hs⟩ := k3 { st' with tm := upd st'.tm g (.b x) } (fun t ht => by rw [same_get hx']; exact g1 t ht) g2
          refine ⟨s, ?_⟩
          unfold stepD
          rw [hg]
          simp only
          rw [hgd]
          simp only
          rw [hx']
          simp only
          cases x
          · exact hs
          · exact hs
        have no : x = !want → run T (.ret (St.app { st with tm := upd st.tm g (.b (!want)) } o.dst ⟨.und, [], []⟩, ⟨.und, [], []⟩) : Tree (St × Delta)) = some (st1, d) → (∀ t, st1.get t = if o.dst = some t then d.v else st.get t) ∧ look st1.ob = fup (look st.ob) d.ow ∧
            ∀ st' : St, (∀ t, t ∈ readsOf ops o → st'.get t = st.get t) → (∀ k, k ∈ d.rd ∨ k ∈ d.ow.map (·.1) → look st'.ob k = look st.ob k) → ∃ st1', run T (stepD P M ops st' o) = some (st1', d) := fun e h => by
          obtain ⟨k1, k2, rfl⟩ := nop { st with tm := upd st.tm g (.b (!want)) } (same_get (by rw [hx, e])) rfl h
          refine ⟨k1, k2, fun st' g1 g2 => ?_⟩
          have hx' : st'.get g = .b x := by rw [g1 g hgr, hx]
          refine ⟨St.app { st' with tm := upd st'.tm g (.b (!want)) } o.dst ⟨.und, [], []⟩, ?_⟩
          unfold stepD
          rw [hg]
          simp only
          rw [hgd]
          simp only
          rw [hx']
          subst e
          cases want <;> rfl
        cases want with
        | true =>
          cases x with
          | true => exact yes rfl h
          | false => exact no rfl h
        | false =>
          cases x with
          | true => exact no rfl h
          | false => exact yes rfl h
      · exact (run_fail h).elim
end
end
end Go.Proofs.YtafjengmkiepbaaGreat.Am
end
