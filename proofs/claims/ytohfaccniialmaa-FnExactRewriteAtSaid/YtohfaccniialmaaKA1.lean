/- A machine of values, which answers as the program does (part 1). -/
import Derived.Test.YtohfaccniialmaaKA0
import Derived.Laws.BytesArg
import Derived.ProofKit
import Derived.OpenShut
import Derived.ShutString
import Derived.ChangeOld
import Derived.Below
import Derived.Deep.Slices
import Derived.DataReads
import Derived.IntWalk
section
/- What the machine of values does at an operation, the program does: the call with what is lent. -/
namespace Go.Proofs.Ytohfaccniialmaa.Am
open Go
set_option linter.constructorNameAsVariable false
set_option linter.unusedVariables false
set_option linter.unusedSimpArgs false
section
variable {P : Program} {B : Base} {c : Cx} {ob : Nat → Option AO} {w : World} {s : Sem Next} {d : Delta}

theorem froz_keys : ∀ (l : List Nat) (o : Nat), o ∈ (froz ob l).map (·.1) → o ∈ l
  | [], o, h => by simp [froz] at h
  | a :: r, o, h => by
    simp only [froz, List.map_append, List.mem_append] at h
    rcases h with h | h
    · split at h
      · simp at h; subst h; exact List.mem_cons_self
      · simp at h
    · exact List.mem_cons_of_mem _ (froz_keys r o h)
/-- what is lent is frozen -/
theorem froz_ok : ∀ (l : List Nat) (c : Cx) (ob1 : Nat → Option AO), Mem B c ob1 w → Frz ob ob1 → ∃ c', Mem B c' (fup ob1 (froz ob l)) w ∧ Frz ob (fup ob1 (froz ob l)) ∧ Ext c w c' w ∧ c'.inf = c.inf ∧ ∀ b, Lent c ob l b → (∀ o, o ∈ l → ∃ x, ob o = some x ∧ ∀ cs, x ≠ .box cs) → c'.F b
  | [], c, ob1, hm, hf => ⟨c, hm, hf, .refl c w, rfl, fun b ⟨o, x, i, h, _⟩ => by cases h⟩
  | a :: r, c, ob1, hm, hf => by
    have rest : ∀ (c1 : Cx) (ob2 : Nat → Option AO) (fs : List (Nat × AO)), froz ob (a :: r) = fs ++ froz ob r → ob2 = fup ob1 fs → Mem B c1 ob2 w → Frz ob ob2 → Ext c w c1 w → c1.inf = c.inf → (∀ b, (∃ x i, ob a = some x ∧ isDead x = false ∧ c.inf a = some i ∧ i.blk = some b) → (∀ x, ob a = some x → ∀ cs, x ≠ .box cs) → c1.F b) →
        ∃ c', Mem B c' (fup ob1 (froz ob (a :: r))) w ∧ Frz ob (fup ob1 (froz ob (a :: r))) ∧ Ext c w c' w ∧ c'.inf = c.inf ∧ ∀ b, Lent c ob (a :: r) b → (∀ o, o ∈ (a :: r) → ∃ x, ob o = some x ∧ ∀ cs, x ≠ .box cs) → c'.F b := fun c1 ob2 fs e1 e2 h1 h2 h3 h4 h5 => by
      obtain ⟨c', k1, k2, k3, k4, k5⟩ := froz_ok r c1 ob2 h1 h2
      refine ⟨c', by rw [e1, fup_append, ← e2]; exact k1, by rw [e1, fup_append, ← e2]; exact k2, h3.trans k3, k4.trans h4, fun b hb hall => ?_⟩
      obtain ⟨o, x, i, m1, m2, m3, m4, m5⟩ := hb
      rcases List.mem_cons.1 m1 with m | m
      · subst m
        refine k3.F b (h5 b ⟨x, i, m2, m3, m4, m5⟩ fun y hy cs => ?_)
        obtain ⟨z, hz, hzz⟩ := hall o List.mem_cons_self
        rw [hy] at hz
        cases hz
        exact hzz cs
      · exact k5 b ⟨o, x, i, m, m2, m3, by rw [h4]; exact m4, m5⟩ fun o ho => hall o (List.mem_cons_of_mem _ ho)
    cases hq : ob a with
    | none => exact rest c ob1 [] (by simp only [froz]; rw [hq]) rfl hm hf (.refl c w) rfl fun b ⟨x, i, h, _⟩ => by rw [hq] at h; cases h
    | some x =>
      cases x with
      | dead => exact rest c ob1 [] (by simp only [froz]; rw [hq]) rfl hm hf (.refl c w) rfl fun b ⟨x, i, h, h2, _⟩ => by rw [hq] at h; cases h; simp [isDead] at h2
      | box cs => exact rest c ob1 [] (by simp only [froz]; rw [hq]) rfl hm hf (.refl c w) rfl fun b _ h => absurd rfl (h (.box cs) hq cs)
      | fro v t xs =>
        refine rest c ob1 [] (by simp only [froz]; rw [hq]) rfl hm hf (.refl c w) rfl fun b ⟨x, i, h1, h2, h3, h4⟩ _ => ?_
        have h5 : ob1 a = some (.fro v t xs) := by
          rcases hf a with h | ⟨v', t', xs', h, _⟩
          · rw [h, hq]
          · rw [hq] at h; cases h
        exact hm.fro h5 h3 h4
      | row v t xs =>
        have fz : froz ob (a :: r) = [(a, .fro v t xs)] ++ froz ob r := by simp only [froz]; rw [hq]
        rcases hf a with h | ⟨v', t', xs', h, h'⟩
        · rw [hq] at h
          obtain ⟨k1, k2⟩ := hm.freeze h
          refine rest _ _ [(a, .fro v t xs)] fz rfl k1 (fun q => ?_) k2 rfl fun b ⟨x, i, h1, h2, h3, h4⟩ _ => .inr ⟨_, i, h, rfl, h3, h4⟩
          rw [fup_one]
          by_cases hqa : q = a
          · subst hqa
            exact .inr ⟨v, t, xs, hq, by simp⟩
          · simpa [hqa] using hf q
        · rw [hq] at h
          cases h
          have he : fup ob1 [(a, .fro v t xs)] = ob1 := by
            rw [fup_one]
            funext q
            split
            · rename_i hqa; rw [hqa, h']
            · rfl
          exact rest c ob1 [(a, .fro v t xs)] fz he.symm hm hf (.refl c w) rfl fun b ⟨x, i, h1, h2, h3, h4⟩ _ => hm.fro h' h3 h4

theorem rowsL_ok : ∀ (l : List Nat), rowsL ob l = true → ∀ o, o ∈ l → ∃ x, ob o = some x ∧ ∀ cs, x ≠ .box cs
  | [], _, o, ho => by cases ho
  | q :: r, h, o, ho => by
    simp only [rowsL, Bool.and_eq_true] at h
    rcases List.mem_cons.1 ho with e | ho
    · subst e
      have h1 := h.1
      cases hx : ob o with
      | none => rw [hx] at h1; cases h1
      | some x =>
        rw [hx] at h1
        refine ⟨x, rfl, fun cs e => ?_⟩
        subst e
        cases h1
    · exact rowsL_ok r h.2 o ho

theorem callA_ok (hm : Mem B c ob w) {T : Table} (hT : TS P T) {M : FuncId → List Bool} {k : Nat} {f : FuncId} {as : List AV} {vs : Array Value} (hvs : vs.size = as.length) (hva : ∀ j a, as[j]? = some a → V c w a (vs.getD j undef)) (h : run T (callA M k ob f as) = some d) :
    okFn P f ∧ Calls P f vs w fun e w' => ∃ v c', e = .returned v ∧ Mem B c' (fup ob d.ow) w' ∧ Ext c w c' w' ∧ V c' w' d.v v := by
  unfold callA at h
  obtain ⟨⟨as', lent⟩, hp, h1⟩ := run_opt h
  clear h
  obtain ⟨os, hos, h2⟩ := run_opt h1
  clear h1
  simp only at hos h2
  generalize hLdef : reach ob 100 (refs.refsL as') [] = L at hos h2
  split at h2
  case h_1 => exact (run_fail h2).elim
  rename_i hck
  rw [Bool.and_eq_true, Bool.and_eq_true] at hck
  obtain ⟨⟨hnd, hdj⟩, hrows⟩ := hck
  simp only [run] at h2
  split at h2
  case h_2 => cases h2
  rename_i p hTp
  split at h2
  case h_2 => cases h2
  rename_i t hpt
  obtain ⟨hfn, hA⟩ := hT f _ os p t hTp hpt
  refine ⟨hfn, ?_⟩
  split at h2
  case h_1 => exact (run_fail h2).elim
  rename_i hck2
  rw [Bool.and_eq_true, Bool.and_eq_true] at hck2
  obtain ⟨⟨hle, hfr⟩, hbox⟩ := hck2
  have hle := ble_true hle
  obtain ⟨hlen, hget⟩ := obsOf_get _ L os hos
  have hdj' := disj_mem lent L hdj
  have hfresh := freshN_get (ob := ob) (newId k 0) _ hfr
  rcases Bool.eq_false_or_eq_true (imm (p.enc t).1 || anyImm (p.enc t).2) with hflag | hflag
  · rw [hflag] at h2
    simp only at h2
    split at h2
    case h_2 => exact (run_fail h2).elim
    rename_i hrl
    have hd := run_ret h2
    subst hd
    obtain ⟨cf, m1, m2, m3, m4, m5⟩ := froz_ok lent c ob hm (.refl ob)
    have hlentF : ∀ b, Lent c ob lent b → cf.F b := fun b hb => m5 b hb (rowsL_ok lent hrl)
    obtain ⟨q1, q2⟩ := passes_ok hm (c' := cf) m4 m3.F as (M f) as' lent hp hlentF
    have hne : ∀ o, o ∈ L → fup ob (froz ob lent) o = ob o := fun o ho => fup_not _ _ _ fun hk => hdj' o (froz_keys lent o hk) ho
    have core := call_core (P := P) m1 (ob0 := ob) (k := k) (L := L) (os := os) (f := f) (as := as') (vs := vs) (r := p.enc t) (F1 := cf.F)
      (fun i o hi => by
        obtain ⟨a, a1, a2⟩ := hget i o hi
        exact ⟨a, by rw [hne o (List.mem_of_getElem? hi)]; exact a1, a1, a2⟩) hlen hnd hrows (fun b h => h) (fun b hb => ⟨m1.F b hb, fun o ho hB => (m1.blk hB).2 hb⟩) (by rw [hvs, q1]) (q2 _ hva) hA hle (fun q hq => by
        have := hfresh q hq
        refine ⟨?_, this⟩
        rcases m2 (newId k 0 + q) with h | ⟨v, t, xs, h, _⟩
        · rw [h, this]
        · rw [this] at h; cases h) hbox (fun _ b h => h)
    refine core.mono fun e w' ⟨v, c', he, k1, k2, k3⟩ => ⟨v, c', he, ?_, m3.trans k2, k3⟩
    rw [fup_append, ← fup_comm]
    · exact k1
    · intro o h1 h2
      have h1 := froz_keys lent o h1
      obtain ⟨j, _, hj, rfl⟩ := backO_keys k L (p.enc t).2 0 o h2
      by_cases hjl : j < L.length
      · rw [sig_old (List.getElem?_eq_getElem hjl)] at h1
        exact hdj' _ h1 (List.getElem_mem hjl)
      · rw [sig_new (by omega)] at h1
        obtain ⟨x, hx, _⟩ := rowsL_ok lent hrl _ h1
        rw [hfresh _ (by omega)] at hx
        cases hx
  · rw [hflag] at h2
    simp only at h2
    have hd := run_ret h2
    subst hd
    have hF : ∀ b, c.F b → c.F b ∨ Lent c ob lent b := fun b h => .inl h
    obtain ⟨q1, q2⟩ := passes_ok hm (c' := ⟨c.inf, fun b => c.F b ∨ Lent c ob lent b⟩) rfl hF as (M f) as' lent hp (fun b h => .inr h)
    refine call_core (P := P) hm (ob0 := ob) (k := k) (L := L) (os := os) (f := f) (as := as') (vs := vs) (r := p.enc t) (F1 := fun b => c.F b ∨ Lent c ob lent b)
      (fun i o hi => by
        obtain ⟨a, a1, a2⟩ := hget i o hi
        exact ⟨a, a1, a1, a2⟩) hlen hnd hrows hF (fun b hb => ?_) (by rw [hvs, q1]) (q2 _ hva) hA hle (fun q hq => ⟨hfresh q hq, hfresh q hq⟩) hbox (fun hfl => by rw [hflag] at hfl; cases hfl)
    rcases hb with hb | ⟨o, x, i, k1, k2, k3, k4, k5⟩
    · exact ⟨hm.F b hb, fun o ho hB => (hm.blk hB).2 hb⟩
    · by_cases hl : live x = true
      · have hB : Blk c ob o b := ⟨x, i, k2, hl, k4, k5⟩
        refine ⟨(hm.blk hB).1, fun o' ho' ⟨y, j, y1, y2, y3, y4⟩ => ?_⟩
        have := hm.inj o o' x y i j b k2 y1 hl y2 k4 y3 k5 y4
        subst this
        exact hdj' o k1 ho'
      · have hFb : c.F b := by
          cases x with
          | dead => simp [isDead] at k3
          | box cs => simp [live] at hl
          | row v t xs => simp [live] at hl
          | fro v t xs => exact hm.fro k2 k4 k5
        exact ⟨hm.F b hFb, fun o ho hB => (hm.blk hB).2 hFb⟩
end
end Go.Proofs.Ytohfaccniialmaa.Am
end
section
/- What the machine of values does at an operation, the program does: copy, clear. -/
namespace Go.Proofs.Ytohfaccniialmaa.Am
open Go
set_option linter.constructorNameAsVariable false
set_option linter.unusedVariables false
set_option linter.unusedSimpArgs false
section
variable {P : Program} {B : Base} {c : Cx} {ob : Nat → Option AO} {w : World} {s : Sem Next} {d : Delta}

theorem partA_ok (hm : Mem B c ob w) {a : AV} {x : Value} (ha : V c w a x) {o v lo n : Nat} (h : partA ob a = some (o, v, lo, n)) {t : Ty} {xs : List t.D} {v' : Nat} (ho : ob o = some (.row v' t xs)) :
    v' = v ∧ ∃ i, c.inf o = some i ∧ i.ver = v ∧ i.len = xs.length ∧ i.sz = t.sz ∧ xs.length ≤ i.cap ∧ RowB c w i t xs False ∧ lo + n ≤ xs.length ∧ Hd i lo n x := by
  cases a <;> simp only [partA, reduceCtorEq] at h
  case own q ver =>
    split at h
    · rename_i v2 t2 xs2 hq
      split at h
      · rename_i hv
        have hv := beq_true hv
        simp only [Option.some.injEq, Prod.mk.injEq] at h
        obtain ⟨rfl, rfl, rfl, rfl⟩ := h
        rw [ho] at hq
        cases hq
        subst hv
        obtain ⟨i, p, h1, h2, h3, h4, h5, h6, h7⟩ := own_head hm (.inl ho) ha
        obtain ⟨i', k1, k2, k3, k4, k5, k6⟩ := hm.obj _ _ ho
        rw [h1] at k1
        cases k1
        exact ⟨rfl, i, h1, h2, h3, h4, h5, k6, by omega, h7⟩
      · cases h
    · cases h
  case sub q ver l m =>
    split at h
    · rename_i v2 t2 xs2 hq
      split at h
      · rename_i hv
        have hv := beq_true hv
        simp only [Option.some.injEq, Prod.mk.injEq] at h
        obtain ⟨rfl, rfl, rfl, rfl⟩ := h
        rw [ho] at hq
        cases hq
        subst hv
        obtain ⟨i, p, h1, h2, h3, h4, h5, h6, h7, h8⟩ := sub_head hm (.inl ho) ha
        obtain ⟨i', k1, k2, k3, k4, k5, k6⟩ := hm.obj _ _ ho
        rw [h1] at k1
        cases k1
        exact ⟨rfl, i, h1, h2, h3, h4, h5, k6, h7, h8⟩
      · cases h
    · cases h

/-- elements that are written over others -/
theorem row_write (hm : Mem B c ob w) {q v : Nat} {t : Ty} {xs zs : List t.D} (hq : ob q = some (.row v t xs)) {i : Inf} {b : Nat} {arr : Array Value} {el : TypeId} (hi : c.inf q = some i) (hv : i.ver = v) (hl : i.len = xs.length) (hs : i.sz = t.sz) (hcap : xs.length ≤ i.cap) (hb : i.blk = some b) (hh : w.heap[b]? = some (.cells arr el (0, 0)))
    (hsz : i.off + i.cap * t.sz ≤ arr.size) (hc : Cells c w arr i.off t xs) (hF : ¬ c.F b) {lo : Nat} (hfit : lo + zs.length ≤ xs.length) {vs : List Value} (hvl : vs.length = zs.length * t.sz) (h1 : ∀ u ∈ vs, u.oneCell' = true) (hz : ∀ j x, zs[j]? = some x → ∀ p y, (view t x)[p]? = some y → V c w y (vs.getD (j * t.sz + p) undef)) :
    Mem B (c.set q i) (fup ob [(q, .row v t (xs.take lo ++ zs ++ xs.drop (lo + zs.length)))]) (w.setRow b (spl arr (i.off + lo * t.sz) vs)) ∧ Ext c w (c.set q i) (w.setRow b (spl arr (i.off + lo * t.sz) vs)) := by
  have hlen : (xs.take lo ++ zs ++ xs.drop (lo + zs.length)).length = xs.length := by
    simp only [List.length_append, List.length_take, List.length_drop]
    omega
  have h9 := Nat.mul_le_mul_right t.sz (show lo + zs.length ≤ i.cap by omega)
  rw [Nat.add_mul] at h9
  have hfa : i.off + lo * t.sz + vs.length ≤ arr.size := by omega
  refine hm.write (x' := .row v t (xs.take lo ++ zs ++ xs.drop (lo + zs.length))) hq rfl hi hb fun ext => ⟨i, Cx.set_eq _ _ _, hv, by rw [hlen]; exact hl, hs, by rw [hlen]; exact hcap, .inr ⟨b, _, el, hb, setRow_heap w b arr _ el (0, 0) hh, by rw [spl_size hfa]; exact hsz, ?_, ⟨fun h => hF h, False.elim⟩⟩⟩
  intro j x hx p y hy
  have hp : p < t.sz := by rw [← view_len t x]; exact (List.getElem?_eq_some_iff.1 hy).1
  have htl : (xs.take lo).length = lo := by rw [List.length_take]; omega
  rw [spl_get hfa]
  rw [List.append_assoc, List.getElem?_append, htl] at hx
  have old : xs[j]? = some x → ¬ (i.off + lo * t.sz ≤ i.off + (j * t.sz + p) ∧ i.off + (j * t.sz + p) < i.off + lo * t.sz + vs.length) → V (c.set q i) (w.setRow b (spl arr (i.off + lo * t.sz) vs)) y (if i.off + lo * t.sz ≤ i.off + (j * t.sz + p) ∧ i.off + (j * t.sz + p) < i.off + lo * t.sz + vs.length then vs.getD (i.off + (j * t.sz + p) - (i.off + lo * t.sz)) undef else arr.getD (i.off + (j * t.sz + p)) undef) ∧ (if i.off + lo * t.sz ≤ i.off + (j * t.sz + p) ∧ i.off + (j * t.sz + p) < i.off + lo * t.sz + vs.length then vs.getD (i.off + (j * t.sz + p) - (i.off + lo * t.sz)) undef else arr.getD (i.off + (j * t.sz + p)) undef).oneCell' = true := fun e hn => by
    rw [if_neg hn]
    exact ⟨(hc j x e p y hy).1.ext ext, (hc j x e p y hy).2⟩
  split at hx
  · rename_i hj
    rw [List.getElem?_take, if_pos hj] at hx
    refine old hx ?_
    have := Nat.mul_le_mul_right t.sz (show j + 1 ≤ lo from hj)
    rw [Nat.add_mul, Nat.one_mul] at this
    omega
  · rename_i hj
    rw [List.getElem?_append] at hx
    split at hx
    · rename_i hj2
      have g1 := Nat.mul_le_mul_right t.sz (show j - lo + 1 ≤ zs.length from hj2)
      rw [Nat.add_mul, Nat.one_mul] at g1
      have g2 := Nat.mul_le_mul_right t.sz (show lo ≤ j by omega)
      have g3 : (j - lo) * t.sz = j * t.sz - lo * t.sz := Nat.sub_mul _ _ _
      rw [if_pos (by omega)]
      rw [show i.off + (j * t.sz + p) - (i.off + lo * t.sz) = (j - lo) * t.sz + p by omega]
      have hlt : (j - lo) * t.sz + p < vs.length := by omega
      refine ⟨(hz _ x hx p y hy).ext ext, h1 _ ?_⟩
      rw [List.getD_eq_getElem?_getD, List.getElem?_eq_getElem hlt]
      exact List.getElem_mem hlt
    · rename_i hj2
      rw [List.getElem?_drop] at hx
      rw [show lo + zs.length + (j - lo - zs.length) = j by omega] at hx
      refine old hx ?_
      have g1 := Nat.mul_le_mul_right t.sz (show lo + zs.length ≤ j by omega)
      rw [Nat.add_mul] at g1
      omega

theorem fup_same {q : Nat} {x : AO} (h : ob q = some x) : fup ob [(q, x)] = ob := by
  rw [fup_one]
  funext o
  split
  · rename_i e; rw [e, h]
  · rfl

theorem run_store_part {b p : Nat} {arr : Array Value} {e : TypeId} (hb : w.heap[b]? = some (.cells arr e (0, 0))) {vs : List Value} (hf : p + vs.length ≤ arr.size) (h1 : ∀ v ∈ vs, v.oneCell' = true) : (storeCells ⟨b, p, none⟩ vs 0).run P w = .ok () (w.setRow b (spl arr p vs)) := by
  have := run_storeCells_at (P := P) b p e vs 0 arr w hb (by omega) h1
  simpa [spl] using this

theorem copy_ok (hm : Mem B c ob w) {T : Table} {t e : TypeId} {ts : List TypeId} {x y : Operand} {ρ : Operand → Value} {a z : AV} (ha : V c w a (ρ x)) (hz : V c w z (ρ y)) {o : Oper} {cl : Call} (ho : o.op = .call cl) (hb : cl.callee = .builtin .copy) (hargs : cl.args.toList = [x, y])
    (hts : cl.argTypes.toList = t :: ts) (ht : P.underlying t = some (.slice e)) (h : run T (copyA P ob e a z) = some d) : Eff P B c ob w (execOp ρ o) d := by
  unfold copyA at h
  obtain ⟨sz, hsz, h1⟩ := run_opt h
  clear h
  obtain ⟨⟨q, v, lo, n⟩, hp, h2⟩ := run_opt h1
  clear h1
  simp only at h2
  split at h2
  case h_2 => exact (run_fail h2).elim
  rename_i v' u xs hq
  split at h2
  case h_2 => exact (run_fail h2).elim
  rename_i hs
  have hs := beq_true hs
  subst hs
  obtain ⟨r, hr, h3⟩ := run_opt h2
  clear h2
  obtain ⟨ys, hys, h4⟩ := run_opt h3
  clear h3
  have hd := run_ret h4
  clear h4
  subst hd
  obtain ⟨rfl, i, k1, k2, k3, k4, k5, k6, k7, A, cp, ex, k8, k9, k10⟩ := partA_ok hm ha hp hq
  have hrd := Rd.cast hys (rowOf_rd hm hz hr)
  obtain ⟨A', cp', g, ey, m1, m2, m3⟩ := hrd
  have hts' : cl.argTypes[0]? = some t := by
    have : cl.argTypes.toList[0]? = some t := by rw [hts]; rfl
    simpa using this
  have hex : ∀ w', (Builtin.copy_ cl.argTypes o.type #[ρ x, ρ y]).run P w = .ok (goInt ((min ys.length n : Nat))) w' → (execOp ρ o).run P w = .ok (.value (.int .i64 ((min ys.length n : Nat) : Int))) w' := fun w' e => by
    rw [call_builtin ho hb, args_of hargs]
    simp [builtin, e, goInt]
  have htk : (ys.take n).length = min ys.length n := by rw [List.length_take, Nat.min_comm]
  by_cases h0 : min ys.length n = 0
  · have hnil : ys.take n = [] := List.length_eq_zero_iff.1 (by rw [htk]; exact h0)
    have hsame : xs.take lo ++ ys.take n ++ xs.drop (lo + min ys.length n) = xs := by rw [hnil, h0]; simp
    have hob : fup ob [(q, .row v' u (xs.take lo ++ ys.take n ++ xs.drop (lo + min ys.length n)))] = ob := by rw [hsame]; exact fup_same hq
    refine ⟨_, w, c, .inl (hex w ?_), by rw [hob]; exact hm, .refl c w, .i _ _⟩
    rw [ex, ey]
    have hmin : Nat.min ys.length n = 0 := h0
    have hfc : (Builtin.firstCells u.sz 0 (.slice A' ys.length cp')).run P w = .ok #[] w := by
      cases A' with
      | none => rfl
      | some a' => simpa using run_firstCells_some (P := P) w u.sz 0 a' ys.length cp' [] (by simp) (by simp)
    cases A <;> simp [Builtin.copy_, hts', run_underlying ht, Builtin.lenOf, hmin, run_sizeOf' hsz, hfc, storeCells, goInt, h0]
  · have hn0 : 0 < ys.length ∧ 0 < n := by omega
    obtain ⟨b, hblk, rfl⟩ := k10 (by omega)
    obtain ⟨a', rfl, hcells⟩ := m2 hn0.1
    rcases k6 with ⟨k6, _⟩ | ⟨b', arr, el, q1, q2, q3, q4, q5⟩
    · rw [hblk] at k6; cases k6
    rw [hblk] at q1
    cases q1
    let news : List Value := (List.range (min ys.length n * u.sz)).map g
    have hnl : news.length = min ys.length n * u.sz := by simp [news]
    have hle : min ys.length n * u.sz ≤ ys.length * u.sz := Nat.mul_le_mul_right _ (Nat.min_le_left _ _)
    have hone : ∀ v ∈ news, v.oneCell' = true := fun v hv => by
      obtain ⟨j, hj, rfl⟩ := List.mem_map.1 hv
      exact (hcells j (by have := List.mem_range.1 hj; omega)).2
    have hfc := run_firstCells_some (P := P) w u.sz (min ys.length n) a' ys.length cp' news hnl (fun j v hv => by
      rw [List.getElem?_map] at hv
      obtain ⟨p, hp, rfl⟩ := Option.map_eq_some_iff.1 hv
      obtain ⟨p1, p2⟩ := List.getElem?_eq_some_iff.1 hp
      simp at p1 p2
      subst p2
      exact (hcells j (by omega)).1)
    have h9 := Nat.mul_le_mul_right u.sz (show lo + min ys.length n ≤ i.cap by omega)
    rw [Nat.add_mul] at h9
    have hst := run_store_part (P := P) (p := i.off + lo * u.sz) q2 (vs := news) (by rw [hnl]; omega) hone
    have hrun : (Builtin.copy_ cl.argTypes o.type #[ρ x, ρ y]).run P w = .ok (goInt ((min ys.length n : Nat))) (w.setRow b (spl arr (i.off + lo * u.sz) news)) := by
      rw [ex, ey]
      have hmin : Nat.min ys.length n = min ys.length n := rfl
      simp [Builtin.copy_, hts', run_underlying ht, Builtin.lenOf, hmin, run_sizeOf' hsz, hfc, k4, hst]
    obtain ⟨r1, r2⟩ := row_write hm hq k1 k2 k3 k4 k5 hblk q2 q3 q4 (fun h => q5.1 h) (zs := ys.take n) (lo := lo) (by rw [htk]; omega) (vs := news) (by rw [hnl, htk]) hone (fun j x' hx' p y' hy' => by
      have hxy : ys[j]? = some x' := by
        rw [List.getElem?_take] at hx'
        split at hx'
        · exact hx'
        · cases hx'
      have hjn : j < min ys.length n := by rw [← htk]; exact (List.getElem?_eq_some_iff.1 hx').1
      have hp : p < u.sz := by rw [← view_len u x']; exact (List.getElem?_eq_some_iff.1 hy').1
      have g1 := Nat.mul_le_mul_right u.sz (show j + 1 ≤ min ys.length n from hjn)
      rw [Nat.add_mul, Nat.one_mul] at g1
      have : news.getD (j * u.sz + p) undef = g (j * u.sz + p) := by
        have hlt : j * u.sz + p < min ys.length n * u.sz := by omega
        simp [news, List.getD_eq_getElem?_getD, hlt]
      rw [this]
      exact m3 j x' hxy p y' hy')
    rw [htk] at r1
    exact ⟨_, _, _, .inl (hex _ hrun), r1, r2, .i _ _⟩

theorem clear_ok (hm : Mem B c ob w) {T : Table} {t e : TypeId} {ts : List TypeId} {x : Operand} {ρ : Operand → Value} {a : AV} (ha : V c w a (ρ x)) {o : Oper} {cl : Call} (ho : o.op = .call cl) (hb : cl.callee = .builtin .clear) (hargs : cl.args.toList = [x])
    (hts : cl.argTypes.toList = t :: ts) (ht : P.underlying t = some (.slice e)) (h : run T (clearA P ob e a) = some d) : Eff P B c ob w (execOp ρ o) d := by
  unfold clearA at h
  obtain ⟨z, hz, h1⟩ := run_opt h
  clear h
  obtain ⟨⟨q, v, lo, n⟩, hp, h2⟩ := run_opt h1
  clear h1
  simp only at h2
  split at h2
  case h_2 => exact (run_fail h2).elim
  rename_i v' u xs hq
  split at h2
  case h_2 => exact (run_fail h2).elim
  rename_i hs
  have hs := beq_true hs
  obtain ⟨yv, hyv, h3⟩ := run_opt h2
  clear h2
  have hd := run_ret h3
  clear h3
  subst hd
  obtain ⟨rfl, i, k1, k2, k3, k4, k5, k6, k7, A, cp, ex, k8, k9, k10⟩ := partA_ok hm ha hp hq
  obtain ⟨ti, zv, hi, hzv, hl, hc⟩ := zeroC_ok hz
  obtain ⟨hul, huv⟩ := unview_ok u z yv hyv
  have hts' : cl.argTypes[0]? = some t := by
    have : cl.argTypes.toList[0]? = some t := by rw [hts]; rfl
    simpa using this
  have hex : ∀ w', (Builtin.clear_ cl.argTypes o.type #[ρ x]).run P w = .ok (.tuple #[]) w' → (execOp ρ o).run P w = .ok (.value (.tuple #[])) w' := fun w' e => by
    rw [call_builtin ho hb, args_of hargs]
    simp [builtin, e]
  by_cases h0 : n = 0
  · subst h0
    have hsame : xs.take lo ++ List.replicate 0 yv ++ xs.drop (lo + 0) = xs := by simp
    have hob : fup ob [(q, .row v' u (xs.take lo ++ List.replicate 0 yv ++ xs.drop (lo + 0)))] = ob := by rw [hsame]; exact fup_same hq
    refine ⟨_, w, c, .inl (hex w ?_), by rw [hob]; exact hm, .refl c w, .bad _⟩
    rw [ex]
    cases A <;> simp [Builtin.clear_, hts', run_underlying ht]
  · obtain ⟨b, hblk, rfl⟩ := k10 (by omega)
    rcases k6 with ⟨k6, _⟩ | ⟨b', arr, el, q1, q2, q3, q4, q5⟩
    · rw [hblk] at k6; cases k6
    rw [hblk] at q1
    cases q1
    have hzs : zv.cells.size = u.sz := by rw [hl, hs]
    have hcl := hc c w
    have hnl : (Builtin.zeroCells zv.cells n).toList.length = n * u.sz := by simp [size_zeroCells, hzs]
    have hget : ∀ j p, j < n → p < u.sz → (Builtin.zeroCells zv.cells n).toList.getD (j * u.sz + p) undef = zv.cells.getD p undef := fun j p hj hp => by
      have g1 := Nat.mul_le_mul_right u.sz (show j + 1 ≤ n from hj)
      rw [Nat.add_mul, Nat.one_mul] at g1
      have hlt : j * u.sz + p < n * u.sz := by omega
      have hps : p < zv.cells.size := by omega
      simp only [Builtin.zeroCells, hzs, List.getD_eq_getElem?_getD, Array.getElem?_toList, Array.getElem?_map]
      simp [hlt, Nat.mul_add_mod_of_lt' hp]
      rw [getElem!_pos zv.cells p hps]
      simp [hps]
    have hone : ∀ v ∈ (Builtin.zeroCells zv.cells n).toList, v.oneCell' = true := fun v hv => by
      obtain ⟨j, hj, rfl⟩ := List.getElem_of_mem hv
      rw [hnl] at hj
      have hsp : 0 < u.sz := Nat.pos_of_ne_zero fun e => by rw [e] at hj; simp at hj
      have hjd : j / u.sz < n := (Nat.div_lt_iff_lt_mul hsp).2 hj
      have hm' := Nat.mod_lt j hsp
      have := hget (j / u.sz) (j % u.sz) hjd hm'
      rw [Nat.mul_comm, Nat.div_add_mod] at this
      rw [List.getD_eq_getElem?_getD, List.getElem?_eq_getElem (by rw [hnl]; exact hj)] at this
      simp only [Option.getD_some] at this
      rw [this]
      exact hcl.2.1 _ (by omega)
    have h9 := Nat.mul_le_mul_right u.sz (show lo + n ≤ i.cap by omega)
    rw [Nat.add_mul] at h9
    have hst := run_store_part (P := P) (p := i.off + lo * u.sz) q2 (vs := (Builtin.zeroCells zv.cells n).toList) (by rw [hnl]; omega) hone
    have hrun : (Builtin.clear_ cl.argTypes o.type #[ρ x]).run P w = .ok (.tuple #[]) (w.setRow b (spl arr (i.off + lo * u.sz) (Builtin.zeroCells zv.cells n).toList)) := by
      rw [ex]
      cases n with
      | zero => exact absurd rfl h0
      | succ n => simp [Builtin.clear_, hts', run_underlying ht, run_zeroValue' hi hzv, k4, hst]
    obtain ⟨r1, r2⟩ := row_write hm hq k1 k2 k3 k4 k5 hblk q2 q3 q4 (fun h => q5.1 h) (zs := List.replicate n yv) (lo := lo) (by simpa using k7) (vs := (Builtin.zeroCells zv.cells n).toList) (by rw [hnl]; simp) hone (fun j x' hx' p y' hy' => by
      have hj : j < n := by have := (List.getElem?_eq_some_iff.1 hx').1; simpa using this
      have hxy : x' = yv := by
        have := (List.getElem?_eq_some_iff.1 hx').2
        simpa using this.symm
      subst hxy
      have hp : p < u.sz := by rw [← view_len u x']; exact (List.getElem?_eq_some_iff.1 hy').1
      rw [hget j p hj hp]
      exact huv c w (fun p => zv.cells.getD p undef) (fun p y hy => hcl.2.2 p y hy) p y' hy')
    rw [List.length_replicate] at r1
    exact ⟨_, _, _, .inl (hex _ hrun), r1, r2, .bad _⟩
theorem conv_ok (hm : Mem B c ob w) {T : Table} {st tt : TypeId} {x : Operand} {ρ : Operand → Value} {a : AV} (ha : V c w a (ρ x)) {o : Oper} (ho : o.op = .convert st tt x) (h : run T (convA P ob st tt a) = some d) : Eff P B c ob w (execOp ρ o) d := by
  unfold execOp
  simp only [ho]
  unfold convA at h
  split at h
  case h_3 => exact (run_fail h).elim
  case h_1 u k hs ht =>
    cases a <;> simp only at h
    case i k' n =>
      rw [V.inv_i ha]
      exact .now hm h (v := .int k (k.wrap n)) (by simp [convert, run_underlying hs, run_underlying ht, Conv.intToInt]) (.i _ _)
    all_goals exact (run_fail h).elim
  case h_2 e hs ht =>
    split at h
    case h_2 => exact (run_fail h).elim
    rename_i he
    obtain ⟨r, hr, h1⟩ := run_opt h
    clear h
    obtain ⟨ys, hys, h2⟩ := run_opt h1
    clear h1
    obtain ⟨A, cp, g, e1, e2, e3, e4⟩ := Rd.cast hys (rowOf_rd hm ha hr)
    rw [e1]
    refine .pure hm (v := .string (strOf ys)) ?_ (.s _) (run_ret h2).symm
    have key : (convert st tt (.slice A ys.length cp)).run P w = .ok (.string (strOf ys)) w := by
      cases A with
      | none =>
        have h0 : ys = [] := by
          cases ys with
          | nil => rfl
          | cons y q => obtain ⟨b, hb, _⟩ := e3 (by simp); cases hb
        subst h0
        rw [run_convert_bytes_nil w st e hs he _ _ tt ht]
        rfl
      | some b =>
        have hl : (loadCells b ys.length).run P w = .ok (ys.map (Value.int .u8)).toArray w := by
          have := run_loadCells_list (P := P) w b (ys.map (Value.int .u8)) (fun j v hj => by
            rw [List.getElem?_map] at hj
            obtain ⟨y, hy, rfl⟩ := Option.map_eq_some_iff.1 hj
            have hlt : j < ys.length := (List.getElem?_eq_some_iff.1 hy).1
            obtain ⟨b', hb', k⟩ := e3 (by omega)
            cases hb'
            have := V.inv_i (e4 j y hy 0 (.i .u8 y) rfl)
            have hsz : Ty.sz (.i .u8) = 1 := rfl
            rw [hsz] at k this
            rw [(k j (by omega)).1]
            rw [show j * 1 + 0 = j by omega] at this
            rw [this])
          simpa using this
        rw [run_convert_bytes_string w st tt e _ ys.length cp hs he ht, run_bytesToString w _ ys.length cp ys hl, foldl_push_bytes]
        simp [strOf, ByteArray.empty, ByteArray.emptyWithCapacity]
        rfl
    simp only [Sem.run_bind, key, Result.andThen_ok, Sem.run_pure]
end
end Go.Proofs.Ytohfaccniialmaa.Am
end
section
/- What the machine of values does at an operation, the program does: all operations. -/
namespace Go.Proofs.Ytohfaccniialmaa.Am
open Go
set_option linter.constructorNameAsVariable false
set_option linter.unusedVariables false
set_option linter.unusedSimpArgs false
section
variable {P : Program} {B : Base} {c : Cx} {ob : Nat → Option AO} {w : World} {s : Sem Next} {d : Delta}

def CallEff (P : Program) (B : Base) (c : Cx) (ob : Nat → Option AO) (w : World) (s : Sem Next) (d : Delta) : Prop :=
  ∃ f vs, s.run P w = .ok (.enter f vs) w ∧ Calls P f vs w fun e w' => ∃ v c', e = .returned v ∧ Mem B c' (fup ob d.ow) w' ∧ Ext c w c' w' ∧ V c' w' d.v v

theorem getD_append_left {a b : Array Value} {j : Nat} (h : j < a.size) : (a ++ b).getD j undef = a.getD j undef := by
  simp only [Array.getD_eq_getD_getElem?]
  rw [Array.getElem?_append_left h]
theorem getD_append_right {a b : Array Value} {j : Nat} (h : a.size ≤ j) : (a ++ b).getD j undef = b.getD (j - a.size) undef := by
  simp only [Array.getD_eq_getD_getElem?]
  rw [Array.getElem?_append_right h]

theorem callV_ok (hm : Mem B c ob w) {T : Table} (hT : TS P T) {M : FuncId → List Bool} {k : Nat} {f : Operand} {ρ : Operand → Value} {ev : Operand → AV} (hev : ∀ x, V c w (ev x) (ρ x)) {o : Oper} {cl : Call} (ho : o.op = .call cl) (hb : cl.callee = .value f)
    (h : run T (match ev f with | .fn g cs => callA M k ob g (cl.args.toList.map ev ++ cs) | _ => .fail) = some d) : CallEff P B c ob w (execOp ρ o) d := by
  have hf := hev f
  cases ef : ev f <;> rw [ef] at h hf <;> simp only at h
  case fn g cs =>
    obtain ⟨vs, ex, hs, hv⟩ := hf.inv_fn
    have hsz : (cl.args.map ρ ++ vs).size = (cl.args.toList.map ev ++ cs).length := by simp [hs]
    obtain ⟨⟨fn, k1, k2, k3⟩, hc⟩ := callA_ok (P := P) (vs := cl.args.map ρ ++ vs) hm hT hsz (fun j a ha => by
      rw [List.getElem?_append] at ha
      split at ha
      · rename_i hj
        rw [List.length_map] at hj
        have hj' : j < cl.args.size := by simpa using hj
        rw [List.getElem?_map] at ha
        obtain ⟨z, hz, rfl⟩ := Option.map_eq_some_iff.1 ha
        have hzz : cl.args[j] = z := by
          have := (List.getElem?_eq_some_iff.1 hz).2
          simpa using this
        rw [getD_append_left (by simpa using hj')]
        have : (cl.args.map ρ).getD j undef = ρ z := by simp [hj', hzz]
        rw [this]
        exact hev z
      · rename_i hj
        rw [List.length_map] at hj ha
        have hj' : cl.args.size ≤ j := by simpa using hj
        rw [getD_append_right (by simpa using hj')]
        have := hv _ a ha
        simpa using this) h
    refine ⟨g, cl.args.map ρ ++ vs, ?_, hc⟩
    unfold execOp
    simp only [ho]
    simp only [resolve, hb, Deferred.ofValue, ex, Sem.run_bind, Sem.run_pure, Result.andThen_ok, invoke, callFunc, run_program, k1]
    rw [if_neg (by simp [k2])]
    rw [if_neg (by cases hbd : fn.body <;> simp [hbd] at k3 ⊢)]
    simp
  all_goals exact (run_fail h).elim

theorem builtinA_ok (hm : Mem B c ob w) {T : Table} {k : Nat} {ρ : Operand → Value} {ev : Operand → AV} (hev : ∀ x, V c w (ev x) (ρ x)) {o : Oper} {cl : Call} {b : Builtin} (ho : o.op = .call cl) (hb : cl.callee = .builtin b)
    (h : run T (builtinA P k ob b cl.argTypes.toList (cl.args.toList.map ev)) = some d) : Eff P B c ob w (execOp ρ o) d := by
  have args1 : ∀ x, cl.args.toList.map ev = [x] → ∃ p, cl.args.toList = [p] ∧ ev p = x := fun x e => by
    cases e2 : cl.args.toList with
    | nil => rw [e2] at e; cases e
    | cons p r =>
      rw [e2] at e
      cases r with
      | nil => simp at e; exact ⟨p, rfl, e⟩
      | cons q r => simp at e
  have args2 : ∀ x y, cl.args.toList.map ev = [x, y] → ∃ p q, cl.args.toList = [p, q] ∧ ev p = x ∧ ev q = y := fun x y e => by
    cases e2 : cl.args.toList with
    | nil => rw [e2] at e; cases e
    | cons p r =>
      rw [e2] at e
      cases r with
      | nil => simp at e
      | cons q r =>
        cases r with
        | nil => simp at e; exact ⟨p, q, rfl, e.1, e.2⟩
        | cons z r => simp at e
  unfold builtinA at h
  split at h
  · rename_i x hx
    obtain ⟨p, hp, rfl⟩ := args1 x hx
    exact len_ok hm (hev p) ho hb hp h
  · rename_i sx x hx
    obtain ⟨p, q, hpq, rfl, rfl⟩ := args2 sx x hx
    unfold appendA at h
    split at h
    case h_2 => exact (run_fail h).elim
    rename_i t tx hts
    split at h
    case h_2 => exact (run_fail h).elim
    rename_i e e' ht htx
    obtain ⟨u, hu, h1⟩ := run_opt h
    clear h
    obtain ⟨by_, hby, h2⟩ := run_opt h1
    clear h1
    obtain ⟨z, hz, h3⟩ := run_opt h2
    clear h2
    split at h3
    case h_2 => exact (run_fail h3).elim
    rename_i hck
    rw [Bool.and_eq_true] at hck
    obtain ⟨r, hr, h4⟩ := run_opt h3
    clear h3
    obtain ⟨ys, hys, h5⟩ := run_opt h4
    clear h4
    obtain ⟨i, zv, hi, hzv, hl, hc⟩ := zeroC_ok hz
    obtain ⟨i2, hi2, hbs⟩ := bytesT_eq ht hby
    rw [hi] at hi2
    cases hi2
    exact appendB_ok hm (hev p) (Rd.cast hys (rowOf_rd hm (hev q) hr)) ho hb hpq hts ht htx hi hzv hbs (szIs_eq hck.1 hi) (hl.trans (beq_true hck.2)) h5
  · rename_i x y hx
    obtain ⟨p, q, hpq, rfl, rfl⟩ := args2 x y hx
    split at h
    · rename_i t ts hts
      split at h
      · rename_i e ht
        exact copy_ok hm (hev p) (hev q) ho hb hpq hts ht h
      · exact (run_fail h).elim
    · exact (run_fail h).elim
  · rename_i x hx
    obtain ⟨p, hp, rfl⟩ := args1 x hx
    split at h
    · rename_i t ts hts
      split at h
      · rename_i e ht
        exact clear_ok hm (hev p) ho hb hp hts ht h
      · exact (run_fail h).elim
    · exact (run_fail h).elim
  · rename_i kk n r hx
    cases e2 : cl.args.toList with
    | nil => rw [e2] at hx; cases hx
    | cons p l =>
      rw [e2] at hx
      simp only [List.map_cons, List.cons.injEq] at hx
      obtain ⟨hx1, rfl⟩ := hx
      exact min_ok hm hev ho hb e2 hx1 h
  · rename_i kk n r hx
    cases e2 : cl.args.toList with
    | nil => rw [e2] at hx; cases hx
    | cons p l =>
      rw [e2] at hx
      simp only [List.map_cons, List.cons.injEq] at hx
      obtain ⟨hx1, rfl⟩ := hx
      exact max_ok hm hev ho hb e2 hx1 h
  · exact (run_fail h).elim

theorem opA_ok (hm : Mem B c ob w) {T : Table} (hT : TS P T) {M : FuncId → List Bool} {ρ : Operand → Value} {ev : Operand → AV} (hev : ∀ x, V c w (ev x) (ρ x)) (hρ : ∀ v, ρ (.const v) = v) {o : Oper} (h : run T (opA P M ev ob o) = some d) :
    Eff P B c ob w (execOp ρ o) d ∨ CallEff P B c ob w (execOp ρ o) d := by
  unfold opA at h
  simp only at h
  split at h
  case h_1 x ho => exact .inl (.now hm h (v := ρ x) (by unfold execOp; simp only [ho]; rfl) (hev x))
  case h_2 x ho => exact .inl (.now hm h (v := ρ x) (by unfold execOp; simp only [ho]; rfl) (hev x))
  case h_3 x y z ho => exact .inl (pick_ok hm (hev x) (hev y) (hev z) ho h)
  case h_4 t ho => exact .inl (alloc_ok hm ho (fun _ => newId_big _ _) h)
  case h_5 t x ho => exact .inl (box_ok hm (hev x) ho (fun _ => newId_big _ _) h)
  case h_6 t ps ho => exact .inl (build_ok hm hev ho h)
  case h_7 t n ps ho => exact .inl (buildSlice_ok hm (newId_big _ _) hev ho h)
  case h_8 t x ho =>
    obtain ⟨n, hn, h⟩ := run_opt h
    exact .inl (loadA_ok hm hn (hev x) h ho)
  case h_9 t p x ho =>
    obtain ⟨n, hn, h⟩ := run_opt h
    exact .inl (storeA_ok hm hn (hev p) (hev x) h ho)
  case h_10 x ho => exact .inl (nilCheck_ok hm (hev x) ho h)
  case h_11 op t x y yt ho =>
    split at h
    · rename_i hn
      exact .inl (nilA_ok hm (hev x) (by rw [isNilC_ok hn, hρ]) h ho)
    · exact .inl (binA_ok hm (hev x) (hev y) h ho)
  case h_12 op t x ho => exact .inl (unA_ok hm (hev x) h ho)
  case h_13 f a cs ho => exact .inl (makeFunc_ok hm hev ho h)
  case h_14 t l cp ho => exact .inl (makeSlice_ok hm (newId_big _ _) (hev l) (hev cp) ho h)
  case h_15 t x lo hi mx ho => exact .inl (slice_ok hm hev ho h)
  case h_16 t x f ho => exact .inl (fieldAddr_ok hm (hev x) ho h)
  case h_17 t x f ho => exact .inl (field_ok hm (hev x) ho h)
  case h_18 t x i ho => exact .inl (indexAddr_ok hm (hev x) (hev i) ho h)
  case h_19 t x i ho => exact .inl (index_ok hm (hev x) (hev i) ho h)
  case h_20 x i ho => exact .inl (extract_ok hm (hev x) ho h)
  case h_21 s t x ho => exact .inl (conv_ok hm (hev x) ho h)
  case h_22 cl ho =>
    split at h
    · rename_i b hb
      exact .inl (builtinA_ok hm hev ho hb h)
    · rename_i f hf
      exact .inr (callV_ok hm hT hev ho hf h)
    · exact (run_fail h).elim
  case h_23 => exact (run_fail h).elim
end
end Go.Proofs.Ytohfaccniialmaa.Am
end
section
/- Rows that are told otherwise. -/
namespace Go.Proofs.Ytohfaccniialmaa.Am
open Go
set_option linter.constructorNameAsVariable false
set_option linter.unusedVariables false
set_option linter.unusedSimpArgs false
section
variable {P : Program} {B : Base} {c : Cx} {w : World}

/-! ### results told as rows of one's own, or as rows that stay -/
theorem conv1_ok {ob : Nat → Option AO} (hm : Mem B c ob w) {cv : Cv} {x y : AV} {u : List (Nat × AO)} {v : Value} (hv : V c w x v) (h : conv1 ob cv x = some (y, u)) : ∃ c', Mem B c' (fup ob u) w ∧ Ext c w c' w ∧ V c' w y v := by
  have triv : some (x, ([] : List (Nat × AO))) = some (y, u) → ∃ c', Mem B c' (fup ob u) w ∧ Ext c w c' w ∧ V c' w y v := fun e => by
    simp only [Option.some.injEq, Prod.mk.injEq] at e
    obtain ⟨rfl, rfl⟩ := e
    exact ⟨c, hm, .refl c w, hv⟩
  cases cv <;> simp only [conv1] at h
  case own t k =>
    split at h
    · split at h
      · rename_i hk hkb
        simp only [Option.some.injEq, Prod.mk.injEq] at h
        obtain ⟨rfl, rfl⟩ := h
        obtain ⟨A, rfl⟩ := hv.inv_nils
        obtain ⟨k1, k2⟩ := hm.put k (.row 0 t []) ⟨none, 0, 0, 0, 0, t.sz⟩ w rfl rfl rfl (Nat.le_refl _) (fun _ _ _ => rfl) (fun j hj => by rw [hm.inf_none hk] at hj; cases hj)
          (fun ext => ⟨_, Cx.set_eq _ _ _, rfl, rfl, rfl, Nat.le_refl _, .inl ⟨rfl, rfl⟩⟩) (fun b _ hb => by cases hb) (fun _ => ble_true hkb)
        exact ⟨_, k1, k2, .own k 0 A 0 0 _ (Cx.set_eq _ _ _) (Nat.le_refl _) fun _ => ⟨A, 0, rfl, Nat.le_refl _, rfl, fun h => by omega⟩⟩
      · cases h
    · rename_i o ver lo n
      split at h
      · rename_i v' t' xs ho
        split at h
        · rename_i hvv
          have hvv := beq_true hvv
          subst hvv
          simp only [Option.some.injEq, Prod.mk.injEq] at h
          obtain ⟨rfl, rfl⟩ := h
          obtain ⟨i, p, h1, h2, h3, h4, h5, h6, h7, A, cp, rfl, h8, h9, h10⟩ := sub_head hm (.inl ho) hv
          obtain ⟨i', k1, k2, k3, k4, k5, k6⟩ := hm.obj o _ ho
          rw [h1] at k1
          cases k1
          have hlen : ((xs.drop lo).take n).length = n := by rw [List.length_take, List.length_drop]; omega
          obtain ⟨m1, m2⟩ := hm.put o (.row (v' + 1) t' ((xs.drop lo).take n)) { i with off := i.off + lo * i.sz, cap := cp, len := n, ver := v' + 1 } w rfl rfl rfl (Nat.le_refl _) (fun _ _ _ => rfl)
            (fun j hj => by rw [h1] at hj; cases hj; exact ⟨by show i.ver ≤ v' + 1; omega, fun e => by have e' : v' + 1 = i.ver := e; omega⟩)
            (fun ext => ⟨_, Cx.set_eq _ _ _, rfl, hlen.symm, h4, by rw [hlen]; exact h8, by
              rcases k6 with ⟨q1, q2⟩ | ⟨b, arr, el, q1, q2, q3, q4, q5⟩
              · exact .inl ⟨q1, by show cp = 0; omega⟩
              · refine .inr ⟨b, arr, el, q1, q2, ?_, fun j x hx qq y hy => ?_, q5⟩
                · show i.off + lo * i.sz + cp * t'.sz ≤ arr.size
                  have : i.cap * t'.sz = lo * t'.sz + cp * t'.sz := by rw [← h9, Nat.add_mul]
                  rw [h4]
                  omega
                · have hx2 : xs[lo + j]? = some x := by
                    rw [List.getElem?_take] at hx
                    split at hx
                    · rw [List.getElem?_drop] at hx; exact hx
                    · cases hx
                  have := q4 (lo + j) x hx2 qq y hy
                  show V _ _ y (arr.getD (i.off + lo * i.sz + (j * t'.sz + qq)) undef) ∧ (arr.getD (i.off + lo * i.sz + (j * t'.sz + qq)) undef).oneCell' = true
                  rw [show i.off + lo * i.sz + (j * t'.sz + qq) = i.off + ((lo + j) * t'.sz + qq) by rw [h4, Nat.add_mul]; omega]
                  exact ⟨this.1.ext ext, this.2⟩⟩) (fun b _ hb => .inl ⟨_, i, ho, rfl, h1, hb⟩)
          refine ⟨_, m1, m2, .own o (v' + 1) A n cp _ (Cx.set_eq _ _ _) (Nat.le_refl _) fun _ => ⟨A, cp, rfl, h8, Nat.zero_add _, fun h0 => ?_⟩⟩
          obtain ⟨b, hb, rfl⟩ := h10 h0
          exact ⟨b, hb, by simp⟩
        · cases h
      · cases h
    · exact triv h
  case lst t =>
    split at h
    · simp only [Option.some.injEq, Prod.mk.injEq] at h
      obtain ⟨rfl, rfl⟩ := h
      obtain ⟨A, rfl⟩ := hv.inv_nils
      exact ⟨c, hm, .refl c w, .lst t [] A 0 (fun _ => undef) (by simp) (fun h0 => by simp at h0) (fun j x hx => by simp at hx)⟩
    · obtain ⟨c', k1, k2, k3, k4⟩ := frz1_ok hm (.refl ob) h hv
      exact ⟨c', k1, k3, k4⟩
    · rename_i o ver lo n
      split at h
      · rename_i v' t' xs ho
        split at h
        · rename_i hvv
          have hvv := beq_true hvv
          subst hvv
          simp only [Option.some.injEq, Prod.mk.injEq] at h
          obtain ⟨rfl, rfl⟩ := h
          obtain ⟨i, p, h1, h2, h3, h4, h5, h6, h7, h8⟩ := sub_head hm (.inl ho) hv
          obtain ⟨m1, m2⟩ := hm.freeze ho
          obtain ⟨i', k1, k2, k3, k4, k5, k6⟩ := m1.obj o (.fro v' t' xs) (by simp [fup])
          have k1 : c.inf o = some i' := k1
          rw [h1] at k1
          cases k1
          exact ⟨_, m1, m2, own_lst h3 h4 k6 h7 h8⟩
        · cases h
      · rename_i v' t' xs ho
        split at h
        · rename_i hvv
          have hvv := beq_true hvv
          subst hvv
          simp only [Option.some.injEq, Prod.mk.injEq] at h
          obtain ⟨rfl, rfl⟩ := h
          obtain ⟨i, p, h1, h2, h3, h4, h5, h6, h7, h8⟩ := sub_head hm (.inr ho) hv
          obtain ⟨i', k1, k2, k3, k4, k5, k6⟩ := hm.obj o _ ho
          rw [h1] at k1
          cases k1
          exact ⟨c, hm, .refl c w, own_lst h3 h4 k6 h7 h8⟩
        · cases h
      · cases h
    · exact triv h
  all_goals exact triv h
theorem convF_ok : ∀ (as : List AV) (cvs : List Cv) (ob : List (Nat × AO)) (l : List AV) (ob' : List (Nat × AO)) (c : Cx), convL.convF cvs ob as = some (l, ob') → Mem B c (look ob) w → ∀ (g : Nat → Value), (∀ j y, as[j]? = some y → V c w y (g j)) → ∃ c', Mem B c' (look ob') w ∧ Ext c w c' w ∧ l.length = as.length ∧ ∀ j y, l[j]? = some y → V c' w y (g j)
  | [], cvs, ob, l, ob', c, h, hm, g, hg => by
    simp only [convL.convF, Option.some.injEq, Prod.mk.injEq] at h
    obtain ⟨rfl, rfl⟩ := h
    exact ⟨c, hm, .refl c w, rfl, by simp⟩
  | a :: r, cvs, ob, l, ob', c, h, hm, g, hg => by
    simp only [convL.convF] at h
    split at h
    · split at h
      · rename_i l1 ob1 h1
        simp only [Option.some.injEq, Prod.mk.injEq] at h
        obtain ⟨rfl, rfl⟩ := h
        obtain ⟨c', k1, k2, k3, k4⟩ := convF_ok r [] ob l1 ob1 c h1 hm (fun j => g (j + 1)) fun j y hy => hg (j + 1) y (by simpa using hy)
        refine ⟨c', k1, k2, by simp [k3], fun j y hy => ?_⟩
        cases j with
        | zero => simp at hy; subst hy; exact (hg 0 a rfl).ext k2
        | succ j => exact k4 j y (by simpa using hy)
      · cases h
    · split at h
      · rename_i b u hcv
        split at h
        · rename_i l1 ob1 h1
          simp only [Option.some.injEq, Prod.mk.injEq] at h
          obtain ⟨rfl, rfl⟩ := h
          obtain ⟨c1, m1, m2, m3⟩ := conv1_ok hm (hg 0 a rfl) hcv
          obtain ⟨c', k1, k2, k3, k4⟩ := convF_ok r _ (upds ob u) l1 ob1 c1 h1 (by rw [look_upds]; exact m1) (fun j => g (j + 1)) fun j y hy => (hg (j + 1) y (by simpa using hy)).ext m2
          refine ⟨c', k1, m2.trans k2, by simp [k3], fun j y hy => ?_⟩
          cases j with
          | zero => simp at hy; subst hy; exact m3.ext k2
          | succ j => exact k4 j y (by simpa using hy)
        · cases h
      · cases h
theorem convL_ok : ∀ (as : List AV) (cvs : List Cv) (ob : List (Nat × AO)) (l : List AV) (ob' : List (Nat × AO)) (c : Cx), convL cvs ob as = some (l, ob') → Mem B c (look ob) w → ∀ (g : Nat → Value), (∀ j y, as[j]? = some y → V c w y (g j)) → ∃ c', Mem B c' (look ob') w ∧ Ext c w c' w ∧ l.length = as.length ∧ ∀ j y, l[j]? = some y → V c' w y (g j)
  | [], cvs, ob, l, ob', c, h, hm, g, hg => by
    simp only [convL, Option.some.injEq, Prod.mk.injEq] at h
    obtain ⟨rfl, rfl⟩ := h
    exact ⟨c, hm, .refl c w, rfl, by simp⟩
  | a :: r, cvs, ob, l, ob', c, h, hm, g, hg => by
    have fin : ∀ (b : AV) (ob1 : List (Nat × AO)) (m : List Cv) (l1 : List AV) (ob2 : List (Nat × AO)) (c1 : Cx), Mem B c1 (look ob1) w → Ext c w c1 w → V c1 w b (g 0) → convL m ob1 r = some (l1, ob2) → l = b :: l1 → ob' = ob2 → ∃ c', Mem B c' (look ob') w ∧ Ext c w c' w ∧ l.length = (a :: r).length ∧ ∀ j y, l[j]? = some y → V c' w y (g j) := fun b ob1 m l1 ob2 c1 m1 m2 m3 h1 e1 e2 => by
      subst e1 e2
      obtain ⟨c', k1, k2, k3, k4⟩ := convL_ok r m ob1 l1 ob' c1 h1 m1 (fun j => g (j + 1)) fun j y hy => (hg (j + 1) y (by simpa using hy)).ext m2
      refine ⟨c', k1, m2.trans k2, by simp [k3], fun j y hy => ?_⟩
      cases j with
      | zero => simp at hy; subst hy; exact m3.ext k2
      | succ j => exact k4 j y (by simpa using hy)
    simp only [convL] at h
    split at h
    · split at h
      · rename_i l1 ob1 h1
        simp only [Option.some.injEq, Prod.mk.injEq] at h
        exact fin a ob [] l1 ob1 c hm (.refl c w) (hg 0 a rfl) h1 h.1.symm h.2.symm
      · cases h
    · split at h
      · rename_i as
        split at h
        · rename_i as' ob1 h1
          split at h
          · rename_i l1 ob2 h2
            simp only [Option.some.injEq, Prod.mk.injEq] at h
            obtain ⟨vs, ev, q1, q2, q3⟩ := (hg 0 _ rfl).inv_agg
            obtain ⟨c1, m1, m2, m3, m4⟩ := convF_ok as _ ob as' ob1 c h1 hm (fun j => vs.getD j undef) q3
            refine fin (.agg as') ob1 _ l1 ob2 c1 m1 m2 ?_ h2 h.1.symm h.2.symm
            rw [ev]
            exact .agg as' vs (by rw [q1, m3]) (fun j hj => q2 j (by rw [← m3]; exact hj)) m4
          · cases h
        · cases h
      · cases h
    · split at h
      · rename_i b u hcv
        split at h
        · rename_i l1 ob1 h1
          simp only [Option.some.injEq, Prod.mk.injEq] at h
          obtain ⟨c1, m1, m2, m3⟩ := conv1_ok hm (hg 0 a rfl) hcv
          exact fin b _ _ l1 ob1 c1 (by rw [look_upds]; exact m1) m2 m3 h1 h.1.symm h.2.symm
        · cases h
      · cases h

end
end Go.Proofs.Ytohfaccniialmaa.Am
end
section
/- Objects that are called otherwise, or go. -/
namespace Go.Proofs.Ytohfaccniialmaa.Am
open Go
set_option linter.constructorNameAsVariable false
set_option linter.unusedVariables false
set_option linter.unusedSimpArgs false
section
variable {P : Program} {B : Base} {c : Cx} {ob : Nat → Option AO} {w : World}

theorem names_mem (nm : Nat → Nat → Nat) (bump : List Nat) : ∀ (L : List Nat) (i : Nat) (o n v : Nat), (o, n, v) ∈ names ob nm bump i L → ∃ a, ob o = some a ∧ isDead a = false ∧ (isBox a = true → v = 0)
  | [], i, o, n, v, h => by simp [names] at h
  | x :: r, i, o, n, v, h => by
    simp only [names] at h
    split at h
    · rename_i a ha
      split at h
      · rename_i hd
        rcases List.mem_cons.1 h with h | h
        · simp only [Prod.mk.injEq] at h
          obtain ⟨rfl, rfl, rfl⟩ := h
          exact ⟨a, ha, hd, fun hb => by rw [hb]⟩
        · exact names_mem nm bump r (i + 1) o n v h
      · exact names_mem nm bump r (i + 1) o n v h
    · exact names_mem nm bump r (i + 1) o n v h
theorem names_nm (nm : Nat → Nat → Nat) (bump : List Nat) : ∀ (L : List Nat) (i : Nat) (o n v : Nat), (o, n, v) ∈ names ob nm bump i L → (∃ j, n = nm j o ∧ i ≤ j ∧ L[j - i]? = some o) ∧ ∃ a, ob o = some a ∧ isDead a = false ∧ (v = 0 → o < 1000 → verO a = 0)
  | [], i, o, n, v, h => by simp [names] at h
  | x :: r, i, o, n, v, h => by
    simp only [names] at h
    have rest : (o, n, v) ∈ names ob nm bump (i + 1) r → (∃ j, n = nm j o ∧ i ≤ j ∧ (x :: r)[j - i]? = some o) ∧ ∃ a, ob o = some a ∧ isDead a = false ∧ (v = 0 → o < 1000 → verO a = 0) := fun h => by
      obtain ⟨⟨j, h1, h2, h3⟩, h4⟩ := names_nm nm bump r (i + 1) o n v h
      exact ⟨⟨j, h1, by omega, by rw [show j - i = (j - (i + 1)) + 1 by omega, List.getElem?_cons_succ]; exact h3⟩, h4⟩
    split at h
    · rename_i a ha
      split at h
      · rename_i hd
        rcases List.mem_cons.1 h with h | h
        · simp only [Prod.mk.injEq] at h
          obtain ⟨rfl, rfl, rfl⟩ := h
          refine ⟨⟨i, rfl, Nat.le_refl _, by simp⟩, a, ha, hd, fun hv ho => ?_⟩
          have hlt : Nat.blt o 1000 = true := Nat.ble_eq_true_of_le ho
          cases a with
          | row v t xs =>
            simp only [isBox, newV, hlt] at hv
            split at hv <;> first | (simp at hv; done) | (rename_i h2 h3; exact h3) | (exact absurd hv (by simp))
          | fro v t xs =>
            simp only [isBox, newV, hlt] at hv
            split at hv <;> first | (simp at hv; done) | (rename_i h2 h3; exact h3) | (exact absurd hv (by simp))
          | box cs => rfl
          | dead => rfl
        · exact rest h
      · exact rest h
    · exact rest h
theorem rnm_mem : ∀ (K : List (Nat × Nat × Nat)) (o v o' v' : Nat), rnm ob K o v = some (o', v') → (o, o', v') ∈ K ∧ ∃ a, ob o = some a ∧ verO a = v
  | [], o, v, o', v', h => by simp [rnm] at h
  | (x, n, u) :: r, o, v, o', v', h => by
    simp only [rnm] at h
    split at h
    · rename_i hx
      have hx := beq_true hx
      subst hx
      split at h
      · rename_i a ha
        split at h
        · rename_i hv
          simp only [Option.some.injEq, Prod.mk.injEq] at h
          obtain ⟨rfl, rfl⟩ := h
          exact ⟨List.mem_cons_self, a, ha, beq_true hv⟩
        · cases h
      · cases h
    · obtain ⟨h1, h2⟩ := rnm_mem r o v o' v' h
      exact ⟨List.mem_cons_of_mem _ h1, h2⟩
theorem fsts_mem : ∀ (K : List (Nat × Nat × Nat)) (o n v : Nat), (o, n, v) ∈ K → o ∈ fsts K
  | [], o, n, v, h => by cases h
  | (x, y, z) :: r, o, n, v, h => by
    simp only [fsts]
    rcases List.mem_cons.1 h with h | h
    · simp only [Prod.mk.injEq] at h
      rw [h.1]
      exact List.mem_cons_self
    · exact List.mem_cons_of_mem _ (fsts_mem r o n v h)
theorem snds_mem : ∀ (K : List (Nat × Nat × Nat)) (o n v : Nat), (o, n, v) ∈ K → n ∈ snds K
  | [], o, n, v, h => by cases h
  | (x, y, z) :: r, o, n, v, h => by
    simp only [snds]
    rcases List.mem_cons.1 h with h | h
    · simp only [Prod.mk.injEq] at h
      rw [h.2.1]
      exact List.mem_cons_self
    · exact List.mem_cons_of_mem _ (snds_mem r o n v h)
theorem nodupB_cons {a : Nat} {r : List Nat} (h : nodupB (a :: r) = true) : ¬ a ∈ r ∧ nodupB r = true := by
  simp only [nodupB] at h
  split at h
  · cases h
  · rename_i hh
    exact ⟨has_mem _ _ hh, h⟩
theorem fsts_inj : ∀ (K : List (Nat × Nat × Nat)), nodupB (fsts K) = true → ∀ (o n v n' v' : Nat), (o, n, v) ∈ K → (o, n', v') ∈ K → n = n' ∧ v = v'
  | [], _, o, n, v, n', v', h, _ => by cases h
  | (x, y, z) :: r, hn, o, n, v, n', v', h, h' => by
    obtain ⟨h1, h2⟩ := nodupB_cons hn
    rcases List.mem_cons.1 h with h | h
    · rcases List.mem_cons.1 h' with h' | h'
      · simp only [Prod.mk.injEq] at h h'
        exact ⟨h.2.1.trans h'.2.1.symm, h.2.2.trans h'.2.2.symm⟩
      · simp only [Prod.mk.injEq] at h
        rw [h.1] at h'
        exact absurd (fsts_mem r _ _ _ h') h1
    · rcases List.mem_cons.1 h' with h' | h'
      · simp only [Prod.mk.injEq] at h'
        rw [h'.1] at h
        exact absurd (fsts_mem r _ _ _ h) h1
      · exact fsts_inj r h2 o n v n' v' h h'
theorem snds_inj : ∀ (K : List (Nat × Nat × Nat)), nodupB (snds K) = true → ∀ (o n v o' v' : Nat), (o, n, v) ∈ K → (o', n, v') ∈ K → o = o' ∧ v = v'
  | [], _, o, n, v, n', v', h, _ => by cases h
  | (x, y, z) :: r, hn, o, n, v, o', v', h, h' => by
    obtain ⟨h1, h2⟩ := nodupB_cons hn
    rcases List.mem_cons.1 h with h | h
    · rcases List.mem_cons.1 h' with h' | h'
      · simp only [Prod.mk.injEq] at h h'
        exact ⟨h.1.trans h'.1.symm, h.2.2.trans h'.2.2.symm⟩
      · simp only [Prod.mk.injEq] at h
        rw [h.2.1] at h'
        exact absurd (snds_mem r _ _ _ h') h1
    · rcases List.mem_cons.1 h' with h' | h'
      · simp only [Prod.mk.injEq] at h'
        rw [h'.2.1] at h
        exact absurd (snds_mem r _ _ _ h) h1
      · exact snds_inj r h2 o n v o' v' h h'

/-- all of it under new names -/
theorem Mem.names (hm : Mem B c ob w) {K : List (Nat × Nat × Nat)} (h1 : nodupB (fsts K) = true) (h2 : nodupB (snds K) = true) (hK : ∀ o n v, (o, n, v) ∈ K → ∃ a, ob o = some a ∧ isDead a = false ∧ (isBox a = true → v = 0)) {ob' : Nat → Option AO}
    (hob : ∀ n x, ob' n = some x → x = .dead ∨ ∃ o v a, (o, n, v) ∈ K ∧ ob o = some a ∧ x = renO (rnm ob K) v a) (hob' : ∀ o n v, (o, n, v) ∈ K → ∃ x, ob' n = some x) :
    ∃ c', Mem B c' ob' w ∧ Ren (rnm ob K) c w c' w ∧ c'.F = c.F ∧ ∀ n i, c'.inf n = some i → ∃ o v i0, (o, n, v) ∈ K ∧ c.inf o = some i0 ∧ i = { i0 with ver := v } := by
  classical
  let c' : Cx := ⟨fun n => if h : ∃ p : Nat × Nat, (p.1, n, p.2) ∈ K then (c.inf (Classical.choose h).1).map fun i => { i with ver := (Classical.choose h).2 } else none, c.F⟩
  have hinf : ∀ o n v, (o, n, v) ∈ K → c'.inf n = (c.inf o).map fun i => { i with ver := v } := fun o n v h => by
    have hex : ∃ p : Nat × Nat, (p.1, n, p.2) ∈ K := ⟨(o, v), h⟩
    show (if h : ∃ p : Nat × Nat, (p.1, n, p.2) ∈ K then _ else none) = _
    rw [dif_pos hex]
    obtain ⟨e1, e2⟩ := snds_inj K h2 _ _ _ _ _ (Classical.choose_spec hex) h
    rw [e1, e2]
  have hinf' : ∀ n i, c'.inf n = some i → ∃ o v i0, (o, n, v) ∈ K ∧ c.inf o = some i0 ∧ i = { i0 with ver := v } := fun n i h => by
    have h : (if h : ∃ p : Nat × Nat, (p.1, n, p.2) ∈ K then (c.inf (Classical.choose h).1).map fun i => { i with ver := (Classical.choose h).2 } else none) = some i := h
    split at h
    · rename_i hex
      obtain ⟨i0, e1, e2⟩ := Option.map_eq_some_iff.1 h
      exact ⟨_, _, i0, Classical.choose_spec hex, e1, e2.symm⟩
    · cases h
  have hren : Ren (rnm ob K) c w c' w := by
    refine ⟨fun b h => h, fun o v o' v' hρ i hi hv => ?_, fun _ _ => rfl⟩
    obtain ⟨k1, a, k2, k3⟩ := rnm_mem K o v o' v' hρ
    obtain ⟨a', k4, k5, k6⟩ := hK o o' v' k1
    rw [k2] at k4
    cases k4
    have hver := hm.ver k2 k5 hi
    exact ⟨{ i with ver := v' }, by rw [hinf o o' v' k1, hi]; rfl, Nat.le_refl _, fun _ => ⟨by omega, rfl, rfl, rfl, rfl, rfl⟩⟩
  have nd : ∀ o a, ob o = some a → isDead a = false → ∃ i, c.inf o = some i := fun o a ha hd => by
    have hor := hm.obj o a ha
    cases a with
    | dead => simp [isDead] at hd
    | box cs => obtain ⟨i0, _, _, _, h1, _⟩ := hor; exact ⟨i0, h1⟩
    | row v t xs => obtain ⟨i0, h1, _⟩ := hor; exact ⟨i0, h1⟩
    | fro v t xs => obtain ⟨i0, h1, _⟩ := hor; exact ⟨i0, h1⟩
  have back : ∀ n x i b, ob' n = some x → live x = true → c'.inf n = some i → i.blk = some b → ∃ o v a i0, (o, n, v) ∈ K ∧ ob o = some a ∧ live a = true ∧ c.inf o = some i0 ∧ i0.blk = some b := fun n x i b hx hl hi hb => by
    rcases hob n x hx with rfl | ⟨o, v, a, k1, k2, rfl⟩
    · simp [live] at hl
    · rw [live_renO] at hl
      rw [hinf o n v k1] at hi
      obtain ⟨i0, e1, rfl⟩ := Option.map_eq_some_iff.1 hi
      exact ⟨o, v, a, i0, k1, k2, hl, e1, hb⟩
  refine ⟨c', ⟨hm.os, hm.tape, hm.output, hm.size, hm.frame, fun n x hx => ?_, fun n i hi => ?_, ?_, hm.F, ?_, hm.F0, hm.Fn⟩, hren, rfl, hinf'⟩
  · rcases hob n x hx with rfl | ⟨o, v, a, k1, k2, rfl⟩
    · trivial
    · obtain ⟨a', k3, k4, k5⟩ := hK o n v k1
      rw [k2] at k3
      cases k3
      obtain ⟨i0, hi0⟩ := nd o a k2 k4
      exact (hm.obj o a k2).ren hren (i' := { i0 with ver := v }) hi0 (by rw [hinf o n v k1, hi0]; rfl) rfl rfl rfl rfl rfl rfl (fun ⟨cs, e⟩ => k5 (by rw [e]; rfl)) (fun _ _ _ => rfl) (fun _ _ _ => Iff.rfl)
  · obtain ⟨o, v, i0, k1, _⟩ := hinf' n i hi
    exact hob' o n v k1
  · intro n n' x x' i i' b hx hx' hl hl' hi hi' hb hb'
    obtain ⟨o, v, a, i0, k1, k2, k3, k4, k5⟩ := back n x i b hx hl hi hb
    obtain ⟨o', v', a', i0', m1, m2, m3, m4, m5⟩ := back n' x' i' b hx' hl' hi' hb'
    have := hm.inj o o' a a' i0 i0' b k2 m2 k3 m3 k4 m4 k5 m5
    subst this
    exact (fsts_inj K h1 o n v n' v' k1 m1).1
  · intro n x i b hx hl hi hb
    obtain ⟨o, v, a, i0, k1, k2, k3, k4, k5⟩ := back n x i b hx hl hi hb
    exact hm.own o a i0 b k2 k3 k4 k5

theorem objs_look (ρ : Nat → Nat → Option (Nat × Nat)) : ∀ (K : List (Nat × Nat × Nat)) (n : Nat) (x : AO), look (objs ob ρ K) n = some x → ∃ o v a, (o, n, v) ∈ K ∧ ob o = some a ∧ x = renO ρ v a
  | [], n, x, h => by simp [objs, look] at h
  | (o, m, v) :: r, n, x, h => by
    simp only [objs] at h
    split at h
    · rename_i a ha
      simp only [look] at h
      split at h
      · rename_i hb
        have := beq_true hb
        simp only [Option.some.injEq] at h
        subst this h
        exact ⟨o, v, a, List.mem_cons_self, ha, rfl⟩
      · obtain ⟨o', v', a', h1, h2, h3⟩ := objs_look ρ r n x h
        exact ⟨o', v', a', List.mem_cons_of_mem _ h1, h2, h3⟩
    · obtain ⟨o', v', a', h1, h2, h3⟩ := objs_look ρ r n x h
      exact ⟨o', v', a', List.mem_cons_of_mem _ h1, h2, h3⟩
theorem objs_has (ρ : Nat → Nat → Option (Nat × Nat)) : ∀ (K : List (Nat × Nat × Nat)) (o n v : Nat) (a : AO), (o, n, v) ∈ K → ob o = some a → ∃ x, look (objs ob ρ K) n = some x
  | [], o, n, v, a, h, _ => by cases h
  | (o', m, u) :: r, o, n, v, a, h, ha => by
    simp only [objs]
    rcases List.mem_cons.1 h with h | h
    · simp only [Prod.mk.injEq] at h
      obtain ⟨rfl, rfl, rfl⟩ := h
      rw [ha]
      exact ⟨_, by simp [look]; rfl⟩
    · obtain ⟨x, hx⟩ := objs_has ρ r o n v a h ha
      split
      · simp only [look]
        split
        · exact ⟨_, rfl⟩
        · exact ⟨x, hx⟩
      · exact ⟨x, hx⟩

/-! ### the machine's state -/
structure RelS (B : Base) (N : Nat) (c : Cx) (st : St) (a : Act) (w : World) : Prop where
  mem : Mem B c (look st.ob) w
  tms : Tms c w st a
  sz : N ≤ a.tmps.size
  dfs : a.defers = []
  pas : ∀ o i i', B.I o = some i → c.inf o = some i' → i'.ver = 0 → i' = i
  Ib : ∀ o i, B.I o = some i → o < 1000

theorem keepT_get (st : St) (ρ : Nat → Nat → Option (Nat × Nat)) : ∀ (l : List Nat) (t : Nat) (x : AV), look (keepT st ρ l) t = some x → x = ren ρ (st.get t)
  | [], t, x, h => by simp [keepT, look] at h
  | y :: r, t, x, h => by
    simp only [keepT, look] at h
    split at h
    · rename_i hb
      have := beq_true hb
      simp only [Option.some.injEq] at h
      subst this h
      rfl
    · exact keepT_get st ρ r t x h
theorem clean_ok {N : Nat} {st st' : St} {a : Act} {l bump : List Nat} (hr : RelS B N c st a w) (h : clean st l bump = some st') : ∃ c', RelS B N c' st' a w := by
  unfold clean at h
  split at h
  case h_2 => cases h
  rename_i hck
  rw [Bool.and_eq_true] at hck
  simp only [Option.some.injEq] at h
  subst h
  have hK : ∀ o n v, (o, n, v) ∈ cleanK st l bump → ∃ a, look st.ob o = some a ∧ isDead a = false ∧ (isBox a = true → v = 0) := fun o n v h => names_mem _ _ _ _ o n v h
  obtain ⟨c', m1, m2, m3, m4⟩ := hr.mem.names (ob' := look (objs (look st.ob) (rnm (look st.ob) (cleanK st l bump)) (cleanK st l bump))) hck.1 hck.2 hK (fun n x hx => .inr (objs_look _ _ n x hx)) (fun o n v h => by
    obtain ⟨a, ha, _⟩ := hK o n v h
    exact objs_has _ _ o n v a h ha)
  refine ⟨c', m1, fun t => ?_, hr.sz, hr.dfs, fun n i i' hI hi' hv => ?_, hr.Ib⟩
  case refine_2 =>
    obtain ⟨o, v, i0, k1, k2, rfl⟩ := m4 n i' hi'
    have hv : v = 0 := hv
    subst hv
    obtain ⟨q1, q2⟩ := names_nm _ _ _ _ o n 0 k1
    obtain ⟨j, q1, _⟩ := q1
    have hn := hr.Ib n i hI
    have hno : n = o := by
      unfold loopNm at q1
      split at q1
      · exact q1
      · omega
    subst hno
    obtain ⟨x, hx, hd, hver⟩ := q2
    have h0 : verO x = 0 := hver rfl hn
    have := hr.mem.ver hx hd k2
    rw [h0] at this
    have e := hr.pas n i i0 hI k2 this.symm
    subst e
    cases i0
    simp only at this
    subst this
    rfl
  show V c' w (match look (keepT st (rnm (look st.ob) (cleanK st l bump)) l) t with | some a => a | none => .bad) _
  split
  · rename_i x hx
    rw [keepT_get st _ l t x hx]
    exact (hr.tms t).ren m2
  · exact .bad _
theorem RelS.re {N : Nat} {st : St} {a : Act} (hr : RelS B N c st a w) {c' : Cx} {st' : St} (hm : Mem B c' (look st'.ob) w) (he : Ext c w c' w) (ht : ∀ t, V c' w (st'.get t) (a.tmps.getD t undef)) : RelS B N c' st' a w := by
  refine ⟨hm, ht, hr.sz, hr.dfs, fun o i i' hI hi' hv => ?_, hr.Ib⟩
  cases h0 : c.inf o with
  | none => rw [he.nw o (hr.Ib o i hI) h0] at hi'; cases hi'
  | some i1 =>
    obtain ⟨i2, k1, k2, k3⟩ := he.inf o i1 h0
    rw [hi'] at k1
    cases k1
    have := k3 (by omega)
    subst this
    exact hr.pas o i _ hI h0 hv
theorem convT_ok {N : Nat} {a : Act} : ∀ (l : List (Nat × Cv)) (st st' : St) (c : Cx), RelS B N c st a w → convT l st = some st' → ∃ c', RelS B N c' st' a w
  | [], st, st', c, hr, h => by
    simp only [convT, Option.some.injEq] at h
    subst h
    exact ⟨c, hr⟩
  | p :: r, st, st', c, hr, h => by
    simp only [convT] at h
    split at h
    · rename_i b ob' h1
      obtain ⟨c1, k1, k2, k3, k4⟩ := convL_ok [st.get p.1] [p.2] st.ob [b] ob' c h1 hr.mem (fun _ => a.tmps.getD p.1 undef) (fun j y hy => by
        cases j with
        | zero => simp at hy; subst hy; exact hr.tms p.1
        | succ j => simp at hy)
      refine convT_ok r _ st' c1 (hr.re k1 k2 fun t => ?_) h
      have : St.get ⟨upd st.tm p.1 b, ob'⟩ t = if t = p.1 then b else st.get t := by
        unfold St.get
        simp only [look_upd]
        by_cases h : t = p.1 <;> simp [h]
      rw [this]
      by_cases e : t = p.1
      · rw [if_pos e, e]
        exact k4 0 b rfl
      · rw [if_neg e]
        exact (hr.tms t).ext k2
    · cases h
theorem upd_fup (l : List (Nat × AO)) (k : Nat) (x : AO) : look (upd l k x) = fup (look l) [(k, x)] := funext fun o => look_upd l k x o
theorem convB_ok {N : Nat} {a : Act} : ∀ (l : List (Nat × List Cv)) (st st' : St) (c : Cx), RelS B N c st a w → convB l st = some st' → ∃ c', RelS B N c' st' a w
  | [], st, st', c, hr, h => by
    simp only [convB, Option.some.injEq] at h
    subst h
    exact ⟨c, hr⟩
  | p :: r, st, st', c, hr, h => by
    simp only [convB] at h
    split at h
    · rename_i cs ho
      split at h
      · rename_i cs' ob' h1
        split at h
        · rename_i cs0 ho'
          obtain ⟨i, b, arr, el, q1, q2, q3, q4, q5, q6⟩ := hr.mem.obj _ _ ho
          obtain ⟨c1, k1, k2, k3, k4⟩ := convF_ok cs p.2 st.ob cs' ob' c h1 hr.mem (fun j => arr.getD j undef) q5.2.2
          obtain ⟨i', b', arr', el', m1, m2, m3, m4, m5, m6⟩ := k1.obj _ _ ho'
          obtain ⟨i2, n1, n2, n3⟩ := k2.inf _ _ q1
          rw [m1] at n1
          cases n1
          have := n3 (by omega)
          subst this
          rw [q3] at m3
          cases m3
          rw [q4] at m4
          cases m4
          obtain ⟨z1, z2⟩ := k1.put p.1 (.box cs') i' w rfl rfl rfl (Nat.le_refl _) (fun _ _ _ => rfl) (fun j hj => by rw [m1] at hj; cases hj; exact ⟨Nat.le_refl _, fun _ => rfl⟩)
            (fun ext => ⟨i', b, arr, el, Cx.set_eq _ _ _, m2, q3, q4, ⟨by rw [q5.1, k3], fun j hj => q5.2.1 j (by rw [← k3]; exact hj), fun j y hy => (k4 j y hy).ext ext⟩, m6⟩)
            (fun b2 _ hb2 => .inl ⟨_, i', ho', rfl, m1, hb2⟩) (fun h0 => by rw [m1] at h0; cases h0)
          refine convB_ok r _ st' _ (hr.re (c' := c1.set p.1 i') (st' := ⟨st.tm, upd ob' p.1 (.box cs')⟩) (by show Mem B _ (look (upd ob' p.1 (.box cs'))) w; rw [upd_fup]; exact z1) (k2.trans z2) fun t => ((hr.tms t).ext k2).ext z2) h
        · cases h
      · cases h
    · exact convB_ok r st st' c hr h
theorem cleanH_ok {N : Nat} {st st' : St} {a : Act} {hd : Hd_} (hr : RelS B N c st a w) (h : cleanH hd st = some st') : ∃ c', RelS B N c' st' a w := by
  unfold cleanH at h
  split at h
  · rename_i st1 h1
    obtain ⟨c1, hr1⟩ := convT_ok _ st st1 c hr h1
    split at h
    · rename_i st2 h2
      obtain ⟨c2, hr2⟩ := convB_ok _ st1 st2 c1 hr1 h2
      exact clean_ok hr2 h
    · cases h
  · cases h
theorem cleanAt_ok {N : Nat} {st st' : St} {a : Act} {cl : Cl_} {body : Code} (hr : RelS B N c st a w) (h : cleanAt cl body st = some st') : ∃ c', RelS B N c' st' a w := by
  unfold cleanAt at h
  split at h
  · split at h
    · exact cleanH_ok hr h
    · simp only [Option.some.injEq] at h; subst h; exact ⟨c, hr⟩
  · simp only [Option.some.injEq] at h; subst h; exact ⟨c, hr⟩
end
end Go.Proofs.Ytohfaccniialmaa.Am
end
section
/- What the machine of values answers, the program answers: text by text. -/
namespace Go.Proofs.Ytohfaccniialmaa.Am
open Go
set_option linter.constructorNameAsVariable false
set_option linter.unusedVariables false
set_option linter.unusedSimpArgs false
section
variable {P : Program} {B : Base} {c : Cx} {w : World} {N : Nat} {st st' : St} {a : Act} {T : Table} {M : FuncId → List Bool} {R : Type}

theorem get_upd (l : List (Nat × AV)) (ob : List (Nat × AO)) (k : Nat) (x : AV) (t : Nat) : St.get ⟨upd l k x, ob⟩ t = if t = k then x else St.get ⟨l, ob⟩ t := by
  unfold St.get
  simp only [look_upd]
  by_cases h : t = k <;> simp [h]
theorem put_get (a : Act) (k : Nat) (v : Value) (t : Nat) (h : k < a.tmps.size) : (a.put (some k) v).tmps.getD t undef = if t = k then v else a.tmps.getD t undef := by
  by_cases e : t = k
  · subst e
    rw [if_pos rfl]
    simp only [Act.put, Array.getD_eq_getD_getElem?]
    rw [Array.getElem?_setIfInBounds_self_of_lt h]
    rfl
  · rw [if_neg e]
    simp only [Act.put, Array.getD_eq_getD_getElem?]
    rw [Array.getElem?_setIfInBounds_ne fun h => e h.symm]
theorem put_size (a : Act) (k : Option Nat) (v : Value) : (a.put k v).tmps.size = a.tmps.size := by
  cases k <;> simp [Act.put]

theorem app_ok (hr : RelS B N c st a w) {c' : Cx} {w' : World} {d : Delta} {dst : Option Nat} {v : Value} (hm : Mem B c' (fup (look st.ob) d.ow) w') (he : Ext c w c' w') (hv : V c' w' d.v v) (hd : ∀ t, dst = some t → t < N) : RelS B N c' (st.app dst d) (a.put dst v) w' := by
  refine ⟨by show Mem B c' (look (upds st.ob d.ow)) w'; rw [look_upds]; exact hm, fun t => ?_, by rw [put_size]; exact hr.sz, by cases dst <;> exact hr.dfs, fun o i i' hI hi' hv => ?_, hr.Ib⟩
  case refine_2 =>
    cases h0 : c.inf o with
    | none => rw [he.nw o (hr.Ib o i hI) h0] at hi'; cases hi'
    | some i1 =>
      obtain ⟨i2, k1, k2, k3⟩ := he.inf o i1 h0
      rw [hi'] at k1
      cases k1
      have := k3 (by omega)
      subst this
      exact hr.pas o i _ hI h0 hv
  cases dst with
  | none => exact (hr.tms t).ext he
  | some k =>
    have hk : k < a.tmps.size := Nat.lt_of_lt_of_le (hd k rfl) hr.sz
    rw [put_get a k v t hk]
    have : (st.app (some k) d).get t = if t = k then d.v else st.get t := get_upd st.tm _ k d.v t
    rw [this]
    by_cases e : t = k
    · rw [if_pos e, if_pos e]; exact hv
    · rw [if_neg e, if_neg e]; exact (hr.tms t).ext he
theorem rel_same (hr : RelS B N c st a w) {g : Nat} {x : AV} (h : st.get g = x) : RelS B N c { st with tm := upd st.tm g x } a w := by
  refine ⟨hr.mem, fun t => ?_, hr.sz, hr.dfs, hr.pas, hr.Ib⟩
  have : St.get { st with tm := upd st.tm g x } t = if t = g then x else st.get t := get_upd st.tm _ g x t
  rw [this]
  by_cases e : t = g
  · rw [if_pos e, ← h, e]; exact hr.tms g
  · rw [if_neg e]; exact hr.tms t
theorem ev_ok (hr : RelS B N c st a w) (x : Operand) : V c w (st.ev x) (a.eval x) := by
  cases x with
  | tmp t => exact hr.tms t
  | const v => exact constV_ok v
  | global g => exact .bad _
  | func f => exact .fn f [] #[] rfl (by simp)

theorem oper_ok (hT : TS P T) (hr : RelS B N c st a w) {o : Oper} {d : Delta} (h : run T (opA P M st.ev (look st.ob) o) = some d) (hd : ∀ t, o.dst = some t → t < N) {K : Act → World → Prop} {Q : Exit → Act → World → Prop}
    (hK : ∀ a' w' c', RelS B N c' (st.app o.dst d) a' w' → K a' w') : o.wp P a w K Q := by
  unfold Oper.wp
  rcases opA_ok (ρ := a.eval) hr.mem hT (ev_ok hr) (fun _ => rfl) h with ⟨v, w', c', hrun, hm, he, hv⟩ | ⟨f, vs, hrun, hc⟩
  · rcases hrun with hrun | ⟨hrun, rfl⟩
    · rw [hrun, Oper.upon_value]
      exact hK _ _ c' (app_ok hr hm he hv hd)
    · rw [hrun, Oper.upon_skip]
      exact hK _ _ c' (app_ok hr hm he hv hd)
  · rw [hrun, Oper.upon_enter]
    exact hc.mono fun e w' ⟨v, c', he, hm, hx, hv⟩ => by subst he; exact hK _ _ c' (app_ok hr hm hx hv hd)

theorem V.inv_und {v : Value} (h : V c w .und v) : v = undef := by cases h; rfl
theorem stepA_ok (hT : TS P T) (hr : RelS B N c st a w) {ops : Array Oper} {o : Oper} (h : run T (stepA P M ops st o) = some st') (hd : ∀ t, o.dst = some t → t < N) {K : Act → World → Prop} {Q : Exit → Act → World → Prop}
    (hK : ∀ a' w' c', RelS B N c' st' a' w' → K a' w') : if Region.wanted o (yielded ops a.tmps) = true then o.wp P a w K Q else K (a.put o.dst undef) w := by
  have skip : ∀ (st0 : St), RelS B N c st0 a w → st0.app o.dst ⟨.und, [], []⟩ = st' → K (a.put o.dst undef) w := fun st0 h0 e => by
    subst e
    exact hK _ _ c (app_ok h0 (d := ⟨.und, [], []⟩) h0.mem (.refl c w) .und hd)
  unfold stepA at h
  split at h
  · rename_i hg
    obtain ⟨d, h1, h2⟩ := run_bind T _ _ _ h
    have h2 := run_ret h2
    subst h2
    have hw : Region.wanted o (yielded ops a.tmps) = true := by simp [Region.wanted, hg]
    rw [if_pos hw]
    exact oper_ok hT hr h1 hd hK
  · rename_i j want hg
    split at h
    · exact (run_fail h).elim
    rename_i g hgd
    have hy : ∀ x, a.tmps.getD g undef = .bool x → yielded ops a.tmps j = some x := fun x e => by
      have hlt : g < a.tmps.size := by
        rcases Nat.lt_or_ge g a.tmps.size with h | h
        · exact h
        · rw [Array.getD_eq_getD_getElem?, Array.getElem?_eq_none h] at e; cases e
      rw [Array.getD_eq_getD_getElem?, Array.getElem?_eq_getElem hlt] at e
      simp only [Option.getD_some] at e
      simp only [yielded, hgd, Option.bind_some, Array.getElem?_eq_getElem hlt, e]
    have hyn : a.tmps.getD g undef = undef → yielded ops a.tmps j = none := fun e => by
      simp only [yielded, hgd, Option.bind_some]
      rcases Nat.lt_or_ge g a.tmps.size with h | h
      · rw [Array.getD_eq_getD_getElem?, Array.getElem?_eq_getElem h] at e
        simp only [Option.getD_some] at e
        rw [Array.getElem?_eq_getElem h, e]
        rfl
      · rw [Array.getElem?_eq_none h]
    have htm := hr.tms g
    split at h
    · rename_i hu
      rw [hu] at htm
      have hw : ¬ Region.wanted o (yielded ops a.tmps) = true := by simp [Region.wanted, hg, hyn (V.inv_und htm)]
      rw [if_neg hw]
      exact skip st hr (run_ret h)
    · rename_i x hx
      rw [hx] at htm
      have hyx := hy x (V.inv_b htm)
      have yes : x = want → run T ((opA P M (St.ev { st with tm := upd st.tm g (.b want) }) (look st.ob) o).bind fun d => .ret (St.app { st with tm := upd st.tm g (.b want) } o.dst d)) = some st' → if Region.wanted o (yielded ops a.tmps) = true then o.wp P a w K Q else K (a.put o.dst undef) w := fun e h => by
        subst e
        obtain ⟨d, h1, h2⟩ := run_bind T _ _ _ h
        have h2 := run_ret h2
        subst h2
        have hw : Region.wanted o (yielded ops a.tmps) = true := by simp [Region.wanted, hg, hyx]
        rw [if_pos hw]
        exact oper_ok hT (rel_same hr hx) h1 hd hK
      have no : x ≠ want → run T (.ret (St.app { st with tm := upd st.tm g (.b (!want)) } o.dst ⟨.und, [], []⟩) : Tree St) = some st' → if Region.wanted o (yielded ops a.tmps) = true then o.wp P a w K Q else K (a.put o.dst undef) w := fun e h => by
        have hxw : x = !want := by cases x <;> cases want <;> first | rfl | exact absurd rfl e
        have hw : ¬ Region.wanted o (yielded ops a.tmps) = true := by
          unfold Region.wanted
          rw [hg]
          simp only [hyx]
          cases x <;> cases want <;> first | exact absurd rfl e | exact Bool.false_ne_true
        rw [if_neg hw]
        exact skip _ (rel_same hr (by rw [hx, hxw])) (run_ret h)
      cases want with
      | true =>
        cases x with
        | true => exact yes rfl h
        | false => exact no (by simp) h
      | false =>
        cases x with
        | true => exact no (by simp) h
        | false => exact yes rfl h
    · exact (run_fail h).elim

theorem dstsOk_get : ∀ (l : List Oper), dstsOk N l = true → ∀ (i : Nat) (o : Oper), l[i]? = some o → ∀ t, o.dst = some t → t < N
  | [], _, i, o, h, _, _ => by simp at h
  | x :: r, hd, i, o, h, t, ht => by
    simp only [dstsOk] at hd
    cases i with
    | zero =>
      simp at h
      subst h
      rw [ht] at hd
      simp only at hd
      split at hd
      · rename_i e
        exact Nat.lt_of_lt_of_le (Nat.lt_succ_self _) (Nat.le_of_ble_eq_true e)
      · cases hd
    | succ i =>
      have hr : dstsOk N r = true := by
        split at hd
        · split at hd
          · exact hd
          · cases hd
        · exact hd
      exact dstsOk_get r hr i o (by simpa using h) t ht

/-- a region, in its text's order -/
theorem regA_ok (hT : TS P T) {ops : Array Oper} (hd : dstsOk N ops.toList = true) {Q : Exit → Act → World → Prop} {st' : St} (hQ : ∀ a' w' c', RelS B N c' st' a' w' → Q .normal a' w') : ∀ (l : List Oper) (i : Nat) (st : St) (c : Cx) (a : Act) (w : World), (∀ j, l[j]? = ops[i + j]?) → RelS B N c st a w → run T (regA P M ops l st) = some st' →
    wpOps P ops Q (List.range' i l.length) a w
  | [], i, st, c, a, w, hl, hr, h => by
    have := run_ret h
    subst this
    exact hQ a w c hr
  | o :: r, i, st, c, a, w, hl, hr, h => by
    obtain ⟨st1, h1, h2⟩ := run_bind T _ _ _ h
    have h0 : ops[i]? = some o := by simpa using (hl 0).symm
    simp only [List.length_cons, List.range'_succ]
    rw [wpOps_cons]
    unfold wpOp
    simp only [h0]
    have hdst : ∀ t, o.dst = some t → t < N := dstsOk_get ops.toList hd i o (by simpa using h0)
    have key := stepA_ok (Q := Q) (K := wpOps P ops Q (List.range' (i + 1) r.length)) hT hr h1 hdst fun a' w' c' hr' => regA_ok hT hd hQ r (i + 1) st1 c' a' w' (fun j => by
      have := hl (j + 1)
      simpa [Nat.add_assoc, Nat.add_comm 1 j] using this) hr' h2
    split at key
    · rename_i hw
      rw [if_pos hw]
      exact .inl key
    · rename_i hw
      rw [if_neg hw]
      exact key

end
end Go.Proofs.Ytohfaccniialmaa.Am
end
section
/- What an operation of the machine of values looks at. -/
namespace Go.Proofs.Ytohfaccniialmaa.Am
open Go
set_option linter.constructorNameAsVariable false
set_option linter.unusedVariables false
set_option linter.unusedSimpArgs false
section
variable {P : Program} {M : FuncId → List Bool} {T : Table} {ob ob' : Nat → Option AO} {d : Delta}

theorem run_opt' {α β : Type} {T : Table} {x : Option α} {f : α → Tree β} {a : α} {b : β} (hx : x = some a) (h : run T (f a) = some b) : run T (opt x f) = some b := by
  rw [hx]; exact h
theorem run_grd' {β : Type} {T : Table} {c : Bool} {t : Tree β} {b : β} (hc : c = true) (h : run T t = some b) : run T (grd c t) = some b := by
  rw [hc]; exact h
theorem run_fresh' {β : Type} {T : Table} {ob : Nat → Option AO} {k : Nat} {t : Tree β} {b : β} (hk : ob k = none) (h : run T t = some b) : run T (fresh ob k t) = some b := by
  unfold fresh; rw [hk]; exact h

theorem rowOf_cg {dflt : Option Ty} {a : AV} {r : RV} (h : rowOf ob dflt a = some r) (hg : ∀ k, k ∈ r.rd → ob' k = ob k) : rowOf ob' dflt a = some r := by
  cases a <;> simp only [rowOf] at h ⊢
  case own o v =>
    have : ob' o = ob o := hg o (by
      split at h
      · split at h
        · simp only [Option.some.injEq] at h; subst h; simp
        · cases h
      · split at h
        · simp only [Option.some.injEq] at h; subst h; simp
        · cases h
      · cases h)
    rw [this]; exact h
  case sub o v lo n =>
    have : ob' o = ob o := hg o (by
      split at h
      · split at h
        · simp only [Option.some.injEq] at h; subst h; simp
        · cases h
      · split at h
        · simp only [Option.some.injEq] at h; subst h; simp
        · cases h
      · cases h)
    rw [this]; exact h
  all_goals exact h
theorem lenA_cg {a : AV} {r : Int × List Nat} (h : lenA ob a = some r) (hg : ∀ k, k ∈ r.2 → ob' k = ob k) : lenA ob' a = some r := by
  cases a <;> simp only [lenA] at h ⊢
  case own o v =>
    split at h
    · rename_i q hq
      simp only [Option.some.injEq] at h; subst h
      rw [rowOf_cg hq hg]
    · cases h
  case sub o v lo n =>
    split at h
    · rename_i q hq
      simp only [Option.some.injEq] at h; subst h
      rw [rowOf_cg hq hg]
    · cases h
  all_goals exact h
theorem frz1_cg {a : AV} {r : AV × List (Nat × AO)} (h : frz1 ob a = some r) (hg : ∀ k, k ∈ r.2.map (·.1) → ob' k = ob k) : frz1 ob' a = some r := by
  cases a <;> simp only [frz1] at h ⊢
  case own o v =>
    have : ob' o = ob o := hg o (by
      split at h
      · split at h
        · simp only [Option.some.injEq] at h; subst h; simp
        · cases h
      · split at h
        · simp only [Option.some.injEq] at h; subst h; simp
        · cases h
      · cases h)
    rw [this]; exact h
  all_goals exact h
theorem frz_cg : ∀ {cs : List AV} {r : List AV × List (Nat × AO)}, frz ob cs = some r → (∀ k, k ∈ r.2.map (·.1) → ob' k = ob k) → frz ob' cs = some r
  | [], r, h, _ => by simpa [frz] using h
  | a :: l, r, h, hg => by
    simp only [frz] at h ⊢
    split at h
    · rename_i b w s w' h1 h2
      simp only [Option.some.injEq] at h; subst h
      rw [frz1_cg h1 fun k hk => hg k (by simp only [List.map_append, List.mem_append]; exact .inl hk), frz_cg h2 fun k hk => hg k (by simp only [List.map_append, List.mem_append]; exact .inr hk)]
    · cases h
theorem load_cg {t : TypeId} {n : Nat} {a : AV} (h : run T (loadA P ob t n a) = some d) (hg : ∀ k, k ∈ d.rd → ob' k = ob k) : run T (loadA P ob' t n a) = some d := by
  cases a <;> simp only [loadA] at h ⊢
  case ptr o off =>
    have : ob' o = ob o := hg o (by
      split at h
      · obtain ⟨_, _, h⟩ := run_opt h
        obtain ⟨_, _, h⟩ := run_opt h
        have := run_ret h; subst this; simp
      · exact (run_fail h).elim)
    rw [this]; exact h
  case eptr o v j off =>
    have key : ∀ (u : Ty) (xs : List u.D), run T (.gt u xs j fun x => opt (cut (view u x) off n) fun l => opt (mkA P t l) fun a => (.ret ⟨a, [], [o]⟩ : TD)) = some d → ob' o = ob o := fun u xs h => hg o (by
      simp only [run] at h
      split at h
      · obtain ⟨_, _, h⟩ := run_opt h
        obtain ⟨_, _, h⟩ := run_opt h
        have := run_ret h; subst this; simp
      · cases h)
    have : ob' o = ob o := by
      split at h
      · split at h
        · exact key _ _ h
        · exact (run_fail h).elim
      · split at h
        · exact key _ _ h
        · exact (run_fail h).elim
      · exact (run_fail h).elim
    rw [this]; exact h
  all_goals exact h
theorem store_cg {n : Nat} {p x : AV} (h : run T (storeA ob n p x) = some d) (hg : ∀ k, k ∈ d.rd → ob' k = ob k) : run T (storeA ob' n p x) = some d := by
  unfold storeA at h ⊢
  obtain ⟨xc, hx, h⟩ := run_opt h
  refine run_opt' hx ?_
  split at h
  · exact (run_fail h).elim
  rename_i hn
  cases p with
  | ptr o off =>
    simp only at h ⊢
    have : ob' o = ob o := hg o (by
      split at h
      · split at h
        · have := run_ret h; subst this; simp
        · exact (run_fail h).elim
      · exact (run_fail h).elim)
    rw [this]; exact h
  | eptr o v j off =>
    simp only at h ⊢
    split at h
    · rename_i v' u xs ho
      split at h
      · rename_i hv
        obtain ⟨fw, hw, h⟩ := run_opt h
        have hrd : d.rd = o :: fw.2.map (·.1) := by
          simp only [run] at h
          split at h
          · split at h
            · obtain ⟨_, _, h⟩ := run_opt h
              have := run_ret h; subst this; rfl
            · simp [run] at h
          · cases h
        have h1 : ob' o = ob o := hg o (by rw [hrd]; simp)
        rw [h1, ho]
        simp only [hv]
        refine run_opt' (frz_cg hw fun k hk => hg k (by rw [hrd]; exact List.mem_cons_of_mem _ hk)) h
      · exact (run_fail h).elim
    · exact (run_fail h).elim
  | _ => exact h
theorem fresh_cg {α : Type} {k : Nat} {t : Tree α} {x : α} (h : run T (fresh ob k t) = some x) (hg : ob' k = ob k) : run T (fresh ob' k t) = some x := by
  unfold fresh at h ⊢
  rw [hg]; exact h
theorem slice_cg {t : TypeId} {x : AV} {lo hi mx : Option AV} (h : run T (sliceA P ob t x lo hi mx) = some d) (hg : ∀ k, k ∈ d.rd → ob' k = ob k) : run T (sliceA P ob' t x lo hi mx) = some d := by
  have bnd : ∀ (n : Nat) (l u : Int) (e : Delta), run T (bndA n l u (.ret e)) = some d → e = d := fun n l u e h => by
    unfold bndA at h
    exact run_ret (run_grd (run_grd (run_grd h).2).2).2
  unfold sliceA at h ⊢
  split at h
  · exact h
  · obtain ⟨sz, hs, h⟩ := run_opt h
    refine run_opt' hs ?_
    split at h
    · split at h
      · obtain ⟨r, hr, h⟩ := run_opt h
        have := run_ret h; subst this
        exact run_opt' (lenA_cg hr hg) rfl
      · exact (run_fail h).elim
    · split at h
      · exact h
      · obtain ⟨r, hr, h⟩ := run_opt h
        have hrd : d.rd = r.rd := by
          split at h
          · obtain ⟨_, _, h⟩ := run_opt h
            obtain ⟨_, _, h⟩ := run_opt h
            have := bnd _ _ _ _ h; subst this; rfl
          · exact (run_fail h).elim
        exact run_opt' (rowOf_cg hr fun k hk => hg k (by rw [hrd]; exact hk)) h
      · exact (run_fail h).elim
  · exact (run_fail h).elim
theorem partA_cg {x : AV} {p : Nat × Nat × Nat × Nat} (h : partA ob x = some p) (hg : ob' p.1 = ob p.1) : partA ob' x = some p := by
  cases x <;> simp only [partA] at h ⊢
  case own o v =>
    have : p.1 = o := by
      split at h
      · split at h
        · simp only [Option.some.injEq] at h; subst h; rfl
        · cases h
      · cases h
    rw [this] at hg
    rw [hg]; exact h
  case sub o v lo n =>
    have : p.1 = o := by
      split at h
      · split at h
        · simp only [Option.some.injEq] at h; subst h; rfl
        · cases h
      · cases h
    rw [this] at hg
    rw [hg]; exact h
  all_goals exact h
theorem clear_cg {e : TypeId} {x : AV} (h : run T (clearA P ob e x) = some d) (hg : ∀ k, k ∈ d.rd → ob' k = ob k) : run T (clearA P ob' e x) = some d := by
  unfold clearA at h ⊢
  obtain ⟨z, hz, h⟩ := run_opt h
  obtain ⟨p, hp, h⟩ := run_opt h
  have hrd : d.rd = [p.1] := by
    split at h
    · split at h
      · obtain ⟨_, _, h⟩ := run_opt h
        have := run_ret h; subst this; rfl
      · exact (run_fail h).elim
    · exact (run_fail h).elim
  have h1 : ob' p.1 = ob p.1 := hg _ (by rw [hrd]; simp)
  refine run_opt' hz (run_opt' (partA_cg hp h1) ?_)
  rw [h1]; exact h
theorem copy_cg {e : TypeId} {x s : AV} (h : run T (copyA P ob e x s) = some d) (hg : ∀ k, k ∈ d.rd → ob' k = ob k) : run T (copyA P ob' e x s) = some d := by
  unfold copyA at h ⊢
  obtain ⟨z, hz, h⟩ := run_opt h
  obtain ⟨p, hp, h⟩ := run_opt h
  split at h
  · rename_i v t xs ho
    split at h
    · rename_i hsz
      obtain ⟨r, hr, h⟩ := run_opt h
      have hrd : d.rd = p.1 :: r.rd := by
        obtain ⟨_, _, h⟩ := run_opt h
        have := run_ret h; subst this; rfl
      have h1 : ob' p.1 = ob p.1 := hg _ (by rw [hrd]; simp)
      refine run_opt' hz (run_opt' (partA_cg hp h1) ?_)
      rw [h1, ho]
      simp only [hsz]
      exact run_opt' (rowOf_cg hr fun k hk => hg k (by rw [hrd]; exact List.mem_cons_of_mem _ hk)) h
    · exact (run_fail h).elim
  · exact (run_fail h).elim
theorem appendB_cg {k : Nat} {u : Ty} {by_ : Nat} {rd : List Nat} {ys : List u.D} {a : AV} (h : run T (appendB k ob u by_ rd ys a) = some d) (hg : ∀ k, k ∈ d.rd ∨ k ∈ d.ow.map (·.1) → ob' k = ob k) : run T (appendB k ob' u by_ rd ys a) = some d ∧ ∀ k, k ∈ rd → k ∈ d.rd := by
  cases a <;> simp only [appendB] at h ⊢
  case nils =>
    obtain ⟨h1, h⟩ := run_grd h
    obtain ⟨h2, h3⟩ := run_fresh h
    have := run_ret h3; subst this
    exact ⟨run_grd' h1 (fresh_cg h (hg _ (.inr (by simp)))), fun k hk => hk⟩
  case own o v =>
    split at h
    · rename_i v' t' xs ho
      split at h
      · rename_i hv
        obtain ⟨zs, hz, h⟩ := run_opt h
        obtain ⟨h1, h⟩ := run_grd h
        have := run_ret h; subst this
        rw [hg o (.inl (by simp)), ho]
        simp only [hv]
        exact ⟨run_opt' hz (run_grd' h1 rfl), fun k hk => List.mem_cons_of_mem _ hk⟩
      · exact (run_fail h).elim
    · exact (run_fail h).elim
  all_goals exact (run_fail h).elim
theorem append_cg {k : Nat} {ts : List TypeId} {s x : AV} (h : run T (appendA P k ob ts s x) = some d) (hg : ∀ k, k ∈ d.rd ∨ k ∈ d.ow.map (·.1) → ob' k = ob k) : run T (appendA P k ob' ts s x) = some d := by
  unfold appendA at h ⊢
  split at h
  · split at h
    · obtain ⟨u, hu, h⟩ := run_opt h
      obtain ⟨by_, hb, h⟩ := run_opt h
      obtain ⟨z, hz, h⟩ := run_opt h
      refine run_opt' hu (run_opt' hb (run_opt' hz ?_))
      split at h
      · rename_i hc
        obtain ⟨rx, hr, h⟩ := run_opt h
        obtain ⟨ys, hy, h⟩ := run_opt h
        obtain ⟨k1, k2⟩ := appendB_cg h hg
        exact run_opt' (rowOf_cg hr fun k hk => hg k (.inl (k2 k hk))) (run_opt' hy k1)
      · exact (run_fail h).elim
    · exact (run_fail h).elim
  · exact (run_fail h).elim
theorem len_cg {ts : List TypeId} {x : AV} (h : run T (lenB P ob ts x) = some d) (hg : ∀ k, k ∈ d.rd → ob' k = ob k) : run T (lenB P ob' ts x) = some d := by
  unfold lenB at h ⊢
  split at h
  · split at h
    · exact h
    · split at h
      · exact (run_fail h).elim
      · obtain ⟨n, hn, h⟩ := run_opt h
        have := run_ret h; subst this
        exact run_opt' (lenA_cg hn hg) rfl
    · exact (run_fail h).elim
  · exact (run_fail h).elim
theorem conv_cg {s t : TypeId} {x : AV} (h : run T (convA P ob s t x) = some d) (hg : ∀ k, k ∈ d.rd → ob' k = ob k) : run T (convA P ob' s t x) = some d := by
  unfold convA at h ⊢
  split at h
  · exact h
  · split at h
    · obtain ⟨r, hr, h1⟩ := run_opt h
      obtain ⟨ys, hy, h2⟩ := run_opt h1
      have := run_ret h2
      subst this
      exact run_opt' (rowOf_cg hr fun k hk => hg k hk) (run_opt' hy h2)
    · exact (run_fail h).elim
  · exact (run_fail h).elim
theorem builtin_cg {k : Nat} {b : Builtin} {ts : List TypeId} {as : List AV} (h : run T (builtinA P k ob b ts as) = some d) (hg : ∀ k, k ∈ d.rd ∨ k ∈ d.ow.map (·.1) → ob' k = ob k) : run T (builtinA P k ob' b ts as) = some d := by
  unfold builtinA at h ⊢
  split at h
  · exact len_cg h fun k hk => hg k (.inl hk)
  · exact append_cg h hg
  · split at h
    · split at h
      · exact copy_cg h fun k hk => hg k (.inl hk)
      · exact (run_fail h).elim
    · exact (run_fail h).elim
  · split at h
    · split at h
      · exact clear_cg h fun k hk => hg k (.inl hk)
      · exact (run_fail h).elim
    · exact (run_fail h).elim
  · exact h
  · exact h
  · exact (run_fail h).elim

/-! ### calls -/
theorem lend0_cg {a : AV} {r : AV × List Nat} (h : lend0 ob a = some r) (hg : ∀ k, k ∈ r.2 → ob' k = ob k) : lend0 ob' a = some r := by
  cases a <;> simp only [lend0] at h ⊢
  case own o v =>
    split at h
    · rename_i q hq
      simp only [Option.some.injEq] at h; subst h
      rw [rowOf_cg hq fun k hk => hg k (by have := (rowOf_own hq).2; rw [this] at hk; exact hk)]
    · cases h
  case sub o v lo m =>
    split at h
    · rename_i q hq
      simp only [Option.some.injEq] at h; subst h
      rw [rowOf_cg hq fun k hk => hg k (by
        simp only [rowOf] at hq
        split at hq
        · split at hq
          · simp only [Option.some.injEq] at hq; subst hq; exact hk
          · cases hq
        · split at hq
          · simp only [Option.some.injEq] at hq; subst hq; exact hk
          · cases hq
        · cases hq)]
    · cases h
  all_goals exact h
theorem lends0_cg : ∀ {cs : List AV} {s : List AV × List Nat}, lends0 ob cs = some s → (∀ k, k ∈ s.2 → ob' k = ob k) → lends0 ob' cs = some s
  | [], s, h, _ => by simpa [lends0] using h
  | a :: l, s, h, hg => by
    simp only [lends0] at h ⊢
    split at h
    · rename_i b w s1 w' h1 h2
      simp only [Option.some.injEq] at h; subst h
      rw [lend0_cg h1 fun k hk => hg k (List.mem_append_left _ hk), lends0_cg h2 fun k hk => hg k (List.mem_append_right _ hk)]
    · cases h
theorem lendB_cg {o off : Nat} {r : AV × List Nat} (h : lendB ob o off = some r) (hg : ∀ k, k ∈ r.2 → ob' k = ob k) : lendB ob' o off = some r := by
  unfold lendB at h ⊢
  split at h
  · rename_i cs ho
    split at h
    · rename_i l w hl
      simp only [Option.some.injEq] at h; subst h
      rw [hg o List.mem_cons_self, ho]
      simp only
      rw [lends0_cg hl fun k hk => hg k (List.mem_cons_of_mem _ hk)]
    · cases h
  · cases h
theorem lend_cg : ∀ (n : Nat) (a : AV) (r : AV × List Nat), SizeOf.sizeOf a < n → lend ob a = some r → (∀ k, k ∈ r.2 → ob' k = ob k) → lend ob' a = some r
  | 0, a, r, hn, _, _ => by omega
  | n + 1, a, r, hn, h, hg => by
    have lists : ∀ (cs : List AV) (s : List AV × List Nat), (∀ a, a ∈ cs → SizeOf.sizeOf a < n) → lend.lends ob cs = some s → (∀ k, k ∈ s.2 → ob' k = ob k) → lend.lends ob' cs = some s := by
      intro cs
      induction cs with
      | nil => intro s _ h _; simpa [lend.lends] using h
      | cons a l ih =>
        intro s hs h hg
        simp only [lend.lends] at h ⊢
        split at h
        · rename_i b w s1 w' h1 h2
          simp only [Option.some.injEq] at h; subst h
          rw [lend_cg n a _ (hs a List.mem_cons_self) h1 fun k hk => hg k (List.mem_append_left _ hk), ih _ (fun a ha => hs a (List.mem_cons_of_mem _ ha)) h2 fun k hk => hg k (List.mem_append_right _ hk)]
        · cases h
    cases a <;> simp only [lend] at h ⊢
    case ptr o off => exact lendB_cg h hg
    case agg cs =>
      split at h
      · rename_i l w hl
        simp only [Option.some.injEq] at h; subst h
        rw [lists cs _ (fun a ha => by
          have := List.sizeOf_lt_of_mem ha
          simp only [AV.agg.sizeOf_spec] at hn
          omega) hl hg]
      · cases h
    case fn f cs =>
      split at h
      · rename_i l w hl
        simp only [Option.some.injEq] at h; subst h
        rw [lists cs _ (fun a ha => by
          have := List.sizeOf_lt_of_mem ha
          simp only [AV.fn.sizeOf_spec] at hn
          omega) hl hg]
      · cases h
    all_goals exact lend0_cg h hg
theorem rowsL_cg : ∀ {l : List Nat}, (∀ k, k ∈ l → ob' k = ob k) → rowsL ob' l = rowsL ob l
  | [], _ => rfl
  | o :: r, hg => by
    simp only [rowsL]
    rw [hg o List.mem_cons_self, rowsL_cg fun k hk => hg k (List.mem_cons_of_mem _ hk)]
theorem passes_cg : ∀ (as : List AV) (m : List Bool) (r : List AV × List Nat), passes ob m as = some r → (∀ k, k ∈ r.2 → ob' k = ob k) → passes ob' m as = some r
  | [], m, r, h, _ => by simpa [passes] using h
  | a :: l, m, r, h, hg => by
    have lent : ∀ (m' : List Bool), (match lend ob a, passes ob m' l with | some (b, w), some (s, w') => some (b :: s, w ++ w') | _, _ => none) = some r → (match lend ob' a, passes ob' m' l with | some (b, w), some (s, w') => some (b :: s, w ++ w') | _, _ => none) = some r := fun m' h => by
      split at h
      · rename_i b w s w' h1 h2
        simp only [Option.some.injEq] at h; subst h
        rw [lend_cg (SizeOf.sizeOf a + 1) a _ (by omega) h1 fun k hk => hg k (List.mem_append_left _ hk), passes_cg l m' _ h2 fun k hk => hg k (List.mem_append_right _ hk)]
      · cases h
    cases m with
    | nil => simp only [passes] at h ⊢; exact lent [] h
    | cons x m =>
      cases x with
      | false => simp only [passes] at h ⊢; exact lent m h
      | true =>
        simp only [passes] at h ⊢
        split at h
        · rename_i s w h1
          simp only [Option.some.injEq] at h; subst h
          rw [passes_cg l m _ h1 hg]
        · cases h
theorem reach_pre {ob : Nat → Option AO} : ∀ (n : Nat) (l seen : List Nat) (j o : Nat), seen[j]? = some o → (reach ob n l seen)[j]? = some o
  | 0, l, seen, j, o, h => by simpa [reach] using h
  | n + 1, [], seen, j, o, h => by simpa [reach] using h
  | n + 1, x :: r, seen, j, o, h => by
    simp only [reach]
    split
    · exact reach_pre n _ _ j o h
    · split <;>
      · refine reach_pre n _ _ j o ?_
        rw [List.getElem?_append_left (List.getElem?_eq_some_iff.1 h).1]
        exact h
theorem reach_cg : ∀ (n : Nat) (l seen : List Nat), (∀ k, k ∈ reach ob n l seen → ob' k = ob k) → reach ob' n l seen = reach ob n l seen
  | 0, l, seen, _ => by simp [reach]
  | n + 1, [], seen, _ => by simp [reach]
  | n + 1, o :: r, seen, hg => by
    simp only [reach] at hg ⊢
    split
    · rename_i hh
      simp only [hh] at hg
      exact reach_cg n r seen hg
    · rename_i hh
      simp only [hh] at hg
      have ho : ob' o = ob o := hg o (by
        have mem : ∀ (l : List Nat), o ∈ reach ob n l (seen ++ [o]) := fun l => List.mem_of_getElem? (reach_pre n l (seen ++ [o]) seen.length o (by simp))
        split <;> exact mem _)
      rw [ho]
      split
      · rename_i a ha
        simp only [ha] at hg
        exact reach_cg n _ _ hg
      · rename_i ha
        simp only [ha] at hg
        exact reach_cg n _ _ hg
theorem rin_cg {L : List Nat} (hg : ∀ k, k ∈ L → ob' k = ob k) : rin ob' L = rin ob L := by
  funext o v
  unfold rin
  split
  · rename_i i hi
    rw [hg o (List.mem_of_getElem? (idx_some L o i hi))]
  · rfl
theorem verAt_cg {L : List Nat} (hg : ∀ k, k ∈ L → ob' k = ob k) : verAt ob' L = verAt ob L := by
  funext i
  unfold verAt
  split
  · rename_i o ho
    rw [hg o (List.mem_of_getElem? ho)]
  · rfl
theorem rout_cg {k : Nat} {L : List Nat} (hg : ∀ k, k ∈ L → ob' k = ob k) : rout k ob' L = rout k ob L := by
  funext i v
  unfold rout
  rw [verAt_cg hg]
theorem obsOf_cg {ρ : Nat → Nat → Option (Nat × Nat)} : ∀ {L : List Nat}, (∀ k, k ∈ L → ob' k = ob k) → obsOf ob' ρ L = obsOf ob ρ L
  | [], _ => rfl
  | a :: r, hg => by
    simp only [obsOf]
    rw [hg a List.mem_cons_self, obsOf_cg fun k hk => hg k (List.mem_cons_of_mem _ hk)]
theorem backO_cg {k : Nat} {L : List Nat} (hg : ∀ k, k ∈ L → ob' k = ob k) : ∀ (l : List AO) (i : Nat), backO k ob' L i l = backO k ob L i l
  | [], i => rfl
  | a :: r, i => by
    simp only [backO]
    rw [rout_cg hg, verAt_cg hg, backO_cg hg r (i + 1)]
theorem froz_cg : ∀ {l : List Nat}, (∀ k, k ∈ l → ob' k = ob k) → froz ob' l = froz ob l
  | [], _ => rfl
  | a :: r, hg => by
    simp only [froz]
    rw [hg a List.mem_cons_self, froz_cg fun k hk => hg k (List.mem_cons_of_mem _ hk)]
theorem freshN_cg {k : Nat} : ∀ {n : Nat}, (∀ q, q < n → ob' (k + q) = ob (k + q)) → freshN ob' k n = freshN ob k n
  | 0, _ => rfl
  | n + 1, hg => by
    simp only [freshN]
    rw [hg n (by omega), freshN_cg fun q hq => hg q (by omega)]
theorem backO_has (k : Nat) (L : List Nat) : ∀ (l : List AO) (i j : Nat), i ≤ j → j < i + l.length → sig k L j ∈ (backO k ob L i l).map (·.1)
  | [], i, j, h1, h2 => by simp at h2; omega
  | a :: r, i, j, h1, h2 => by
    simp only [backO, List.map_cons, List.mem_cons]
    by_cases e : i = j
    · subst e; exact .inl rfl
    · exact .inr (backO_has k L r (i + 1) j (by omega) (by simp at h2; omega))
theorem call_cg {k : Nat} {f : FuncId} {as : List AV} (h : run T (callA M k ob f as) = some d) (hg : ∀ k, k ∈ d.rd ∨ k ∈ d.ow.map (·.1) → ob' k = ob k) : run T (callA M k ob' f as) = some d := by
  unfold callA at h ⊢
  obtain ⟨p, hp, h⟩ := run_opt h
  generalize hL : reach ob 100 (refs.refsL p.1) [] = L at h
  obtain ⟨os, ho, h⟩ := run_opt h
  split at h
  · exact (run_fail h).elim
  rename_i hck
  simp only [run] at h
  split at h
  case h_2 => cases h
  rename_i pk hT
  split at h
  case h_2 => cases h
  rename_i t ht
  split at h
  · exact (run_fail h).elim
  rename_i hck2
  have hrd : d.rd = L ++ p.2 ∧ ∀ q, q ∈ (backO k ob L 0 (pk.enc t).2).map (·.1) → q ∈ d.ow.map (·.1) := by
    split at h
    · split at h
      · have := run_ret h; subst this
        exact ⟨rfl, fun q hq => by simp only [List.map_append, List.mem_append]; exact .inl hq⟩
      · exact (run_fail h).elim
    · have := run_ret h; subst this
      exact ⟨rfl, fun q hq => hq⟩
  have gL : ∀ q, q ∈ L → ob' q = ob q := fun q hq => hg q (.inl (by rw [hrd.1]; exact List.mem_append_left _ hq))
  have gp : ∀ q, q ∈ p.2 → ob' q = ob q := fun q hq => hg q (.inl (by rw [hrd.1]; exact List.mem_append_right _ hq))
  refine run_opt' (passes_cg as _ p hp gp) ?_
  rw [reach_cg 100 _ _ (by rw [hL]; exact gL), hL, rin_cg gL]
  refine run_opt' (by rw [obsOf_cg gL]; exact ho) ?_
  rw [hck]
  simp only [run]
  rw [hT]
  simp only
  rw [ht]
  simp only
  rw [verAt_cg gL, rout_cg gL, backO_cg gL, froz_cg gp, rowsL_cg gp]
  have hck3 := hck2
  rw [Bool.and_eq_true, Bool.and_eq_true] at hck3
  have hlen := ble_true hck3.1.1
  rw [freshN_cg (ob := ob) fun q hq => hg _ (.inr (hrd.2 _ (by
    have := backO_has (ob := ob) k L (pk.enc t).2 0 (L.length + q) (by omega) (by omega)
    rw [sig_new (by omega), show L.length + q - L.length = q by omega] at this
    exact this))), hck2]
  exact h
end
end Go.Proofs.Ytohfaccniialmaa.Am
end
section
/- What an operation of the machine of values looks at: all of them. -/
namespace Go.Proofs.Ytohfaccniialmaa.Am
open Go
set_option linter.constructorNameAsVariable false
set_option linter.unusedVariables false
set_option linter.unusedSimpArgs false
section
variable {P : Program} {M : FuncId → List Bool} {T : Table} {ob ob' : Nat → Option AO} {d : Delta}

theorem opA_ev {ev ev' : Operand → AV} (o : Oper) (h : ∀ x, x ∈ opsOf o.op → ev' x = ev x) : opA P M ev' ob o = opA P M ev ob o := by
  have pairs : ∀ ps : Array (Nat × Operand), (∀ x, x ∈ ps.toList.map (fun p => p.2) → ev' x = ev x) → (ps.toList.map fun p => (p.1, ev' p.2)) = ps.toList.map fun p => (p.1, ev p.2) := fun ps hp =>
    List.map_congr_left fun p hm => by rw [hp p.2 (List.mem_map.2 ⟨p, hm, rfl⟩)]
  have many : ∀ l : List Operand, (∀ x, x ∈ l → ev' x = ev x) → l.map ev' = l.map ev := fun l hl => List.map_congr_left hl
  have one : ∀ l : Option Operand, (∀ x, x ∈ l.toList → ev' x = ev x) → l.map ev' = l.map ev := fun l hl => by
    cases l with
    | none => rfl
    | some x => simp [hl x (by simp)]
  obtain ⟨dst, op, type, pos, after, guard⟩ := o
  cases op <;> simp only [opsOf] at h <;> simp only [opA]
  case move x => rw [h x (by simp)]
  case assign x => rw [h x (by simp)]
  case pick c a b => rw [h c (by simp), h a (by simp), h b (by simp)]
  case box t x => rw [h x (by simp)]
  case build t ps => rw [pairs ps h]
  case buildSlice t n ps => rw [pairs ps h]
  case load t x => rw [h x (by simp)]
  case store t p x => rw [h p (by simp), h x (by simp)]
  case nilCheck x => rw [h x (by simp)]
  case binOp op t x y u => rw [h x (by simp), h y (by simp)]
  case unOp op t x => rw [h x (by simp)]
  case makeFunc f a cs => cases f <;> simp only <;> first | rfl | rw [many cs.toList h]
  case makeSlice t l c => rw [h l (by simp), h c (by simp)]
  case slice t x lo hi mx => rw [h x (by simp), one lo fun x hx => h x (by simp at hx ⊢; simp [hx]), one hi fun x hx => h x (by simp at hx ⊢; simp [hx]), one mx fun x hx => h x (by simp at hx ⊢; simp [hx])]
  case fieldAddr t x f => rw [h x (by simp)]
  case field t x f => rw [h x (by simp)]
  case indexAddr t x i => rw [h x (by simp), h i (by simp)]
  case index t x i => rw [h x (by simp), h i (by simp)]
  case extract x i => rw [h x (by simp)]
  case convert s t x => rw [h x (by simp)]
  case call cl =>
    rw [many cl.args.toList fun x hx => h x (List.mem_append_right _ hx)]
    cases hc : cl.callee with
    | value f => simp only; rw [h f (List.mem_append_left _ (by rw [hc]; simp))]
    | builtin b => rfl
    | invoke r m => rfl

theorem opA_cg {ev : Operand → AV} (o : Oper) (h : run T (opA P M ev ob o) = some d) (hg : ∀ k, k ∈ d.rd ∨ k ∈ d.ow.map (·.1) → ob' k = ob k) : run T (opA P M ev ob' o) = some d := by
  have hr : ∀ k, k ∈ d.rd → ob' k = ob k := fun k hk => hg k (.inl hk)
  obtain ⟨dst, op, type, pos, after, guard⟩ := o
  cases op <;> simp only [opA] at h ⊢
  case alloc t =>
    obtain ⟨cs, hc, h⟩ := run_opt h
    obtain ⟨_, h1⟩ := run_fresh h
    have := run_ret h1; subst this
    exact run_opt' hc (fresh_cg h (hg _ (.inr (by simp))))
  case box t x =>
    obtain ⟨cs, hc, h⟩ := run_opt h
    obtain ⟨_, h1⟩ := run_fresh h
    have := run_ret h1; subst this
    exact run_opt' hc (fresh_cg h (hg _ (.inr (by simp))))
  case buildSlice t n ps =>
    split at h
    · obtain ⟨u, hu, h⟩ := run_opt h
      obtain ⟨sz, hs, h⟩ := run_opt h
      obtain ⟨z, hz, h⟩ := run_opt h
      refine run_opt' hu (run_opt' hs (run_opt' hz ?_))
      split at h
      · obtain ⟨cs, hc, h⟩ := run_opt h
        obtain ⟨w, hw, h⟩ := run_opt h
        obtain ⟨xs, hx, h⟩ := run_opt h
        obtain ⟨_, h1⟩ := run_fresh h
        have := run_ret h1; subst this
        exact run_opt' hc (run_opt' (frz_cg hw fun k hk => hg k (.inl hk)) (run_opt' hx (fresh_cg h (hg _ (.inr (by simp))))))
      · exact (run_fail h).elim
    · exact (run_fail h).elim
  case load t x =>
    obtain ⟨n, hn, h⟩ := run_opt h
    exact run_opt' hn (load_cg h hr)
  case store t p x =>
    obtain ⟨n, hn, h⟩ := run_opt h
    exact run_opt' hn (store_cg h hr)
  case makeSlice t l c =>
    obtain ⟨u, hu, h⟩ := run_opt h
    refine run_opt' hu ?_
    split at h
    · obtain ⟨z, hz, h⟩ := run_opt h
      obtain ⟨y, hy, h⟩ := run_opt h
      obtain ⟨b, hb, h⟩ := run_opt h
      refine run_opt' hz (run_opt' hy (run_opt' hb ?_))
      split at h
      · obtain ⟨g1, h⟩ := run_grd h
        obtain ⟨g2, h⟩ := run_grd h
        obtain ⟨g3, h⟩ := run_grd h
        obtain ⟨_, h1⟩ := run_fresh h
        have := run_ret h1; subst this
        exact run_grd' g1 (run_grd' g2 (run_grd' g3 (fresh_cg h (hg _ (.inr (by simp))))))
      · exact (run_fail h).elim
    · exact (run_fail h).elim
  case slice t x lo hi mx => exact slice_cg h hr
  case convert s t x => exact conv_cg h hr
  case indexAddr t x i =>
    split at h
    · obtain ⟨sz, hs, h⟩ := run_opt h
      refine run_opt' hs ?_
      split at h
      · exact h
      · obtain ⟨r, hq, h⟩ := run_opt h
        have hrd : d.rd = r.rd := by
          split at h
          · have := run_ret (run_grd (run_grd h).2).2; subst this; rfl
          · exact (run_fail h).elim
        exact run_opt' (rowOf_cg hq fun k hk => hr k (by rw [hrd]; exact hk)) h
      · obtain ⟨r, hq, h⟩ := run_opt h
        have hrd : d.rd = r.rd := by
          split at h
          · have := run_ret (run_grd (run_grd h).2).2; subst this; rfl
          · exact (run_fail h).elim
        exact run_opt' (rowOf_cg hq fun k hk => hr k (by rw [hrd]; exact hk)) h
      · exact (run_fail h).elim
    · exact (run_fail h).elim
  case makeFunc f a cs => cases f <;> exact h
  case call cl =>
    split at h
    · exact builtin_cg h hg
    · split at h
      · exact call_cg h hg
      · exact (run_fail h).elim
    · exact (run_fail h).elim
  all_goals exact h

theorem keysOf_eq : ∀ l : List (Nat × AO), keysOf l = l.map (·.1)
  | [] => rfl
  | p :: r => by simp [keysOf, keysOf_eq r]
theorem tmpsOf_mem : ∀ (l : List Operand) (t : Nat), .tmp t ∈ l → t ∈ tmpsOf l
  | [], t, h => by cases h
  | x :: r, t, h => by
    cases x with
    | tmp u =>
      simp only [tmpsOf]
      rcases List.mem_cons.1 h with h | h
      · cases h; exact List.mem_cons_self
      · exact List.mem_cons_of_mem _ (tmpsOf_mem r t h)
    | _ =>
      simp only [tmpsOf]
      rcases List.mem_cons.1 h with h | h
      · cases h
      · exact tmpsOf_mem r t h
theorem ev_eq {st st' : St} {x : Operand} (h : ∀ t, x = .tmp t → st'.get t = st.get t) : st'.ev x = st.ev x := by
  cases x with
  | tmp t => exact h t rfl
  | _ => rfl
theorem reads_op {ops : Array Oper} {o : Oper} {t : Nat} (h : t ∈ tmpsOf (opsOf o.op)) : t ∈ readsOf ops o := by
  unfold readsOf
  split
  · exact h
  · split
    · exact List.mem_cons_of_mem _ h
    · exact h
theorem run_bind' {α β : Type} {T : Table} {f : α → Tree β} {a : α} {b : β} : ∀ {t : Tree α}, run T t = some a → run T (f a) = some b → run T (t.bind f) = some b
  | .ret x, h, k => by have := run_ret h; subst this; exact k
  | .fail, h, _ => (run_fail h).elim
  | .br x a c, h, k => by
    cases x
    · exact run_bind' (t := c) h k
    · exact run_bind' (t := a) h k
  | .gt t xs j f', h, k => by
    simp only [Tree.bind, run] at h ⊢
    split at h
    · exact run_bind' h k
    · cases h
  | .call g as os f', h, k => by
    simp only [Tree.bind, run] at h ⊢
    split at h
    · split at h
      · exact run_bind' h k
      · cases h
    · cases h

section
variable {ops : Array Oper} {o : Oper} {st st' st1 : St}
theorem stepD_stepA (h : run T (stepD P M ops st o) = some (st1, d)) : run T (stepA P M ops st o) = some st1 := by
  have op : ∀ (s : St), run T ((opA P M s.ev (look s.ob) o).bind fun d => .ret (s.app o.dst d, d)) = some (st1, d) → run T ((opA P M s.ev (look s.ob) o).bind fun d => .ret (s.app o.dst d)) = some st1 := fun s h => by
    obtain ⟨d', h1, h2⟩ := run_bind T _ _ _ h
    have := run_ret h2
    simp only [Prod.mk.injEq] at this
    obtain ⟨rfl, rfl⟩ := this
    exact run_bind' h1 rfl
  have nop : ∀ (s : St), run T (.ret (s.app o.dst ⟨.und, [], []⟩, ⟨.und, [], []⟩) : Tree (St × Delta)) = some (st1, d) → run T (.ret (s.app o.dst ⟨.und, [], []⟩) : Tree St) = some st1 := fun s h => by
    have := run_ret h
    simp only [Prod.mk.injEq] at this
    obtain ⟨rfl, rfl⟩ := this
    rfl
  unfold stepD at h
  unfold stepA
  split at h
  · exact op st h
  · rename_i j want hg
    split at h
    · exact (run_fail h).elim
    · rename_i g hgd
      split at h
      · exact nop st h
      · rename_i x hx
        cases want with
        | true =>
          cases x with
          | true => exact op _ h
          | false => exact nop { st with tm := upd st.tm g (.b false) } h
        | false =>
          cases x with
          | true => exact nop { st with tm := upd st.tm g (.b true) } h
          | false => exact op _ h
      · exact (run_fail h).elim
theorem app_get (s : St) (d : Delta) (dst : Option Nat) (t : Nat) : (s.app dst d).get t = if dst = some t then d.v else s.get t := by
  cases dst with
  | none => simp [St.app, St.get]
  | some k =>
    have : (s.app (some k) d).get t = if t = k then d.v else s.get t := get_upd s.tm _ k d.v t
    rw [this]
    by_cases h : t = k
    · subst h; simp
    · rw [if_neg h, if_neg (by simpa using fun e => h e.symm)]
theorem app_ob (s : St) (d : Delta) (dst : Option Nat) : look (s.app dst d).ob = fup (look s.ob) d.ow := look_upds d.ow s.ob
theorem same_get {s : St} {g : Nat} {x : AV} (h : s.get g = x) (t : Nat) : St.get { s with tm := upd s.tm g x } t = s.get t := by
  have : St.get { s with tm := upd s.tm g x } t = if t = g then x else s.get t := get_upd s.tm _ g x t
  rw [this]
  by_cases e : t = g
  · rw [if_pos e, e, h]
  · rw [if_neg e]
/-- what a step changes, and what it looks at -/
theorem stepD_ok (h : run T (stepD P M ops st o) = some (st1, d)) : (∀ t, st1.get t = if o.dst = some t then d.v else st.get t) ∧ look st1.ob = fup (look st.ob) d.ow ∧
    ∀ st' : St, (∀ t, t ∈ readsOf ops o → st'.get t = st.get t) → (∀ k, k ∈ d.rd ∨ k ∈ d.ow.map (·.1) → look st'.ob k = look st.ob k) → ∃ st1', run T (stepD P M ops st' o) = some (st1', d) := by
  have op : ∀ (s : St), (∀ t, s.get t = st.get t) → look s.ob = look st.ob → run T ((opA P M s.ev (look s.ob) o).bind fun d => .ret (s.app o.dst d, d)) = some (st1, d) →
      (∀ t, st1.get t = if o.dst = some t then d.v else st.get t) ∧ look st1.ob = fup (look st.ob) d.ow ∧ ∀ st' : St, (∀ t, t ∈ readsOf ops o → st'.get t = st.get t) → (∀ k, k ∈ d.rd ∨ k ∈ d.ow.map (·.1) → look st'.ob k = look st.ob k) → ∃ st1', run T ((opA P M st'.ev (look st'.ob) o).bind fun d => .ret (st'.app o.dst d, d)) = some (st1', d) := fun s e1 e2 h => by
    obtain ⟨d', h1, h2⟩ := run_bind T _ _ _ h
    have := run_ret h2
    simp only [Prod.mk.injEq] at this
    obtain ⟨rfl, rfl⟩ := this
    refine ⟨fun t => by rw [app_get, e1], by rw [app_ob, e2], fun st' g1 g2 => ⟨st'.app o.dst d', run_bind' (a := d') ?_ rfl⟩⟩
    rw [opA_ev (ev := s.ev) o fun x hx => ev_eq fun t e => by subst e; rw [g1 t (reads_op (tmpsOf_mem _ t hx)), e1]]
    exact opA_cg o h1 fun k hk => by rw [g2 k hk, e2]
  have nop : ∀ (s : St), (∀ t, s.get t = st.get t) → look s.ob = look st.ob → run T (.ret (s.app o.dst ⟨.und, [], []⟩, ⟨.und, [], []⟩) : Tree (St × Delta)) = some (st1, d) →
      (∀ t, st1.get t = if o.dst = some t then d.v else st.get t) ∧ look st1.ob = fup (look st.ob) d.ow ∧ d = ⟨.und, [], []⟩ := fun s e1 e2 h => by
    have := run_ret h
    simp only [Prod.mk.injEq] at this
    obtain ⟨rfl, rfl⟩ := this
    exact ⟨fun t => by rw [app_get, e1], by rw [app_ob, e2], rfl⟩
  unfold stepD at h
  split at h
  · rename_i hg
    obtain ⟨k1, k2, k3⟩ := op st (fun _ => rfl) rfl h
    refine ⟨k1, k2, fun st' g1 g2 => ?_⟩
    obtain ⟨s, hs⟩ := k3 st' g1 g2
    exact ⟨s, by unfold stepD; rw [hg]; exact hs⟩
  · rename_i j want hg
    split at h
    · exact (run_fail h).elim
    · rename_i g hgd
      have hgr : g ∈ readsOf ops o := by unfold readsOf; rw [hg]; simp only; rw [hgd]; exact List.mem_cons_self
      split at h
      · rename_i hu
        obtain ⟨k1, k2, rfl⟩ := nop st (fun _ => rfl) rfl h
        refine ⟨k1, k2, fun st' g1 g2 => ⟨st'.app o.dst ⟨.und, [], []⟩, ?_⟩⟩
        unfold stepD
        rw [hg]
        simp only
        rw [hgd]
        simp only
        rw [g1 g hgr, hu]
        rfl
      · rename_i x hx
        have yes : x = want → run T ((opA P M (St.ev { st with tm := upd st.tm g (.b want) }) (look st.ob) o).bind fun d => .ret (St.app { st with tm := upd st.tm g (.b want) } o.dst d, d)) = some (st1, d) → (∀ t, st1.get t = if o.dst = some t then d.v else st.get t) ∧ look st1.ob = fup (look st.ob) d.ow ∧
            ∀ st' : St, (∀ t, t ∈ readsOf ops o → st'.get t = st.get t) → (∀ k, k ∈ d.rd ∨ k ∈ d.ow.map (·.1) → look st'.ob k = look st.ob k) → ∃ st1', run T (stepD P M ops st' o) = some (st1', d) := fun e h => by
          subst e
          obtain ⟨k1, k2, k3⟩ := op { st with tm := upd st.tm g (.b x) } (same_get hx) rfl h
          refine ⟨k1, k2, fun st' g1 g2 => ?_⟩
          have hx' : st'.get g = .b x := by rw [g1 g hgr, hx]
          obtain ⟨s, hs⟩ := k3 { st' with tm := upd st'.tm g (.b x) } (fun t ht => by rw [same_get hx']; exact g1 t ht) g2
          refine ⟨s, ?_⟩
          unfold stepD
          rw [hg]
          simp only
          rw [hgd]
          simp only
          rw [hx']
          simp only
          cases x
          · exact hs
          · exact hs
        have no : x = !want → run T (.ret (St.app { st with tm := upd st.tm g (.b (!want)) } o.dst ⟨.und, [], []⟩, ⟨.und, [], []⟩) : Tree (St × Delta)) = some (st1, d) → (∀ t, st1.get t = if o.dst = some t then d.v else st.get t) ∧ look st1.ob = fup (look st.ob) d.ow ∧
            ∀ st' : St, (∀ t, t ∈ readsOf ops o → st'.get t = st.get t) → (∀ k, k ∈ d.rd ∨ k ∈ d.ow.map (·.1) → look st'.ob k = look st.ob k) → ∃ st1', run T (stepD P M ops st' o) = some (st1', d) := fun e h => by
          obtain ⟨k1, k2, rfl⟩ := nop { st with tm := upd st.tm g (.b (!want)) } (same_get (by rw [hx, e])) rfl h
          refine ⟨k1, k2, fun st' g1 g2 => ?_⟩
          have hx' : st'.get g = .b x := by rw [g1 g hgr, hx]
          refine ⟨St.app { st' with tm := upd st'.tm g (.b (!want)) } o.dst ⟨.und, [], []⟩, ?_⟩
          unfold stepD
          rw [hg]
          simp only
          rw [hgd]
          simp only
          rw [hx']
          subst e
          cases want <;> rfl
        cases want with
        | true =>
          cases x with
          | true => exact yes rfl h
          | false => exact no rfl h
        | false =>
          cases x with
          | true => exact no rfl h
          | false => exact yes rfl h
      · exact (run_fail h).elim
end
end
end Go.Proofs.Ytohfaccniialmaa.Am
end
section
/- A region whose order is drawn answers as in its text's order. -/
namespace Go.Proofs.Ytohfaccniialmaa.Am
open Go
set_option linter.constructorNameAsVariable false
set_option linter.unusedVariables false
set_option linter.unusedSimpArgs false

/-! ### the last writer -/
def lastW {α : Type} (u : Nat → Option α) (S : Nat → Bool) (init : α) : Nat → α
  | 0 => init
  | i + 1 => match S i, u i with | true, some v => v | _, _ => lastW u S init i
theorem lastW_same {α : Type} {u : Nat → Option α} {S S' : Nat → Bool} {init : α} : ∀ n, (∀ i, i < n → u i ≠ none → S i = S' i) → lastW u S init n = lastW u S' init n
  | 0, _ => rfl
  | n + 1, h => by
    simp only [lastW]
    rw [lastW_same n fun i hi => h i (by omega)]
    cases hu : u n with
    | none => cases S n <;> cases S' n <;> rfl
    | some v => rw [h n (by omega) (by rw [hu]; simp)]
theorem lastW_upto {α : Type} {u : Nat → Option α} {init : α} (i : Nat) : ∀ n, i ≤ n → lastW u (fun j => decide (j < i)) init n = lastW u (fun _ => true) init i
  | 0, h => by
    have : i = 0 := by omega
    subst this
    rfl
  | n + 1, h => by
    by_cases e : i = n + 1
    · subst e
      exact lastW_same _ fun j hj _ => by simpa using hj
    · simp only [lastW]
      rw [lastW_upto i n (by omega), decide_eq_false (show ¬ n < i by omega)]
theorem lastW_hit {α : Type} {u : Nat → Option α} {S : Nat → Bool} {init : α} {i : Nat} {v : α} (hu : u i = some v) (hS : S i = true) : ∀ n, i < n → (∀ j, i < j → j < n → u j ≠ none → S j = false) → lastW u S init n = v
  | 0, h, _ => by omega
  | n + 1, h, hj => by
    simp only [lastW]
    by_cases e : i = n
    · subst e
      rw [hS, hu]
    · have ih := lastW_hit (init := init) hu hS n (by omega) fun j h1 h2 => hj j h1 (by omega)
      cases hn : u n with
      | none => rw [ih]; cases S n <;> rfl
      | some x =>
        rw [hj n (by omega) (by omega) (by rw [hn]; simp)]
        exact ih

section
variable {P : Program} {B : Base} {c : Cx} {w : World} {N : Nat} {st st' : St} {a : Act} {T : Table} {M : FuncId → List Bool} {R : Type} {ops : Array Oper}

/-- what a set of operations hangs on is in it -/
def Closed (ops : Array Oper) (S : Nat → Bool) : Prop := ∀ i o, S i = true → ops[i]? = some o → ∀ e, e ∈ o.after → Region.binds .any e = true → S e.on = true
def Deps (o : Oper) (S : Nat → Bool) : Prop := ∀ e, e ∈ o.after → Region.binds .any e = true → S e.on = true

theorem testBit_or3 (k m n j : Nat) : Nat.testBit (Nat.lor (2 ^ k) (Nat.lor m n)) j = (decide (k = j) || (Nat.testBit m j || Nat.testBit n j)) := by
  show Nat.testBit (2 ^ k ||| (m ||| n)) j = _
  rw [Nat.testBit_or, Nat.testBit_or, Nat.testBit_two_pow]
theorem maskOf_ok (ms : List Nat) : ∀ (es : List Edge) (m : Nat), maskOf ms es = some m → (∀ e, e ∈ es → Region.binds .any e = true → e.on < ms.length) ∧ ∀ j, Nat.testBit m j = true → ∃ e, e ∈ es ∧ Region.binds .any e = true ∧ (e.on = j ∨ ∃ k, ms[e.on]? = some k ∧ Nat.testBit k j = true)
  | [], m, h => by
    simp only [maskOf, Option.some.injEq] at h
    subst h
    exact ⟨fun e he => (by cases he), fun j hj => (by simp at hj)⟩
  | e :: r, m, h => by
    simp only [maskOf] at h
    split at h
    · rename_i hb
      split at h
      · rename_i k n hk hn
        simp only [Option.some.injEq] at h
        subst h
        obtain ⟨h1, h2⟩ := maskOf_ok ms r n hn
        refine ⟨fun e' he' hb' => ?_, fun j hj => ?_⟩
        · rcases List.mem_cons.1 he' with he' | he'
          · subst he'; exact (List.getElem?_eq_some_iff.1 hk).1
          · exact h1 e' he' hb'
        · rw [testBit_or3] at hj
          simp only [Bool.or_eq_true, decide_eq_true_eq] at hj
          rcases hj with hj | hj | hj
          · exact ⟨e, List.mem_cons_self, hb, .inl hj⟩
          · exact ⟨e, List.mem_cons_self, hb, .inr ⟨k, hk, hj⟩⟩
          · obtain ⟨e', q1, q2⟩ := h2 j hj
            exact ⟨e', List.mem_cons_of_mem _ q1, q2⟩
      · cases h
    · rename_i hb
      obtain ⟨h1, h2⟩ := maskOf_ok ms r m h
      refine ⟨fun e' he' hb' => ?_, fun j hj => ?_⟩
      · rcases List.mem_cons.1 he' with he' | he'
        · subst he'; rw [hb] at hb'; cases hb'
        · exact h1 e' he' hb'
      · obtain ⟨e', q1, q2⟩ := h2 j hj
        exact ⟨e', List.mem_cons_of_mem _ q1, q2⟩
theorem okWith_get {m : Nat} {o : Oper} {d : Delta} : ∀ (l : List (Oper × Delta)) (j : Nat), okWith ops m o d j l = true → ∀ (i : Nat) (p : Oper × Delta), l[i]? = some p → clash ops p.1 p.2 o d = true → Nat.testBit m (j + i) = true
  | [], j, _, i, p, h, _ => by simp at h
  | q :: r, j, hk, i, p, h, hc => by
    simp only [okWith] at hk
    cases i with
    | zero =>
      simp at h
      subst h
      rw [hc] at hk
      cases ht : Nat.testBit m j with
      | true => simp
      | false => rw [ht] at hk; cases hk
    | succ i =>
      have : okWith ops m o d (j + 1) r = true := by
        split at hk
        · cases hk
        · exact hk
      have := okWith_get r (j + 1) this i p (by simpa using h) hc
      rw [show j + (i + 1) = j + 1 + i by omega]
      exact this
def Good (ops : Array Oper) (ms : List Nat) : Prop := ∀ (i m : Nat) (o : Oper), ms[i]? = some m → ops[i]? = some o → ∀ j, Nat.testBit m j = true → ∀ S, Closed ops S → Deps o S → S j = true
/-- the order's check -/
theorem ordOk_ok : ∀ (os : List Oper) (ds : List Delta) (done : List (Oper × Delta)) (ms : List Nat), ordOk ops done ms os ds = true → ms.length = done.length → (∀ (i : Nat), os[i]? = ops[done.length + i]?) → (∀ (i : Nat) (p : Oper × Delta), done[i]? = some p → ops[i]? = some p.1) → Good ops ms →
    ds.length = os.length ∧ ∀ (i : Nat) (o : Oper) (d : Delta), os[i]? = some o → ds[i]? = some d → (∀ e, e ∈ o.after → Region.binds .any e = true → e.on < done.length + i) ∧
      ∀ (j : Nat) (p : Oper × Delta), ((done[j]? = some p) ∨ ∃ j', j = done.length + j' ∧ j' < i ∧ os[j']? = some p.1 ∧ ds[j']? = some p.2) → clash ops p.1 p.2 o d = true → ∀ S, Closed ops S → Deps o S → S j = true
  | [], [], done, ms, _, _, _, _, _ => ⟨rfl, fun i o d h => by simp at h⟩
  | [], _ :: _, done, ms, h, _, _, _, _ => by simp [ordOk] at h
  | _ :: _, [], done, ms, h, _, _, _, _ => by simp [ordOk] at h
  | o :: r, d :: ds, done, ms, h, hl, hos, hdone, hgood => by
    simp only [ordOk] at h
    split at h
    case h_2 => cases h
    rename_i m hm
    split at h
    case h_2 => cases h
    rename_i hok
    obtain ⟨h1, h2⟩ := maskOf_ok ms _ m hm
    have h0 : ops[done.length]? = some o := by simpa using (hos 0).symm
    have bit : ∀ j, Nat.testBit m j = true → ∀ S, Closed ops S → Deps o S → S j = true := fun j hj S hS hD => by
      obtain ⟨e, e1, e2, e3⟩ := h2 j hj
      have e1 : e ∈ o.after := by simpa using e1
      rcases e3 with e3 | ⟨k, e3, e4⟩
      · rw [← e3]; exact hD e e1 e2
      · have hlt := h1 e (by simpa using e1) e2
        have hSe := hD e e1 e2
        have hdn : e.on < done.length := by omega
        have hoe : ops[e.on]? = some done[e.on].1 := hdone e.on _ (List.getElem?_eq_getElem hdn)
        exact hgood e.on k _ e3 hoe j e4 S hS fun e' h' b' => hS e.on _ hSe hoe e' h' b'
    have ih := ordOk_ok r ds (done ++ [(o, d)]) (ms ++ [m]) h (by simp [hl]) (fun i => by
      have := hos (i + 1)
      simp only [List.getElem?_cons_succ] at this
      rw [this]
      congr 1
      simp
      omega) (fun i p hp => by
      rw [List.getElem?_append] at hp
      split at hp
      · exact hdone i p hp
      · rename_i hlt
        have hi : i = done.length := by
          have := (List.getElem?_eq_some_iff.1 hp).1
          simp at this
          omega
        subst hi
        simp at hp
        subst hp
        exact h0) (fun i k o' hk ho' j hj S hS hD => by
      rw [List.getElem?_append] at hk
      split at hk
      · exact hgood i k o' hk ho' j hj S hS hD
      · rename_i hlt
        have hi : i = ms.length := by
          have := (List.getElem?_eq_some_iff.1 hk).1
          simp at this
          omega
        subst hi
        simp at hk
        subst hk
        rw [hl, h0] at ho'
        cases ho'
        exact bit j hj S hS hD)
    refine ⟨by simp [ih.1], fun i o' d' ho' hd' => ?_⟩
    cases i with
    | zero =>
      simp at ho' hd'
      subst ho' hd'
      refine ⟨fun e he hb => by have := h1 e (by simpa using he) hb; omega, fun j p hp hc S hS hD => ?_⟩
      rcases hp with hp | ⟨j', _, h', _⟩
      · have := okWith_get done 0 hok j p hp hc
        rw [Nat.zero_add] at this
        exact bit j this S hS hD
      · omega
    | succ i =>
      obtain ⟨k1, k2⟩ := ih.2 i o' d' (by simpa using ho') (by simpa using hd')
      refine ⟨fun e he hb => by have := k1 e he hb; simp at this; omega, fun j p hp hc S hS hD => k2 j p ?_ hc S hS hD⟩
      rcases hp with hp | ⟨j', e1, e2, e3, e4⟩
      · left
        rw [List.getElem?_append_left (List.getElem?_eq_some_iff.1 hp).1]
        exact hp
      · cases j' with
        | zero =>
          left
          simp at e1 e3 e4
          subst e1
          rw [List.getElem?_append_right (Nat.le_refl _)]
          simp
          exact Prod.ext e3 e4
        | succ j' => exact .inr ⟨j', by simp; omega, by omega, by simpa using e3, by simpa using e4⟩

/-! ### the text's order -/
theorem regL_trace : ∀ (l : List Oper) (st stn : St) (ds : List Delta), run T (regL P M ops l st) = some (stn, ds) → ds.length = l.length ∧ ∃ sts : Nat → St, sts 0 = st ∧ sts l.length = stn ∧ ∀ (i : Nat) (o : Oper) (d : Delta), l[i]? = some o → ds[i]? = some d → run T (stepD P M ops (sts i) o) = some (sts (i + 1), d)
  | [], st, stn, ds, h => by
    have := run_ret h
    simp only [Prod.mk.injEq] at this
    obtain ⟨rfl, rfl⟩ := this
    exact ⟨rfl, fun _ => st, rfl, rfl, fun i o d h => by simp at h⟩
  | o :: r, st, stn, ds, h => by
    simp only [regL] at h
    obtain ⟨⟨st1, d⟩, h1, h⟩ := run_bind T _ _ _ h
    obtain ⟨⟨st2, ds'⟩, h2, h⟩ := run_bind T _ _ _ h
    have := run_ret h
    simp only [Prod.mk.injEq] at this
    obtain ⟨rfl, rfl⟩ := this
    obtain ⟨k0, sts, k1, k2, k3⟩ := regL_trace r st1 st2 ds' h2
    refine ⟨by simp [k0], fun i => match i with | 0 => st | i + 1 => sts i, rfl, k2, fun i o' d' ho hd => ?_⟩
    cases i with
    | zero =>
      simp at ho hd
      subst ho hd
      show run T (stepD P M ops st o) = some (sts 0, d)
      rw [k1]
      exact h1
    | succ i => exact k3 i o' d' (by simpa using ho) (by simpa using hd)

/-- what an operation writes, by place -/
def uT (ops : Array Oper) (ds : List Delta) (t : Nat) (i : Nat) : Option AV := match ops[i]?, ds[i]? with
  | some o, some d => if o.dst = some t then some d.v else none
  | _, _ => none
def uO (ds : List Delta) (k : Nat) (i : Nat) : Option (Option AO) := match ds[i]? with
  | some d => if k ∈ d.ow.map (·.1) then some (fup (fun _ => none) d.ow k) else none
  | none => none
theorem uT_some {ds : List Delta} {t i : Nat} (h : uT ops ds t i ≠ none) : ∃ o d, ops[i]? = some o ∧ ds[i]? = some d ∧ o.dst = some t ∧ uT ops ds t i = some d.v := by
  unfold uT at h ⊢
  split at h
  · rename_i o d ho hd
    split at h
    · rename_i e; exact ⟨o, d, ho, hd, e, if_pos e⟩
    · exact absurd rfl h
  · exact absurd rfl h
theorem uO_some {ds : List Delta} {k i : Nat} (h : uO ds k i ≠ none) : ∃ d, ds[i]? = some d ∧ k ∈ d.ow.map (·.1) ∧ uO ds k i = some (fup (fun _ => none) d.ow k) := by
  unfold uO at h ⊢
  split at h
  · rename_i d hd
    split at h
    · rename_i e; exact ⟨d, hd, e, if_pos e⟩
    · exact absurd rfl h
  · exact absurd rfl h
def Agree (ops : Array Oper) (ds : List Delta) (S : Nat → Bool) (st0 st : St) : Prop :=
  (∀ t, st.get t = lastW (uT ops ds t) S (st0.get t) ops.size) ∧ ∀ k, look st.ob k = lastW (uO ds k) S (look st0.ob k) ops.size

theorem trace_agree {ds : List Delta} {st0 : St} {sts : Nat → St} (h0 : sts 0 = st0) (hs : ∀ (i : Nat) (o : Oper) (d : Delta), ops[i]? = some o → ds[i]? = some d → run T (stepD P M ops (sts i) o) = some (sts (i + 1), d)) (hlen : ds.length = ops.size) : ∀ i, i ≤ ops.size →
    (∀ t, (sts i).get t = lastW (uT ops ds t) (fun _ => true) (st0.get t) i) ∧ ∀ k, look (sts i).ob k = lastW (uO ds k) (fun _ => true) (look st0.ob k) i
  | 0, _ => by rw [h0]; exact ⟨fun t => rfl, fun k => rfl⟩
  | i + 1, hi => by
    obtain ⟨k1, k2⟩ := trace_agree h0 hs hlen i (by omega)
    have ho : ops[i]? = some ops[i] := Array.getElem?_eq_getElem (by omega)
    have hd : ds[i]? = some ds[i] := List.getElem?_eq_getElem (by omega)
    obtain ⟨q1, q2, _⟩ := stepD_ok (hs i _ _ ho hd)
    refine ⟨fun t => ?_, fun k => ?_⟩
    · rw [q1 t, k1 t]
      simp only [lastW, uT, ho, hd]
      by_cases e : ops[i].dst = some t
      · rw [if_pos e, if_pos e]
      · rw [if_neg e, if_neg e]
    · rw [q2]
      simp only [lastW, uO, hd]
      by_cases e : k ∈ ds[i].ow.map (·.1)
      · rw [if_pos e]
        exact fup_in _ _ _ k e
      · rw [if_neg e]
        simp only
        rw [fup_not _ _ k e, k2 k]

theorem RelS.same (hr : RelS B N c st a w) (h1 : ∀ t, st'.get t = st.get t) (h2 : look st'.ob = look st.ob) : RelS B N c st' a w :=
  ⟨by rw [h2]; exact hr.mem, fun t => by rw [h1]; exact hr.tms t, hr.sz, hr.dfs, hr.pas, hr.Ib⟩

def unl (S : Nat → Bool) : Nat → Nat
  | 0 => 0
  | n + 1 => unl S n + (if S n then 0 else 1)
theorem unl_set {S S' : Nat → Bool} {i : Nat} (hi : S i = false) (hi' : S' i = true) (ho : ∀ j, j ≠ i → S' j = S j) : ∀ n, unl S' n + (if i < n then 1 else 0) = unl S n
  | 0 => by simp [unl]
  | n + 1 => by
    have ih := unl_set hi hi' ho n
    simp only [unl]
    by_cases e : n = i
    · subst e
      simp only [hi, hi', Nat.lt_irrefl, if_false] at ih ⊢
      simp
      omega
    · rw [ho n e]
      have : (i < n + 1) ↔ (i < n) := by omega
      simp only [this]
      omega
theorem unl_zero {S : Nat → Bool} : ∀ n, unl S n = 0 → ∀ i, i < n → S i = true
  | 0, _, i, h => by omega
  | n + 1, h, i, hi => by
    simp only [unl] at h
    by_cases e : i = n
    · subst e
      cases hS : S i with
      | true => rfl
      | false => rw [hS] at h; simp at h
    · exact unl_zero n (by omega) i (by omega)
theorem unl_least {S : Nat → Bool} : ∀ n, unl S n ≠ 0 → ∃ i, i < n ∧ S i = false ∧ ∀ j, j < i → S j = true
  | 0, h => by simp [unl] at h
  | n + 1, h => by
    by_cases e : unl S n = 0
    · refine ⟨n, by omega, ?_, unl_zero n e⟩
      cases hS : S n with
      | false => rfl
      | true => simp only [unl, hS, e] at h; simp at h
    · obtain ⟨i, h1, h2⟩ := unl_least n e
      exact ⟨i, by omega, h2⟩

/-- **a region in an order that is drawn** -/
theorem regD_ok (hT : TS P T) (hd : dstsOk N ops.toList = true) {Q : Exit → Act → World → Prop} {stn : St} {ds : List Delta} (hQ : ∀ a' w' c', RelS B N c' stn a' w' → Q .normal a' w') (hr : RelS B N c st a w) (h : run T (regL P M ops ops.toList st) = some (stn, ds)) (hok : ordOk ops [] [] ops.toList ds = true) :
    wpAny P .any ops Q ops.size (Array.replicate ops.size false) a { w with drawn := w.drawn + 1 } := by
  obtain ⟨hlen, sts, hs0, hsn, hs⟩ := regL_trace _ _ _ _ h
  have hlen : ds.length = ops.size := by simpa using hlen
  have hs : ∀ (i : Nat) (o : Oper) (d : Delta), ops[i]? = some o → ds[i]? = some d → run T (stepD P M ops (sts i) o) = some (sts (i + 1), d) := fun i o d ho hd => hs i o d (by simpa using ho) hd
  have hsn : sts ops.size = stn := by simpa using hsn
  have hord := (ordOk_ok ops.toList ds [] [] hok rfl (fun i => by simp) (fun i p h => by simp at h) (fun i m o h => by simp at h)).2
  have edge : ∀ (i : Nat) (o : Oper), ops[i]? = some o → ∀ e, e ∈ o.after → Region.binds .any e = true → e.on < i := fun i o ho e he hb => by
    have hi : i < ops.size := (Array.getElem?_eq_some_iff.1 ho).1
    have := (hord i o ds[i] (by simpa using ho) (List.getElem?_eq_getElem (by omega))).1 e he hb
    simpa using this
  have cl : ∀ (i j : Nat) (oi oj : Oper) (di dj : Delta), j < i → ops[i]? = some oi → ops[j]? = some oj → ds[i]? = some di → ds[j]? = some dj → clash ops oj dj oi di = true → ∀ S, Closed ops S → Deps oi S → S j = true := fun i j oi oj di dj hji hoi hoj hdi hdj hc S hS hD =>
    (hord i oi di (by simpa using hoi) hdi).2 j (oj, dj) (.inr ⟨j, by simp, hji, by simpa using hoj, hdj⟩) hc S hS hD
  -- who writes a place that an operation touches is listed if and only if it comes before
  have order : ∀ (S : Nat → Bool) (i j : Nat) (oi oj : Oper) (di dj : Delta), Closed ops S → Deps oi S → S i = false → ops[i]? = some oi → ops[j]? = some oj → ds[i]? = some di → ds[j]? = some dj → (clash ops oj dj oi di = true) → (clash ops oi di oj dj = true) → S j = decide (j < i) := fun S i j oi oj di dj hS hD hi hoi hoj hdi hdj c1 c2 => by
    rcases Nat.lt_trichotomy j i with hlt | heq | hgt
    · rw [decide_eq_true hlt]
      exact cl i j oi oj di dj hlt hoi hoj hdi hdj c1 S hS hD
    · subst heq
      rw [hi]
      simp
    · rw [decide_eq_false (by omega)]
      cases hj : S j with
      | false => rfl
      | true =>
        have := cl j i oj oi dj di hgt hoj hoi hdj hdi c2 S hS fun e he hb => hS j oj hj hoj e he hb
        rw [hi] at this
        cases this
  have wr : ∀ (t : Nat) (x y : Oper) (dx dy : Delta), x.dst = some t → (t ∈ readsOf ops y ∨ y.dst = some t) → clash ops x dx y dy = true ∧ clash ops y dy x dx = true := fun t x y dx dy hx hy => by
    have : writes x (readsOf ops y) y = true := by
      unfold writes
      rw [hx]
      simp only
      cases hh : has (readsOf ops y) t with
      | true => rfl
      | false =>
        rcases hy with hy | hy
        · exact absurd hy (has_mem _ _ hh)
        · rw [hy]
          simp
    exact ⟨by unfold clash; rw [this]; rfl, by unfold clash; rw [this]; cases writes y (readsOf ops x) x <;> rfl⟩
  have ndisj : ∀ (l m : List Nat) (k : Nat), k ∈ l → k ∈ m → disj l m = false := fun l m k h1 h2 => by
    cases h : disj l m with
    | false => rfl
    | true => exact absurd h2 (disj_mem l m h k h1)
  have wo : ∀ (k : Nat) (x y : Oper) (dx dy : Delta), k ∈ dx.ow.map (·.1) → (k ∈ dy.rd ∨ k ∈ dy.ow.map (·.1)) → clash ops x dx y dy = true ∧ clash ops y dy x dx = true := fun k x y dx dy hx hy => by
    have d1 : disj (keysOf dx.ow) (keysOf dy.ow ++ dy.rd) = false := ndisj _ _ k (by rw [keysOf_eq]; exact hx) (by
      rw [List.mem_append, keysOf_eq]
      exact hy.symm)
    have d2 : disj (keysOf dy.ow) (keysOf dx.ow ++ dx.rd) = false ∨ disj (keysOf dx.ow) dy.rd = false := by
      rcases hy with hy | hy
      · exact .inr (ndisj _ _ k (by rw [keysOf_eq]; exact hx) hy)
      · exact .inl (ndisj _ _ k (by rw [keysOf_eq]; exact hy) (by rw [List.mem_append, keysOf_eq]; exact .inl hx))
    refine ⟨?_, ?_⟩
    · unfold clash
      rw [d1]
      cases writes x (readsOf ops y) y <;> cases writes y (readsOf ops x) x <;> rfl
    · unfold clash
      rcases d2 with d2 | d2
      · rw [d2]
        cases writes x (readsOf ops y) y <;> cases writes y (readsOf ops x) x <;> rfl
      · rw [d2]
        cases writes x (readsOf ops y) y <;> cases writes y (readsOf ops x) x <;> cases disj (keysOf dy.ow) (keysOf dx.ow ++ dx.rd) <;> rfl
  have main : ∀ (fuel : Nat) (listed : Array Bool) (st' : St) (c : Cx) (a : Act) (w : World), listed.size = ops.size → unl (fun i => listed.getD i false) ops.size ≤ fuel → Closed ops (fun i => listed.getD i false) → Agree ops ds (fun i => listed.getD i false) st st' → RelS B N c st' a w → wpAny P .any ops Q fuel listed a w := by
    intro fuel
    have final : ∀ (listed : Array Bool) (st' : St) (c : Cx) (a : Act) (w : World), unl (fun i => listed.getD i false) ops.size = 0 → Agree ops ds (fun i => listed.getD i false) st st' → RelS B N c st' a w → Q .normal a w := fun listed st' c a w hu hA hr => by
      obtain ⟨k1, k2⟩ := trace_agree hs0 hs hlen ops.size (Nat.le_refl _)
      rw [hsn] at k1 k2
      refine hQ a w c (hr.same (fun t => ?_) (funext fun k => ?_))
      · rw [k1 t, hA.1 t]
        exact lastW_same _ fun i hi _ => (unl_zero _ hu i hi).symm
      · rw [k2 k, hA.2 k]
        exact lastW_same _ fun i hi _ => (unl_zero _ hu i hi).symm
    have empty : ∀ (listed : Array Bool), listed.size = ops.size → Region.ready .any ops listed = [] → unl (fun i => listed.getD i false) ops.size = 0 := fun listed hsz he => by
      by_cases hu : unl (fun i => listed.getD i false) ops.size = 0
      · exact hu
      · exfalso
        obtain ⟨i, hi, h1, h2⟩ := unl_least _ hu
        have : i ∈ Region.ready .any ops listed := mem_ready.2 ⟨by
          rw [Array.getD_eq_getD_getElem?] at h1 ⊢
          rw [Array.getElem?_eq_getElem (by omega)] at h1 ⊢
          exact h1, ops[i], Array.getElem?_eq_getElem hi, fun e he hb => h2 _ (edge i _ (Array.getElem?_eq_getElem hi) e he hb)⟩
        rw [he] at this
        cases this
    induction fuel with
    | zero =>
      intro listed st' c a w hsz hu hcl hA hr
      refine ⟨?_, final listed st' c a w (by omega) hA hr⟩
      cases he : Region.ready .any ops listed with
      | nil => rfl
      | cons i l =>
        exfalso
        have hi : i ∈ Region.ready .any ops listed := by rw [he]; exact List.mem_cons_self
        obtain ⟨h1, o, ho, _⟩ := mem_ready.1 hi
        have hlt : i < ops.size := (Array.getElem?_eq_some_iff.1 ho).1
        have := unl_zero _ (by omega : unl (fun i => listed.getD i false) ops.size = 0) i hlt
        rw [Array.getD_eq_getD_getElem?] at h1 this
        rw [Array.getElem?_eq_getElem (by omega)] at h1 this
        rw [show listed[i] = false from h1] at this
        cases this
    | succ fuel ih =>
      intro listed st' c a w hsz hu hcl hA hr
      refine ⟨fun he => final listed st' c a w (empty listed hsz he) hA hr, fun i hi => ?_⟩
      obtain ⟨h1, o, ho, hdep⟩ := mem_ready.1 hi
      have hlt : i < ops.size := (Array.getElem?_eq_some_iff.1 ho).1
      have hSi : listed.getD i false = false := by
        rw [Array.getD_eq_getD_getElem?] at h1 ⊢
        rw [Array.getElem?_eq_getElem (by omega)] at h1 ⊢
        exact h1
      have hdi : ds[i]? = some ds[i] := List.getElem?_eq_getElem (by omega)
      obtain ⟨q1, q2⟩ := trace_agree hs0 hs hlen i (by omega)
      obtain ⟨e1, e2, e3⟩ := stepD_ok (hs i o _ ho hdi)
      have ordT : ∀ (t j : Nat), (t ∈ readsOf ops o ∨ o.dst = some t) → uT ops ds t j ≠ none → listed.getD j false = decide (j < i) := fun t j ht hj => by
        obtain ⟨oj, dj, hoj, hdj, hdst, _⟩ := uT_some hj
        obtain ⟨c1, c2⟩ := wr t oj o dj ds[i] hdst ht
        exact order (fun i => listed.getD i false) i j o oj _ dj hcl hdep hSi ho hoj hdi hdj c1 c2
      have ordO : ∀ (k j : Nat), j < ops.size → (k ∈ ds[i].rd ∨ k ∈ ds[i].ow.map (·.1)) → uO ds k j ≠ none → listed.getD j false = decide (j < i) := fun k j hj' hk hj => by
        obtain ⟨dj, hdj, hkj, _⟩ := uO_some hj
        have hoj : ops[j]? = some ops[j] := Array.getElem?_eq_getElem hj'
        obtain ⟨c1, c2⟩ := wo k ops[j] o dj ds[i] hkj hk
        exact order (fun i => listed.getD i false) i j o _ _ dj hcl hdep hSi ho hoj hdi hdj c1 c2
      obtain ⟨st1, hst1⟩ := e3 st' (fun t ht => by
        rw [hA.1 t, q1 t, ← lastW_upto i ops.size (by omega)]
        exact lastW_same _ fun j hj hu => ordT t j (.inl ht) hu) (fun k hk => by
        rw [hA.2 k, q2 k, ← lastW_upto i ops.size (by omega)]
        exact lastW_same _ fun j hj hu => ordO k j hj hk hu)
      obtain ⟨g1, g2, _⟩ := stepD_ok hst1
      have set_i : (listed.setIfInBounds i true).getD i false = true := by
        rw [Array.getD_eq_getD_getElem?, Array.getElem?_setIfInBounds_self_of_lt (by omega)]
        rfl
      have set_ne : ∀ j, j ≠ i → (listed.setIfInBounds i true).getD j false = listed.getD j false := fun j hj => getD_set_ne false fun e => hj e.symm
      have key := stepA_ok (Q := Q) (K := wpAny P .any ops Q fuel (listed.setIfInBounds i true)) hT hr (stepD_stepA hst1) (dstsOk_get ops.toList hd i o (by simpa using ho)) fun a' w' c' hr' => ih (listed.setIfInBounds i true) st1 c' a' w' (by simpa using hsz) (by
          have := unl_set (S := fun i => listed.getD i false) (S' := fun j => (listed.setIfInBounds i true).getD j false) hSi set_i set_ne ops.size
          rw [if_pos hlt] at this
          omega) (fun j oj hj hoj e he hb => by
          by_cases hji : j = i
          · subst hji
            rw [ho] at hoj
            cases hoj
            exact getD_set_true (hdep e he hb)
          · have hj : (listed.setIfInBounds i true).getD j false = true := hj
            rw [set_ne j hji] at hj
            exact getD_set_true (hcl j oj hj hoj e he hb)) ⟨fun t => by
          rw [g1 t]
          by_cases hdst : o.dst = some t
          · rw [if_pos hdst]
            symm
            refine lastW_hit (i := i) (v := ds[i].v) (by unfold uT; rw [ho, hdi]; simp only; rw [if_pos hdst]) set_i _ hlt fun j h2 h3 h4 => ?_
            show (listed.setIfInBounds i true).getD j false = false
            rw [set_ne j (by omega), ordT t j (.inr hdst) h4]
            simp
            omega
          · rw [if_neg hdst, hA.1 t]
            refine lastW_same _ fun j hj hu => (set_ne j fun e => ?_).symm
            subst e
            obtain ⟨oj, dj, hoj, hdj, hdst', _⟩ := uT_some hu
            rw [ho] at hoj
            cases hoj
            exact hdst hdst', fun k => by
          rw [g2]
          by_cases hk : k ∈ ds[i].ow.map (·.1)
          · symm
            rw [fup_in _ _ (fun _ => none) k hk]
            refine lastW_hit (i := i) (v := fup (fun _ => none) ds[i].ow k) (by unfold uO; rw [hdi]; simp only; rw [if_pos hk]) set_i _ hlt fun j h2 h3 h4 => ?_
            show (listed.setIfInBounds i true).getD j false = false
            rw [set_ne j (by omega), ordO k j h3 (.inr hk) h4]
            simp
            omega
          · rw [fup_not _ _ k hk, hA.2 k]
            refine lastW_same _ fun j hj hu => (set_ne j fun e => ?_).symm
            subst e
            obtain ⟨dj, hdj, hkj, _⟩ := uO_some hu
            rw [hdi] at hdj
            cases hdj
            exact hk hkj⟩ hr'
      unfold wpOp
      simp only [ho]
      split at key
      · rename_i hw
        rw [if_pos hw]
        exact .inl key
      · rename_i hw
        rw [if_neg hw]
        exact key
  obtain ⟨m1, m2⟩ := hr.mem.drew (w.drawn + 1)
  have hz : ∀ i, (Array.replicate ops.size false).getD i false = false := fun i => by
    rw [Array.getD_eq_getD_getElem?, Array.getElem?_replicate]
    split <;> rfl
  have hun : ∀ (S : Nat → Bool) n, unl S n ≤ n := fun S n => by
    induction n with
    | zero => exact Nat.le_refl _
    | succ n ih => simp only [unl]; split <;> omega
  have hfree : ∀ {α : Type} (u : Nat → Option α) (init : α) (n : Nat), lastW u (fun i => (Array.replicate ops.size false).getD i false) init n = init := fun u init n => by
    induction n with
    | zero => rfl
    | succ n ih => simp only [lastW]; rw [hz n]; exact ih
  exact main ops.size _ st c a _ (by simp) (hun _ _) (fun i o hi => by simp only [hz i] at hi; cases hi) ⟨fun t => (hfree _ _ _).symm, fun k => (hfree _ _ _).symm⟩ ⟨m1, fun t => (hr.tms t).ext m2, hr.sz, hr.dfs, hr.pas, hr.Ib⟩
end
end Go.Proofs.Ytohfaccniialmaa.Am
end
section
/- What the machine of values answers, the program answers: a function's text. -/
namespace Go.Proofs.Ytohfaccniialmaa.Am
open Go
set_option linter.constructorNameAsVariable false
set_option linter.unusedVariables false
set_option linter.unusedSimpArgs false
section
variable {P : Program} {B : Base} {c : Cx} {w : World} {N : Nat} {st st' : St} {a : Act} {T : Table} {M : FuncId → List Bool} {R : Type}

/-- what is come to -/
def Done (P : Program) (B : Base) (N : Nat) (fin : St → Option R) (r : R) (todo : List Item) (a : Act) (w : World) : Prop :=
  ∀ (b : Frame) (cs : List Frame), ∃ st' a' w' c' todo', fin st' = some r ∧ RelS B N c' st' a' w' ∧ Steps P (lone (b.at a todo) cs w) (lone { b.at a' todo' with mode := .returning } cs w')
theorem Done.step {fin : St → Option R} {r : R} {todo todo' : List Item} {a : Act} {w : World} (h : Done P B N fin r todo' a w) (hs : ∀ (b : Frame) cs, step P (lone (b.at a todo) cs w) = .next (lone (b.at a todo') cs w)) : Done P B N fin r todo a w := fun b cs => by
  obtain ⟨st', a', w', c', todo2, h1, h2, h3⟩ := h b cs
  exact ⟨st', a', w', c', todo2, h1, h2, .head (hs b cs) h3⟩
theorem step_scope' {P : Program} {b : Frame} {a : Act} {k : List Item} {cs : List Frame} {w : World} {x : Code} : Go.step P (lone (b.at a (.code (.scope x) :: k)) cs w) = .next (lone (b.at a (.code x :: .inScope x :: k)) cs w) := step_lone_go (by simp [stepG, stepG.exec, Frame.at])
theorem step_inScope' {P : Program} {b : Frame} {a : Act} {k : List Item} {cs : List Frame} {w : World} {x : Code} : Go.step P (lone (b.at a (.inScope x :: k)) cs w) = .next (lone (b.at a k) cs w) := step_lone_go (by simp [stepG, stepG.exec, Frame.at])

theorem both_some {R : Type} {x y : Option R} {r : R} (h : both x y = some r) : x = some r ∧ y = some r := by
  unfold both at h
  split at h
  · rename_i e _
    exact ⟨h, e ▸ h⟩
  · cases h
theorem V.inv_mb {v : Value} (h : V c w .mb v) : ∃ x, v = .bool x := by cases h; exact ⟨_, rfl⟩
theorem goS_ok {E : En} (hmix : E.P.follows .mixedOrders = true) (hT : TS E.P T) {fin : St → Option R} {self : List Item → St → Option R} (hself : ∀ todo st r c a w, self todo st = some r → RelS B E.N c st a w → Done E.P B E.N fin r todo a w) :
    ∀ (s : Nat) (f : Bool) (todo : List Item) (st : St) (r : R) (c : Cx) (a : Act) (w : World), goS E T fin self s f todo st = some r → RelS B E.N c st a w → Done E.P B E.N fin r todo a w
  | 0, f, todo, st, r, c, a, w, h, hr => by simp [goS] at h
  | s + 1, f, todo, st, r, c, a, w, h, hr => by
    have ih := goS_ok hmix hT hself s false
    unfold goS at h
    split at h
    · exact fun b cs => ⟨st, a, w, c, _, h, hr, .one step_end⟩
    · exact fun b cs => ⟨st, a, w, c, _, h, hr, .one step_ret⟩
    · exact (ih _ _ _ _ _ _ h hr).step fun b cs => step_skip
    · exact (ih _ _ _ _ _ _ h hr).step fun b cs => step_label
    · exact (ih _ _ _ _ _ _ h hr).step fun b cs => step_inBlock
    · exact (ih _ _ _ _ _ _ h hr).step fun b cs => step_inScope'
    · exact (ih _ _ _ _ _ _ h hr).step fun b cs => step_seq
    · rename_i cnd x y k
      have hcv := ev_ok hr cnd
      split at h
      · rename_i t ht
        rw [ht] at hcv
        cases t with
        | true => exact (ih _ _ _ _ _ _ h hr).step fun b cs => step_cond (V.inv_b hcv)
        | false => exact (ih _ _ _ _ _ _ h hr).step fun b cs => step_cond (V.inv_b hcv)
      · rename_i ht
        rw [ht] at hcv
        obtain ⟨h1, h2⟩ := both_some h
        obtain ⟨t, hv⟩ := V.inv_mb hcv
        cases t with
        | true => exact (ih _ _ _ _ _ _ h1 hr).step fun b cs => step_cond hv
        | false => exact (ih _ _ _ _ _ _ h2 hr).step fun b cs => step_cond hv
      · cases h
    · exact (ih _ _ _ _ _ _ h hr).step fun b cs => step_block
    · exact (ih _ _ _ _ _ _ h hr).step fun b cs => step_scope'
    · unfold bo at h
      split at h
      · rename_i st1 h1
        obtain ⟨c1, hr1⟩ := cleanAt_ok hr h1
        exact (hself _ _ _ _ _ _ h hr1).step fun b cs => step_loop
      · cases h
    · unfold bo at h
      split at h
      · rename_i st1 h1
        obtain ⟨c1, hr1⟩ := cleanAt_ok hr h1
        exact (hself _ _ _ _ _ _ h hr1).step fun b cs => step_inLoop
      · cases h
    · split at h
      · rename_i k' hk
        exact (ih _ _ _ _ _ _ h hr).step fun b cs => step_exit hk
      · cases h
    · rename_i id ops draw k
      cases hj : meets E.jn f id with
      | true =>
        rw [hj] at h
        simp only at h
        unfold bo at h
        split at h
        · rename_i st1 h1
          obtain ⟨c1, hr1⟩ := cleanAt_ok hr h1
          exact hself _ _ _ _ _ _ h hr1
        · cases h
      | false =>
      rw [hj] at h
      simp only at h
      split at h
      · rename_i hd
        obtain ⟨st1, h1, h2⟩ := cps_run T _ r _ h
        intro b cs
        have hw := regA_ok (B := B) (M := E.M) hT hd (Q := fun e a' w' => e = .normal ∧ ∃ c', RelS B E.N c' st1 a' w') (fun a' w' c' h => ⟨rfl, c', h⟩) ops.toList 0 st c a w (by simp) hr h1
        obtain ⟨e, a', w', ⟨rfl, c', hr'⟩, harr⟩ := wp_ops _ a w hw b k cs
        obtain ⟨st2, a2, w2, c2, todo2, k1, k2, k3⟩ := ih _ _ _ _ _ _ h2 hr' b cs
        refine ⟨st2, a2, w2, c2, todo2, k1, k2, .head ?_ (Steps.trans harr k3)⟩
        have := step_region (P := E.P) (b := b) (a := a) (k := k) (cs := cs) (w := w) (ops := ops) (id := id)
        rw [this]
        congr 3
        simp [List.range_eq_range']
      · rename_i hd
        obtain ⟨q, h1, h2⟩ := cps_run T _ r _ h
        obtain ⟨st1, ds⟩ := q
        split at h2
        case h_2 => cases h2
        rename_i hok
        intro b cs
        have hw := wp_region_any (id := id) hmix (regD_ok (B := B) (M := E.M) hT hd (Q := fun e a' w' => e = .normal ∧ ∃ c', RelS B E.N c' st1 a' w') (fun a' w' c' h => ⟨rfl, c', h⟩) hr h1 hok)
        obtain ⟨e, a', w', ⟨rfl, c', hr'⟩, harr⟩ := hw b k cs
        obtain ⟨st2, a2, w2, c2, todo2, k1, k2, k3⟩ := ih _ _ _ _ _ _ h2 hr' b cs
        exact ⟨st2, a2, w2, c2, todo2, k1, k2, Steps.trans harr k3⟩
      · cases h
    · cases h
theorem go_ok {E : En} (hmix : E.P.follows .mixedOrders = true) {T : Nat → Table} (hT : ∀ n, TS E.P (T n)) {fin : St → Option R} : ∀ (n : Nat) (todo : List Item) (st : St) (r : R) (c : Cx) (a : Act) (w : World), go E T fin n todo st = some r → RelS B E.N c st a w → Done E.P B E.N fin r todo a w
  | 0, todo, st, r, c, a, w, h, hr => by simp [go] at h
  | n + 1, todo, st, r, c, a, w, h, hr => goS_ok hmix (hT n) (fun todo st r c a w h hr => go_ok hmix hT n todo st r c a w h hr) 100000 true todo st r c a w h hr
end
end Go.Proofs.Ytohfaccniialmaa.Am
end
section
/- What a function returns: a function's contract out of its text. -/
namespace Go.Proofs.Ytohfaccniialmaa.Am
open Go
set_option linter.constructorNameAsVariable false
set_option linter.unusedVariables false
set_option linter.unusedSimpArgs false
section
variable {P : Program} {B : Base} {c : Cx} {w : World} {N : Nat} {st st' : St} {a : Act} {T : Table} {M : FuncId → List Bool} {R : Type}

/-! ### results in Lean's kinds -/
def Cd.Ok {A : Type} (d : Cd A) : Prop := ∀ i as os x as' os', d.dec i as os = some (x, as', os') → as = (d.enc i x).1 ++ as' ∧ os = (d.enc i x).2 ++ os'
def Od.Ok {A : Type} (d : Od A) : Prop := ∀ os x os', d.dec os = some (x, os') → os = d.enc x ++ os'
theorem cB_ok : cB.Ok := fun i as os x as' os' h => by
  simp only [cB] at h ⊢
  split at h
  · simp only [Option.some.injEq, Prod.mk.injEq] at h; obtain ⟨rfl, rfl, rfl⟩ := h; exact ⟨rfl, rfl⟩
  · cases h
theorem cI_ok (k : IntKind) : (cI k).Ok := fun i as os x as' os' h => by
  simp only [cI] at h ⊢
  split at h
  · split at h
    · rename_i e; subst e
      simp only [Option.some.injEq, Prod.mk.injEq] at h; obtain ⟨rfl, rfl, rfl⟩ := h; exact ⟨rfl, rfl⟩
    · cases h
  · cases h
theorem cS_ok : cS.Ok := fun i as os x as' os' h => by
  simp only [cS] at h ⊢
  split at h
  · simp only [Option.some.injEq, Prod.mk.injEq] at h; obtain ⟨rfl, rfl, rfl⟩ := h; exact ⟨rfl, rfl⟩
  · cases h
theorem cU_ok : cU.Ok := fun i as os x as' os' h => by
  simp only [cU, Option.some.injEq, Prod.mk.injEq] at h ⊢
  obtain ⟨_, rfl, rfl⟩ := h
  exact ⟨rfl, rfl⟩
theorem cL_ok (t : Ty) : (cL t).Ok := fun i as os x as' os' h => by
  simp only [cL] at h ⊢
  split at h
  · split at h
    · rename_i e; subst e
      simp only [Option.some.injEq, Prod.mk.injEq] at h; obtain ⟨rfl, rfl, rfl⟩ := h; exact ⟨rfl, rfl⟩
    · cases h
  · cases h
theorem cR_ok (t : Ty) : (cR t).Ok := fun i as os x as' os' h => by
  simp only [cR] at h ⊢
  split at h
  · split at h
    · rename_i e1 e2 e3
      have e1 := beq_true e1
      have e2 := beq_true e2
      have e3 := beq_true e3
      subst e1 e2 e3
      split at h
      · rename_i e; subst e
        simp only [Option.some.injEq, Prod.mk.injEq] at h; obtain ⟨rfl, rfl, rfl⟩ := h; exact ⟨rfl, rfl⟩
      · cases h
    · cases h
  · cases h
theorem cO_ok (o v : Nat) : (cO o v).Ok := fun i as os x as' os' h => by
  simp only [cO] at h ⊢
  split at h
  · split at h
    · rename_i e1 e2
      have e1 := beq_true e1
      have e2 := beq_true e2
      subst e1 e2
      simp only [Option.some.injEq, Prod.mk.injEq] at h; obtain ⟨_, rfl, rfl⟩ := h; exact ⟨rfl, rfl⟩
    · cases h
  · cases h
theorem cP_ok {A C : Type} {a : Cd A} {b : Cd C} (ha : a.Ok) (hb : b.Ok) : (cP a b).Ok := fun i as os x as' os' h => by
  simp only [cP] at h ⊢
  split at h
  · rename_i x1 as1 os1 h1
    split at h
    · rename_i y1 as2 os2 h2
      simp only [Option.some.injEq, Prod.mk.injEq] at h
      obtain ⟨rfl, rfl, rfl⟩ := h
      obtain ⟨k1, k2⟩ := ha i as os x1 as1 os1 h1
      obtain ⟨m1, m2⟩ := hb _ as1 os1 y1 as2 os2 h2
      exact ⟨by rw [k1, m1, List.append_assoc], by rw [k2, m2, List.append_assoc]⟩
    · cases h
  · cases h
theorem cG_ok {A : Type} {a : Cd A} (ha : a.Ok) : (cG a).Ok := fun i as os x as' os' h => by
  simp only [cG] at h ⊢
  split at h
  · split at h
    · rename_i x1 os1 h1
      simp only [Option.some.injEq, Prod.mk.injEq] at h
      obtain ⟨rfl, rfl, rfl⟩ := h
      obtain ⟨k1, k2⟩ := ha _ _ _ _ _ _ h1
      rw [List.append_nil] at k1
      exact ⟨by rw [k1]; rfl, k2⟩
    · cases h
  · cases h
theorem oU_ok : oU.Ok := fun os x os' h => by
  simp only [oU, Option.some.injEq, Prod.mk.injEq] at h ⊢
  obtain ⟨_, rfl⟩ := h
  rfl
theorem oR_ok (v : Nat) (t : Ty) : (oR v t).Ok := fun os x os' h => by
  simp only [oR] at h ⊢
  split at h
  · split at h
    · rename_i e1
      have e1 := beq_true e1
      subst e1
      split at h
      · rename_i e; subst e
        simp only [Option.some.injEq, Prod.mk.injEq] at h; obtain ⟨rfl, rfl⟩ := h; rfl
      · cases h
    · cases h
  · cases h
theorem oD_ok : oD.Ok := fun os x os' h => by
  simp only [oD] at h ⊢
  split at h
  · simp only [Option.some.injEq, Prod.mk.injEq] at h; obtain ⟨_, rfl⟩ := h; rfl
  · cases h
theorem oB_ok {A : Type} {a : Cd A} (ha : a.Ok) : (oB a).Ok := fun os x os' h => by
  simp only [oB] at h ⊢
  split at h
  · split at h
    · rename_i x1 h1
      simp only [Option.some.injEq, Prod.mk.injEq] at h
      obtain ⟨rfl, rfl⟩ := h
      obtain ⟨k1, k2⟩ := ha _ _ _ _ _ _ h1
      rw [List.append_nil] at k1
      rw [k1]
      rfl
    · cases h
  · cases h
theorem oP_ok {A C : Type} {a : Od A} {b : Od C} (ha : a.Ok) (hb : b.Ok) : (oP a b).Ok := fun os x os' h => by
  simp only [oP] at h ⊢
  split at h
  · rename_i x1 os1 h1
    split at h
    · rename_i y1 os2 h2
      simp only [Option.some.injEq, Prod.mk.injEq] at h
      obtain ⟨rfl, rfl⟩ := h
      rw [ha _ _ _ h1, hb _ _ _ h2, List.append_assoc]
    · cases h
  · cases h
theorem finD_ok {A O : Type} {cd : Cd A} {od : Od O} (hc : cd.Ok) (ho : od.Ok) {m : Nat} {x : Option (List AV × List AO)} {r : A × O} (h : finD cd od m x = some r) : x = some ((cd.enc m r.1).1, od.enc r.2 ++ (cd.enc m r.1).2) := by
  unfold finD at h
  split at h
  · rename_i rs os
    split at h
    · rename_i o os1 h1
      split at h
      · rename_i a h2
        simp only [Option.some.injEq] at h
        subst h
        obtain ⟨k1, k2⟩ := hc _ _ _ _ _ _ h2
        have k3 := ho _ _ _ h1
        rw [List.append_nil] at k1 k2
        rw [k1, k3, k2]
      · cases h
    · cases h
  · cases h

/-! ### results in memory -/
def resV (ts : Array Value) : ResultVar → Sem Value
  | .tmp t => pure (ts.getD t undef)
  | .cell p t => do loadVar t (← asAddr (ts.getD p undef))
theorem results_eq (fn : Func) (ts : Array Value) : results fn ts = (do let vs ← fn.results.mapM (resV ts); pure (if h : vs.size = 1 then vs[0] else .tuple vs)) := by
  have : (fun (x : ResultVar) => match x with | .tmp t => (pure (ts.getD t undef) : Sem Value) | .cell p t => do loadVar t (← asAddr (ts.getD p undef))) = resV ts := by
    funext x; cases x <;> rfl
  rw [← this]
  rfl
theorem resA_ok (hr : RelS B N c st a w) : ∀ (rv : List ResultVar) (rs : List AV), resA P (look st.ob) st rv = some rs →
    ∃ vs : List Value, (rv.mapM (resV a.tmps)).run P w = Result.ok vs w ∧ vs.length = rs.length ∧ ∀ j y, rs[j]? = some y → V c w y (vs.getD j undef)
  | [], rs, h => by
    simp only [resA, Option.some.injEq] at h
    subst h
    exact ⟨[], rfl, rfl, by simp⟩
  | .tmp t :: r, rs, h => by
    simp only [resA] at h
    split at h
    · rename_i l hl
      simp only [Option.some.injEq] at h
      subst h
      obtain ⟨vs, h1, h2, h3⟩ := resA_ok hr r l hl
      refine ⟨a.tmps.getD t undef :: vs, ?_, by simp [h2], fun j y hy => ?_⟩
      · simp only [List.mapM_cons, resV, Sem.run_bind, Sem.run_pure, Result.andThen_ok, h1]
      · cases j with
        | zero => simp at hy; subst hy; exact hr.tms t
        | succ j => simpa using h3 j y (by simpa using hy)
    · cases h
  | .cell p t :: r, rs, h => by
    simp only [resA] at h
    split at h
    · rename_i n o off l hn hp hl
      split at h
      · rename_i cs ho
        split at h
        · rename_i q hq
          split at h
          · rename_i x hx
            simp only [Option.some.injEq] at h
            subst h
            obtain ⟨vs, h1, h2, h3⟩ := resA_ok hr r l hl
            obtain ⟨hll, hlg⟩ := cut_eq hq
            obtain ⟨i, b, arr, el, k1, k2, k3, k4, k5, k6⟩ := hr.mem.obj o _ ho
            have htm := hr.tms p
            rw [hp] at htm
            obtain ⟨ad, i', ea, hi', hpp⟩ := htm.inv_ptr
            rw [k1] at hi'
            cases hi'
            obtain ⟨b', hb', rfl⟩ := hpp k2
            rw [k3] at hb'
            cases hb'
            obtain ⟨v, e1, e2⟩ := loadVar_ok (P := P) (w := w) (c := c) hn hll hx ⟨b, off, none⟩ (fun j => arr.getD (off + j) undef) (fun j hj => by
              have hcs : (cs[off + j]?).isSome = true := by rw [← hlg j hj]; simp [hll, hj]
              have hlt : off + j < cs.length := by simpa using hcs
              rw [add_mid']
              exact ⟨cell_in k4 (by rw [k5.1]; exact hlt), k5.2.1 _ hlt⟩) (fun j y hy => by
              have hj : j < n := by have := (List.getElem?_eq_some_iff.1 hy).1; omega
              rw [hlg j hj] at hy
              exact k5.2.2 _ y hy)
            refine ⟨v :: vs, ?_, by simp [h2], fun j y hy => ?_⟩
            · simp only [List.mapM_cons, resV, Sem.run_bind, ea, asAddr, Sem.run_pure, Result.andThen_ok, e1, h1]
            · cases j with
              | zero => simp at hy; subst hy; exact e2
              | succ j => simpa using h3 j y (by simpa using hy)
          · cases h
        · cases h
      · cases h
    · cases h

theorem upto_get : ∀ (n i j : Nat), j < n → (upto i n)[j]? = some (i + j)
  | 0, i, j, h => by omega
  | n + 1, i, 0, h => by simp [upto]
  | n + 1, i, j + 1, h => by
    simp only [upto, List.getElem?_cons_succ]
    rw [upto_get n (i + 1) j (by omega)]
    congr 1
    omega
theorem upto_len : ∀ (n i : Nat), (upto i n).length = n
  | 0, i => rfl
  | n + 1, i => by simp [upto, upto_len n (i + 1)]
theorem outs_get (l : List (Nat × AO)) : ∀ (L : List Nat) (j : Nat) (x : AO), (outs l L)[j]? = some x → ∃ i, L[j]? = some i ∧ (look l i = some x ∨ x = .dead)
  | [], j, x, h => by simp [outs] at h
  | i :: r, 0, x, h => by
    simp only [outs, List.getElem?_cons_zero, Option.some.injEq] at h
    refine ⟨i, rfl, ?_⟩
    split at h
    · exact .inr h.symm
    · rename_i hy
      subst h
      exact .inl hy
    · exact .inr h.symm
  | i :: r, j + 1, x, h => by
    obtain ⟨k, h1, h2⟩ := outs_get l r j x (by simpa [outs] using h)
    exact ⟨k, by simpa using h1, h2⟩
theorem outs_len (l : List (Nat × AO)) : ∀ (L : List Nat), (outs l L).length = L.length
  | [] => rfl
  | i :: r => by simp [outs, outs_len l r]
theorem names_idx (ob : Nat → Option AO) (bump : List Nat) : ∀ (L : List Nat) (i o n v : Nat), (o, n, v) ∈ names ob (fun i _ => i) bump i L → i ≤ n ∧ n < i + L.length
  | [], i, o, n, v, h => by simp [names] at h
  | x :: r, i, o, n, v, h => by
    simp only [names] at h
    have step : (o, n, v) ∈ names ob (fun i _ => i) bump (i + 1) r → i ≤ n ∧ n < i + (x :: r).length := fun h => by
      have := names_idx ob bump r (i + 1) o n v h
      simp only [List.length_cons]
      omega
    split at h
    · split at h
      · rcases List.mem_cons.1 h with h | h
        · simp only [Prod.mk.injEq] at h
          simp only [List.length_cons]
          omega
        · exact step h
      · exact step h
    · exact step h
theorem ends_ok {ob : Nat → Option AO} (hm : Mem B c ob w) {m : Nat} {bump : List Nat} {rs rs' : List AV} {os : List AO} (h : ends ob m bump rs = some (rs', os)) : ∃ c', Mem B c' (obL os) w ∧ c'.F = c.F ∧ (∀ n i', n < m → n < 1000 → c'.inf n = some i' → i'.ver = 0 → c.inf n = some i') ∧ rs'.length = rs.length ∧ ∀ (g : Nat → Value), (∀ j y, rs[j]? = some y → V c w y (g j)) → ∀ j y, rs'[j]? = some y → V c' w y (g j) := by
  unfold ends at h
  split at h
  case h_2 => cases h
  rename_i hck
  rw [Bool.and_eq_true] at hck
  simp only [Option.some.injEq, Prod.mk.injEq] at h
  obtain ⟨rfl, rfl⟩ := h
  have hK : ∀ o n v, (o, n, v) ∈ finK ob m bump rs → ∃ a, ob o = some a ∧ isDead a = false ∧ (isBox a = true → v = 0) := fun o n v h => names_mem _ _ _ _ o n v h
  obtain ⟨c', m1, m2, m3, m4⟩ := hm.names (ob' := obL (outs (objs ob (rnm ob (finK ob m bump rs)) (finK ob m bump rs)) (upto 0 (finL ob m rs).length))) hck.1 hck.2 hK (fun n x hx => by
    obtain ⟨i, h1, h2⟩ := outs_get _ _ n x hx
    have hn : n < (finL ob m rs).length := by
      have := (List.getElem?_eq_some_iff.1 h1).1
      rwa [upto_len] at this
    rw [upto_get _ _ _ hn] at h1
    have hi : n = i := by simpa using h1
    subst hi
    rcases h2 with h2 | h2
    · exact .inr (objs_look _ _ n x h2)
    · exact .inl h2) (fun o n v h => by
    have hn := (names_idx ob bump _ 0 o n v h).2
    rw [Nat.zero_add] at hn
    have : n < (outs (objs ob (rnm ob (finK ob m bump rs)) (finK ob m bump rs)) (upto 0 (finL ob m rs).length)).length := by rw [outs_len, upto_len]; exact hn
    exact ⟨_, List.getElem?_eq_getElem this⟩)
  refine ⟨c', m1, m3, fun n i' hn hn1 hi' hv => ?_, renL_len _ _, fun g hg j y hy => ?_⟩
  case refine_2 =>
    rw [renL_get] at hy
    obtain ⟨z, hz, rfl⟩ := Option.map_eq_some_iff.1 hy
    exact (hg j z hz).ren m2
  obtain ⟨o, v, i0, k1, k2, rfl⟩ := m4 n i' hi'
  have hv : v = 0 := hv
  subst hv
  obtain ⟨⟨j, q1, _, q2⟩, x, hx, hd, hver⟩ := names_nm _ _ _ _ o n 0 k1
  subst q1
  have hL : (finL ob m rs)[n - 0]? = some n := reach_pre _ _ _ _ _ (by rw [Nat.sub_zero, upto_get _ _ _ hn, Nat.zero_add])
  rw [hL] at q2
  cases q2
  have h0 : verO x = 0 := hver rfl hn1
  have := hm.ver hx hd k2
  rw [h0] at this
  rw [k2]
  cases i0
  simp only at this
  subst this
  rfl

theorem look_enum {α : Type} : ∀ (l : List α) (i o : Nat), look (enumA i l) o = if i ≤ o then l[o - i]? else none
  | [], i, o => by simp [enumA, look]
  | a :: r, i, o => by
    simp only [enumA, look]
    cases h : Nat.beq i o with
    | true =>
      have := beq_true h
      subst this
      simp
    | false =>
      have hne : i ≠ o := Nat.ne_of_beq_eq_false h
      simp only
      rw [look_enum r (i + 1) o]
      by_cases h1 : i + 1 ≤ o
      · rw [if_pos h1, if_pos (by omega)]
        rw [show o - i = (o - (i + 1)) + 1 by omega, List.getElem?_cons_succ]
      · rw [if_neg h1, if_neg (by omega)]
theorem look_enum0 {α : Type} (l : List α) (o : Nat) : look (enumA 0 l) o = l[o]? := by rw [look_enum]; simp

/-- **a function's contract** -/
theorem fn_ok {E : En} (hmix : E.P.follows .mixedOrders = true) {T : Nat → Table} (hT : ∀ n, TS E.P (T n)) {f : FuncId} {fn : Func} {code : Code} (hf : E.P.funcs[f]? = some fn) (hb : fn.body = some code) (hN : E.N = fn.ntmps) {R : Type} {fin : St → Option R} {er : R → List AV × List AO} {m : Nat} {cvs : List Cv} {bump : List Nat}
    (hfin : ∀ st r, fin st = some r → finA E.P fn.results.toList m cvs bump st = some (er r)) {k : Nat} {as : List AV} {os : List AO} {r : R} (hm1 : os.length ≤ m) (hm2 : m ≤ 1000) (h : go E T fin k [.code code] (initA as os) = some r) : ACalls E.P f as os (tupA (er r).1, (er r).2) := by
  intro c w vs hvs hva hm cs
  let a0 : Act := { tmps := vs ++ Array.replicate (fn.ntmps - vs.size) undef, defers := [] }
  let b : Frame := { (default : Frame) with fn := f, kind := .normal }
  have henter : Frame.enter E.P f vs .normal = b.at a0 [.code code] := by simp [Frame.enter, Frame.at, hf, hb, b, a0]
  have hdom : ∀ o i, c.inf o = some i → o < m := fun o i h => by
    obtain ⟨x, hx⟩ := hm.dom o i h
    have hx : os[o]? = some x := hx
    have := (List.getElem?_eq_some_iff.1 hx).1
    omega
  have hrel : RelS ⟨w, fun b => ∃ o, Blk c (obL os) o b, c.F, c.inf⟩ E.N c (initA as os) a0 w := by
    have hob : look (initA as os).ob = obL os := by
      funext o
      exact look_enum0 os o
    refine ⟨by rw [hob]; exact hm, fun t => ?_, by show E.N ≤ (vs ++ Array.replicate (fn.ntmps - vs.size) undef).size; rw [hN, Array.size_append, Array.size_replicate]; omega, rfl, fun o i i' h h' _ => by have h : c.inf o = some i := h; rw [h] at h'; cases h'; rfl, fun o i h => Nat.lt_of_lt_of_le (hdom o i h) hm2⟩
    show V c w (match look (enumA 0 as) t with | some a => a | none => .bad) _
    rw [look_enum0]
    split
    · rename_i x hx
      have ht : t < vs.size := by rw [hvs]; exact (List.getElem?_eq_some_iff.1 hx).1
      have e : a0.tmps.getD t undef = vs.getD t undef := getD_append_left ht
      rw [e]
      exact hva t x hx
    · exact .bad _
  obtain ⟨st', a', w', c', todo', h1, h2, h3⟩ := go_ok hmix hT k _ _ r c a0 w h hrel b cs
  have hfin := hfin st' r h1
  unfold finA at hfin
  simp only [bo] at hfin
  split at hfin
  case h_2 => cases hfin
  rename_i rs hrs
  split at hfin
  case h_2 => cases hfin
  rename_i p hp
  obtain ⟨rs1, ob1⟩ := p
  obtain ⟨vs', g1, g2, g3⟩ := resA_ok (P := E.P) h2 _ _ hrs
  obtain ⟨c1, k1, k2, k3, k4⟩ := convL_ok rs cvs st'.ob rs1 ob1 c' hp h2.mem (fun j => vs'.getD j undef) g3
  obtain ⟨c2, m1, m2, mp, m3, m4⟩ := ends_ok k1 hfin
  have hv := m4 _ k4
  have hrun : (results fn a'.tmps).run E.P w' = .ok (if h : vs'.toArray.size = 1 then vs'.toArray[0] else .tuple vs'.toArray) w' := by
    rw [results_eq, Array.mapM_eq_mapM_toList]
    simp only [Sem.run_bind, Sem.run_map, g1, Result.andThen_ok, Sem.run_pure]
  have hlen : (er r).1.length = vs'.length := by rw [m3, k3, g2]
  refine ⟨.returned (if h : vs'.toArray.size = 1 then vs'.toArray[0] else .tuple vs'.toArray), w', _, ⟨_, c2, rfl, ?_, m1, ?_⟩, by rw [henter]; exact h3, rfl, ?_⟩
  · show V c2 w' (tupA (er r).1) _
    generalize (er r).1 = rr at hv hlen
    cases rr with
    | nil =>
      have : vs' = [] := List.length_eq_zero_iff.1 hlen.symm
      subst this
      exact .tup [] #[] rfl (by simp)
    | cons x q =>
      cases q with
      | nil =>
        have hl1 : vs'.length = 1 := hlen.symm
        rw [dif_pos (by simpa using hl1)]
        have := hv 0 x rfl
        obtain ⟨v0, rfl⟩ : ∃ v0, vs' = [v0] := by
          cases vs' with
          | nil => cases hl1
          | cons v0 q => cases q with
            | nil => exact ⟨v0, rfl⟩
            | cons _ _ => simp at hl1
        exact this
      | cons y q =>
        have hl2 : ¬ vs'.toArray.size = 1 := by
          simp only [List.size_toArray]
          rw [← hlen]
          simp
        rw [dif_neg hl2]
        refine .tup (x :: y :: q) vs'.toArray (by simp [← hlen]) fun j z hz => ?_
        have := hv j z hz
        simpa [Array.getD_eq_getD_getElem?, List.getD_eq_getElem?_getD] using this
  · intro o i i' hi hi' hv0
    have ho := hdom o i hi
    have hi1 := mp o i' ho (Nat.lt_of_lt_of_le ho hm2) hi' hv0
    cases h0 : c'.inf o with
    | none => rw [k2.nw o (Nat.lt_of_lt_of_le ho hm2) h0] at hi1; cases hi1
    | some i1 =>
      obtain ⟨i2, q1, q2, q3⟩ := k2.inf o i1 h0
      rw [hi1] at q1
      cases q1
      have := q3 (by omega)
      subst this
      exact h2.pas o i _ hi h0 hv0
  · exact ⟨rfl, h2.dfs, rfl, fn, hf, hrun⟩
end
end Go.Proofs.Ytohfaccniialmaa.Am
end
section
/- Functions' texts over the machine of values: their tables. -/
namespace Go.Proofs.Ytohfaccniialmaa.Am
open Go
set_option linter.constructorNameAsVariable false
set_option linter.unusedVariables false
set_option linter.unusedSimpArgs false

theorem dV_ok : ∀ (t : Ty) (cs : List AV) (x : t.D) (r : List AV), dV t cs = some (x, r) → cs = view t x ++ r
  | .i k, cs, x, r, h => by
    cases cs with
    | nil => simp [dV] at h
    | cons a q =>
      cases a <;> simp [dV] at h
      obtain ⟨rfl, rfl, rfl⟩ := h
      rfl
  | .b, cs, x, r, h => by
    cases cs with
    | nil => simp [dV] at h
    | cons a q =>
      cases a <;> simp [dV] at h
      obtain ⟨rfl, rfl⟩ := h
      rfl
  | .s, cs, x, r, h => by
    cases cs with
    | nil => simp [dV] at h
    | cons a q =>
      cases a <;> simp [dV] at h
      obtain ⟨rfl, rfl⟩ := h
      rfl
  | .u, cs, x, r, h => by
    simp [dV] at h
    subst h
    rfl
  | .pr a b, cs, x, r, h => by
    simp only [dV] at h
    split at h
    · rename_i y q h1
      split at h
      · rename_i z p h2
        simp only [Option.some.injEq, Prod.mk.injEq] at h
        obtain ⟨rfl, rfl⟩ := h
        rw [dV_ok a _ _ _ h1, dV_ok b _ _ _ h2]
        simp [view]
      · cases h
    · cases h
  | .sl t, cs, x, r, h => by
    cases cs with
    | nil => simp [dV] at h
    | cons a q =>
      cases a <;> simp only [dV, reduceCtorEq] at h
      split at h
      · rename_i e
        subst e
        simp only [Option.some.injEq, Prod.mk.injEq] at h
        obtain ⟨rfl, rfl⟩ := h
        rfl
      · cases h
theorem cV_ok (agg : Bool) (t : Ty) : (cV agg t).Ok := fun i as os x as' os' h => by
  cases agg with
  | true =>
    simp only [cV] at h ⊢
    split at h
    · split at h
      · rename_i h1
        simp only [Option.some.injEq, Prod.mk.injEq] at h
        obtain ⟨rfl, rfl, rfl⟩ := h
        rw [dV_ok _ _ _ _ h1]
        simp
      · cases h
    · cases h
  | false =>
    simp only [cV] at h ⊢
    split at h
    · rename_i h1
      simp only [Option.some.injEq, Prod.mk.injEq] at h
      obtain ⟨rfl, rfl, rfl⟩ := h
      exact ⟨dV_ok _ _ _ _ h1, rfl⟩
    · cases h

/-- an argument that is read belongs to the same value -/
theorem unP_ok {agg : Bool} {t : Ty} {a : AV} {x : t.D} (h : unP agg t a = some x) {c : Cx} {w : World} {v : Value} (hv : V c w a v) : V c w (mkP agg t x) v := by
  cases agg with
  | true =>
    simp only [unP] at h
    split at h
    · rename_i cs
      obtain ⟨vs, rfl, q1, q2, q3⟩ := hv.inv_agg
      obtain ⟨hl, hu⟩ := unview_ok _ _ _ h
      exact .agg (view t x) vs (by rw [q1, hl, view_len]) (fun j hj => q2 j (by rw [hl, ← view_len t x]; exact hj)) fun j y hy => hu c w (fun j => vs.getD j undef) q3 j y hy
    · cases h
  | false =>
    simp only [unP] at h
    obtain ⟨hl, hu⟩ := unview_ok _ _ _ h
    simp only [mkP]
    split
    · rename_i b hb
      have := hu c w (fun _ => v) (fun j y hy => by
        cases j with
        | zero => simp at hy; subst hy; exact hv
        | succ j => simp at hy) 0 b (by rw [hb]; rfl)
      exact this
    · exact .bad _
def TabOk (P : Program) (f : FuncId) (g : List AV → List AO → Option Pack) : Prop := ∀ as os p t, g as os = some p → p.x = some t → okFn P f ∧ ACalls P f as os (p.enc t)
theorem ACalls.args {P : Program} {f : FuncId} {as as' : List AV} {os : List AO} {r : Ret} (hl : as'.length = as.length) (h : ∀ (j : Nat) (a a' : AV), as[j]? = some a → as'[j]? = some a' → ∀ (c : Cx) (w : World) (v : Value), V c w a v → V c w a' v) (hA : ACalls P f as' os r) : ACalls P f as os r :=
  fun c w vs hvs hva hm => hA c w vs (by rw [hvs, hl]) (fun j a' ha' => by
    have hj : j < as.length := by rw [← hl]; exact (List.getElem?_eq_some_iff.1 ha').1
    exact h j _ a' (List.getElem?_eq_getElem hj) ha' c w _ (hva j _ (List.getElem?_eq_getElem hj))) hm
def AllF {A : Type} : (l : List (Bool × Ty)) → Fun A l → (List AV → A → Prop) → Prop
  | [], F, Q => ∀ r, F = some r → Q [] r
  | p :: l, F, Q => ∀ x, AllF l (F x) fun as r => Q (mkP p.1 p.2 x :: as) r
theorem AllF.app {A : Type} : ∀ (l : List (Bool × Ty)) (F : Fun A l) (Q : List AV → A → Prop), AllF l F Q → ∀ (as : List AV) (r : A), appF l F as = some (some r) → ∃ as', as'.length = as.length ∧ (∀ (j : Nat) (a a' : AV), as[j]? = some a → as'[j]? = some a' → ∀ (c : Cx) (w : World) (v : Value), V c w a v → V c w a' v) ∧ Q as' r
  | [], F, Q, hF, as, r, h => by
    cases as with
    | nil =>
      exact ⟨[], rfl, fun j a a' ha => by simp at ha, hF r (Option.some.inj h)⟩
    | cons a as => simp [appF] at h
  | p :: l, F, Q, hF, as, r, h => by
    cases as with
    | nil => simp [appF] at h
    | cons a as =>
      simp only [appF] at h
      split at h
      · rename_i x hx
        obtain ⟨as', k1, k2, k3⟩ := AllF.app l (F x) _ (hF x) as r h
        refine ⟨_ :: as', by simp [k1], fun j b b' hb hb' c w v hv => ?_, k3⟩
        cases j with
        | zero =>
          simp at hb hb'
          subst hb hb'
          exact unP_ok hx hv
        | succ j => exact k2 j b b' (by simpa using hb) (by simpa using hb') c w v hv
      · cases h
theorem tabV_ok {P : Program} {f : FuncId} {A : Type} {l : List (Bool × Ty)} {cd : Cd A} {F : Fun A l} (hf : okFn P f) (h : AllF l F fun as r => ACalls P f as [] (enc0 cd r)) : TabOk P f (tabV l cd F) := fun as os p t hp ht => by
  unfold tabV at hp
  split at hp
  · split at hp
    · rename_i x hx
      have hp := Option.some.inj hp
      subst hp
      have ht : x = some t := ht
      rw [ht] at hx
      obtain ⟨as', k1, k2, k3⟩ := h.app l F _ as t hx
      exact ⟨hf, k3.args k1 k2⟩
    · cases hp
  · cases hp
theorem tabs_nil {P : Program} : TS P (tabs []) := fun f as os p t h => by simp [tabs] at h
theorem tabs_cons {P : Program} {f : FuncId} {g : List AV → List AO → Option Pack} {l : List (Nat × (List AV → List AO → Option Pack))} (hg : TabOk P f g) (hl : TS P (tabs l)) : TS P (tabs ((f, g) :: l)) := fun f' as os p t h => by
  simp only [tabs] at h
  cases hb : Nat.beq f f' with
  | true =>
    rw [hb] at h
    have := Nat.eq_of_beq_eq_true hb
    subst this
    exact hg as os p t h
  | false =>
    rw [hb] at h
    exact hl f' as os p t h
theorem fnB_ok {P : Program} {f : FuncId} {N : Nat} (h : fnB P f N = true) : ∃ fn code, P.funcs[f]? = some fn ∧ fn.body = some code ∧ N = fn.ntmps ∧ bodyOf P f = code ∧ resOf P f = fn.results.toList ∧ okFn P f := by
  unfold fnB at h
  split at h
  · rename_i fn hf
    simp only [Bool.and_eq_true, Bool.not_eq_true'] at h
    obtain ⟨h1, h2, h3⟩ := h
    obtain ⟨code, hc⟩ := Option.isSome_iff_exists.1 h1
    exact ⟨fn, code, hf, hc, Nat.eq_of_beq_eq_true h2, by unfold bodyOf; rw [hf]; simp only; rw [hc], by unfold resOf; rw [hf], fn, hf, h3, h1⟩
  · cases h
theorem fin0_ok {A : Type} {cd : Cd A} (hc : cd.Ok) {x : Option (List AV × List AO)} {a : A} (h : fin0 cd x = some a) : x = some (cd.enc 0 a) := by
  unfold fin0 at h
  split at h
  · split at h
    · rename_i h1
      simp only [Option.some.injEq] at h
      subst h
      obtain ⟨k1, k2⟩ := hc _ _ _ _ _ _ h1
      rw [List.append_nil] at k1 k2
      rw [k1, k2]
    · cases h
  · cases h
/-- a function to which nothing is handed over -/
theorem fn0 {E : En} (hmix : E.P.follows .mixedOrders = true) {T : Nat → Table} (hT : ∀ n, TS E.P (T n)) {f : FuncId} (hb : fnB E.P f E.N = true) {A : Type} {cd : Cd A} (hc : cd.Ok) {cvs : List Cv} {k : Nat} {as : List AV} {r : A}
    (h : go E T (fun st => fin0 cd (finA E.P (resOf E.P f) 0 cvs [] st)) k [.code (bodyOf E.P f)] (initA as []) = some r) : ACalls E.P f as [] (enc0 cd r) := by
  obtain ⟨fn, code, h1, h2, h3, h4, h5, h6⟩ := fnB_ok hb
  rw [h4, h5] at h
  exact fn_ok hmix hT h1 h2 h3 (er := fun r => cd.enc 0 r) (m := 0) (fun st r hr => fin0_ok hc hr) (Nat.le_refl _) (Nat.zero_le _) h

/-! ### functions to which objects are handed over -/
mutual
theorem eqA_ok : ∀ (a b : AV), eqA a b = true → a = b
  | .ptr a b, .ptr c d, h => by
    simp only [eqA, Bool.and_eq_true] at h
    rw [Nat.eq_of_beq_eq_true h.1, Nat.eq_of_beq_eq_true h.2]
  | .own a b, .own c d, h => by
    simp only [eqA, Bool.and_eq_true] at h
    rw [Nat.eq_of_beq_eq_true h.1, Nat.eq_of_beq_eq_true h.2]
  | .nils, .nils, _ => rfl
  | .nilp, .nilp, _ => rfl
  | .fn f cs, .fn g ds, h => by
    simp only [eqA, Bool.and_eq_true] at h
    rw [Nat.eq_of_beq_eq_true h.1, eqL_ok cs ds h.2]
  | .bad, b, h => by simp [eqA] at h
  | .und, b, h => by simp [eqA] at h
  | .i _ _, b, h => by simp [eqA] at h
  | .b _, b, h => by simp [eqA] at h
  | .s _, b, h => by simp [eqA] at h
  | .nilf, b, h => by simp [eqA] at h
  | .nili, b, h => by simp [eqA] at h
  | .eptr _ _ _ _, b, h => by simp [eqA] at h
  | .rp _, b, h => by simp [eqA] at h
  | .sub _ _ _ _, b, h => by simp [eqA] at h
  | .lst _ _, b, h => by simp [eqA] at h
  | .agg _, b, h => by simp [eqA] at h
  | .tup _, b, h => by simp [eqA] at h
theorem eqL_ok : ∀ (l m : List AV), eqA.eqL l m = true → l = m
  | [], [], _ => rfl
  | [], _ :: _, h => by simp [eqA.eqL] at h
  | _ :: _, [], h => by simp [eqA.eqL] at h
  | a :: r, b :: q, h => by
    simp only [eqA.eqL, Bool.and_eq_true] at h
    rw [eqA_ok a b h.1, eqL_ok r q h.2]
end
theorem cK_ok (a : AV) : (cK a).Ok := fun i as os x as' os' h => by
  simp only [cK] at h ⊢
  split at h
  · split at h
    · rename_i e
      have e := eqA_ok _ _ e
      subst e
      simp only [Option.some.injEq, Prod.mk.injEq] at h; obtain ⟨_, rfl, rfl⟩ := h; exact ⟨rfl, rfl⟩
    · cases h
  · cases h
def AllD {X : Type} : (l : List Ac) → FunC X l → (List AV → X → Prop) → Prop
  | [], F, Q => Q [] F
  | .v t :: r, F, Q => ∀ x, AllD r (F x) fun as X => Q (view t x ++ as) X
  | .o b :: r, F, Q => AllD r F fun as X => Q (b :: as) X
def AllN {X : Type} : (l : List (List Ac)) → FunN X l → (List AV → X → Prop) → Prop
  | [], F, Q => Q [] F
  | c :: r, F, Q => AllD c F fun ds G => AllN r G fun as X => Q (.rp ds :: as) X
def AllA {X : Type} : (l : List Ar) → FunA X l → (List AV → X → Prop) → Prop
  | .r cs :: r, F, Q => AllD cs F fun ds G => AllA r G fun as X => Q (.rp ds :: as) X
  | .n f cs :: r, F, Q => AllN cs F fun ds G => AllA r G fun as X => Q (.fn f ds :: as) X
  | .a cs :: r, F, Q => AllD cs F fun ds G => AllA r G fun as X => Q (.agg ds :: as) X
  | [], F, Q => Q [] F
  | .v g t :: r, F, Q => ∀ x, AllA r (F x) fun as X => Q (mkP g t x :: as) X
  | .o b :: r, F, Q => AllA r F fun as X => Q (b :: as) X
def AllC {X : Type} : (l : List Ar) → FunA X l → (List AV → X → Prop) → Prop
  | .a _ :: _, _, _ => True
  | .r _ :: _, _, _ => True
  | .n _ _ :: _, _, _ => True
  | [], F, Q => Q [] F
  | .v _ t :: r, F, Q => ∀ x, AllC r (F x) fun as X => Q (view t x ++ as) X
  | .o b :: r, F, Q => AllC r F fun as X => Q (b :: as) X
def AllO {A : Type} : (l : List Ob) → FunO A l → (List AO → A → Prop) → Prop
  | [], F, Q => ∀ r, F = some r → Q [] r
  | .row v t :: l, F, Q => ∀ xs, AllO l (F xs) fun os r => Q (.row v t xs :: os) r
  | .box cs :: l, F, Q => AllC cs F fun ds G => AllO l G fun os r => Q (.box ds :: os) r
theorem AllD.app {X : Type} : ∀ (l : List Ac) (F : FunC X l) (Q : List AV → X → Prop), AllD l F Q → ∀ (as : List AV) (r : X), appD l F as = some r → Q as r
  | [], F, Q, hF, as, r, h => by
    cases as with
    | nil =>
      have h := Option.some.inj h
      subst h
      exact hF
    | cons a as => simp [appD] at h
  | .v t :: l, F, Q, hF, as, r, h => by
    simp only [appD] at h
    split at h
    · rename_i x cs' hx
      rw [dV_ok _ _ _ _ hx]
      exact AllD.app l (F x) _ (hF x) cs' r h
    · cases h
  | .o q :: l, F, Q, hF, as, r, h => by
    cases as with
    | nil => simp [appD] at h
    | cons a as =>
      simp only [appD] at h
      split at h
      · rename_i hx
        have hx := eqA_ok _ _ hx
        subst hx
        exact AllD.app l F _ hF as r h
      · cases h
theorem AllN.app {X : Type} : ∀ (l : List (List Ac)) (F : FunN X l) (Q : List AV → X → Prop), AllN l F Q → ∀ (as : List AV) (r : X), appN l F as = some r → Q as r
  | [], F, Q, hF, as, r, h => by
    cases as with
    | nil =>
      have h := Option.some.inj h
      subst h
      exact hF
    | cons a as => simp [appN] at h
  | c :: l, F, Q, hF, as, r, h => by
    cases as with
    | nil => simp [appN] at h
    | cons a as =>
      cases a with
      | rp ds =>
        simp only [appN] at h
        split at h
        · rename_i G hG
          exact AllN.app l G _ (AllD.app c F _ hF ds G hG) as r h
        · cases h
      | _ => simp [appN] at h
theorem AllA.app {X : Type} : ∀ (l : List Ar) (F : FunA X l) (Q : List AV → X → Prop), AllA l F Q → ∀ (as : List AV) (r : X), appA l F as = some r → ∃ as', as'.length = as.length ∧ (∀ (j : Nat) (a a' : AV), as[j]? = some a → as'[j]? = some a' → ∀ (c : Cx) (w : World) (v : Value), V c w a v → V c w a' v) ∧ Q as' r
  | [], F, Q, hF, as, r, h => by
    cases as with
    | nil =>
      have h := Option.some.inj h
      subst h
      exact ⟨[], rfl, fun j a a' ha => by simp at ha, hF⟩
    | cons a as => simp [appA] at h
  | .v g t :: l, F, Q, hF, as, r, h => by
    cases as with
    | nil => simp [appA] at h
    | cons a as =>
      simp only [appA] at h
      split at h
      · rename_i x hx
        obtain ⟨as', k1, k2, k3⟩ := AllA.app l (F x) _ (hF x) as r h
        refine ⟨_ :: as', by simp [k1], fun j b b' hb hb' c w v hv => ?_, k3⟩
        cases j with
        | zero =>
          simp at hb hb'
          subst hb hb'
          exact unP_ok hx hv
        | succ j => exact k2 j b b' (by simpa using hb) (by simpa using hb') c w v hv
      · cases h
  | .o q :: l, F, Q, hF, as, r, h => by
    cases as with
    | nil => simp [appA] at h
    | cons a as =>
      simp only [appA] at h
      split at h
      · rename_i hx
        have hx := eqA_ok _ _ hx
        subst hx
        obtain ⟨as', k1, k2, k3⟩ := AllA.app l F _ hF as r h
        refine ⟨_ :: as', by simp [k1], fun j b b' hb hb' c w v hv => ?_, k3⟩
        cases j with
        | zero =>
          simp at hb hb'
          subst hb hb'
          exact hv
        | succ j => exact k2 j b b' (by simpa using hb) (by simpa using hb') c w v hv
      · cases h
  | .a q :: l, F, Q, hF, as, r, h => by
    cases as with
    | nil => simp [appA] at h
    | cons a as =>
      cases a with
      | agg ds =>
        simp only [appA] at h
        split at h
        · rename_i G hG
          obtain ⟨as', k1, k2, k3⟩ := AllA.app l G _ (AllD.app q F _ hF ds G hG) as r h
          refine ⟨_ :: as', by simp [k1], fun j b b' hb hb' c w v hv => ?_, k3⟩
          cases j with
          | zero =>
            simp at hb hb'
            subst hb hb'
            exact hv
          | succ j => exact k2 j b b' (by simpa using hb) (by simpa using hb') c w v hv
        · cases h
      | _ => simp [appA] at h
  | .r q :: l, F, Q, hF, as, r, h => by
    cases as with
    | nil => simp [appA] at h
    | cons a as =>
      cases a with
      | rp ds =>
        simp only [appA] at h
        split at h
        · rename_i G hG
          obtain ⟨as', k1, k2, k3⟩ := AllA.app l G _ (AllD.app q F _ hF ds G hG) as r h
          refine ⟨_ :: as', by simp [k1], fun j b b' hb hb' c w v hv => ?_, k3⟩
          cases j with
          | zero =>
            simp at hb hb'
            subst hb hb'
            exact hv
          | succ j => exact k2 j b b' (by simpa using hb) (by simpa using hb') c w v hv
        · cases h
      | _ => simp [appA] at h
  | .n f q :: l, F, Q, hF, as, r, h => by
    cases as with
    | nil => simp [appA] at h
    | cons a as =>
      cases a with
      | fn g ds =>
        simp only [appA] at h
        split at h
        · rename_i hfg
          have := Nat.eq_of_beq_eq_true hfg
          subst this
          split at h
          · rename_i G hG
            obtain ⟨as', k1, k2, k3⟩ := AllA.app l G _ (AllN.app q F _ hF ds G hG) as r h
            refine ⟨_ :: as', by simp [k1], fun j b b' hb hb' c w v hv => ?_, k3⟩
            cases j with
            | zero =>
              simp at hb hb'
              subst hb hb'
              exact hv
            | succ j => exact k2 j b b' (by simpa using hb) (by simpa using hb') c w v hv
          · cases h
        · cases h
      | _ => simp [appA] at h
theorem AllC.app {X : Type} : ∀ (l : List Ar) (F : FunA X l) (Q : List AV → X → Prop), AllC l F Q → ∀ (as : List AV) (r : X), appC l F as = some r → Q as r
  | [], F, Q, hF, as, r, h => by
    cases as with
    | nil =>
      have h := Option.some.inj h
      subst h
      exact hF
    | cons a as => simp [appC] at h
  | .v g t :: l, F, Q, hF, as, r, h => by
    simp only [appC] at h
    split at h
    · rename_i x cs' hx
      rw [dV_ok _ _ _ _ hx]
      exact AllC.app l (F x) _ (hF x) cs' r h
    · cases h
  | .o q :: l, F, Q, hF, as, r, h => by
    cases as with
    | nil => simp [appC] at h
    | cons a as =>
      simp only [appC] at h
      split at h
      · rename_i hx
        have hx := eqA_ok _ _ hx
        subst hx
        exact AllC.app l F _ hF as r h
      · cases h
  | .a q :: l, F, Q, hF, as, r, h => by
    cases as <;> simp [appC] at h
  | .r q :: l, F, Q, hF, as, r, h => by
    cases as <;> simp [appC] at h
  | .n f q :: l, F, Q, hF, as, r, h => by
    cases as <;> simp [appC] at h
theorem AllO.app {A : Type} : ∀ (l : List Ob) (F : FunO A l) (Q : List AO → A → Prop), AllO l F Q → ∀ (os : List AO) (r : A), appO l F os = some (some r) → Q os r
  | [], F, Q, hF, os, r, h => by
    cases os with
    | nil => exact hF r (Option.some.inj h)
    | cons a as => simp [appO] at h
  | .row v t :: l, F, Q, hF, os, r, h => by
    cases os with
    | nil => simp [appO] at h
    | cons a os =>
      cases a with
      | row v' t' xs =>
        simp only [appO] at h
        split at h
        · rename_i hv
          have := Nat.eq_of_beq_eq_true hv
          subst this
          split at h
          · rename_i ht
            subst ht
            exact AllO.app l (F xs) _ (hF xs) os r h
          · cases h
        · cases h
      | _ => simp [appO] at h
  | .box cs :: l, F, Q, hF, os, r, h => by
    cases os with
    | nil => simp [appO] at h
    | cons a os =>
      cases a with
      | box ds =>
        simp only [appO] at h
        split at h
        · rename_i G hG
          exact AllO.app l G _ (AllC.app cs F _ hF ds G hG) os r h
        · cases h
      | _ => simp [appO] at h
theorem tabI_ok {P : Program} {f : FuncId} {A : Type} {l : List Ar} {ls : List Ob} {enc : A → Ret} {F : FunA (FunO A ls) l} (hf : okFn P f) (h : AllA l F fun as G => AllO ls G fun os r => ACalls P f as os (enc r)) : TabOk P f (tabI l ls enc F) := fun as os p t hp ht => by
  unfold tabI at hp
  split at hp
  · rename_i G hG
    split at hp
    · rename_i x hx
      have hp := Option.some.inj hp
      subst hp
      have ht : x = some t := ht
      rw [ht] at hx
      obtain ⟨as', k1, k2, k3⟩ := AllA.app l F _ h as G hG
      exact ⟨hf, (AllO.app ls G _ k3 os t hx).args k1 k2⟩
    · cases hp
  · cases hp
theorem orT_ok {P : Program} {f : FuncId} {a b : List AV → List AO → Option Pack} (ha : TabOk P f a) (hb : TabOk P f b) : TabOk P f (orT a b) := fun as os p t hp ht => by
  unfold orT at hp
  split at hp
  · rename_i q hq
    have hp := Option.some.inj hp
    subst hp
    exact ha as os _ t hq ht
  · exact hb as os p t hp ht
/-- a function to which objects are handed over -/
theorem fnD {E : En} (hmix : E.P.follows .mixedOrders = true) {T : Nat → Table} (hT : ∀ n, TS E.P (T n)) {f : FuncId} (hb : fnB E.P f E.N = true) {A O : Type} {cd : Cd A} {od : Od O} (hc : cd.Ok) (ho : od.Ok) {m : Nat} {cvs : List Cv} {bump : List Nat} {k : Nat} {as : List AV} {os : List AO} {r : A × O} (hm1 : os.length ≤ m) (hm2 : m ≤ 1000)
    (h : go E T (fun st => finD cd od m (finA E.P (resOf E.P f) m cvs bump st)) k [.code (bodyOf E.P f)] (initA as os) = some r) : ACalls E.P f as os (encD cd od m r) := by
  obtain ⟨fn, code, h1, h2, h3, h4, h5, h6⟩ := fnB_ok hb
  rw [h4, h5] at h
  exact fn_ok hmix hT h1 h2 h3 (er := fun r => ((cd.enc m r.1).1, od.enc r.2 ++ (cd.enc m r.1).2)) (m := m) (fun st r hr => finD_ok hc ho hr) hm1 hm2 h
theorem okFn_of {P : Program} {f : FuncId} {N : Nat} (h : fnB P f N = true) : okFn P f := by
  obtain ⟨fn, code, h1, h2, h3, h4, h5, h6⟩ := fnB_ok h
  exact h6
end Go.Proofs.Ytohfaccniialmaa.Am
end
section
/- What an argument that reads as data is for the machine of values. -/
namespace Go.Proofs.Ytohfaccniialmaa.Am
open Go Go.RowKit Go.Deep Go.ChangeShapes
set_option linter.constructorNameAsVariable false
set_option linter.unusedVariables false
set_option linter.unusedSimpArgs false

/-- what is known of data that is read -/
def Qd : (t : Ty) → t.D → Prop
  | .i k, n => (Lit.int k n).wf = true
  | .b, _ => True
  | .s, x => x.size ≤ maxLen
  | .u, _ => True
  | .pr a b, x => Qd a x.1 ∧ Qd b x.2
  | .sl t, xs => xs.length ≤ maxLen ∧ ∀ x, x ∈ xs → Qd t x
/-- the fields lie one behind the other -/
def layB (P : Program) : Nat → TypeId → Bool
  | 0, _ => false
  | n + 1, t => match P.underlying t with
    | some (.slice e) => match tyOf P n e with | some u => Nat.beq (P.cellsOf e) u.sz && (Nat.blt 0 u.sz && layB P n e) | none => false
    | some (.struct fs) => layF (layB P n) (tyOf P n) P 0 fs.toList && (match fieldsTy (tyOf P n) fs.toList with | some u => Nat.beq (P.cellsOf t) u.sz | none => false)
    | _ => true
  where
  layF (lay : TypeId → Bool) (ty : TypeId → Option Ty) (P : Program) : Nat → List Field → Bool
  | _, [] => true
  | off, f :: r => match ty f.type with
    | some u => Nat.beq f.offset off && (Nat.beq (P.cellsOf f.type) u.sz && (lay f.type && layF lay ty P (off + u.sz) r))
    | none => false

section
variable {H : Type} {enc : TypeId × Value → H} {P : Program} {w : World} {base : Nat} {spare : Nat → Bool} {held : Bool} {c : Cx}
def CellsV (c : Cx) (w : World) (cs : List Value) (t : Ty) (x : t.D) : Prop := cs.length = t.sz ∧ ∀ (j : Nat) (a : AV), (view t x)[j]? = some a → V c w a (cs.getD j undef) ∧ (cs.getD j undef).oneCell' = true
theorem cellsV_one {t : Ty} {x : t.D} {a : AV} {v : Value} (hv : view t x = [a]) (hs : t.sz = 1) (h : V c w a v) (h1 : v.oneCell' = true) : CellsV c w [v] t x :=
  ⟨hs.symm, fun j b hj => by
    rw [hv] at hj
    cases j with
    | zero => simp at hj; subst hj; exact ⟨h, h1⟩
    | succ j => simp at hj⟩
theorem list_of' {α : Type} (R : Nat → α → Prop) : ∀ n : Nat, (∀ i, i < n → ∃ x, R i x) → ∃ xs : List α, xs.length = n ∧ ∀ i x, xs[i]? = some x → R i x
  | 0, _ => ⟨[], rfl, fun i x h => by simp at h⟩
  | n + 1, h => by
    obtain ⟨xs, hl, hx⟩ := list_of' R n (fun i hi => h i (by omega))
    obtain ⟨x, hr⟩ := h n (by omega)
    refine ⟨xs ++ [x], by simp [hl], fun i y hy => ?_⟩
    rcases Nat.lt_or_ge i xs.length with hi | hi
    · rw [List.getElem?_append_left hi] at hy
      exact hx i y hy
    · have hlt := (List.getElem?_eq_some_iff.1 hy).1
      rw [List.length_append, List.length_singleton] at hlt
      obtain rfl : i = xs.length := by omega
      simp at hy
      subst hy
      rw [hl]
      exact hr

/-- data that is read at a type -/
theorem trod_V (hF : ∀ b, b < w.heap.size → c.F b) : ∀ (n : Nat) (t : TypeId) (u : Ty), tyOf P n t = some u → layB P n t = true → ∀ (m : Nat) (cs : List Value) (y : DataW H × List MemPlace), DataW.trod enc P w base spare held m t cs = some y → ∃ x : u.D, Qd u x ∧ CellsV c w cs u x
  | 0, t, u, h, _, _, _, _, _ => by simp [tyOf] at h
  | n + 1, t, u, ht, hl, m, cs, y, h => by
    simp only [tyOf] at ht
    simp only [layB] at hl
    split at ht
    · rename_i k hu
      simp only [Option.some.injEq] at ht
      subst ht
      obtain ⟨x, rfl, _, hw⟩ := DataW.trod_int hu h
      exact ⟨x, hw, cellsV_one rfl rfl (.i k x) rfl⟩
    · rename_i hu
      simp only [Option.some.injEq] at ht
      subst ht
      obtain ⟨x, rfl, _⟩ := DataW.trod_bool hu h
      exact ⟨x, trivial, cellsV_one rfl rfl (.b x) rfl⟩
    · rename_i hu
      simp only [Option.some.injEq] at ht
      subst ht
      obtain ⟨x, rfl, _, hw⟩ := DataW.trod_string hu h
      exact ⟨x, hw, cellsV_one rfl rfl (.s x) rfl⟩
    · rename_i e hu
      rw [hu] at hl
      simp only at hl
      split at ht
      · rename_i v hv
        simp only [Option.some.injEq] at ht
        subst ht
        rw [hv] at hl
        simp only [Bool.and_eq_true] at hl
        obtain ⟨hc, hpos, hle⟩ := hl
        have hc := Nat.eq_of_beq_eq_true hc
        have hpos : 0 < v.sz := Nat.le_of_ble_eq_true hpos
        rcases open_slice hu h with ⟨rfl, _⟩ | ⟨a, len, cap, mm, k, D, Pl, rfl, _, hlc, hm, hmm, _, hi⟩
        · exact ⟨([] : List v.D), ⟨by simp, fun x hx => by cases hx⟩, cellsV_one (t := .sl v) rfl rfl (.lst v [] none 0 (fun _ => undef) (Nat.le_refl _) (fun h0 => by simp at h0) (fun j x hx => by simp at hx)) rfl⟩
        · have hlm : len ≤ mm := by rw [hmm]; split <;> omega
          obtain ⟨xs, hxl, hx⟩ := list_of' (fun i (x : v.D) => ∃ cs', w.cells? base (a.add (i * P.cellsOf e)) (P.cellsOf e) = some cs' ∧ Qd v x ∧ CellsV c w cs' v x) len (fun i hlt => by
            obtain ⟨cs', hcs, hk⟩ := hi i (by omega)
            obtain ⟨x, h1, h2⟩ := trod_V hF n e v hv hle _ _ _ hk
            exact ⟨x, cs', hcs, h1, h2⟩)
          subst hxl
          have elt : ∀ (j q : Nat) (x : v.D), xs[j]? = some x → q < v.sz → ∃ u, w.cell? (a.add (j * v.sz + q)) = some u ∧ u.oneCell' = true ∧ ∀ b, (view v x)[q]? = some b → V c w b u := fun j q x hj hq => by
            obtain ⟨cs', hcs, _, hcv1, hcv2⟩ := hx j x hj
            rw [hc] at hcs
            obtain ⟨_, hcl, hat⟩ := World.cells?_some hcs
            have := hat q hq
            rw [Deep.add_add] at this
            have hql : q < cs'.length := by rw [hcl]; exact hq
            have hvl : q < (view v x).length := by rw [view_len]; exact hq
            have h2 := hcv2 q _ (List.getElem?_eq_getElem hvl)
            refine ⟨cs'.getD q undef, by rw [this, List.getElem?_eq_getElem hql, List.getD_eq_getElem?_getD, List.getElem?_eq_getElem hql]; rfl, h2.2, fun b hb => (hcv2 q b hb).1⟩
          have key : V c w (.lst v xs) (.slice (some a) xs.length cap) := by
            refine .lst v xs (some a) cap (fun j => (w.cell? (a.add j)).getD undef) hlc (fun h0 => ⟨a, rfl, ?_, fun j hj => ?_⟩) (fun j x hj q b hb => ?_)
            · have hx0 : xs[0]? = some xs[0] := List.getElem?_eq_getElem h0
              obtain ⟨u, hcell, _⟩ := elt 0 0 _ hx0 hpos
              rw [World.cell?] at hcell
              refine hF _ ?_
              have hb : (a.add (0 * v.sz + 0)).block = a.block := add_block' _ _
              rw [hb] at hcell
              cases hh : w.heap[a.block]? with
              | none => rw [hh] at hcell; simp at hcell
              | some o => exact (Array.getElem?_eq_some_iff.1 hh).1
            · have hjn : j / v.sz < xs.length := (Nat.div_lt_iff_lt_mul hpos).2 hj
              obtain ⟨u, hcell, h1, _⟩ := elt (j / v.sz) (j % v.sz) _ (List.getElem?_eq_getElem hjn) (Nat.mod_lt _ hpos)
              have hidx : j / v.sz * v.sz + j % v.sz = j := by rw [Nat.mul_comm]; exact Nat.div_add_mod j v.sz
              rw [hidx] at hcell
              rw [hcell]
              exact ⟨rfl, h1⟩
            · have hq : q < v.sz := by rw [← view_len v x]; exact (List.getElem?_eq_some_iff.1 hb).1
              obtain ⟨u, hcell, _, hV⟩ := elt j q x hj hq
              show V c w b ((w.cell? (a.add (j * v.sz + q))).getD undef)
              rw [hcell]
              exact hV b hb
          refine ⟨xs, ⟨by omega, fun x hmem => ?_⟩, cellsV_one (t := .sl v) rfl rfl key rfl⟩
          obtain ⟨i, hil, hi'⟩ := List.getElem_of_mem hmem
          obtain ⟨_, _, hq, _⟩ := hx i x (by rw [List.getElem?_eq_getElem hil, hi'])
          exact hq
      · cases ht
    · rename_i fs hu
      rw [hu] at hl
      simp only [Bool.and_eq_true] at hl
      rw [ht] at hl
      obtain ⟨hl, hsz⟩ := hl
      have hsz := Nat.eq_of_beq_eq_true hsz
      obtain ⟨ys, k, _, _, hcl, hyl, hf⟩ := DataW.trod_struct hu h
      -- field by field
      have go : ∀ (l : List Field) (off i : Nat) (u : Ty), (∀ j, l[j]? = fs[i + j]?) → fieldsTy (tyOf P n) l = some u → layB.layF (layB P n) (tyOf P n) P off l = true → off + u.sz ≤ cs.length → ∃ x : u.D, Qd u x ∧ CellsV c w ((cs.drop off).take u.sz) u x := by
        intro l
        induction l with
        | nil =>
          intro off i u _ hu _ _
          simp only [fieldsTy, Option.some.injEq] at hu
          subst hu
          exact ⟨(), trivial, by simp [Ty.sz], fun j a hj => by simp [view] at hj⟩
        | cons f r ih =>
          intro off i u hfs hu hlf hle
          have hf0 : fs[i]? = some f := by simpa using (hfs 0).symm
          simp only [layB.layF] at hlf
          split at hlf
          case h_2 => cases hlf
          rename_i v hv
          simp only [Bool.and_eq_true] at hlf
          obtain ⟨ho, hsz, hly, hrest⟩ := hlf
          have ho := Nat.eq_of_beq_eq_true ho
          have hsz := Nat.eq_of_beq_eq_true hsz
          have one : ∃ x : v.D, Qd v x ∧ CellsV c w ((cs.drop off).take v.sz) v x := by
            have h1 := hf i f hf0
            have hil : i < ys.length := by rw [hyl]; exact (Array.getElem?_eq_some_iff.1 hf0).1
            rw [ho, hsz, List.getElem?_eq_getElem hil] at h1
            exact trod_V hF n f.type v hv hly _ _ _ h1
          cases r with
          | nil =>
            simp only [fieldsTy] at hu
            rw [hv] at hu
            cases hu
            exact one
          | cons g q =>
            simp only [fieldsTy] at hu
            rw [hv] at hu
            split at hu
            · rename_i a b ha hb
              cases ha
              simp only [Option.some.injEq] at hu
              subst hu
              simp only [Ty.sz] at hle
              obtain ⟨x, qx, cx1, cx2⟩ := one
              obtain ⟨z, qz, cz1, cz2⟩ := ih (off + v.sz) (i + 1) b (fun j => by
                have := hfs (j + 1)
                rw [List.getElem?_cons_succ] at this
                rw [this]
                congr 1
                omega) hb hrest (by omega)
              refine ⟨(x, z), ⟨qx, qz⟩, ?_, fun j a hj => ?_⟩
              · rw [List.length_take, List.length_drop]
                simp only [Ty.sz]
                omega
              · simp only [view, List.getElem?_append] at hj
                have gd : ∀ (o s i : Nat), i < s → o + s ≤ cs.length → ((cs.drop o).take s).getD i undef = cs.getD (o + i) undef := fun o s i h1 h2 => by
                  rw [List.getD_eq_getElem?_getD, List.getD_eq_getElem?_getD, List.getElem?_take_of_lt h1, List.getElem?_drop]
                rw [view_len] at hj
                split at hj
                · rename_i hlt
                  have := cx2 j a hj
                  rw [gd _ _ _ hlt (by omega)] at this
                  rw [gd _ _ _ (by simp only [Ty.sz]; omega) (by simp only [Ty.sz]; omega)]
                  exact this
                · rename_i hlt
                  have hjb : j - v.sz < b.sz := by rw [← view_len b z]; exact (List.getElem?_eq_some_iff.1 hj).1
                  have := cz2 (j - v.sz) a hj
                  rw [gd _ _ _ hjb (by omega), show off + v.sz + (j - v.sz) = off + j by omega] at this
                  rw [gd _ _ _ (by simp only [Ty.sz]; omega) (by simp only [Ty.sz]; omega)]
                  exact this
            · cases hu
      obtain ⟨x, q, cv⟩ := go fs.toList 0 0 u (fun j => by simp) ht hl (by rw [hcl, hsz]; omega)
      rw [List.drop_zero, List.take_of_length_le (by rw [hcl, hsz]; exact Nat.le_refl _)] at cv
      exact ⟨x, q, cv⟩
    · cases ht
/-- an argument: its value, and what is known of it -/
theorem trod_arg (hF : ∀ b, b < w.heap.size → c.F b) {n : Nat} {t : TypeId} {u : Ty} {agg : Bool} (ht : tyOf P n t = some u) (hl : layB P n t = true) (ha : aggT P t = some agg) {v : Value} (hv : agg = true → ∃ vs, v = .agg vs) (hn : agg = false → u.sz = 1 ∧ ∃ x, v.cells = #[x] ∧ v = x) {m : Nat} {y : DataW H × List MemPlace} (h : DataW.trod enc P w base spare held m t v.cells.toList = some y) :
    ∃ x : u.D, Qd u x ∧ V c w (mkP agg u x) v := by
  obtain ⟨x, q, hc, hV⟩ := trod_V hF n t u ht hl m _ y h
  refine ⟨x, q, ?_⟩
  have gd : ∀ j, v.cells.toList.getD j undef = v.cells.getD j undef := fun j => by simp [Array.getD_eq_getD_getElem?, List.getD_eq_getElem?_getD]
  cases agg with
  | true =>
    obtain ⟨vs, rfl⟩ := hv rfl
    have hc : vs.size = u.sz := by simpa [Value.cells] using hc
    refine .agg (view u x) vs (by rw [hc, view_len]) (fun j hj => ?_) fun j a hj => ?_
    · have := hV j _ (List.getElem?_eq_getElem hj)
      rw [gd] at this
      exact this.2
    · have := hV j a hj
      rw [gd] at this
      exact this.1
  | false =>
    obtain ⟨hs, z, hz, rfl⟩ := hn rfl
    simp only [mkP]
    split
    · rename_i a hva
      have := (hV 0 a (by rw [hva]; rfl)).1
      rw [gd, hz] at this
      exact this
    · exact .bad _
end
/-- what a law's function answers, in a world -/
theorem calls_of {P : Program} {f : FuncId} {as : List AV} {r : Ret} {vs : Array Value} {w : World} (hA : ACalls P f as [] r) (hs : vs.size = as.length) (hv : ∀ j a, as[j]? = some a → V ⟨fun _ => none, fun b => b < w.heap.size⟩ w a (vs.getD j undef)) (hr : ∃ x, r.1 = .b x) :
    Calls P f vs w fun e w' => e = .returned (match r.1 with | .b x => .bool x | _ => undef) ∧ Below w.heap.size w w' := by
  obtain ⟨x, hx⟩ := hr
  refine (hA ⟨fun _ => none, fun b => b < w.heap.size⟩ w vs hs hv ⟨rfl, rfl, rfl, Nat.le_refl _, fun _ _ _ => rfl, fun o x h => (by simp [obL] at h), fun o i h => (by cases h), fun o o' x x' i i' b h => (by simp [obL] at h), fun b h => h, fun o x i b h => (by simp [obL] at h), fun b h => h, fun b h => .inl h⟩).mono fun e w' ⟨v, c', he, hv', hm, _⟩ => ?_
  rw [hx] at hv' ⊢
  cases hv'
  refine ⟨he, hm.os, hm.tape, hm.output, hm.size, fun k hk => hm.frame k hk fun ⟨o, y, i, h1, _⟩ => (by simp [obL] at h1)⟩
theorem vals_nil {c : Cx} {w : World} : ∀ (j : Nat) (b : AV), ([] : List AV)[j]? = some b → V c w b (([] : List Value).getD j undef) := fun j b h => by simp at h
theorem vals_cons {c : Cx} {w : World} {a : AV} {as : List AV} {v : Value} {vs : List Value} (h : V c w a v) (hr : ∀ (j : Nat) (b : AV), as[j]? = some b → V c w b (vs.getD j undef)) : ∀ (j : Nat) (b : AV), (a :: as)[j]? = some b → V c w b ((v :: vs).getD j undef) := fun j b hj => by
  cases j with
  | zero => simp at hj; subst hj; exact h
  | succ j => exact hr j b (by simpa using hj)
theorem calls_ofL {P : Program} {f : FuncId} {as : List AV} {r : Ret} {vs : List Value} {w : World} {x : Bool} (hA : ACalls P f as [] r) (hx : r.1 = .b x) (hs : vs.length = as.length) (hv : ∀ (j : Nat) (a : AV), as[j]? = some a → V ⟨fun _ => none, fun b => b < w.heap.size⟩ w a (vs.getD j undef)) :
    Calls P f vs.toArray w fun e w' => e = .returned (.bool x) ∧ Below w.heap.size w w' := by
  refine (calls_of hA (by simpa using hs) (fun j a ha => ?_) ⟨x, hx⟩).mono fun e w' h => ?_
  · have := hv j a ha
    rwa [show vs.toArray.getD j undef = vs.getD j undef by simp [Array.getD_eq_getD_getElem?, List.getD_eq_getElem?_getD]]
  · rw [hx] at h
    exact h
end Go.Proofs.Ytohfaccniialmaa.Am
end
section
/- From some number of rounds on: what a function answers. -/
namespace Go.Proofs.Ytohfaccniialmaa.Am
open Go
set_option linter.unusedVariables false
set_option linter.unusedSimpArgs false

def Ev {α : Type} (f : Nat → Option α) (a : α) : Prop := ∃ n, ∀ k, n ≤ k → f k = some a
section
variable {α β : Type} {f g : Nat → Option α} {a : α}
theorem br_t {x : Bool} {p q : Option α} (h : x = true) : br x p q = p := by rw [h]; rfl
theorem br_f {x : Bool} {p q : Option α} (h : x = false) : br x p q = q := by rw [h]; rfl
theorem bd_some {x : Option α} {f : α → Option β} {a : α} (h : x = some a) : bd x f = f a := by rw [h]; rfl
theorem gt_some {xs : List α} {j : Nat} {f : α → Option β} {a : α} (h : xs[j]? = some a) : gt xs j f = f a := by unfold gt; rw [h]
theorem both_self {x : Option α} : both x x = x := by
  unfold both
  split <;> rename_i h _
  · rfl
  · exact absurd rfl h
theorem both_eq {x y : Option α} {a : α} (h : x = some a) (k : y = some a) : both x y = some a := by rw [h, k]; exact both_self
theorem Ev.step (h : ∀ k, f (k + 1) = g k) (e : Ev g a) : Ev f a := by
  obtain ⟨n, e⟩ := e
  refine ⟨n + 1, fun k hk => ?_⟩
  obtain ⟨m, rfl⟩ : ∃ m, k = m + 1 := ⟨k - 1, by omega⟩
  rw [h m]
  exact e m (by omega)
theorem Ev.now (a : α) : Ev (fun _ => some a) a := ⟨0, fun _ _ => rfl⟩
theorem Ev.ret {a b : α} (h : a = b) : Ev (fun _ => some a) b := h ▸ Ev.now a
theorem Ev.eq {b : α} (e : Ev f a) (h : a = b) : Ev f b := h ▸ e
theorem Ev.pos {x : Bool} (h : x = true) (e : Ev f a) : Ev (fun k => br x (f k) (g k)) a := by
  obtain ⟨n, e⟩ := e
  exact ⟨n, fun k hk => (br_t h).trans (e k hk)⟩
theorem Ev.neg {x : Bool} (h : x = false) (e : Ev g a) : Ev (fun k => br x (f k) (g k)) a := by
  obtain ⟨n, e⟩ := e
  exact ⟨n, fun k hk => (br_f h).trans (e k hk)⟩
theorem Ev.bind {f : Nat → Option β} {g : Nat → β → Option α} {b : β} (e : Ev f b) (h : Ev (fun k => g k b) a) : Ev (fun k => bd (f k) (g k)) a := by
  obtain ⟨n, e⟩ := e
  obtain ⟨m, h⟩ := h
  exact ⟨n + m, fun k hk => (bd_some (e k (by omega))).trans (h k (by omega))⟩
/-- a callee without rounds -/
theorem Ev.here {x : Option β} {g : Nat → β → Option α} {b : β} (e : x = some b) (h : Ev (fun k => g k b) a) : Ev (fun k => bd x (g k)) a := by
  obtain ⟨m, h⟩ := h
  exact ⟨m, fun k hk => (bd_some e).trans (h k hk)⟩
theorem Ev.at {xs : List β} {j : Nat} {g : Nat → β → Option α} {b : β} (e : xs[j]? = some b) (h : Ev (fun k => g k b) a) : Ev (fun k => gt xs j (g k)) a := by
  obtain ⟨m, h⟩ := h
  exact ⟨m, fun k hk => (gt_some e).trans (h k hk)⟩
/-- a place of a list, at a number that counts -/
theorem Ev.get {xs : List β} {i : Nat} {g : Nat → β → Option α} (hi : i < xs.length) (h : Ev (fun k => g k xs[i]) a) : Ev (fun k => gt xs (Int.toNat (i : Int)) (g k)) a :=
  Ev.at (by rw [Int.toNat_natCast]; exact List.getElem?_eq_getElem hi) h
theorem Ev.both (e : Ev f a) (h : Ev g a) : Ev (fun k => Am.both (f k) (g k)) a := by
  obtain ⟨n, e⟩ := e
  obtain ⟨m, h⟩ := h
  exact ⟨n + m, fun k hk => both_eq (e k (by omega)) (h k (by omega))⟩
theorem Ev.loop (n : Nat) (g : Nat → Nat → Option β) (R : Nat → β) (hend : Ev (fun k => g k n) (R n)) (hstep : ∀ i, i < n → Ev (fun k => g k (i + 1)) (R (i + 1)) → Ev (fun k => g k i) (R i)) : ∀ i, i ≤ n → Ev (fun k => g k i) (R i) := by
  intro i hi
  obtain ⟨d, hd⟩ : ∃ d, n = i + d := ⟨n - i, by omega⟩
  induction d generalizing i with
  | zero => obtain rfl : i = n := by omega
            exact hend
  | succ d ih => exact hstep i (by omega) (ih (i + 1) (by omega) (by omega))
theorem Ev.some (e : Ev f a) : ∃ k, f k = Option.some a := by
  obtain ⟨n, e⟩ := e
  exact ⟨n, e n (Nat.le_refl _)⟩
end
theorem wrap_ok {x : Int} (h0 : -9223372036854775808 ≤ x) (h1 : x ≤ 9223372036854775807) : IntKind.wrap .i64 x = x := by
  rw [IntKind.wrap_i64]
  omega
/-- a counter's next value, as the loops write it -/
theorem next_ok (i n : Nat) (h : i < n) (hn : n ≤ 9223372036854775000) : IntKind.wrap .i64 ((i : Int) + 1) = ((i + 1 : Nat) : Int) := by
  rw [wrap_ok (by omega) (by omega)]; rfl
theorem set_step {α : Type} (xs : List α) (z : α) (i : Nat) (h : i < xs.length) : (xs.take i ++ List.replicate (xs.length - i) z).set i xs[i] = xs.take (i + 1) ++ List.replicate (xs.length - (i + 1)) z := by
  obtain ⟨d, hd⟩ : ∃ d, xs.length - i = d + 1 := ⟨xs.length - i - 1, by omega⟩
  rw [hd, List.replicate_succ, List.set_append_right i _ (by rw [List.length_take]; omega), List.take_succ_eq_append_getElem h, List.append_assoc]
  rw [show i - (xs.take i).length = 0 from by rw [List.length_take]; omega, List.set_cons_zero, show xs.length - (i + 1) = d from by omega]
  rfl
theorem seq_iff {x y : ByteArray} : seq x y = true ↔ x = y := by
  unfold seq
  rw [beq_iff_eq]
  constructor
  · intro h
    cases x with | mk a => cases y with | mk b =>
      have : a.toList = b.toList := by simpa [ByteArray.toList_eq] using h
      rw [Array.toList_inj.1 this]
  · intro h; rw [h]
end Go.Proofs.Ytohfaccniialmaa.Am
end
section
/- From some number of rounds and some depth on: what a function that calls itself answers. -/
namespace Go.Proofs.Ytohfaccniialmaa.Am
open Go
set_option linter.unusedVariables false
set_option linter.unusedSimpArgs false

def Ew {α : Type} (f : Nat → Nat → Option α) (a : α) : Prop := ∃ n, ∀ d k, n ≤ d → n ≤ k → f d k = some a
section
variable {α β : Type} {f g : Nat → Nat → Option α} {a : α}
theorem Ew.ev (e : Ew f a) : Ev (fun k => f k k) a := by
  obtain ⟨n, e⟩ := e
  exact ⟨n, fun k hk => e k k hk hk⟩
theorem Ev.ew {f : Nat → Option α} (e : Ev f a) : Ew (fun _ k => f k) a := by
  obtain ⟨n, e⟩ := e
  exact ⟨n, fun d k _ hk => e k hk⟩
/-- a call of itself -/
theorem Ew.deep (h : ∀ d k, f (d + 1) (k + 1) = g d k) (e : Ew g a) : Ew f a := by
  obtain ⟨n, e⟩ := e
  refine ⟨n + 1, fun d k hd hk => ?_⟩
  obtain ⟨m, rfl⟩ : ∃ m, k = m + 1 := ⟨k - 1, by omega⟩
  obtain ⟨c, rfl⟩ : ∃ c, d = c + 1 := ⟨d - 1, by omega⟩
  rw [h c m]
  exact e c m (by omega) (by omega)
/-- a round -/
theorem Ew.step (h : ∀ d k, f d (k + 1) = g d k) (e : Ew g a) : Ew f a := by
  obtain ⟨n, e⟩ := e
  refine ⟨n + 1, fun d k hd hk => ?_⟩
  obtain ⟨m, rfl⟩ : ∃ m, k = m + 1 := ⟨k - 1, by omega⟩
  rw [h d m]
  exact e d m (by omega) (by omega)
theorem Ew.now (a : α) : Ew (fun _ _ => some a) a := ⟨0, fun _ _ _ _ => rfl⟩
theorem Ew.ret {a b : α} (h : a = b) : Ew (fun _ _ => some a) b := h ▸ Ew.now a
theorem Ew.eq {b : α} (e : Ew f a) (h : a = b) : Ew f b := h ▸ e
theorem Ew.pos {x : Bool} (h : x = true) (e : Ew f a) : Ew (fun d k => br x (f d k) (g d k)) a := by
  obtain ⟨n, e⟩ := e
  exact ⟨n, fun d k hd hk => (br_t h).trans (e d k hd hk)⟩
theorem Ew.neg {x : Bool} (h : x = false) (e : Ew g a) : Ew (fun d k => br x (f d k) (g d k)) a := by
  obtain ⟨n, e⟩ := e
  exact ⟨n, fun d k hd hk => (br_f h).trans (e d k hd hk)⟩
theorem Ew.bind {f : Nat → Nat → Option β} {g : Nat → Nat → β → Option α} {b : β} (e : Ew f b) (h : Ew (fun d k => g d k b) a) : Ew (fun d k => bd (f d k) (g d k)) a := by
  obtain ⟨n, e⟩ := e
  obtain ⟨m, h⟩ := h
  exact ⟨n + m, fun d k hd hk => (bd_some (e d k (by omega) (by omega))).trans (h d k (by omega) (by omega))⟩
theorem Ew.here {x : Option β} {g : Nat → Nat → β → Option α} {b : β} (e : x = some b) (h : Ew (fun d k => g d k b) a) : Ew (fun d k => bd x (g d k)) a := by
  obtain ⟨m, h⟩ := h
  exact ⟨m, fun d k hd hk => (bd_some e).trans (h d k hd hk)⟩
theorem Ew.at {xs : List β} {j : Nat} {g : Nat → Nat → β → Option α} {b : β} (e : xs[j]? = some b) (h : Ew (fun d k => g d k b) a) : Ew (fun d k => gt xs j (g d k)) a := by
  obtain ⟨m, h⟩ := h
  exact ⟨m, fun d k hd hk => (gt_some e).trans (h d k hd hk)⟩
theorem Ew.get {xs : List β} {i : Nat} {g : Nat → Nat → β → Option α} (hi : i < xs.length) (h : Ew (fun d k => g d k xs[i]) a) : Ew (fun d k => gt xs (Int.toNat (i : Int)) (g d k)) a :=
  Ew.at (by rw [Int.toNat_natCast]; exact List.getElem?_eq_getElem hi) h
end
end Go.Proofs.Ytohfaccniialmaa.Am
end
section
/- What a function answers from some number of rounds on, as a value; the machine's words as words of Option. -/
namespace Go.Proofs.Ytohfaccniialmaa.Am
open Go
set_option linter.unusedVariables false
set_option linter.unusedSimpArgs false

section
variable {α β : Type}
theorem Ew.uniq {f : Nat → Nat → Option α} {a b : α} (h : Ew f a) (g : Ew f b) : a = b := by
  obtain ⟨n, h⟩ := h
  obtain ⟨m, g⟩ := g
  exact Option.some.inj ((h (n + m) (n + m) (by omega) (by omega)).symm.trans (g (n + m) (n + m) (by omega) (by omega)))
open Classical in
noncomputable def lim (f : Nat → Nat → Option α) : Option α := if h : ∃ a, Ew f a then some h.choose else none
theorem lim_eq {f : Nat → Nat → Option α} {a : α} (h : Ew f a) : lim f = some a := by
  have e : ∃ a, Ew f a := ⟨a, h⟩
  unfold lim
  rw [dif_pos e, Ew.uniq e.choose_spec h]
theorem lim_ew {f : Nat → Nat → Option α} {a : α} (h : lim f = some a) : Ew f a := by
  unfold lim at h
  split at h
  · rename_i e
    rw [← Option.some.inj h]; exact e.choose_spec
  · cases h
theorem lim_ev {f : Nat → Option α} {a : α} (h : lim (fun _ k => f k) = some a) : Ev f a := (lim_ew h).ev
theorem ev_lim {f : Nat → Option α} {a : α} (h : Ev f a) : lim (fun _ k => f k) = some a := lim_eq h.ew
/-- if the value on the right is there, f comes to it -/
def Lw (f : Nat → Nat → Option α) (x : Option α) : Prop := ∀ a, x = some a → Ew f a
theorem Lw.now (x : Option α) : Lw (fun _ _ => x) x := fun a h => ⟨0, fun _ _ _ _ => h⟩
theorem Lw.br {c : Bool} {f g : Nat → Nat → Option α} {x y : Option α} (hf : Lw f x) (hg : Lw g y) : Lw (fun d k => br c (f d k) (g d k)) (br c x y) := by
  cases c
  · exact hg
  · exact hf
theorem Lw.bd {f : Nat → Nat → Option β} {g : Nat → Nat → β → Option α} {x : Option β} {y : β → Option α} (hf : Lw f x) (hg : ∀ b, Lw (fun d k => g d k b) (y b)) : Lw (fun d k => bd (f d k) (g d k)) (bd x y) := by
  intro a h
  cases x with
  | none => cases h
  | some b => exact Ew.bind (hf b rfl) (hg b a h)
theorem Lw.gt {xs : List β} {j : Nat} {g : Nat → Nat → β → Option α} {y : β → Option α} (hg : ∀ b, Lw (fun d k => g d k b) (y b)) : Lw (fun d k => gt xs j (g d k)) (gt xs j y) := by
  intro a h
  unfold Am.gt at h
  split at h
  · rename_i b e; exact Ew.at e (hg b a h)
  · cases h
theorem Lw.both {f g : Nat → Nat → Option α} {x y : Option α} (hf : Lw f x) (hg : Lw g y) : Lw (fun d k => both (f d k) (g d k)) (both x y) := by
  intro a h
  unfold Am.both at h
  split at h
  · rename_i e _
    obtain ⟨n, p⟩ := hf a h
    obtain ⟨m, q⟩ := hg a (e ▸ h)
    exact ⟨n + m, fun d k hd hk => both_eq (p d k (by omega) (by omega)) (q d k (by omega) (by omega))⟩
  · cases h
theorem Lw.lim (f : Nat → Nat → Option α) : Lw f (lim f) := fun a h => lim_ew h
theorem Lw.diag {F : Nat → Nat → Option α} {f : Nat → Option α} (h : ∀ k, f k = F k k) : Lw (fun _ k => f k) (Am.lim F) := fun a e => by
  obtain ⟨n, p⟩ := lim_ew e
  exact ⟨n, fun _ k _ hk => (h k).trans (p k k hk hk)⟩
/-- a call -/
theorem vstep {f g : Nat → Nat → Option α} {x : Option α} {a : α} (h : ∀ d k, f d (k + 1) = g d k) (e : x = some a) (le : Lw g x := by
  repeat' first
    | with_reducible exact Lw.now _
    | with_reducible apply Lw.br
    | with_reducible refine Lw.bd ?_ fun _ => ?_
    | with_reducible refine Lw.gt fun _ => ?_
    | with_reducible apply Lw.both
    | exact Lw.lim _
    | exact Lw.diag fun _ => rfl) : Am.lim f = some a := lim_eq (Ew.step h (le a e))
theorem vdeep {f g : Nat → Nat → Option α} {x : Option α} {a : α} (h : ∀ d k, f (d + 1) (k + 1) = g d k) (e : x = some a) (le : Lw g x := by
  repeat' first
    | with_reducible exact Lw.now _
    | with_reducible apply Lw.br
    | with_reducible refine Lw.bd ?_ fun _ => ?_
    | with_reducible refine Lw.gt fun _ => ?_
    | with_reducible apply Lw.both
    | exact Lw.lim _
    | exact Lw.diag fun _ => rfl) : Am.lim f = some a := lim_eq (Ew.deep h (le a e))
@[simp] theorem br_if (c : Bool) (x y : Option α) : br c x y = if c = true then x else y := by cases c <;> rfl
@[simp] theorem bd_s (a : β) (f : β → Option α) : bd (some a) f = f a := rfl
@[simp] theorem bd_n (f : β → Option α) : bd none f = none := rfl
theorem gt_at {xs : List β} {j : Nat} (f : β → Option α) (h : j < xs.length) : gt xs j f = f xs[j] := gt_some (List.getElem?_eq_getElem h)
@[simp] theorem gt_zero (x : β) (xs : List β) (f : β → Option α) : gt (x :: xs) 0 f = f x := rfl
@[simp] theorem gt_one (x y : β) (xs : List β) (f : β → Option α) : gt (x :: y :: xs) 1 f = f y := rfl
@[simp] theorem both_same (x : Option α) : both x x = x := both_self
theorem bd_ite (c : Prop) [Decidable c] (x y : Option β) (f : β → Option α) : bd (if c then x else y) f = if c then bd x f else bd y f := by split <;> rfl
/-- rounds over the places of a row: L i s answers what P tells of the rest of the row -/
theorem rounds {σ : Type} {xs : List β} (L : Nat → σ → Option α) (P : List β → σ → α) (Inv : Nat → σ → Prop)
    (hend : ∀ s, Inv xs.length s → L xs.length s = some (P [] s))
    (hstep : ∀ i (h : i < xs.length) s, Inv i s → (∀ s', Inv (i + 1) s' → L (i + 1) s' = some (P (xs.drop (i + 1)) s')) → L i s = some (P (xs[i] :: xs.drop (i + 1)) s)) :
    ∀ i, i ≤ xs.length → ∀ s, Inv i s → L i s = some (P (xs.drop i) s) := by
  intro i hi
  obtain ⟨d, hd⟩ : ∃ d, xs.length = i + d := ⟨xs.length - i, by omega⟩
  induction d generalizing i with
  | zero =>
    intro s hs
    obtain rfl : i = xs.length := by omega
    rw [List.drop_length]; exact hend s hs
  | succ d ih =>
    intro s hs
    have hlt : i < xs.length := by omega
    rw [List.drop_eq_getElem_cons hlt]
    exact hstep i hlt s hs fun s' hs' => ih (i + 1) (by omega) (by omega) s' hs'
/-- rounds that count -/
theorem counts {σ : Type} {n : Nat} (L : Nat → σ → Option α) (P : Nat → σ → α) (Inv : Nat → σ → Prop)
    (hend : ∀ s, Inv n s → L n s = some (P n s))
    (hstep : ∀ i, i < n → ∀ s, Inv i s → (∀ s', Inv (i + 1) s' → L (i + 1) s' = some (P (i + 1) s')) → L i s = some (P i s)) :
    ∀ i, i ≤ n → ∀ s, Inv i s → L i s = some (P i s) := by
  intro i hi
  obtain ⟨d, hd⟩ : ∃ d, n = i + d := ⟨n - i, by omega⟩
  induction d generalizing i with
  | zero =>
    intro s hs
    obtain rfl : i = n := by omega
    exact hend s hs
  | succ d ih =>
    intro s hs
    exact hstep i (by omega) s hs fun s' hs' => ih (i + 1) (by omega) (by omega) s' hs'
end
theorem wrap_next (i n : Nat) (h : i < n) (hn : n ≤ 9223372036854775000) : IntKind.wrap .i64 ((i : Int) + 1) = ((i + 1 : Nat) : Int) := next_ok i n h hn
end Go.Proofs.Ytohfaccniialmaa.Am
end
