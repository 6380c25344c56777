/- What the machine of values does at an operation, the program does: pure operations, new objects, reads. -/
import Derived.Test.YtohfaccniialmaaAmM
import Derived.Laws.StructEq
namespace Go.Proofs.Ytohfaccniialmaa.Am
open Go
set_option linter.constructorNameAsVariable false
set_option linter.unusedVariables false
set_option linter.unusedSimpArgs false

def run {α : Type} (T : Table) : Tree α → Option α
  | .ret a => some a
  | .fail => none
  | .br x a b => match x with | true => run T a | false => run T b
  | .gt _ xs j k => match xs[j]? with | some x => run T (k x) | none => none
  | .call f as os k => match T f as os with
    | some p => match p.x with | some t => run T (k (p.enc t)) | none => none
    | none => none
theorem cps_run {α R : Type} (T : Table) (K : α → Option R) (r : R) : ∀ t : Tree α, cps T t K = some r → ∃ a, run T t = some a ∧ K a = some r
  | .ret a, h => ⟨a, rfl, h⟩
  | .fail, h => by simp [cps] at h
  | .br x a b, h => by
    cases x
    · exact cps_run T K r b h
    · exact cps_run T K r a h
  | .gt t xs j k, h => by
    simp only [cps, gt] at h
    simp only [run]
    cases e : xs[j]? with
    | none => rw [e] at h; cases h
    | some x => rw [e] at h; exact cps_run T K r (k x) h
  | .call f as os k, h => by
    simp only [cps] at h
    simp only [run]
    cases e : T f as os with
    | none => rw [e] at h; cases h
    | some p =>
      rw [e] at h
      simp only [bd] at h
      simp only
      cases e2 : p.x with
      | none => rw [e2] at h; cases h
      | some t => rw [e2] at h; exact cps_run T K r _ h
theorem run_bind {α β : Type} (T : Table) (f : α → Tree β) (b : β) : ∀ t : Tree α, run T (t.bind f) = some b → ∃ a, run T t = some a ∧ run T (f a) = some b
  | .ret a, h => ⟨a, rfl, h⟩
  | .fail, h => by simp [Tree.bind, run] at h
  | .br x a c, h => by
    cases x
    · exact run_bind T f b c h
    · exact run_bind T f b a h
  | .gt t xs j k, h => by
    simp only [Tree.bind, run] at h
    simp only [run]
    cases e : xs[j]? with
    | none => rw [e] at h; cases h
    | some x => rw [e] at h; exact run_bind T f b (k x) h
  | .call g as os k, h => by
    simp only [Tree.bind, run] at h
    simp only [run]
    cases e : T g as os with
    | none => rw [e] at h; cases h
    | some p =>
      rw [e] at h
      simp only at h ⊢
      cases e2 : p.x with
      | none => rw [e2] at h; cases h
      | some t => rw [e2] at h; exact run_bind T f b _ h
theorem run_opt {α β : Type} {T : Table} {x : Option α} {f : α → Tree β} {b : β} (h : run T (opt x f) = some b) : ∃ a, x = some a ∧ run T (f a) = some b := by
  cases x with
  | none => simp [opt, run] at h
  | some a => exact ⟨a, rfl, h⟩
theorem run_grd {β : Type} {T : Table} {c : Bool} {t : Tree β} {b : β} (h : run T (grd c t) = some b) : c = true ∧ run T t = some b := by
  cases c with
  | false => simp [grd, run] at h
  | true => exact ⟨rfl, h⟩
theorem run_fresh {β : Type} {T : Table} {ob : Nat → Option AO} {k : Nat} {t : Tree β} {b : β} (h : run T (fresh ob k t) = some b) : ob k = none ∧ run T t = some b := by
  unfold fresh at h
  cases e : ob k with
  | none => rw [e] at h; exact ⟨rfl, h⟩
  | some _ => rw [e] at h; simp [run] at h
theorem run_ret {α : Type} {T : Table} {a b : α} (h : run T (.ret a) = some b) : a = b := Option.some.inj h
theorem run_fail {α : Type} {T : Table} {b : α} (h : run T (.fail : Tree α) = some b) : False := by simp [run] at h

/-- what an operation does -/
def Eff (P : Program) (B : Base) (c : Cx) (ob : Nat → Option AO) (w : World) (s : Sem Next) (d : Delta) : Prop :=
  ∃ v w' c', (s.run P w = .ok (.value v) w' ∨ (s.run P w = .ok .skip w' ∧ v = undef)) ∧ Mem B c' (fup ob d.ow) w' ∧ Ext c w c' w' ∧ V c' w' d.v v

section
variable {P : Program} {B : Base} {c : Cx} {ob : Nat → Option AO} {w : World} {s : Sem Next} {d : Delta}
theorem Eff.pure (hm : Mem B c ob w) {v : Value} {a : AV} {rd : List Nat} (hs : s.run P w = .ok (.value v) w) (hv : V c w a v) (hd : d = ⟨a, [], rd⟩) : Eff P B c ob w s d := by
  subst hd
  exact ⟨v, w, c, .inl hs, hm, .refl c w, hv⟩
theorem Eff.now (hm : Mem B c ob w) {T : Table} {v : Value} {a : AV} (h : run T (now a) = some d) (hs : s.run P w = .ok (.value v) w) (hv : V c w a v) : Eff P B c ob w s d :=
  .pure hm hs hv (run_ret h).symm

theorem V.inv_b {x : Bool} {v : Value} (h : V c w (.b x) v) : v = .bool x := by cases h; rfl
theorem V.inv_i {k : IntKind} {n : Int} {v : Value} (h : V c w (.i k n) v) : v = .int k n := by cases h; rfl
theorem V.inv_s {x : ByteArray} {v : Value} (h : V c w (.s x) v) : v = .string x := by cases h; rfl

/-! ### arithmetic -/
theorem eqGuard_int (op : BinOp) (t : TypeId) (x y : Operand) (k k' : IntKind) (n m : Int) : (eqGuard op t x y (.int k n) (.int k' m)).run P w = .ok () w := by
  cases op <;> rfl
theorem eqGuard_str (op : BinOp) (t : TypeId) (x y : Operand) (a b : ByteArray) : (eqGuard op t x y (.string a) (.string b)).run P w = .ok () w := by
  cases op <;> rfl
theorem eqGuard_bool (op : BinOp) (t : TypeId) (x y : Operand) (a b : Bool) : (eqGuard op t x y (.bool a) (.bool b)).run P w = .ok () w := by
  cases op <;> rfl

theorem binI_ok (hm : Mem B c ob w) {T : Table} {t : TypeId} {op : BinOp} {k : IntKind} {x y : Int} (h : run T (binI op k x y) = some d) {s : Sem Next}
    (hs : ∀ v, (binOp op t (.int k x) (.int k y)).run P w = .ok v w → s.run P w = .ok (.value v) w) : Eff P B c ob w s d := by
  have key : ∀ (v : Value) (a : AV), run T (now a) = some d → (binOp op t (.int k x) (.int k y)).run P w = .ok v w → V c w a v → Eff P B c ob w s d := fun v a h1 h2 h3 => .now hm h1 (hs v h2) h3
  cases op <;> simp only [binI] at h
  case add => exact key _ _ h (by simp [binOp, Op.intArith]) (.i _ _)
  case sub => exact key _ _ h (by simp [binOp, Op.intArith]) (.i _ _)
  case mul => exact key _ _ h (by simp [binOp, Op.intArith]) (.i _ _)
  case quo =>
    obtain ⟨h0, h⟩ := run_grd h
    have h0 : ¬ y = 0 := by simpa using h0
    exact key _ _ h (by simp [binOp, Op.intDiv, h0]) (.i _ _)
  case rem =>
    obtain ⟨h0, h⟩ := run_grd h
    have h0 : ¬ y = 0 := by simpa using h0
    exact key _ _ h (by simp [binOp, Op.intDiv, h0]) (.i _ _)
  case eql => exact key _ _ h (by simp [binOp, Op.intCmp]) (.b _)
  case neq => exact key _ _ h (by simp [binOp, Op.intCmp]) (.b _)
  case lss => exact key _ _ h (by simp [binOp, Op.intCmp]) (.b _)
  case leq => exact key _ _ h (by simp [binOp, Op.intCmp]) (.b _)
  case gtr => exact key _ _ h (by simp [binOp, Op.intCmp]) (.b _)
  case geq => exact key _ _ h (by simp [binOp, Op.intCmp]) (.b _)
  case and =>
    obtain ⟨n, hn, h⟩ := run_opt h
    simp only [intBits, Option.some.injEq] at hn
    subst hn
    exact key _ _ h (by simp [binOp, Op.intBits]) (.i _ _)
  case or =>
    obtain ⟨n, hn, h⟩ := run_opt h
    simp only [intBits, Option.some.injEq] at hn
    subst hn
    exact key _ _ h (by simp [binOp, Op.intBits]) (.i _ _)
  case xor =>
    obtain ⟨n, hn, h⟩ := run_opt h
    simp only [intBits, Option.some.injEq] at hn
    subst hn
    exact key _ _ h (by simp [binOp, Op.intBits]) (.i _ _)
  case andNot =>
    obtain ⟨n, hn, h⟩ := run_opt h
    simp only [intBits, Option.some.injEq] at hn
    subst hn
    exact key _ _ h (by simp [binOp, Op.intBits]) (.i _ _)
  case shl =>
    obtain ⟨h0, h⟩ := run_grd h
    have h0 : ¬ y < 0 := by simpa using h0
    exact key _ _ h (by simp [binOp, Op.shift, h0]) (.i _ _)
  case shr =>
    obtain ⟨h0, h⟩ := run_grd h
    have h0 : ¬ y < 0 := by simpa using h0
    exact key _ _ h (by simp [binOp, Op.shift, h0]) (.i _ _)
theorem binS_ok (hm : Mem B c ob w) {T : Table} {t : TypeId} {op : BinOp} {x y : ByteArray} (h : run T (binS op x y) = some d) {s : Sem Next}
    (hs : ∀ v, (binOp op t (.string x) (.string y)).run P w = .ok v w → s.run P w = .ok (.value v) w) : Eff P B c ob w s d := by
  have key : ∀ (v : Value) (a : AV), run T (now a) = some d → (binOp op t (.string x) (.string y)).run P w = .ok v w → V c w a v → Eff P B c ob w s d := fun v a h1 h2 h3 => .now hm h1 (hs v h2) h3
  cases op <;> simp only [binS] at h
  case add =>
    obtain ⟨h0, h⟩ := run_grd h
    have h0 : ¬ ((x.size + y.size : Nat) : Int) > IntKind.i64.max := by
      have : ((x.size + y.size : Nat) : Int) ≤ 9223372036854775807 := by simpa using h0
      have e : IntKind.i64.max = 9223372036854775807 := rfl
      omega
    exact key _ _ h (by simp only [binOp, Op.stringOp]; rw [if_neg h0]; rfl) (.s _)
  case eql => exact key _ _ h (by simp [binOp, Op.stringOp, seq]) (.b _)
  case neq => exact key _ _ h (by simp [binOp, Op.stringOp, seq]) (.b _)
  case lss => exact key _ _ h (by simp [binOp, Op.stringOp, slt]) (.b _)
  case leq => exact key _ _ h (by simp [binOp, Op.stringOp, slt, seq]) (.b _)
  case gtr => exact key _ _ h (by simp [binOp, Op.stringOp, slt, seq]) (.b _)
  case geq => exact key _ _ h (by simp [binOp, Op.stringOp, slt]) (.b _)
  all_goals exact (run_fail h).elim

theorem equalIn_bool (n : Nat) {t : TypeId} (ht : P.underlying t = some .bool) (a b : Bool) : (Op.equalIn (n + 1) t (.bool a) (.bool b)).run P w = .ok (a == b) w := by
  simp [Op.equalIn, run_underlying ht]
theorem eql_bool {t : TypeId} (ht : P.underlying t = some .bool) (a b : Bool) : (binOp .eql t (.bool a) (.bool b)).run P w = .ok (.bool (a == b)) w := by
  have := equalIn_bool (P := P) (w := w) 9999 ht a b
  show (do pure (Value.bool (← Op.equalIn (9999 + 1) t (.bool a) (.bool b))) : Sem Value).run P w = _
  rw [Sem.run_bind, this]
  rfl
theorem neq_bool {t : TypeId} (ht : P.underlying t = some .bool) (a b : Bool) : (binOp .neq t (.bool a) (.bool b)).run P w = .ok (.bool (!(a == b))) w := by
  have := equalIn_bool (P := P) (w := w) 9999 ht a b
  show (do pure (Value.bool (!(← Op.equalIn (9999 + 1) t (.bool a) (.bool b)))) : Sem Value).run P w = _
  rw [Sem.run_bind, this]
  rfl
/-! ### structs that are equal -/
theorem run_isAgg' {t : TypeId} {x : Bool} (h : aggT P t = some x) (w : World) : (isAgg t).run P w = .ok x w := by
  unfold aggT at h
  split at h
  all_goals first
    | (cases h; done)
    | (rename_i e; simp only [Option.some.injEq] at h; subst h; simp [isAgg, run_underlying e]; done)
    | skip

theorem part_plain {t : TypeId} (h : aggT P t = some false) {xs : Array Value} {off : Nat} {v : Value} (hv : xs[off]? = some v) : (part t xs off).run P w = .ok v w := by
  simp [part, run_isAgg' h, hv]
theorem eqF_ok {n : Nat} {ax ay : List AV} {xs ys : Array Value} (hx : ∀ (j : Nat) (y : AV), ax[j]? = some y → V c w y (xs.getD j undef)) (hy : ∀ (j : Nat) (y : AV), ay[j]? = some y → V c w y (ys.getD j undef)) (hxs : xs.size = ax.length) (hys : ys.size = ay.length) : ∀ (fs : List Field) (q : Bool), eqF P fs ax ay = some q → (Op.eqFields (n + 1) xs ys fs).run P w = .ok q w
  | [], q, h => by
    simp only [eqF, Option.some.injEq] at h
    subst h
    simp [Op.eqFields]
  | f :: r, q, h => by
    have get : ∀ (a : List AV) (z : Array Value) (v : AV), z.size = a.length → a[f.offset]? = some v → z[f.offset]? = some (z.getD f.offset undef) := fun a z v h1 h2 => by
      have : f.offset < z.size := by rw [h1]; exact (List.getElem?_eq_some_iff.1 h2).1
      simp [this]
    have step : ∀ (va vb : Value) (e q' : Bool), (f.name == "_") = false → aggT P f.type = some false → xs[f.offset]? = some va → ys[f.offset]? = some vb → (Op.equalIn (n + 1) f.type va vb).run P w = .ok e w → (Op.eqFields (n + 1) xs ys r).run P w = .ok q' w → (Op.eqFields (n + 1) xs ys (f :: r)).run P w = .ok (e && q') w := fun va vb e q' h1 h2 h3 h4 h5 h6 => by
      have hn' : f.name ≠ "_" := by simpa using h1
      rw [Op.eqFields]
      simp only [if_pos hn', Sem.run_bind, part_plain h2 h3, part_plain h2 h4, h5, Result.andThen_ok]
      cases e
      · simp
      · simpa using h6
    simp only [eqF] at h
    split at h
    · rename_i h1 h2 h3 h4 h5 h6
      split at h
      · rename_i hk
        subst hk
        simp only [Option.some.injEq] at h
        subst h
        have g1 := get ax xs _ hxs h4
        have g2 := get ay ys _ hys h5
        rw [V.inv_i (hx _ _ h4)] at g1
        rw [V.inv_i (hy _ _ h5)] at g2
        exact step _ _ _ _ h1 h2 g1 g2 (by simp [Op.equalIn, run_underlying h3]) (eqF_ok hx hy hxs hys r _ h6)
      · cases h
    · rename_i h1 h2 h3 h4 h5 h6
      simp only [Option.some.injEq] at h
      subst h
      have g1 := get ax xs _ hxs h4
      have g2 := get ay ys _ hys h5
      rw [V.inv_s (hx _ _ h4)] at g1
      rw [V.inv_s (hy _ _ h5)] at g2
      exact step _ _ _ _ h1 h2 g1 g2 (by simp [Op.equalIn, run_underlying h3]) (eqF_ok hx hy hxs hys r _ h6)
    · rename_i h1 h2 h3 h4 h5 h6
      simp only [Option.some.injEq] at h
      subst h
      have g1 := get ax xs _ hxs h4
      have g2 := get ay ys _ hys h5
      rw [V.inv_b (hx _ _ h4)] at g1
      rw [V.inv_b (hy _ _ h5)] at g2
      exact step _ _ _ _ h1 h2 g1 g2 (by simp [Op.equalIn, run_underlying h3]) (eqF_ok hx hy hxs hys r _ h6)
    · cases h
theorem eqS_ok {t : TypeId} {ax ay : List AV} {xs ys : Array Value} (hx : V c w (.agg ax) (.agg xs)) (hy : V c w (.agg ay) (.agg ys)) {q : Bool} (h : eqS P t ax ay = some q) : (Op.equal t (.agg xs) (.agg ys)).run P w = .ok q w ∧ P.eqGuardType P.depth t = false := by
  unfold eqS at h
  split at h
  case h_2 => cases h
  rename_i fs hu
  split at h
  case h_2 => cases h
  rename_i hok
  unfold eqOk at hok
  rw [Bool.and_eq_true] at hok
  have h1 : P.stoodInHeld t = false := by simpa using hok.1
  have h2 : P.eqGuardType P.depth t = false := by simpa using hok.2
  refine ⟨?_, h2⟩
  have hf : P.fieldsOf t = fs := by simp [Program.fieldsOf, hu]
  cases hx with
  | agg _ _ s1 o1 v1 =>
    cases hy with
    | agg _ _ s2 o2 v2 =>
      show (Op.equalIn (9999 + 1) t (.agg xs) (.agg ys)).run P w = _
      rw [run_equalIn_struct (P := P) w 9999 t xs ys (by rw [hf]; exact hu) h1, hf]
      exact eqF_ok (n := 9998) v1 v2 s1 s2 fs.toList q h
theorem binA_ok (hm : Mem B c ob w) {T : Table} {t yt : TypeId} {op : BinOp} {x y : Operand} {ρ : Operand → Value} {a b : AV} (ha : V c w a (ρ x)) (hb : V c w b (ρ y)) (h : run T (binA P op t a b) = some d) {o : Oper} (ho : o.op = .binOp op t x y yt) :
    Eff P B c ob w (execOp ρ o) d := by
  unfold execOp
  simp only [ho]
  cases a <;> cases b <;> simp only [binA] at h
  case i.i k n k' m =>
    have e1 := V.inv_i ha
    have e2 := V.inv_i hb
    rw [e1, e2]
    have gen : k = k' → run T (binI op k n m) = some d → Eff P B c ob w (do pure (Next.value (← (do eqGuard op t x y (.int k n) (.int k' m); binOp op t (.int k n) (.int k' m))))) d := fun hk hr => by
      subst hk
      refine binI_ok hm (t := t) hr fun v hv => ?_
      simp [Sem.run_bind, eqGuard_int, hv]
    cases op
    case shl => exact binI_ok hm (t := t) (op := .shl) h fun v hv => by
                  have hv' : (binOp .shl t (.int k n) (.int k' m)).run P w = .ok v w := hv
                  simp [Sem.run_bind, eqGuard_int, hv']
    case shr => exact binI_ok hm (t := t) (op := .shr) h fun v hv => by
                  have hv' : (binOp .shr t (.int k n) (.int k' m)).run P w = .ok v w := hv
                  simp [Sem.run_bind, eqGuard_int, hv']
    all_goals
      simp only at h
      split at h
      · exact gen ‹_› h
      · exact (run_fail h).elim
  case s.s n m =>
    rw [V.inv_s ha, V.inv_s hb]
    refine binS_ok hm (t := t) h fun v hv => ?_
    simp [Sem.run_bind, eqGuard_str, hv]
  case b.b n m =>
    rw [V.inv_b ha, V.inv_b hb]
    split at h
    · rename_i ht
      cases op <;> simp only at h
      case eql => exact .now hm h (v := .bool (n == m)) (by simp only [Sem.run_bind, eqGuard_bool, Result.andThen_ok, eql_bool ht, Sem.run_pure]) (.b _)
      case neq => exact .now hm h (v := .bool (!(n == m))) (by simp only [Sem.run_bind, eqGuard_bool, Result.andThen_ok, neq_bool ht, Sem.run_pure]) (.b _)
      all_goals exact (run_fail h).elim
    · exact (run_fail h).elim
  case agg.agg xs ys =>
    obtain ⟨vx, ex⟩ : ∃ vs, ρ x = .agg vs := by cases ha' : ρ x <;> rw [ha'] at ha <;> cases ha; exact ⟨_, rfl⟩
    obtain ⟨vy, ey⟩ : ∃ vs, ρ y = .agg vs := by cases hb' : ρ y <;> rw [hb'] at hb <;> cases hb; exact ⟨_, rfl⟩
    rw [ex] at ha ⊢
    rw [ey] at hb ⊢
    obtain ⟨q, hq, h⟩ := run_opt h
    obtain ⟨e1, e2⟩ := eqS_ok ha hb hq
    have g : ∀ op, op = .eql ∨ op = .neq → (eqGuard op t x y (.agg vx) (.agg vy)).run P w = .ok () w := fun op hop => by
      rcases hop with rfl | rfl <;> simp [eqGuard, e2]
    cases op <;> simp only at h
    case eql => exact .now hm h (v := .bool q) (by
      have hb2 : (binOp .eql t (.agg vx) (.agg vy)).run P w = .ok (.bool q) w := by
        show (do pure (Value.bool (← Op.equal t (.agg vx) (.agg vy))) : Sem Value).run P w = _
        rw [Sem.run_bind, e1]
        rfl
      simp only [Sem.run_bind, g .eql (.inl rfl), Result.andThen_ok, hb2, Sem.run_pure]) (.b _)
    case neq => exact .now hm h (v := .bool (!q)) (by
      have hb2 : (binOp .neq t (.agg vx) (.agg vy)).run P w = .ok (.bool (!q)) w := by
        show (do pure (Value.bool (!(← Op.equal t (.agg vx) (.agg vy)))) : Sem Value).run P w = _
        rw [Sem.run_bind, e1]
        rfl
      simp only [Sem.run_bind, g .neq (.inr rfl), Result.andThen_ok, hb2, Sem.run_pure]) (.b _)
    all_goals exact (run_fail h).elim
  all_goals exact (run_fail h).elim

theorem V.mb_any {a : AV} {x : Bool} (h : a = .mb) : V c w a (.bool x) := by subst h; exact .mb x
theorem isNilC_ok {y : Operand} (h : isNilC y = true) : y = .const (.slice none 0 0) := by
  unfold isNilC at h
  split at h
  · rfl
  · cases h
theorem nil_bin {t : TypeId} {e : TypeId} (ht : P.underlying t = some (.slice e)) (A : Option Addr) (n cp : Nat) : (Op.equal t (.slice A n cp) (.slice none 0 0)).run P w = .ok A.isNone w := by
  have gen : ∀ k, (Op.equalIn (k + 1) t (.slice A n cp) (.slice none 0 0)).run P w = .ok A.isNone w := fun k => by
    cases A <;> simp [Op.equalIn, run_underlying ht]
  exact gen 9999
theorem nilA_ok (hm : Mem B c ob w) {T : Table} {t yt : TypeId} {op : BinOp} {x y : Operand} {ρ : Operand → Value} {v : AV} (ha : V c w v (ρ x)) (hy : ρ y = .slice none 0 0) (h : run T (nilA P op t v) = some d) {o : Oper} (ho : o.op = .binOp op t x y yt) :
    Eff P B c ob w (execOp ρ o) d := by
  unfold execOp
  simp only [ho]
  rw [hy]
  unfold nilA at h
  split at h
  case h_2 => exact (run_fail h).elim
  rename_i e ht
  have gen : ∀ (A : Option Addr) (n cp : Nat), ρ x = .slice A n cp → (0 < n → A ≠ none) → run T (nilQ op n) = some d → Eff P B c ob w (do pure (Next.value (← (do eqGuard op t x y (ρ x) (.slice none 0 0); binOp op t (ρ x) (.slice none 0 0))))) d := fun A n cp hx hA hr => by
    rw [hx]
    have g : (eqGuard op t x y (.slice A n cp) (.slice none 0 0)).run P w = .ok () w := by cases op <;> rfl
    unfold nilQ at hr
    split at hr
    · have hb : (binOp .eql t (.slice A n cp) (.slice none 0 0)).run P w = .ok (.bool A.isNone) w := by
        show (do pure (Value.bool (← Op.equal t _ _)) : Sem Value).run P w = _
        rw [Sem.run_bind, nil_bin ht]
        rfl
      have hrun : (do pure (Next.value (← (do eqGuard .eql t x y (.slice A n cp) (.slice none 0 0); binOp .eql t (.slice A n cp) (.slice none 0 0)))) : Sem Next).run P w = .ok (.value (.bool A.isNone)) w := by
        simp only [Sem.run_bind, g, Result.andThen_ok, hb, Sem.run_pure]
      rcases Nat.eq_zero_or_pos n with h0 | h0
      · subst h0
        exact .now hm (T := T) (a := .mb) hr hrun (.mb _)
      · rw [decide_eq_true h0] at hr
        have : A.isNone = false := by cases A with
          | none => exact absurd rfl (hA h0)
          | some _ => rfl
        rw [this] at hrun
        exact .now hm (T := T) (a := .b false) hr hrun (.b _)
    · have hb : (binOp .neq t (.slice A n cp) (.slice none 0 0)).run P w = .ok (.bool (!A.isNone)) w := by
        show (do pure (Value.bool (!(← Op.equal t _ _))) : Sem Value).run P w = _
        rw [Sem.run_bind, nil_bin ht]
        rfl
      have hrun : (do pure (Next.value (← (do eqGuard .neq t x y (.slice A n cp) (.slice none 0 0); binOp .neq t (.slice A n cp) (.slice none 0 0)))) : Sem Next).run P w = .ok (.value (.bool (!A.isNone))) w := by
        simp only [Sem.run_bind, g, Result.andThen_ok, hb, Sem.run_pure]
      rcases Nat.eq_zero_or_pos n with h0 | h0
      · subst h0
        exact .now hm (T := T) (a := .mb) hr hrun (.mb _)
      · rw [decide_eq_true h0] at hr
        have : A.isNone = false := by cases A with
          | none => exact absurd rfl (hA h0)
          | some _ => rfl
        rw [this] at hrun
        exact .now hm (T := T) (a := .b true) hr hrun (.b _)
    · exact (run_fail hr).elim
  split at h
  · rename_i u xs
    obtain ⟨vx, hx⟩ : ∃ vx, ρ x = vx := ⟨_, rfl⟩
    rw [hx] at ha
    cases ha with
    | lst _ _ A cp g hn hA hh => exact gen A _ cp hx (fun h0 => by obtain ⟨b, rfl, _⟩ := hA h0; simp) h
  · obtain ⟨vx, hx⟩ : ∃ vx, ρ x = vx := ⟨_, rfl⟩
    rw [hx] at ha
    cases ha with
    | nils A => exact gen A 0 0 hx (fun h0 => by omega) h
  · exact (run_fail h).elim
theorem unA_ok (hm : Mem B c ob w) {T : Table} {t : TypeId} {op : UnOp} {x : Operand} {ρ : Operand → Value} {a : AV} (ha : V c w a (ρ x)) (h : run T (unA op a) = some d) {o : Oper} (ho : o.op = .unOp op t x) :
    Eff P B c ob w (execOp ρ o) d := by
  unfold execOp
  simp only [ho]
  cases a <;> simp only [unA] at h
  case b n =>
    rw [V.inv_b ha]
    cases op <;> simp only at h
    case not => exact .now hm h (v := .bool (!n)) (by simp [Op.unary]) (.b _)
    all_goals exact (run_fail h).elim
  case i k n =>
    rw [V.inv_i ha]
    cases op <;> simp only at h
    case neg => exact .now hm h (v := .int k (k.wrap (0 - n))) (by simp [Op.unary, Op.intArith]) (.i _ _)
    all_goals exact (run_fail h).elim
  all_goals exact (run_fail h).elim
end
end Go.Proofs.Ytohfaccniialmaa.Am
