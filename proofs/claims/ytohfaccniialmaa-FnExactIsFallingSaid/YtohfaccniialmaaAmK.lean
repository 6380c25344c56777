/- What the machine of values does at a call, the program does: the call itself. -/
import Derived.Test.YtohfaccniialmaaAmC
namespace Go.Proofs.Ytohfaccniialmaa.Am
open Go
set_option linter.constructorNameAsVariable false
set_option linter.unusedVariables false
set_option linter.unusedSimpArgs false
section
variable {P : Program} {B : Base} {c : Cx} {ob : Nat → Option AO} {w : World} {s : Sem Next} {d : Delta}

theorem fup_in : ∀ (l : List (Nat × AO)) (X Y : Nat → Option AO) (o : Nat), o ∈ l.map (·.1) → fup X l o = fup Y l o
  | [], X, Y, o, h => by simp at h
  | (k, x) :: r, X, Y, o, h => by
    simp only [fup]
    by_cases hr : o ∈ r.map (·.1)
    · exact fup_in r _ _ o hr
    · have hk : o = k := by
        simp only [List.map_cons, List.mem_cons] at h
        exact h.resolve_right hr
      rw [fup_not r _ o hr, fup_not r _ o hr, if_pos hk, if_pos hk]
theorem fup_comm (a b : List (Nat × AO)) (ob : Nat → Option AO) (h : ∀ o, o ∈ a.map (·.1) → ¬ o ∈ b.map (·.1)) : fup (fup ob a) b = fup (fup ob b) a := by
  funext o
  by_cases hb : o ∈ b.map (·.1)
  · have ha : ¬ o ∈ a.map (·.1) := fun ha => h o ha hb
    rw [fup_not a _ o ha, fup_in b _ ob o hb]
  · rw [fup_not b _ o hb]
    by_cases ha : o ∈ a.map (·.1)
    · exact fup_in a _ _ o ha
    · rw [fup_not a _ o ha, fup_not a _ o ha, fup_not b _ o hb]

theorem backO_keys (k : Nat) (L : List Nat) : ∀ (l : List AO) (i o : Nat), o ∈ (backO k ob L i l).map (·.1) → ∃ j, i ≤ j ∧ j < i + l.length ∧ o = sig k L j
  | [], i, o, h => by simp [backO] at h
  | a :: r, i, o, h => by
    simp only [backO, List.map_cons, List.mem_cons] at h
    rcases h with h | h
    · exact ⟨i, Nat.le_refl _, by simp, h⟩
    · obtain ⟨j, h1, h2, h3⟩ := backO_keys k L r (i + 1) o h
      exact ⟨j, by omega, by simp; omega, h3⟩
theorem backO_at (k : Nat) (L : List Nat) (N : Nat) (hinj : ∀ i j, i < N → j < N → sig k L i = sig k L j → i = j) : ∀ (l : List AO) (i : Nat) (X : Nat → Option AO) (j : Nat) (a : AO), i + l.length ≤ N → l[j]? = some a → fup X (backO k ob L i l) (sig k L (i + j)) = some (renO (rout k ob L) (verAt ob L (i + j) + verO a) a)
  | [], i, X, j, a, _, h => by simp at h
  | b :: r, i, X, 0, a, hN, h => by
    simp at h
    subst h
    simp only [List.length_cons] at hN
    simp only [backO, fup, Nat.add_zero]
    rw [fup_not, if_pos rfl]
    intro hk
    obtain ⟨j, h1, h2, h3⟩ := backO_keys k L r (i + 1) _ hk
    have := hinj _ _ (by omega) (by omega) h3
    omega
  | b :: r, i, X, j + 1, a, hN, h => by
    simp only [List.length_cons] at hN
    simp only [backO, fup]
    have := backO_at k L N hinj r (i + 1) (fun o => if o = sig k L i then some (renO (rout k ob L) (verAt ob L i + verO b) b) else X o) j a (by omega) (by simpa using h)
    rw [show i + (j + 1) = i + 1 + j by omega]
    exact this
theorem boxOk_get (v : Nat → Nat) : ∀ (l : List AO) (i : Nat), boxOk v i l = true → ∀ (j : Nat) (cs : List AV), l[j]? = some (.box cs) → v (i + j) = 0
  | [], i, _, j, cs, h => by simp at h
  | a :: r, i, hb, 0, cs, h => by
    simp at h
    subst h
    simp only [boxOk] at hb
    split at hb
    · rename_i e; exact e
    · cases hb
  | a :: r, i, hb, j + 1, cs, h => by
    have hb' : boxOk v (i + 1) r = true := by
      cases a <;> simp only [boxOk] at hb
      case box _ =>
        split at hb
        · exact hb
        · cases hb
      all_goals exact hb
    have := boxOk_get v r (i + 1) hb' j cs (by simpa using h)
    rw [show i + (j + 1) = i + 1 + j by omega]
    exact this

theorem obsOf_get (ρ : Nat → Nat → Option (Nat × Nat)) : ∀ (L : List Nat) (os : List AO), obsOf ob ρ L = some os → os.length = L.length ∧ ∀ (i o : Nat), L[i]? = some o → ∃ a, ob o = some a ∧ os[i]? = some (renO ρ 0 a)
  | [], os, h => by
    simp only [obsOf, Option.some.injEq] at h
    subst h
    exact ⟨rfl, by simp⟩
  | k :: r, os, h => by
    simp only [obsOf] at h
    split at h
    · rename_i a l h1 h2
      simp only [Option.some.injEq] at h
      subst h
      obtain ⟨k1, k2⟩ := obsOf_get ρ r l h2
      refine ⟨by simp [k1], fun i o hi => ?_⟩
      cases i with
      | zero => simp at hi; subst hi; exact ⟨a, h1, rfl⟩
      | succ i => simpa using k2 i o (by simpa using hi)
    · cases h
theorem live_renO (ρ : Nat → Nat → Option (Nat × Nat)) (n : Nat) (a : AO) : live (renO ρ n a) = live a := by cases a <;> rfl
theorem rowsOk_get : ∀ (os : List AO), rowsOk os = true → ∀ (i : Nat) (v : Nat) (t : Ty) (xs : List t.D), os[i]? = some (.fro v t xs) → False
  | [], _, i, v, t, xs, h => by simp at h
  | a :: r, hr, 0, v, t, xs, h => by
    simp at h
    subst h
    simp [rowsOk] at hr
  | a :: r, hr, i + 1, v, t, xs, h => by
    refine rowsOk_get r ?_ i v t xs (by simpa using h)
    cases a <;> simp [rowsOk] at hr ⊢ <;> exact hr

/-- the version of an object that is not dead -/
theorem Mem.ver (hm : Mem B c ob w) {o : Nat} {a : AO} (h : ob o = some a) (hd : isDead a = false) {i : Inf} (hi : c.inf o = some i) : verO a = i.ver := by
  have := hm.obj o a h
  cases a with
  | dead => simp [isDead] at hd
  | box cs =>
    obtain ⟨i', b, arr, el, h1, h2, _⟩ := this
    rw [hi] at h1; cases h1
    exact h2.symm
  | row v t xs =>
    obtain ⟨i', h1, h2, _⟩ := this
    rw [hi] at h1; cases h1
    exact h2.symm
  | fro v t xs =>
    obtain ⟨i', h1, h2, _⟩ := this
    rw [hi] at h1; cases h1
    exact h2.symm

/-- objects under other names -/
theorem OR.ren {ρ : Nat → Nat → Option (Nat × Nat)} {c1 c2 : Cx} {w1 w2 : World} (e : Ren ρ c1 w1 c2 w2) {o o' n : Nat} {a : AO} (h : OR c1 w1 o a) {i i' : Inf} (hi : c1.inf o = some i) (hi' : c2.inf o' = some i') (hn : i'.ver = n) (hb : i'.blk = i.blk) (ho : i'.off = i.off) (hc : i'.cap = i.cap) (hl : i'.len = i.len) (hs : i'.sz = i.sz)
    (hbox : (∃ cs, a = .box cs) → n = 0) (hheap : ∀ b, i.blk = some b → (∃ x, w1.heap[b]? = some x) → w2.heap[b]? = w1.heap[b]?) (hF : isDead a = false → ∀ b, i.blk = some b → (c2.F b ↔ c1.F b)) : OR c2 w2 o' (renO ρ n a) := by
  have cells : ∀ (arr : Array Value) (off : Nat) (t : Ty) (xs : List t.D), Cells c1 w1 arr off t xs → Cells c2 w2 arr off t xs := fun arr off t xs h j x hx q y hy => by
    have := h j x hx q y hy
    have k := this.1.ren e
    rw [view_ren ρ t x q y hy] at k
    exact ⟨k, this.2⟩
  have rowB : ∀ (t : Ty) (xs : List t.D) (p : Prop), isDead a = false → RowB c1 w1 i t xs p → RowB c2 w2 i' t xs p := fun t xs p hd h => by
    rcases h with ⟨h1, h2⟩ | ⟨b, arr, el, h1, h2, h3, h4, h5⟩
    · exact .inl ⟨by rw [hb]; exact h1, by rw [hc]; exact h2⟩
    · exact .inr ⟨b, arr, el, by rw [hb]; exact h1, (hheap b h1 ⟨_, h2⟩).trans h2, by rw [ho, hc]; exact h3, by rw [ho]; exact cells _ _ _ _ h4, (hF hd b h1).trans h5⟩
  cases a with
  | dead => trivial
  | box cs =>
    obtain ⟨i0, b, arr, el, h1, h2, h3, h4, h5, h6⟩ := h
    rw [hi] at h1; cases h1
    refine ⟨i', b, arr, el, hi', by rw [hn]; exact hbox ⟨cs, rfl⟩, by rw [hb]; exact h3, (hheap b h3 ⟨_, h4⟩).trans h4, ⟨by rw [h5.1, renL_len], fun j hj => h5.2.1 j (by rw [renL_len] at hj; exact hj), fun j y hy => ?_⟩, fun hf => h6 ((hF rfl b h3).1 hf)⟩
    rw [renL_get] at hy
    obtain ⟨z, hz, rfl⟩ := Option.map_eq_some_iff.1 hy
    exact (h5.2.2 j z hz).ren e
  | row v t xs =>
    obtain ⟨i0, h1, h2, h3, h4, h5, h6⟩ := h
    rw [hi] at h1; cases h1
    exact ⟨i', hi', hn, by rw [hl]; exact h3, by rw [hs]; exact h4, by rw [hc]; exact h5, rowB t xs _ rfl h6⟩
  | fro v t xs =>
    obtain ⟨i0, h1, h2, h3, h4, h5, h6⟩ := h
    rw [hi] at h1; cases h1
    exact ⟨i', hi', hn, by rw [hl]; exact h3, by rw [hs]; exact h4, by rw [hc]; exact h5, rowB t xs _ rfl h6⟩

theorem anyImm_get : ∀ (l : List AO), anyImm l = false → ∀ (i : Nat) (a : AO), l[i]? = some a → immO a = false
  | [], _, i, a, h => by simp at h
  | b :: r, hr, 0, a, h => by
    simp [anyImm] at hr h
    subst h
    exact hr.1
  | b :: r, hr, i + 1, a, h => by
    simp [anyImm] at hr h
    exact anyImm_get r hr.2 i a h
theorem view_imm : ∀ (t : Ty) (x : t.D) (q : Nat) (y : AV), immT t = false → (view t x)[q]? = some y → imm y = false
  | .i k, x, q, y, _, h => by cases q <;> simp [view] at h; subst h; rfl
  | .b, x, q, y, _, h => by cases q <;> simp [view] at h; subst h; rfl
  | .s, x, q, y, _, h => by cases q <;> simp [view] at h; subst h; rfl
  | .u, x, q, y, _, h => by simp [view] at h
  | .sl t, x, q, y, hi, h => by simp [immT] at hi
  | .pr a b, x, q, y, hi, h => by
    simp only [immT, Bool.or_eq_false_iff] at hi
    simp only [view, List.getElem?_append] at h
    split at h
    · exact view_imm a x.1 _ _ hi.1 h
    · exact view_imm b x.2 _ _ hi.2 h
/-- an object that hangs on no rows that stay -/
theorem OR.noimm {c c' : Cx} {w : World} {o : Nat} {a : AO} (h : OR c w o a) (he : c'.inf = c.inf) (hF : ∀ b, c'.F b → c.F b) (hi : immO a = false) : OR c' w o a := by
  cases a with
  | dead => trivial
  | box cs =>
    obtain ⟨i, b, arr, el, h1, h2, h3, h4, h5, h6⟩ := h
    exact ⟨i, b, arr, el, he ▸ h1, h2, h3, h4, ⟨h5.1, h5.2.1, fun j y hy => (h5.2.2 j y hy).noimm w he (immL_get cs j y hi hy)⟩, fun hf => h6 (hF b hf)⟩
  | row v t xs =>
    obtain ⟨i, h1, h2, h3, h4, h5, h6⟩ := h
    refine ⟨i, he ▸ h1, h2, h3, h4, h5, ?_⟩
    rcases h6 with h6 | ⟨b, arr, el, k1, k2, k3, k4, k5⟩
    · exact .inl h6
    · exact .inr ⟨b, arr, el, k1, k2, k3, fun j x hx q y hy => ⟨(k4 j x hx q y hy).1.noimm w he (view_imm t x q y hi hy), (k4 j x hx q y hy).2⟩, ⟨fun hf => k5.1 (hF b hf), False.elim⟩⟩
  | fro v t xs => simp [immO] at hi

theorem sig_new {k : Nat} {L : List Nat} {i : Nat} (h : L.length ≤ i) : sig k L i = newId k 0 + (i - L.length) := by
  unfold sig
  rw [List.getElem?_eq_none h]
theorem sig_old {k : Nat} {L : List Nat} {i o : Nat} (h : L[i]? = some o) : sig k L i = o := by
  unfold sig
  rw [h]

/-- the call, its objects told -/
theorem call_core (hm : Mem B c ob w) {ob0 : Nat → Option AO} {k : Nat} {L : List Nat} {os : List AO} {f : FuncId} {as : List AV} {vs : Array Value} {r : Ret} {F1 : Nat → Prop}
    (hL : ∀ (i o : Nat), L[i]? = some o → ∃ a, ob o = some a ∧ ob0 o = some a ∧ os[i]? = some (renO (rin ob0 L) 0 a)) (hlen : os.length = L.length) (hnd : nodupB L = true) (hrows : rowsOk os = true)
    (hF1 : ∀ b, c.F b → F1 b) (hF1' : ∀ b, F1 b → b < w.heap.size ∧ ∀ o, o ∈ L → ¬ Blk c ob o b)
    (hvs : vs.size = as.length) (hva : ∀ j a, as[j]? = some a → V ⟨c.inf, F1⟩ w a (vs.getD j undef)) (hA : ACalls P f (ren.renL (rin ob0 L) as) os r) (hr : L.length ≤ r.2.length) (hfr : ∀ q, q < r.2.length - L.length → ob (newId k 0 + q) = none ∧ ob0 (newId k 0 + q) = none) (hbox : boxOk (verAt ob0 L) 0 r.2 = true)
    (hfl : (imm r.1 || anyImm r.2) = true → ∀ b, F1 b → c.F b) :
    Calls P f vs w fun e w' => ∃ v c', e = .returned v ∧ Mem B c' (fup ob (backO k ob0 L 0 r.2)) w' ∧ Ext c w c' w' ∧ V c' w' (ren (rout k ob0 L) r.1) v := by
  let cc : Cx := ⟨fun i => match L[i]? with | some o => (match c.inf o with | some i0 => some { i0 with ver := 0 } | none => none) | none => none, F1⟩
  have hcc : ∀ i o i0, L[i]? = some o → c.inf o = some i0 → cc.inf i = some { i0 with ver := 0 } := fun i o i0 h1 h2 => by show (match L[i]? with | some o => (match c.inf o with | some i0 => some { i0 with ver := 0 } | none => none) | none => none) = _; rw [h1]; simp only; rw [h2]
  have hcc' : ∀ i j, cc.inf i = some j → ∃ o i0, L[i]? = some o ∧ c.inf o = some i0 ∧ j = { i0 with ver := 0 } := fun i j h => by
    have h : (match L[i]? with | some o => (match c.inf o with | some i0 => some { i0 with ver := 0 } | none => none) | none => none) = some j := h
    split at h
    · rename_i o ho
      split at h
      · rename_i i0 hi0
        exact ⟨o, i0, ho, hi0, (Option.some.inj h).symm⟩
      · cases h
    · cases h
  have hmem : ∀ i o, L[i]? = some o → o ∈ L := fun i o h => List.mem_of_getElem? h
  have ren1 : Ren (rin ob0 L) ⟨c.inf, F1⟩ w cc w := by
    refine ⟨fun b h => h, fun o v o' v' hρ i0 hi0 hv => ?_, fun _ _ => rfl⟩
    unfold rin at hρ
    split at hρ
    · rename_i i hidx
      split at hρ
      · rename_i a ha
        split at hρ
        · rename_i hd hvv
          simp only [Option.some.injEq, Prod.mk.injEq] at hρ
          obtain ⟨rfl, rfl⟩ := hρ
          have hLi := idx_some L o i hidx
          obtain ⟨a', h1, h2, _⟩ := hL i o hLi
          rw [ha] at h2
          cases h2
          have hver := hm.ver h1 hd hi0
          have := beq_true hvv
          exact ⟨_, hcc i o i0 hLi hi0, Nat.le_refl _, fun _ => ⟨by omega, rfl, rfl, rfl, rfl, rfl⟩⟩
        · cases hρ
      · cases hρ
    · cases hρ
  have hblk : ∀ i b, Blk cc (obL os) i b → ∃ o, L[i]? = some o ∧ Blk c ob o b := fun i b ⟨x, j, h1, h2, h3, h4⟩ => by
    obtain ⟨o, i0, k1, k2, rfl⟩ := hcc' i j h3
    obtain ⟨a, m1, m2, m3⟩ := hL i o k1
    have hx : os[i]? = some x := h1
    rw [m3] at hx
    cases hx
    exact ⟨o, k1, a, i0, m1, by rw [live_renO] at h2; exact h2, k2, h4⟩
  have mem1 : Mem ⟨w, fun b => ∃ o, Blk cc (obL os) o b, cc.F, cc.inf⟩ cc (obL os) w := by
    refine ⟨rfl, rfl, rfl, Nat.le_refl _, fun _ _ _ => rfl, fun i x hx => ?_, fun i j hi => ?_, ?_, fun b hb => (hF1' b hb).1, fun o x i b h1 h2 h3 h4 => .inl ⟨o, x, i, h1, h2, h3, h4⟩, fun b h => h, fun b h => .inl h⟩
    · have hx : os[i]? = some x := hx
      have hi : i < L.length := by rw [← hlen]; exact (List.getElem?_eq_some_iff.1 hx).1
      obtain ⟨a, m1, m2, m3⟩ := hL i _ (List.getElem?_eq_getElem hi)
      rw [m3] at hx
      cases hx
      by_cases hd : isDead a = true
      · cases a <;> simp [isDead] at hd
        trivial
      · have hd : isDead a = false := by simpa using hd
        have hor := hm.obj _ a m1
        have hinf : ∃ i0, c.inf L[i] = some i0 := by
          cases a with
          | dead => simp [isDead] at hd
          | box cs => obtain ⟨i0, _, _, _, h1, _⟩ := hor; exact ⟨i0, h1⟩
          | row v t xs => obtain ⟨i0, h1, _⟩ := hor; exact ⟨i0, h1⟩
          | fro v t xs => obtain ⟨i0, h1, _⟩ := hor; exact ⟨i0, h1⟩
        obtain ⟨i0, hi0⟩ := hinf
        have hlive : live a = true := by
          cases a with
          | dead => simp [isDead] at hd
          | box cs => rfl
          | row v t xs => rfl
          | fro v t xs => exact (rowsOk_get os hrows i 0 t xs m3).elim
        have ext1 : Ext c w ⟨c.inf, F1⟩ w := ⟨hF1, fun o i h => ⟨i, h, Nat.le_refl _, fun _ => rfl⟩, fun _ _ => rfl, fun _ _ h => h⟩
        have hnF : ∀ b, i0.blk = some b → (F1 b ↔ c.F b) := fun b hb => ⟨fun h => absurd ⟨a, i0, m1, hlive, hi0, hb⟩ ((hF1' b h).2 _ (List.getElem_mem hi)), hF1 b⟩
        have hor1 : OR ⟨c.inf, F1⟩ w L[i] a := hor.ext ext1 rfl fun _ i1 b h1 h2 _ => ⟨rfl, by rw [hi0] at h1; cases h1; exact hnF b h2⟩
        exact hor1.ren ren1 hi0 (hcc i _ i0 (List.getElem?_eq_getElem hi) hi0) rfl rfl rfl rfl rfl rfl (fun _ => rfl) (fun _ _ _ => rfl) (fun _ b hb => Iff.rfl)
    · obtain ⟨o, i0, k1, k2, k3⟩ := hcc' i j hi
      obtain ⟨a, m1, m2, m3⟩ := hL i o k1
      exact ⟨_, m3⟩
    · intro i i' x x' j j' b h1 h2 h3 h4 h5 h6 h7 h8
      obtain ⟨o, k1, y, q, y1, y2, y3, y4⟩ := hblk i b ⟨x, j, h1, h3, h5, h7⟩
      obtain ⟨o', k1', y', q', z1, z2, z3, z4⟩ := hblk i' b ⟨x', j', h2, h4, h6, h8⟩
      have := hm.inj o o' y y' q q' b y1 z1 y2 z2 y3 z3 y4 z4
      subst this
      exact nodup_get L hnd i i' o k1 k1'
  refine (hA cc w vs (by rw [renL_len]; exact hvs) (fun j a ha => ?_) mem1).mono fun e w' => ?_
  · rw [renL_get] at ha
    obtain ⟨z, hz, rfl⟩ := Option.map_eq_some_iff.1 ha
    exact (hva j z hz).ren ren1
  rintro ⟨v, c', he, hv, hm', hpas⟩
  have hheap : ∀ b, F1 b → w'.heap[b]? = w.heap[b]? := fun b hb => hm'.frame b (hF1' b hb).1 fun ⟨i, hB⟩ => by
    obtain ⟨o, k1, k2⟩ := hblk i b hB
    exact (hF1' b hb).2 o (hmem i o k1) k2
  -- the marks of what stays, behind the call
  obtain ⟨F2, a1, a2, a3, a4, a5⟩ : ∃ F2 : Nat → Prop, (∀ b, c.F b → F2 b) ∧ (∀ b, F2 b → c'.F b) ∧ (∀ b, F2 b → c.F b ∨ (∃ i, Blk cc (obL os) i b) ∨ w.heap.size ≤ b) ∧ V ⟨c'.inf, F2⟩ w' r.1 v ∧ ∀ i x, r.2[i]? = some x → OR ⟨c'.inf, F2⟩ w' i x := by
    cases hflag : (imm r.1 || anyImm r.2) with
    | true =>
      refine ⟨c'.F, fun b h => hm'.F0 b (hF1 b h), fun b h => h, fun b h => ?_, hv, fun i x hx => hm'.obj i x hx⟩
      rcases hm'.Fn b h with h | h | h
      · exact .inl (hfl hflag b h)
      · exact .inr (.inl h)
      · exact .inr (.inr h)
    | false =>
      simp only [Bool.or_eq_false_iff] at hflag
      exact ⟨c.F, fun b h => h, fun b h => hm'.F0 b (hF1 b h), fun b h => .inl h, hv.noimm w' rfl hflag.1, fun i x hx => (hm'.obj i x hx).noimm rfl (fun b h => hm'.F0 b (hF1 b h)) (anyImm_get r.2 hflag.2 i x hx)⟩
  let n := r.2.length - L.length
  let c2 : Cx := ⟨fun o => match idx L o with
    | some i => (match c'.inf i with | some i' => some { i' with ver := verAt ob0 L i + i'.ver } | none => c.inf o)
    | none => if newId k 0 ≤ o ∧ o < newId k 0 + n then c'.inf (L.length + (o - newId k 0)) else c.inf o, F2⟩
  have hidx : ∀ i o, L[i]? = some o → idx L o = some i := fun i o h => by
    obtain ⟨j, hj⟩ := idx_of L o i h
    rw [nodup_get L hnd i j o h (idx_some L o j hj)]
    exact hj
  have hnot : ∀ q, q < n → idx L (newId k 0 + q) = none := fun q hq => by
    cases h : idx L (newId k 0 + q) with
    | none => rfl
    | some i =>
      obtain ⟨a, m1, _⟩ := hL i _ (idx_some L _ i h)
      rw [(hfr q hq).1] at m1
      cases m1
  have c2old : ∀ i o i', L[i]? = some o → c'.inf i = some i' → c2.inf o = some { i' with ver := verAt ob0 L i + i'.ver } := fun i o i' h1 h2 => by
    show (match idx L o with | some i => _ | none => _) = _
    rw [hidx i o h1]
    simp only
    rw [h2]
  have c2new : ∀ q i', q < n → c'.inf (L.length + q) = some i' → c2.inf (newId k 0 + q) = some i' := fun q i' h1 h2 => by
    show (match idx L (newId k 0 + q) with | some i => _ | none => _) = _
    rw [hnot q h1]
    simp only
    rw [if_pos ⟨by omega, by omega⟩, show newId k 0 + q - newId k 0 = q by omega]
    exact h2
  have c2else : ∀ o, idx L o = none → ¬ (newId k 0 ≤ o ∧ o < newId k 0 + n) → c2.inf o = c.inf o := fun o h1 h2 => by
    show (match idx L o with | some i => _ | none => _) = _
    rw [h1]
    simp only
    rw [if_neg h2]
  have verNew : ∀ i, L.length ≤ i → verAt ob0 L i = 0 := fun i h => by unfold verAt; rw [List.getElem?_eq_none h]
  -- what an object is called behind the call
  have c2sig : ∀ i i', i < r.2.length → c'.inf i = some i' → c2.inf (sig k L i) = some { i' with ver := verAt ob0 L i + i'.ver } := fun i i' h1 h2 => by
    by_cases hi : i < L.length
    · rw [sig_old (List.getElem?_eq_getElem hi)]
      exact c2old i _ i' (List.getElem?_eq_getElem hi) h2
    · rw [sig_new (by omega), verNew i (by omega)]
      have := c2new (i - L.length) i' (by omega) (by rw [show L.length + (i - L.length) = i by omega]; exact h2)
      simpa using this
  have siginj : ∀ i j, i < r.2.length → j < r.2.length → sig k L i = sig k L j → i = j := fun i j hi hj h => by
    by_cases h1 : i < L.length
    · by_cases h2 : j < L.length
      · rw [sig_old (List.getElem?_eq_getElem h1), sig_old (List.getElem?_eq_getElem h2)] at h
        exact nodup_get L hnd i j L[i] (List.getElem?_eq_getElem h1) (by rw [h]; exact List.getElem?_eq_getElem h2)
      · rw [sig_old (List.getElem?_eq_getElem h1), sig_new (by omega)] at h
        have e1 := hidx i _ (List.getElem?_eq_getElem h1)
        rw [h, hnot _ (by omega)] at e1
        cases e1
    · by_cases h2 : j < L.length
      · rw [sig_new (by omega), sig_old (List.getElem?_eq_getElem h2)] at h
        have e1 := hidx j _ (List.getElem?_eq_getElem h2)
        rw [← h, hnot _ (by omega)] at e1
        cases e1
      · rw [sig_new (by omega), sig_new (by omega)] at h
        omega
  have lt_of_c' : ∀ i i', c'.inf i = some i' → i < r.2.length := fun i i' h => by
    obtain ⟨x, hx⟩ := hm'.dom i i' h
    exact (List.getElem?_eq_some_iff.1 hx).1
  have ren2 : Ren (rout k ob0 L) ⟨c'.inf, F2⟩ w' c2 w' := by
    refine ⟨fun b h => h, fun i v o' v' hρ i0 hi0 hv => ?_, fun _ _ => rfl⟩
    simp only [rout, Option.some.injEq, Prod.mk.injEq] at hρ
    obtain ⟨rfl, rfl⟩ := hρ
    exact ⟨_, c2sig i i0 (lt_of_c' i i0 hi0) hi0, Nat.add_le_add_left hv _, fun h => ⟨by have h' : verAt ob0 L i + v = verAt ob0 L i + i0.ver := h; omega, rfl, rfl, rfl, rfl, rfl⟩⟩
  have ob2sig : ∀ i a, r.2[i]? = some a → fup ob (backO k ob0 L 0 r.2) (sig k L i) = some (renO (rout k ob0 L) (verAt ob0 L i + verO a) a) := fun i a h => by
    have := backO_at (ob := ob0) k L r.2.length siginj r.2 0 ob i a (by omega) h
    simpa using this
  have ob2not : ∀ o, (∀ i, i < r.2.length → o ≠ sig k L i) → fup ob (backO k ob0 L 0 r.2) o = ob o := fun o h => fup_not _ _ _ fun hk => by
    obtain ⟨j, h1, h2, h3⟩ := backO_keys k L r.2 0 o hk
    exact h j (by omega) h3
  have notidx : ∀ o, (∀ i, i < r.2.length → o ≠ sig k L i) → idx L o = none ∧ ¬ (newId k 0 ≤ o ∧ o < newId k 0 + n) := fun o h => by
    refine ⟨?_, fun ⟨h1, h2⟩ => ?_⟩
    · cases e : idx L o with
      | none => rfl
      | some i =>
        have hLi := idx_some L o i e
        have hi : i < L.length := (List.getElem?_eq_some_iff.1 hLi).1
        exact absurd (sig_old hLi).symm (h i (by omega))
    · refine h (L.length + (o - newId k 0)) (by omega) ?_
      rw [sig_new (by omega)]
      omega
  -- the block of an object that is not handed on
  have far : ∀ o x i b, (∀ i, i < r.2.length → o ≠ sig k L i) → ob o = some x → isDead x = false → c.inf o = some i → i.blk = some b → ¬ ∃ i, Blk cc (obL os) i b := fun o x i b hno hx hd hi hb ⟨j, hB⟩ => by
    obtain ⟨o', k1, hB'⟩ := hblk j b hB
    by_cases hl : live x = true
    · obtain ⟨y, q, y1, y2, y3, y4⟩ := hB'
      have := hm.inj o o' x y i q b hx y1 hl y2 hi y3 hb y4
      subst this
      have hj : j < L.length := (List.getElem?_eq_some_iff.1 k1).1
      exact hno j (by omega) (sig_old k1).symm
    · cases x with
      | dead => simp [isDead] at hd
      | box cs => simp [live] at hl
      | row v t xs => simp [live] at hl
      | fro v t xs => exact (hm.blk hB').2 (hm.fro hx hi hb)
  have lt_blk : ∀ o x i b, ob o = some x → isDead x = false → c.inf o = some i → i.blk = some b → b < w.heap.size := fun o x i b hx hd hi hb => by
    by_cases hl : live x = true
    · exact (hm.blk ⟨x, i, hx, hl, hi, hb⟩).1
    · cases x with
      | dead => simp [isDead] at hd
      | box cs => simp [live] at hl
      | row v t xs => simp [live] at hl
      | fro v t xs => exact hm.F b (hm.fro hx hi hb)
  have hdead : ∀ i a, os[i]? = some (renO (rin ob0 L) 0 a) → isDead a = false := fun i a m3 => by
    cases a with
    | dead =>
      exfalso
      have : ∀ (l : List AO), rowsOk l = true → ∀ (j : Nat), l[j]? = some .dead → False := by
        intro l
        induction l with
        | nil => intro _ j h; simp at h
        | cons q l ih =>
          intro hr j h
          cases j with
          | zero => simp at h; subst h; simp [rowsOk] at hr
          | succ j => exact ih (by cases q <;> simp [rowsOk] at hr ⊢ <;> exact hr) j (by simpa using h)
      exact this os hrows i m3
    | _ => rfl
  have ext2 : Ext c w c2 w' := by
    refine ⟨a1, fun o i0 hi0 => ?_, fun b hb => hheap b (hF1 b hb), fun o ho h0 => ?_⟩
    · cases e : idx L o with
      | some i =>
        have hLi := idx_some L o i e
        obtain ⟨a, m1, m2, m3⟩ := hL i o hLi
        have hver := hm.ver m1 (hdead i a m3) hi0
        have hva : verAt ob0 L i = i0.ver := by unfold verAt; rw [hLi]; simp only; rw [m2]; exact hver
        cases e1 : c'.inf i with
        | none =>
          refine ⟨i0, ?_, Nat.le_refl _, fun _ => rfl⟩
          show (match idx L o with | some i => _ | none => _) = _
          rw [e]
          simp only
          rw [e1]
          exact hi0
        | some i' =>
          refine ⟨_, c2old i o i' hLi e1, by show i0.ver ≤ verAt ob0 L i + i'.ver; omega, fun h => ?_⟩
          have h' : verAt ob0 L i + i'.ver = i0.ver := h
          have h0 : i'.ver = 0 := by omega
          have := hpas i _ i' (hcc i o i0 hLi hi0) e1 h0
          subst this
          show ({ i0 with ver := verAt ob0 L i + 0 } : Inf) = i0
          rw [hva]
          rfl
      | none =>
        have hnn : ¬ (newId k 0 ≤ o ∧ o < newId k 0 + n) := fun ⟨h1, h2⟩ => by
          have := (hfr (o - newId k 0) (by omega)).1
          rw [show newId k 0 + (o - newId k 0) = o by omega] at this
          rw [hm.inf_none this] at hi0
          cases hi0
        exact ⟨i0, (c2else o e hnn).trans hi0, Nat.le_refl _, fun _ => rfl⟩
    · cases e : idx L o with
      | some i =>
        obtain ⟨a, m1, m2, m3⟩ := hL i o (idx_some L o i e)
        have hor := hm.obj o a m1
        have hd := hdead i a m3
        exfalso
        cases a with
        | dead => simp [isDead] at hd
        | box cs => obtain ⟨i0, _, _, _, h1, _⟩ := hor; rw [h0] at h1; cases h1
        | row v t xs => obtain ⟨i0, h1, _⟩ := hor; rw [h0] at h1; cases h1
        | fro v t xs => obtain ⟨i0, h1, _⟩ := hor; rw [h0] at h1; cases h1
      | none => exact (c2else o e fun ⟨h1, _⟩ => by unfold newId at h1; omega).trans h0
  have infsig : ∀ i a j, r.2[i]? = some a → isDead a = false → c2.inf (sig k L i) = some j → ∃ i', c'.inf i = some i' ∧ j = { i' with ver := verAt ob0 L i + i'.ver } := fun i a j ha hd hj => by
    have hor := a5 i a ha
    have hinf : ∃ i0, c'.inf i = some i0 := by
      cases a with
      | dead => simp [isDead] at hd
      | box cs => obtain ⟨i0, _, _, _, h1, _⟩ := hor; exact ⟨i0, h1⟩
      | row v t xs => obtain ⟨i0, h1, _⟩ := hor; exact ⟨i0, h1⟩
      | fro v t xs => obtain ⟨i0, h1, _⟩ := hor; exact ⟨i0, h1⟩
    obtain ⟨i', hi'⟩ := hinf
    rw [c2sig i i' ((List.getElem?_eq_some_iff.1 ha).1) hi'] at hj
    exact ⟨i', hi', (Option.some.inj hj).symm⟩
  have live_dead : ∀ x : AO, live x = true → isDead x = false := fun x h => by cases x <;> first | rfl | simp [live] at h
  have split2 : ∀ o, (∃ i a, r.2[i]? = some a ∧ o = sig k L i) ∨ (∀ i, i < r.2.length → o ≠ sig k L i) := fun o => by
    by_cases h : ∃ i, i < r.2.length ∧ o = sig k L i
    · obtain ⟨i, hi, e⟩ := h
      exact .inl ⟨i, r.2[i], List.getElem?_eq_getElem hi, e⟩
    · exact .inr fun i hi e => h ⟨i, hi, e⟩
  refine ⟨v, c2, he, ⟨hm'.os.trans hm.os, hm'.tape.trans hm.tape, hm'.output.trans hm.output, Nat.le_trans hm.size hm'.size, fun b hb hM => ?_, fun o x hx => ?_, fun o i hi => ?_, ?_, fun b hb => hm'.F b (a2 b hb), ?_, fun b hb => a1 b (hm.F0 b hb), fun b hb => ?_⟩, ext2, a4.ren ren2⟩
  · refine (hm'.frame b (Nat.lt_of_lt_of_le hb hm.size) fun ⟨j, hB⟩ => ?_).trans (hm.frame b hb hM)
    obtain ⟨o', k1, y, q, y1, y2, y3, y4⟩ := hblk j b hB
    rcases hm.own o' y q b y1 y2 y3 y4 with h | h
    · exact hM h
    · omega
  · rcases split2 o with ⟨i, a, ha, rfl⟩ | hno
    · rw [ob2sig i a ha] at hx
      cases hx
      by_cases hd : isDead a = true
      · cases a <;> simp [isDead] at hd
        trivial
      · have hd : isDead a = false := by simpa using hd
        have hor := a5 i a ha
        have hinf : ∃ i0, c'.inf i = some i0 := by
          cases a with
          | dead => simp [isDead] at hd
          | box cs => obtain ⟨i0, _, _, _, h1, _⟩ := hor; exact ⟨i0, h1⟩
          | row v t xs => obtain ⟨i0, h1, _⟩ := hor; exact ⟨i0, h1⟩
          | fro v t xs => obtain ⟨i0, h1, _⟩ := hor; exact ⟨i0, h1⟩
        obtain ⟨i', hi'⟩ := hinf
        have hver : verO a = i'.ver := hm'.ver (o := i) ha hd hi'
        refine hor.ren ren2 hi' (c2sig i i' ((List.getElem?_eq_some_iff.1 ha).1) hi') (by show verAt ob0 L i + i'.ver = _; rw [hver]) rfl rfl rfl rfl rfl (fun ⟨cs, e⟩ => ?_) (fun _ _ _ => rfl) (fun _ _ _ => Iff.rfl)
        subst e
        have := boxOk_get _ r.2 0 hbox i cs ha
        simp only [Nat.zero_add] at this
        rw [this]
        rfl
    · rw [ob2not o hno] at hx
      obtain ⟨n1, n2⟩ := notidx o hno
      refine (hm.obj o x hx).ext ext2 (c2else o n1 n2) fun hd i b hi hb _ => ?_
      have hd' : isDead x = false := by cases x <;> first | rfl | exact absurd rfl hd
      have hlt := lt_blk o x i b hx hd' hi hb
      have hfar := far o x i b hno hx hd' hi hb
      refine ⟨hm'.frame b hlt hfar, fun h => ?_, a1 b⟩
      rcases a3 b h with h | h | h
      · exact h
      · exact absurd h hfar
      · omega
  · rcases split2 o with ⟨j, a, ha, rfl⟩ | hno
    · exact ⟨_, ob2sig j a ha⟩
    · obtain ⟨n1, n2⟩ := notidx o hno
      rw [c2else o n1 n2] at hi
      obtain ⟨x, hx⟩ := hm.dom o i hi
      exact ⟨x, by rw [ob2not o hno]; exact hx⟩
  · intro o o' x y i j b hx hy hlx hly hi hj hib hjb
    have mixed : ∀ (q : Nat) (a : AO) (i : Inf) (o' : Nat) (y : AO) (j : Inf), r.2[q]? = some a → live a = true → c2.inf (sig k L q) = some i → i.blk = some b → (∀ i, i < r.2.length → o' ≠ sig k L i) → ob o' = some y → live y = true → c.inf o' = some j → j.blk = some b → False := fun q a i o' y j ha hla hi hib hno hy hly hj hjb => by
      obtain ⟨i', hi', rfl⟩ := infsig q a i ha (live_dead a hla) hi
      have hlt := lt_blk o' y j b hy (live_dead y hly) hj hjb
      rcases hm'.own q a i' b ha hla hi' hib with h | h
      · exact far o' y j b hno hy (live_dead y hly) hj hjb h
      · have h : w.heap.size ≤ b := h
        omega
    rcases split2 o with ⟨q, a, ha, rfl⟩ | hno
    · rw [ob2sig q a ha] at hx
      cases hx
      rw [live_renO] at hlx
      rcases split2 o' with ⟨q', a', ha', rfl⟩ | hno'
      · rw [ob2sig q' a' ha'] at hy
        cases hy
        rw [live_renO] at hly
        obtain ⟨i', hi', rfl⟩ := infsig q a i ha (live_dead a hlx) hi
        obtain ⟨j', hj', rfl⟩ := infsig q' a' j ha' (live_dead a' hly) hj
        rw [hm'.inj q q' a a' i' j' b ha ha' hlx hly hi' hj' hib hjb]
      · obtain ⟨n1, n2⟩ := notidx o' hno'
        rw [ob2not o' hno'] at hy
        rw [c2else o' n1 n2] at hj
        exact (mixed q a i o' y j ha hlx hi hib hno' hy hly hj hjb).elim
    · obtain ⟨n1, n2⟩ := notidx o hno
      rw [ob2not o hno] at hx
      rw [c2else o n1 n2] at hi
      rcases split2 o' with ⟨q', a', ha', rfl⟩ | hno'
      · rw [ob2sig q' a' ha'] at hy
        cases hy
        rw [live_renO] at hly
        exact (mixed q' a' j o x i ha' hly hj hjb hno hx hlx hi hib).elim
      · obtain ⟨n1', n2'⟩ := notidx o' hno'
        rw [ob2not o' hno'] at hy
        rw [c2else o' n1' n2'] at hj
        exact hm.inj o o' x y i j b hx hy hlx hly hi hj hib hjb
  · intro o x i b hx hl hi hb
    rcases split2 o with ⟨q, a, ha, rfl⟩ | hno
    · rw [ob2sig q a ha] at hx
      cases hx
      rw [live_renO] at hl
      obtain ⟨i', hi', rfl⟩ := infsig q a i ha (live_dead a hl) hi
      rcases hm'.own q a i' b ha hl hi' hb with ⟨j, hB⟩ | h
      · obtain ⟨o', k1, y, z, y1, y2, y3, y4⟩ := hblk j b hB
        exact hm.own o' y z b y1 y2 y3 y4
      · exact .inr (Nat.le_trans hm.size h)
    · obtain ⟨n1, n2⟩ := notidx o hno
      rw [ob2not o hno] at hx
      rw [c2else o n1 n2] at hi
      exact hm.own o x i b hx hl hi hb
  · rcases a3 b hb with h | ⟨j, hB⟩ | h
    · exact hm.Fn b h
    · obtain ⟨o', k1, y, q, y1, y2, y3, y4⟩ := hblk j b hB
      exact .inr (hm.own o' y q b y1 y2 y3 y4)
    · exact .inr (.inr (Nat.le_trans hm.size h))
end
end Go.Proofs.Ytohfaccniialmaa.Am
