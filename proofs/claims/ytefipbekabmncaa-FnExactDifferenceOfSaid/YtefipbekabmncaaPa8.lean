-- Made by this session's program gen.py over the translation.
import Derived.Test.YtefipbekabmncaaPa0
import Derived.Test.YtefipbekabmncaaPa6
import Derived.Test.YtefipbekabmncaaPa7
namespace Go.Proofs.Ytefipbekabmncaa.Pa
open Go.RowKit Go.Proofs.YtefipbekabmncaaW.PrintWords Go.Proofs.YtefipbekabmncaaW.PrintLast Go.Proofs.YtefipbekabmncaaW.PrintMore
attribute [local go_sem] max2_int min2_int max_two min_two max_three min_three max_four min_four   -- for this text's walks alone
set_option linter.unusedVariables false
set_option linter.unusedSimpArgs false

/-! ### spec_cdStep: function 161 -/
def spec_cdStep.f (a0_0 : ByteArray) (a0_1 : Int) (a0_2 : Int) (a0_3 : Int) (a0_4 : Int) (l1 : List Int) : Option (List Int) := (spec_l1Own.f l1).bind fun t747 => ((spec_cdValue.f a0_0 a0_1 a0_2 a0_3 a0_4 l1).bind fun t750 => (if 0 ≤ a0_1 then (if a0_1 < (t747.length : Int) then (some (t747.set (a0_1 : Int).toNat t750)) else (none)) else (none)))
def spec_cdStep.T2 : Bool × List (List Nat × List Nat) := (true, [([], []), ([], []), ([1], [1]), ([], []), ([], []), ([3, 4], [3, 4]), ([0, 2, 0, 1, 2, 3, 4, 5], [0, 2]), ([6, 5, 5, 0, 1, 2, 3, 4, 5], [5, 6])])
def spec_cdStep.B2 : List Nat := [0, 0, 2, 0, 0, 24, 63, 127]
theorem spec_cdStep.tab2 : rtab .any (opsOf Try.f161 2) = spec_cdStep.T2 := by kernel_rfl
theorem spec_cdStep.bits2 : waitsOk spec_cdStep.T2.2 spec_cdStep.B2 = true := by kernel_rfl
set_option maxHeartbeats 8000000 in
set_option maxRecDepth 100000 in
theorem spec_cdStep.calls (a0_0 : ByteArray) (a0_1 : Int) (a0_2 : Int) (a0_3 : Int) (a0_4 : Int) (A1 : Option Addr) (c1 : Nat) (l1 : List Int) (r : List Int) (w : World) (hr1 : Kd.C (Kd.int .i64) w A1 l1.length l1) (hc1 : l1.length ≤ c1) (h : spec_cdStep.f a0_0 a0_1 a0_2 a0_3 a0_4 l1 = some r) :
    Calls Try.prog 161 #[.agg #[.string a0_0, .int .i64 a0_1, .int .i64 a0_2, .int .i64 a0_3, .int .i64 a0_4], .slice A1 l1.length c1] w fun e w' => ∃ v0_ : Value, e = .returned (v0_) ∧ Kd.R (Kd.int .i64) 3 w' w.heap.size (fun _ => True) v0_ r ∧ Below w.heap.size w w' := by
  have hu80 := Try.underlying80
  have HR1 := Aside0.mk hr1
  have HC1 := Aside0.mk hc1
  clear hr1 hc1
  have HB := Aside0.mk (Below.refl w.heap.size w)
  have H : ((spec_l1Own.f l1).bind fun t747 => ((spec_cdValue.f a0_0 a0_1 a0_2 a0_3 a0_4 l1).bind fun t750 => (if 0 ≤ a0_1 then (if a0_1 < (t747.length : Int) then (some (t747.set (a0_1 : Int).toNat t750)) else (none)) else (none)))) = some r := h
  clear h
  replace H := Option.bind_eq_some_iff.mp H
  obtain ⟨t747, A30, H⟩ := H
  replace H : ((spec_cdValue.f a0_0 a0_1 a0_2 a0_3 a0_4 l1).bind fun t750 => (if 0 ≤ a0_1 then (if a0_1 < (t747.length : Int) then (some (t747.set (a0_1 : Int).toNat t750)) else (none)) else (none))) = some r := H
  have A3 := Aside0.mk A30
  clear A30
  replace H := Option.bind_eq_some_iff.mp H
  obtain ⟨t750, A40, H⟩ := H
  replace H : (if 0 ≤ a0_1 then (if a0_1 < (t747.length : Int) then (some (t747.set (a0_1 : Int).toNat t750)) else (none)) else (none)) = some r := H
  have A4 := Aside0.mk A40
  clear A40
  by_cases c5 : 0 ≤ a0_1
  · rw [if_pos c5] at H
    have c5b0 := decide_eq_true c5
    clear c5
    by_cases c6 : a0_1 < (t747.length : Int)
    · rw [if_pos c6] at H
      have c6b0 := decide_eq_true c6
      clear c6
      obtain ⟨y751, hy751⟩ : ∃ y_ : List Int, y_ = (t747.set (a0_1 : Int).toNat t750) := ⟨_, rfl⟩
      replace H : (some y751) = some r := by first | (rw [hy751]; with_reducible exact H) | (have H2_ := (Option.bind_some _ _).symm.trans H; rw [hy751]; with_reducible exact H2_) | (have H2_ := (Option.bind_some _ _).symm.trans H; with_reducible exact H2_) | with_reducible exact H | (rw [hy751]; exact H) | exact H
      have Ny751 := Aside0.mk hy751
      clear hy751
      obtain rfl := Option.some.inj H
      go_enter Try.func161, Try.ntmps161
      try go_wp2_with (first | ((with_reducible refine gate_dst (N := 2) rfl ?_); refine box_event ?hg (N := 2) ?hd (cs := #[.string a0_0, .int .i64 a0_1, .int .i64 a0_2, .int .i64 a0_3, .int .i64 a0_4]) (t := 80) ?hr ?_; (case hd => rfl); (case hg => rfl); (case hr => first | (go_simp; done) | (go_simp; rfl)); intro gb746 hg w8 hbox hb; have BK746 := Aside0.mk (hbox); have GW746 := Aside0.mk ((by rw [hg]; exact (below_size BA) : w.heap.size ≤ gb746)); have GE746 := Aside0.mk ((by rw [hg]; exact (below_size BA) : w.heap.size ≤ gb746)); replace HB := Aside0.mk (below_step BA hb); clear hb hbox hg) | ((with_reducible refine gate_callee (f := 160) rfl ?_); refine gK (some 7) Try.func160 #[.slice A1 l1.length c1] rfl rfl rfl ?_; (with_reducible refine (spec_l1Own.calls _ _ l1 t747 _ ?side1 ?side2 A3.out).mono ?_); (case side1 => exact cb (Kd.C_below HR1.out HB.out)); (case side2 => exact HC1.out); rintro e w9 ⟨v748, rfl, ho0, hb⟩; refine ⟨_, rfl, ?_⟩; have HO749 := Aside0.mk (Kd.R_lower ho0 (below_size BA)); replace BK746 := Aside0.mk (blk_below (bk BK746.out) hb); replace HB := Aside0.mk (below_step BA hb); (try clear hb); (try clear ho0)))
      have n0_ := Aside0.mk (Kd.R_drew HO749.out)
      have n1_ := Aside0.mk (blk_drew BK746.out)
      have n2_ := Aside0.mk (below_drew1 HB.out)
      clear HO749
      clear BK746
      clear HB
      have HO749 := n0_
      have BK746 := n1_
      have HB := n2_
      clear n0_ n1_ n2_
      refine start_ (n := 8) (S := fun w' => w'.cell? ⟨gb746, 0, none⟩ = some (.string a0_0) ∧ w'.cell? ⟨gb746, 1, none⟩ = some (.int .i64 a0_1) ∧ w'.cell? ⟨gb746, 2, none⟩ = some (.int .i64 a0_2) ∧ w'.cell? ⟨gb746, 3, none⟩ = some (.int .i64 a0_3) ∧ w'.cell? ⟨gb746, 4, none⟩ = some (.int .i64 a0_4)) (ds := [7]) #[false, false, false, false, false, false, false, false] (by kernel_rfl) rfl rfl ⟨(blk_cell BK746.out 0).trans rfl, (blk_cell BK746.out 1).trans rfl, (blk_cell BK746.out 2).trans rfl, (blk_cell BK746.out 3).trans rfl, (blk_cell BK746.out 4).trans rfl⟩ (fun hHeld => ?_); refine with_tabW spec_cdStep.tab2 spec_cdStep.bits2 (fun HT_ HW_ => ?_)
      generalize w9.drew = w10 at HO749 BK746 HB hHeld ⊢
      refine pure_ (i := 0) (N := some 8) (v := ?_) (a' := ?_) #[true, false, false, false, false, false, false, false] rfl rfl (any_of HT_.out (by kernel_rfl)) (fun _ _ _ h => h) (Or.inl ⟨by rfl, ?_⟩) ?_ ?_
      rotate_left
      · intro w'
        go_simp
        with_reducible rfl
      rotate_left
      · simp only [Act.put, List.setIfInBounds_toArray, List.set_cons_zero, List.set_cons_succ, i64_w, i32_w]
        rfl
      refine pure_ (i := 1) (N := some 9) (v := ?_) (a' := ?_) #[true, true, false, false, false, false, false, false] rfl rfl (any_of HT_.out (by kernel_rfl)) (fun _ _ _ h => h) (Or.inl ⟨by rfl, ?_⟩) ?_ ?_
      rotate_left
      · intro w'
        go_simp
        with_reducible rfl
      rotate_left
      · simp only [Act.put, List.setIfInBounds_toArray, List.set_cons_zero, List.set_cons_succ, i64_w, i32_w]
        rfl
      refine pure_ (i := 4) (N := some 12) (v := ?_) (a' := ?_) #[true, true, false, false, true, false, false, false] rfl rfl (any_of HT_.out (by kernel_rfl)) (fun _ _ _ h => h) (Or.inl ⟨by rfl, ?_⟩) ?_ ?_
      rotate_left
      · intro w'
        go_simp
        with_reducible rfl
      rotate_left
      · simp only [Act.put, List.setIfInBounds_toArray, List.set_cons_zero, List.set_cons_succ, i64_w, i32_w]
        rfl
      refine take_ (i := 2) (N := some 10) (v := ?_) (a' := ?_) #[true, true, true, false, true, false, false, false] rfl rfl (take_ofW HT_.out HW_.out (by kernel_rfl)) (fun _ _ _ h => h) (Or.inl ⟨by rfl, ?_⟩) hHeld ?_ ?_
      rotate_left
      · rintro w' ⟨s0, s1, s2, s3, s4⟩
        go_simp
        with_reducible rfl
      rotate_left
      · simp only [Act.put, List.setIfInBounds_toArray, List.set_cons_zero, List.set_cons_succ, i64_w, i32_w]
        rfl
      refine take_ (i := 3) (N := some 11) (v := ?_) (a' := ?_) #[true, true, true, true, true, false, false, false] rfl rfl (take_ofW HT_.out HW_.out (by kernel_rfl)) (fun _ _ _ h => h) (Or.inl ⟨by rfl, ?_⟩) hHeld ?_ ?_
      rotate_left
      · rintro w' ⟨s0, s1, s2, s3, s4⟩
        go_simp
        with_reducible rfl
      rotate_left
      · simp only [Act.put, List.setIfInBounds_toArray, List.set_cons_zero, List.set_cons_succ, i64_w, i32_w]
        rfl
      refine one_ (i := 5) (N := some 13) #[true, true, true, true, true, true, false, false] rfl rfl (one_of HT_.out (by kernel_rfl)) (by decide) (fun K hK => ?_)
      refine goes_ Try.func169 (by kernel_rfl) rfl #[.agg #[.string a0_0, .int .i64 a0_1, .int .i64 a0_2, .int .i64 a0_3, .int .i64 a0_4], .slice A1 l1.length c1] (by rfl) rfl rfl (by (try simp only [List.map_toArray, List.map_cons, List.map_nil]); first | done | rfl | (simp only [List.length_drop, List.length_take]; rfl)) ?_
      with_reducible refine (spec_cdValue.calls a0_0 a0_1 a0_2 a0_3 a0_4 _ _ l1 t750 _ ?side1 ?side2 A4.out).mono ?_
      (case side1 => exact cb (Kd.C_below HR1.out HB.out))
      (case side2 => exact HC1.out)
      rintro e w11 ⟨rfl, hb⟩
      refine ⟨_, rfl, ?_⟩
      have n0_ := Aside0.mk (Kd.R_below (by (with_reducible repeat (first | apply Kd.R_alloc | apply Kd.R_drewN | apply Kd.R_drew)); exact HO749.out) hb)
      have n1_ := Aside0.mk (blk_below (bk BK746.out) hb)
      have n2_ := Aside0.mk (below_step BA hb)
      clear HO749
      clear BK746
      clear HB
      have HO749 := n0_
      have BK746 := n1_
      have HB := n2_
      clear n0_ n1_ n2_
      (try clear hb)
      (try clear hb2)
      (try clear hk)
      (try clear hi)
      have p7 : 0 ≤ (a0_1 : Int) := DT
      have q7 : (a0_1 : Int) < ((t747.length : Int) : Int) := DT
      obtain ⟨go7, co7, eo7, gb7, gl7, cl7, HG7⟩ := Kd.R_form HO749.out (by omega)
      (first | cases eo7 | (injection eo7 with ea_ en_ ec_; (first | subst ea_ | (injection ea_ with ea_; subst ea_)); subst ec_; clear en_))
      have GB7 := Aside0.mk gb7
      have GG7 := Aside0.mk HG7
      clear gb7 gl7 HG7
      obtain ⟨hx7_0, hf7_0⟩ := Kd.R_celln 0 HO749.out (a0_1 : Int) p7 q7
      replace p7 := eq_true p7
      replace q7 := eq_true q7
      have HP12 := Kd.R_putn HO749.out (a0_1 : Int) t750
      rw [← Ny751.out] at HP12
      have HQ12 := Aside0.mk HP12
      clear HP12
      refine hK.out _ _ ⟨(blk_cell BK746.out 0).trans rfl, (blk_cell BK746.out 1).trans rfl, (blk_cell BK746.out 2).trans rfl, (blk_cell BK746.out 3).trans rfl, (blk_cell BK746.out 4).trans rfl⟩ (fun hHeld => ?_)
      clear hK K
      refine norm_ (a' := ?_) ?_ ?_
      rotate_left
      · show Act.put _ (some 13) _ = _
        simp only [Act.put, List.setIfInBounds_toArray, List.set_cons_zero, List.set_cons_succ, i64_w, i32_w]
        rfl
      refine pure_ (i := 6) (N := some 14) (v := ?_) (a' := ?_) #[true, true, true, true, true, true, true, false] rfl rfl (any_of HT_.out (by kernel_rfl)) (fun _ _ _ h => h) (Or.inl ⟨by rfl, ?_⟩) ?_ ?_
      rotate_left
      · intro w'
        go_simp
        with_reducible rfl
      rotate_left
      · simp only [Act.put, List.setIfInBounds_toArray, List.set_cons_zero, List.set_cons_succ, i64_w, i32_w]
        rfl
      refine last_ (i := 7) (N := none) #[true, true, true, true, true, true, true, true] rfl rfl (one_of HT_.out (by kernel_rfl)) (by decide) (fun K hK => ?_)
      refine skip_ (w1 := ?_) (by rfl) rfl ?_ ?_
      rotate_left
      · go_simp
        rfl
      refine hK.out _ _ ?_
      clear hK K
      refine done_ (done_of HT_.out (by kernel_rfl)) ?_
      try go_wp2
      go_ret
      exact ⟨_, EQ, by (with_reducible repeat (first | apply Kd.R_alloc | apply Kd.R_drewN | apply Kd.R_drew)); exact HQ12.out, by repeat (first | (with_reducible first | exact HB.out | apply below_alloc | apply pw_below_drewN | apply below_drew1 | refine below_set ?_ GB7.out | refine below_set ?_ GE746.out) | exact HB.out)⟩
    · rw [if_neg c6] at H
      exact absurd H (by simp)
  · rw [if_neg c5] at H
    exact absurd H (by simp)

/-! ### spec_cdRun: function 139 -/
def spec_cdRun.l0 : Nat → List Int → List (S80) → Int → Int → Option (List Int)
  | 0, _, _, _, _ => none
  | k + 1, x5, x10, x11, x12 => if x12 < x11 then (if 0 ≤ x12 then (if x12 < (x10.length : Int) then ((spec_cdStep.f ((rd_T80 x10 x12).f0) ((rd_T80 x10 x12).f1) ((rd_T80 x10 x12).f2) ((rd_T80 x10 x12).f3) ((rd_T80 x10 x12).f4) x5).bind fun t757 => (spec_cdRun.l0 k t757 x10 x11 (wrap64 (x12 + 1)))) else (none)) else (none)) else (some x5)
def spec_cdRun.f (k : Nat) (l0 : List (S80)) (l1 : List Int) : Option (List Int) := (spec_l1Own.f l1).bind fun t752 => (spec_cdRun.l0 k t752 l0 (l0.length : Int) 0)
theorem spec_cdRun.mono_l : ∀ k, (∀ y0 y1 y2 y3, LeO (spec_cdRun.l0 k y0 y1 y2 y3) (spec_cdRun.l0 (k + 1) y0 y1 y2 y3))
  | 0 => fun _ _ _ _ r h => by simp [spec_cdRun.l0] at h
  | k + 1 => by
    have ih0 := spec_cdRun.mono_l k
    · intro y0 y1 y2 y3
      unfold spec_cdRun.l0
      repeat' first | (with_reducible first | exact ih0 _ _ _ _ | exact LeO.refl _ | exact LeO.none _ | refine LeO.ite ?_ ?_ | refine LeO.bind ?_ (fun _ => ?_)) | exact LeO.none _ | refine LeO.ite ?_ ?_ | refine LeO.bind ?_ (fun _ => ?_)
theorem spec_cdRun.mono : ∀ a0 a1 k, LeO (spec_cdRun.f k a0 a1) (spec_cdRun.f (k + 1) a0 a1) := by
  intro a0 a1 k
  have ih0 := spec_cdRun.mono_l k
  unfold spec_cdRun.f
  repeat' first | (with_reducible first | exact ih0 _ _ _ _ | exact LeO.refl _ | exact LeO.none _ | refine LeO.ite ?_ ?_ | refine LeO.bind ?_ (fun _ => ?_)) | exact LeO.none _ | refine LeO.ite ?_ ?_ | refine LeO.bind ?_ (fun _ => ?_)
set_option maxHeartbeats 8000000 in
set_option maxRecDepth 100000 in
theorem spec_cdRun.calls (k : Nat) (A0 : Option Addr) (c0 : Nat) (l0 : List (S80)) (A1 : Option Addr) (c1 : Nat) (l1 : List Int) (r : List Int) (w : World) (hr0 : Kd.C k80 w A0 l0.length l0) (hc0 : l0.length ≤ c0) (hr1 : Kd.C (Kd.int .i64) w A1 l1.length l1) (hc1 : l1.length ≤ c1) (h : spec_cdRun.f k l0 l1 = some r) :
    Calls Try.prog 139 #[.slice A0 l0.length c0, .slice A1 l1.length c1] w fun e w' => ∃ v0_ : Value, e = .returned (v0_) ∧ Kd.R (Kd.int .i64) 3 w' w.heap.size (fun _ => True) v0_ r ∧ Below w.heap.size w w' := by
  have hu80 := Try.underlying80
  have HR0 := Aside0.mk hr0
  have HC0 := Aside0.mk hc0
  clear hr0 hc0
  have HR1 := Aside0.mk hr1
  have HC1 := Aside0.mk hc1
  clear hr1 hc1
  have HB := Aside0.mk (Below.refl w.heap.size w)
  have H : ((spec_l1Own.f l1).bind fun t752 => (spec_cdRun.l0 k t752 l0 (l0.length : Int) 0)) = some r := h
  clear h
  replace H := Option.bind_eq_some_iff.mp H
  obtain ⟨t752, A30, H⟩ := H
  replace H : (spec_cdRun.l0 k t752 l0 (l0.length : Int) 0) = some r := H
  have A3 := Aside0.mk A30
  clear A30
  have H' := Aside0.mk H
  clear H
  go_enter Try.func139, Try.ntmps139
  go_wp2_with (first | ((with_reducible refine gate_callee (f := 160) rfl ?_); refine gK (some 9) Try.func160 #[.slice A1 l1.length c1] rfl rfl rfl ?_; (with_reducible refine (spec_l1Own.calls _ _ l1 t752 _ ?side1 ?side2 A3.out).mono ?_); (case side1 => exact cb HR1.out); (case side2 => exact HC1.out); rintro e w4 ⟨v753, rfl, ho0, hb⟩; refine ⟨_, rfl, ?_⟩; have HO754 := Aside0.mk (Kd.R_lower ho0 (below_size BA)); replace HB := Aside0.mk (below_step BA hb); (try clear hb); (try clear ho0)))
  go_loopg [5, 12] k (fun kq v5 v12 w' => ∃ (x5_1 : List Int) (x12_1 : Int), v12 = .int .i64 x12_1 ∧ Aside0 (spec_cdRun.l0 kq x5_1 l0 (l0.length : Int) x12_1 = some r) ∧ Aside0 (kq ≤ k) ∧ Aside0 (Kd.R (Kd.int .i64) 3 w' w.heap.size (fun _ => True) v5 x5_1) ∧ Aside0 (Below w.heap.size w w'))
  case atStart => exact ⟨(t752), (0), EQ1, H', ⟨Nat.le_refl _⟩, ⟨by (with_reducible repeat (first | apply Kd.R_alloc | apply Kd.R_drewN | apply Kd.R_drew)); exact HO754.out⟩, ⟨BA⟩⟩
  case round =>
    clear H'
    (try clear c1); (try clear p2)
    obtain ⟨x5_1, x12_1, rfl, HA, HK1, HO_5, HB⟩ := hrel
    cases gk with
    | zero => exact absurd HA.out (by simp [spec_cdRun.l0])
    | succ k1 =>
      have H := HA.out
      clear HA
      simp only [spec_cdRun.l0] at H
      by_cases c5 : x12_1 < (l0.length : Int)
      · rw [if_pos c5] at H
        have c5b0 := decide_eq_true c5
        clear c5
        by_cases c6 : 0 ≤ x12_1
        · rw [if_pos c6] at H
          have c6b0 := decide_eq_true c6
          clear c6
          by_cases c7 : x12_1 < (l0.length : Int)
          · rw [if_pos c7] at H
            have c7b0 := decide_eq_true c7
            clear c7
            replace H := Option.bind_eq_some_iff.mp H
            obtain ⟨t757, A80, H⟩ := H
            replace H : (spec_cdRun.l0 k1 t757 l0 (l0.length : Int) (wrap64 (x12_1 + 1))) = some r := H
            have A8 := Aside0.mk A80
            clear A80
            have H' := Aside0.mk H
            clear H
            have p755 : 0 ≤ (x12_1 : Int) := DT
            have q755 : x12_1 < (l0.length : Int) := DT
            obtain ⟨ad755, e755, hx755_0, hx755_1, hx755_2, hx755_3, hx755_4⟩ := at_T80 HR0.out x12_1 p755 q755
            cases e755
            replace hx755_0 := (HB.out.cell (World.block_lt_of_cell? w _ hx755_0)).trans hx755_0
            replace hx755_1 := (HB.out.cell (World.block_lt_of_cell? w _ hx755_1)).trans hx755_1
            replace hx755_2 := (HB.out.cell (World.block_lt_of_cell? w _ hx755_2)).trans hx755_2
            replace hx755_3 := (HB.out.cell (World.block_lt_of_cell? w _ hx755_3)).trans hx755_3
            replace hx755_4 := (HB.out.cell (World.block_lt_of_cell? w _ hx755_4)).trans hx755_4
            replace p755 := eq_true p755
            replace q755 := eq_true q755
            go_wp2_with (first | ((with_reducible refine gate_dst (N := 7) rfl ?_); refine box_event ?hg (N := 7) ?hd (cs := #[.string (⟨#[]⟩ : ByteArray), .int .i64 0, .int .i64 0, .int .i64 0, .int .i64 0]) (t := 80) ?hr ?_; (case hd => rfl); (case hg => rfl); (case hr => first | (go_simp; done) | (go_simp; rfl)); intro gb756 hg w9 hbox hb; replace HO_5 := Aside0.mk (Kd.R_below (by (with_reducible repeat (first | apply Kd.R_alloc | apply Kd.R_drewN | apply Kd.R_drew)); exact HO_5.out) hb); have BK756 := Aside0.mk (hbox); have GW756 := Aside0.mk ((by rw [hg]; exact (below_size BA) : w.heap.size ≤ gb756)); have GE756 := Aside0.mk ((by rw [hg]; exact (below_size BA) : w.heap.size ≤ gb756)); replace HB := Aside0.mk (below_step BA hb); clear hb hbox hg; have hcz10_0 := bcv BK756.out 0 (.string (⟨#[]⟩ : ByteArray)); have hcz10_1 := bcv BK756.out 1 (.int .i64 0); have hcz10_2 := bcv BK756.out 2 (.int .i64 0); have hcz10_3 := bcv BK756.out 3 (.int .i64 0); have hcz10_4 := bcv BK756.out 4 (.int .i64 0); have hfz10 := blk_frozen BK756.out; obtain ⟨Ao11, co11, eo11⟩ := Kd.R_slice HO_5.out; subst eo11) | ((with_reducible refine gate_callee (f := 161) rfl ?_); refine gK (some 18) Try.func161 #[.agg #[.string ((rd_T80 l0 x12_1).f0), .int .i64 ((rd_T80 l0 x12_1).f1), .int .i64 ((rd_T80 l0 x12_1).f2), .int .i64 ((rd_T80 l0 x12_1).f3), .int .i64 ((rd_T80 l0 x12_1).f4)], .slice Ao11 x5_1.length co11] rfl rfl rfl ?_; (with_reducible refine (spec_cdStep.calls ((rd_T80 l0 x12_1).f0) ((rd_T80 l0 x12_1).f1) ((rd_T80 l0 x12_1).f2) ((rd_T80 l0 x12_1).f3) ((rd_T80 l0 x12_1).f4) _ _ x5_1 t757 _ ?side1 ?side2 A8.out).mono ?_); (case side1 => refine (Kd.R_reads' (e := 3) (base := w.heap.size) (ok := fun k_ => True) (n := x5_1.length) (c := co11) ?_).2.2; exact (by (with_reducible repeat (first | apply Kd.R_alloc | apply Kd.R_drewN | apply Kd.R_drew)); exact (Kd.R_mono (Kd.R_far (p := ⟨gb756, 4, none⟩) (Kd.R_far (p := ⟨gb756, 3, none⟩) (Kd.R_far (p := ⟨gb756, 2, none⟩) (Kd.R_far (p := ⟨gb756, 1, none⟩) (Kd.R_far (p := ⟨gb756, 0, none⟩) (Kd.R_types HO_5.out BK756.out (by decide)) (fun _ hk => hk.2) (.string ((rd_T80 l0 x12_1).f0))) (fun _ hk => hk.2) (.int .i64 ((rd_T80 l0 x12_1).f1))) (fun _ hk => hk.2) (.int .i64 ((rd_T80 l0 x12_1).f2))) (fun _ hk => hk.2) (.int .i64 ((rd_T80 l0 x12_1).f3))) (fun _ hk => hk.2) (.int .i64 ((rd_T80 l0 x12_1).f4))) (fun _ h_ => h_.1)))); (case side2 => exact (Kd.R_reads' HO_5.out).2.1); rintro e w12 ⟨v758, rfl, ho0, hb⟩; refine ⟨_, rfl, ?_⟩; have HO759 := Aside0.mk (Kd.R_lower (Kd.R_new' ho0 (Kd.R_lt (by (with_reducible repeat (first | apply Kd.R_alloc | apply Kd.R_drewN | apply Kd.R_drew)); exact (Kd.R_mono (Kd.R_far (p := ⟨gb756, 4, none⟩) (Kd.R_far (p := ⟨gb756, 3, none⟩) (Kd.R_far (p := ⟨gb756, 2, none⟩) (Kd.R_far (p := ⟨gb756, 1, none⟩) (Kd.R_far (p := ⟨gb756, 0, none⟩) (Kd.R_types HO_5.out BK756.out (by decide)) (fun _ hk => hk.2) (.string ((rd_T80 l0 x12_1).f0))) (fun _ hk => hk.2) (.int .i64 ((rd_T80 l0 x12_1).f1))) (fun _ hk => hk.2) (.int .i64 ((rd_T80 l0 x12_1).f2))) (fun _ hk => hk.2) (.int .i64 ((rd_T80 l0 x12_1).f3))) (fun _ hk => hk.2) (.int .i64 ((rd_T80 l0 x12_1).f4))) (fun _ h_ => h_.1))))) (below_size BA)); replace HO_5 := Aside0.mk (Kd.R_elder' (by (with_reducible repeat (first | apply Kd.R_alloc | apply Kd.R_drewN | apply Kd.R_drew)); exact (Kd.R_mono (Kd.R_far (p := ⟨gb756, 4, none⟩) (Kd.R_far (p := ⟨gb756, 3, none⟩) (Kd.R_far (p := ⟨gb756, 2, none⟩) (Kd.R_far (p := ⟨gb756, 1, none⟩) (Kd.R_far (p := ⟨gb756, 0, none⟩) (Kd.R_types HO_5.out BK756.out (by decide)) (fun _ hk => hk.2) (.string ((rd_T80 l0 x12_1).f0))) (fun _ hk => hk.2) (.int .i64 ((rd_T80 l0 x12_1).f1))) (fun _ hk => hk.2) (.int .i64 ((rd_T80 l0 x12_1).f2))) (fun _ hk => hk.2) (.int .i64 ((rd_T80 l0 x12_1).f3))) (fun _ hk => hk.2) (.int .i64 ((rd_T80 l0 x12_1).f4))) (fun _ h_ => h_.1))) (Kd.R_base ho0) hb); replace BK756 := Aside0.mk (blk_below (g := gb756) (o := .cells #[.string ((rd_T80 l0 x12_1).f0), .int .i64 ((rd_T80 l0 x12_1).f1), .int .i64 ((rd_T80 l0 x12_1).f2), .int .i64 ((rd_T80 l0 x12_1).f3), .int .i64 ((rd_T80 l0 x12_1).f4)] 80 (0, 0)) (by (with_reducible repeat (first | refine blk_drewN ?_ _ | refine blk_drew ?_ | refine blk_alloc ?_ _)); refine blk_put (cs := #[.string ((rd_T80 l0 x12_1).f0), .int .i64 ((rd_T80 l0 x12_1).f1), .int .i64 ((rd_T80 l0 x12_1).f2), .int .i64 ((rd_T80 l0 x12_1).f3), .int .i64 0]) ?_ 4 _ rfl; (with_reducible repeat (first | refine blk_drewN ?_ _ | refine blk_drew ?_ | refine blk_alloc ?_ _)); refine blk_put (cs := #[.string ((rd_T80 l0 x12_1).f0), .int .i64 ((rd_T80 l0 x12_1).f1), .int .i64 ((rd_T80 l0 x12_1).f2), .int .i64 0, .int .i64 0]) ?_ 3 _ rfl; (with_reducible repeat (first | refine blk_drewN ?_ _ | refine blk_drew ?_ | refine blk_alloc ?_ _)); refine blk_put (cs := #[.string ((rd_T80 l0 x12_1).f0), .int .i64 ((rd_T80 l0 x12_1).f1), .int .i64 0, .int .i64 0, .int .i64 0]) ?_ 2 _ rfl; (with_reducible repeat (first | refine blk_drewN ?_ _ | refine blk_drew ?_ | refine blk_alloc ?_ _)); refine blk_put (cs := #[.string ((rd_T80 l0 x12_1).f0), .int .i64 0, .int .i64 0, .int .i64 0, .int .i64 0]) ?_ 1 _ rfl; (with_reducible repeat (first | refine blk_drewN ?_ _ | refine blk_drew ?_ | refine blk_alloc ?_ _)); refine blk_put (cs := #[.string (⟨#[]⟩ : ByteArray), .int .i64 0, .int .i64 0, .int .i64 0, .int .i64 0]) ?_ 0 _ rfl; (with_reducible repeat (first | refine blk_drewN ?_ _ | refine blk_drew ?_ | refine blk_alloc ?_ _)); exact BK756.out) hb); replace HB := Aside0.mk (below_step BA hb); (try clear hb); (try clear ho0)))
            go_roundg k1
            case measure => have := HK1.out; omega
            case rel => exact ⟨(t757), (wrap64 (x12_1 + 1)), EQ1, H', ⟨by have := HK1.out; omega⟩, ⟨by (with_reducible repeat (first | apply Kd.R_alloc | apply Kd.R_drewN | apply Kd.R_drew)); exact Kd.R_mono HO759.out (fun _ hk => trivial)⟩, ⟨BA⟩⟩
          · rw [if_neg c7] at H
            exact absurd H (by simp)
        · rw [if_neg c6] at H
          exact absurd H (by simp)
      · rw [if_neg c5] at H
        have c5b0 := decide_eq_false c5
        clear c5
        obtain rfl := Option.some.inj H
        go_wp2
        go_ret
        exact ⟨_, EQ, by (with_reducible repeat (first | apply Kd.R_alloc | apply Kd.R_drewN | apply Kd.R_drew)); exact HO_5.out, BA⟩

/-! ### spec_cdStart: function 140 -/
def spec_cdStart.f (a0 : Int) (a1 : Int) : Option (List Int) := if 6 ≤ 35184372088832 then ((some (List.replicate 6 0 : List Int)).bind fun y760 => (if 0 < (y760.length : Int) then (if 1 < (y760.length : Int) then (some ((y760.set (0 : Int).toNat a0).set (1 : Int).toNat a1)) else (none)) else (none))) else (none)
set_option maxHeartbeats 8000000 in
set_option maxRecDepth 100000 in
theorem spec_cdStart.calls (a0 : Int) (a1 : Int) (r : List Int) (w : World) (h : spec_cdStart.f a0 a1 = some r) :
    Calls Try.prog 140 #[.int .i64 a0, .int .i64 a1] w fun e w' => ∃ v0_ : Value, e = .returned (v0_) ∧ Kd.R (Kd.int .i64) 3 w' w.heap.size (fun _ => True) v0_ r ∧ Below w.heap.size w w' := by
  have HB := Aside0.mk (Below.refl w.heap.size w)
  have H : (if 6 ≤ 35184372088832 then ((some (List.replicate 6 0 : List Int)).bind fun y760 => (if 0 < (y760.length : Int) then (if 1 < (y760.length : Int) then (some ((y760.set (0 : Int).toNat a0).set (1 : Int).toNat a1)) else (none)) else (none))) else (none)) = some r := h
  clear h
  by_cases c3 : 6 ≤ 35184372088832
  · rw [if_pos c3] at H
    have c3b0 := eq_true c3
    have c3b1 := decide_eq_true c3
    clear c3
    obtain ⟨y760, hy760⟩ : ∃ y_ : List Int, y_ = (List.replicate 6 0) := ⟨_, rfl⟩
    replace H : (if 0 < (y760.length : Int) then (if 1 < (y760.length : Int) then (some ((y760.set (0 : Int).toNat a0).set (1 : Int).toNat a1)) else (none)) else (none)) = some r := by first | (rw [hy760]; with_reducible exact H) | (have H2_ := (Option.bind_some _ _).symm.trans H; rw [hy760]; with_reducible exact H2_) | (have H2_ := (Option.bind_some _ _).symm.trans H; with_reducible exact H2_) | with_reducible exact H | (rw [hy760]; exact H) | exact H
    have Ny760 := Aside0.mk hy760
    clear hy760
    by_cases c4 : 0 < (y760.length : Int)
    · rw [if_pos c4] at H
      have c4b0 := decide_eq_true c4
      have c4b1 : decide (0 < y760.length) = true := decide_eq_true (by omega)
      clear c4
      obtain ⟨y763, hy763⟩ : ∃ y_ : List Int, y_ = (y760.set (0 : Int).toNat a0) := ⟨_, rfl⟩
      replace H : (if 1 < (y760.length : Int) then (some (y763.set (1 : Int).toNat a1)) else (none)) = some r := by first | (rw [hy763]; with_reducible exact H) | (have H2_ := (Option.bind_some _ _).symm.trans H; rw [hy763]; with_reducible exact H2_) | (have H2_ := (Option.bind_some _ _).symm.trans H; with_reducible exact H2_) | with_reducible exact H | (rw [hy763]; exact H) | exact H
      have Ny763 := Aside0.mk hy763
      clear hy763
      by_cases c6 : 1 < (y760.length : Int)
      · rw [if_pos c6] at H
        have c6b0 := decide_eq_true c6
        have c6b1 : decide (1 < y760.length) = true := decide_eq_true (by omega)
        clear c6
        obtain ⟨y764, hy764⟩ : ∃ y_ : List Int, y_ = (y763.set (1 : Int).toNat a1) := ⟨_, rfl⟩
        replace H : (some y764) = some r := by first | (rw [hy764]; with_reducible exact H) | (have H2_ := (Option.bind_some _ _).symm.trans H; rw [hy764]; with_reducible exact H2_) | (have H2_ := (Option.bind_some _ _).symm.trans H; with_reducible exact H2_) | with_reducible exact H | (rw [hy764]; exact H) | exact H
        have Ny764 := Aside0.mk hy764
        clear hy764
        obtain rfl := Option.some.inj H
        go_enter Try.func140, Try.ntmps140
        go_wp2_with (first | ((with_reducible refine gate_dst (N := 6) rfl ?_); refine Kd.R_make (Kd.int .i64) _ 3 rfl (N := 6) rfl 34 _ _ rfl 6 rfl rfl Try.underlying34 (.int .i64 0) 8 info3 rfl (by decide) (by omega) 0 (ok := fun _ => True) (okp := fun _ => True) rfl (fun _ hk => hk) trivial (by omega) (by omega) (Below.refl _ _) (Nat.le_refl _) ?_; intro v761 w8 ho9 hb hg_ hnew_; clear hg_ hnew_; (first | rw [← Ny760.out] at ho9 | (simp only [Int.reduceToNat] at ho9; rw [← Ny760.out] at ho9)); have HO762 := Aside0.mk (Kd.R_lower ho9 (below_size BA)); replace HB := Aside0.mk (below_step BA hb); clear hb ho9; have p5 : 0 ≤ (0 : Int) := (by omega); have q5 : (0 : Int) < ((y760.length : Int) : Int) := DT; have qi5 : (0 < y760.length) = True := eq_true (by omega); obtain ⟨go5, co5, eo5, gb5, gl5, cl5, HG5⟩ := Kd.R_form HO762.out (by omega); (first | cases eo5 | (injection eo5 with ea_ en_ ec_; (first | subst ea_ | (injection ea_ with ea_; subst ea_)); subst ec_; clear en_)); have GB5 := Aside0.mk gb5; have GG5 := Aside0.mk HG5; clear gb5 gl5 HG5; obtain ⟨hx5_0, hf5_0⟩ := Kd.R_celln 0 HO762.out (0 : Int) p5 q5; (try rw [show ((0 : Int)).toNat = 0 from rfl] at hx5_0); (try simp only [Nat.reduceMul, Nat.zero_mul, Nat.zero_add, Nat.reduceAdd] at hx5_0); (try rw [show ((0 : Int)).toNat = 0 from rfl] at hf5_0); (try simp only [Nat.reduceMul, Nat.zero_mul, Nat.zero_add, Nat.reduceAdd] at hf5_0); replace p5 := eq_true p5; replace q5 := eq_true q5; obtain ⟨hy10_, hz10_⟩ := Kd.R_celln 0 HO762.out (0 : Int) (by omega) DT; (try simp only [Int.reduceToNat, Int.toNat_zero, Int.toNat_ofNat, Nat.reduceMul, Nat.zero_mul, Nat.zero_add] at hy10_ hz10_); (try rw [show ((0 : Int)).toNat = 0 from rfl] at hy10_); (try rw [show ((0 : Int)).toNat = 0 from rfl] at hz10_); have HP10 := Kd.R_putg HO762.out (0 : Int) a0) | ((with_reducible refine gate_store (t := 3) (p := 9) rfl ?_); refine store_event (t := 3) (p := 9) (v := ?vo_w11) (w1 := (w8.setCell ⟨go5, (0 : Int).toNat, none⟩ (.int .i64 a0))) ?hg ?ho ?hn ?hr ?_; (case ho => rfl); (case hg => rfl); (case hn => rfl); (case hr => first | (go_simp; done) | (go_simp; rfl)); intro w11 hw; have hg : w8.grownBy w11 (some go5) := (by rw [hw]; exact HP10.2); have hp_ : Kd.R (Kd.int .i64) 3 w11 w.heap.size (fun _ => True) (.slice (some ⟨go5, 0, none⟩) y760.length co5) y763 := (by rw [hw, Ny763.out]; exact HP10.1); clear HP10; replace HO762 := Aside0.mk (hp_); replace HB := Aside0.mk ((by rw [hw]; exact below_set (HB.out) GB5.out : Below w.heap.size w w11)); clear hg hw hp_; have p7 : 0 ≤ (1 : Int) := (by omega); have q7 : (1 : Int) < ((y760.length : Int) : Int) := DT; have qi7 : (1 < y760.length) = True := eq_true (by omega); obtain ⟨hx7_0, hf7_0⟩ := Kd.R_celln 0 HO762.out (1 : Int) p7 q7; (try rw [show ((1 : Int)).toNat = 1 from rfl] at hx7_0); (try simp only [Nat.reduceMul, Nat.zero_mul, Nat.zero_add, Nat.reduceAdd] at hx7_0); (try rw [show ((1 : Int)).toNat = 1 from rfl] at hf7_0); (try simp only [Nat.reduceMul, Nat.zero_mul, Nat.zero_add, Nat.reduceAdd] at hf7_0); replace p7 := eq_true p7; replace q7 := eq_true q7; obtain ⟨hy12_, hz12_⟩ := Kd.R_celln 0 HO762.out (1 : Int) (by omega) DT; (try simp only [Int.reduceToNat, Int.toNat_zero, Int.toNat_ofNat, Nat.reduceMul, Nat.zero_mul, Nat.zero_add] at hy12_ hz12_); (try rw [show ((1 : Int)).toNat = 1 from rfl] at hy12_); (try rw [show ((1 : Int)).toNat = 1 from rfl] at hz12_); have HP12 := Kd.R_putg HO762.out (1 : Int) a1) | ((with_reducible refine gate_store (t := 3) (p := 12) rfl ?_); refine store_event (t := 3) (p := 12) (v := ?vo_w13) (w1 := (w11.setCell ⟨go5, (1 : Int).toNat, none⟩ (.int .i64 a1))) ?hg ?ho ?hn ?hr ?_; (case ho => rfl); (case hg => rfl); (case hn => rfl); (case hr => first | (go_simp; done) | (go_simp; rfl)); intro w13 hw; have hg : w11.grownBy w13 (some go5) := (by rw [hw]; exact HP12.2); have hp_ : Kd.R (Kd.int .i64) 3 w13 w.heap.size (fun _ => True) (.slice (some ⟨go5, 0, none⟩) y760.length co5) y764 := (by rw [hw, Ny764.out]; exact HP12.1); clear HP12; replace HO762 := Aside0.mk (hp_); replace HB := Aside0.mk ((by rw [hw]; exact below_set (HB.out) GB5.out : Below w.heap.size w w13)); clear hg hw hp_))
        go_ret
        exact ⟨_, EQ, by (with_reducible repeat (first | apply Kd.R_alloc | apply Kd.R_drewN | apply Kd.R_drew)); exact HO762.out, BA⟩
      · rw [if_neg c6] at H
        exact absurd H (by simp)
    · rw [if_neg c4] at H
      exact absurd H (by simp)
  · rw [if_neg c3] at H
    exact absurd H (by simp)

/-! ### spec_exValues: function 162 -/
mutual
def spec_exValues.l0 : Nat → Int → Int → List Int → List (S104) → Int → Int → Option (List Int)
  | 0, _, _, _, _, _, _ => none
  | k + 1, x1, x2, x7, x10, x11, x12 => if x12 < x11 then (if 0 ≤ x12 then (if x12 < (x10.length : Int) then (if ((rd_T104 x10 x12).f0).toList = ([99, 111, 110, 115, 116] : List UInt8) then (if x7.length < 17592186044416 then (spec_exValues.l0 k x1 x2 (x7 ++ [(rd_T104 x10 x12).f3]) x10 x11 (wrap64 (x12 + 1))) else (none)) else (if ((rd_T104 x10 x12).f0).toList = ([105, 110] : List UInt8) then (spec_exValues.j1 k x1 x2 x7 x10 x11 x12 (((rd_T104 x10 x12).f3) == 0) ((rd_T104 x10 x12).f0) ((rd_T104 x10 x12).f1) ((rd_T104 x10 x12).f2) ((rd_T104 x10 x12).f3)) else (spec_exValues.j1 k x1 x2 x7 x10 x11 x12 false ((rd_T104 x10 x12).f0) ((rd_T104 x10 x12).f1) ((rd_T104 x10 x12).f2) ((rd_T104 x10 x12).f3)))) else (none)) else (none)) else (some x7)
def spec_exValues.j1 : Nat → Int → Int → List Int → List (S104) → Int → Int → Bool → ByteArray → Int → Int → Int → Option (List Int)
  | 0, _, _, _, _, _, _, _, _, _, _, _ => none
  | k + 1, x1, x2, x7, x10, x11, x12, x41, x767000, x767001, x767002, x767003 => if x41 = true then (if x7.length < 17592186044416 then (spec_exValues.l0 k x1 x2 (x7 ++ [x1]) x10 x11 (wrap64 (x12 + 1))) else (none)) else (if x767000.toList = ([105, 110] : List UInt8) then (if x7.length < 17592186044416 then (spec_exValues.l0 k x1 x2 (x7 ++ [x2]) x10 x11 (wrap64 (x12 + 1))) else (none)) else ((spec_exOne.f x767000).bind fun t776 => (if t776 = true then (if 0 ≤ x767001 then (if x767001 < (x7.length : Int) then ((spec_exApply.f x767000 (rd x7 x767001) 0).bind fun t778 => (if x7.length < 17592186044416 then (spec_exValues.l0 k x1 x2 (x7 ++ [t778]) x10 x11 (wrap64 (x12 + 1))) else (none))) else (none)) else (none)) else (if 0 ≤ x767001 then (if x767001 < (x7.length : Int) then (if 0 ≤ x767002 then (if x767002 < (x7.length : Int) then ((spec_exApply.f x767000 (rd x7 x767001) (rd x7 x767002)).bind fun t784 => (if x7.length < 17592186044416 then (spec_exValues.l0 k x1 x2 (x7 ++ [t784]) x10 x11 (wrap64 (x12 + 1))) else (none))) else (none)) else (none)) else (none)) else (none)))))
end
def spec_exValues.f (k : Nat) (l0 : List (S104)) (a1 : Int) (a2 : Int) : Option (List Int) := spec_exValues.l0 k a1 a2 ([] : List Int) l0 (l0.length : Int) 0
theorem spec_exValues.mono_l : ∀ k, (∀ y0 y1 y2 y3 y4 y5, LeO (spec_exValues.l0 k y0 y1 y2 y3 y4 y5) (spec_exValues.l0 (k + 1) y0 y1 y2 y3 y4 y5)) ∧ (∀ y0 y1 y2 y3 y4 y5 y6 y7 y8 y9 y10, LeO (spec_exValues.j1 k y0 y1 y2 y3 y4 y5 y6 y7 y8 y9 y10) (spec_exValues.j1 (k + 1) y0 y1 y2 y3 y4 y5 y6 y7 y8 y9 y10))
  | 0 => ⟨fun _ _ _ _ _ _ r h => by simp [spec_exValues.l0] at h, fun _ _ _ _ _ _ _ _ _ _ _ r h => by simp [spec_exValues.j1] at h⟩
  | k + 1 => by
    obtain ⟨ih0, ih1⟩ := spec_exValues.mono_l k
    refine ⟨?_, ?_⟩
    · intro y0 y1 y2 y3 y4 y5
      unfold spec_exValues.l0
      repeat' first | (with_reducible first | exact ih0 _ _ _ _ _ _ | exact ih1 _ _ _ _ _ _ _ _ _ _ _ | exact LeO.refl _ | exact LeO.none _ | refine LeO.ite ?_ ?_ | refine LeO.bind ?_ (fun _ => ?_)) | exact LeO.none _ | refine LeO.ite ?_ ?_ | refine LeO.bind ?_ (fun _ => ?_)
    · intro y0 y1 y2 y3 y4 y5 y6 y7 y8 y9 y10
      unfold spec_exValues.j1
      repeat' first | (with_reducible first | exact ih0 _ _ _ _ _ _ | exact ih1 _ _ _ _ _ _ _ _ _ _ _ | exact LeO.refl _ | exact LeO.none _ | refine LeO.ite ?_ ?_ | refine LeO.bind ?_ (fun _ => ?_)) | exact LeO.none _ | refine LeO.ite ?_ ?_ | refine LeO.bind ?_ (fun _ => ?_)
theorem spec_exValues.mono : ∀ a0 a1 a2 k, LeO (spec_exValues.f k a0 a1 a2) (spec_exValues.f (k + 1) a0 a1 a2) := by
  intro a0 a1 a2 k
  obtain ⟨ih0, ih1⟩ := spec_exValues.mono_l k
  unfold spec_exValues.f
  repeat' first | (with_reducible first | exact ih0 _ _ _ _ _ _ | exact ih1 _ _ _ _ _ _ _ _ _ _ _ | exact LeO.refl _ | exact LeO.none _ | refine LeO.ite ?_ ?_ | refine LeO.bind ?_ (fun _ => ?_)) | exact LeO.none _ | refine LeO.ite ?_ ?_ | refine LeO.bind ?_ (fun _ => ?_)
def spec_exValues.T5 : Bool × List (List Nat × List Nat) := (true, [([], []), ([], []), ([1], [1]), ([], []), ([], []), ([4], [4]), ([3, 5], [3, 5]), ([6], [6]), ([], []), ([], []), ([9], [9]), ([8, 10], [8, 10]), ([11], [11]), ([2, 7, 12], [2, 7, 12]), ([13], [13]), ([0, 14, 13], [0, 14]), ([15, 15, 0, 1, 2, 3, 4, 5, 6, 7, 8, 9, 10, 11, 12, 13, 14, 15], [0, 3, 8, 15])])
def spec_exValues.B5 : List Nat := [0, 0, 2, 0, 0, 16, 56, 120, 0, 0, 512, 1792, 3840, 8190, 16382, 32767, 65535]
theorem spec_exValues.tab5 : rtab .any (opsOf Try.f162 5) = spec_exValues.T5 := by kernel_rfl
theorem spec_exValues.bits5 : waitsOk spec_exValues.T5.2 spec_exValues.B5 = true := by kernel_rfl
def spec_exValues.T13 : Bool × List (List Nat × List Nat) := (true, [([], []), ([], []), ([1], [1]), ([], []), ([], []), ([4], [4]), ([3, 5], [3, 5]), ([6], [6]), ([2, 7], [2, 7]), ([8], [8]), ([0, 9, 8], [0, 9]), ([10, 10, 0, 1, 2, 3, 4, 5, 6, 7, 8, 9, 10], [0, 3, 10])])
def spec_exValues.B13 : List Nat := [0, 0, 2, 0, 0, 16, 56, 120, 254, 510, 1023, 2047]
theorem spec_exValues.tab13 : rtab .any (opsOf Try.f162 13) = spec_exValues.T13 := by kernel_rfl
theorem spec_exValues.bits13 : waitsOk spec_exValues.T13.2 spec_exValues.B13 = true := by kernel_rfl
set_option maxHeartbeats 8000000 in
set_option maxRecDepth 100000 in
theorem spec_exValues.calls (k : Nat) (A0 : Option Addr) (c0 : Nat) (l0 : List (S104)) (a1 : Int) (a2 : Int) (r : List Int) (w : World) (hr0 : Kd.C k104 w A0 l0.length l0) (hc0 : l0.length ≤ c0) (h : spec_exValues.f k l0 a1 a2 = some r) :
    Calls Try.prog 162 #[.slice A0 l0.length c0, .int .i64 a1, .int .i64 a2] w fun e w' => ∃ v0_ : Value, e = .returned (v0_) ∧ Kd.R (Kd.int .i64) 3 w' w.heap.size (fun _ => True) v0_ r ∧ Below w.heap.size w w' := by
  have hu104 := Try.underlying104
  have HR0 := Aside0.mk hr0
  have HC0 := Aside0.mk hc0
  clear hr0 hc0
  have HB := Aside0.mk (Below.refl w.heap.size w)
  have H : (spec_exValues.l0 k a1 a2 ([] : List Int) l0 (l0.length : Int) 0) = some r := h
  clear h
  have H' := Aside0.mk H
  clear H
  go_enter Try.func162, Try.ntmps162
  go_wp2
  go_loopg [7, 12] k (fun kq v7 v12 w' => ∃ (x7_1 : List Int) (x12_1 : Int), v12 = .int .i64 x12_1 ∧ Aside0 (spec_exValues.l0 kq a1 a2 x7_1 l0 (l0.length : Int) x12_1 = some r) ∧ Aside0 (kq ≤ k) ∧ Aside0 (Kd.R (Kd.int .i64) 3 w' w.heap.size (fun _ => True) v7 x7_1) ∧ Aside0 (Below w.heap.size w w'))
  case atStart => exact ⟨(([] : List Int)), (0), EQ1, H', ⟨Nat.le_refl _⟩, ⟨by first | exact Kd.R_nil _ _ _ _ _ | exact Kd.N_nil _ _ _ _ _ | exact Kd.V_nil _ _ _ _ _ | exact Kd.Q_nil _ _ _ _ _ | exact Kd.S_nil _ _ _ _ _⟩, ⟨BA⟩⟩
  case round =>
    clear H'
    (try clear c1); (try clear p2)
    obtain ⟨x7_1, x12_1, rfl, HA, HK1, HO_7, HB⟩ := hrel
    cases gk with
    | zero => exact absurd HA.out (by simp [spec_exValues.l0])
    | succ k1 =>
      have H := HA.out
      clear HA
      simp only [spec_exValues.l0] at H
      by_cases c4 : x12_1 < (l0.length : Int)
      · rw [if_pos c4] at H
        have c4b0 := decide_eq_true c4
        clear c4
        by_cases c5 : 0 ≤ x12_1
        · rw [if_pos c5] at H
          have c5b0 := decide_eq_true c5
          clear c5
          by_cases c6 : x12_1 < (l0.length : Int)
          · rw [if_pos c6] at H
            have c6b0 := decide_eq_true c6
            clear c6
            by_cases c7 : ((rd_T104 l0 x12_1).f0).toList = ([99, 111, 110, 115, 116] : List UInt8)
            · rw [if_pos c7] at H
              have c7b0 := beq_iff_eq.mpr c7
              have c7b1 := bne_eq_false_iff_eq.mpr c7
              clear c7
              by_cases c8 : x7_1.length < 17592186044416
              · rw [if_pos c8] at H
                have LMc8 := Aside0.mk c8
                clear c8
                obtain ⟨y767, hy767⟩ : ∃ y_ : List Int, y_ = (x7_1 ++ [(rd_T104 l0 x12_1).f3]) := ⟨_, rfl⟩
                replace H : (spec_exValues.l0 k1 a1 a2 y767 l0 (l0.length : Int) (wrap64 (x12_1 + 1))) = some r := by first | (rw [hy767]; with_reducible exact H) | (have H2_ := (Option.bind_some _ _).symm.trans H; rw [hy767]; with_reducible exact H2_) | (have H2_ := (Option.bind_some _ _).symm.trans H; with_reducible exact H2_) | with_reducible exact H | (rw [hy767]; exact H) | exact H
                have Ny767 := Aside0.mk hy767
                clear hy767
                have H' := Aside0.mk H
                clear H
                have p765 : 0 ≤ (x12_1 : Int) := DT
                have q765 : x12_1 < (l0.length : Int) := DT
                obtain ⟨ad765, e765, hx765_0, hx765_1, hx765_2, hx765_3⟩ := at_T104 HR0.out x12_1 p765 q765
                cases e765
                replace hx765_0 := (HB.out.cell (World.block_lt_of_cell? w _ hx765_0)).trans hx765_0
                replace hx765_1 := (HB.out.cell (World.block_lt_of_cell? w _ hx765_1)).trans hx765_1
                replace hx765_2 := (HB.out.cell (World.block_lt_of_cell? w _ hx765_2)).trans hx765_2
                replace hx765_3 := (HB.out.cell (World.block_lt_of_cell? w _ hx765_3)).trans hx765_3
                replace p765 := eq_true p765
                replace q765 := eq_true q765
                go_wp2_with (first | ((with_reducible refine gate_dst (N := 9) rfl ?_); refine box_event ?hg (N := 9) ?hd (cs := #[.string (⟨#[]⟩ : ByteArray), .int .i64 0, .int .i64 0, .int .i64 0]) (t := 104) ?hr ?_; (case hd => rfl); (case hg => rfl); (case hr => first | (go_simp; done) | (go_simp; rfl)); intro gb766 hg w9 hbox hb; replace HO_7 := Aside0.mk (Kd.R_below (by (with_reducible repeat (first | apply Kd.R_alloc | apply Kd.R_drewN | apply Kd.R_drew)); exact HO_7.out) hb); have BK766 := Aside0.mk (hbox); have GW766 := Aside0.mk ((by rw [hg]; exact (below_size BA) : w.heap.size ≤ gb766)); have GE766 := Aside0.mk ((by rw [hg]; exact (below_size BA) : w.heap.size ≤ gb766)); replace HB := Aside0.mk (below_step BA hb); clear hb hbox hg; have hcz10_0 := bcv BK766.out 0 (.string (⟨#[]⟩ : ByteArray)); have hcz10_1 := bcv BK766.out 1 (.int .i64 0); have hcz10_2 := bcv BK766.out 2 (.int .i64 0); have hcz10_3 := bcv BK766.out 3 (.int .i64 0); have hfz10 := blk_frozen BK766.out) | ((with_reducible refine gate_builtin (b := .append) (xs := #[.tmp 36, .tmp 39]) rfl ?_); at_builtin; refine Kd.R_append (Kd.int .i64) (w0 := w) w.heap.size rfl (.tmp 36) (.tmp 39) 34 3 (.int .i64 0) 8 rfl Try.underlying34 info3 rfl (by decide) (by omega) u7 x7_1 ((rd_T104 l0 x12_1).f3) [.int .i64 ((rd_T104 l0 x12_1).f3)] (fun _ => True) (fun _ => False) rfl (by first | (go_simp; done) | (go_simp; rfl)) ?aP (fun _ hk => hk.elim) ?aF ?aO ?aB ?aS ?aL ?_; (case aP => exact rfl); (case aB => exact BA); (case aF => exact (fun _ _ => trivial)); (case aO => exact (by (with_reducible repeat (first | apply Kd.R_alloc | apply Kd.R_drewN | apply Kd.R_drew)); exact Kd.R_mono (Kd.R_far (p := ⟨gb766, 3, none⟩) (Kd.R_far (p := ⟨gb766, 2, none⟩) (Kd.R_far (p := ⟨gb766, 1, none⟩) (Kd.R_far (p := ⟨gb766, 0, none⟩) (Kd.R_types HO_7.out BK766.out (by decide)) (fun _ hk => hk.2) (.string ((rd_T104 l0 x12_1).f0))) (fun _ hk => hk.2) (.int .i64 ((rd_T104 l0 x12_1).f1))) (fun _ hk => hk.2) (.int .i64 ((rd_T104 l0 x12_1).f2))) (fun _ hk => hk.2) (.int .i64 ((rd_T104 l0 x12_1).f3))) (fun _ hk => trivial))); (case aS => exact (below_size BA)); (case aL => have := LMc8.out; omega); intro v768 w11 ho hb hg hat; rw [← Ny767.out] at ho; have n0_ := Aside0.mk (blk_grown (g := gb766) (o := .cells #[.string ((rd_T104 l0 x12_1).f0), .int .i64 ((rd_T104 l0 x12_1).f1), .int .i64 ((rd_T104 l0 x12_1).f2), .int .i64 ((rd_T104 l0 x12_1).f3)] 104 (0, 0)) (by (with_reducible repeat (first | refine blk_drewN ?_ _ | refine blk_drew ?_ | refine blk_alloc ?_ _)); refine blk_put (cs := #[.string ((rd_T104 l0 x12_1).f0), .int .i64 ((rd_T104 l0 x12_1).f1), .int .i64 ((rd_T104 l0 x12_1).f2), .int .i64 0]) ?_ 3 _ rfl; (with_reducible repeat (first | refine blk_drewN ?_ _ | refine blk_drew ?_ | refine blk_alloc ?_ _)); refine blk_put (cs := #[.string ((rd_T104 l0 x12_1).f0), .int .i64 ((rd_T104 l0 x12_1).f1), .int .i64 0, .int .i64 0]) ?_ 2 _ rfl; (with_reducible repeat (first | refine blk_drewN ?_ _ | refine blk_drew ?_ | refine blk_alloc ?_ _)); refine blk_put (cs := #[.string ((rd_T104 l0 x12_1).f0), .int .i64 0, .int .i64 0, .int .i64 0]) ?_ 1 _ rfl; (with_reducible repeat (first | refine blk_drewN ?_ _ | refine blk_drew ?_ | refine blk_alloc ?_ _)); refine blk_put (cs := #[.string (⟨#[]⟩ : ByteArray), .int .i64 0, .int .i64 0, .int .i64 0]) ?_ 0 _ rfl; (with_reducible repeat (first | refine blk_drewN ?_ _ | refine blk_drew ?_ | refine blk_alloc ?_ _)); exact BK766.out) hg (Kd.R_ne HO_7.out BK766.out (by decide))); have n1_ := Aside0.mk (hb); have n2_ := Aside0.mk (ho); clear BK766; clear HB; clear HO_7; have BK766 := n0_; have HB := n1_; have HO769 := n2_; clear n0_ n1_ n2_; clear ho hb hg hat))
                go_roundg k1
                case measure => have := HK1.out; omega
                case rel => exact ⟨(y767), (wrap64 (x12_1 + 1)), EQ1, H', ⟨by have := HK1.out; omega⟩, ⟨by (with_reducible repeat (first | apply Kd.R_alloc | apply Kd.R_drewN | apply Kd.R_drew)); exact HO769.out⟩, ⟨BA⟩⟩
              · rw [if_neg c8] at H
                exact absurd H (by simp)
            · rw [if_neg c7] at H
              have c7b0 := beq_eq_false_iff_ne.mpr c7
              have c7b1 := bne_iff_ne.mpr c7
              have HC12 := Aside0.mk H
              clear H
              have p765 : 0 ≤ (x12_1 : Int) := DT
              have q765 : x12_1 < (l0.length : Int) := DT
              obtain ⟨ad765, e765, hx765_0, hx765_1, hx765_2, hx765_3⟩ := at_T104 HR0.out x12_1 p765 q765
              cases e765
              replace hx765_0 := (HB.out.cell (World.block_lt_of_cell? w _ hx765_0)).trans hx765_0
              replace hx765_1 := (HB.out.cell (World.block_lt_of_cell? w _ hx765_1)).trans hx765_1
              replace hx765_2 := (HB.out.cell (World.block_lt_of_cell? w _ hx765_2)).trans hx765_2
              replace hx765_3 := (HB.out.cell (World.block_lt_of_cell? w _ hx765_3)).trans hx765_3
              replace p765 := eq_true p765
              replace q765 := eq_true q765
              go_upto_region 8 with (first | ((with_reducible refine gate_dst (N := 9) rfl ?_); refine box_event ?hg (N := 9) ?hd (cs := #[.string (⟨#[]⟩ : ByteArray), .int .i64 0, .int .i64 0, .int .i64 0]) (t := 104) ?hr ?_; (case hd => rfl); (case hg => rfl); (case hr => first | (go_simp; done) | (go_simp; rfl)); intro gb766 hg w13 hbox hb; replace HO_7 := Aside0.mk (Kd.R_below (by (with_reducible repeat (first | apply Kd.R_alloc | apply Kd.R_drewN | apply Kd.R_drew)); exact HO_7.out) hb); have BK766 := Aside0.mk (hbox); have GW766 := Aside0.mk ((by rw [hg]; exact (below_size BA) : w.heap.size ≤ gb766)); have GE766 := Aside0.mk ((by rw [hg]; exact (below_size BA) : w.heap.size ≤ gb766)); replace HB := Aside0.mk (below_step BA hb); clear hb hbox hg; have hcz14_0 := bcv BK766.out 0 (.string (⟨#[]⟩ : ByteArray)); have hcz14_1 := bcv BK766.out 1 (.int .i64 0); have hcz14_2 := bcv BK766.out 2 (.int .i64 0); have hcz14_3 := bcv BK766.out 3 (.int .i64 0); have hfz14 := blk_frozen BK766.out))
              (try simp only [Act.put, List.setIfInBounds_toArray, List.set_cons_zero, List.set_cons_succ])
              go_cut [41] (fun v41 wc => ∃ (kq : Nat) (x41_11 : Bool), v41 = .bool x41_11 ∧ Aside0 (spec_exValues.j1 kq a1 a2 x7_1 l0 (l0.length : Int) x12_1 x41_11 ((rd_T104 l0 x12_1).f0) ((rd_T104 l0 x12_1).f1) ((rd_T104 l0 x12_1).f2) ((rd_T104 l0 x12_1).f3) = some r) ∧ Aside0 (kq ≤ k1) ∧ Aside0 (Kd.R (Kd.int .i64) 3 wc w.heap.size (fun _ => True) u7 x7_1) ∧ Aside0 (wc.heap[gb766]? = some (.cells #[.string ((rd_T104 l0 x12_1).f0), .int .i64 ((rd_T104 l0 x12_1).f1), .int .i64 ((rd_T104 l0 x12_1).f2), .int .i64 ((rd_T104 l0 x12_1).f3)] 104 (0, 0))) ∧ Aside0 (Below w.heap.size w wc))
              case first =>
                have H := HC12.out
                clear HC12
                by_cases c15 : ((rd_T104 l0 x12_1).f0).toList = ([105, 110] : List UInt8)
                · rw [if_pos c15] at H
                  have c15b0 := beq_iff_eq.mpr c15
                  have c15b1 := bne_eq_false_iff_eq.mpr c15
                  clear c15
                  (first | rw [c15b0] | (simp only [i64_w, i32_w]; rw [c15b0]) | skip)
                  have H' := Aside0.mk H
                  clear H
                  have hcz16_0 := bcv BK766.out 0 (.string (⟨#[]⟩ : ByteArray))
                  have hcz16_1 := bcv BK766.out 1 (.int .i64 0)
                  have hcz16_2 := bcv BK766.out 2 (.int .i64 0)
                  have hcz16_3 := bcv BK766.out 3 (.int .i64 0)
                  have hfz16 := blk_frozen BK766.out
                  have hfz16_1 := blk_frozen BK766.out 1
                  have hfz16_2 := blk_frozen BK766.out 2
                  have hfz16_3 := blk_frozen BK766.out 3
                  go_wp2
                  go_meet
                  case rel => exact ⟨_, ((((rd_T104 l0 x12_1).f3) == 0)), EQ1, H', ⟨by have := HK1.out; first | omega | exact Nat.le_refl _⟩, ⟨by (with_reducible repeat (first | apply Kd.R_alloc | apply Kd.R_drewN | apply Kd.R_drew)); exact Kd.R_mono (Kd.R_far (p := ⟨gb766, 3, none⟩) (Kd.R_far (p := ⟨gb766, 2, none⟩) (Kd.R_far (p := ⟨gb766, 1, none⟩) (Kd.R_far (p := ⟨gb766, 0, none⟩) (Kd.R_types HO_7.out BK766.out (by decide)) (fun _ hk => hk.2) (.string ((rd_T104 l0 x12_1).f0))) (fun _ hk => hk.2) (.int .i64 ((rd_T104 l0 x12_1).f1))) (fun _ hk => hk.2) (.int .i64 ((rd_T104 l0 x12_1).f2))) (fun _ hk => hk.2) (.int .i64 ((rd_T104 l0 x12_1).f3))) (fun _ hk => trivial)⟩, ⟨by (with_reducible repeat (first | refine blk_drewN ?_ _ | refine blk_drew ?_ | refine blk_alloc ?_ _)); refine blk_put (cs := #[.string ((rd_T104 l0 x12_1).f0), .int .i64 ((rd_T104 l0 x12_1).f1), .int .i64 ((rd_T104 l0 x12_1).f2), .int .i64 0]) ?_ 3 _ rfl; (with_reducible repeat (first | refine blk_drewN ?_ _ | refine blk_drew ?_ | refine blk_alloc ?_ _)); refine blk_put (cs := #[.string ((rd_T104 l0 x12_1).f0), .int .i64 ((rd_T104 l0 x12_1).f1), .int .i64 0, .int .i64 0]) ?_ 2 _ rfl; (with_reducible repeat (first | refine blk_drewN ?_ _ | refine blk_drew ?_ | refine blk_alloc ?_ _)); refine blk_put (cs := #[.string ((rd_T104 l0 x12_1).f0), .int .i64 0, .int .i64 0, .int .i64 0]) ?_ 1 _ rfl; (with_reducible repeat (first | refine blk_drewN ?_ _ | refine blk_drew ?_ | refine blk_alloc ?_ _)); refine blk_put (cs := #[.string (⟨#[]⟩ : ByteArray), .int .i64 0, .int .i64 0, .int .i64 0]) ?_ 0 _ rfl; (with_reducible repeat (first | refine blk_drewN ?_ _ | refine blk_drew ?_ | refine blk_alloc ?_ _)); exact BK766.out⟩, ⟨BA⟩⟩
                · rw [if_neg c15] at H
                  have c15b0 := beq_eq_false_iff_ne.mpr c15
                  have c15b1 := bne_iff_ne.mpr c15
                  (first | rw [c15b0] | (simp only [i64_w, i32_w]; rw [c15b0]) | skip)
                  have H' := Aside0.mk H
                  clear H
                  have hcz17_0 := bcv BK766.out 0 (.string (⟨#[]⟩ : ByteArray))
                  have hcz17_1 := bcv BK766.out 1 (.int .i64 0)
                  have hcz17_2 := bcv BK766.out 2 (.int .i64 0)
                  have hcz17_3 := bcv BK766.out 3 (.int .i64 0)
                  have hfz17 := blk_frozen BK766.out
                  have hfz17_1 := blk_frozen BK766.out 1
                  have hfz17_2 := blk_frozen BK766.out 2
                  have hfz17_3 := blk_frozen BK766.out 3
                  go_wp2
                  go_meet
                  case rel => exact ⟨_, (false), EQ1, H', ⟨by have := HK1.out; first | omega | exact Nat.le_refl _⟩, ⟨by (with_reducible repeat (first | apply Kd.R_alloc | apply Kd.R_drewN | apply Kd.R_drew)); exact Kd.R_mono (Kd.R_far (p := ⟨gb766, 3, none⟩) (Kd.R_far (p := ⟨gb766, 2, none⟩) (Kd.R_far (p := ⟨gb766, 1, none⟩) (Kd.R_far (p := ⟨gb766, 0, none⟩) (Kd.R_types HO_7.out BK766.out (by decide)) (fun _ hk => hk.2) (.string ((rd_T104 l0 x12_1).f0))) (fun _ hk => hk.2) (.int .i64 ((rd_T104 l0 x12_1).f1))) (fun _ hk => hk.2) (.int .i64 ((rd_T104 l0 x12_1).f2))) (fun _ hk => hk.2) (.int .i64 ((rd_T104 l0 x12_1).f3))) (fun _ hk => trivial)⟩, ⟨by (with_reducible repeat (first | refine blk_drewN ?_ _ | refine blk_drew ?_ | refine blk_alloc ?_ _)); refine blk_put (cs := #[.string ((rd_T104 l0 x12_1).f0), .int .i64 ((rd_T104 l0 x12_1).f1), .int .i64 ((rd_T104 l0 x12_1).f2), .int .i64 0]) ?_ 3 _ rfl; (with_reducible repeat (first | refine blk_drewN ?_ _ | refine blk_drew ?_ | refine blk_alloc ?_ _)); refine blk_put (cs := #[.string ((rd_T104 l0 x12_1).f0), .int .i64 ((rd_T104 l0 x12_1).f1), .int .i64 0, .int .i64 0]) ?_ 2 _ rfl; (with_reducible repeat (first | refine blk_drewN ?_ _ | refine blk_drew ?_ | refine blk_alloc ?_ _)); refine blk_put (cs := #[.string ((rd_T104 l0 x12_1).f0), .int .i64 0, .int .i64 0, .int .i64 0]) ?_ 1 _ rfl; (with_reducible repeat (first | refine blk_drewN ?_ _ | refine blk_drew ?_ | refine blk_alloc ?_ _)); refine blk_put (cs := #[.string (⟨#[]⟩ : ByteArray), .int .i64 0, .int .i64 0, .int .i64 0]) ?_ 0 _ rfl; (with_reducible repeat (first | refine blk_drewN ?_ _ | refine blk_drew ?_ | refine blk_alloc ?_ _)); exact BK766.out⟩, ⟨BA⟩⟩
              case rest =>
                clear HC12
                (try clear c1); (try clear p2); (try clear c4); (try clear c4b0); (try clear c5); (try clear c5b0); (try clear c6); (try clear c6b0); (try clear p6); (try clear c7); (try clear c7b0); (try clear c7b1); (try clear p7); (try clear q7); (try clear hx7); (try clear c8); (try clear c15); (try clear c15b0); (try clear c15b1); (try clear c16); (try clear hcz10_0); (try clear hcz10_1); (try clear hcz10_2); (try clear hcz10_3); (try clear hcz14_0); (try clear hcz14_1); (try clear hcz14_2); (try clear hcz14_3); (try clear hcz16_0); (try clear hcz16_1); (try clear hcz16_2); (try clear hcz16_3); (try clear hcz17_0); (try clear hcz17_1); (try clear hcz17_2); (try clear hcz17_3); (try clear hfz10_0); (try clear hfz10_1); (try clear hfz10_2); (try clear hfz10_3); (try clear hfz14_0); (try clear hfz14_1); (try clear hfz14_2); (try clear hfz14_3); (try clear hfz16_0); (try clear hfz16_1); (try clear hfz16_2); (try clear hfz16_3); (try clear hfz17_0); (try clear hfz17_1); (try clear hfz17_2); (try clear hfz17_3); (try clear hx765_0); (try clear hx765_1); (try clear hx765_2); (try clear hx765_3); (try clear p2); (try clear p765); (try clear q765)
                obtain ⟨kq, x41_11, rfl, HA, HJ11, HO_7, BK766, HB⟩ := hcut
                cases kq with
                | zero => exact absurd HA.out (by simp [spec_exValues.j1])
                | succ kj11 =>
                  have H := HA.out
                  clear HA
                  simp only [spec_exValues.j1] at H
                  by_cases c18 : x41_11 = true
                  · subst c18
                    have H1 : (if x7_1.length < 17592186044416 then (spec_exValues.l0 kj11 a1 a2 (x7_1 ++ [a1]) l0 (l0.length : Int) (wrap64 (x12_1 + 1))) else (none)) = some r := by rw [if_pos rfl] at H; exact H
                    clear H
                    have H := H1
                    clear H1
                    by_cases c19 : x7_1.length < 17592186044416
                    · rw [if_pos c19] at H
                      have LMc19 := Aside0.mk c19
                      clear c19
                      obtain ⟨y770, hy770⟩ : ∃ y_ : List Int, y_ = (x7_1 ++ [a1]) := ⟨_, rfl⟩
                      replace H : (spec_exValues.l0 kj11 a1 a2 y770 l0 (l0.length : Int) (wrap64 (x12_1 + 1))) = some r := by first | (rw [hy770]; with_reducible exact H) | (have H2_ := (Option.bind_some _ _).symm.trans H; rw [hy770]; with_reducible exact H2_) | (have H2_ := (Option.bind_some _ _).symm.trans H; with_reducible exact H2_) | with_reducible exact H | (rw [hy770]; exact H) | exact H
                      have Ny770 := Aside0.mk hy770
                      clear hy770
                      have H' := Aside0.mk H
                      clear H
                      go_wp2_with (first | ((with_reducible refine gate_builtin (b := .append) (xs := #[.tmp 50, .tmp 52]) rfl ?_); at_builtin; refine Kd.R_append (Kd.int .i64) (w0 := w) w.heap.size rfl (.tmp 50) (.tmp 52) 34 3 (.int .i64 0) 8 rfl Try.underlying34 info3 rfl (by decide) (by omega) u7 x7_1 a1 [.int .i64 a1] (fun _ => True) (fun _ => False) rfl rfl ?aP (fun _ hk => hk.elim) ?aF ?aO ?aB ?aS ?aL ?_; (case aP => exact rfl); (case aB => exact BA); (case aF => exact (fun _ _ => trivial)); (case aO => exact (by (with_reducible repeat (first | apply Kd.R_alloc | apply Kd.R_drewN | apply Kd.R_drew)); exact HO_7.out)); (case aS => exact (below_size BA)); (case aL => have := LMc19.out; omega); intro v771 w20 ho hb hg hat; rw [← Ny770.out] at ho; have n0_ := Aside0.mk (blk_grown (g := gb766) (o := .cells #[.string ((rd_T104 l0 x12_1).f0), .int .i64 ((rd_T104 l0 x12_1).f1), .int .i64 ((rd_T104 l0 x12_1).f2), .int .i64 ((rd_T104 l0 x12_1).f3)] 104 (0, 0)) (bk BK766.out) hg (Kd.R_ne HO_7.out BK766.out (by decide))); have n1_ := Aside0.mk (hb); have n2_ := Aside0.mk (ho); clear BK766; clear HB; clear HO_7; have BK766 := n0_; have HB := n1_; have HO772 := n2_; clear n0_ n1_ n2_; clear ho hb hg hat))
                      go_roundg kj11
                      case measure => have := HK1.out; have := HJ11.out; omega
                      case rel => exact ⟨(y770), (wrap64 (x12_1 + 1)), EQ1, H', ⟨by have := HK1.out; have := HJ11.out; omega⟩, ⟨by (with_reducible repeat (first | apply Kd.R_alloc | apply Kd.R_drewN | apply Kd.R_drew)); exact HO772.out⟩, ⟨BA⟩⟩
                    · rw [if_neg c19] at H
                      exact absurd H (by simp)
                  · replace c18 := Bool.eq_false_iff.mpr c18
                    subst c18
                    have H1 : (if ((rd_T104 l0 x12_1).f0).toList = ([105, 110] : List UInt8) then (if x7_1.length < 17592186044416 then (spec_exValues.l0 kj11 a1 a2 (x7_1 ++ [a2]) l0 (l0.length : Int) (wrap64 (x12_1 + 1))) else (none)) else ((spec_exOne.f ((rd_T104 l0 x12_1).f0)).bind fun t776 => (if t776 = true then (if 0 ≤ ((rd_T104 l0 x12_1).f1) then (if ((rd_T104 l0 x12_1).f1) < (x7_1.length : Int) then ((spec_exApply.f ((rd_T104 l0 x12_1).f0) (rd x7_1 ((rd_T104 l0 x12_1).f1)) 0).bind fun t778 => (if x7_1.length < 17592186044416 then (spec_exValues.l0 kj11 a1 a2 (x7_1 ++ [t778]) l0 (l0.length : Int) (wrap64 (x12_1 + 1))) else (none))) else (none)) else (none)) else (if 0 ≤ ((rd_T104 l0 x12_1).f1) then (if ((rd_T104 l0 x12_1).f1) < (x7_1.length : Int) then (if 0 ≤ ((rd_T104 l0 x12_1).f2) then (if ((rd_T104 l0 x12_1).f2) < (x7_1.length : Int) then ((spec_exApply.f ((rd_T104 l0 x12_1).f0) (rd x7_1 ((rd_T104 l0 x12_1).f1)) (rd x7_1 ((rd_T104 l0 x12_1).f2))).bind fun t784 => (if x7_1.length < 17592186044416 then (spec_exValues.l0 kj11 a1 a2 (x7_1 ++ [t784]) l0 (l0.length : Int) (wrap64 (x12_1 + 1))) else (none))) else (none)) else (none)) else (none)) else (none))))) = some r := by rw [if_neg (show ¬ (false = true) by decide)] at H; exact H
                    clear H
                    have H := H1
                    clear H1
                    by_cases c21 : ((rd_T104 l0 x12_1).f0).toList = ([105, 110] : List UInt8)
                    · rw [if_pos c21] at H
                      have c21b0 := beq_iff_eq.mpr c21
                      have c21b1 := bne_eq_false_iff_eq.mpr c21
                      clear c21
                      by_cases c22 : x7_1.length < 17592186044416
                      · rw [if_pos c22] at H
                        have LMc22 := Aside0.mk c22
                        clear c22
                        obtain ⟨y773, hy773⟩ : ∃ y_ : List Int, y_ = (x7_1 ++ [a2]) := ⟨_, rfl⟩
                        replace H : (spec_exValues.l0 kj11 a1 a2 y773 l0 (l0.length : Int) (wrap64 (x12_1 + 1))) = some r := by first | (rw [hy773]; with_reducible exact H) | (have H2_ := (Option.bind_some _ _).symm.trans H; rw [hy773]; with_reducible exact H2_) | (have H2_ := (Option.bind_some _ _).symm.trans H; with_reducible exact H2_) | with_reducible exact H | (rw [hy773]; exact H) | exact H
                        have Ny773 := Aside0.mk hy773
                        clear hy773
                        have H' := Aside0.mk H
                        clear H
                        have hcz23_0 := bcv BK766.out 0 (.string ((rd_T104 l0 x12_1).f0))
                        have hcz23_1 := bcv BK766.out 1 (.int .i64 ((rd_T104 l0 x12_1).f1))
                        have hcz23_2 := bcv BK766.out 2 (.int .i64 ((rd_T104 l0 x12_1).f2))
                        have hcz23_3 := bcv BK766.out 3 (.int .i64 ((rd_T104 l0 x12_1).f3))
                        have hfz23 := blk_frozen BK766.out
                        have hfz23_1 := blk_frozen BK766.out 1
                        have hfz23_2 := blk_frozen BK766.out 2
                        have hfz23_3 := blk_frozen BK766.out 3
                        go_wp2_with (first | ((with_reducible refine gate_builtin (b := .append) (xs := #[.tmp 58, .tmp 60]) rfl ?_); at_builtin; refine Kd.R_append (Kd.int .i64) (w0 := w) w.heap.size rfl (.tmp 58) (.tmp 60) 34 3 (.int .i64 0) 8 rfl Try.underlying34 info3 rfl (by decide) (by omega) u7 x7_1 a2 [.int .i64 a2] (fun _ => True) (fun _ => False) rfl rfl ?aP (fun _ hk => hk.elim) ?aF ?aO ?aB ?aS ?aL ?_; (case aP => exact rfl); (case aB => exact BA); (case aF => exact (fun _ _ => trivial)); (case aO => exact (by (with_reducible repeat (first | apply Kd.R_alloc | apply Kd.R_drewN | apply Kd.R_drew)); exact HO_7.out)); (case aS => exact (below_size BA)); (case aL => have := LMc22.out; omega); intro v774 w24 ho hb hg hat; rw [← Ny773.out] at ho; have n0_ := Aside0.mk (blk_grown (g := gb766) (o := .cells #[.string ((rd_T104 l0 x12_1).f0), .int .i64 ((rd_T104 l0 x12_1).f1), .int .i64 ((rd_T104 l0 x12_1).f2), .int .i64 ((rd_T104 l0 x12_1).f3)] 104 (0, 0)) (bk BK766.out) hg (Kd.R_ne HO_7.out BK766.out (by decide))); have n1_ := Aside0.mk (hb); have n2_ := Aside0.mk (ho); clear BK766; clear HB; clear HO_7; have BK766 := n0_; have HB := n1_; have HO775 := n2_; clear n0_ n1_ n2_; clear ho hb hg hat))
                        go_roundg kj11
                        case measure => have := HK1.out; have := HJ11.out; omega
                        case rel => exact ⟨(y773), (wrap64 (x12_1 + 1)), EQ1, H', ⟨by have := HK1.out; have := HJ11.out; omega⟩, ⟨by (with_reducible repeat (first | apply Kd.R_alloc | apply Kd.R_drewN | apply Kd.R_drew)); exact HO775.out⟩, ⟨BA⟩⟩
                      · rw [if_neg c22] at H
                        exact absurd H (by simp)
                    · rw [if_neg c21] at H
                      have c21b0 := beq_eq_false_iff_ne.mpr c21
                      have c21b1 := bne_iff_ne.mpr c21
                      replace H := Option.bind_eq_some_iff.mp H
                      obtain ⟨t776, A250, H⟩ := H
                      replace H : (if t776 = true then (if 0 ≤ ((rd_T104 l0 x12_1).f1) then (if ((rd_T104 l0 x12_1).f1) < (x7_1.length : Int) then ((spec_exApply.f ((rd_T104 l0 x12_1).f0) (rd x7_1 ((rd_T104 l0 x12_1).f1)) 0).bind fun t778 => (if x7_1.length < 17592186044416 then (spec_exValues.l0 kj11 a1 a2 (x7_1 ++ [t778]) l0 (l0.length : Int) (wrap64 (x12_1 + 1))) else (none))) else (none)) else (none)) else (if 0 ≤ ((rd_T104 l0 x12_1).f1) then (if ((rd_T104 l0 x12_1).f1) < (x7_1.length : Int) then (if 0 ≤ ((rd_T104 l0 x12_1).f2) then (if ((rd_T104 l0 x12_1).f2) < (x7_1.length : Int) then ((spec_exApply.f ((rd_T104 l0 x12_1).f0) (rd x7_1 ((rd_T104 l0 x12_1).f1)) (rd x7_1 ((rd_T104 l0 x12_1).f2))).bind fun t784 => (if x7_1.length < 17592186044416 then (spec_exValues.l0 kj11 a1 a2 (x7_1 ++ [t784]) l0 (l0.length : Int) (wrap64 (x12_1 + 1))) else (none))) else (none)) else (none)) else (none)) else (none))) = some r := H
                      have A25 := Aside0.mk A250
                      clear A250
                      by_cases c26 : t776 = true
                      · subst c26
                        have H1 : (if 0 ≤ ((rd_T104 l0 x12_1).f1) then (if ((rd_T104 l0 x12_1).f1) < (x7_1.length : Int) then ((spec_exApply.f ((rd_T104 l0 x12_1).f0) (rd x7_1 ((rd_T104 l0 x12_1).f1)) 0).bind fun t778 => (if x7_1.length < 17592186044416 then (spec_exValues.l0 kj11 a1 a2 (x7_1 ++ [t778]) l0 (l0.length : Int) (wrap64 (x12_1 + 1))) else (none))) else (none)) else (none)) = some r := by rw [if_pos rfl] at H; exact H
                        clear H
                        have H := H1
                        clear H1
                        by_cases c27 : 0 ≤ ((rd_T104 l0 x12_1).f1)
                        · rw [if_pos c27] at H
                          have c27b0 := decide_eq_true c27
                          clear c27
                          by_cases c28 : ((rd_T104 l0 x12_1).f1) < (x7_1.length : Int)
                          · rw [if_pos c28] at H
                            have c28b0 := decide_eq_true c28
                            clear c28
                            replace H := Option.bind_eq_some_iff.mp H
                            obtain ⟨t778, A290, H⟩ := H
                            replace H : (if x7_1.length < 17592186044416 then (spec_exValues.l0 kj11 a1 a2 (x7_1 ++ [t778]) l0 (l0.length : Int) (wrap64 (x12_1 + 1))) else (none)) = some r := H
                            have A29 := Aside0.mk A290
                            clear A290
                            by_cases c30 : x7_1.length < 17592186044416
                            · rw [if_pos c30] at H
                              have LMc30 := Aside0.mk c30
                              clear c30
                              obtain ⟨y779, hy779⟩ : ∃ y_ : List Int, y_ = (x7_1 ++ [t778]) := ⟨_, rfl⟩
                              replace H : (spec_exValues.l0 kj11 a1 a2 y779 l0 (l0.length : Int) (wrap64 (x12_1 + 1))) = some r := by first | (rw [hy779]; with_reducible exact H) | (have H2_ := (Option.bind_some _ _).symm.trans H; rw [hy779]; with_reducible exact H2_) | (have H2_ := (Option.bind_some _ _).symm.trans H; with_reducible exact H2_) | with_reducible exact H | (rw [hy779]; exact H) | exact H
                              have Ny779 := Aside0.mk hy779
                              clear hy779
                              have H' := Aside0.mk H
                              clear H
                              have hcz31_0 := bcv BK766.out 0 (.string ((rd_T104 l0 x12_1).f0))
                              have hcz31_1 := bcv BK766.out 1 (.int .i64 ((rd_T104 l0 x12_1).f1))
                              have hcz31_2 := bcv BK766.out 2 (.int .i64 ((rd_T104 l0 x12_1).f2))
                              have hcz31_3 := bcv BK766.out 3 (.int .i64 ((rd_T104 l0 x12_1).f3))
                              have hfz31 := blk_frozen BK766.out
                              have hfz31_1 := blk_frozen BK766.out 1
                              have hfz31_2 := blk_frozen BK766.out 2
                              have hfz31_3 := blk_frozen BK766.out 3
                              try go_wp2_with (first | ((with_reducible refine gate_callee (f := 151) rfl ?_); refine gK (some 65) Try.func151 #[.string ((rd_T104 l0 x12_1).f0)] rfl rfl rfl ?_; (with_reducible refine (spec_exOne.calls ((rd_T104 l0 x12_1).f0) true _ A25.out).mono ?_); rintro e w' ⟨rfl, ⟨nd, rfl⟩⟩; refine ⟨_, rfl, ?_⟩))
                              (try (rw [drewN_self wc]; generalize hq_ : World.drewN wc _ = wc; have n0_ : Aside0 (Kd.R (Kd.int .i64) 3 wc w.heap.size (fun _ => True) u7 x7_1) := ⟨by rw [← hq_]; exact (by (with_reducible repeat (first | apply Kd.R_alloc | apply Kd.R_drewN | apply Kd.R_drew)); exact HO_7.out)⟩; have n1_ : Aside0 (wc.heap[gb766]? = some (.cells #[.string ((rd_T104 l0 x12_1).f0), .int .i64 ((rd_T104 l0 x12_1).f1), .int .i64 ((rd_T104 l0 x12_1).f2), .int .i64 ((rd_T104 l0 x12_1).f3)] 104 (0, 0))) := ⟨by rw [← hq_]; exact (bk BK766.out)⟩; have n2_ : Aside0 (Below w.heap.size w wc) := ⟨by rw [← hq_]; exact BA⟩; clear HO_7 BK766 HB hq_; have HO_7 := n0_; have BK766 := n1_; have HB := n2_; clear n0_ n1_ n2_))
                              have n0_ := Aside0.mk (Kd.R_drew HO_7.out)
                              have n1_ := Aside0.mk (blk_drew BK766.out)
                              have n2_ := Aside0.mk (below_drew1 HB.out)
                              clear HO_7
                              clear BK766
                              clear HB
                              have HO_7 := n0_
                              have BK766 := n1_
                              have HB := n2_
                              clear n0_ n1_ n2_
                              obtain ⟨Ao33, co33, eo33⟩ := Kd.R_slice HO_7.out
                              (first | subst eo33 | (injection eo33 with f1_ f2_ f3_; have f4_ := f1_.symm; have f5_ := f3_.symm; clear f1_ f2_ f3_; subst f4_; subst f5_))
                              have p777 : 0 ≤ (((rd_T104 l0 x12_1).f1) : Int) := DT
                              have q777 : ((rd_T104 l0 x12_1).f1) < (x7_1.length : Int) := DT
                              obtain ⟨ad777, e777, hx777_0⟩ := Kd.at_int (Kd.R_reads' HO_7.out).2.2 ((rd_T104 l0 x12_1).f1) p777 q777
                              cases e777
                              replace p777 := eq_true p777
                              replace q777 := eq_true q777
                              refine start_ (n := 12) (S := fun w' => w'.cell? ⟨gb766, 0, none⟩ = some (.string ((rd_T104 l0 x12_1).f0)) ∧ w'.cell? ⟨gb766, 1, none⟩ = some (.int .i64 ((rd_T104 l0 x12_1).f1)) ∧ w'.cell? ⟨gb766, 2, none⟩ = some (.int .i64 ((rd_T104 l0 x12_1).f2)) ∧ w'.cell? ⟨gb766, 3, none⟩ = some (.int .i64 ((rd_T104 l0 x12_1).f3)) ∧ w'.cell? (ad777.add (((rd_T104 l0 x12_1).f1)).toNat) = some (.int .i64 (rd x7_1 ((rd_T104 l0 x12_1).f1)))) (ds := [9, 10]) #[false, false, false, false, false, false, false, false, false, false, false, false] (by kernel_rfl) rfl rfl ⟨(blk_cell BK766.out 0).trans rfl, (blk_cell BK766.out 1).trans rfl, (blk_cell BK766.out 2).trans rfl, (blk_cell BK766.out 3).trans rfl, hx777_0⟩ (fun hHeld => ?_); refine with_tabW spec_exValues.tab13 spec_exValues.bits13 (fun HT_ HW_ => ?_)
                              generalize wc.drew = w32 at HO_7 BK766 HB hx777_0 hHeld ⊢
                              refine pure_ (i := 0) (N := some 66) (v := ?_) (a' := ?_) #[true, false, false, false, false, false, false, false, false, false, false, false] rfl rfl (any_of HT_.out (by kernel_rfl)) (fun _ _ _ h => h) (Or.inl ⟨by rfl, ?_⟩) ?_ ?_
                              rotate_left
                              · intro w'
                                go_simp
                                with_reducible rfl
                              rotate_left
                              · simp only [Act.put, List.setIfInBounds_toArray, List.set_cons_zero, List.set_cons_succ, i64_w, i32_w]
                                rfl
                              refine pure_ (i := 1) (N := some 67) (v := ?_) (a' := ?_) #[true, true, false, false, false, false, false, false, false, false, false, false] rfl rfl (any_of HT_.out (by kernel_rfl)) (fun _ _ _ h => h) (Or.inl ⟨by rfl, ?_⟩) ?_ ?_
                              rotate_left
                              · intro w'
                                go_simp
                                with_reducible rfl
                              rotate_left
                              · simp only [Act.put, List.setIfInBounds_toArray, List.set_cons_zero, List.set_cons_succ, i64_w, i32_w]
                                rfl
                              refine pure_ (i := 3) (N := some 69) (v := ?_) (a' := ?_) #[true, true, false, true, false, false, false, false, false, false, false, false] rfl rfl (any_of HT_.out (by kernel_rfl)) (fun _ _ _ h => h) (Or.inl ⟨by rfl, ?_⟩) ?_ ?_
                              rotate_left
                              · intro w'
                                go_simp
                                with_reducible rfl
                              rotate_left
                              · simp only [Act.put, List.setIfInBounds_toArray, List.set_cons_zero, List.set_cons_succ, i64_w, i32_w]
                                rfl
                              refine pure_ (i := 4) (N := some 70) (v := ?_) (a' := ?_) #[true, true, false, true, true, false, false, false, false, false, false, false] rfl rfl (any_of HT_.out (by kernel_rfl)) (fun _ _ _ h => h) (Or.inl ⟨by rfl, ?_⟩) ?_ ?_
                              rotate_left
                              · intro w'
                                go_simp
                                with_reducible rfl
                              rotate_left
                              · simp only [Act.put, List.setIfInBounds_toArray, List.set_cons_zero, List.set_cons_succ, i64_w, i32_w]
                                rfl
                              refine take_ (i := 2) (N := some 68) (v := ?_) (a' := ?_) #[true, true, true, true, true, false, false, false, false, false, false, false] rfl rfl (take_ofW HT_.out HW_.out (by kernel_rfl)) (fun _ _ _ h => h) (Or.inl ⟨by rfl, ?_⟩) hHeld ?_ ?_
                              rotate_left
                              · rintro w' ⟨s0, s1, s2, s3, s4⟩
                                go_simp
                                with_reducible rfl
                              rotate_left
                              · simp only [Act.put, List.setIfInBounds_toArray, List.set_cons_zero, List.set_cons_succ, i64_w, i32_w]
                                rfl
                              refine take_ (i := 5) (N := some 71) (v := ?_) (a' := ?_) #[true, true, true, true, true, true, false, false, false, false, false, false] rfl rfl (take_ofW HT_.out HW_.out (by kernel_rfl)) (fun _ _ _ h => h) (Or.inl ⟨by rfl, ?_⟩) hHeld ?_ ?_
                              rotate_left
                              · rintro w' ⟨s0, s1, s2, s3, s4⟩
                                go_simp
                                with_reducible rfl
                              rotate_left
                              · simp only [Act.put, List.setIfInBounds_toArray, List.set_cons_zero, List.set_cons_succ, i64_w, i32_w]
                                rfl
                              refine pure_ (i := 6) (N := some 72) (v := ?_) (a' := ?_) #[true, true, true, true, true, true, true, false, false, false, false, false] rfl rfl (any_of HT_.out (by kernel_rfl)) (fun _ _ _ h => h) (Or.inl ⟨by rfl, ?_⟩) ?_ ?_
                              rotate_left
                              · intro w'
                                go_simp
                                with_reducible rfl
                              rotate_left
                              · simp only [Act.put, List.setIfInBounds_toArray, List.set_cons_zero, List.set_cons_succ, i64_w, i32_w]
                                rfl
                              refine take_ (i := 7) (N := some 73) (v := ?_) (a' := ?_) #[true, true, true, true, true, true, true, true, false, false, false, false] rfl rfl (take_ofW HT_.out HW_.out (by kernel_rfl)) (fun _ _ _ h => h) (Or.inl ⟨by rfl, ?_⟩) hHeld ?_ ?_
                              rotate_left
                              · rintro w' ⟨s0, s1, s2, s3, s4⟩
                                go_simp
                                with_reducible rfl
                              rotate_left
                              · simp only [Act.put, List.setIfInBounds_toArray, List.set_cons_zero, List.set_cons_succ, i64_w, i32_w]
                                rfl
                              refine one_ (i := 8) (N := some 74) #[true, true, true, true, true, true, true, true, true, false, false, false] rfl rfl (one_of HT_.out (by kernel_rfl)) (by decide) (fun K hK => ?_)
                              refine goes_ Try.func170 (by kernel_rfl) rfl #[.string ((rd_T104 l0 x12_1).f0), .int .i64 (rd x7_1 ((rd_T104 l0 x12_1).f1)), .int .i64 0] (by rfl) rfl rfl (by (try simp only [List.map_toArray, List.map_cons, List.map_nil]); first | done | rfl | (simp only [List.length_drop, List.length_take]; rfl)) ?_
                              with_reducible refine (spec_exApply.calls ((rd_T104 l0 x12_1).f0) (rd x7_1 ((rd_T104 l0 x12_1).f1)) 0 t778 _ A29.out).mono ?_
                              rintro e w' ⟨rfl, ⟨nd, rfl⟩⟩
                              refine ⟨_, rfl, ?_⟩
                              refine hK.out _ _ ⟨(blk_cell BK766.out 0).trans rfl, (blk_cell BK766.out 1).trans rfl, (blk_cell BK766.out 2).trans rfl, (blk_cell BK766.out 3).trans rfl, hHeld.2.2.2.2⟩ (fun hHeld => ?_)
                              clear hK K
                              refine norm_ (a' := ?_) ?_ ?_
                              rotate_left
                              · show Act.put _ (some 74) _ = _
                                simp only [Act.put, List.setIfInBounds_toArray, List.set_cons_zero, List.set_cons_succ, i64_w, i32_w]
                                rfl
                              refine last_ (i := 9) (N := some 75) #[true, true, true, true, true, true, true, true, true, true, false, false] rfl rfl (one_of HT_.out (by kernel_rfl)) (by decide) (fun K hK => ?_)
                              refine value_ (w1 := ?_) (v := ?_) (by rfl) rfl ?_ ?_
                              rotate_left 2
                              · go_simp
                                constructor
                                · rfl
                                · rfl
                              refine hK.out _ _ ?_
                              clear hK K
                              refine norm_ (a' := ?_) ?_ ?_
                              rotate_left
                              · show Act.put _ (some 75) _ = _
                                simp only [Act.put, List.setIfInBounds_toArray, List.set_cons_zero, List.set_cons_succ, i64_w, i32_w]
                                rfl
                              refine last_ (i := 10) (N := some 76) #[true, true, true, true, true, true, true, true, true, true, true, false] rfl rfl (one_of HT_.out (by kernel_rfl)) (by decide) (fun K hK => ?_)
                              refine Kd.R_append_step (Kd.int .i64) (w0 := w) w.heap.size (by rfl) (.tmp 66) (.tmp 75) 34 3 (.int .i64 0) 8 rfl Try.underlying34 info3 rfl (by decide) (by omega) (.slice (some ad777) x7_1.length co33) x7_1 t778 [.int .i64 t778] (fun _ => True) (fun _ => False) rfl rfl ?aP (fun _ hk => hk.elim) ?aF ?aO ?aB ?aS ?aL ?_
                              (case aP => exact rfl)
                              (case aB => exact BA)
                              (case aF => exact (fun _ _ => trivial))
                              (case aO => exact (by (with_reducible repeat (first | apply Kd.R_alloc | apply Kd.R_drewN | apply Kd.R_drew)); exact HO_7.out))
                              (case aS => exact (below_size BA))
                              (case aL => have := LMc30.out; omega)
                              intro v780 w34 ho hb hg hat
                              rw [← Ny779.out] at ho
                              have n0_ := Aside0.mk (blk_grown (g := gb766) (o := .cells #[.string ((rd_T104 l0 x12_1).f0), .int .i64 ((rd_T104 l0 x12_1).f1), .int .i64 ((rd_T104 l0 x12_1).f2), .int .i64 ((rd_T104 l0 x12_1).f3)] 104 (0, 0)) (bk BK766.out) hg (Kd.R_ne HO_7.out BK766.out (by decide)))
                              have n1_ := Aside0.mk (hb)
                              have n2_ := Aside0.mk (ho)
                              clear BK766
                              clear HB
                              clear HO_7
                              have BK766 := n0_
                              have HB := n1_
                              have HO781 := n2_
                              clear n0_ n1_ n2_
                              clear ho hb hg hat
                              refine hK.out _ _ ?_
                              clear hK K
                              refine norm_ (a' := ?_) ?_ ?_
                              rotate_left
                              · show Act.put _ (some 76) _ = _
                                simp only [Act.put, List.setIfInBounds_toArray, List.set_cons_zero, List.set_cons_succ, i64_w, i32_w]
                                rfl
                              refine pure_ (i := 11) (N := some 7) (v := ?_) (a' := ?_) #[true, true, true, true, true, true, true, true, true, true, true, true] rfl rfl (any_of HT_.out (by kernel_rfl)) (fun _ _ _ h => h) (Or.inl ⟨by rfl, ?_⟩) ?_ ?_
                              rotate_left
                              · intro w'
                                go_simp
                                with_reducible rfl
                              rotate_left
                              · simp only [Act.put, List.setIfInBounds_toArray, List.set_cons_zero, List.set_cons_succ, i64_w, i32_w]
                                rfl
                              refine done_ (done_of HT_.out (by kernel_rfl)) ?_
                              try go_wp2
                              go_roundg kj11
                              case measure => have := HK1.out; have := HJ11.out; omega
                              case rel => exact ⟨(y779), (wrap64 (x12_1 + 1)), EQ1, H', ⟨by have := HK1.out; have := HJ11.out; omega⟩, ⟨by (with_reducible repeat (first | apply Kd.R_alloc | apply Kd.R_drewN | apply Kd.R_drew)); exact HO781.out⟩, ⟨BA⟩⟩
                            · rw [if_neg c30] at H
                              exact absurd H (by simp)
                          · rw [if_neg c28] at H
                            exact absurd H (by simp)
                        · rw [if_neg c27] at H
                          exact absurd H (by simp)
                      · replace c26 := Bool.eq_false_iff.mpr c26
                        subst c26
                        have H1 : (if 0 ≤ ((rd_T104 l0 x12_1).f1) then (if ((rd_T104 l0 x12_1).f1) < (x7_1.length : Int) then (if 0 ≤ ((rd_T104 l0 x12_1).f2) then (if ((rd_T104 l0 x12_1).f2) < (x7_1.length : Int) then ((spec_exApply.f ((rd_T104 l0 x12_1).f0) (rd x7_1 ((rd_T104 l0 x12_1).f1)) (rd x7_1 ((rd_T104 l0 x12_1).f2))).bind fun t784 => (if x7_1.length < 17592186044416 then (spec_exValues.l0 kj11 a1 a2 (x7_1 ++ [t784]) l0 (l0.length : Int) (wrap64 (x12_1 + 1))) else (none))) else (none)) else (none)) else (none)) else (none)) = some r := by rw [if_neg (show ¬ (false = true) by decide)] at H; exact H
                        clear H
                        have H := H1
                        clear H1
                        by_cases c35 : 0 ≤ ((rd_T104 l0 x12_1).f1)
                        · rw [if_pos c35] at H
                          have c35b0 := decide_eq_true c35
                          clear c35
                          by_cases c36 : ((rd_T104 l0 x12_1).f1) < (x7_1.length : Int)
                          · rw [if_pos c36] at H
                            have c36b0 := decide_eq_true c36
                            clear c36
                            by_cases c37 : 0 ≤ ((rd_T104 l0 x12_1).f2)
                            · rw [if_pos c37] at H
                              have c37b0 := decide_eq_true c37
                              clear c37
                              by_cases c38 : ((rd_T104 l0 x12_1).f2) < (x7_1.length : Int)
                              · rw [if_pos c38] at H
                                have c38b0 := decide_eq_true c38
                                clear c38
                                replace H := Option.bind_eq_some_iff.mp H
                                obtain ⟨t784, A390, H⟩ := H
                                replace H : (if x7_1.length < 17592186044416 then (spec_exValues.l0 kj11 a1 a2 (x7_1 ++ [t784]) l0 (l0.length : Int) (wrap64 (x12_1 + 1))) else (none)) = some r := H
                                have A39 := Aside0.mk A390
                                clear A390
                                by_cases c40 : x7_1.length < 17592186044416
                                · rw [if_pos c40] at H
                                  have LMc40 := Aside0.mk c40
                                  clear c40
                                  obtain ⟨y785, hy785⟩ : ∃ y_ : List Int, y_ = (x7_1 ++ [t784]) := ⟨_, rfl⟩
                                  replace H : (spec_exValues.l0 kj11 a1 a2 y785 l0 (l0.length : Int) (wrap64 (x12_1 + 1))) = some r := by first | (rw [hy785]; with_reducible exact H) | (have H2_ := (Option.bind_some _ _).symm.trans H; rw [hy785]; with_reducible exact H2_) | (have H2_ := (Option.bind_some _ _).symm.trans H; with_reducible exact H2_) | with_reducible exact H | (rw [hy785]; exact H) | exact H
                                  have Ny785 := Aside0.mk hy785
                                  clear hy785
                                  have H' := Aside0.mk H
                                  clear H
                                  have hcz41_0 := bcv BK766.out 0 (.string ((rd_T104 l0 x12_1).f0))
                                  have hcz41_1 := bcv BK766.out 1 (.int .i64 ((rd_T104 l0 x12_1).f1))
                                  have hcz41_2 := bcv BK766.out 2 (.int .i64 ((rd_T104 l0 x12_1).f2))
                                  have hcz41_3 := bcv BK766.out 3 (.int .i64 ((rd_T104 l0 x12_1).f3))
                                  have hfz41 := blk_frozen BK766.out
                                  have hfz41_1 := blk_frozen BK766.out 1
                                  have hfz41_2 := blk_frozen BK766.out 2
                                  have hfz41_3 := blk_frozen BK766.out 3
                                  try go_wp2_with (first | ((with_reducible refine gate_callee (f := 151) rfl ?_); refine gK (some 65) Try.func151 #[.string ((rd_T104 l0 x12_1).f0)] rfl rfl rfl ?_; (with_reducible refine (spec_exOne.calls ((rd_T104 l0 x12_1).f0) false _ A25.out).mono ?_); rintro e w' ⟨rfl, ⟨nd, rfl⟩⟩; refine ⟨_, rfl, ?_⟩))
                                  (try (rw [drewN_self wc]; generalize hq_ : World.drewN wc _ = wc; have n0_ : Aside0 (Kd.R (Kd.int .i64) 3 wc w.heap.size (fun _ => True) u7 x7_1) := ⟨by rw [← hq_]; exact (by (with_reducible repeat (first | apply Kd.R_alloc | apply Kd.R_drewN | apply Kd.R_drew)); exact HO_7.out)⟩; have n1_ : Aside0 (wc.heap[gb766]? = some (.cells #[.string ((rd_T104 l0 x12_1).f0), .int .i64 ((rd_T104 l0 x12_1).f1), .int .i64 ((rd_T104 l0 x12_1).f2), .int .i64 ((rd_T104 l0 x12_1).f3)] 104 (0, 0))) := ⟨by rw [← hq_]; exact (bk BK766.out)⟩; have n2_ : Aside0 (Below w.heap.size w wc) := ⟨by rw [← hq_]; exact BA⟩; clear HO_7 BK766 HB hq_; have HO_7 := n0_; have BK766 := n1_; have HB := n2_; clear n0_ n1_ n2_))
                                  have n0_ := Aside0.mk (Kd.R_drew HO_7.out)
                                  have n1_ := Aside0.mk (blk_drew BK766.out)
                                  have n2_ := Aside0.mk (below_drew1 HB.out)
                                  clear HO_7
                                  clear BK766
                                  clear HB
                                  have HO_7 := n0_
                                  have BK766 := n1_
                                  have HB := n2_
                                  clear n0_ n1_ n2_
                                  obtain ⟨Ao43, co43, eo43⟩ := Kd.R_slice HO_7.out
                                  (first | subst eo43 | (injection eo43 with f1_ f2_ f3_; have f4_ := f1_.symm; have f5_ := f3_.symm; clear f1_ f2_ f3_; subst f4_; subst f5_))
                                  have p782 : 0 ≤ (((rd_T104 l0 x12_1).f1) : Int) := DT
                                  have q782 : ((rd_T104 l0 x12_1).f1) < (x7_1.length : Int) := DT
                                  obtain ⟨ad782, e782, hx782_0⟩ := Kd.at_int (Kd.R_reads' HO_7.out).2.2 ((rd_T104 l0 x12_1).f1) p782 q782
                                  cases e782
                                  replace p782 := eq_true p782
                                  replace q782 := eq_true q782
                                  have p783 : 0 ≤ (((rd_T104 l0 x12_1).f2) : Int) := DT
                                  have q783 : ((rd_T104 l0 x12_1).f2) < (x7_1.length : Int) := DT
                                  obtain ⟨ad783, e783, hx783_0⟩ := Kd.at_int (Kd.R_reads' HO_7.out).2.2 ((rd_T104 l0 x12_1).f2) p783 q783
                                  obtain rfl : ad782 = ad783 := (by injection e783)
                                  replace p783 := eq_true p783
                                  replace q783 := eq_true q783
                                  refine start_ (n := 17) (S := fun w' => w'.cell? ⟨gb766, 0, none⟩ = some (.string ((rd_T104 l0 x12_1).f0)) ∧ w'.cell? ⟨gb766, 1, none⟩ = some (.int .i64 ((rd_T104 l0 x12_1).f1)) ∧ w'.cell? ⟨gb766, 2, none⟩ = some (.int .i64 ((rd_T104 l0 x12_1).f2)) ∧ w'.cell? ⟨gb766, 3, none⟩ = some (.int .i64 ((rd_T104 l0 x12_1).f3)) ∧ w'.cell? (ad782.add (((rd_T104 l0 x12_1).f1)).toNat) = some (.int .i64 (rd x7_1 ((rd_T104 l0 x12_1).f1))) ∧ w'.cell? (ad782.add (((rd_T104 l0 x12_1).f2)).toNat) = some (.int .i64 (rd x7_1 ((rd_T104 l0 x12_1).f2)))) (ds := [14, 15]) #[false, false, false, false, false, false, false, false, false, false, false, false, false, false, false, false, false] (by kernel_rfl) rfl rfl ⟨(blk_cell BK766.out 0).trans rfl, (blk_cell BK766.out 1).trans rfl, (blk_cell BK766.out 2).trans rfl, (blk_cell BK766.out 3).trans rfl, hx782_0, hx783_0⟩ (fun hHeld => ?_); refine with_tabW spec_exValues.tab5 spec_exValues.bits5 (fun HT_ HW_ => ?_)
                                  generalize wc.drew = w42 at HO_7 BK766 HB hx782_0 hx783_0 hHeld ⊢
                                  refine pure_ (i := 0) (N := some 16) (v := ?_) (a' := ?_) #[true, false, false, false, false, false, false, false, false, false, false, false, false, false, false, false, false] rfl rfl (any_of HT_.out (by kernel_rfl)) (fun _ _ _ h => h) (Or.inl ⟨by rfl, ?_⟩) ?_ ?_
                                  rotate_left
                                  · intro w'
                                    go_simp
                                    with_reducible rfl
                                  rotate_left
                                  · simp only [Act.put, List.setIfInBounds_toArray, List.set_cons_zero, List.set_cons_succ, i64_w, i32_w]
                                    rfl
                                  refine pure_ (i := 1) (N := some 17) (v := ?_) (a' := ?_) #[true, true, false, false, false, false, false, false, false, false, false, false, false, false, false, false, false] rfl rfl (any_of HT_.out (by kernel_rfl)) (fun _ _ _ h => h) (Or.inl ⟨by rfl, ?_⟩) ?_ ?_
                                  rotate_left
                                  · intro w'
                                    go_simp
                                    with_reducible rfl
                                  rotate_left
                                  · simp only [Act.put, List.setIfInBounds_toArray, List.set_cons_zero, List.set_cons_succ, i64_w, i32_w]
                                    rfl
                                  refine pure_ (i := 3) (N := some 19) (v := ?_) (a' := ?_) #[true, true, false, true, false, false, false, false, false, false, false, false, false, false, false, false, false] rfl rfl (any_of HT_.out (by kernel_rfl)) (fun _ _ _ h => h) (Or.inl ⟨by rfl, ?_⟩) ?_ ?_
                                  rotate_left
                                  · intro w'
                                    go_simp
                                    with_reducible rfl
                                  rotate_left
                                  · simp only [Act.put, List.setIfInBounds_toArray, List.set_cons_zero, List.set_cons_succ, i64_w, i32_w]
                                    rfl
                                  refine pure_ (i := 4) (N := some 20) (v := ?_) (a' := ?_) #[true, true, false, true, true, false, false, false, false, false, false, false, false, false, false, false, false] rfl rfl (any_of HT_.out (by kernel_rfl)) (fun _ _ _ h => h) (Or.inl ⟨by rfl, ?_⟩) ?_ ?_
                                  rotate_left
                                  · intro w'
                                    go_simp
                                    with_reducible rfl
                                  rotate_left
                                  · simp only [Act.put, List.setIfInBounds_toArray, List.set_cons_zero, List.set_cons_succ, i64_w, i32_w]
                                    rfl
                                  refine pure_ (i := 8) (N := some 24) (v := ?_) (a' := ?_) #[true, true, false, true, true, false, false, false, true, false, false, false, false, false, false, false, false] rfl rfl (any_of HT_.out (by kernel_rfl)) (fun _ _ _ h => h) (Or.inl ⟨by rfl, ?_⟩) ?_ ?_
                                  rotate_left
                                  · intro w'
                                    go_simp
                                    with_reducible rfl
                                  rotate_left
                                  · simp only [Act.put, List.setIfInBounds_toArray, List.set_cons_zero, List.set_cons_succ, i64_w, i32_w]
                                    rfl
                                  refine pure_ (i := 9) (N := some 25) (v := ?_) (a' := ?_) #[true, true, false, true, true, false, false, false, true, true, false, false, false, false, false, false, false] rfl rfl (any_of HT_.out (by kernel_rfl)) (fun _ _ _ h => h) (Or.inl ⟨by rfl, ?_⟩) ?_ ?_
                                  rotate_left
                                  · intro w'
                                    go_simp
                                    with_reducible rfl
                                  rotate_left
                                  · simp only [Act.put, List.setIfInBounds_toArray, List.set_cons_zero, List.set_cons_succ, i64_w, i32_w]
                                    rfl
                                  refine take_ (i := 2) (N := some 18) (v := ?_) (a' := ?_) #[true, true, true, true, true, false, false, false, true, true, false, false, false, false, false, false, false] rfl rfl (take_ofW HT_.out HW_.out (by kernel_rfl)) (fun _ _ _ h => h) (Or.inl ⟨by rfl, ?_⟩) hHeld ?_ ?_
                                  rotate_left
                                  · rintro w' ⟨s0, s1, s2, s3, s4, s5⟩
                                    go_simp
                                    with_reducible rfl
                                  rotate_left
                                  · simp only [Act.put, List.setIfInBounds_toArray, List.set_cons_zero, List.set_cons_succ, i64_w, i32_w]
                                    rfl
                                  refine take_ (i := 5) (N := some 21) (v := ?_) (a' := ?_) #[true, true, true, true, true, true, false, false, true, true, false, false, false, false, false, false, false] rfl rfl (take_ofW HT_.out HW_.out (by kernel_rfl)) (fun _ _ _ h => h) (Or.inl ⟨by rfl, ?_⟩) hHeld ?_ ?_
                                  rotate_left
                                  · rintro w' ⟨s0, s1, s2, s3, s4, s5⟩
                                    go_simp
                                    with_reducible rfl
                                  rotate_left
                                  · simp only [Act.put, List.setIfInBounds_toArray, List.set_cons_zero, List.set_cons_succ, i64_w, i32_w]
                                    rfl
                                  refine pure_ (i := 6) (N := some 22) (v := ?_) (a' := ?_) #[true, true, true, true, true, true, true, false, true, true, false, false, false, false, false, false, false] rfl rfl (any_of HT_.out (by kernel_rfl)) (fun _ _ _ h => h) (Or.inl ⟨by rfl, ?_⟩) ?_ ?_
                                  rotate_left
                                  · intro w'
                                    go_simp
                                    with_reducible rfl
                                  rotate_left
                                  · simp only [Act.put, List.setIfInBounds_toArray, List.set_cons_zero, List.set_cons_succ, i64_w, i32_w]
                                    rfl
                                  refine take_ (i := 7) (N := some 23) (v := ?_) (a' := ?_) #[true, true, true, true, true, true, true, true, true, true, false, false, false, false, false, false, false] rfl rfl (take_ofW HT_.out HW_.out (by kernel_rfl)) (fun _ _ _ h => h) (Or.inl ⟨by rfl, ?_⟩) hHeld ?_ ?_
                                  rotate_left
                                  · rintro w' ⟨s0, s1, s2, s3, s4, s5⟩
                                    go_simp
                                    with_reducible rfl
                                  rotate_left
                                  · simp only [Act.put, List.setIfInBounds_toArray, List.set_cons_zero, List.set_cons_succ, i64_w, i32_w]
                                    rfl
                                  refine take_ (i := 10) (N := some 26) (v := ?_) (a' := ?_) #[true, true, true, true, true, true, true, true, true, true, true, false, false, false, false, false, false] rfl rfl (take_ofW HT_.out HW_.out (by kernel_rfl)) (fun _ _ _ h => h) (Or.inl ⟨by rfl, ?_⟩) hHeld ?_ ?_
                                  rotate_left
                                  · rintro w' ⟨s0, s1, s2, s3, s4, s5⟩
                                    go_simp
                                    with_reducible rfl
                                  rotate_left
                                  · simp only [Act.put, List.setIfInBounds_toArray, List.set_cons_zero, List.set_cons_succ, i64_w, i32_w]
                                    rfl
                                  refine pure_ (i := 11) (N := some 27) (v := ?_) (a' := ?_) #[true, true, true, true, true, true, true, true, true, true, true, true, false, false, false, false, false] rfl rfl (any_of HT_.out (by kernel_rfl)) (fun _ _ _ h => h) (Or.inl ⟨by rfl, ?_⟩) ?_ ?_
                                  rotate_left
                                  · intro w'
                                    go_simp
                                    with_reducible rfl
                                  rotate_left
                                  · simp only [Act.put, List.setIfInBounds_toArray, List.set_cons_zero, List.set_cons_succ, i64_w, i32_w]
                                    rfl
                                  refine take_ (i := 12) (N := some 28) (v := ?_) (a' := ?_) #[true, true, true, true, true, true, true, true, true, true, true, true, true, false, false, false, false] rfl rfl (take_ofW HT_.out HW_.out (by kernel_rfl)) (fun _ _ _ h => h) (Or.inl ⟨by rfl, ?_⟩) hHeld ?_ ?_
                                  rotate_left
                                  · rintro w' ⟨s0, s1, s2, s3, s4, s5⟩
                                    go_simp
                                    with_reducible rfl
                                  rotate_left
                                  · simp only [Act.put, List.setIfInBounds_toArray, List.set_cons_zero, List.set_cons_succ, i64_w, i32_w]
                                    rfl
                                  refine one_ (i := 13) (N := some 29) #[true, true, true, true, true, true, true, true, true, true, true, true, true, true, false, false, false] rfl rfl (one_of HT_.out (by kernel_rfl)) (by decide) (fun K hK => ?_)
                                  refine goes_ Try.func170 (by kernel_rfl) rfl #[.string ((rd_T104 l0 x12_1).f0), .int .i64 (rd x7_1 ((rd_T104 l0 x12_1).f1)), .int .i64 (rd x7_1 ((rd_T104 l0 x12_1).f2))] (by rfl) rfl rfl (by (try simp only [List.map_toArray, List.map_cons, List.map_nil]); first | done | rfl | (simp only [List.length_drop, List.length_take]; rfl)) ?_
                                  with_reducible refine (spec_exApply.calls ((rd_T104 l0 x12_1).f0) (rd x7_1 ((rd_T104 l0 x12_1).f1)) (rd x7_1 ((rd_T104 l0 x12_1).f2)) t784 _ A39.out).mono ?_
                                  rintro e w' ⟨rfl, ⟨nd, rfl⟩⟩
                                  refine ⟨_, rfl, ?_⟩
                                  refine hK.out _ _ ⟨(blk_cell BK766.out 0).trans rfl, (blk_cell BK766.out 1).trans rfl, (blk_cell BK766.out 2).trans rfl, (blk_cell BK766.out 3).trans rfl, hHeld.2.2.2.2.1, hHeld.2.2.2.2.2⟩ (fun hHeld => ?_)
                                  clear hK K
                                  refine norm_ (a' := ?_) ?_ ?_
                                  rotate_left
                                  · show Act.put _ (some 29) _ = _
                                    simp only [Act.put, List.setIfInBounds_toArray, List.set_cons_zero, List.set_cons_succ, i64_w, i32_w]
                                    rfl
                                  refine last_ (i := 14) (N := some 30) #[true, true, true, true, true, true, true, true, true, true, true, true, true, true, true, false, false] rfl rfl (one_of HT_.out (by kernel_rfl)) (by decide) (fun K hK => ?_)
                                  refine value_ (w1 := ?_) (v := ?_) (by rfl) rfl ?_ ?_
                                  rotate_left 2
                                  · go_simp
                                    constructor
                                    · rfl
                                    · rfl
                                  refine hK.out _ _ ?_
                                  clear hK K
                                  refine norm_ (a' := ?_) ?_ ?_
                                  rotate_left
                                  · show Act.put _ (some 30) _ = _
                                    simp only [Act.put, List.setIfInBounds_toArray, List.set_cons_zero, List.set_cons_succ, i64_w, i32_w]
                                    rfl
                                  refine last_ (i := 15) (N := some 31) #[true, true, true, true, true, true, true, true, true, true, true, true, true, true, true, true, false] rfl rfl (one_of HT_.out (by kernel_rfl)) (by decide) (fun K hK => ?_)
                                  refine Kd.R_append_step (Kd.int .i64) (w0 := w) w.heap.size (by rfl) (.tmp 16) (.tmp 30) 34 3 (.int .i64 0) 8 rfl Try.underlying34 info3 rfl (by decide) (by omega) (.slice (some ad782) x7_1.length co43) x7_1 t784 [.int .i64 t784] (fun _ => True) (fun _ => False) rfl rfl ?aP (fun _ hk => hk.elim) ?aF ?aO ?aB ?aS ?aL ?_
                                  (case aP => exact rfl)
                                  (case aB => exact BA)
                                  (case aF => exact (fun _ _ => trivial))
                                  (case aO => exact (by (with_reducible repeat (first | apply Kd.R_alloc | apply Kd.R_drewN | apply Kd.R_drew)); exact HO_7.out))
                                  (case aS => exact (below_size BA))
                                  (case aL => have := LMc40.out; omega)
                                  intro v786 w44 ho hb hg hat
                                  rw [← Ny785.out] at ho
                                  have n0_ := Aside0.mk (blk_grown (g := gb766) (o := .cells #[.string ((rd_T104 l0 x12_1).f0), .int .i64 ((rd_T104 l0 x12_1).f1), .int .i64 ((rd_T104 l0 x12_1).f2), .int .i64 ((rd_T104 l0 x12_1).f3)] 104 (0, 0)) (bk BK766.out) hg (Kd.R_ne HO_7.out BK766.out (by decide)))
                                  have n1_ := Aside0.mk (hb)
                                  have n2_ := Aside0.mk (ho)
                                  clear BK766
                                  clear HB
                                  clear HO_7
                                  have BK766 := n0_
                                  have HB := n1_
                                  have HO787 := n2_
                                  clear n0_ n1_ n2_
                                  clear ho hb hg hat
                                  refine hK.out _ _ ?_
                                  clear hK K
                                  refine norm_ (a' := ?_) ?_ ?_
                                  rotate_left
                                  · show Act.put _ (some 31) _ = _
                                    simp only [Act.put, List.setIfInBounds_toArray, List.set_cons_zero, List.set_cons_succ, i64_w, i32_w]
                                    rfl
                                  refine pure_ (i := 16) (N := some 7) (v := ?_) (a' := ?_) #[true, true, true, true, true, true, true, true, true, true, true, true, true, true, true, true, true] rfl rfl (any_of HT_.out (by kernel_rfl)) (fun _ _ _ h => h) (Or.inl ⟨by rfl, ?_⟩) ?_ ?_
                                  rotate_left
                                  · intro w'
                                    go_simp
                                    with_reducible rfl
                                  rotate_left
                                  · simp only [Act.put, List.setIfInBounds_toArray, List.set_cons_zero, List.set_cons_succ, i64_w, i32_w]
                                    rfl
                                  refine done_ (done_of HT_.out (by kernel_rfl)) ?_
                                  try go_wp2
                                  go_roundg kj11
                                  case measure => have := HK1.out; have := HJ11.out; omega
                                  case rel => exact ⟨(y785), (wrap64 (x12_1 + 1)), EQ1, H', ⟨by have := HK1.out; have := HJ11.out; omega⟩, ⟨by (with_reducible repeat (first | apply Kd.R_alloc | apply Kd.R_drewN | apply Kd.R_drew)); exact HO787.out⟩, ⟨BA⟩⟩
                                · rw [if_neg c40] at H
                                  exact absurd H (by simp)
                              · rw [if_neg c38] at H
                                exact absurd H (by simp)
                            · rw [if_neg c37] at H
                              exact absurd H (by simp)
                          · rw [if_neg c36] at H
                            exact absurd H (by simp)
                        · rw [if_neg c35] at H
                          exact absurd H (by simp)
          · rw [if_neg c6] at H
            exact absurd H (by simp)
        · rw [if_neg c5] at H
          exact absurd H (by simp)
      · rw [if_neg c4] at H
        have c4b0 := decide_eq_false c4
        clear c4
        obtain rfl := Option.some.inj H
        go_wp2
        go_ret
        exact ⟨_, EQ, by (with_reducible repeat (first | apply Kd.R_alloc | apply Kd.R_drewN | apply Kd.R_drew)); exact HO_7.out, BA⟩

/-! ### spec_exAt: function 141 -/
def spec_exAt.f (k : Nat) (l0 : List (S104)) (a1 : Int) (a2 : Int) : Option (Int) := (spec_exValues.f k l0 a1 a2).bind fun t788 => (if 0 ≤ (wrap64 ((l0.length : Int) - 1)) then (if (wrap64 ((l0.length : Int) - 1)) < (t788.length : Int) then (some (rd t788 (wrap64 ((l0.length : Int) - 1)))) else (none)) else (none))
theorem spec_exAt.mono : ∀ a0 a1 a2 k, LeO (spec_exAt.f k a0 a1 a2) (spec_exAt.f (k + 1) a0 a1 a2) := by
  intro a0 a1 a2 k
  unfold spec_exAt.f
  repeat' first | (with_reducible first | exact spec_exValues.mono _ _ _ _ | exact LeO.refl _ | exact LeO.none _ | refine LeO.ite ?_ ?_ | refine LeO.bind ?_ (fun _ => ?_)) | exact LeO.none _ | refine LeO.ite ?_ ?_ | refine LeO.bind ?_ (fun _ => ?_)
set_option maxHeartbeats 8000000 in
set_option maxRecDepth 100000 in
theorem spec_exAt.calls (k : Nat) (A0 : Option Addr) (c0 : Nat) (l0 : List (S104)) (a1 : Int) (a2 : Int) (r : Int) (w : World) (hr0 : Kd.C k104 w A0 l0.length l0) (hc0 : l0.length ≤ c0) (h : spec_exAt.f k l0 a1 a2 = some r) :
    Calls Try.prog 141 #[.slice A0 l0.length c0, .int .i64 a1, .int .i64 a2] w fun e w' => e = .returned (.int .i64 r) ∧ Below w.heap.size w w' := by
  have HR0 := Aside0.mk hr0
  have HC0 := Aside0.mk hc0
  clear hr0 hc0
  have HB := Aside0.mk (Below.refl w.heap.size w)
  have H : ((spec_exValues.f k l0 a1 a2).bind fun t788 => (if 0 ≤ (wrap64 ((l0.length : Int) - 1)) then (if (wrap64 ((l0.length : Int) - 1)) < (t788.length : Int) then (some (rd t788 (wrap64 ((l0.length : Int) - 1)))) else (none)) else (none))) = some r := h
  clear h
  replace H := Option.bind_eq_some_iff.mp H
  obtain ⟨t788, A40, H⟩ := H
  replace H : (if 0 ≤ (wrap64 ((l0.length : Int) - 1)) then (if (wrap64 ((l0.length : Int) - 1)) < (t788.length : Int) then (some (rd t788 (wrap64 ((l0.length : Int) - 1)))) else (none)) else (none)) = some r := H
  have A4 := Aside0.mk A40
  clear A40
  obtain ⟨ji5, hji5⟩ : ∃ j_ : Int, (wrap64 ((l0.length : Int) - 1)) = j_ := ⟨_, rfl⟩
  replace H : (if 0 ≤ (ji5) then (if (ji5) < (t788.length : Int) then (some (rd t788 (ji5))) else (none)) else (none)) = some r := by first | (rw [hji5] at H; exact H) | (simp only [hji5] at H ⊢; exact H)
  (try rw [hji5] at A4)
  have hji5w : (IntKind.i64.wrap ((l0.length : Int) - 1)) = ji5 := (i64_w _).trans hji5
  by_cases c6 : 0 ≤ (ji5)
  · rw [if_pos c6] at H
    have c6b0 := decide_eq_true c6
    clear c6
    by_cases c7 : (ji5) < (t788.length : Int)
    · rw [if_pos c7] at H
      have c7b0 := decide_eq_true c7
      clear c7
      obtain rfl := Option.some.inj H
      go_enter Try.func141, Try.ntmps141
      go_wp2_with (first | ((with_reducible refine gate_callee (f := 162) rfl ?_); refine gK (some 10) Try.func162 #[.slice A0 l0.length c0, .int .i64 a1, .int .i64 a2] rfl rfl rfl ?_; (with_reducible refine (spec_exValues.calls k _ _ l0 a1 a2 t788 _ ?side1 ?side2 A4.out).mono ?_); (case side1 => exact cb HR0.out); (case side2 => exact HC0.out); rintro e w8 ⟨v789, rfl, ho0, hb⟩; refine ⟨_, rfl, ?_⟩; have HO790 := Aside0.mk (Kd.R_lower ho0 (below_size BA)); replace HB := Aside0.mk (below_step BA hb); (try clear hb); (try clear ho0); obtain ⟨Ao9, co9, eo9⟩ := Kd.R_slice HO790.out; subst eo9; have p791 : 0 ≤ ((ji5) : Int) := DT; have q791 : (ji5) < (t788.length : Int) := DT; obtain ⟨ad791, e791, hx791_0⟩ := Kd.at_int (Kd.R_reads' HO790.out).2.2 (ji5) p791 q791; cases e791; replace p791 := eq_true p791; replace q791 := eq_true q791))
      go_ret
      exact ⟨by first | rfl | (simp [errW_none, errW_some] <;> rfl) | (simp only [← hji5]; first | rfl | (simp [errW_none, errW_some] <;> rfl)) | (simp [*, errW_none, errW_some] <;> rfl), BA⟩
    · rw [if_neg c7] at H
      exact absurd H (by simp)
  · rw [if_neg c6] at H
    exact absurd H (by simp)

/-! ### spec_seDifference: function 101 -/
mutual
def spec_seDifference.l0 : Nat → List (S104) → List (S80) → Int → Int → Option (Int × Int × Bool)
  | 0, _, _, _, _ => none
  | k + 1, x0, x1, x2, x9 => if x9 ≤ 63 then (spec_seDifference.l1 k x0 x1 x2 x9 0) else (some (0, 0, false))
def spec_seDifference.l1 : Nat → List (S104) → List (S80) → Int → Int → Int → Option (Int × Int × Bool)
  | 0, _, _, _, _, _ => none
  | k + 1, x0, x1, x2, x9, x10 => if x10 ≤ 63 then ((spec_cdStart.f x9 x10).bind fun t792 => ((spec_cdRun.f k x1 t792).bind fun t795 => (if 0 ≤ x2 then (if x2 < (t795.length : Int) then ((spec_exAt.f k x0 x9 x10).bind fun t799 => (if (rd t795 x2) = t799 then (spec_seDifference.l1 k x0 x1 x2 x9 (wrap64 (x10 + 1))) else (some (x9, x10, true)))) else (none)) else (none)))) else (spec_seDifference.l0 k x0 x1 x2 (wrap64 (x9 + 1)))
end
def spec_seDifference.f (k : Nat) (l0 : List (S104)) (l1 : List (S80)) (a2 : Int) : Option (Int × Int × Bool) := spec_seDifference.l0 k l0 l1 a2 0
theorem spec_seDifference.mono_l : ∀ k, (∀ y0 y1 y2 y3, LeO (spec_seDifference.l0 k y0 y1 y2 y3) (spec_seDifference.l0 (k + 1) y0 y1 y2 y3)) ∧ (∀ y0 y1 y2 y3 y4, LeO (spec_seDifference.l1 k y0 y1 y2 y3 y4) (spec_seDifference.l1 (k + 1) y0 y1 y2 y3 y4))
  | 0 => ⟨fun _ _ _ _ r h => by simp [spec_seDifference.l0] at h, fun _ _ _ _ _ r h => by simp [spec_seDifference.l1] at h⟩
  | k + 1 => by
    obtain ⟨ih0, ih1⟩ := spec_seDifference.mono_l k
    refine ⟨?_, ?_⟩
    · intro y0 y1 y2 y3
      unfold spec_seDifference.l0
      repeat' first | (with_reducible first | exact ih0 _ _ _ _ | exact ih1 _ _ _ _ _ | exact spec_cdRun.mono _ _ _ | exact spec_exAt.mono _ _ _ _ | exact LeO.refl _ | exact LeO.none _ | refine LeO.ite ?_ ?_ | refine LeO.bind ?_ (fun _ => ?_)) | exact LeO.none _ | refine LeO.ite ?_ ?_ | refine LeO.bind ?_ (fun _ => ?_)
    · intro y0 y1 y2 y3 y4
      unfold spec_seDifference.l1
      repeat' first | (with_reducible first | exact ih0 _ _ _ _ | exact ih1 _ _ _ _ _ | exact spec_cdRun.mono _ _ _ | exact spec_exAt.mono _ _ _ _ | exact LeO.refl _ | exact LeO.none _ | refine LeO.ite ?_ ?_ | refine LeO.bind ?_ (fun _ => ?_)) | exact LeO.none _ | refine LeO.ite ?_ ?_ | refine LeO.bind ?_ (fun _ => ?_)
theorem spec_seDifference.mono : ∀ a0 a1 a2 k, LeO (spec_seDifference.f k a0 a1 a2) (spec_seDifference.f (k + 1) a0 a1 a2) := by
  intro a0 a1 a2 k
  obtain ⟨ih0, ih1⟩ := spec_seDifference.mono_l k
  unfold spec_seDifference.f
  repeat' first | (with_reducible first | exact ih0 _ _ _ _ | exact ih1 _ _ _ _ _ | exact spec_cdRun.mono _ _ _ | exact spec_exAt.mono _ _ _ _ | exact LeO.refl _ | exact LeO.none _ | refine LeO.ite ?_ ?_ | refine LeO.bind ?_ (fun _ => ?_)) | exact LeO.none _ | refine LeO.ite ?_ ?_ | refine LeO.bind ?_ (fun _ => ?_)
def spec_seDifference.T7 : Bool × List (List Nat × List Nat) := (true, [([], []), ([], []), ([], []), ([1, 2], [1, 2]), ([0, 3, 3], [0, 3]), ([], []), ([4, 5], [4, 5]), ([6], [6]), ([], []), ([], []), ([], []), ([8, 9, 10, 4], [8, 9, 10]), ([7, 11], [7, 11])])
def spec_seDifference.B7 : List Nat := [0, 0, 0, 6, 15, 0, 63, 127, 0, 0, 0, 1823, 4095]
theorem spec_seDifference.tab7 : rtab .any (opsOf Try.f101 7) = spec_seDifference.T7 := by kernel_rfl
theorem spec_seDifference.bits7 : waitsOk spec_seDifference.T7.2 spec_seDifference.B7 = true := by kernel_rfl
set_option maxHeartbeats 8000000 in
set_option maxRecDepth 100000 in
theorem spec_seDifference.calls (k : Nat) (A0 : Option Addr) (c0 : Nat) (l0 : List (S104)) (A1 : Option Addr) (c1 : Nat) (l1 : List (S80)) (a2 : Int) (r1 : Int) (r2 : Int) (r3 : Bool) (w : World) (hr0 : Kd.C k104 w A0 l0.length l0) (hc0 : l0.length ≤ c0) (hr1 : Kd.C k80 w A1 l1.length l1) (hc1 : l1.length ≤ c1) (h : spec_seDifference.f k l0 l1 a2 = some (r1, r2, r3)) :
    Calls Try.prog 101 #[.slice A0 l0.length c0, .slice A1 l1.length c1, .int .i64 a2] w fun e w' => e = .returned (.tuple #[.int .i64 r1, .int .i64 r2, .bool r3]) ∧ Below w.heap.size w w' := by
  have HR0 := Aside0.mk hr0
  have HC0 := Aside0.mk hc0
  clear hr0 hc0
  have HR1 := Aside0.mk hr1
  have HC1 := Aside0.mk hc1
  clear hr1 hc1
  have HB := Aside0.mk (Below.refl w.heap.size w)
  have H : (spec_seDifference.l0 k l0 l1 a2 0) = some (r1, r2, r3) := h
  clear h
  have H' := Aside0.mk H
  clear H
  go_enter Try.func101, Try.ntmps101
  go_wp2
  go_loopg [9] k (fun kq v9 w' => ∃ (x9_1 : Int), v9 = .int .i64 x9_1 ∧ Aside0 (spec_seDifference.l0 kq l0 l1 a2 x9_1 = some (r1, r2, r3)) ∧ Aside0 (kq ≤ k) ∧ Aside0 (Below w.heap.size w w'))
  case atStart => exact ⟨(0), EQ1, H', ⟨Nat.le_refl _⟩, ⟨BA⟩⟩
  case round =>
    clear H'
    (try clear c1); (try clear p2)
    obtain ⟨x9_1, rfl, HA, HK1, HB⟩ := hrel
    cases gk with
    | zero => exact absurd HA.out (by simp [spec_seDifference.l0])
    | succ k1 =>
      have H := HA.out
      clear HA
      simp only [spec_seDifference.l0] at H
      by_cases c4 : x9_1 ≤ 63
      · rw [if_pos c4] at H
        have c4b0 := decide_eq_true c4
        clear c4
        have H' := Aside0.mk H
        clear H
        go_wp2
        go_loopg [10] k1 (fun kq v10 w' => ∃ (x10_2 : Int), v10 = .int .i64 x10_2 ∧ Aside0 (spec_seDifference.l1 kq l0 l1 a2 x9_1 x10_2 = some (r1, r2, r3)) ∧ Aside0 (kq ≤ k1) ∧ Aside0 (Below w.heap.size w w'))
        case atStart => exact ⟨(0), EQ1, H', ⟨Nat.le_refl _⟩, ⟨BA⟩⟩
        case round =>
          clear H'
          (try clear c1); (try clear p2); (try clear c4); (try clear c4b0); (try clear p2)
          obtain ⟨x10_2, rfl, HA, HK2, HB⟩ := hrel
          cases gk with
          | zero => exact absurd HA.out (by simp [spec_seDifference.l1])
          | succ k2 =>
            have H := HA.out
            clear HA
            simp only [spec_seDifference.l1] at H
            by_cases c5 : x10_2 ≤ 63
            · rw [if_pos c5] at H
              have c5b0 := decide_eq_true c5
              clear c5
              replace H := Option.bind_eq_some_iff.mp H
              obtain ⟨t792, A60, H⟩ := H
              replace H : ((spec_cdRun.f k2 l1 t792).bind fun t795 => (if 0 ≤ a2 then (if a2 < (t795.length : Int) then ((spec_exAt.f k2 l0 x9_1 x10_2).bind fun t799 => (if (rd t795 a2) = t799 then (spec_seDifference.l1 k2 l0 l1 a2 x9_1 (wrap64 (x10_2 + 1))) else (some (x9_1, x10_2, true)))) else (none)) else (none))) = some (r1, r2, r3) := H
              have A6 := Aside0.mk A60
              clear A60
              replace H := Option.bind_eq_some_iff.mp H
              obtain ⟨t795, A70, H⟩ := H
              replace H : (if 0 ≤ a2 then (if a2 < (t795.length : Int) then ((spec_exAt.f k2 l0 x9_1 x10_2).bind fun t799 => (if (rd t795 a2) = t799 then (spec_seDifference.l1 k2 l0 l1 a2 x9_1 (wrap64 (x10_2 + 1))) else (some (x9_1, x10_2, true)))) else (none)) else (none)) = some (r1, r2, r3) := H
              have A7 := Aside0.mk A70
              clear A70
              by_cases c8 : 0 ≤ a2
              · rw [if_pos c8] at H
                have c8b0 := decide_eq_true c8
                clear c8
                by_cases c9 : a2 < (t795.length : Int)
                · rw [if_pos c9] at H
                  have c9b0 := decide_eq_true c9
                  clear c9
                  replace H := Option.bind_eq_some_iff.mp H
                  obtain ⟨t799, A100, H⟩ := H
                  replace H : (if (rd t795 a2) = t799 then (spec_seDifference.l1 k2 l0 l1 a2 x9_1 (wrap64 (x10_2 + 1))) else (some (x9_1, x10_2, true))) = some (r1, r2, r3) := H
                  have A10 := Aside0.mk A100
                  clear A100
                  by_cases c11 : (rd t795 a2) = t799
                  · rw [if_pos c11] at H
                    have c11b0 := beq_iff_eq.mpr c11
                    have c11b1 := bne_eq_false_iff_eq.mpr c11
                    clear c11
                    have H' := Aside0.mk H
                    clear H
                    go_wp2_with fail
                    go_region_with (first
                      | (go_at_call 140; refine (spec_cdStart.calls x9_1 x10_2 t792 _ A6.out).mono ?_; rintro e w12 ⟨v12, rfl, ho12, hb12⟩; have HB12 := below_step (below_drew1 HB.out) hb12; obtain ⟨q12, d12, rfl, hl12, hc12⟩ := Kd.R_reads ho12)
                      | (go_at_call 139; refine (spec_cdRun.calls k2 _ _ l1 _ _ t792 t795 _ (Kd.C_below HR1.out (by assumption)) HC1.out (by assumption) (by assumption) A7.out).mono ?_; rintro e w13 ⟨v13, rfl, ho13, hb13⟩; have HB13 := below_step (by assumption : Below w.heap.size w _) hb13; obtain ⟨q13, d13, rfl, hl13, hc13⟩ := Kd.R_reads ho13; obtain ⟨ad13, e13, hx13⟩ := Kd.at_int hc13 a2 (of_decide_eq_true c8b0) (of_decide_eq_true c9b0); cases e13; have p13 := eq_true (of_decide_eq_true c8b0); have q13 := eq_true (of_decide_eq_true c9b0))
                      | (go_at_call 141; refine (spec_exAt.calls k2 _ _ l0 x9_1 x10_2 t799 _ (Kd.C_below HR0.out (by assumption)) HC0.out A10.out).mono ?_; rintro e w14 ⟨rfl, hb14⟩; (try (have hx14 := (hb14.cell (World.block_lt_of_cell? _ _ hx13)).trans hx13)); have HB14 := below_step (by assumption : Below w.heap.size w _) hb14))
                    all_goals
                      clear HB
                      have HB := Aside0.mk HB14
                      try go_wp2
                      go_roundg k2
                      case measure => have := HK1.out; have := HK2.out; omega
                      case rel => exact ⟨(wrap64 (x10_2 + 1)), EQ1, H', ⟨by have := HK1.out; have := HK2.out; omega⟩, ⟨BA⟩⟩
                  · rw [if_neg c11] at H
                    have c11b0 := beq_eq_false_iff_ne.mpr c11
                    have c11b1 := bne_iff_ne.mpr c11
                    simp only [Option.some.injEq, Prod.mk.injEq] at H
                    obtain ⟨rfl, rfl, rfl⟩ := H
                    go_wp2_with fail
                    go_region_with (first
                      | (go_at_call 140; refine (spec_cdStart.calls x9_1 x10_2 t792 _ A6.out).mono ?_; rintro e w12 ⟨v12, rfl, ho12, hb12⟩; have HB12 := below_step (below_drew1 HB.out) hb12; obtain ⟨q12, d12, rfl, hl12, hc12⟩ := Kd.R_reads ho12)
                      | (go_at_call 139; refine (spec_cdRun.calls k2 _ _ l1 _ _ t792 t795 _ (Kd.C_below HR1.out (by assumption)) HC1.out (by assumption) (by assumption) A7.out).mono ?_; rintro e w13 ⟨v13, rfl, ho13, hb13⟩; have HB13 := below_step (by assumption : Below w.heap.size w _) hb13; obtain ⟨q13, d13, rfl, hl13, hc13⟩ := Kd.R_reads ho13; obtain ⟨ad13, e13, hx13⟩ := Kd.at_int hc13 a2 (of_decide_eq_true c8b0) (of_decide_eq_true c9b0); cases e13; have p13 := eq_true (of_decide_eq_true c8b0); have q13 := eq_true (of_decide_eq_true c9b0))
                      | (go_at_call 141; refine (spec_exAt.calls k2 _ _ l0 x9_1 x10_2 t799 _ (Kd.C_below HR0.out (by assumption)) HC0.out A10.out).mono ?_; rintro e w14 ⟨rfl, hb14⟩; (try (have hx14 := (hb14.cell (World.block_lt_of_cell? _ _ hx13)).trans hx13)); have HB14 := below_step (by assumption : Below w.heap.size w _) hb14))
                    all_goals
                      clear HB
                      have HB := Aside0.mk HB14
                      try go_wp2
                      go_ret3
                      exact ⟨EQ, BA⟩
                · rw [if_neg c9] at H
                  exact absurd H (by simp)
              · rw [if_neg c8] at H
                exact absurd H (by simp)
            · rw [if_neg c5] at H
              have c5b0 := decide_eq_false c5
              clear c5
              have H' := Aside0.mk H
              clear H
              go_wp2
              go_roundg k2
              case measure => have := HK1.out; have := HK2.out; omega
              case rel => exact ⟨(wrap64 (x9_1 + 1)), EQ1, H', ⟨by have := HK1.out; have := HK2.out; omega⟩, ⟨BA⟩⟩
      · rw [if_neg c4] at H
        have c4b0 := decide_eq_false c4
        clear c4
        simp only [Option.some.injEq, Prod.mk.injEq] at H
        obtain ⟨rfl, rfl, rfl⟩ := H
        go_wp2
        go_ret3
        exact ⟨EQ, BA⟩


/-! ### impl_inputsAt: function 103 -/
def impl_inputsAt.f (a0 : Int) : Option (Int × Int) := some (wrap64 (Int.tdiv a0 64), Int.tmod a0 64)
set_option maxHeartbeats 8000000 in
set_option maxRecDepth 100000 in
theorem impl_inputsAt.calls (a0 : Int) (r1 : Int) (r2 : Int) (w : World) (h : impl_inputsAt.f a0 = some (r1, r2)) :
    Calls Try.prog 103 #[.int .i64 a0] w fun e w' => e = .returned (.tuple #[.int .i64 r1, .int .i64 r2]) ∧ Drawn0 w w' := by
  have H : (some (wrap64 (Int.tdiv a0 64), Int.tmod a0 64)) = some (r1, r2) := h
  clear h
  simp only [Option.some.injEq, Prod.mk.injEq] at H
  obtain ⟨rfl, rfl⟩ := H
  go_enter Try.func103, Try.ntmps103
  go_wp2
  go_ret2
  exact ⟨EQ1, DA⟩

/-! ### impl_apply: function 163 -/
def impl_apply.f (a0 : ByteArray) (a1 : Int) (a2 : Int) : Option (Int) := if a0.toList = ([110, 111, 116] : List UInt8) then (some (Go.bits .and .i64 (wrap64 (63 - a1)) 63)) else (if a0.toList = ([110, 101, 103] : List UInt8) then (some (Go.bits .and .i64 (wrap64 (-a1)) 63)) else (if a0.toList = ([97, 100, 100] : List UInt8) then (some (Go.bits .and .i64 (wrap64 (a1 + a2)) 63)) else (if a0.toList = ([115, 117, 98] : List UInt8) then (some (Go.bits .and .i64 (wrap64 (a1 - a2)) 63)) else (if a0.toList = ([109, 117, 108] : List UInt8) then (some (Go.bits .and .i64 (wrap64 (a1 * a2)) 63)) else (if a0.toList = ([97, 110, 100] : List UInt8) then (some (Go.bits .and .i64 (Go.bits .and .i64 a1 a2) 63)) else (if a0.toList = ([111, 114] : List UInt8) then (some (Go.bits .and .i64 (Go.bits .or .i64 a1 a2) 63)) else (if a0.toList = ([120, 111, 114] : List UInt8) then (some (Go.bits .and .i64 (Go.bits .xor .i64 a1 a2) 63)) else (if a0.toList = ([115, 104, 108] : List UInt8) then (if a2 < 6 then (if 0 ≤ a2 then (some (Go.bits .and .i64 (shl .i64 a1 a2) 63)) else (none)) else (some (Go.bits .and .i64 0 63))) else (if a0.toList = ([115, 104, 114] : List UInt8) then (if a2 < 6 then (if 0 ≤ a2 then (some (Go.bits .and .i64 (shr .i64 a1 a2) 63)) else (none)) else (some (Go.bits .and .i64 0 63))) else (if a0.toList = ([108, 101, 115, 115] : List UInt8) then ((impl_bit.f (decide (a1 < a2))).bind fun t796 => (some (Go.bits .and .i64 t796 63))) else (if a0.toList = ([101, 113] : List UInt8) then ((impl_bit.f (a1 == a2)).bind fun t797 => (some (Go.bits .and .i64 t797 63))) else (some (Go.bits .and .i64 0 63)))))))))))))
set_option maxHeartbeats 8000000 in
set_option maxRecDepth 100000 in
theorem impl_apply.calls (a0 : ByteArray) (a1 : Int) (a2 : Int) (r : Int) (w : World) (h : impl_apply.f a0 a1 a2 = some r) :
    Calls Try.prog 163 #[.string a0, .int .i64 a1, .int .i64 a2] w fun e w' => e = .returned (.int .i64 r) ∧ Drawn0 w w' := by
  have H : (if a0.toList = ([110, 111, 116] : List UInt8) then (some (Go.bits .and .i64 (wrap64 (63 - a1)) 63)) else (if a0.toList = ([110, 101, 103] : List UInt8) then (some (Go.bits .and .i64 (wrap64 (-a1)) 63)) else (if a0.toList = ([97, 100, 100] : List UInt8) then (some (Go.bits .and .i64 (wrap64 (a1 + a2)) 63)) else (if a0.toList = ([115, 117, 98] : List UInt8) then (some (Go.bits .and .i64 (wrap64 (a1 - a2)) 63)) else (if a0.toList = ([109, 117, 108] : List UInt8) then (some (Go.bits .and .i64 (wrap64 (a1 * a2)) 63)) else (if a0.toList = ([97, 110, 100] : List UInt8) then (some (Go.bits .and .i64 (Go.bits .and .i64 a1 a2) 63)) else (if a0.toList = ([111, 114] : List UInt8) then (some (Go.bits .and .i64 (Go.bits .or .i64 a1 a2) 63)) else (if a0.toList = ([120, 111, 114] : List UInt8) then (some (Go.bits .and .i64 (Go.bits .xor .i64 a1 a2) 63)) else (if a0.toList = ([115, 104, 108] : List UInt8) then (if a2 < 6 then (if 0 ≤ a2 then (some (Go.bits .and .i64 (shl .i64 a1 a2) 63)) else (none)) else (some (Go.bits .and .i64 0 63))) else (if a0.toList = ([115, 104, 114] : List UInt8) then (if a2 < 6 then (if 0 ≤ a2 then (some (Go.bits .and .i64 (shr .i64 a1 a2) 63)) else (none)) else (some (Go.bits .and .i64 0 63))) else (if a0.toList = ([108, 101, 115, 115] : List UInt8) then ((impl_bit.f (decide (a1 < a2))).bind fun t796 => (some (Go.bits .and .i64 t796 63))) else (if a0.toList = ([101, 113] : List UInt8) then ((impl_bit.f (a1 == a2)).bind fun t797 => (some (Go.bits .and .i64 t797 63))) else (some (Go.bits .and .i64 0 63)))))))))))))) = some r := h
  clear h
  by_cases c4 : a0.toList = ([110, 111, 116] : List UInt8)
  · rw [if_pos c4] at H
    have c4b0 := beq_iff_eq.mpr c4
    have c4b1 := bne_eq_false_iff_eq.mpr c4
    clear c4
    obtain rfl := Option.some.inj H
    go_enter Try.func163, Try.ntmps163
    go_wp2
    go_ret
    exact ⟨EQ1, DA⟩
  · rw [if_neg c4] at H
    have c4b0 := beq_eq_false_iff_ne.mpr c4
    have c4b1 := bne_iff_ne.mpr c4
    by_cases c5 : a0.toList = ([110, 101, 103] : List UInt8)
    · rw [if_pos c5] at H
      have c5b0 := beq_iff_eq.mpr c5
      have c5b1 := bne_eq_false_iff_eq.mpr c5
      clear c5
      obtain rfl := Option.some.inj H
      go_enter Try.func163, Try.ntmps163
      go_wp2
      go_ret
      exact ⟨EQ1, DA⟩
    · rw [if_neg c5] at H
      have c5b0 := beq_eq_false_iff_ne.mpr c5
      have c5b1 := bne_iff_ne.mpr c5
      by_cases c6 : a0.toList = ([97, 100, 100] : List UInt8)
      · rw [if_pos c6] at H
        have c6b0 := beq_iff_eq.mpr c6
        have c6b1 := bne_eq_false_iff_eq.mpr c6
        clear c6
        obtain rfl := Option.some.inj H
        go_enter Try.func163, Try.ntmps163
        go_wp2
        go_ret
        exact ⟨EQ1, DA⟩
      · rw [if_neg c6] at H
        have c6b0 := beq_eq_false_iff_ne.mpr c6
        have c6b1 := bne_iff_ne.mpr c6
        by_cases c7 : a0.toList = ([115, 117, 98] : List UInt8)
        · rw [if_pos c7] at H
          have c7b0 := beq_iff_eq.mpr c7
          have c7b1 := bne_eq_false_iff_eq.mpr c7
          clear c7
          obtain rfl := Option.some.inj H
          go_enter Try.func163, Try.ntmps163
          go_wp2
          go_ret
          exact ⟨EQ1, DA⟩
        · rw [if_neg c7] at H
          have c7b0 := beq_eq_false_iff_ne.mpr c7
          have c7b1 := bne_iff_ne.mpr c7
          by_cases c8 : a0.toList = ([109, 117, 108] : List UInt8)
          · rw [if_pos c8] at H
            have c8b0 := beq_iff_eq.mpr c8
            have c8b1 := bne_eq_false_iff_eq.mpr c8
            clear c8
            obtain rfl := Option.some.inj H
            go_enter Try.func163, Try.ntmps163
            go_wp2
            go_ret
            exact ⟨EQ1, DA⟩
          · rw [if_neg c8] at H
            have c8b0 := beq_eq_false_iff_ne.mpr c8
            have c8b1 := bne_iff_ne.mpr c8
            by_cases c9 : a0.toList = ([97, 110, 100] : List UInt8)
            · rw [if_pos c9] at H
              have c9b0 := beq_iff_eq.mpr c9
              have c9b1 := bne_eq_false_iff_eq.mpr c9
              clear c9
              obtain rfl := Option.some.inj H
              go_enter Try.func163, Try.ntmps163
              go_wp2
              go_ret
              exact ⟨EQ1, DA⟩
            · rw [if_neg c9] at H
              have c9b0 := beq_eq_false_iff_ne.mpr c9
              have c9b1 := bne_iff_ne.mpr c9
              by_cases c10 : a0.toList = ([111, 114] : List UInt8)
              · rw [if_pos c10] at H
                have c10b0 := beq_iff_eq.mpr c10
                have c10b1 := bne_eq_false_iff_eq.mpr c10
                clear c10
                obtain rfl := Option.some.inj H
                go_enter Try.func163, Try.ntmps163
                go_wp2
                go_ret
                exact ⟨EQ1, DA⟩
              · rw [if_neg c10] at H
                have c10b0 := beq_eq_false_iff_ne.mpr c10
                have c10b1 := bne_iff_ne.mpr c10
                by_cases c11 : a0.toList = ([120, 111, 114] : List UInt8)
                · rw [if_pos c11] at H
                  have c11b0 := beq_iff_eq.mpr c11
                  have c11b1 := bne_eq_false_iff_eq.mpr c11
                  clear c11
                  obtain rfl := Option.some.inj H
                  go_enter Try.func163, Try.ntmps163
                  go_wp2
                  go_ret
                  exact ⟨EQ1, DA⟩
                · rw [if_neg c11] at H
                  have c11b0 := beq_eq_false_iff_ne.mpr c11
                  have c11b1 := bne_iff_ne.mpr c11
                  by_cases c12 : a0.toList = ([115, 104, 108] : List UInt8)
                  · rw [if_pos c12] at H
                    have c12b0 := beq_iff_eq.mpr c12
                    have c12b1 := bne_eq_false_iff_eq.mpr c12
                    clear c12
                    by_cases c13 : a2 < 6
                    · rw [if_pos c13] at H
                      have c13b0 := decide_eq_true c13
                      clear c13
                      by_cases c14 : 0 ≤ a2
                      · rw [if_pos c14] at H
                        have c14b0 := eq_true c14
                        have c14b1 := decide_eq_true c14
                        clear c14
                        obtain ⟨ji15, hji15⟩ : ∃ j_ : Int, (shl .i64 a1 a2) = j_ := ⟨_, rfl⟩
                        replace H : (some (Go.bits .and .i64 (ji15) 63)) = some r := by first | (rw [hji15] at H; exact H) | (simp only [hji15] at H ⊢; exact H)
                        have hji15_ : (IntKind.i64.wrap (a1 * 2 ^ min a2.toNat 64)) = ji15 := hji15
                        have hji15z : a2 ≤ 64 → (IntKind.i64.wrap (a1 * 2 ^ a2.toNat)) = ji15 := shl_small hji15
                        have hji15y : (wrap64 (a1 * 2 ^ min a2.toNat 64)) = ji15 := (i64_w _).symm.trans hji15_
                        have hji15x : a2 ≤ 64 → (wrap64 (a1 * 2 ^ a2.toNat)) = ji15 := fun h_ => (i64_w _).symm.trans (hji15z h_)
                        obtain rfl := Option.some.inj H
                        go_enter Try.func163, Try.ntmps163
                        go_wp2
                        go_ret
                        exact ⟨by first | rfl | (simp; done) | (simp only [← hji15] <;> (first | rfl | simp)) | (simp [*]; done), DA⟩
                      · rw [if_neg c14] at H
                        exact absurd H (by simp)
                    · rw [if_neg c13] at H
                      have c13b0 := decide_eq_false c13
                      clear c13
                      obtain rfl := Option.some.inj H
                      go_enter Try.func163, Try.ntmps163
                      go_wp2
                      go_ret
                      exact ⟨EQ1, DA⟩
                  · rw [if_neg c12] at H
                    have c12b0 := beq_eq_false_iff_ne.mpr c12
                    have c12b1 := bne_iff_ne.mpr c12
                    by_cases c16 : a0.toList = ([115, 104, 114] : List UInt8)
                    · rw [if_pos c16] at H
                      have c16b0 := beq_iff_eq.mpr c16
                      have c16b1 := bne_eq_false_iff_eq.mpr c16
                      clear c16
                      by_cases c17 : a2 < 6
                      · rw [if_pos c17] at H
                        have c17b0 := decide_eq_true c17
                        clear c17
                        by_cases c18 : 0 ≤ a2
                        · rw [if_pos c18] at H
                          have c18b0 := eq_true c18
                          have c18b1 := decide_eq_true c18
                          clear c18
                          obtain ⟨ji19, hji19⟩ : ∃ j_ : Int, (shr .i64 a1 a2) = j_ := ⟨_, rfl⟩
                          replace H : (some (Go.bits .and .i64 (ji19) 63)) = some r := by first | (rw [hji19] at H; exact H) | (simp only [hji19] at H ⊢; exact H)
                          have hji19_ : (a1 / 2 ^ min a2.toNat 64) = ji19 := hji19
                          have hji19z : a2 ≤ 64 → (a1 / 2 ^ a2.toNat) = ji19 := shr_small hji19
                          obtain rfl := Option.some.inj H
                          go_enter Try.func163, Try.ntmps163
                          go_wp2
                          go_ret
                          exact ⟨by first | rfl | (simp; done) | (simp only [← hji19] <;> (first | rfl | simp)) | (simp [*]; done), DA⟩
                        · rw [if_neg c18] at H
                          exact absurd H (by simp)
                      · rw [if_neg c17] at H
                        have c17b0 := decide_eq_false c17
                        clear c17
                        obtain rfl := Option.some.inj H
                        go_enter Try.func163, Try.ntmps163
                        go_wp2
                        go_ret
                        exact ⟨EQ1, DA⟩
                    · rw [if_neg c16] at H
                      have c16b0 := beq_eq_false_iff_ne.mpr c16
                      have c16b1 := bne_iff_ne.mpr c16
                      by_cases c20 : a0.toList = ([108, 101, 115, 115] : List UInt8)
                      · rw [if_pos c20] at H
                        have c20b0 := beq_iff_eq.mpr c20
                        have c20b1 := bne_eq_false_iff_eq.mpr c20
                        clear c20
                        replace H := Option.bind_eq_some_iff.mp H
                        obtain ⟨t796, A210, H⟩ := H
                        replace H : (some (Go.bits .and .i64 t796 63)) = some r := H
                        have A21 := Aside0.mk A210
                        clear A210
                        obtain rfl := Option.some.inj H
                        go_enter Try.func163, Try.ntmps163
                        go_wp2_with (first | ((with_reducible refine gate_callee (f := 64) rfl ?_); refine gK (some 66) Try.func64 #[.bool (decide (a1 < a2))] rfl rfl rfl ?_; (with_reducible refine (impl_bit.calls (decide (a1 < a2)) t796 _ A21.out).mono ?_); rintro e w' ⟨rfl, ⟨nd, rfl⟩⟩; refine ⟨_, rfl, ?_⟩))
                        go_ret
                        exact ⟨EQ1, DA⟩
                      · rw [if_neg c20] at H
                        have c20b0 := beq_eq_false_iff_ne.mpr c20
                        have c20b1 := bne_iff_ne.mpr c20
                        by_cases c22 : a0.toList = ([101, 113] : List UInt8)
                        · rw [if_pos c22] at H
                          have c22b0 := beq_iff_eq.mpr c22
                          have c22b1 := bne_eq_false_iff_eq.mpr c22
                          clear c22
                          replace H := Option.bind_eq_some_iff.mp H
                          obtain ⟨t797, A230, H⟩ := H
                          replace H : (some (Go.bits .and .i64 t797 63)) = some r := H
                          have A23 := Aside0.mk A230
                          clear A230
                          obtain rfl := Option.some.inj H
                          go_enter Try.func163, Try.ntmps163
                          go_wp2_with (first | ((with_reducible refine gate_callee (f := 64) rfl ?_); refine gK (some 72) Try.func64 #[.bool (a1 == a2)] rfl rfl rfl ?_; (with_reducible refine (impl_bit.calls (a1 == a2) t797 _ A23.out).mono ?_); rintro e w' ⟨rfl, ⟨nd, rfl⟩⟩; refine ⟨_, rfl, ?_⟩))
                          go_ret
                          exact ⟨EQ1, DA⟩
                        · rw [if_neg c22] at H
                          have c22b0 := beq_eq_false_iff_ne.mpr c22
                          have c22b1 := bne_iff_ne.mpr c22
                          obtain rfl := Option.some.inj H
                          go_enter Try.func163, Try.ntmps163
                          go_wp2
                          go_ret
                          exact ⟨EQ1, DA⟩

/-! ### impl_values: function 142 -/
def impl_values.l0 : Nat → Int → Int → List Int → List (S104) → Int → Int → Option (List Int)
  | 0, _, _, _, _, _, _ => none
  | k + 1, x1, x2, x7, x13, x14, x15 => if x15 < x14 then (if 0 ≤ x15 then (if x15 < (x13.length : Int) then (if ((rd_T104 x13 x15).f0).toList = ([105, 110] : List UInt8) then ((some (([x1, x2] : List Int) : List Int)).bind fun y803 => (if 0 ≤ ((rd_T104 x13 x15).f3) then (if ((rd_T104 x13 x15).f3) < (y803.length : Int) then (if x15 < (x7.length : Int) then (impl_values.l0 k x1 x2 (x7.set (x15 : Int).toNat (rd y803 ((rd_T104 x13 x15).f3))) x13 x14 (wrap64 (x15 + 1))) else (none)) else (none)) else (none))) else (if ((rd_T104 x13 x15).f0).toList = ([99, 111, 110, 115, 116] : List UInt8) then (if x15 < (x7.length : Int) then (impl_values.l0 k x1 x2 (x7.set (x15 : Int).toNat ((rd_T104 x13 x15).f3)) x13 x14 (wrap64 (x15 + 1))) else (none)) else (if 0 ≤ ((rd_T104 x13 x15).f1) then (if ((rd_T104 x13 x15).f1) < (x7.length : Int) then (if 0 ≤ ((rd_T104 x13 x15).f2) then (if ((rd_T104 x13 x15).f2) < (x7.length : Int) then ((impl_apply.f ((rd_T104 x13 x15).f0) (rd x7 ((rd_T104 x13 x15).f1)) (rd x7 ((rd_T104 x13 x15).f2))).bind fun t811 => (if x15 < (x7.length : Int) then (impl_values.l0 k x1 x2 (x7.set (x15 : Int).toNat t811) x13 x14 (wrap64 (x15 + 1))) else (none))) else (none)) else (none)) else (none)) else (none)))) else (none)) else (none)) else (some x7)
def impl_values.f (k : Nat) (l0 : List (S104)) (a1 : Int) (a2 : Int) : Option (List Int) := if 0 ≤ (l0.length : Int) then (if ((l0.length : Int) : Int).toNat ≤ 35184372088832 then (impl_values.l0 k a1 a2 (List.replicate ((l0.length : Int) : Int).toNat 0) l0 (l0.length : Int) 0) else (none)) else (none)
theorem impl_values.mono_l : ∀ k, (∀ y0 y1 y2 y3 y4 y5, LeO (impl_values.l0 k y0 y1 y2 y3 y4 y5) (impl_values.l0 (k + 1) y0 y1 y2 y3 y4 y5))
  | 0 => fun _ _ _ _ _ _ r h => by simp [impl_values.l0] at h
  | k + 1 => by
    have ih0 := impl_values.mono_l k
    · intro y0 y1 y2 y3 y4 y5
      unfold impl_values.l0
      repeat' first | (with_reducible first | exact ih0 _ _ _ _ _ _ | exact LeO.refl _ | exact LeO.none _ | refine LeO.ite ?_ ?_ | refine LeO.bind ?_ (fun _ => ?_)) | exact LeO.none _ | refine LeO.ite ?_ ?_ | refine LeO.bind ?_ (fun _ => ?_)
theorem impl_values.mono : ∀ a0 a1 a2 k, LeO (impl_values.f k a0 a1 a2) (impl_values.f (k + 1) a0 a1 a2) := by
  intro a0 a1 a2 k
  have ih0 := impl_values.mono_l k
  unfold impl_values.f
  repeat' first | (with_reducible first | exact ih0 _ _ _ _ _ _ | exact LeO.refl _ | exact LeO.none _ | refine LeO.ite ?_ ?_ | refine LeO.bind ?_ (fun _ => ?_)) | exact LeO.none _ | refine LeO.ite ?_ ?_ | refine LeO.bind ?_ (fun _ => ?_)
def impl_values.T6 : Bool × List (List Nat × List Nat) := (true, [([], []), ([], []), ([], []), ([2], [2]), ([], []), ([], []), ([5], [5]), ([4, 6], [4, 6]), ([7], [7]), ([], []), ([], []), ([10], [10]), ([9, 11], [9, 11]), ([12], [12]), ([3, 8, 13], [3, 8, 13]), ([0, 1, 0, 1, 2, 3, 4, 5, 6, 7, 8, 9, 10, 11, 12, 13, 14], [0, 1]), ([15, 14, 14, 0, 1, 2, 3, 4, 5, 6, 7, 8, 9, 10, 11, 12, 13, 14], [14, 15])])
def impl_values.B6 : List Nat := [0, 0, 0, 4, 0, 0, 32, 112, 240, 0, 0, 1024, 3584, 7680, 16380, 32767, 65535]
theorem impl_values.tab6 : rtab .any (opsOf Try.f142 6) = impl_values.T6 := by kernel_rfl
theorem impl_values.bits6 : waitsOk impl_values.T6.2 impl_values.B6 = true := by kernel_rfl
set_option maxHeartbeats 8000000 in
set_option maxRecDepth 100000 in
theorem impl_values.calls (k : Nat) (A0 : Option Addr) (c0 : Nat) (l0 : List (S104)) (a1 : Int) (a2 : Int) (r : List Int) (w : World) (hr0 : Kd.C k104 w A0 l0.length l0) (hc0 : l0.length ≤ c0) (h : impl_values.f k l0 a1 a2 = some r) :
    Calls Try.prog 142 #[.slice A0 l0.length c0, .int .i64 a1, .int .i64 a2] w fun e w' => ∃ v0_ : Value, e = .returned (v0_) ∧ Kd.R (Kd.int .i64) 3 w' w.heap.size (fun _ => True) v0_ r ∧ Below w.heap.size w w' := by
  have hu104 := Try.underlying104
  have HR0 := Aside0.mk hr0
  have HC0 := Aside0.mk hc0
  clear hr0 hc0
  have HB := Aside0.mk (Below.refl w.heap.size w)
  have H : (if 0 ≤ (l0.length : Int) then (if ((l0.length : Int) : Int).toNat ≤ 35184372088832 then (impl_values.l0 k a1 a2 (List.replicate ((l0.length : Int) : Int).toNat 0) l0 (l0.length : Int) 0) else (none)) else (none)) = some r := h
  clear h
  by_cases c4 : 0 ≤ (l0.length : Int)
  · rw [if_pos c4] at H
    have c4b0 := eq_true c4
    have c4b1 := decide_eq_true c4
    clear c4
    by_cases c5 : ((l0.length : Int) : Int).toNat ≤ 35184372088832
    · rw [if_pos c5] at H
      have c5b0 := eq_true c5
      have c5b1 := decide_eq_true c5
      clear c5
      obtain ⟨y798, hy798⟩ : ∃ y_ : List Int, y_ = (List.replicate ((l0.length : Int) : Int).toNat 0) := ⟨_, rfl⟩
      replace H : (impl_values.l0 k a1 a2 y798 l0 (l0.length : Int) 0) = some r := by first | (rw [hy798]; with_reducible exact H) | (have H2_ := (Option.bind_some _ _).symm.trans H; rw [hy798]; with_reducible exact H2_) | (have H2_ := (Option.bind_some _ _).symm.trans H; with_reducible exact H2_) | with_reducible exact H | (rw [hy798]; exact H) | exact H
      have Ny798 := Aside0.mk hy798
      clear hy798
      have H' := Aside0.mk H
      clear H
      go_enter Try.func142, Try.ntmps142
      go_wp2_with (first | ((with_reducible refine gate_dst (N := 12) rfl ?_); refine Kd.R_make (Kd.int .i64) _ 3 rfl (N := 12) rfl 34 _ _ rfl (l0.length : Int) rfl rfl Try.underlying34 (.int .i64 0) 8 info3 rfl (by decide) (by omega) 0 (ok := fun _ => True) (okp := fun _ => True) rfl (fun _ hk => hk) trivial DT (Nat.le_trans (Nat.mul_le_mul_right _ (DT : (l0.length : Int).toNat ≤ 35184372088832)) (by omega)) (Below.refl _ _) (Nat.le_refl _) ?_; intro v799 w6 ho7 hb hg_ hnew_; clear hg_ hnew_; (first | rw [← Ny798.out] at ho7 | (simp only [Int.reduceToNat] at ho7; rw [← Ny798.out] at ho7)); have HO800 := Aside0.mk (Kd.R_lower ho7 (below_size BA)); replace HB := Aside0.mk (below_step BA hb); clear hb ho7))
      go_loopg [15] k (fun kq v15 w' => ∃ (x7_1 : List Int) (x15_1 : Int), v15 = .int .i64 x15_1 ∧ Aside0 (impl_values.l0 kq a1 a2 x7_1 l0 (l0.length : Int) x15_1 = some r) ∧ Aside0 (kq ≤ k) ∧ Aside0 (Kd.R (Kd.int .i64) 3 w' w.heap.size (fun _ => True) v799 x7_1) ∧ Aside0 (Below w.heap.size w w'))
      case atStart => exact ⟨(y798), (0), EQ1, H', ⟨Nat.le_refl _⟩, ⟨by (with_reducible repeat (first | apply Kd.R_alloc | apply Kd.R_drewN | apply Kd.R_drew)); exact HO800.out⟩, ⟨BA⟩⟩
      case round =>
        clear H'
        (try clear c1); (try clear p2); (try clear c4); (try clear c4b0); (try clear c4b1); (try clear c5); (try clear c5b0); (try clear c5b1)
        obtain ⟨x7_1, x15_1, rfl, HA, HK1, HO_7, HB⟩ := hrel
        cases gk with
        | zero => exact absurd HA.out (by simp [impl_values.l0])
        | succ k1 =>
          have H := HA.out
          clear HA
          simp only [impl_values.l0] at H
          by_cases c8 : x15_1 < (l0.length : Int)
          · rw [if_pos c8] at H
            have c8b0 := decide_eq_true c8
            clear c8
            by_cases c9 : 0 ≤ x15_1
            · rw [if_pos c9] at H
              have c9b0 := decide_eq_true c9
              clear c9
              by_cases c10 : x15_1 < (l0.length : Int)
              · rw [if_pos c10] at H
                have c10b0 := decide_eq_true c10
                clear c10
                by_cases c11 : ((rd_T104 l0 x15_1).f0).toList = ([105, 110] : List UInt8)
                · rw [if_pos c11] at H
                  have c11b0 := beq_iff_eq.mpr c11
                  have c11b1 := bne_eq_false_iff_eq.mpr c11
                  clear c11
                  obtain ⟨y803, hy803⟩ : ∃ y_ : List Int, y_ = (([a1, a2] : List Int)) := ⟨_, rfl⟩
                  replace H : (if 0 ≤ ((rd_T104 l0 x15_1).f3) then (if ((rd_T104 l0 x15_1).f3) < (y803.length : Int) then (if x15_1 < (x7_1.length : Int) then (impl_values.l0 k1 a1 a2 (x7_1.set (x15_1 : Int).toNat (rd y803 ((rd_T104 l0 x15_1).f3))) l0 (l0.length : Int) (wrap64 (x15_1 + 1))) else (none)) else (none)) else (none)) = some r := by first | (rw [hy803]; with_reducible exact H) | (have H2_ := (Option.bind_some _ _).symm.trans H; rw [hy803]; with_reducible exact H2_) | (have H2_ := (Option.bind_some _ _).symm.trans H; with_reducible exact H2_) | with_reducible exact H | (rw [hy803]; exact H) | exact H
                  have Ny803 := Aside0.mk hy803
                  clear hy803
                  by_cases c12 : 0 ≤ ((rd_T104 l0 x15_1).f3)
                  · rw [if_pos c12] at H
                    have c12b0 := decide_eq_true c12
                    clear c12
                    by_cases c13 : ((rd_T104 l0 x15_1).f3) < (y803.length : Int)
                    · rw [if_pos c13] at H
                      have c13b0 := decide_eq_true c13
                      clear c13
                      by_cases c14 : x15_1 < (x7_1.length : Int)
                      · rw [if_pos c14] at H
                        have c14b0 := decide_eq_true c14
                        clear c14
                        obtain ⟨y807, hy807⟩ : ∃ y_ : List Int, y_ = (x7_1.set (x15_1 : Int).toNat (rd y803 ((rd_T104 l0 x15_1).f3))) := ⟨_, rfl⟩
                        replace H : (impl_values.l0 k1 a1 a2 y807 l0 (l0.length : Int) (wrap64 (x15_1 + 1))) = some r := by first | (rw [hy807]; with_reducible exact H) | (have H2_ := (Option.bind_some _ _).symm.trans H; rw [hy807]; with_reducible exact H2_) | (have H2_ := (Option.bind_some _ _).symm.trans H; with_reducible exact H2_) | with_reducible exact H | (rw [hy807]; exact H) | exact H
                        have Ny807 := Aside0.mk hy807
                        clear hy807
                        have H' := Aside0.mk H
                        clear H
                        have p801 : 0 ≤ (x15_1 : Int) := DT
                        have q801 : x15_1 < (l0.length : Int) := DT
                        obtain ⟨ad801, e801, hx801_0, hx801_1, hx801_2, hx801_3⟩ := at_T104 HR0.out x15_1 p801 q801
                        cases e801
                        replace hx801_0 := (HB.out.cell (World.block_lt_of_cell? w _ hx801_0)).trans hx801_0
                        replace hx801_1 := (HB.out.cell (World.block_lt_of_cell? w _ hx801_1)).trans hx801_1
                        replace hx801_2 := (HB.out.cell (World.block_lt_of_cell? w _ hx801_2)).trans hx801_2
                        replace hx801_3 := (HB.out.cell (World.block_lt_of_cell? w _ hx801_3)).trans hx801_3
                        replace p801 := eq_true p801
                        replace q801 := eq_true q801
                        go_wp2_with (first | ((with_reducible refine gate_dst (N := 9) rfl ?_); refine box_event ?hg (N := 9) ?hd (cs := #[.string (⟨#[]⟩ : ByteArray), .int .i64 0, .int .i64 0, .int .i64 0]) (t := 104) ?hr ?_; (case hd => rfl); (case hg => rfl); (case hr => first | (go_simp; done) | (go_simp; rfl)); intro gb802 hg w16 hbox hb; replace HO_7 := Aside0.mk (Kd.R_below (by (with_reducible repeat (first | apply Kd.R_alloc | apply Kd.R_drewN | apply Kd.R_drew)); exact HO_7.out) hb); have BK802 := Aside0.mk (hbox); have GW802 := Aside0.mk ((by rw [hg]; exact (below_size BA) : w.heap.size ≤ gb802)); have GE802 := Aside0.mk ((by rw [hg]; exact (below_size BA) : w.heap.size ≤ gb802)); replace HB := Aside0.mk (below_step BA hb); clear hb hbox hg; have hcz17_0 := bcv BK802.out 0 (.string (⟨#[]⟩ : ByteArray)); have hcz17_1 := bcv BK802.out 1 (.int .i64 0); have hcz17_2 := bcv BK802.out 2 (.int .i64 0); have hcz17_3 := bcv BK802.out 3 (.int .i64 0); have hfz17 := blk_frozen BK802.out) | ((with_reducible refine gate_dst (N := 44) rfl ?_); refine Kd.R_lit (Kd.int .i64) _ 3 ?hg (N := 44) ?hd (xs := ([a1, a2] : List Int)) (inner := [.int .i64 a1, .int .i64 a2]) (ok := fun _ => True) (okp := fun _ => True) ?hr ?hp (fun _ hk => hk) trivial (Below.refl _ _) (Nat.le_refl _) (by simp) ?_; (case hd => rfl); (case hg => rfl); (case hr => first | (go_simp; done) | (go_simp; rfl)); (case hp => exact (Reps.one (show Kd.M (Kd.int .i64) _ _ _ a1 [.int .i64 a1] from rfl) (Reps.one (show Kd.M (Kd.int .i64) _ _ _ a2 [.int .i64 a2] from rfl) (Reps.none _ _)))); intro v804 w18 ho19 hb hg_ hnew_; clear hg_ hnew_; (first | rw [← Ny803.out] at ho19 | (simp only [Int.reduceToNat] at ho19; rw [← Ny803.out] at ho19)); have HO805 := Aside0.mk (Kd.R_lower (Kd.R_new' ho19 (Kd.R_lt (by (with_reducible repeat (first | apply Kd.R_alloc | apply Kd.R_drewN | apply Kd.R_drew)); exact (Kd.R_mono (Kd.R_far (p := ⟨gb802, 3, none⟩) (Kd.R_far (p := ⟨gb802, 2, none⟩) (Kd.R_far (p := ⟨gb802, 1, none⟩) (Kd.R_far (p := ⟨gb802, 0, none⟩) (Kd.R_types HO_7.out BK802.out (by decide)) (fun _ hk => hk.2) (.string ((rd_T104 l0 x15_1).f0))) (fun _ hk => hk.2) (.int .i64 ((rd_T104 l0 x15_1).f1))) (fun _ hk => hk.2) (.int .i64 ((rd_T104 l0 x15_1).f2))) (fun _ hk => hk.2) (.int .i64 ((rd_T104 l0 x15_1).f3))) (fun _ h_ => h_.1))))) (below_size BA)); replace HO_7 := Aside0.mk (Kd.R_elder' (by (with_reducible repeat (first | apply Kd.R_alloc | apply Kd.R_drewN | apply Kd.R_drew)); exact (Kd.R_mono (Kd.R_far (p := ⟨gb802, 3, none⟩) (Kd.R_far (p := ⟨gb802, 2, none⟩) (Kd.R_far (p := ⟨gb802, 1, none⟩) (Kd.R_far (p := ⟨gb802, 0, none⟩) (Kd.R_types HO_7.out BK802.out (by decide)) (fun _ hk => hk.2) (.string ((rd_T104 l0 x15_1).f0))) (fun _ hk => hk.2) (.int .i64 ((rd_T104 l0 x15_1).f1))) (fun _ hk => hk.2) (.int .i64 ((rd_T104 l0 x15_1).f2))) (fun _ hk => hk.2) (.int .i64 ((rd_T104 l0 x15_1).f3))) (fun _ h_ => h_.1))) (Kd.R_base ho19) hb); replace BK802 := Aside0.mk (blk_below (g := gb802) (o := .cells #[.string ((rd_T104 l0 x15_1).f0), .int .i64 ((rd_T104 l0 x15_1).f1), .int .i64 ((rd_T104 l0 x15_1).f2), .int .i64 ((rd_T104 l0 x15_1).f3)] 104 (0, 0)) (by (with_reducible repeat (first | refine blk_drewN ?_ _ | refine blk_drew ?_ | refine blk_alloc ?_ _)); refine blk_put (cs := #[.string ((rd_T104 l0 x15_1).f0), .int .i64 ((rd_T104 l0 x15_1).f1), .int .i64 ((rd_T104 l0 x15_1).f2), .int .i64 0]) ?_ 3 _ rfl; (with_reducible repeat (first | refine blk_drewN ?_ _ | refine blk_drew ?_ | refine blk_alloc ?_ _)); refine blk_put (cs := #[.string ((rd_T104 l0 x15_1).f0), .int .i64 ((rd_T104 l0 x15_1).f1), .int .i64 0, .int .i64 0]) ?_ 2 _ rfl; (with_reducible repeat (first | refine blk_drewN ?_ _ | refine blk_drew ?_ | refine blk_alloc ?_ _)); refine blk_put (cs := #[.string ((rd_T104 l0 x15_1).f0), .int .i64 0, .int .i64 0, .int .i64 0]) ?_ 1 _ rfl; (with_reducible repeat (first | refine blk_drewN ?_ _ | refine blk_drew ?_ | refine blk_alloc ?_ _)); refine blk_put (cs := #[.string (⟨#[]⟩ : ByteArray), .int .i64 0, .int .i64 0, .int .i64 0]) ?_ 0 _ rfl; (with_reducible repeat (first | refine blk_drewN ?_ _ | refine blk_drew ?_ | refine blk_alloc ?_ _)); exact BK802.out) hb); replace HB := Aside0.mk (below_step BA hb); clear hb ho19; have hcz20_0 := bcv BK802.out 0 (.string ((rd_T104 l0 x15_1).f0)); have hcz20_1 := bcv BK802.out 1 (.int .i64 ((rd_T104 l0 x15_1).f1)); have hcz20_2 := bcv BK802.out 2 (.int .i64 ((rd_T104 l0 x15_1).f2)); have hcz20_3 := bcv BK802.out 3 (.int .i64 ((rd_T104 l0 x15_1).f3)); have hfz20 := blk_frozen BK802.out; obtain ⟨Ao21, co21, eo21⟩ := Kd.R_slice HO805.out; subst eo21; have p806 : 0 ≤ (((rd_T104 l0 x15_1).f3) : Int) := DT; have q806 : ((rd_T104 l0 x15_1).f3) < (y803.length : Int) := DT; obtain ⟨ad806, e806, hx806_0⟩ := Kd.at_int (Kd.R_reads' HO805.out).2.2 ((rd_T104 l0 x15_1).f3) p806 q806; cases e806; replace p806 := eq_true p806; replace q806 := eq_true q806; have p15 : 0 ≤ (x15_1 : Int) := DT; have q15 : (x15_1 : Int) < ((x7_1.length : Int) : Int) := DT; obtain ⟨go15, co15, eo15, gb15, gl15, cl15, HG15⟩ := Kd.R_form HO_7.out (by omega); (first | cases eo15 | (injection eo15 with ea_ en_ ec_; (first | subst ea_ | (injection ea_ with ea_; subst ea_)); subst ec_; clear en_)); have GB15 := Aside0.mk gb15; have GG15 := Aside0.mk HG15; clear gb15 gl15 HG15; obtain ⟨hx15_0, hf15_0⟩ := Kd.R_celln 0 HO_7.out (x15_1 : Int) p15 q15; replace p15 := eq_true p15; replace q15 := eq_true q15; have n_ := Aside0.mk (Kd.R_mono (ok' := (fun k_ => some k_ ≠ (.slice (some ad806) y803.length co21 : Value).ownBlock)) HO_7.out (fun k_ hk => hk.2)); clear HO_7; have HO_7 := n_; clear n_; obtain ⟨hy22_, hz22_⟩ := Kd.R_celln 0 HO_7.out (x15_1 : Int) DT DT; have HP22 := Kd.R_putg HO_7.out (x15_1 : Int) (rd y803 ((rd_T104 l0 x15_1).f3))) | ((with_reducible refine gate_store (t := 3) (p := 49) rfl ?_); refine store_event (t := 3) (p := 49) (v := ?vo_w23) (w1 := (w18.setCell ⟨go15, (x15_1 : Int).toNat, none⟩ (.int .i64 (rd y803 ((rd_T104 l0 x15_1).f3))))) ?hg ?ho ?hn ?hr ?_; (case ho => rfl); (case hg => rfl); (case hn => rfl); (case hr => first | (go_simp; done) | (go_simp; rfl)); intro w23 hw; have hg : w18.grownBy w23 (some go15) := (by rw [hw]; exact HP22.2); have hp_ : Kd.R (Kd.int .i64) 3 w23 w.heap.size (fun k_ => some k_ ≠ (.slice (some ad806) y803.length co21 : Value).ownBlock) (.slice (some ⟨go15, 0, none⟩) x7_1.length co15) y807 := (by rw [hw, Ny807.out]; exact HP22.1); clear HP22; replace BK802 := Aside0.mk (blk_grown (g := gb802) (o := .cells #[.string ((rd_T104 l0 x15_1).f0), .int .i64 ((rd_T104 l0 x15_1).f1), .int .i64 ((rd_T104 l0 x15_1).f2), .int .i64 ((rd_T104 l0 x15_1).f3)] 104 (0, 0)) (bk BK802.out) hg (Kd.R_ne HO_7.out BK802.out (by decide))); replace HO_7 := Aside0.mk (hp_); replace HO805 := Aside0.mk (Kd.R_after (v := (.slice (some ⟨go15, 0, none⟩) x7_1.length co15)) (v1 := (.slice (some ⟨go15, 0, none⟩) x7_1.length co15)) (ok := (fun _ => True)) (by (with_reducible repeat (first | apply Kd.R_alloc | apply Kd.R_drewN | apply Kd.R_drew)); exact HO805.out) hg (.inl rfl)); replace HB := Aside0.mk ((by rw [hw]; exact below_set (HB.out) GB15.out : Below w.heap.size w w23)); clear hg hw hp_))
                        go_roundg k1
                        case measure => have := HK1.out; omega
                        case rel => exact ⟨(y807), (wrap64 (x15_1 + 1)), EQ1, H', ⟨by have := HK1.out; omega⟩, ⟨by (with_reducible repeat (first | apply Kd.R_alloc | apply Kd.R_drewN | apply Kd.R_drew)); exact Kd.R_mono HO_7.out (fun _ hk => trivial)⟩, ⟨BA⟩⟩
                      · rw [if_neg c14] at H
                        exact absurd H (by simp)
                    · rw [if_neg c13] at H
                      exact absurd H (by simp)
                  · rw [if_neg c12] at H
                    exact absurd H (by simp)
                · rw [if_neg c11] at H
                  have c11b0 := beq_eq_false_iff_ne.mpr c11
                  have c11b1 := bne_iff_ne.mpr c11
                  by_cases c24 : ((rd_T104 l0 x15_1).f0).toList = ([99, 111, 110, 115, 116] : List UInt8)
                  · rw [if_pos c24] at H
                    have c24b0 := beq_iff_eq.mpr c24
                    have c24b1 := bne_eq_false_iff_eq.mpr c24
                    clear c24
                    by_cases c25 : x15_1 < (x7_1.length : Int)
                    · rw [if_pos c25] at H
                      have c25b0 := decide_eq_true c25
                      clear c25
                      obtain ⟨y808, hy808⟩ : ∃ y_ : List Int, y_ = (x7_1.set (x15_1 : Int).toNat ((rd_T104 l0 x15_1).f3)) := ⟨_, rfl⟩
                      replace H : (impl_values.l0 k1 a1 a2 y808 l0 (l0.length : Int) (wrap64 (x15_1 + 1))) = some r := by first | (rw [hy808]; with_reducible exact H) | (have H2_ := (Option.bind_some _ _).symm.trans H; rw [hy808]; with_reducible exact H2_) | (have H2_ := (Option.bind_some _ _).symm.trans H; with_reducible exact H2_) | with_reducible exact H | (rw [hy808]; exact H) | exact H
                      have Ny808 := Aside0.mk hy808
                      clear hy808
                      have H' := Aside0.mk H
                      clear H
                      have p801 : 0 ≤ (x15_1 : Int) := DT
                      have q801 : x15_1 < (l0.length : Int) := DT
                      obtain ⟨ad801, e801, hx801_0, hx801_1, hx801_2, hx801_3⟩ := at_T104 HR0.out x15_1 p801 q801
                      cases e801
                      replace hx801_0 := (HB.out.cell (World.block_lt_of_cell? w _ hx801_0)).trans hx801_0
                      replace hx801_1 := (HB.out.cell (World.block_lt_of_cell? w _ hx801_1)).trans hx801_1
                      replace hx801_2 := (HB.out.cell (World.block_lt_of_cell? w _ hx801_2)).trans hx801_2
                      replace hx801_3 := (HB.out.cell (World.block_lt_of_cell? w _ hx801_3)).trans hx801_3
                      replace p801 := eq_true p801
                      replace q801 := eq_true q801
                      go_wp2_with (first | ((with_reducible refine gate_dst (N := 9) rfl ?_); refine box_event ?hg (N := 9) ?hd (cs := #[.string (⟨#[]⟩ : ByteArray), .int .i64 0, .int .i64 0, .int .i64 0]) (t := 104) ?hr ?_; (case hd => rfl); (case hg => rfl); (case hr => first | (go_simp; done) | (go_simp; rfl)); intro gb802 hg w27 hbox hb; replace HO_7 := Aside0.mk (Kd.R_below (by (with_reducible repeat (first | apply Kd.R_alloc | apply Kd.R_drewN | apply Kd.R_drew)); exact HO_7.out) hb); have BK802 := Aside0.mk (hbox); have GW802 := Aside0.mk ((by rw [hg]; exact (below_size BA) : w.heap.size ≤ gb802)); have GE802 := Aside0.mk ((by rw [hg]; exact (below_size BA) : w.heap.size ≤ gb802)); replace HB := Aside0.mk (below_step BA hb); clear hb hbox hg; have hcz28_0 := bcv BK802.out 0 (.string (⟨#[]⟩ : ByteArray)); have hcz28_1 := bcv BK802.out 1 (.int .i64 0); have hcz28_2 := bcv BK802.out 2 (.int .i64 0); have hcz28_3 := bcv BK802.out 3 (.int .i64 0); have hfz28 := blk_frozen BK802.out) | ((with_reducible refine gate_store (t := 104) (p := 9) rfl ?_); refine store_event (t := 104) (p := 9) (v := ?vo_w29) (w1 := ((((w27.setCell ⟨gb802, 0, none⟩ (.string ((rd_T104 l0 x15_1).f0))).setCell ⟨gb802, 1, none⟩ (.int .i64 ((rd_T104 l0 x15_1).f1))).setCell ⟨gb802, 2, none⟩ (.int .i64 ((rd_T104 l0 x15_1).f2))).setCell ⟨gb802, 3, none⟩ (.int .i64 ((rd_T104 l0 x15_1).f3)))) ?hg ?ho ?hn ?hr ?_; (case ho => rfl); (case hg => rfl); (case hn => rfl); (case hr => first | (go_simp; done) | (go_simp; rfl)); intro w29 hw; have n0_ : Aside0 (Kd.R (Kd.int .i64) 3 w29 w.heap.size (fun _ => True) v799 x7_1) := ⟨(by rw [hw]; exact (by (with_reducible repeat (first | apply Kd.R_alloc | apply Kd.R_drewN | apply Kd.R_drew)); exact Kd.R_mono (Kd.R_far (p := ⟨gb802, 3, none⟩) (Kd.R_far (p := ⟨gb802, 2, none⟩) (Kd.R_far (p := ⟨gb802, 1, none⟩) (Kd.R_far (p := ⟨gb802, 0, none⟩) (Kd.R_types HO_7.out BK802.out (by decide)) (fun _ hk => hk.2) (.string ((rd_T104 l0 x15_1).f0))) (fun _ hk => hk.2) (.int .i64 ((rd_T104 l0 x15_1).f1))) (fun _ hk => hk.2) (.int .i64 ((rd_T104 l0 x15_1).f2))) (fun _ hk => hk.2) (.int .i64 ((rd_T104 l0 x15_1).f3))) (fun _ hk => trivial)))⟩; have n1_ : Aside0 (w29.heap[gb802]? = some (.cells #[.string ((rd_T104 l0 x15_1).f0), .int .i64 ((rd_T104 l0 x15_1).f1), .int .i64 ((rd_T104 l0 x15_1).f2), .int .i64 ((rd_T104 l0 x15_1).f3)] 104 (0, 0))) := ⟨(by rw [hw]; exact (by (with_reducible repeat (first | refine blk_drewN ?_ _ | refine blk_drew ?_ | refine blk_alloc ?_ _)); refine blk_put (cs := #[.string ((rd_T104 l0 x15_1).f0), .int .i64 ((rd_T104 l0 x15_1).f1), .int .i64 ((rd_T104 l0 x15_1).f2), .int .i64 0]) ?_ 3 _ rfl; (with_reducible repeat (first | refine blk_drewN ?_ _ | refine blk_drew ?_ | refine blk_alloc ?_ _)); refine blk_put (cs := #[.string ((rd_T104 l0 x15_1).f0), .int .i64 ((rd_T104 l0 x15_1).f1), .int .i64 0, .int .i64 0]) ?_ 2 _ rfl; (with_reducible repeat (first | refine blk_drewN ?_ _ | refine blk_drew ?_ | refine blk_alloc ?_ _)); refine blk_put (cs := #[.string ((rd_T104 l0 x15_1).f0), .int .i64 0, .int .i64 0, .int .i64 0]) ?_ 1 _ rfl; (with_reducible repeat (first | refine blk_drewN ?_ _ | refine blk_drew ?_ | refine blk_alloc ?_ _)); refine blk_put (cs := #[.string (⟨#[]⟩ : ByteArray), .int .i64 0, .int .i64 0, .int .i64 0]) ?_ 0 _ rfl; (with_reducible repeat (first | refine blk_drewN ?_ _ | refine blk_drew ?_ | refine blk_alloc ?_ _)); exact BK802.out))⟩; have n2_ : Aside0 (Below w.heap.size w w29) := ⟨(by rw [hw]; exact BA)⟩; clear hw; clear HO_7; clear BK802; clear HB; have HO_7 := n0_; have BK802 := n1_; have HB := n2_; clear n0_ n1_ n2_; have hcz30_0 := bcv BK802.out 0 (.string ((rd_T104 l0 x15_1).f0)); have hcz30_1 := bcv BK802.out 1 (.int .i64 ((rd_T104 l0 x15_1).f1)); have hcz30_2 := bcv BK802.out 2 (.int .i64 ((rd_T104 l0 x15_1).f2)); have hcz30_3 := bcv BK802.out 3 (.int .i64 ((rd_T104 l0 x15_1).f3)); have hfz30 := blk_frozen BK802.out; have p26 : 0 ≤ (x15_1 : Int) := DT; have q26 : (x15_1 : Int) < ((x7_1.length : Int) : Int) := DT; obtain ⟨go26, co26, eo26, gb26, gl26, cl26, HG26⟩ := Kd.R_form HO_7.out (by omega); (first | cases eo26 | (injection eo26 with ea_ en_ ec_; (first | subst ea_ | (injection ea_ with ea_; subst ea_)); subst ec_; clear en_)); have GB26 := Aside0.mk gb26; have GG26 := Aside0.mk HG26; clear gb26 gl26 HG26; obtain ⟨hx26_0, hf26_0⟩ := Kd.R_celln 0 HO_7.out (x15_1 : Int) p26 q26; replace p26 := eq_true p26; replace q26 := eq_true q26; obtain ⟨hy31_, hz31_⟩ := Kd.R_celln 0 HO_7.out (x15_1 : Int) DT DT; have HP31 := Kd.R_putg HO_7.out (x15_1 : Int) ((rd_T104 l0 x15_1).f3)) | ((with_reducible refine gate_store (t := 3) (p := 56) rfl ?_); refine store_event (t := 3) (p := 56) (v := ?vo_w32) (w1 := (w29.setCell ⟨go26, (x15_1 : Int).toNat, none⟩ (.int .i64 ((rd_T104 l0 x15_1).f3)))) ?hg ?ho ?hn ?hr ?_; (case ho => rfl); (case hg => rfl); (case hn => rfl); (case hr => first | (go_simp; done) | (go_simp; rfl)); intro w32 hw; have hg : w29.grownBy w32 (some go26) := (by rw [hw]; exact HP31.2); have hp_ : Kd.R (Kd.int .i64) 3 w32 w.heap.size (fun _ => True) (.slice (some ⟨go26, 0, none⟩) x7_1.length co26) y808 := (by rw [hw, Ny808.out]; exact HP31.1); clear HP31; replace BK802 := Aside0.mk (blk_grown (g := gb802) (o := .cells #[.string ((rd_T104 l0 x15_1).f0), .int .i64 ((rd_T104 l0 x15_1).f1), .int .i64 ((rd_T104 l0 x15_1).f2), .int .i64 ((rd_T104 l0 x15_1).f3)] 104 (0, 0)) (bk BK802.out) hg (Kd.R_ne HO_7.out BK802.out (by decide))); replace HO_7 := Aside0.mk (hp_); replace HB := Aside0.mk ((by rw [hw]; exact below_set (HB.out) GB26.out : Below w.heap.size w w32)); clear hg hw hp_))
                      go_roundg k1
                      case measure => have := HK1.out; omega
                      case rel => exact ⟨(y808), (wrap64 (x15_1 + 1)), EQ1, H', ⟨by have := HK1.out; omega⟩, ⟨by (with_reducible repeat (first | apply Kd.R_alloc | apply Kd.R_drewN | apply Kd.R_drew)); exact HO_7.out⟩, ⟨BA⟩⟩
                    · rw [if_neg c25] at H
                      exact absurd H (by simp)
                  · rw [if_neg c24] at H
                    have c24b0 := beq_eq_false_iff_ne.mpr c24
                    have c24b1 := bne_iff_ne.mpr c24
                    by_cases c33 : 0 ≤ ((rd_T104 l0 x15_1).f1)
                    · rw [if_pos c33] at H
                      have c33b0 := decide_eq_true c33
                      clear c33
                      by_cases c34 : ((rd_T104 l0 x15_1).f1) < (x7_1.length : Int)
                      · rw [if_pos c34] at H
                        have c34b0 := decide_eq_true c34
                        clear c34
                        by_cases c35 : 0 ≤ ((rd_T104 l0 x15_1).f2)
                        · rw [if_pos c35] at H
                          have c35b0 := decide_eq_true c35
                          clear c35
                          by_cases c36 : ((rd_T104 l0 x15_1).f2) < (x7_1.length : Int)
                          · rw [if_pos c36] at H
                            have c36b0 := decide_eq_true c36
                            clear c36
                            replace H := Option.bind_eq_some_iff.mp H
                            obtain ⟨t811, A370, H⟩ := H
                            replace H : (if x15_1 < (x7_1.length : Int) then (impl_values.l0 k1 a1 a2 (x7_1.set (x15_1 : Int).toNat t811) l0 (l0.length : Int) (wrap64 (x15_1 + 1))) else (none)) = some r := H
                            have A37 := Aside0.mk A370
                            clear A370
                            by_cases c38 : x15_1 < (x7_1.length : Int)
                            · rw [if_pos c38] at H
                              have c38b0 := decide_eq_true c38
                              clear c38
                              obtain ⟨y812, hy812⟩ : ∃ y_ : List Int, y_ = (x7_1.set (x15_1 : Int).toNat t811) := ⟨_, rfl⟩
                              replace H : (impl_values.l0 k1 a1 a2 y812 l0 (l0.length : Int) (wrap64 (x15_1 + 1))) = some r := by first | (rw [hy812]; with_reducible exact H) | (have H2_ := (Option.bind_some _ _).symm.trans H; rw [hy812]; with_reducible exact H2_) | (have H2_ := (Option.bind_some _ _).symm.trans H; with_reducible exact H2_) | with_reducible exact H | (rw [hy812]; exact H) | exact H
                              have Ny812 := Aside0.mk hy812
                              clear hy812
                              have H' := Aside0.mk H
                              clear H
                              have p801 : 0 ≤ (x15_1 : Int) := DT
                              have q801 : x15_1 < (l0.length : Int) := DT
                              obtain ⟨ad801, e801, hx801_0, hx801_1, hx801_2, hx801_3⟩ := at_T104 HR0.out x15_1 p801 q801
                              cases e801
                              replace hx801_0 := (HB.out.cell (World.block_lt_of_cell? w _ hx801_0)).trans hx801_0
                              replace hx801_1 := (HB.out.cell (World.block_lt_of_cell? w _ hx801_1)).trans hx801_1
                              replace hx801_2 := (HB.out.cell (World.block_lt_of_cell? w _ hx801_2)).trans hx801_2
                              replace hx801_3 := (HB.out.cell (World.block_lt_of_cell? w _ hx801_3)).trans hx801_3
                              replace p801 := eq_true p801
                              replace q801 := eq_true q801
                              try go_wp2_with (first | ((with_reducible refine gate_dst (N := 9) rfl ?_); refine box_event ?hg (N := 9) ?hd (cs := #[.string (⟨#[]⟩ : ByteArray), .int .i64 0, .int .i64 0, .int .i64 0]) (t := 104) ?hr ?_; (case hd => rfl); (case hg => rfl); (case hr => first | (go_simp; done) | (go_simp; rfl)); intro gb802 hg w40 hbox hb; replace HO_7 := Aside0.mk (Kd.R_below (by (with_reducible repeat (first | apply Kd.R_alloc | apply Kd.R_drewN | apply Kd.R_drew)); exact HO_7.out) hb); have BK802 := Aside0.mk (hbox); have GW802 := Aside0.mk ((by rw [hg]; exact (below_size BA) : w.heap.size ≤ gb802)); have GE802 := Aside0.mk ((by rw [hg]; exact (below_size BA) : w.heap.size ≤ gb802)); replace HB := Aside0.mk (below_step BA hb); clear hb hbox hg; have hcz41_0 := bcv BK802.out 0 (.string (⟨#[]⟩ : ByteArray)); have hcz41_1 := bcv BK802.out 1 (.int .i64 0); have hcz41_2 := bcv BK802.out 2 (.int .i64 0); have hcz41_3 := bcv BK802.out 3 (.int .i64 0); have hfz41 := blk_frozen BK802.out))
                              have n0_ : Aside0 (Kd.R (Kd.int .i64) 3 ((((w40.setCell ⟨gb802, 0, none⟩ (.string ((rd_T104 l0 x15_1).f0))).setCell ⟨gb802, 1, none⟩ (.int .i64 ((rd_T104 l0 x15_1).f1))).setCell ⟨gb802, 2, none⟩ (.int .i64 ((rd_T104 l0 x15_1).f2))).setCell ⟨gb802, 3, none⟩ (.int .i64 ((rd_T104 l0 x15_1).f3))) w.heap.size (fun _ => True) v799 x7_1) := ⟨by (with_reducible repeat (first | apply Kd.R_alloc | apply Kd.R_drewN | apply Kd.R_drew)); exact Kd.R_mono (Kd.R_far (p := ⟨gb802, 3, none⟩) (Kd.R_far (p := ⟨gb802, 2, none⟩) (Kd.R_far (p := ⟨gb802, 1, none⟩) (Kd.R_far (p := ⟨gb802, 0, none⟩) (Kd.R_types HO_7.out BK802.out (by decide)) (fun _ hk => hk.2) (.string ((rd_T104 l0 x15_1).f0))) (fun _ hk => hk.2) (.int .i64 ((rd_T104 l0 x15_1).f1))) (fun _ hk => hk.2) (.int .i64 ((rd_T104 l0 x15_1).f2))) (fun _ hk => hk.2) (.int .i64 ((rd_T104 l0 x15_1).f3))) (fun _ hk => trivial)⟩
                              have n1_ : Aside0 (((((w40.setCell ⟨gb802, 0, none⟩ (.string ((rd_T104 l0 x15_1).f0))).setCell ⟨gb802, 1, none⟩ (.int .i64 ((rd_T104 l0 x15_1).f1))).setCell ⟨gb802, 2, none⟩ (.int .i64 ((rd_T104 l0 x15_1).f2))).setCell ⟨gb802, 3, none⟩ (.int .i64 ((rd_T104 l0 x15_1).f3))).heap[gb802]? = some (.cells #[.string ((rd_T104 l0 x15_1).f0), .int .i64 ((rd_T104 l0 x15_1).f1), .int .i64 ((rd_T104 l0 x15_1).f2), .int .i64 ((rd_T104 l0 x15_1).f3)] 104 (0, 0))) := ⟨by (with_reducible repeat (first | refine blk_drewN ?_ _ | refine blk_drew ?_ | refine blk_alloc ?_ _)); refine blk_put (cs := #[.string ((rd_T104 l0 x15_1).f0), .int .i64 ((rd_T104 l0 x15_1).f1), .int .i64 ((rd_T104 l0 x15_1).f2), .int .i64 0]) ?_ 3 _ rfl; (with_reducible repeat (first | refine blk_drewN ?_ _ | refine blk_drew ?_ | refine blk_alloc ?_ _)); refine blk_put (cs := #[.string ((rd_T104 l0 x15_1).f0), .int .i64 ((rd_T104 l0 x15_1).f1), .int .i64 0, .int .i64 0]) ?_ 2 _ rfl; (with_reducible repeat (first | refine blk_drewN ?_ _ | refine blk_drew ?_ | refine blk_alloc ?_ _)); refine blk_put (cs := #[.string ((rd_T104 l0 x15_1).f0), .int .i64 0, .int .i64 0, .int .i64 0]) ?_ 1 _ rfl; (with_reducible repeat (first | refine blk_drewN ?_ _ | refine blk_drew ?_ | refine blk_alloc ?_ _)); refine blk_put (cs := #[.string (⟨#[]⟩ : ByteArray), .int .i64 0, .int .i64 0, .int .i64 0]) ?_ 0 _ rfl; (with_reducible repeat (first | refine blk_drewN ?_ _ | refine blk_drew ?_ | refine blk_alloc ?_ _)); exact BK802.out⟩
                              have n2_ : Aside0 (Below w.heap.size w ((((w40.setCell ⟨gb802, 0, none⟩ (.string ((rd_T104 l0 x15_1).f0))).setCell ⟨gb802, 1, none⟩ (.int .i64 ((rd_T104 l0 x15_1).f1))).setCell ⟨gb802, 2, none⟩ (.int .i64 ((rd_T104 l0 x15_1).f2))).setCell ⟨gb802, 3, none⟩ (.int .i64 ((rd_T104 l0 x15_1).f3)))) := ⟨BA⟩
                              (try clear HO_7)
                              (try clear BK802)
                              (try clear HB)
                              generalize ((((w40.setCell ⟨gb802, 0, none⟩ (.string ((rd_T104 l0 x15_1).f0))).setCell ⟨gb802, 1, none⟩ (.int .i64 ((rd_T104 l0 x15_1).f1))).setCell ⟨gb802, 2, none⟩ (.int .i64 ((rd_T104 l0 x15_1).f2))).setCell ⟨gb802, 3, none⟩ (.int .i64 ((rd_T104 l0 x15_1).f3))) = w42 at n0_ n1_ n2_ ⊢
                              have HO_7 := n0_
                              have BK802 := n1_
                              have HB := n2_
                              clear n0_ n1_ n2_
                              have n0_ := Aside0.mk (Kd.R_drew HO_7.out)
                              have n1_ := Aside0.mk (blk_drew BK802.out)
                              have n2_ := Aside0.mk (below_drew1 HB.out)
                              clear HO_7
                              clear BK802
                              clear HB
                              have HO_7 := n0_
                              have BK802 := n1_
                              have HB := n2_
                              clear n0_ n1_ n2_
                              obtain ⟨Ao44, co44, eo44⟩ := Kd.R_slice HO_7.out
                              (first | subst eo44 | (injection eo44 with f1_ f2_ f3_; have f4_ := f1_.symm; have f5_ := f3_.symm; clear f1_ f2_ f3_; subst f4_; subst f5_))
                              have p809 : 0 ≤ (((rd_T104 l0 x15_1).f1) : Int) := DT
                              have q809 : ((rd_T104 l0 x15_1).f1) < (x7_1.length : Int) := DT
                              obtain ⟨ad809, e809, hx809_0⟩ := Kd.at_int (Kd.R_reads' HO_7.out).2.2 ((rd_T104 l0 x15_1).f1) p809 q809
                              cases e809
                              replace p809 := eq_true p809
                              replace q809 := eq_true q809
                              have p810 : 0 ≤ (((rd_T104 l0 x15_1).f2) : Int) := DT
                              have q810 : ((rd_T104 l0 x15_1).f2) < (x7_1.length : Int) := DT
                              obtain ⟨ad810, e810, hx810_0⟩ := Kd.at_int (Kd.R_reads' HO_7.out).2.2 ((rd_T104 l0 x15_1).f2) p810 q810
                              obtain rfl : ad809 = ad810 := (by injection e810)
                              replace p810 := eq_true p810
                              replace q810 := eq_true q810
                              refine start_ (n := 17) (S := fun w' => w'.cell? ⟨gb802, 0, none⟩ = some (.string ((rd_T104 l0 x15_1).f0)) ∧ w'.cell? ⟨gb802, 1, none⟩ = some (.int .i64 ((rd_T104 l0 x15_1).f1)) ∧ w'.cell? ⟨gb802, 2, none⟩ = some (.int .i64 ((rd_T104 l0 x15_1).f2)) ∧ w'.cell? ⟨gb802, 3, none⟩ = some (.int .i64 ((rd_T104 l0 x15_1).f3)) ∧ w'.cell? (ad809.add (((rd_T104 l0 x15_1).f1)).toNat) = some (.int .i64 (rd x7_1 ((rd_T104 l0 x15_1).f1))) ∧ w'.cell? (ad809.add (((rd_T104 l0 x15_1).f2)).toNat) = some (.int .i64 (rd x7_1 ((rd_T104 l0 x15_1).f2)))) (ds := [16]) #[false, false, false, false, false, false, false, false, false, false, false, false, false, false, false, false, false] (by kernel_rfl) rfl rfl ⟨(blk_cell BK802.out 0).trans rfl, (blk_cell BK802.out 1).trans rfl, (blk_cell BK802.out 2).trans rfl, (blk_cell BK802.out 3).trans rfl, hx809_0, hx810_0⟩ (fun hHeld => ?_); refine with_tabW impl_values.tab6 impl_values.bits6 (fun HT_ HW_ => ?_)
                              generalize w42.drew = w43 at HO_7 BK802 HB hx809_0 hx810_0 hHeld ⊢
                              refine pure_ (i := 0) (N := some 22) (v := ?_) (a' := ?_) #[true, false, false, false, false, false, false, false, false, false, false, false, false, false, false, false, false] rfl rfl (any_of HT_.out (by kernel_rfl)) (fun _ _ _ h => h) (Or.inl ⟨by rfl, ?_⟩) ?_ ?_
                              rotate_left
                              · intro w'
                                go_simp
                                with_reducible rfl
                              rotate_left
                              · simp only [Act.put, List.setIfInBounds_toArray, List.set_cons_zero, List.set_cons_succ, i64_w, i32_w]
                                rfl
                              refine pure_ (i := 1) (N := some 23) (v := ?_) (a' := ?_) #[true, true, false, false, false, false, false, false, false, false, false, false, false, false, false, false, false] rfl rfl (any_of HT_.out (by kernel_rfl)) (fun _ _ _ h => h) (Or.inl ⟨by rfl, ?_⟩) ?_ ?_
                              rotate_left
                              · intro w'
                                go_simp
                                with_reducible rfl
                              rotate_left
                              · simp only [Act.put, List.setIfInBounds_toArray, List.set_cons_zero, List.set_cons_succ, i64_w, i32_w]
                                rfl
                              refine pure_ (i := 2) (N := some 24) (v := ?_) (a' := ?_) #[true, true, true, false, false, false, false, false, false, false, false, false, false, false, false, false, false] rfl rfl (any_of HT_.out (by kernel_rfl)) (fun _ _ _ h => h) (Or.inl ⟨by rfl, ?_⟩) ?_ ?_
                              rotate_left
                              · intro w'
                                go_simp
                                with_reducible rfl
                              rotate_left
                              · simp only [Act.put, List.setIfInBounds_toArray, List.set_cons_zero, List.set_cons_succ, i64_w, i32_w]
                                rfl
                              refine pure_ (i := 4) (N := some 26) (v := ?_) (a' := ?_) #[true, true, true, false, true, false, false, false, false, false, false, false, false, false, false, false, false] rfl rfl (any_of HT_.out (by kernel_rfl)) (fun _ _ _ h => h) (Or.inl ⟨by rfl, ?_⟩) ?_ ?_
                              rotate_left
                              · intro w'
                                go_simp
                                with_reducible rfl
                              rotate_left
                              · simp only [Act.put, List.setIfInBounds_toArray, List.set_cons_zero, List.set_cons_succ, i64_w, i32_w]
                                rfl
                              refine pure_ (i := 5) (N := some 27) (v := ?_) (a' := ?_) #[true, true, true, false, true, true, false, false, false, false, false, false, false, false, false, false, false] rfl rfl (any_of HT_.out (by kernel_rfl)) (fun _ _ _ h => h) (Or.inl ⟨by rfl, ?_⟩) ?_ ?_
                              rotate_left
                              · intro w'
                                go_simp
                                with_reducible rfl
                              rotate_left
                              · simp only [Act.put, List.setIfInBounds_toArray, List.set_cons_zero, List.set_cons_succ, i64_w, i32_w]
                                rfl
                              refine pure_ (i := 9) (N := some 31) (v := ?_) (a' := ?_) #[true, true, true, false, true, true, false, false, false, true, false, false, false, false, false, false, false] rfl rfl (any_of HT_.out (by kernel_rfl)) (fun _ _ _ h => h) (Or.inl ⟨by rfl, ?_⟩) ?_ ?_
                              rotate_left
                              · intro w'
                                go_simp
                                with_reducible rfl
                              rotate_left
                              · simp only [Act.put, List.setIfInBounds_toArray, List.set_cons_zero, List.set_cons_succ, i64_w, i32_w]
                                rfl
                              refine pure_ (i := 10) (N := some 32) (v := ?_) (a' := ?_) #[true, true, true, false, true, true, false, false, false, true, true, false, false, false, false, false, false] rfl rfl (any_of HT_.out (by kernel_rfl)) (fun _ _ _ h => h) (Or.inl ⟨by rfl, ?_⟩) ?_ ?_
                              rotate_left
                              · intro w'
                                go_simp
                                with_reducible rfl
                              rotate_left
                              · simp only [Act.put, List.setIfInBounds_toArray, List.set_cons_zero, List.set_cons_succ, i64_w, i32_w]
                                rfl
                              refine take_ (i := 3) (N := some 25) (v := ?_) (a' := ?_) #[true, true, true, true, true, true, false, false, false, true, true, false, false, false, false, false, false] rfl rfl (take_ofW HT_.out HW_.out (by kernel_rfl)) (fun _ _ _ h => h) (Or.inl ⟨by rfl, ?_⟩) hHeld ?_ ?_
                              rotate_left
                              · rintro w' ⟨s0, s1, s2, s3, s4, s5⟩
                                go_simp
                                with_reducible rfl
                              rotate_left
                              · simp only [Act.put, List.setIfInBounds_toArray, List.set_cons_zero, List.set_cons_succ, i64_w, i32_w]
                                rfl
                              refine take_ (i := 6) (N := some 28) (v := ?_) (a' := ?_) #[true, true, true, true, true, true, true, false, false, true, true, false, false, false, false, false, false] rfl rfl (take_ofW HT_.out HW_.out (by kernel_rfl)) (fun _ _ _ h => h) (Or.inl ⟨by rfl, ?_⟩) hHeld ?_ ?_
                              rotate_left
                              · rintro w' ⟨s0, s1, s2, s3, s4, s5⟩
                                go_simp
                                with_reducible rfl
                              rotate_left
                              · simp only [Act.put, List.setIfInBounds_toArray, List.set_cons_zero, List.set_cons_succ, i64_w, i32_w]
                                rfl
                              refine pure_ (i := 7) (N := some 29) (v := ?_) (a' := ?_) #[true, true, true, true, true, true, true, true, false, true, true, false, false, false, false, false, false] rfl rfl (any_of HT_.out (by kernel_rfl)) (fun _ _ _ h => h) (Or.inl ⟨by rfl, ?_⟩) ?_ ?_
                              rotate_left
                              · intro w'
                                go_simp
                                with_reducible rfl
                              rotate_left
                              · simp only [Act.put, List.setIfInBounds_toArray, List.set_cons_zero, List.set_cons_succ, i64_w, i32_w]
                                rfl
                              refine take_ (i := 8) (N := some 30) (v := ?_) (a' := ?_) #[true, true, true, true, true, true, true, true, true, true, true, false, false, false, false, false, false] rfl rfl (take_ofW HT_.out HW_.out (by kernel_rfl)) (fun _ _ _ h => h) (Or.inl ⟨by rfl, ?_⟩) hHeld ?_ ?_
                              rotate_left
                              · rintro w' ⟨s0, s1, s2, s3, s4, s5⟩
                                go_simp
                                with_reducible rfl
                              rotate_left
                              · simp only [Act.put, List.setIfInBounds_toArray, List.set_cons_zero, List.set_cons_succ, i64_w, i32_w]
                                rfl
                              refine take_ (i := 11) (N := some 33) (v := ?_) (a' := ?_) #[true, true, true, true, true, true, true, true, true, true, true, true, false, false, false, false, false] rfl rfl (take_ofW HT_.out HW_.out (by kernel_rfl)) (fun _ _ _ h => h) (Or.inl ⟨by rfl, ?_⟩) hHeld ?_ ?_
                              rotate_left
                              · rintro w' ⟨s0, s1, s2, s3, s4, s5⟩
                                go_simp
                                with_reducible rfl
                              rotate_left
                              · simp only [Act.put, List.setIfInBounds_toArray, List.set_cons_zero, List.set_cons_succ, i64_w, i32_w]
                                rfl
                              refine pure_ (i := 12) (N := some 34) (v := ?_) (a' := ?_) #[true, true, true, true, true, true, true, true, true, true, true, true, true, false, false, false, false] rfl rfl (any_of HT_.out (by kernel_rfl)) (fun _ _ _ h => h) (Or.inl ⟨by rfl, ?_⟩) ?_ ?_
                              rotate_left
                              · intro w'
                                go_simp
                                with_reducible rfl
                              rotate_left
                              · simp only [Act.put, List.setIfInBounds_toArray, List.set_cons_zero, List.set_cons_succ, i64_w, i32_w]
                                rfl
                              refine take_ (i := 13) (N := some 35) (v := ?_) (a' := ?_) #[true, true, true, true, true, true, true, true, true, true, true, true, true, true, false, false, false] rfl rfl (take_ofW HT_.out HW_.out (by kernel_rfl)) (fun _ _ _ h => h) (Or.inl ⟨by rfl, ?_⟩) hHeld ?_ ?_
                              rotate_left
                              · rintro w' ⟨s0, s1, s2, s3, s4, s5⟩
                                go_simp
                                with_reducible rfl
                              rotate_left
                              · simp only [Act.put, List.setIfInBounds_toArray, List.set_cons_zero, List.set_cons_succ, i64_w, i32_w]
                                rfl
                              refine one_ (i := 14) (N := some 36) #[true, true, true, true, true, true, true, true, true, true, true, true, true, true, true, false, false] rfl rfl (one_of HT_.out (by kernel_rfl)) (by decide) (fun K hK => ?_)
                              refine goes_ Try.func163 (by kernel_rfl) rfl #[.string ((rd_T104 l0 x15_1).f0), .int .i64 (rd x7_1 ((rd_T104 l0 x15_1).f1)), .int .i64 (rd x7_1 ((rd_T104 l0 x15_1).f2))] (by rfl) rfl rfl (by (try simp only [List.map_toArray, List.map_cons, List.map_nil]); first | done | rfl | (simp only [List.length_drop, List.length_take]; rfl)) ?_
                              with_reducible refine (impl_apply.calls ((rd_T104 l0 x15_1).f0) (rd x7_1 ((rd_T104 l0 x15_1).f1)) (rd x7_1 ((rd_T104 l0 x15_1).f2)) t811 _ A37.out).mono ?_
                              rintro e w' ⟨rfl, ⟨nd, rfl⟩⟩
                              refine ⟨_, rfl, ?_⟩
                              have p39 : 0 ≤ (x15_1 : Int) := DT
                              have q39 : (x15_1 : Int) < ((x7_1.length : Int) : Int) := DT
                              obtain ⟨go39, co39, eo39, gb39, gl39, cl39, HG39⟩ := Kd.R_form HO_7.out (by omega)
                              (first | cases eo39 | (injection eo39 with ea_ en_ ec_; (first | subst ea_ | (injection ea_ with ea_; subst ea_)); subst ec_; clear en_))
                              have GB39 := Aside0.mk gb39
                              have GG39 := Aside0.mk HG39
                              clear gb39 gl39 HG39
                              (first | simp only [add_plain] at hx809_0 | skip)
                              (first | simp only [add_plain] at hx810_0 | skip)
                              obtain ⟨hx39_0, hf39_0⟩ := Kd.R_celln 0 HO_7.out (x15_1 : Int) p39 q39
                              replace p39 := eq_true p39
                              replace q39 := eq_true q39
                              have HP45 := Kd.R_putn HO_7.out (x15_1 : Int) t811
                              rw [← Ny812.out] at HP45
                              have HQ45 := Aside0.mk HP45
                              clear HP45
                              refine hK.out _ _ ⟨(blk_cell BK802.out 0).trans rfl, (blk_cell BK802.out 1).trans rfl, (blk_cell BK802.out 2).trans rfl, (blk_cell BK802.out 3).trans rfl, hHeld.2.2.2.2.1, hHeld.2.2.2.2.2⟩ (fun hHeld => ?_)
                              clear hK K
                              refine norm_ (a' := ?_) ?_ ?_
                              rotate_left
                              · show Act.put _ (some 36) _ = _
                                simp only [Act.put, List.setIfInBounds_toArray, List.set_cons_zero, List.set_cons_succ, i64_w, i32_w]
                                rfl
                              refine pure_ (i := 15) (N := some 37) (v := ?_) (a' := ?_) #[true, true, true, true, true, true, true, true, true, true, true, true, true, true, true, true, false] rfl rfl (any_of HT_.out (by kernel_rfl)) (fun _ _ _ h => h) (Or.inl ⟨by rfl, ?_⟩) ?_ ?_
                              rotate_left
                              · intro w'
                                go_simp
                                with_reducible rfl
                              rotate_left
                              · simp only [Act.put, List.setIfInBounds_toArray, List.set_cons_zero, List.set_cons_succ, i64_w, i32_w]
                                rfl
                              refine last_ (i := 16) (N := none) #[true, true, true, true, true, true, true, true, true, true, true, true, true, true, true, true, true] rfl rfl (one_of HT_.out (by kernel_rfl)) (by decide) (fun K hK => ?_)
                              refine skip_ (w1 := ?_) (by rfl) rfl ?_ ?_
                              rotate_left
                              · go_simp
                                rfl
                              refine hK.out _ _ ?_
                              clear hK K
                              refine done_ (done_of HT_.out (by kernel_rfl)) ?_
                              try go_wp2
                              go_roundg k1
                              case measure => have := HK1.out; omega
                              case rel => exact ⟨(y812), (wrap64 (x15_1 + 1)), EQ1, H', ⟨by have := HK1.out; omega⟩, ⟨by (with_reducible repeat (first | apply Kd.R_alloc | apply Kd.R_drewN | apply Kd.R_drew)); exact HQ45.out⟩, ⟨by repeat (first | (with_reducible first | exact HB.out | apply below_alloc | apply pw_below_drewN | apply below_drew1 | refine below_set ?_ GB39.out | refine below_set ?_ GE802.out) | exact HB.out)⟩⟩
                            · rw [if_neg c38] at H
                              exact absurd H (by simp)
                          · rw [if_neg c36] at H
                            exact absurd H (by simp)
                        · rw [if_neg c35] at H
                          exact absurd H (by simp)
                      · rw [if_neg c34] at H
                        exact absurd H (by simp)
                    · rw [if_neg c33] at H
                      exact absurd H (by simp)
              · rw [if_neg c10] at H
                exact absurd H (by simp)
            · rw [if_neg c9] at H
              exact absurd H (by simp)
          · rw [if_neg c8] at H
            have c8b0 := decide_eq_false c8
            clear c8
            obtain rfl := Option.some.inj H
            go_wp2
            go_ret
            exact ⟨_, EQ, by (with_reducible repeat (first | apply Kd.R_alloc | apply Kd.R_drewN | apply Kd.R_drew)); exact HO_7.out, BA⟩
    · rw [if_neg c5] at H
      exact absurd H (by simp)
  · rw [if_neg c4] at H
    exact absurd H (by simp)

/-! ### impl_eval: function 104 -/
def impl_eval.f (k : Nat) (l0 : List (S104)) (a1 : Int) (a2 : Int) : Option (Int) := (impl_values.f k l0 a1 a2).bind fun t813 => (if 0 ≤ (wrap64 ((l0.length : Int) - 1)) then (if (wrap64 ((l0.length : Int) - 1)) < (t813.length : Int) then (some (rd t813 (wrap64 ((l0.length : Int) - 1)))) else (none)) else (none))
theorem impl_eval.mono : ∀ a0 a1 a2 k, LeO (impl_eval.f k a0 a1 a2) (impl_eval.f (k + 1) a0 a1 a2) := by
  intro a0 a1 a2 k
  unfold impl_eval.f
  repeat' first | (with_reducible first | exact impl_values.mono _ _ _ _ | exact LeO.refl _ | exact LeO.none _ | refine LeO.ite ?_ ?_ | refine LeO.bind ?_ (fun _ => ?_)) | exact LeO.none _ | refine LeO.ite ?_ ?_ | refine LeO.bind ?_ (fun _ => ?_)
set_option maxHeartbeats 8000000 in
set_option maxRecDepth 100000 in
theorem impl_eval.calls (k : Nat) (A0 : Option Addr) (c0 : Nat) (l0 : List (S104)) (a1 : Int) (a2 : Int) (r : Int) (w : World) (hr0 : Kd.C k104 w A0 l0.length l0) (hc0 : l0.length ≤ c0) (h : impl_eval.f k l0 a1 a2 = some r) :
    Calls Try.prog 104 #[.slice A0 l0.length c0, .int .i64 a1, .int .i64 a2] w fun e w' => e = .returned (.int .i64 r) ∧ Below w.heap.size w w' := by
  have HR0 := Aside0.mk hr0
  have HC0 := Aside0.mk hc0
  clear hr0 hc0
  have HB := Aside0.mk (Below.refl w.heap.size w)
  have H : ((impl_values.f k l0 a1 a2).bind fun t813 => (if 0 ≤ (wrap64 ((l0.length : Int) - 1)) then (if (wrap64 ((l0.length : Int) - 1)) < (t813.length : Int) then (some (rd t813 (wrap64 ((l0.length : Int) - 1)))) else (none)) else (none))) = some r := h
  clear h
  replace H := Option.bind_eq_some_iff.mp H
  obtain ⟨t813, A40, H⟩ := H
  replace H : (if 0 ≤ (wrap64 ((l0.length : Int) - 1)) then (if (wrap64 ((l0.length : Int) - 1)) < (t813.length : Int) then (some (rd t813 (wrap64 ((l0.length : Int) - 1)))) else (none)) else (none)) = some r := H
  have A4 := Aside0.mk A40
  clear A40
  obtain ⟨ji5, hji5⟩ : ∃ j_ : Int, (wrap64 ((l0.length : Int) - 1)) = j_ := ⟨_, rfl⟩
  replace H : (if 0 ≤ (ji5) then (if (ji5) < (t813.length : Int) then (some (rd t813 (ji5))) else (none)) else (none)) = some r := by first | (rw [hji5] at H; exact H) | (simp only [hji5] at H ⊢; exact H)
  (try rw [hji5] at A4)
  have hji5w : (IntKind.i64.wrap ((l0.length : Int) - 1)) = ji5 := (i64_w _).trans hji5
  by_cases c6 : 0 ≤ (ji5)
  · rw [if_pos c6] at H
    have c6b0 := decide_eq_true c6
    clear c6
    by_cases c7 : (ji5) < (t813.length : Int)
    · rw [if_pos c7] at H
      have c7b0 := decide_eq_true c7
      clear c7
      obtain rfl := Option.some.inj H
      go_enter Try.func104, Try.ntmps104
      go_wp2_with (first | ((with_reducible refine gate_callee (f := 142) rfl ?_); refine gK (some 10) Try.func142 #[.slice A0 l0.length c0, .int .i64 a1, .int .i64 a2] rfl rfl rfl ?_; (with_reducible refine (impl_values.calls k _ _ l0 a1 a2 t813 _ ?side1 ?side2 A4.out).mono ?_); (case side1 => exact cb HR0.out); (case side2 => exact HC0.out); rintro e w8 ⟨v814, rfl, ho0, hb⟩; refine ⟨_, rfl, ?_⟩; have HO815 := Aside0.mk (Kd.R_lower ho0 (below_size BA)); replace HB := Aside0.mk (below_step BA hb); (try clear hb); (try clear ho0); obtain ⟨Ao9, co9, eo9⟩ := Kd.R_slice HO815.out; subst eo9; have p816 : 0 ≤ ((ji5) : Int) := DT; have q816 : (ji5) < (t813.length : Int) := DT; obtain ⟨ad816, e816, hx816_0⟩ := Kd.at_int (Kd.R_reads' HO815.out).2.2 (ji5) p816 q816; cases e816; replace p816 := eq_true p816; replace q816 := eq_true q816))
      go_ret
      exact ⟨by first | rfl | (simp [errW_none, errW_some] <;> rfl) | (simp only [← hji5]; first | rfl | (simp [errW_none, errW_some] <;> rfl)) | (simp [*, errW_none, errW_some] <;> rfl), BA⟩
    · rw [if_neg c7] at H
      exact absurd H (by simp)
  · rw [if_neg c6] at H
    exact absurd H (by simp)

/-! ### impl_Instr_word: function 164 -/
def impl_Instr_word.j0 : Nat → Int → Int → Bool → ByteArray → Int → Int → Int → Int → Option (Int)
  | 0, _, _, _, _, _, _, _, _ => none
  | k + 1, x1, x2, x24, x818000, x818001, x818002, x818003, x818004 => if x24 = true then (if 0 ≤ 3 then (if 3 ≤ (x818000.size : Int) then ((impl_apply.f (x818000.extract 0 3) x1 x818004).bind fun t820 => (some t820)) else (none)) else (none)) else ((impl_apply.f x818000 x1 x2).bind fun t821 => (some t821))
def impl_Instr_word.f (k : Nat) (a0_0 : ByteArray) (a0_1 : Int) (a0_2 : Int) (a0_3 : Int) (a0_4 : Int) (a1 : Int) (a2 : Int) : Option (Int) := if a0_0.toList = ([115, 101, 116] : List UInt8) then (some a0_4) else (if a0_0.toList = ([109, 111, 118] : List UInt8) then (some a1) else (if a0_0.toList = ([108, 101, 97] : List UInt8) then ((impl_apply.f (⟨#[115, 104, 108]⟩ : ByteArray) a2 a0_4).bind fun t818 => ((impl_apply.f (⟨#[97, 100, 100]⟩ : ByteArray) a1 t818).bind fun t819 => (some t819))) else (if a0_0.toList = ([97, 100, 100, 105] : List UInt8) then (impl_Instr_word.j0 k a1 a2 (a0_0.toList == ([97, 100, 100, 105] : List UInt8)) a0_0 a0_1 a0_2 a0_3 a0_4) else (if a0_0.toList = ([97, 110, 100, 105] : List UInt8) then (impl_Instr_word.j0 k a1 a2 (a0_0.toList == ([97, 110, 100, 105] : List UInt8)) a0_0 a0_1 a0_2 a0_3 a0_4) else (if a0_0.toList = ([120, 111, 114, 105] : List UInt8) then (impl_Instr_word.j0 k a1 a2 (a0_0.toList == ([120, 111, 114, 105] : List UInt8)) a0_0 a0_1 a0_2 a0_3 a0_4) else (if a0_0.toList = ([115, 104, 108, 105] : List UInt8) then (impl_Instr_word.j0 k a1 a2 (a0_0.toList == ([115, 104, 108, 105] : List UInt8)) a0_0 a0_1 a0_2 a0_3 a0_4) else (impl_Instr_word.j0 k a1 a2 (a0_0.toList == ([115, 104, 114, 105] : List UInt8)) a0_0 a0_1 a0_2 a0_3 a0_4)))))))
theorem impl_Instr_word.mono_l : ∀ k, (∀ y0 y1 y2 y3 y4 y5 y6 y7, LeO (impl_Instr_word.j0 k y0 y1 y2 y3 y4 y5 y6 y7) (impl_Instr_word.j0 (k + 1) y0 y1 y2 y3 y4 y5 y6 y7))
  | 0 => fun _ _ _ _ _ _ _ _ r h => by simp [impl_Instr_word.j0] at h
  | k + 1 => by
    have ih0 := impl_Instr_word.mono_l k
    · intro y0 y1 y2 y3 y4 y5 y6 y7
      unfold impl_Instr_word.j0
      repeat' first | (with_reducible first | exact ih0 _ _ _ _ _ _ _ _ | exact LeO.refl _ | exact LeO.none _ | refine LeO.ite ?_ ?_ | refine LeO.bind ?_ (fun _ => ?_)) | exact LeO.none _ | refine LeO.ite ?_ ?_ | refine LeO.bind ?_ (fun _ => ?_)
theorem impl_Instr_word.mono : ∀ a0 a1 a2 a3 a4 a5 a6 k, LeO (impl_Instr_word.f k a0 a1 a2 a3 a4 a5 a6) (impl_Instr_word.f (k + 1) a0 a1 a2 a3 a4 a5 a6) := by
  intro a0 a1 a2 a3 a4 a5 a6 k
  have ih0 := impl_Instr_word.mono_l k
  unfold impl_Instr_word.f
  repeat' first | (with_reducible first | exact ih0 _ _ _ _ _ _ _ _ | exact LeO.refl _ | exact LeO.none _ | refine LeO.ite ?_ ?_ | refine LeO.bind ?_ (fun _ => ?_)) | exact LeO.none _ | refine LeO.ite ?_ ?_ | refine LeO.bind ?_ (fun _ => ?_)
set_option maxHeartbeats 8000000 in
set_option maxRecDepth 100000 in
theorem impl_Instr_word.calls (k : Nat) (a0_0 : ByteArray) (a0_1 : Int) (a0_2 : Int) (a0_3 : Int) (a0_4 : Int) (a1 : Int) (a2 : Int) (r : Int) (w : World) (h : impl_Instr_word.f k a0_0 a0_1 a0_2 a0_3 a0_4 a1 a2 = some r) :
    Calls Try.prog 164 #[.agg #[.string a0_0, .int .i64 a0_1, .int .i64 a0_2, .int .i64 a0_3, .int .i64 a0_4], .int .i64 a1, .int .i64 a2] w fun e w' => e = .returned (.int .i64 r) ∧ Below w.heap.size w w' := by
  have hu80 := Try.underlying80
  have HB := Aside0.mk (Below.refl w.heap.size w)
  have H : (if a0_0.toList = ([115, 101, 116] : List UInt8) then (some a0_4) else (if a0_0.toList = ([109, 111, 118] : List UInt8) then (some a1) else (if a0_0.toList = ([108, 101, 97] : List UInt8) then ((impl_apply.f (⟨#[115, 104, 108]⟩ : ByteArray) a2 a0_4).bind fun t818 => ((impl_apply.f (⟨#[97, 100, 100]⟩ : ByteArray) a1 t818).bind fun t819 => (some t819))) else (if a0_0.toList = ([97, 100, 100, 105] : List UInt8) then (impl_Instr_word.j0 k a1 a2 (a0_0.toList == ([97, 100, 100, 105] : List UInt8)) a0_0 a0_1 a0_2 a0_3 a0_4) else (if a0_0.toList = ([97, 110, 100, 105] : List UInt8) then (impl_Instr_word.j0 k a1 a2 (a0_0.toList == ([97, 110, 100, 105] : List UInt8)) a0_0 a0_1 a0_2 a0_3 a0_4) else (if a0_0.toList = ([120, 111, 114, 105] : List UInt8) then (impl_Instr_word.j0 k a1 a2 (a0_0.toList == ([120, 111, 114, 105] : List UInt8)) a0_0 a0_1 a0_2 a0_3 a0_4) else (if a0_0.toList = ([115, 104, 108, 105] : List UInt8) then (impl_Instr_word.j0 k a1 a2 (a0_0.toList == ([115, 104, 108, 105] : List UInt8)) a0_0 a0_1 a0_2 a0_3 a0_4) else (impl_Instr_word.j0 k a1 a2 (a0_0.toList == ([115, 104, 114, 105] : List UInt8)) a0_0 a0_1 a0_2 a0_3 a0_4)))))))) = some r := h
  clear h
  by_cases c4 : a0_0.toList = ([115, 101, 116] : List UInt8)
  · rw [if_pos c4] at H
    have c4b0 := beq_iff_eq.mpr c4
    have c4b1 := bne_eq_false_iff_eq.mpr c4
    clear c4
    obtain rfl := Option.some.inj H
    go_enter Try.func164, Try.ntmps164
    go_wp2_with (first | ((with_reducible refine gate_dst (N := 3) rfl ?_); refine box_event ?hg (N := 3) ?hd (cs := #[.string a0_0, .int .i64 a0_1, .int .i64 a0_2, .int .i64 a0_3, .int .i64 a0_4]) (t := 80) ?hr ?_; (case hd => rfl); (case hg => rfl); (case hr => first | (go_simp; done) | (go_simp; rfl)); intro gb817 hg w5 hbox hb; have BK817 := Aside0.mk (hbox); have GW817 := Aside0.mk ((by rw [hg]; exact (below_size BA) : w.heap.size ≤ gb817)); have GE817 := Aside0.mk ((by rw [hg]; exact (below_size BA) : w.heap.size ≤ gb817)); replace HB := Aside0.mk (below_step BA hb); clear hb hbox hg; have hcz6_0 := bcv BK817.out 0 (.string a0_0); have hcz6_1 := bcv BK817.out 1 (.int .i64 a0_1); have hcz6_2 := bcv BK817.out 2 (.int .i64 a0_2); have hcz6_3 := bcv BK817.out 3 (.int .i64 a0_3); have hcz6_4 := bcv BK817.out 4 (.int .i64 a0_4); have hfz6 := blk_frozen BK817.out))
    repeat (go_quiet (first | ((with_reducible refine gate_dst (N := 3) rfl ?_); refine box_event ?hg (N := 3) ?hd (cs := #[.string a0_0, .int .i64 a0_1, .int .i64 a0_2, .int .i64 a0_3, .int .i64 a0_4]) (t := 80) ?hr ?_; (case hd => rfl); (case hg => rfl); (case hr => first | (go_simp; done) | (go_simp; rfl)); intro gb817 hg w5 hbox hb; have BK817 := Aside0.mk (hbox); have GW817 := Aside0.mk ((by rw [hg]; exact (below_size BA) : w.heap.size ≤ gb817)); have GE817 := Aside0.mk ((by rw [hg]; exact (below_size BA) : w.heap.size ≤ gb817)); replace HB := Aside0.mk (below_step BA hb); clear hb hbox hg; have hcz6_0 := bcv BK817.out 0 (.string a0_0); have hcz6_1 := bcv BK817.out 1 (.int .i64 a0_1); have hcz6_2 := bcv BK817.out 2 (.int .i64 a0_2); have hcz6_3 := bcv BK817.out 3 (.int .i64 a0_3); have hcz6_4 := bcv BK817.out 4 (.int .i64 a0_4); have hfz6 := blk_frozen BK817.out)); try go_wp2_with (first | ((with_reducible refine gate_dst (N := 3) rfl ?_); refine box_event ?hg (N := 3) ?hd (cs := #[.string a0_0, .int .i64 a0_1, .int .i64 a0_2, .int .i64 a0_3, .int .i64 a0_4]) (t := 80) ?hr ?_; (case hd => rfl); (case hg => rfl); (case hr => first | (go_simp; done) | (go_simp; rfl)); intro gb817 hg w5 hbox hb; have BK817 := Aside0.mk (hbox); have GW817 := Aside0.mk ((by rw [hg]; exact (below_size BA) : w.heap.size ≤ gb817)); have GE817 := Aside0.mk ((by rw [hg]; exact (below_size BA) : w.heap.size ≤ gb817)); replace HB := Aside0.mk (below_step BA hb); clear hb hbox hg; have hcz6_0 := bcv BK817.out 0 (.string a0_0); have hcz6_1 := bcv BK817.out 1 (.int .i64 a0_1); have hcz6_2 := bcv BK817.out 2 (.int .i64 a0_2); have hcz6_3 := bcv BK817.out 3 (.int .i64 a0_3); have hcz6_4 := bcv BK817.out 4 (.int .i64 a0_4); have hfz6 := blk_frozen BK817.out)))
    go_ret
    exact ⟨EQ, BA⟩
  · rw [if_neg c4] at H
    have c4b0 := beq_eq_false_iff_ne.mpr c4
    have c4b1 := bne_iff_ne.mpr c4
    by_cases c7 : a0_0.toList = ([109, 111, 118] : List UInt8)
    · rw [if_pos c7] at H
      have c7b0 := beq_iff_eq.mpr c7
      have c7b1 := bne_eq_false_iff_eq.mpr c7
      clear c7
      obtain rfl := Option.some.inj H
      go_enter Try.func164, Try.ntmps164
      go_wp2_with (first | ((with_reducible refine gate_dst (N := 3) rfl ?_); refine box_event ?hg (N := 3) ?hd (cs := #[.string a0_0, .int .i64 a0_1, .int .i64 a0_2, .int .i64 a0_3, .int .i64 a0_4]) (t := 80) ?hr ?_; (case hd => rfl); (case hg => rfl); (case hr => first | (go_simp; done) | (go_simp; rfl)); intro gb817 hg w8 hbox hb; have BK817 := Aside0.mk (hbox); have GW817 := Aside0.mk ((by rw [hg]; exact (below_size BA) : w.heap.size ≤ gb817)); have GE817 := Aside0.mk ((by rw [hg]; exact (below_size BA) : w.heap.size ≤ gb817)); replace HB := Aside0.mk (below_step BA hb); clear hb hbox hg; have hcz9_0 := bcv BK817.out 0 (.string a0_0); have hcz9_1 := bcv BK817.out 1 (.int .i64 a0_1); have hcz9_2 := bcv BK817.out 2 (.int .i64 a0_2); have hcz9_3 := bcv BK817.out 3 (.int .i64 a0_3); have hcz9_4 := bcv BK817.out 4 (.int .i64 a0_4); have hfz9 := blk_frozen BK817.out))
      repeat (go_quiet (first | ((with_reducible refine gate_dst (N := 3) rfl ?_); refine box_event ?hg (N := 3) ?hd (cs := #[.string a0_0, .int .i64 a0_1, .int .i64 a0_2, .int .i64 a0_3, .int .i64 a0_4]) (t := 80) ?hr ?_; (case hd => rfl); (case hg => rfl); (case hr => first | (go_simp; done) | (go_simp; rfl)); intro gb817 hg w8 hbox hb; have BK817 := Aside0.mk (hbox); have GW817 := Aside0.mk ((by rw [hg]; exact (below_size BA) : w.heap.size ≤ gb817)); have GE817 := Aside0.mk ((by rw [hg]; exact (below_size BA) : w.heap.size ≤ gb817)); replace HB := Aside0.mk (below_step BA hb); clear hb hbox hg; have hcz9_0 := bcv BK817.out 0 (.string a0_0); have hcz9_1 := bcv BK817.out 1 (.int .i64 a0_1); have hcz9_2 := bcv BK817.out 2 (.int .i64 a0_2); have hcz9_3 := bcv BK817.out 3 (.int .i64 a0_3); have hcz9_4 := bcv BK817.out 4 (.int .i64 a0_4); have hfz9 := blk_frozen BK817.out)); try go_wp2_with (first | ((with_reducible refine gate_dst (N := 3) rfl ?_); refine box_event ?hg (N := 3) ?hd (cs := #[.string a0_0, .int .i64 a0_1, .int .i64 a0_2, .int .i64 a0_3, .int .i64 a0_4]) (t := 80) ?hr ?_; (case hd => rfl); (case hg => rfl); (case hr => first | (go_simp; done) | (go_simp; rfl)); intro gb817 hg w8 hbox hb; have BK817 := Aside0.mk (hbox); have GW817 := Aside0.mk ((by rw [hg]; exact (below_size BA) : w.heap.size ≤ gb817)); have GE817 := Aside0.mk ((by rw [hg]; exact (below_size BA) : w.heap.size ≤ gb817)); replace HB := Aside0.mk (below_step BA hb); clear hb hbox hg; have hcz9_0 := bcv BK817.out 0 (.string a0_0); have hcz9_1 := bcv BK817.out 1 (.int .i64 a0_1); have hcz9_2 := bcv BK817.out 2 (.int .i64 a0_2); have hcz9_3 := bcv BK817.out 3 (.int .i64 a0_3); have hcz9_4 := bcv BK817.out 4 (.int .i64 a0_4); have hfz9 := blk_frozen BK817.out)))
      go_ret
      exact ⟨EQ, BA⟩
    · rw [if_neg c7] at H
      have c7b0 := beq_eq_false_iff_ne.mpr c7
      have c7b1 := bne_iff_ne.mpr c7
      by_cases c10 : a0_0.toList = ([108, 101, 97] : List UInt8)
      · rw [if_pos c10] at H
        have c10b0 := beq_iff_eq.mpr c10
        have c10b1 := bne_eq_false_iff_eq.mpr c10
        clear c10
        replace H := Option.bind_eq_some_iff.mp H
        obtain ⟨t818, A110, H⟩ := H
        replace H : ((impl_apply.f (⟨#[97, 100, 100]⟩ : ByteArray) a1 t818).bind fun t819 => (some t819)) = some r := H
        have A11 := Aside0.mk A110
        clear A110
        replace H := Option.bind_eq_some_iff.mp H
        obtain ⟨t819, A120, H⟩ := H
        replace H : (some t819) = some r := H
        have A12 := Aside0.mk A120
        clear A120
        obtain rfl := Option.some.inj H
        go_enter Try.func164, Try.ntmps164
        go_wp2_with (first | ((with_reducible refine gate_dst (N := 3) rfl ?_); refine box_event ?hg (N := 3) ?hd (cs := #[.string a0_0, .int .i64 a0_1, .int .i64 a0_2, .int .i64 a0_3, .int .i64 a0_4]) (t := 80) ?hr ?_; (case hd => rfl); (case hg => rfl); (case hr => first | (go_simp; done) | (go_simp; rfl)); intro gb817 hg w13 hbox hb; have BK817 := Aside0.mk (hbox); have GW817 := Aside0.mk ((by rw [hg]; exact (below_size BA) : w.heap.size ≤ gb817)); have GE817 := Aside0.mk ((by rw [hg]; exact (below_size BA) : w.heap.size ≤ gb817)); replace HB := Aside0.mk (below_step BA hb); clear hb hbox hg; have hcz14_0 := bcv BK817.out 0 (.string a0_0); have hcz14_1 := bcv BK817.out 1 (.int .i64 a0_1); have hcz14_2 := bcv BK817.out 2 (.int .i64 a0_2); have hcz14_3 := bcv BK817.out 3 (.int .i64 a0_3); have hcz14_4 := bcv BK817.out 4 (.int .i64 a0_4); have hfz14 := blk_frozen BK817.out) | (go_at_call 163; (with_reducible refine (impl_apply.calls (⟨#[115, 104, 108]⟩ : ByteArray) a2 a0_4 t818 _ A11.out).mono ?_); rintro e w' ⟨rfl, ⟨nd, rfl⟩⟩; (try first | exact ⟨rfl, _, World.drewN_drewN _ _ _⟩ | exact ⟨rfl, _, Eq.trans (World.drewN_drewN _ _ _) (congrArg (World.drewN _) (Nat.add_assoc _ _ _))⟩)) | (go_at_call 163; (with_reducible refine (impl_apply.calls (⟨#[97, 100, 100]⟩ : ByteArray) a1 t818 t819 _ A12.out).mono ?_); rintro e w' ⟨rfl, ⟨nd, rfl⟩⟩; (try first | exact ⟨rfl, _, World.drewN_drewN _ _ _⟩ | exact ⟨rfl, _, Eq.trans (World.drewN_drewN _ _ _) (congrArg (World.drewN _) (Nat.add_assoc _ _ _))⟩)))
        repeat (go_quiet (first | ((with_reducible refine gate_dst (N := 3) rfl ?_); refine box_event ?hg (N := 3) ?hd (cs := #[.string a0_0, .int .i64 a0_1, .int .i64 a0_2, .int .i64 a0_3, .int .i64 a0_4]) (t := 80) ?hr ?_; (case hd => rfl); (case hg => rfl); (case hr => first | (go_simp; done) | (go_simp; rfl)); intro gb817 hg w13 hbox hb; have BK817 := Aside0.mk (hbox); have GW817 := Aside0.mk ((by rw [hg]; exact (below_size BA) : w.heap.size ≤ gb817)); have GE817 := Aside0.mk ((by rw [hg]; exact (below_size BA) : w.heap.size ≤ gb817)); replace HB := Aside0.mk (below_step BA hb); clear hb hbox hg; have hcz14_0 := bcv BK817.out 0 (.string a0_0); have hcz14_1 := bcv BK817.out 1 (.int .i64 a0_1); have hcz14_2 := bcv BK817.out 2 (.int .i64 a0_2); have hcz14_3 := bcv BK817.out 3 (.int .i64 a0_3); have hcz14_4 := bcv BK817.out 4 (.int .i64 a0_4); have hfz14 := blk_frozen BK817.out) | (go_at_call 163; (with_reducible refine (impl_apply.calls (⟨#[115, 104, 108]⟩ : ByteArray) a2 a0_4 t818 _ A11.out).mono ?_); rintro e w' ⟨rfl, ⟨nd, rfl⟩⟩; (try first | exact ⟨rfl, _, World.drewN_drewN _ _ _⟩ | exact ⟨rfl, _, Eq.trans (World.drewN_drewN _ _ _) (congrArg (World.drewN _) (Nat.add_assoc _ _ _))⟩)) | (go_at_call 163; (with_reducible refine (impl_apply.calls (⟨#[97, 100, 100]⟩ : ByteArray) a1 t818 t819 _ A12.out).mono ?_); rintro e w' ⟨rfl, ⟨nd, rfl⟩⟩; (try first | exact ⟨rfl, _, World.drewN_drewN _ _ _⟩ | exact ⟨rfl, _, Eq.trans (World.drewN_drewN _ _ _) (congrArg (World.drewN _) (Nat.add_assoc _ _ _))⟩))); try go_wp2_with (first | ((with_reducible refine gate_dst (N := 3) rfl ?_); refine box_event ?hg (N := 3) ?hd (cs := #[.string a0_0, .int .i64 a0_1, .int .i64 a0_2, .int .i64 a0_3, .int .i64 a0_4]) (t := 80) ?hr ?_; (case hd => rfl); (case hg => rfl); (case hr => first | (go_simp; done) | (go_simp; rfl)); intro gb817 hg w13 hbox hb; have BK817 := Aside0.mk (hbox); have GW817 := Aside0.mk ((by rw [hg]; exact (below_size BA) : w.heap.size ≤ gb817)); have GE817 := Aside0.mk ((by rw [hg]; exact (below_size BA) : w.heap.size ≤ gb817)); replace HB := Aside0.mk (below_step BA hb); clear hb hbox hg; have hcz14_0 := bcv BK817.out 0 (.string a0_0); have hcz14_1 := bcv BK817.out 1 (.int .i64 a0_1); have hcz14_2 := bcv BK817.out 2 (.int .i64 a0_2); have hcz14_3 := bcv BK817.out 3 (.int .i64 a0_3); have hcz14_4 := bcv BK817.out 4 (.int .i64 a0_4); have hfz14 := blk_frozen BK817.out) | (go_at_call 163; (with_reducible refine (impl_apply.calls (⟨#[115, 104, 108]⟩ : ByteArray) a2 a0_4 t818 _ A11.out).mono ?_); rintro e w' ⟨rfl, ⟨nd, rfl⟩⟩; (try first | exact ⟨rfl, _, World.drewN_drewN _ _ _⟩ | exact ⟨rfl, _, Eq.trans (World.drewN_drewN _ _ _) (congrArg (World.drewN _) (Nat.add_assoc _ _ _))⟩)) | (go_at_call 163; (with_reducible refine (impl_apply.calls (⟨#[97, 100, 100]⟩ : ByteArray) a1 t818 t819 _ A12.out).mono ?_); rintro e w' ⟨rfl, ⟨nd, rfl⟩⟩; (try first | exact ⟨rfl, _, World.drewN_drewN _ _ _⟩ | exact ⟨rfl, _, Eq.trans (World.drewN_drewN _ _ _) (congrArg (World.drewN _) (Nat.add_assoc _ _ _))⟩))))
        go_ret
        exact ⟨EQ, BA⟩
      · rw [if_neg c10] at H
        have c10b0 := beq_eq_false_iff_ne.mpr c10
        have c10b1 := bne_iff_ne.mpr c10
        have HC15 := Aside0.mk H
        clear H
        go_enter Try.func164, Try.ntmps164
        go_upto_if 24 with (first | ((with_reducible refine gate_dst (N := 3) rfl ?_); refine box_event ?hg (N := 3) ?hd (cs := #[.string a0_0, .int .i64 a0_1, .int .i64 a0_2, .int .i64 a0_3, .int .i64 a0_4]) (t := 80) ?hr ?_; (case hd => rfl); (case hg => rfl); (case hr => first | (go_simp; done) | (go_simp; rfl)); intro gb817 hg w16 hbox hb; have BK817 := Aside0.mk (hbox); have GW817 := Aside0.mk ((by rw [hg]; exact (below_size BA) : w.heap.size ≤ gb817)); have GE817 := Aside0.mk ((by rw [hg]; exact (below_size BA) : w.heap.size ≤ gb817)); replace HB := Aside0.mk (below_step BA hb); clear hb hbox hg; have hcz17_0 := bcv BK817.out 0 (.string a0_0); have hcz17_1 := bcv BK817.out 1 (.int .i64 a0_1); have hcz17_2 := bcv BK817.out 2 (.int .i64 a0_2); have hcz17_3 := bcv BK817.out 3 (.int .i64 a0_3); have hcz17_4 := bcv BK817.out 4 (.int .i64 a0_4); have hfz17 := blk_frozen BK817.out))
        repeat (go_quiet (first | ((with_reducible refine gate_dst (N := 3) rfl ?_); refine box_event ?hg (N := 3) ?hd (cs := #[.string a0_0, .int .i64 a0_1, .int .i64 a0_2, .int .i64 a0_3, .int .i64 a0_4]) (t := 80) ?hr ?_; (case hd => rfl); (case hg => rfl); (case hr => first | (go_simp; done) | (go_simp; rfl)); intro gb817 hg w16 hbox hb; have BK817 := Aside0.mk (hbox); have GW817 := Aside0.mk ((by rw [hg]; exact (below_size BA) : w.heap.size ≤ gb817)); have GE817 := Aside0.mk ((by rw [hg]; exact (below_size BA) : w.heap.size ≤ gb817)); replace HB := Aside0.mk (below_step BA hb); clear hb hbox hg; have hcz17_0 := bcv BK817.out 0 (.string a0_0); have hcz17_1 := bcv BK817.out 1 (.int .i64 a0_1); have hcz17_2 := bcv BK817.out 2 (.int .i64 a0_2); have hcz17_3 := bcv BK817.out 3 (.int .i64 a0_3); have hcz17_4 := bcv BK817.out 4 (.int .i64 a0_4); have hfz17 := blk_frozen BK817.out)); go_upto_if 24 with (first | ((with_reducible refine gate_dst (N := 3) rfl ?_); refine box_event ?hg (N := 3) ?hd (cs := #[.string a0_0, .int .i64 a0_1, .int .i64 a0_2, .int .i64 a0_3, .int .i64 a0_4]) (t := 80) ?hr ?_; (case hd => rfl); (case hg => rfl); (case hr => first | (go_simp; done) | (go_simp; rfl)); intro gb817 hg w16 hbox hb; have BK817 := Aside0.mk (hbox); have GW817 := Aside0.mk ((by rw [hg]; exact (below_size BA) : w.heap.size ≤ gb817)); have GE817 := Aside0.mk ((by rw [hg]; exact (below_size BA) : w.heap.size ≤ gb817)); replace HB := Aside0.mk (below_step BA hb); clear hb hbox hg; have hcz17_0 := bcv BK817.out 0 (.string a0_0); have hcz17_1 := bcv BK817.out 1 (.int .i64 a0_1); have hcz17_2 := bcv BK817.out 2 (.int .i64 a0_2); have hcz17_3 := bcv BK817.out 3 (.int .i64 a0_3); have hcz17_4 := bcv BK817.out 4 (.int .i64 a0_4); have hfz17 := blk_frozen BK817.out)))
        (try simp only [Act.put, List.setIfInBounds_toArray, List.set_cons_zero, List.set_cons_succ])
        go_cut [24] (fun v24 wc => ∃ (kq : Nat) (x24_14 : Bool), v24 = .bool x24_14 ∧ Aside0 (impl_Instr_word.j0 kq a1 a2 x24_14 a0_0 a0_1 a0_2 a0_3 a0_4 = some r) ∧ Aside0 (kq ≤ k) ∧ Aside0 (wc.heap[gb817]? = some (.cells #[.string a0_0, .int .i64 a0_1, .int .i64 a0_2, .int .i64 a0_3, .int .i64 a0_4] 80 (0, 0))) ∧ Aside0 (Below w.heap.size w wc))
        case first =>
          have H := HC15.out
          clear HC15
          by_cases c18 : a0_0.toList = ([97, 100, 100, 105] : List UInt8)
          · rw [if_pos c18] at H
            have c18b0 := beq_iff_eq.mpr c18
            have c18b1 := bne_eq_false_iff_eq.mpr c18
            clear c18
            (first | rw [c18b0] | (simp only [i64_w, i32_w]; rw [c18b0]) | skip)
            have H' := Aside0.mk H
            clear H
            go_wp2
            repeat (go_quiet (fail); try go_wp2)
            go_meet
            case rel => exact ⟨_, ((a0_0.toList == ([97, 100, 100, 105] : List UInt8))), EQ1, H', ⟨by first | omega | exact Nat.le_refl _⟩, ⟨by (with_reducible repeat (first | refine blk_drewN ?_ _ | refine blk_drew ?_ | refine blk_alloc ?_ _)); exact BK817.out⟩, ⟨BA⟩⟩
          · rw [if_neg c18] at H
            have c18b0 := beq_eq_false_iff_ne.mpr c18
            have c18b1 := bne_iff_ne.mpr c18
            (first | rw [c18b0] | (simp only [i64_w, i32_w]; rw [c18b0]) | skip)
            by_cases c19 : a0_0.toList = ([97, 110, 100, 105] : List UInt8)
            · rw [if_pos c19] at H
              have c19b0 := beq_iff_eq.mpr c19
              have c19b1 := bne_eq_false_iff_eq.mpr c19
              clear c19
              have H' := Aside0.mk H
              clear H
              go_wp2
              repeat (go_quiet (fail); try go_wp2)
              go_meet
              case rel => exact ⟨_, ((a0_0.toList == ([97, 110, 100, 105] : List UInt8))), EQ1, H', ⟨by first | omega | exact Nat.le_refl _⟩, ⟨by (with_reducible repeat (first | refine blk_drewN ?_ _ | refine blk_drew ?_ | refine blk_alloc ?_ _)); exact BK817.out⟩, ⟨BA⟩⟩
            · rw [if_neg c19] at H
              have c19b0 := beq_eq_false_iff_ne.mpr c19
              have c19b1 := bne_iff_ne.mpr c19
              by_cases c20 : a0_0.toList = ([120, 111, 114, 105] : List UInt8)
              · rw [if_pos c20] at H
                have c20b0 := beq_iff_eq.mpr c20
                have c20b1 := bne_eq_false_iff_eq.mpr c20
                clear c20
                have H' := Aside0.mk H
                clear H
                go_wp2
                repeat (go_quiet (fail); try go_wp2)
                go_meet
                case rel => exact ⟨_, ((a0_0.toList == ([120, 111, 114, 105] : List UInt8))), EQ1, H', ⟨by first | omega | exact Nat.le_refl _⟩, ⟨by (with_reducible repeat (first | refine blk_drewN ?_ _ | refine blk_drew ?_ | refine blk_alloc ?_ _)); exact BK817.out⟩, ⟨BA⟩⟩
              · rw [if_neg c20] at H
                have c20b0 := beq_eq_false_iff_ne.mpr c20
                have c20b1 := bne_iff_ne.mpr c20
                by_cases c21 : a0_0.toList = ([115, 104, 108, 105] : List UInt8)
                · rw [if_pos c21] at H
                  have c21b0 := beq_iff_eq.mpr c21
                  have c21b1 := bne_eq_false_iff_eq.mpr c21
                  clear c21
                  have H' := Aside0.mk H
                  clear H
                  go_wp2
                  repeat (go_quiet (fail); try go_wp2)
                  go_meet
                  case rel => exact ⟨_, ((a0_0.toList == ([115, 104, 108, 105] : List UInt8))), EQ1, H', ⟨by first | omega | exact Nat.le_refl _⟩, ⟨by (with_reducible repeat (first | refine blk_drewN ?_ _ | refine blk_drew ?_ | refine blk_alloc ?_ _)); exact BK817.out⟩, ⟨BA⟩⟩
                · rw [if_neg c21] at H
                  have c21b0 := beq_eq_false_iff_ne.mpr c21
                  have c21b1 := bne_iff_ne.mpr c21
                  have H' := Aside0.mk H
                  clear H
                  go_wp2
                  repeat (go_quiet (fail); try go_wp2)
                  go_meet
                  case rel => exact ⟨_, ((a0_0.toList == ([115, 104, 114, 105] : List UInt8))), EQ1, H', ⟨by first | omega | exact Nat.le_refl _⟩, ⟨by (with_reducible repeat (first | refine blk_drewN ?_ _ | refine blk_drew ?_ | refine blk_alloc ?_ _)); exact BK817.out⟩, ⟨BA⟩⟩
        case rest =>
          clear HC15
          (try clear c1); (try clear c2); (try clear p2); (try clear c4); (try clear c4b0); (try clear c4b1); (try clear c7); (try clear c7b0); (try clear c7b1); (try clear c10); (try clear c10b0); (try clear c10b1); (try clear c16); (try clear c18); (try clear c18b0); (try clear c18b1); (try clear c19); (try clear c19b0); (try clear c19b1); (try clear c20); (try clear c20b0); (try clear c20b1); (try clear c21); (try clear c21b0); (try clear c21b1); (try clear hcz14_0); (try clear hcz14_1); (try clear hcz14_2); (try clear hcz14_3); (try clear hcz14_4); (try clear hcz17_0); (try clear hcz17_1); (try clear hcz17_2); (try clear hcz17_3); (try clear hcz17_4); (try clear hcz6_0); (try clear hcz6_1); (try clear hcz6_2); (try clear hcz6_3); (try clear hcz6_4); (try clear hcz9_0); (try clear hcz9_1); (try clear hcz9_2); (try clear hcz9_3); (try clear hcz9_4); (try clear hfz14_0); (try clear hfz14_1); (try clear hfz14_2); (try clear hfz14_3); (try clear hfz14_4); (try clear hfz17_0); (try clear hfz17_1); (try clear hfz17_2); (try clear hfz17_3); (try clear hfz17_4); (try clear hfz6_0); (try clear hfz6_1); (try clear hfz6_2); (try clear hfz6_3); (try clear hfz6_4); (try clear hfz9_0); (try clear hfz9_1); (try clear hfz9_2); (try clear hfz9_3); (try clear hfz9_4)
          obtain ⟨kq, x24_14, rfl, HA, HJ14, BK817, HB⟩ := hcut
          cases kq with
          | zero => exact absurd HA.out (by simp [impl_Instr_word.j0])
          | succ kj14 =>
            have H := HA.out
            clear HA
            simp only [impl_Instr_word.j0] at H
            by_cases c22 : x24_14 = true
            · subst c22
              have H1 : (if 0 ≤ 3 then (if 3 ≤ (a0_0.size : Int) then ((impl_apply.f (a0_0.extract 0 3) a1 a0_4).bind fun t820 => (some t820)) else (none)) else (none)) = some r := by rw [if_pos rfl] at H; exact H
              clear H
              have H := H1
              clear H1
              by_cases c23 : 0 ≤ 3
              · rw [if_pos c23] at H
                have c23b0 := eq_true c23
                have c23b1 := decide_eq_true c23
                clear c23
                by_cases c24 : 3 ≤ (a0_0.size : Int)
                · rw [if_pos c24] at H
                  have c24b0 := eq_true c24
                  have c24b1 := decide_eq_true c24
                  clear c24
                  replace H := Option.bind_eq_some_iff.mp H
                  obtain ⟨t820, A250, H⟩ := H
                  replace H : (some t820) = some r := H
                  have A25 := Aside0.mk A250
                  clear A250
                  obtain rfl := Option.some.inj H
                  have hcz26_0 := bcv BK817.out 0 (.string a0_0)
                  have hcz26_1 := bcv BK817.out 1 (.int .i64 a0_1)
                  have hcz26_2 := bcv BK817.out 2 (.int .i64 a0_2)
                  have hcz26_3 := bcv BK817.out 3 (.int .i64 a0_3)
                  have hcz26_4 := bcv BK817.out 4 (.int .i64 a0_4)
                  have hfz26 := blk_frozen BK817.out
                  have hfz26_1 := blk_frozen BK817.out 1
                  have hfz26_2 := blk_frozen BK817.out 2
                  have hfz26_3 := blk_frozen BK817.out 3
                  have hfz26_4 := blk_frozen BK817.out 4
                  go_wp2_with (first | (go_at_call 163; (with_reducible refine (impl_apply.calls (a0_0.extract 0 3) a1 a0_4 t820 _ A25.out).mono ?_); rintro e w' ⟨rfl, ⟨nd, rfl⟩⟩; (try first | exact ⟨rfl, _, World.drewN_drewN _ _ _⟩ | exact ⟨rfl, _, Eq.trans (World.drewN_drewN _ _ _) (congrArg (World.drewN _) (Nat.add_assoc _ _ _))⟩)))
                  repeat (go_quiet (first | (go_at_call 163; (with_reducible refine (impl_apply.calls (a0_0.extract 0 3) a1 a0_4 t820 _ A25.out).mono ?_); rintro e w' ⟨rfl, ⟨nd, rfl⟩⟩; (try first | exact ⟨rfl, _, World.drewN_drewN _ _ _⟩ | exact ⟨rfl, _, Eq.trans (World.drewN_drewN _ _ _) (congrArg (World.drewN _) (Nat.add_assoc _ _ _))⟩))); try go_wp2_with (first | (go_at_call 163; (with_reducible refine (impl_apply.calls (a0_0.extract 0 3) a1 a0_4 t820 _ A25.out).mono ?_); rintro e w' ⟨rfl, ⟨nd, rfl⟩⟩; (try first | exact ⟨rfl, _, World.drewN_drewN _ _ _⟩ | exact ⟨rfl, _, Eq.trans (World.drewN_drewN _ _ _) (congrArg (World.drewN _) (Nat.add_assoc _ _ _))⟩))))
                  go_ret
                  exact ⟨EQ, BA⟩
                · rw [if_neg c24] at H
                  exact absurd H (by simp)
              · rw [if_neg c23] at H
                exact absurd H (by simp)
            · replace c22 := Bool.eq_false_iff.mpr c22
              subst c22
              have H1 : ((impl_apply.f a0_0 a1 a2).bind fun t821 => (some t821)) = some r := by rw [if_neg (show ¬ (false = true) by decide)] at H; exact H
              clear H
              have H := H1
              clear H1
              replace H := Option.bind_eq_some_iff.mp H
              obtain ⟨t821, A270, H⟩ := H
              replace H : (some t821) = some r := H
              have A27 := Aside0.mk A270
              clear A270
              obtain rfl := Option.some.inj H
              have hcz28_0 := bcv BK817.out 0 (.string a0_0)
              have hcz28_1 := bcv BK817.out 1 (.int .i64 a0_1)
              have hcz28_2 := bcv BK817.out 2 (.int .i64 a0_2)
              have hcz28_3 := bcv BK817.out 3 (.int .i64 a0_3)
              have hcz28_4 := bcv BK817.out 4 (.int .i64 a0_4)
              have hfz28 := blk_frozen BK817.out
              have hfz28_1 := blk_frozen BK817.out 1
              have hfz28_2 := blk_frozen BK817.out 2
              have hfz28_3 := blk_frozen BK817.out 3
              have hfz28_4 := blk_frozen BK817.out 4
              go_wp2_with (first | (go_at_call 163; (with_reducible refine (impl_apply.calls a0_0 a1 a2 t821 _ A27.out).mono ?_); rintro e w' ⟨rfl, ⟨nd, rfl⟩⟩; (try first | exact ⟨rfl, _, World.drewN_drewN _ _ _⟩ | exact ⟨rfl, _, Eq.trans (World.drewN_drewN _ _ _) (congrArg (World.drewN _) (Nat.add_assoc _ _ _))⟩)))
              repeat (go_quiet (first | (go_at_call 163; (with_reducible refine (impl_apply.calls a0_0 a1 a2 t821 _ A27.out).mono ?_); rintro e w' ⟨rfl, ⟨nd, rfl⟩⟩; (try first | exact ⟨rfl, _, World.drewN_drewN _ _ _⟩ | exact ⟨rfl, _, Eq.trans (World.drewN_drewN _ _ _) (congrArg (World.drewN _) (Nat.add_assoc _ _ _))⟩))); try go_wp2_with (first | (go_at_call 163; (with_reducible refine (impl_apply.calls a0_0 a1 a2 t821 _ A27.out).mono ?_); rintro e w' ⟨rfl, ⟨nd, rfl⟩⟩; (try first | exact ⟨rfl, _, World.drewN_drewN _ _ _⟩ | exact ⟨rfl, _, Eq.trans (World.drewN_drewN _ _ _) (congrArg (World.drewN _) (Nat.add_assoc _ _ _))⟩))))
              go_ret
              exact ⟨EQ, BA⟩

/-! ### impl_run: function 143 -/
def impl_run.l0 : Nat → List Int → List (S80) → Int → Int → Option (List Int)
  | 0, _, _, _, _ => none
  | k + 1, x1, x6, x7, x8 => if x8 < x7 then (if 0 ≤ x8 then (if x8 < (x6.length : Int) then (if 0 ≤ ((rd_T80 x6 x8).f2) then (if ((rd_T80 x6 x8).f2) < (x1.length : Int) then (if 0 ≤ ((rd_T80 x6 x8).f3) then (if ((rd_T80 x6 x8).f3) < (x1.length : Int) then ((impl_Instr_word.f k ((rd_T80 x6 x8).f0) ((rd_T80 x6 x8).f1) ((rd_T80 x6 x8).f2) ((rd_T80 x6 x8).f3) ((rd_T80 x6 x8).f4) (rd x1 ((rd_T80 x6 x8).f2)) (rd x1 ((rd_T80 x6 x8).f3))).bind fun t826 => (if 0 ≤ ((rd_T80 x6 x8).f1) then (if ((rd_T80 x6 x8).f1) < (x1.length : Int) then (impl_run.l0 k (x1.set (((rd_T80 x6 x8).f1) : Int).toNat t826) x6 x7 (wrap64 (x8 + 1))) else (none)) else (none))) else (none)) else (none)) else (none)) else (none)) else (none)) else (none)) else (some x1)
def impl_run.f (k : Nat) (l0 : List (S80)) (l1 : List Int) : Option (List Int) := impl_run.l0 k l1 l0 (l0.length : Int) 0
theorem impl_run.mono_l : ∀ k, (∀ y0 y1 y2 y3, LeO (impl_run.l0 k y0 y1 y2 y3) (impl_run.l0 (k + 1) y0 y1 y2 y3))
  | 0 => fun _ _ _ _ r h => by simp [impl_run.l0] at h
  | k + 1 => by
    have ih0 := impl_run.mono_l k
    · intro y0 y1 y2 y3
      unfold impl_run.l0
      repeat' first | (with_reducible first | exact ih0 _ _ _ _ | exact impl_Instr_word.mono _ _ _ _ _ _ _ _ | exact LeO.refl _ | exact LeO.none _ | refine LeO.ite ?_ ?_ | refine LeO.bind ?_ (fun _ => ?_)) | exact LeO.none _ | refine LeO.ite ?_ ?_ | refine LeO.bind ?_ (fun _ => ?_)
theorem impl_run.mono : ∀ a0 a1 k, LeO (impl_run.f k a0 a1) (impl_run.f (k + 1) a0 a1) := by
  intro a0 a1 k
  have ih0 := impl_run.mono_l k
  unfold impl_run.f
  repeat' first | (with_reducible first | exact ih0 _ _ _ _ | exact impl_Instr_word.mono _ _ _ _ _ _ _ _ | exact LeO.refl _ | exact LeO.none _ | refine LeO.ite ?_ ?_ | refine LeO.bind ?_ (fun _ => ?_)) | exact LeO.none _ | refine LeO.ite ?_ ?_ | refine LeO.bind ?_ (fun _ => ?_)
def impl_run.T3 : Bool × List (List Nat × List Nat) := (true, [([], []), ([], []), ([1], [1]), ([], []), ([], []), ([], []), ([5], [5]), ([4, 6], [4, 6]), ([7], [7]), ([], []), ([], []), ([10], [10]), ([9, 11], [9, 11]), ([12], [12]), ([3, 8, 13], [3, 8, 13]), ([0, 2, 0, 1, 2, 3, 4, 5, 6, 7, 8, 9, 10, 11, 12, 13, 14], [0, 2]), ([15, 14, 14, 0, 1, 2, 3, 4, 5, 6, 7, 8, 9, 10, 11, 12, 13, 14], [14, 15])])
def impl_run.B3 : List Nat := [0, 0, 2, 0, 0, 0, 32, 112, 240, 0, 0, 1024, 3584, 7680, 16376, 32767, 65535]
theorem impl_run.tab3 : rtab .any (opsOf Try.f143 3) = impl_run.T3 := by kernel_rfl
theorem impl_run.bits3 : waitsOk impl_run.T3.2 impl_run.B3 = true := by kernel_rfl
set_option maxHeartbeats 8000000 in
set_option maxRecDepth 100000 in
theorem impl_run.calls (k : Nat) (A0 : Option Addr) (c0 : Nat) (l0 : List (S80)) (P1_ : Nat → Prop) (u9000_ : Value) (l1 : List Int) (r : List Int) (w0 w : World) (hB : Below w0.heap.size w0 w) (hr0 : ∀ W_, Kept w W_ (fun k_ => P1_ k_) → Kd.C k80 W_ A0 l0.length l0) (hc0 : l0.length ≤ c0) (ho1 : Kd.R (Kd.int .i64) 3 w w0.heap.size P1_ u9000_ l1) (h : impl_run.f k l0 l1 = some r) :
    Calls Try.prog 143 #[.slice A0 l0.length c0, u9000_] w fun e w' => e = .returned (.tuple #[]) ∧ Kd.R (Kd.int .i64) 3 w' w0.heap.size (fun k_ => (P1_ k_ ∨ w.heap.size ≤ k_)) u9000_ r ∧ Below w0.heap.size w0 w' ∧ Kept w w' (fun k_ => P1_ k_) := by
  have hu80 := Try.underlying80
  have HR0 := Aside0.mk hr0
  have HC0 := Aside0.mk hc0
  clear hr0 hc0
  have HO1 := Aside0.mk (show Kd.R (Kd.int .i64) 3 w w0.heap.size (fun k_ => (P1_ k_ ∨ w.heap.size ≤ k_)) u9000_ l1 from Kd.R_mono ho1 (fun k_ hk => (.inl hk)))
  have HK := Aside0.mk (Kept.refl w (fun k_ => P1_ k_))
  have HW0 := Aside0.mk hB.size
  have HB := Aside0.mk hB
  clear hB
  have H : (impl_run.l0 k l1 l0 (l0.length : Int) 0) = some r := h
  clear h
  have H' := Aside0.mk H
  clear H
  go_enter Try.func143, Try.ntmps143
  go_wp2
  go_loopg [8] k (fun kq v8 w' => ∃ (x1_1 : List Int) (x8_1 : Int), v8 = .int .i64 x8_1 ∧ Aside0 (impl_run.l0 kq x1_1 l0 (l0.length : Int) x8_1 = some r) ∧ Aside0 (kq ≤ k) ∧ Aside0 (Kd.R (Kd.int .i64) 3 w' w0.heap.size (fun k_ => (P1_ k_ ∨ w.heap.size ≤ k_)) u9000_ x1_1) ∧ Aside0 (Kept w w' (fun k_ => P1_ k_)) ∧ Aside0 (Below w0.heap.size w0 w'))
  case atStart => exact ⟨(l1), (0), EQ1, H', ⟨Nat.le_refl _⟩, ⟨by (with_reducible repeat (first | apply Kd.R_alloc | apply Kd.R_drewN | apply Kd.R_drew)); exact HO1.out⟩, ⟨by repeat (first | (with_reducible first | exact HK.out | apply Kept.alloc | apply Kept.drewN | apply Kept.drew) | exact HK.out)⟩, ⟨BA⟩⟩
  case round =>
    clear H'
    (try clear c1); (try clear p2)
    obtain ⟨x1_1, x8_1, rfl, HA, HK1, HO_1, HK, HB⟩ := hrel
    cases gk with
    | zero => exact absurd HA.out (by simp [impl_run.l0])
    | succ k1 =>
      have H := HA.out
      clear HA
      simp only [impl_run.l0] at H
      by_cases c3 : x8_1 < (l0.length : Int)
      · rw [if_pos c3] at H
        have c3b0 := decide_eq_true c3
        clear c3
        by_cases c4 : 0 ≤ x8_1
        · rw [if_pos c4] at H
          have c4b0 := decide_eq_true c4
          clear c4
          by_cases c5 : x8_1 < (l0.length : Int)
          · rw [if_pos c5] at H
            have c5b0 := decide_eq_true c5
            clear c5
            by_cases c6 : 0 ≤ ((rd_T80 l0 x8_1).f2)
            · rw [if_pos c6] at H
              have c6b0 := decide_eq_true c6
              clear c6
              by_cases c7 : ((rd_T80 l0 x8_1).f2) < (x1_1.length : Int)
              · rw [if_pos c7] at H
                have c7b0 := decide_eq_true c7
                clear c7
                by_cases c8 : 0 ≤ ((rd_T80 l0 x8_1).f3)
                · rw [if_pos c8] at H
                  have c8b0 := decide_eq_true c8
                  clear c8
                  by_cases c9 : ((rd_T80 l0 x8_1).f3) < (x1_1.length : Int)
                  · rw [if_pos c9] at H
                    have c9b0 := decide_eq_true c9
                    clear c9
                    replace H := Option.bind_eq_some_iff.mp H
                    obtain ⟨t826, A100, H⟩ := H
                    replace H : (if 0 ≤ ((rd_T80 l0 x8_1).f1) then (if ((rd_T80 l0 x8_1).f1) < (x1_1.length : Int) then (impl_run.l0 k1 (x1_1.set (((rd_T80 l0 x8_1).f1) : Int).toNat t826) l0 (l0.length : Int) (wrap64 (x8_1 + 1))) else (none)) else (none)) = some r := H
                    have A10 := Aside0.mk A100
                    clear A100
                    by_cases c11 : 0 ≤ ((rd_T80 l0 x8_1).f1)
                    · rw [if_pos c11] at H
                      have c11b0 := decide_eq_true c11
                      clear c11
                      by_cases c12 : ((rd_T80 l0 x8_1).f1) < (x1_1.length : Int)
                      · rw [if_pos c12] at H
                        have c12b0 := decide_eq_true c12
                        clear c12
                        obtain ⟨y827, hy827⟩ : ∃ y_ : List Int, y_ = (x1_1.set (((rd_T80 l0 x8_1).f1) : Int).toNat t826) := ⟨_, rfl⟩
                        replace H : (impl_run.l0 k1 y827 l0 (l0.length : Int) (wrap64 (x8_1 + 1))) = some r := by first | (rw [hy827]; with_reducible exact H) | (have H2_ := (Option.bind_some _ _).symm.trans H; rw [hy827]; with_reducible exact H2_) | (have H2_ := (Option.bind_some _ _).symm.trans H; with_reducible exact H2_) | with_reducible exact H | (rw [hy827]; exact H) | exact H
                        have Ny827 := Aside0.mk hy827
                        clear hy827
                        have H' := Aside0.mk H
                        clear H
                        have p822 : 0 ≤ (x8_1 : Int) := DT
                        have q822 : x8_1 < (l0.length : Int) := DT
                        obtain ⟨ad822, e822, hx822_0, hx822_1, hx822_2, hx822_3, hx822_4⟩ := at_T80 (Kd.C_kept_now HR0.out HK.out) x8_1 p822 q822
                        cases e822
                        replace p822 := eq_true p822
                        replace q822 := eq_true q822
                        try go_wp2_with (first | ((with_reducible refine gate_dst (N := 5) rfl ?_); refine box_event ?hg (N := 5) ?hd (cs := #[.string (⟨#[]⟩ : ByteArray), .int .i64 0, .int .i64 0, .int .i64 0, .int .i64 0]) (t := 80) ?hr ?_; (case hd => rfl); (case hg => rfl); (case hr => first | (go_simp; done) | (go_simp; rfl)); intro gb823 hg w14 hbox hb; replace HO_1 := Aside0.mk (Kd.R_below (by (with_reducible repeat (first | apply Kd.R_alloc | apply Kd.R_drewN | apply Kd.R_drew)); exact HO_1.out) hb); have BK823 := Aside0.mk (hbox); have GW823 := Aside0.mk ((by rw [hg]; exact (by first | exact HK.out.1 | exact (show Kept w _ (fun k_ => P1_ k_) from by repeat (first | (with_reducible first | exact HK.out | apply Kept.alloc | apply Kept.drewN | apply Kept.drew) | exact HK.out)).1) : w.heap.size ≤ gb823)); replace HK := Aside0.mk (Kept.below (S := (fun k_ => P1_ k_)) (by repeat (first | (with_reducible first | exact HK.out | apply Kept.alloc | apply Kept.drewN | apply Kept.drew) | exact HK.out)) hb); have GE823 := Aside0.mk ((by rw [hg]; exact (below_size BA) : w0.heap.size ≤ gb823)); replace HB := Aside0.mk (below_step BA hb); clear hb hbox hg; have hcz15_0 := bcv BK823.out 0 (.string (⟨#[]⟩ : ByteArray)); have hcz15_1 := bcv BK823.out 1 (.int .i64 0); have hcz15_2 := bcv BK823.out 2 (.int .i64 0); have hcz15_3 := bcv BK823.out 3 (.int .i64 0); have hcz15_4 := bcv BK823.out 4 (.int .i64 0); have hfz15 := blk_frozen BK823.out))
                        have n0_ : Aside0 (Kd.R (Kd.int .i64) 3 (((((w14.setCell ⟨gb823, 0, none⟩ (.string ((rd_T80 l0 x8_1).f0))).setCell ⟨gb823, 1, none⟩ (.int .i64 ((rd_T80 l0 x8_1).f1))).setCell ⟨gb823, 2, none⟩ (.int .i64 ((rd_T80 l0 x8_1).f2))).setCell ⟨gb823, 3, none⟩ (.int .i64 ((rd_T80 l0 x8_1).f3))).setCell ⟨gb823, 4, none⟩ (.int .i64 ((rd_T80 l0 x8_1).f4))) w0.heap.size (fun k_ => (P1_ k_ ∨ w.heap.size ≤ k_)) u9000_ x1_1) := ⟨by (with_reducible repeat (first | apply Kd.R_alloc | apply Kd.R_drewN | apply Kd.R_drew)); exact Kd.R_mono (Kd.R_far (p := ⟨gb823, 4, none⟩) (Kd.R_far (p := ⟨gb823, 3, none⟩) (Kd.R_far (p := ⟨gb823, 2, none⟩) (Kd.R_far (p := ⟨gb823, 1, none⟩) (Kd.R_far (p := ⟨gb823, 0, none⟩) (Kd.R_types HO_1.out BK823.out (by decide)) (fun _ hk => hk.2) (.string ((rd_T80 l0 x8_1).f0))) (fun _ hk => hk.2) (.int .i64 ((rd_T80 l0 x8_1).f1))) (fun _ hk => hk.2) (.int .i64 ((rd_T80 l0 x8_1).f2))) (fun _ hk => hk.2) (.int .i64 ((rd_T80 l0 x8_1).f3))) (fun _ hk => hk.2) (.int .i64 ((rd_T80 l0 x8_1).f4))) (fun _ hk => hk.1)⟩
                        have n1_ : Aside0 ((((((w14.setCell ⟨gb823, 0, none⟩ (.string ((rd_T80 l0 x8_1).f0))).setCell ⟨gb823, 1, none⟩ (.int .i64 ((rd_T80 l0 x8_1).f1))).setCell ⟨gb823, 2, none⟩ (.int .i64 ((rd_T80 l0 x8_1).f2))).setCell ⟨gb823, 3, none⟩ (.int .i64 ((rd_T80 l0 x8_1).f3))).setCell ⟨gb823, 4, none⟩ (.int .i64 ((rd_T80 l0 x8_1).f4))).heap[gb823]? = some (.cells #[.string ((rd_T80 l0 x8_1).f0), .int .i64 ((rd_T80 l0 x8_1).f1), .int .i64 ((rd_T80 l0 x8_1).f2), .int .i64 ((rd_T80 l0 x8_1).f3), .int .i64 ((rd_T80 l0 x8_1).f4)] 80 (0, 0))) := ⟨by (with_reducible repeat (first | refine blk_drewN ?_ _ | refine blk_drew ?_ | refine blk_alloc ?_ _)); refine blk_put (cs := #[.string ((rd_T80 l0 x8_1).f0), .int .i64 ((rd_T80 l0 x8_1).f1), .int .i64 ((rd_T80 l0 x8_1).f2), .int .i64 ((rd_T80 l0 x8_1).f3), .int .i64 0]) ?_ 4 _ rfl; (with_reducible repeat (first | refine blk_drewN ?_ _ | refine blk_drew ?_ | refine blk_alloc ?_ _)); refine blk_put (cs := #[.string ((rd_T80 l0 x8_1).f0), .int .i64 ((rd_T80 l0 x8_1).f1), .int .i64 ((rd_T80 l0 x8_1).f2), .int .i64 0, .int .i64 0]) ?_ 3 _ rfl; (with_reducible repeat (first | refine blk_drewN ?_ _ | refine blk_drew ?_ | refine blk_alloc ?_ _)); refine blk_put (cs := #[.string ((rd_T80 l0 x8_1).f0), .int .i64 ((rd_T80 l0 x8_1).f1), .int .i64 0, .int .i64 0, .int .i64 0]) ?_ 2 _ rfl; (with_reducible repeat (first | refine blk_drewN ?_ _ | refine blk_drew ?_ | refine blk_alloc ?_ _)); refine blk_put (cs := #[.string ((rd_T80 l0 x8_1).f0), .int .i64 0, .int .i64 0, .int .i64 0, .int .i64 0]) ?_ 1 _ rfl; (with_reducible repeat (first | refine blk_drewN ?_ _ | refine blk_drew ?_ | refine blk_alloc ?_ _)); refine blk_put (cs := #[.string (⟨#[]⟩ : ByteArray), .int .i64 0, .int .i64 0, .int .i64 0, .int .i64 0]) ?_ 0 _ rfl; (with_reducible repeat (first | refine blk_drewN ?_ _ | refine blk_drew ?_ | refine blk_alloc ?_ _)); exact BK823.out⟩
                        have n2_ : Aside0 (Kept w (((((w14.setCell ⟨gb823, 0, none⟩ (.string ((rd_T80 l0 x8_1).f0))).setCell ⟨gb823, 1, none⟩ (.int .i64 ((rd_T80 l0 x8_1).f1))).setCell ⟨gb823, 2, none⟩ (.int .i64 ((rd_T80 l0 x8_1).f2))).setCell ⟨gb823, 3, none⟩ (.int .i64 ((rd_T80 l0 x8_1).f3))).setCell ⟨gb823, 4, none⟩ (.int .i64 ((rd_T80 l0 x8_1).f4))) (fun k_ => P1_ k_)) := ⟨by repeat (first | (with_reducible first | exact HK.out | apply Kept.alloc | apply Kept.drewN | apply Kept.drew | refine Kept.setCell ?_ (.inr GW823.out) _) | exact HK.out)⟩
                        have n3_ : Aside0 (Below w0.heap.size w0 (((((w14.setCell ⟨gb823, 0, none⟩ (.string ((rd_T80 l0 x8_1).f0))).setCell ⟨gb823, 1, none⟩ (.int .i64 ((rd_T80 l0 x8_1).f1))).setCell ⟨gb823, 2, none⟩ (.int .i64 ((rd_T80 l0 x8_1).f2))).setCell ⟨gb823, 3, none⟩ (.int .i64 ((rd_T80 l0 x8_1).f3))).setCell ⟨gb823, 4, none⟩ (.int .i64 ((rd_T80 l0 x8_1).f4)))) := ⟨BA⟩
                        (try clear HO_1)
                        (try clear BK823)
                        (try clear HK)
                        (try clear HB)
                        generalize (((((w14.setCell ⟨gb823, 0, none⟩ (.string ((rd_T80 l0 x8_1).f0))).setCell ⟨gb823, 1, none⟩ (.int .i64 ((rd_T80 l0 x8_1).f1))).setCell ⟨gb823, 2, none⟩ (.int .i64 ((rd_T80 l0 x8_1).f2))).setCell ⟨gb823, 3, none⟩ (.int .i64 ((rd_T80 l0 x8_1).f3))).setCell ⟨gb823, 4, none⟩ (.int .i64 ((rd_T80 l0 x8_1).f4))) = w16 at n0_ n1_ n2_ n3_ ⊢
                        have HO_1 := n0_
                        have BK823 := n1_
                        have HK := n2_
                        have HB := n3_
                        clear n0_ n1_ n2_ n3_
                        have n0_ := Aside0.mk (Kd.R_drew HO_1.out)
                        have n1_ := Aside0.mk (blk_drew BK823.out)
                        have n2_ := Aside0.mk (Kept.drew HK.out)
                        have n3_ := Aside0.mk (below_drew1 HB.out)
                        clear HO_1
                        clear BK823
                        clear HK
                        clear HB
                        have HO_1 := n0_
                        have BK823 := n1_
                        have HK := n2_
                        have HB := n3_
                        clear n0_ n1_ n2_ n3_
                        obtain ⟨Ao18, co18, eo18⟩ := Kd.R_slice HO_1.out
                        (first | subst eo18 | (injection eo18 with f1_ f2_ f3_; have f4_ := f1_.symm; have f5_ := f3_.symm; clear f1_ f2_ f3_; subst f4_; subst f5_))
                        have p824 : 0 ≤ (((rd_T80 l0 x8_1).f2) : Int) := DT
                        have q824 : ((rd_T80 l0 x8_1).f2) < (x1_1.length : Int) := DT
                        obtain ⟨ad824, e824, hx824_0⟩ := Kd.at_int (Kd.R_reads' HO_1.out).2.2 ((rd_T80 l0 x8_1).f2) p824 q824
                        cases e824
                        replace p824 := eq_true p824
                        replace q824 := eq_true q824
                        have p825 : 0 ≤ (((rd_T80 l0 x8_1).f3) : Int) := DT
                        have q825 : ((rd_T80 l0 x8_1).f3) < (x1_1.length : Int) := DT
                        obtain ⟨ad825, e825, hx825_0⟩ := Kd.at_int (Kd.R_reads' HO_1.out).2.2 ((rd_T80 l0 x8_1).f3) p825 q825
                        obtain rfl : ad824 = ad825 := (by injection e825)
                        replace p825 := eq_true p825
                        replace q825 := eq_true q825
                        refine start_ (n := 17) (S := fun w' => w'.cell? ⟨gb823, 0, none⟩ = some (.string ((rd_T80 l0 x8_1).f0)) ∧ w'.cell? ⟨gb823, 1, none⟩ = some (.int .i64 ((rd_T80 l0 x8_1).f1)) ∧ w'.cell? ⟨gb823, 2, none⟩ = some (.int .i64 ((rd_T80 l0 x8_1).f2)) ∧ w'.cell? ⟨gb823, 3, none⟩ = some (.int .i64 ((rd_T80 l0 x8_1).f3)) ∧ w'.cell? ⟨gb823, 4, none⟩ = some (.int .i64 ((rd_T80 l0 x8_1).f4)) ∧ w'.cell? (ad824.add (((rd_T80 l0 x8_1).f2)).toNat) = some (.int .i64 (rd x1_1 ((rd_T80 l0 x8_1).f2))) ∧ w'.cell? (ad824.add (((rd_T80 l0 x8_1).f3)).toNat) = some (.int .i64 (rd x1_1 ((rd_T80 l0 x8_1).f3)))) (ds := [16]) #[false, false, false, false, false, false, false, false, false, false, false, false, false, false, false, false, false] (by kernel_rfl) rfl rfl ⟨(blk_cell BK823.out 0).trans rfl, (blk_cell BK823.out 1).trans rfl, (blk_cell BK823.out 2).trans rfl, (blk_cell BK823.out 3).trans rfl, (blk_cell BK823.out 4).trans rfl, hx824_0, hx825_0⟩ (fun hHeld => ?_); refine with_tabW impl_run.tab3 impl_run.bits3 (fun HT_ HW_ => ?_)
                        generalize w16.drew = w17 at HO_1 BK823 HK HB hx824_0 hx825_0 hHeld ⊢
                        refine pure_ (i := 0) (N := some 12) (v := ?_) (a' := ?_) #[true, false, false, false, false, false, false, false, false, false, false, false, false, false, false, false, false] rfl rfl (any_of HT_.out (by kernel_rfl)) (fun _ _ _ h => h) (Or.inl ⟨by rfl, ?_⟩) ?_ ?_
                        rotate_left
                        · intro w'
                          go_simp
                          with_reducible rfl
                        rotate_left
                        · simp only [Act.put, List.setIfInBounds_toArray, List.set_cons_zero, List.set_cons_succ, i64_w, i32_w]
                          rfl
                        refine pure_ (i := 1) (N := some 13) (v := ?_) (a' := ?_) #[true, true, false, false, false, false, false, false, false, false, false, false, false, false, false, false, false] rfl rfl (any_of HT_.out (by kernel_rfl)) (fun _ _ _ h => h) (Or.inl ⟨by rfl, ?_⟩) ?_ ?_
                        rotate_left
                        · intro w'
                          go_simp
                          with_reducible rfl
                        rotate_left
                        · simp only [Act.put, List.setIfInBounds_toArray, List.set_cons_zero, List.set_cons_succ, i64_w, i32_w]
                          rfl
                        refine pure_ (i := 4) (N := some 16) (v := ?_) (a' := ?_) #[true, true, false, false, true, false, false, false, false, false, false, false, false, false, false, false, false] rfl rfl (any_of HT_.out (by kernel_rfl)) (fun _ _ _ h => h) (Or.inl ⟨by rfl, ?_⟩) ?_ ?_
                        rotate_left
                        · intro w'
                          go_simp
                          with_reducible rfl
                        rotate_left
                        · simp only [Act.put, List.setIfInBounds_toArray, List.set_cons_zero, List.set_cons_succ, i64_w, i32_w]
                          rfl
                        refine pure_ (i := 5) (N := some 17) (v := ?_) (a' := ?_) #[true, true, false, false, true, true, false, false, false, false, false, false, false, false, false, false, false] rfl rfl (any_of HT_.out (by kernel_rfl)) (fun _ _ _ h => h) (Or.inl ⟨by rfl, ?_⟩) ?_ ?_
                        rotate_left
                        · intro w'
                          go_simp
                          with_reducible rfl
                        rotate_left
                        · simp only [Act.put, List.setIfInBounds_toArray, List.set_cons_zero, List.set_cons_succ, i64_w, i32_w]
                          rfl
                        refine pure_ (i := 9) (N := some 21) (v := ?_) (a' := ?_) #[true, true, false, false, true, true, false, false, false, true, false, false, false, false, false, false, false] rfl rfl (any_of HT_.out (by kernel_rfl)) (fun _ _ _ h => h) (Or.inl ⟨by rfl, ?_⟩) ?_ ?_
                        rotate_left
                        · intro w'
                          go_simp
                          with_reducible rfl
                        rotate_left
                        · simp only [Act.put, List.setIfInBounds_toArray, List.set_cons_zero, List.set_cons_succ, i64_w, i32_w]
                          rfl
                        refine pure_ (i := 10) (N := some 22) (v := ?_) (a' := ?_) #[true, true, false, false, true, true, false, false, false, true, true, false, false, false, false, false, false] rfl rfl (any_of HT_.out (by kernel_rfl)) (fun _ _ _ h => h) (Or.inl ⟨by rfl, ?_⟩) ?_ ?_
                        rotate_left
                        · intro w'
                          go_simp
                          with_reducible rfl
                        rotate_left
                        · simp only [Act.put, List.setIfInBounds_toArray, List.set_cons_zero, List.set_cons_succ, i64_w, i32_w]
                          rfl
                        refine take_ (i := 2) (N := some 14) (v := ?_) (a' := ?_) #[true, true, true, false, true, true, false, false, false, true, true, false, false, false, false, false, false] rfl rfl (take_ofW HT_.out HW_.out (by kernel_rfl)) (fun _ _ _ h => h) (Or.inl ⟨by rfl, ?_⟩) hHeld ?_ ?_
                        rotate_left
                        · rintro w' ⟨s0, s1, s2, s3, s4, s5, s6⟩
                          go_simp
                          with_reducible rfl
                        rotate_left
                        · simp only [Act.put, List.setIfInBounds_toArray, List.set_cons_zero, List.set_cons_succ, i64_w, i32_w]
                          rfl
                        refine take_ (i := 3) (N := some 15) (v := ?_) (a' := ?_) #[true, true, true, true, true, true, false, false, false, true, true, false, false, false, false, false, false] rfl rfl (take_ofW HT_.out HW_.out (by kernel_rfl)) (fun _ _ _ h => h) (Or.inl ⟨by rfl, ?_⟩) hHeld ?_ ?_
                        rotate_left
                        · rintro w' ⟨s0, s1, s2, s3, s4, s5, s6⟩
                          go_simp
                          with_reducible rfl
                        rotate_left
                        · simp only [Act.put, List.setIfInBounds_toArray, List.set_cons_zero, List.set_cons_succ, i64_w, i32_w]
                          rfl
                        refine take_ (i := 6) (N := some 18) (v := ?_) (a' := ?_) #[true, true, true, true, true, true, true, false, false, true, true, false, false, false, false, false, false] rfl rfl (take_ofW HT_.out HW_.out (by kernel_rfl)) (fun _ _ _ h => h) (Or.inl ⟨by rfl, ?_⟩) hHeld ?_ ?_
                        rotate_left
                        · rintro w' ⟨s0, s1, s2, s3, s4, s5, s6⟩
                          go_simp
                          with_reducible rfl
                        rotate_left
                        · simp only [Act.put, List.setIfInBounds_toArray, List.set_cons_zero, List.set_cons_succ, i64_w, i32_w]
                          rfl
                        refine pure_ (i := 7) (N := some 19) (v := ?_) (a' := ?_) #[true, true, true, true, true, true, true, true, false, true, true, false, false, false, false, false, false] rfl rfl (any_of HT_.out (by kernel_rfl)) (fun _ _ _ h => h) (Or.inl ⟨by rfl, ?_⟩) ?_ ?_
                        rotate_left
                        · intro w'
                          go_simp
                          with_reducible rfl
                        rotate_left
                        · simp only [Act.put, List.setIfInBounds_toArray, List.set_cons_zero, List.set_cons_succ, i64_w, i32_w]
                          rfl
                        refine take_ (i := 8) (N := some 20) (v := ?_) (a' := ?_) #[true, true, true, true, true, true, true, true, true, true, true, false, false, false, false, false, false] rfl rfl (take_ofW HT_.out HW_.out (by kernel_rfl)) (fun _ _ _ h => h) (Or.inl ⟨by rfl, ?_⟩) hHeld ?_ ?_
                        rotate_left
                        · rintro w' ⟨s0, s1, s2, s3, s4, s5, s6⟩
                          go_simp
                          with_reducible rfl
                        rotate_left
                        · simp only [Act.put, List.setIfInBounds_toArray, List.set_cons_zero, List.set_cons_succ, i64_w, i32_w]
                          rfl
                        refine take_ (i := 11) (N := some 23) (v := ?_) (a' := ?_) #[true, true, true, true, true, true, true, true, true, true, true, true, false, false, false, false, false] rfl rfl (take_ofW HT_.out HW_.out (by kernel_rfl)) (fun _ _ _ h => h) (Or.inl ⟨by rfl, ?_⟩) hHeld ?_ ?_
                        rotate_left
                        · rintro w' ⟨s0, s1, s2, s3, s4, s5, s6⟩
                          go_simp
                          with_reducible rfl
                        rotate_left
                        · simp only [Act.put, List.setIfInBounds_toArray, List.set_cons_zero, List.set_cons_succ, i64_w, i32_w]
                          rfl
                        refine pure_ (i := 12) (N := some 24) (v := ?_) (a' := ?_) #[true, true, true, true, true, true, true, true, true, true, true, true, true, false, false, false, false] rfl rfl (any_of HT_.out (by kernel_rfl)) (fun _ _ _ h => h) (Or.inl ⟨by rfl, ?_⟩) ?_ ?_
                        rotate_left
                        · intro w'
                          go_simp
                          with_reducible rfl
                        rotate_left
                        · simp only [Act.put, List.setIfInBounds_toArray, List.set_cons_zero, List.set_cons_succ, i64_w, i32_w]
                          rfl
                        refine take_ (i := 13) (N := some 25) (v := ?_) (a' := ?_) #[true, true, true, true, true, true, true, true, true, true, true, true, true, true, false, false, false] rfl rfl (take_ofW HT_.out HW_.out (by kernel_rfl)) (fun _ _ _ h => h) (Or.inl ⟨by rfl, ?_⟩) hHeld ?_ ?_
                        rotate_left
                        · rintro w' ⟨s0, s1, s2, s3, s4, s5, s6⟩
                          go_simp
                          with_reducible rfl
                        rotate_left
                        · simp only [Act.put, List.setIfInBounds_toArray, List.set_cons_zero, List.set_cons_succ, i64_w, i32_w]
                          rfl
                        refine one_ (i := 14) (N := some 26) #[true, true, true, true, true, true, true, true, true, true, true, true, true, true, true, false, false] rfl rfl (one_of HT_.out (by kernel_rfl)) (by decide) (fun K hK => ?_)
                        refine goes_ Try.func164 (by kernel_rfl) rfl #[.agg #[.string ((rd_T80 l0 x8_1).f0), .int .i64 ((rd_T80 l0 x8_1).f1), .int .i64 ((rd_T80 l0 x8_1).f2), .int .i64 ((rd_T80 l0 x8_1).f3), .int .i64 ((rd_T80 l0 x8_1).f4)], .int .i64 (rd x1_1 ((rd_T80 l0 x8_1).f2)), .int .i64 (rd x1_1 ((rd_T80 l0 x8_1).f3))] (by rfl) rfl rfl (by (try simp only [List.map_toArray, List.map_cons, List.map_nil]); first | done | rfl | (simp only [List.length_drop, List.length_take]; rfl)) ?_
                        with_reducible refine (impl_Instr_word.calls k1 ((rd_T80 l0 x8_1).f0) ((rd_T80 l0 x8_1).f1) ((rd_T80 l0 x8_1).f2) ((rd_T80 l0 x8_1).f3) ((rd_T80 l0 x8_1).f4) (rd x1_1 ((rd_T80 l0 x8_1).f2)) (rd x1_1 ((rd_T80 l0 x8_1).f3)) t826 _ A10.out).mono ?_
                        rintro e w19 ⟨rfl, hb⟩
                        have HS5_ := (hb.cell (World.block_lt_of_cell? _ _ (hHeld.2.2.2.2.2.1))).trans (hHeld.2.2.2.2.2.1)
                        have HS6_ := (hb.cell (World.block_lt_of_cell? _ _ (hHeld.2.2.2.2.2.2))).trans (hHeld.2.2.2.2.2.2)
                        refine ⟨_, rfl, ?_⟩
                        have n0_ := Aside0.mk (Kd.R_below (by (with_reducible repeat (first | apply Kd.R_alloc | apply Kd.R_drewN | apply Kd.R_drew)); exact HO_1.out) hb)
                        have n1_ := Aside0.mk (blk_below (bk BK823.out) hb)
                        have n2_ := Aside0.mk (Kept.below (S := (fun k_ => P1_ k_)) (by repeat (first | (with_reducible first | exact HK.out | apply Kept.alloc | apply Kept.drewN | apply Kept.drew | refine Kept.setCell ?_ (.inr GW823.out) _) | exact HK.out)) hb)
                        have n3_ := Aside0.mk (below_step BA hb)
                        clear HO_1
                        clear BK823
                        clear HK
                        clear HB
                        have HO_1 := n0_
                        have BK823 := n1_
                        have HK := n2_
                        have HB := n3_
                        clear n0_ n1_ n2_ n3_
                        (try clear hb)
                        (try clear hb2)
                        (try clear hk)
                        (try clear hi)
                        have p13 : 0 ≤ (((rd_T80 l0 x8_1).f1) : Int) := DT
                        have q13 : (((rd_T80 l0 x8_1).f1) : Int) < ((x1_1.length : Int) : Int) := DT
                        obtain ⟨go13, co13, eo13, gb13, gl13, cl13, HG13⟩ := Kd.R_form HO_1.out (by omega)
                        (first | cases eo13 | (injection eo13 with ea_ en_ ec_; (first | subst ea_ | (injection ea_ with ea_; subst ea_)); subst ec_; clear en_))
                        have GB13 := Aside0.mk gb13
                        have GG13 := Aside0.mk HG13
                        clear gb13 gl13 HG13
                        have HMgo13 := Aside0.mk (show (P1_ go13 ∨ w.heap.size ≤ go13) from (HO_1.out.1 _ rfl))
                        (first | simp only [add_plain] at hx824_0 | skip)
                        (first | simp only [add_plain] at hx825_0 | skip)
                        obtain ⟨hx13_0, hf13_0⟩ := Kd.R_celln 0 HO_1.out (((rd_T80 l0 x8_1).f1) : Int) p13 q13
                        replace p13 := eq_true p13
                        replace q13 := eq_true q13
                        have HP20 := Kd.R_putn HO_1.out (((rd_T80 l0 x8_1).f1) : Int) t826
                        rw [← Ny827.out] at HP20
                        have HQ20 := Aside0.mk HP20
                        clear HP20
                        refine hK.out _ _ ⟨(blk_cell BK823.out 0).trans rfl, (blk_cell BK823.out 1).trans rfl, (blk_cell BK823.out 2).trans rfl, (blk_cell BK823.out 3).trans rfl, (blk_cell BK823.out 4).trans rfl, HS5_, HS6_⟩ (fun hHeld => ?_)
                        clear hK K
                        refine norm_ (a' := ?_) ?_ ?_
                        rotate_left
                        · show Act.put _ (some 26) _ = _
                          simp only [Act.put, List.setIfInBounds_toArray, List.set_cons_zero, List.set_cons_succ, i64_w, i32_w]
                          rfl
                        refine pure_ (i := 15) (N := some 27) (v := ?_) (a' := ?_) #[true, true, true, true, true, true, true, true, true, true, true, true, true, true, true, true, false] rfl rfl (any_of HT_.out (by kernel_rfl)) (fun _ _ _ h => h) (Or.inl ⟨by rfl, ?_⟩) ?_ ?_
                        rotate_left
                        · intro w'
                          go_simp
                          with_reducible rfl
                        rotate_left
                        · simp only [Act.put, List.setIfInBounds_toArray, List.set_cons_zero, List.set_cons_succ, i64_w, i32_w]
                          rfl
                        refine last_ (i := 16) (N := none) #[true, true, true, true, true, true, true, true, true, true, true, true, true, true, true, true, true] rfl rfl (one_of HT_.out (by kernel_rfl)) (by decide) (fun K hK => ?_)
                        refine skip_ (w1 := ?_) (by rfl) rfl ?_ ?_
                        rotate_left
                        · go_simp
                          rfl
                        refine hK.out _ _ ?_
                        clear hK K
                        refine done_ (done_of HT_.out (by kernel_rfl)) ?_
                        try go_wp2
                        go_roundg k1
                        case measure => have := HK1.out; omega
                        case rel => exact ⟨(y827), (wrap64 (x8_1 + 1)), EQ1, H', ⟨by have := HK1.out; omega⟩, ⟨by (with_reducible repeat (first | apply Kd.R_alloc | apply Kd.R_drewN | apply Kd.R_drew)); exact HQ20.out⟩, ⟨by repeat (first | (with_reducible first | exact HK.out | apply Kept.alloc | apply Kept.drewN | apply Kept.drew | refine Kept.setCell ?_ HMgo13.out _ | refine Kept.setCell ?_ (.inr GW823.out) _) | exact HK.out)⟩, ⟨by repeat (first | (with_reducible first | exact HB.out | apply below_alloc | apply pw_below_drewN | apply below_drew1 | refine below_set ?_ GB13.out | refine below_set ?_ GE823.out) | exact HB.out)⟩⟩
                      · rw [if_neg c12] at H
                        exact absurd H (by simp)
                    · rw [if_neg c11] at H
                      exact absurd H (by simp)
                  · rw [if_neg c9] at H
                    exact absurd H (by simp)
                · rw [if_neg c8] at H
                  exact absurd H (by simp)
              · rw [if_neg c7] at H
                exact absurd H (by simp)
            · rw [if_neg c6] at H
              exact absurd H (by simp)
          · rw [if_neg c5] at H
            exact absurd H (by simp)
        · rw [if_neg c4] at H
          exact absurd H (by simp)
      · rw [if_neg c3] at H
        have c3b0 := decide_eq_false c3
        clear c3
        obtain rfl := Option.some.inj H
        go_wp2
        first | go_end0 | ((try simp only [Exit.inBlock, Exit.then]); refine bodyPost_ret (results_none rfl _ _ _) rfl ?_)
        exact ⟨EQ, by (with_reducible repeat (first | apply Kd.R_alloc | apply Kd.R_drewN | apply Kd.R_drew)); exact HO_1.out, BA, by repeat (first | (with_reducible first | exact HK.out | apply Kept.alloc | apply Kept.drewN | apply Kept.drew) | exact HK.out)⟩

/-! ### impl_result: function 105 -/
def impl_result.f (k : Nat) (l0 : List (S80)) (a1 : Int) (a2 : Int) : Option (List Int) := if 6 ≤ 35184372088832 then ((some (List.replicate 6 0 : List Int)).bind fun y828 => (if 0 < (y828.length : Int) then (if 1 < (y828.length : Int) then ((impl_run.f k l0 ((y828.set (0 : Int).toNat a1).set (1 : Int).toNat a2)).bind fun t833 => (some t833)) else (none)) else (none))) else (none)
theorem impl_result.mono : ∀ a0 a1 a2 k, LeO (impl_result.f k a0 a1 a2) (impl_result.f (k + 1) a0 a1 a2) := by
  intro a0 a1 a2 k
  unfold impl_result.f
  repeat' first | (with_reducible first | exact impl_run.mono _ _ _ | exact LeO.refl _ | exact LeO.none _ | refine LeO.ite ?_ ?_ | refine LeO.bind ?_ (fun _ => ?_)) | exact LeO.none _ | refine LeO.ite ?_ ?_ | refine LeO.bind ?_ (fun _ => ?_)
set_option maxHeartbeats 8000000 in
set_option maxRecDepth 100000 in
theorem impl_result.calls (k : Nat) (A0 : Option Addr) (c0 : Nat) (l0 : List (S80)) (a1 : Int) (a2 : Int) (r : List Int) (w : World) (hr0 : Kd.C k80 w A0 l0.length l0) (hc0 : l0.length ≤ c0) (h : impl_result.f k l0 a1 a2 = some r) :
    Calls Try.prog 105 #[.slice A0 l0.length c0, .int .i64 a1, .int .i64 a2] w fun e w' => ∃ v0_ : Value, e = .returned (v0_) ∧ Kd.R (Kd.int .i64) 3 w' w.heap.size (fun _ => True) v0_ r ∧ Below w.heap.size w w' := by
  have HR0 := Aside0.mk hr0
  have HC0 := Aside0.mk hc0
  clear hr0 hc0
  have HB := Aside0.mk (Below.refl w.heap.size w)
  have H : (if 6 ≤ 35184372088832 then ((some (List.replicate 6 0 : List Int)).bind fun y828 => (if 0 < (y828.length : Int) then (if 1 < (y828.length : Int) then ((impl_run.f k l0 ((y828.set (0 : Int).toNat a1).set (1 : Int).toNat a2)).bind fun t833 => (some t833)) else (none)) else (none))) else (none)) = some r := h
  clear h
  by_cases c4 : 6 ≤ 35184372088832
  · rw [if_pos c4] at H
    have c4b0 := eq_true c4
    have c4b1 := decide_eq_true c4
    clear c4
    obtain ⟨y828, hy828⟩ : ∃ y_ : List Int, y_ = (List.replicate 6 0) := ⟨_, rfl⟩
    replace H : (if 0 < (y828.length : Int) then (if 1 < (y828.length : Int) then ((impl_run.f k l0 ((y828.set (0 : Int).toNat a1).set (1 : Int).toNat a2)).bind fun t833 => (some t833)) else (none)) else (none)) = some r := by first | (rw [hy828]; with_reducible exact H) | (have H2_ := (Option.bind_some _ _).symm.trans H; rw [hy828]; with_reducible exact H2_) | (have H2_ := (Option.bind_some _ _).symm.trans H; with_reducible exact H2_) | with_reducible exact H | (rw [hy828]; exact H) | exact H
    have Ny828 := Aside0.mk hy828
    clear hy828
    by_cases c5 : 0 < (y828.length : Int)
    · rw [if_pos c5] at H
      have c5b0 := decide_eq_true c5
      have c5b1 : decide (0 < y828.length) = true := decide_eq_true (by omega)
      clear c5
      obtain ⟨y831, hy831⟩ : ∃ y_ : List Int, y_ = (y828.set (0 : Int).toNat a1) := ⟨_, rfl⟩
      replace H : (if 1 < (y828.length : Int) then ((impl_run.f k l0 (y831.set (1 : Int).toNat a2)).bind fun t833 => (some t833)) else (none)) = some r := by first | (rw [hy831]; with_reducible exact H) | (have H2_ := (Option.bind_some _ _).symm.trans H; rw [hy831]; with_reducible exact H2_) | (have H2_ := (Option.bind_some _ _).symm.trans H; with_reducible exact H2_) | with_reducible exact H | (rw [hy831]; exact H) | exact H
      have Ny831 := Aside0.mk hy831
      clear hy831
      by_cases c7 : 1 < (y828.length : Int)
      · rw [if_pos c7] at H
        have c7b0 := decide_eq_true c7
        have c7b1 : decide (1 < y828.length) = true := decide_eq_true (by omega)
        clear c7
        obtain ⟨y832, hy832⟩ : ∃ y_ : List Int, y_ = (y831.set (1 : Int).toNat a2) := ⟨_, rfl⟩
        replace H : ((impl_run.f k l0 y832).bind fun t833 => (some t833)) = some r := by first | (rw [hy832]; with_reducible exact H) | (have H2_ := (Option.bind_some _ _).symm.trans H; rw [hy832]; with_reducible exact H2_) | (have H2_ := (Option.bind_some _ _).symm.trans H; with_reducible exact H2_) | with_reducible exact H | (rw [hy832]; exact H) | exact H
        have Ny832 := Aside0.mk hy832
        clear hy832
        replace H := Option.bind_eq_some_iff.mp H
        obtain ⟨t833, A90, H⟩ := H
        replace H : (some t833) = some r := H
        have A9 := Aside0.mk A90
        clear A90
        obtain rfl := Option.some.inj H
        go_enter Try.func105, Try.ntmps105
        go_wp2_with (first | ((with_reducible refine gate_dst (N := 8) rfl ?_); refine Kd.R_make (Kd.int .i64) _ 3 rfl (N := 8) rfl 34 _ _ rfl 6 rfl rfl Try.underlying34 (.int .i64 0) 8 info3 rfl (by decide) (by omega) 0 (ok := fun _ => True) (okp := fun _ => True) rfl (fun _ hk => hk) trivial (by omega) (by omega) (Below.refl _ _) (Nat.le_refl _) ?_; intro v829 w10 ho11 hb hg_ hnew_; clear hg_ hnew_; (first | rw [← Ny828.out] at ho11 | (simp only [Int.reduceToNat] at ho11; rw [← Ny828.out] at ho11)); have HO830 := Aside0.mk (Kd.R_lower ho11 (below_size BA)); replace HB := Aside0.mk (below_step BA hb); clear hb ho11; have p6 : 0 ≤ (0 : Int) := (by omega); have q6 : (0 : Int) < ((y828.length : Int) : Int) := DT; have qi6 : (0 < y828.length) = True := eq_true (by omega); obtain ⟨go6, co6, eo6, gb6, gl6, cl6, HG6⟩ := Kd.R_form HO830.out (by omega); (first | cases eo6 | (injection eo6 with ea_ en_ ec_; (first | subst ea_ | (injection ea_ with ea_; subst ea_)); subst ec_; clear en_)); have GB6 := Aside0.mk gb6; have GG6 := Aside0.mk HG6; clear gb6 gl6 HG6; obtain ⟨hx6_0, hf6_0⟩ := Kd.R_celln 0 HO830.out (0 : Int) p6 q6; (try rw [show ((0 : Int)).toNat = 0 from rfl] at hx6_0); (try simp only [Nat.reduceMul, Nat.zero_mul, Nat.zero_add, Nat.reduceAdd] at hx6_0); (try rw [show ((0 : Int)).toNat = 0 from rfl] at hf6_0); (try simp only [Nat.reduceMul, Nat.zero_mul, Nat.zero_add, Nat.reduceAdd] at hf6_0); replace p6 := eq_true p6; replace q6 := eq_true q6; obtain ⟨hy12_, hz12_⟩ := Kd.R_celln 0 HO830.out (0 : Int) (by omega) DT; (try simp only [Int.reduceToNat, Int.toNat_zero, Int.toNat_ofNat, Nat.reduceMul, Nat.zero_mul, Nat.zero_add] at hy12_ hz12_); (try rw [show ((0 : Int)).toNat = 0 from rfl] at hy12_); (try rw [show ((0 : Int)).toNat = 0 from rfl] at hz12_); have HP12 := Kd.R_putg HO830.out (0 : Int) a1) | ((with_reducible refine gate_store (t := 3) (p := 13) rfl ?_); refine store_event (t := 3) (p := 13) (v := ?vo_w13) (w1 := (w10.setCell ⟨go6, (0 : Int).toNat, none⟩ (.int .i64 a1))) ?hg ?ho ?hn ?hr ?_; (case ho => rfl); (case hg => rfl); (case hn => rfl); (case hr => first | (go_simp; done) | (go_simp; rfl)); intro w13 hw; have hg : w10.grownBy w13 (some go6) := (by rw [hw]; exact HP12.2); have hp_ : Kd.R (Kd.int .i64) 3 w13 w.heap.size (fun _ => True) (.slice (some ⟨go6, 0, none⟩) y828.length co6) y831 := (by rw [hw, Ny831.out]; exact HP12.1); clear HP12; replace HO830 := Aside0.mk (hp_); replace HB := Aside0.mk ((by rw [hw]; exact below_set (HB.out) GB6.out : Below w.heap.size w w13)); clear hg hw hp_; have p8 : 0 ≤ (1 : Int) := (by omega); have q8 : (1 : Int) < ((y828.length : Int) : Int) := DT; have qi8 : (1 < y828.length) = True := eq_true (by omega); obtain ⟨hx8_0, hf8_0⟩ := Kd.R_celln 0 HO830.out (1 : Int) p8 q8; (try rw [show ((1 : Int)).toNat = 1 from rfl] at hx8_0); (try simp only [Nat.reduceMul, Nat.zero_mul, Nat.zero_add, Nat.reduceAdd] at hx8_0); (try rw [show ((1 : Int)).toNat = 1 from rfl] at hf8_0); (try simp only [Nat.reduceMul, Nat.zero_mul, Nat.zero_add, Nat.reduceAdd] at hf8_0); replace p8 := eq_true p8; replace q8 := eq_true q8; obtain ⟨hy14_, hz14_⟩ := Kd.R_celln 0 HO830.out (1 : Int) (by omega) DT; (try simp only [Int.reduceToNat, Int.toNat_zero, Int.toNat_ofNat, Nat.reduceMul, Nat.zero_mul, Nat.zero_add] at hy14_ hz14_); (try rw [show ((1 : Int)).toNat = 1 from rfl] at hy14_); (try rw [show ((1 : Int)).toNat = 1 from rfl] at hz14_); have HP14 := Kd.R_putg HO830.out (1 : Int) a2) | ((with_reducible refine gate_store (t := 3) (p := 14) rfl ?_); refine store_event (t := 3) (p := 14) (v := ?vo_w15) (w1 := (w13.setCell ⟨go6, (1 : Int).toNat, none⟩ (.int .i64 a2))) ?hg ?ho ?hn ?hr ?_; (case ho => rfl); (case hg => rfl); (case hn => rfl); (case hr => first | (go_simp; done) | (go_simp; rfl)); intro w15 hw; have hg : w13.grownBy w15 (some go6) := (by rw [hw]; exact HP14.2); have hp_ : Kd.R (Kd.int .i64) 3 w15 w.heap.size (fun _ => True) (.slice (some ⟨go6, 0, none⟩) y828.length co6) y832 := (by rw [hw, Ny832.out]; exact HP14.1); clear HP14; replace HO830 := Aside0.mk (hp_); replace HB := Aside0.mk ((by rw [hw]; exact below_set (HB.out) GB6.out : Below w.heap.size w w15)); clear hg hw hp_) | ((with_reducible refine gate_callee (f := 143) rfl ?_); refine gK (some 17) Try.func143 #[.slice A0 l0.length c0, .slice (some ⟨go6, 0, none⟩) y828.length co6] rfl rfl rfl ?_; (with_reducible refine (impl_run.calls k _ _ l0 (fun k_ => some k_ = (.slice (some ⟨go6, 0, none⟩) y828.length co6 : Value).ownBlock) (.slice (some ⟨go6, 0, none⟩) y828.length co6) y832 t833 w _ ?side1 ?side2 ?side3 ?side4 A9.out).mono ?_); (case side1 => repeat (first | (with_reducible first | exact HB.out | apply below_alloc | apply pw_below_drewN | apply below_drew1) | exact HB.out)); (case side2 => exact Kd.C_kept_came k80_heap HR0.out BA (fun k_ hs_ => (fun e_ => Kd.R_base HO830.out k_ e_.symm) hs_)); (case side3 => exact HC0.out); (case side4 => exact Kd.R_tight rfl HO830.out); rintro e w16 ⟨rfl, hy0, hb, hkp⟩; refine ⟨_, rfl, ?_⟩; replace HO830 := Aside0.mk (Kd.R_reok rfl hy0 (fun k_ e_ => HO830.out.1 k_ e_)); replace HB := Aside0.mk (hb); (try clear hb); (try clear hkp); (try clear hy0)))
        go_ret
        exact ⟨_, EQ, by (with_reducible repeat (first | apply Kd.R_alloc | apply Kd.R_drewN | apply Kd.R_drew)); exact HO830.out, BA⟩
      · rw [if_neg c7] at H
        exact absurd H (by simp)
    · rw [if_neg c5] at H
      exact absurd H (by simp)
  · rw [if_neg c4] at H
    exact absurd H (by simp)

/-! ### impl_DifferenceOf: function 48 -/
mutual
def impl_DifferenceOf.j0 : Nat → List (S104) → List (S80) → Int → Bool → Option (Int × Int × Bool)
  | 0, _, _, _, _ => none
  | k + 1, x0, x1, x2, x24 => if x24 = true then (some (0, 0, false)) else (impl_DifferenceOf.l0 k x0 x1 x2 0)
def impl_DifferenceOf.l0 : Nat → List (S104) → List (S80) → Int → Int → Option (Int × Int × Bool)
  | 0, _, _, _, _ => none
  | k + 1, x0, x1, x2, x25 => if x25 < 4096 then ((impl_inputsAt.f x25).bind fun bt837 => ((impl_eval.f k x0 bt837.1 bt837.2).bind fun t839 => ((impl_result.f k x1 bt837.1 bt837.2).bind fun t840 => (if 0 ≤ x2 then (if x2 < (t840.length : Int) then (if t839 = (rd t840 x2) then (impl_DifferenceOf.l0 k x0 x1 x2 (wrap64 (x25 + 1))) else (some (bt837.1, bt837.2, true))) else (none)) else (none))))) else (some (0, 0, false))
end
def impl_DifferenceOf.f (k : Nat) (l0 : List (S104)) (l1 : List (S80)) (a2 : Int) : Option (Int × Int × Bool) := (impl_IsExpr.f k l0).bind fun t834 => (if t834 = true then ((impl_IsCode.f k l1).bind fun t835 => (if t835 = true then ((impl_isRegister.f a2).bind fun t836 => (impl_DifferenceOf.j0 k l0 l1 a2 (!t836))) else (impl_DifferenceOf.j0 k l0 l1 a2 true))) else (impl_DifferenceOf.j0 k l0 l1 a2 true))
theorem impl_DifferenceOf.mono_l : ∀ k, (∀ y0 y1 y2 y3, LeO (impl_DifferenceOf.j0 k y0 y1 y2 y3) (impl_DifferenceOf.j0 (k + 1) y0 y1 y2 y3)) ∧ (∀ y0 y1 y2 y3, LeO (impl_DifferenceOf.l0 k y0 y1 y2 y3) (impl_DifferenceOf.l0 (k + 1) y0 y1 y2 y3))
  | 0 => ⟨fun _ _ _ _ r h => by simp [impl_DifferenceOf.j0] at h, fun _ _ _ _ r h => by simp [impl_DifferenceOf.l0] at h⟩
  | k + 1 => by
    obtain ⟨ih0, ih1⟩ := impl_DifferenceOf.mono_l k
    refine ⟨?_, ?_⟩
    · intro y0 y1 y2 y3
      unfold impl_DifferenceOf.j0
      repeat' first | (with_reducible first | exact ih0 _ _ _ _ | exact ih1 _ _ _ _ | exact impl_IsCode.mono _ _ | exact impl_IsExpr.mono _ _ | exact impl_eval.mono _ _ _ _ | exact impl_result.mono _ _ _ _ | exact LeO.refl _ | exact LeO.none _ | refine LeO.ite ?_ ?_ | refine LeO.bind ?_ (fun _ => ?_)) | exact LeO.none _ | refine LeO.ite ?_ ?_ | refine LeO.bind ?_ (fun _ => ?_)
    · intro y0 y1 y2 y3
      unfold impl_DifferenceOf.l0
      repeat' first | (with_reducible first | exact ih0 _ _ _ _ | exact ih1 _ _ _ _ | exact impl_IsCode.mono _ _ | exact impl_IsExpr.mono _ _ | exact impl_eval.mono _ _ _ _ | exact impl_result.mono _ _ _ _ | exact LeO.refl _ | exact LeO.none _ | refine LeO.ite ?_ ?_ | refine LeO.bind ?_ (fun _ => ?_)) | exact LeO.none _ | refine LeO.ite ?_ ?_ | refine LeO.bind ?_ (fun _ => ?_)
theorem impl_DifferenceOf.mono : ∀ a0 a1 a2 k, LeO (impl_DifferenceOf.f k a0 a1 a2) (impl_DifferenceOf.f (k + 1) a0 a1 a2) := by
  intro a0 a1 a2 k
  obtain ⟨ih0, ih1⟩ := impl_DifferenceOf.mono_l k
  unfold impl_DifferenceOf.f
  repeat' first | (with_reducible first | exact ih0 _ _ _ _ | exact ih1 _ _ _ _ | exact impl_IsCode.mono _ _ | exact impl_IsExpr.mono _ _ | exact impl_eval.mono _ _ _ _ | exact impl_result.mono _ _ _ _ | exact LeO.refl _ | exact LeO.none _ | refine LeO.ite ?_ ?_ | refine LeO.bind ?_ (fun _ => ?_)) | exact LeO.none _ | refine LeO.ite ?_ ?_ | refine LeO.bind ?_ (fun _ => ?_)
set_option maxHeartbeats 8000000 in
set_option maxRecDepth 100000 in
theorem impl_DifferenceOf.calls (k : Nat) (A0 : Option Addr) (c0 : Nat) (l0 : List (S104)) (A1 : Option Addr) (c1 : Nat) (l1 : List (S80)) (a2 : Int) (r1 : Int) (r2 : Int) (r3 : Bool) (w : World) (hr0 : Kd.C k104 w A0 l0.length l0) (hc0 : l0.length ≤ c0) (hr1 : Kd.C k80 w A1 l1.length l1) (hc1 : l1.length ≤ c1) (h : impl_DifferenceOf.f k l0 l1 a2 = some (r1, r2, r3)) :
    Calls Try.prog 48 #[.slice A0 l0.length c0, .slice A1 l1.length c1, .int .i64 a2] w fun e w' => e = .returned (.tuple #[.int .i64 r1, .int .i64 r2, .bool r3]) ∧ Below w.heap.size w w' := by
  have HR0 := Aside0.mk hr0
  have HC0 := Aside0.mk hc0
  clear hr0 hc0
  have HR1 := Aside0.mk hr1
  have HC1 := Aside0.mk hc1
  clear hr1 hc1
  have HB := Aside0.mk (Below.refl w.heap.size w)
  have H : ((impl_IsExpr.f k l0).bind fun t834 => (if t834 = true then ((impl_IsCode.f k l1).bind fun t835 => (if t835 = true then ((impl_isRegister.f a2).bind fun t836 => (impl_DifferenceOf.j0 k l0 l1 a2 (!t836))) else (impl_DifferenceOf.j0 k l0 l1 a2 true))) else (impl_DifferenceOf.j0 k l0 l1 a2 true))) = some (r1, r2, r3) := h
  clear h
  have HC4 := Aside0.mk H
  clear H
  go_enter Try.func48, Try.ntmps48
  go_upto_region 1 with (fail)
  go_cut [24] (fun v24 wc => ∃ (kq : Nat) (x24_3 : Bool), v24 = .bool x24_3 ∧ Aside0 (impl_DifferenceOf.j0 kq l0 l1 a2 x24_3 = some (r1, r2, r3)) ∧ Aside0 (kq ≤ k) ∧ Aside0 (Below w.heap.size w wc))
  case first =>
    have H := HC4.out
    clear HC4
    replace H := Option.bind_eq_some_iff.mp H
    obtain ⟨t834, A50, H⟩ := H
    replace H : (if t834 = true then ((impl_IsCode.f k l1).bind fun t835 => (if t835 = true then ((impl_isRegister.f a2).bind fun t836 => (impl_DifferenceOf.j0 k l0 l1 a2 (!t836))) else (impl_DifferenceOf.j0 k l0 l1 a2 true))) else (impl_DifferenceOf.j0 k l0 l1 a2 true)) = some (r1, r2, r3) := H
    have A5 := Aside0.mk A50
    clear A50
    by_cases c6 : t834 = true
    · subst c6
      have H1 : ((impl_IsCode.f k l1).bind fun t835 => (if t835 = true then ((impl_isRegister.f a2).bind fun t836 => (impl_DifferenceOf.j0 k l0 l1 a2 (!t836))) else (impl_DifferenceOf.j0 k l0 l1 a2 true))) = some (r1, r2, r3) := by rw [if_pos rfl] at H; exact H
      clear H
      have H := H1
      clear H1
      replace H := Option.bind_eq_some_iff.mp H
      obtain ⟨t835, A70, H⟩ := H
      replace H : (if t835 = true then ((impl_isRegister.f a2).bind fun t836 => (impl_DifferenceOf.j0 k l0 l1 a2 (!t836))) else (impl_DifferenceOf.j0 k l0 l1 a2 true)) = some (r1, r2, r3) := H
      have A7 := Aside0.mk A70
      clear A70
      by_cases c8 : t835 = true
      · subst c8
        have H1 : ((impl_isRegister.f a2).bind fun t836 => (impl_DifferenceOf.j0 k l0 l1 a2 (!t836))) = some (r1, r2, r3) := by rw [if_pos rfl] at H; exact H
        clear H
        have H := H1
        clear H1
        replace H := Option.bind_eq_some_iff.mp H
        obtain ⟨t836, A90, H⟩ := H
        replace H : (impl_DifferenceOf.j0 k l0 l1 a2 (!t836)) = some (r1, r2, r3) := H
        have A9 := Aside0.mk A90
        clear A90
        have H' := Aside0.mk H
        clear H
        go_wp2_with (first | ((with_reducible refine gate_callee (f := 83) rfl ?_); refine gK (some 13) Try.func83 #[.slice A0 l0.length c0] rfl rfl rfl ?_; (with_reducible refine (impl_IsExpr.calls k _ _ l0 true _ ?side1 ?side2 A5.out).mono ?_); (case side1 => exact cb (Kd.C_below HR0.out HB.out)); (case side2 => exact HC0.out); rintro e w10 ⟨rfl, hb⟩; refine ⟨_, rfl, ?_⟩; replace HB := Aside0.mk (below_step BA hb); (try clear hb)) | (go_at_call 63; (with_reducible refine (impl_IsCode.calls k _ _ l1 true _ ?side1 ?side2 A7.out).mono ?_); (case side1 => exact cb (Kd.C_below HR1.out HB.out)); (case side2 => exact HC1.out); rintro e w11 ⟨rfl, hb⟩; replace HB := Aside0.mk (below_step BA hb); (try clear hb)) | (go_at_call 102; (with_reducible refine (impl_isRegister.calls a2 t836 _ A9.out).mono ?_); rintro e w' ⟨rfl, ⟨nd, rfl⟩⟩))
        go_meet
        case rel => exact ⟨_, (!t836), EQ1, H', ⟨by first | omega | exact Nat.le_refl _⟩, ⟨BA⟩⟩
      · replace c8 := Bool.eq_false_iff.mpr c8
        subst c8
        have H1 : (impl_DifferenceOf.j0 k l0 l1 a2 true) = some (r1, r2, r3) := by rw [if_neg (show ¬ (false = true) by decide)] at H; exact H
        clear H
        have H := H1
        clear H1
        have H' := Aside0.mk H
        clear H
        go_wp2_with (first | ((with_reducible refine gate_callee (f := 83) rfl ?_); refine gK (some 13) Try.func83 #[.slice A0 l0.length c0] rfl rfl rfl ?_; (with_reducible refine (impl_IsExpr.calls k _ _ l0 true _ ?side1 ?side2 A5.out).mono ?_); (case side1 => exact cb (Kd.C_below HR0.out HB.out)); (case side2 => exact HC0.out); rintro e w12 ⟨rfl, hb⟩; refine ⟨_, rfl, ?_⟩; replace HB := Aside0.mk (below_step BA hb); (try clear hb)) | (go_at_call 63; (with_reducible refine (impl_IsCode.calls k _ _ l1 false _ ?side1 ?side2 A7.out).mono ?_); (case side1 => exact cb (Kd.C_below HR1.out HB.out)); (case side2 => exact HC1.out); rintro e w13 ⟨rfl, hb⟩; replace HB := Aside0.mk (below_step BA hb); (try clear hb)))
        go_meet
        case rel => exact ⟨_, (true), EQ1, H', ⟨by first | omega | exact Nat.le_refl _⟩, ⟨BA⟩⟩
    · replace c6 := Bool.eq_false_iff.mpr c6
      subst c6
      have H1 : (impl_DifferenceOf.j0 k l0 l1 a2 true) = some (r1, r2, r3) := by rw [if_neg (show ¬ (false = true) by decide)] at H; exact H
      clear H
      have H := H1
      clear H1
      have H' := Aside0.mk H
      clear H
      go_wp2_with (first | ((with_reducible refine gate_callee (f := 83) rfl ?_); refine gK (some 13) Try.func83 #[.slice A0 l0.length c0] rfl rfl rfl ?_; (with_reducible refine (impl_IsExpr.calls k _ _ l0 false _ ?side1 ?side2 A5.out).mono ?_); (case side1 => exact cb (Kd.C_below HR0.out HB.out)); (case side2 => exact HC0.out); rintro e w14 ⟨rfl, hb⟩; refine ⟨_, rfl, ?_⟩; replace HB := Aside0.mk (below_step BA hb); (try clear hb)))
      go_meet
      case rel => exact ⟨_, (true), EQ1, H', ⟨by first | omega | exact Nat.le_refl _⟩, ⟨BA⟩⟩
  case rest =>
    clear HC4
    (try clear c1); (try clear p2); (try clear c4); (try clear c6); (try clear c8)
    obtain ⟨kq, x24_3, rfl, HA, HJ3, HB⟩ := hcut
    cases kq with
    | zero => exact absurd HA.out (by simp [impl_DifferenceOf.j0])
    | succ kj3 =>
      have H := HA.out
      clear HA
      simp only [impl_DifferenceOf.j0] at H
      by_cases c15 : x24_3 = true
      · subst c15
        have H1 : (some (0, 0, false)) = some (r1, r2, r3) := by rw [if_pos rfl] at H; exact H
        clear H
        have H := H1
        clear H1
        simp only [Option.some.injEq, Prod.mk.injEq] at H
        obtain ⟨rfl, rfl, rfl⟩ := H
        go_wp2
        go_ret3
        exact ⟨EQ, BA⟩
      · replace c15 := Bool.eq_false_iff.mpr c15
        subst c15
        have H1 : (impl_DifferenceOf.l0 kj3 l0 l1 a2 0) = some (r1, r2, r3) := by rw [if_neg (show ¬ (false = true) by decide)] at H; exact H
        clear H
        have H := H1
        clear H1
        have H' := Aside0.mk H
        clear H
        go_wp2
        go_loopg [25] kj3 (fun kq v25 w' => ∃ (x25_2 : Int), v25 = .int .i64 x25_2 ∧ Aside0 (impl_DifferenceOf.l0 kq l0 l1 a2 x25_2 = some (r1, r2, r3)) ∧ Aside0 (kq ≤ kj3) ∧ Aside0 (Below w.heap.size w w'))
        case atStart => exact ⟨(0), EQ1, H', ⟨Nat.le_refl _⟩, ⟨BA⟩⟩
        case round =>
          clear H'
          (try clear c1); (try clear p2); (try clear c4); (try clear c6); (try clear c8); (try clear c15); (try clear p2)
          obtain ⟨x25_2, rfl, HA, HK2, HB⟩ := hrel
          cases gk with
          | zero => exact absurd HA.out (by simp [impl_DifferenceOf.l0])
          | succ k2 =>
            have H := HA.out
            clear HA
            simp only [impl_DifferenceOf.l0] at H
            by_cases c16 : x25_2 < 4096
            · rw [if_pos c16] at H
              have c16b0 := decide_eq_true c16
              clear c16
              replace H := Option.bind_eq_some_iff.mp H
              obtain ⟨⟨t837, t838⟩, A170, H⟩ := H
              replace H : ((impl_eval.f k2 l0 t837 t838).bind fun t839 => ((impl_result.f k2 l1 t837 t838).bind fun t840 => (if 0 ≤ a2 then (if a2 < (t840.length : Int) then (if t839 = (rd t840 a2) then (impl_DifferenceOf.l0 k2 l0 l1 a2 (wrap64 (x25_2 + 1))) else (some (t837, t838, true))) else (none)) else (none)))) = some (r1, r2, r3) := H
              have A17 := Aside0.mk A170
              clear A170
              replace H := Option.bind_eq_some_iff.mp H
              obtain ⟨t839, A180, H⟩ := H
              replace H : ((impl_result.f k2 l1 t837 t838).bind fun t840 => (if 0 ≤ a2 then (if a2 < (t840.length : Int) then (if t839 = (rd t840 a2) then (impl_DifferenceOf.l0 k2 l0 l1 a2 (wrap64 (x25_2 + 1))) else (some (t837, t838, true))) else (none)) else (none))) = some (r1, r2, r3) := H
              have A18 := Aside0.mk A180
              clear A180
              replace H := Option.bind_eq_some_iff.mp H
              obtain ⟨t840, A190, H⟩ := H
              replace H : (if 0 ≤ a2 then (if a2 < (t840.length : Int) then (if t839 = (rd t840 a2) then (impl_DifferenceOf.l0 k2 l0 l1 a2 (wrap64 (x25_2 + 1))) else (some (t837, t838, true))) else (none)) else (none)) = some (r1, r2, r3) := H
              have A19 := Aside0.mk A190
              clear A190
              by_cases c20 : 0 ≤ a2
              · rw [if_pos c20] at H
                have c20b0 := decide_eq_true c20
                clear c20
                by_cases c21 : a2 < (t840.length : Int)
                · rw [if_pos c21] at H
                  have c21b0 := decide_eq_true c21
                  clear c21
                  by_cases c22 : t839 = (rd t840 a2)
                  · rw [if_pos c22] at H
                    have c22b0 := beq_iff_eq.mpr c22
                    have c22b1 := bne_eq_false_iff_eq.mpr c22
                    clear c22
                    have H' := Aside0.mk H
                    clear H
                    go_wp2_with (first | ((with_reducible refine gate_callee (f := 103) rfl ?_); refine gK (some 30) Try.func103 #[.int .i64 x25_2] rfl rfl rfl ?_; (with_reducible refine (impl_inputsAt.calls x25_2 t837 t838 _ A17.out).mono ?_); rintro e w' ⟨rfl, ⟨nd, rfl⟩⟩; refine ⟨_, rfl, ?_⟩) | ((with_reducible refine gate_callee (f := 104) rfl ?_); refine gK (some 36) Try.func104 #[.slice A0 l0.length c0, .int .i64 t837, .int .i64 t838] rfl rfl rfl ?_; (with_reducible refine (impl_eval.calls k2 _ _ l0 t837 t838 t839 _ ?side1 ?side2 A18.out).mono ?_); (case side1 => exact cb (Kd.C_below HR0.out BA)); (case side2 => exact HC0.out); rintro e w23 ⟨rfl, hb⟩; refine ⟨_, rfl, ?_⟩; replace HB := Aside0.mk (below_step BA hb); (try clear hb)) | ((with_reducible refine gate_callee (f := 105) rfl ?_); refine gK (some 40) Try.func105 #[.slice A1 l1.length c1, .int .i64 t837, .int .i64 t838] rfl rfl rfl ?_; (with_reducible refine (impl_result.calls k2 _ _ l1 t837 t838 t840 _ ?side1 ?side2 A19.out).mono ?_); (case side1 => exact cb (Kd.C_below HR1.out HB.out)); (case side2 => exact HC1.out); rintro e w24 ⟨v841, rfl, ho0, hb⟩; refine ⟨_, rfl, ?_⟩; have HO842 := Aside0.mk (Kd.R_lower ho0 (below_size BA)); replace HB := Aside0.mk (below_step BA hb); (try clear hb); (try clear ho0); obtain ⟨Ao25, co25, eo25⟩ := Kd.R_slice HO842.out; subst eo25; have p843 : 0 ≤ (a2 : Int) := DT; have q843 : a2 < (t840.length : Int) := DT; obtain ⟨ad843, e843, hx843_0⟩ := Kd.at_int (Kd.R_reads' HO842.out).2.2 a2 p843 q843; cases e843; replace p843 := eq_true p843; replace q843 := eq_true q843))
                    go_roundg k2
                    case measure => have := HJ3.out; have := HK2.out; omega
                    case rel => exact ⟨(wrap64 (x25_2 + 1)), EQ1, H', ⟨by have := HJ3.out; have := HK2.out; omega⟩, ⟨BA⟩⟩
                  · rw [if_neg c22] at H
                    have c22b0 := beq_eq_false_iff_ne.mpr c22
                    have c22b1 := bne_iff_ne.mpr c22
                    simp only [Option.some.injEq, Prod.mk.injEq] at H
                    obtain ⟨rfl, rfl, rfl⟩ := H
                    go_wp2_with (first | ((with_reducible refine gate_callee (f := 103) rfl ?_); refine gK (some 30) Try.func103 #[.int .i64 x25_2] rfl rfl rfl ?_; (with_reducible refine (impl_inputsAt.calls x25_2 t837 t838 _ A17.out).mono ?_); rintro e w' ⟨rfl, ⟨nd, rfl⟩⟩; refine ⟨_, rfl, ?_⟩) | ((with_reducible refine gate_callee (f := 104) rfl ?_); refine gK (some 36) Try.func104 #[.slice A0 l0.length c0, .int .i64 t837, .int .i64 t838] rfl rfl rfl ?_; (with_reducible refine (impl_eval.calls k2 _ _ l0 t837 t838 t839 _ ?side1 ?side2 A18.out).mono ?_); (case side1 => exact cb (Kd.C_below HR0.out BA)); (case side2 => exact HC0.out); rintro e w26 ⟨rfl, hb⟩; refine ⟨_, rfl, ?_⟩; replace HB := Aside0.mk (below_step BA hb); (try clear hb)) | ((with_reducible refine gate_callee (f := 105) rfl ?_); refine gK (some 40) Try.func105 #[.slice A1 l1.length c1, .int .i64 t837, .int .i64 t838] rfl rfl rfl ?_; (with_reducible refine (impl_result.calls k2 _ _ l1 t837 t838 t840 _ ?side1 ?side2 A19.out).mono ?_); (case side1 => exact cb (Kd.C_below HR1.out HB.out)); (case side2 => exact HC1.out); rintro e w27 ⟨v841, rfl, ho0, hb⟩; refine ⟨_, rfl, ?_⟩; have HO842 := Aside0.mk (Kd.R_lower ho0 (below_size BA)); replace HB := Aside0.mk (below_step BA hb); (try clear hb); (try clear ho0); obtain ⟨Ao28, co28, eo28⟩ := Kd.R_slice HO842.out; subst eo28; have p843 : 0 ≤ (a2 : Int) := DT; have q843 : a2 < (t840.length : Int) := DT; obtain ⟨ad843, e843, hx843_0⟩ := Kd.at_int (Kd.R_reads' HO842.out).2.2 a2 p843 q843; cases e843; replace p843 := eq_true p843; replace q843 := eq_true q843))
                    go_ret3
                    exact ⟨EQ, BA⟩
                · rw [if_neg c21] at H
                  exact absurd H (by simp)
              · rw [if_neg c20] at H
                exact absurd H (by simp)
            · rw [if_neg c16] at H
              have c16b0 := decide_eq_false c16
              clear c16
              simp only [Option.some.injEq, Prod.mk.injEq] at H
              obtain ⟨rfl, rfl, rfl⟩ := H
              go_wp2
              go_ret3
              exact ⟨EQ, BA⟩

end Go.Proofs.Ytefipbekabmncaa.Pa
