-- Made by this session's program gen.py over the translation.
import Derived.Test.YtefipbekabmncaaPa0
import Derived.Test.YtefipbekabmncaaPa8
namespace Go.Proofs.Ytefipbekabmncaa.Pa
open Go.RowKit Go.Proofs.YtefipbekabmncaaW.PrintWords Go.Proofs.YtefipbekabmncaaW.PrintLast Go.Proofs.YtefipbekabmncaaW.PrintMore
attribute [local go_sem] max2_int min2_int max_two min_two max_three min_three max_four min_four   -- for this text's walks alone
set_option linter.unusedVariables false
set_option linter.unusedSimpArgs false

/-! ### spec_l1Put: function 61 -/
def spec_l1Put.l0 : Nat → List Int → Int → Int → Option (List Int)
  | 0, _, _, _ => none
  | k + 1, x0, x1, x5 => if x5 < (x0.length : Int) then (if 0 ≤ x5 then (if (rd x0 x5) < x1 then (spec_l1Put.l0 k x0 x1 (wrap64 (x5 + 1))) else (if (rd x0 x5) = x1 then (some x0) else ((some (([] : List Int) : List Int)).bind fun y145 => (if x5 ≤ (x0.length : Int) then ((some (x0.take (x5 : Int).toNat : List Int)).bind fun y148 => (if y145.length + y148.length < 17592186044416 then ((some (y145 ++ y148 : List Int)).bind fun y152 => (if y152.length < 17592186044416 then ((some (y152 ++ [x1] : List Int)).bind fun y155 => ((some (x0.drop (x5 : Int).toNat : List Int)).bind fun y158 => (if y155.length + y158.length < 17592186044416 then (some (y155 ++ y158)) else (none)))) else (none))) else (none))) else (none))))) else (none)) else ((some (([] : List Int) : List Int)).bind fun y165 => (if 0 ≤ x5 then (if x5 ≤ (x0.length : Int) then ((some (x0.take (x5 : Int).toNat : List Int)).bind fun y168 => (if y165.length + y168.length < 17592186044416 then ((some (y165 ++ y168 : List Int)).bind fun y172 => (if y172.length < 17592186044416 then ((some (y172 ++ [x1] : List Int)).bind fun y175 => ((some (x0.drop (x5 : Int).toNat : List Int)).bind fun y178 => (if y175.length + y178.length < 17592186044416 then (some (y175 ++ y178)) else (none)))) else (none))) else (none))) else (none)) else (none)))
def spec_l1Put.f (k : Nat) (l0 : List Int) (a1 : Int) : Option (List Int) := spec_l1Put.l0 k l0 a1 0
theorem spec_l1Put.mono_l : ∀ k, (∀ y0 y1 y2, LeO (spec_l1Put.l0 k y0 y1 y2) (spec_l1Put.l0 (k + 1) y0 y1 y2))
  | 0 => fun _ _ _ r h => by simp [spec_l1Put.l0] at h
  | k + 1 => by
    have ih0 := spec_l1Put.mono_l k
    · intro y0 y1 y2
      unfold spec_l1Put.l0
      repeat' first | (with_reducible first | exact ih0 _ _ _ | exact LeO.refl _ | exact LeO.none _ | refine LeO.ite ?_ ?_ | refine LeO.bind ?_ (fun _ => ?_)) | exact LeO.none _ | refine LeO.ite ?_ ?_ | refine LeO.bind ?_ (fun _ => ?_)
theorem spec_l1Put.mono : ∀ a0 a1 k, LeO (spec_l1Put.f k a0 a1) (spec_l1Put.f (k + 1) a0 a1) := by
  intro a0 a1 k
  have ih0 := spec_l1Put.mono_l k
  unfold spec_l1Put.f
  repeat' first | (with_reducible first | exact ih0 _ _ _ | exact LeO.refl _ | exact LeO.none _ | refine LeO.ite ?_ ?_ | refine LeO.bind ?_ (fun _ => ?_)) | exact LeO.none _ | refine LeO.ite ?_ ?_ | refine LeO.bind ?_ (fun _ => ?_)
set_option maxHeartbeats 8000000 in
set_option maxRecDepth 100000 in
theorem spec_l1Put.calls (k : Nat) (P0_ : Nat → Prop) (u9000_ : Value) (l0 : List Int) (a1 : Int) (r : List Int) (w0 w : World) (hB : Below w0.heap.size w0 w) (ho0 : Kd.R (Kd.int .i64) 3 w w0.heap.size P0_ u9000_ l0) (h : spec_l1Put.f k l0 a1 = some r) :
    Calls Try.prog 61 #[u9000_, .int .i64 a1] w fun e w' => ∃ v0_ : Value, e = .returned (v0_) ∧ Kd.R (Kd.int .i64) 3 w' w0.heap.size (fun k_ => (P0_ k_ ∨ w.heap.size ≤ k_)) v0_ r ∧ Below w0.heap.size w0 w' ∧ Kept w w' (fun k_ => P0_ k_) := by
  have HO0 := Aside0.mk (show Kd.R (Kd.int .i64) 3 w w0.heap.size (fun k_ => (P0_ k_ ∨ w.heap.size ≤ k_)) u9000_ l0 from Kd.R_mono ho0 (fun k_ hk => (.inl hk)))
  have HK := Aside0.mk (Kept.refl w (fun k_ => P0_ k_))
  have HW0 := Aside0.mk hB.size
  have HB := Aside0.mk hB
  clear hB
  have H : (spec_l1Put.l0 k l0 a1 0) = some r := h
  clear h
  have H' := Aside0.mk H
  clear H
  go_enter Try.func61, Try.ntmps61
  go_wp2
  go_loopg [5] k (fun kq v5 w' => ∃ (x5_1 : Int), v5 = .int .i64 x5_1 ∧ Aside0 (spec_l1Put.l0 kq l0 a1 x5_1 = some r) ∧ Aside0 (kq ≤ k) ∧ Aside0 (Kd.R (Kd.int .i64) 3 w' w0.heap.size (fun k_ => (P0_ k_ ∨ w.heap.size ≤ k_)) u9000_ l0) ∧ Aside0 (Kept w w' (fun k_ => P0_ k_)) ∧ Aside0 (Below w0.heap.size w0 w'))
  case atStart => exact ⟨(0), EQ1, H', ⟨Nat.le_refl _⟩, ⟨by (with_reducible repeat (first | apply Kd.R_alloc | apply Kd.R_drewN | apply Kd.R_drew)); exact HO0.out⟩, ⟨by repeat (first | (with_reducible first | exact HK.out | apply Kept.alloc | apply Kept.drewN | apply Kept.drew) | exact HK.out)⟩, ⟨BA⟩⟩
  case round =>
    clear H'
    (try clear p2)
    obtain ⟨x5_1, rfl, HA, HK1, HO_0, HK, HB⟩ := hrel
    cases gk with
    | zero => exact absurd HA.out (by simp [spec_l1Put.l0])
    | succ k1 =>
      have H := HA.out
      clear HA
      simp only [spec_l1Put.l0] at H
      by_cases c3 : x5_1 < (l0.length : Int)
      · rw [if_pos c3] at H
        have c3b0 := decide_eq_true c3
        clear c3
        by_cases c4 : 0 ≤ x5_1
        · rw [if_pos c4] at H
          have c4b0 := decide_eq_true c4
          clear c4
          by_cases c5 : (rd l0 x5_1) < a1
          · rw [if_pos c5] at H
            have c5b0 := decide_eq_true c5
            clear c5
            have H' := Aside0.mk H
            clear H
            obtain ⟨Ao6, co6, eo6⟩ := Kd.R_slice HO_0.out
            subst eo6
            have p143 : 0 ≤ (x5_1 : Int) := DT
            have q143 : x5_1 < (l0.length : Int) := DT
            obtain ⟨ad143, e143, hx143_0⟩ := Kd.at_int (Kd.R_reads' HO_0.out).2.2 x5_1 p143 q143
            cases e143
            replace p143 := eq_true p143
            replace q143 := eq_true q143
            go_wp2
            go_roundg k1
            case measure => have := HK1.out; omega
            case rel => exact ⟨(wrap64 (x5_1 + 1)), EQ1, H', ⟨by have := HK1.out; omega⟩, ⟨by (with_reducible repeat (first | apply Kd.R_alloc | apply Kd.R_drewN | apply Kd.R_drew)); exact HO_0.out⟩, ⟨by repeat (first | (with_reducible first | exact HK.out | apply Kept.alloc | apply Kept.drewN | apply Kept.drew) | exact HK.out)⟩, ⟨BA⟩⟩
          · rw [if_neg c5] at H
            have c5b0 := decide_eq_false c5
            clear c5
            by_cases c7 : (rd l0 x5_1) = a1
            · rw [if_pos c7] at H
              have c7b0 := beq_iff_eq.mpr c7
              have c7b1 := bne_eq_false_iff_eq.mpr c7
              clear c7
              obtain rfl := Option.some.inj H
              obtain ⟨Ao8, co8, eo8⟩ := Kd.R_slice HO_0.out
              subst eo8
              have p143 : 0 ≤ (x5_1 : Int) := DT
              have q143 : x5_1 < (l0.length : Int) := DT
              obtain ⟨ad143, e143, hx143_0⟩ := Kd.at_int (Kd.R_reads' HO_0.out).2.2 x5_1 p143 q143
              cases e143
              replace p143 := eq_true p143
              replace q143 := eq_true q143
              have p144 : 0 ≤ (x5_1 : Int) := DT
              have q144 : x5_1 < (l0.length : Int) := DT
              obtain ⟨ad144, e144, hx144_0⟩ := Kd.at_int (Kd.R_reads' HO_0.out).2.2 x5_1 p144 q144
              obtain rfl : ad143 = ad144 := (by injection e144)
              replace p144 := eq_true p144
              replace q144 := eq_true q144
              go_wp2
              go_ret
              exact ⟨_, EQ, by (with_reducible repeat (first | apply Kd.R_alloc | apply Kd.R_drewN | apply Kd.R_drew)); exact HO_0.out, BA, by repeat (first | (with_reducible first | exact HK.out | apply Kept.alloc | apply Kept.drewN | apply Kept.drew) | exact HK.out)⟩
            · rw [if_neg c7] at H
              have c7b0 := beq_eq_false_iff_ne.mpr c7
              have c7b1 := bne_iff_ne.mpr c7
              obtain ⟨y145, hy145⟩ : ∃ y_ : List Int, y_ = (([] : List Int)) := ⟨_, rfl⟩
              replace H : (if x5_1 ≤ (l0.length : Int) then ((some (l0.take (x5_1 : Int).toNat : List Int)).bind fun y148 => (if y145.length + y148.length < 17592186044416 then ((some (y145 ++ y148 : List Int)).bind fun y152 => (if y152.length < 17592186044416 then ((some (y152 ++ [a1] : List Int)).bind fun y155 => ((some (l0.drop (x5_1 : Int).toNat : List Int)).bind fun y158 => (if y155.length + y158.length < 17592186044416 then (some (y155 ++ y158)) else (none)))) else (none))) else (none))) else (none)) = some r := by first | (rw [hy145]; with_reducible exact H) | (have H2_ := (Option.bind_some _ _).symm.trans H; rw [hy145]; with_reducible exact H2_) | (have H2_ := (Option.bind_some _ _).symm.trans H; with_reducible exact H2_) | with_reducible exact H | (rw [hy145]; exact H) | exact H
              have Ny145 := Aside0.mk hy145
              clear hy145
              have c9b0 := eq_true (DT : 0 ≤ x5_1)
              by_cases c10 : x5_1 ≤ (l0.length : Int)
              · rw [if_pos c10] at H
                have c10b0 := eq_true c10
                have c10b1 := decide_eq_true c10
                clear c10
                obtain ⟨y148, hy148⟩ : ∃ y_ : List Int, y_ = (l0.take (x5_1 : Int).toNat) := ⟨_, rfl⟩
                replace H : (if y145.length + y148.length < 17592186044416 then ((some (y145 ++ y148 : List Int)).bind fun y152 => (if y152.length < 17592186044416 then ((some (y152 ++ [a1] : List Int)).bind fun y155 => ((some (l0.drop (x5_1 : Int).toNat : List Int)).bind fun y158 => (if y155.length + y158.length < 17592186044416 then (some (y155 ++ y158)) else (none)))) else (none))) else (none)) = some r := by first | (rw [hy148]; with_reducible exact H) | (have H2_ := (Option.bind_some _ _).symm.trans H; rw [hy148]; with_reducible exact H2_) | (have H2_ := (Option.bind_some _ _).symm.trans H; with_reducible exact H2_) | with_reducible exact H | (rw [hy148]; exact H) | exact H
                have Ny148 := Aside0.mk hy148
                clear hy148
                by_cases c11 : y145.length + y148.length < 17592186044416
                · rw [if_pos c11] at H
                  have LMc11 := Aside0.mk c11
                  clear c11
                  obtain ⟨y152, hy152⟩ : ∃ y_ : List Int, y_ = (y145 ++ y148) := ⟨_, rfl⟩
                  replace H : (if y152.length < 17592186044416 then ((some (y152 ++ [a1] : List Int)).bind fun y155 => ((some (l0.drop (x5_1 : Int).toNat : List Int)).bind fun y158 => (if y155.length + y158.length < 17592186044416 then (some (y155 ++ y158)) else (none)))) else (none)) = some r := by first | (rw [hy152]; with_reducible exact H) | (have H2_ := (Option.bind_some _ _).symm.trans H; rw [hy152]; with_reducible exact H2_) | (have H2_ := (Option.bind_some _ _).symm.trans H; with_reducible exact H2_) | with_reducible exact H | (rw [hy152]; exact H) | exact H
                  have Ny152 := Aside0.mk hy152
                  clear hy152
                  by_cases c12 : y152.length < 17592186044416
                  · rw [if_pos c12] at H
                    have LMc12 := Aside0.mk c12
                    clear c12
                    obtain ⟨y155, hy155⟩ : ∃ y_ : List Int, y_ = (y152 ++ [a1]) := ⟨_, rfl⟩
                    replace H : ((some (l0.drop (x5_1 : Int).toNat : List Int)).bind fun y158 => (if y155.length + y158.length < 17592186044416 then (some (y155 ++ y158)) else (none))) = some r := by first | (rw [hy155]; with_reducible exact H) | (have H2_ := (Option.bind_some _ _).symm.trans H; rw [hy155]; with_reducible exact H2_) | (have H2_ := (Option.bind_some _ _).symm.trans H; with_reducible exact H2_) | with_reducible exact H | (rw [hy155]; exact H) | exact H
                    have Ny155 := Aside0.mk hy155
                    clear hy155
                    have c13b0 := eq_true (DT : 0 ≤ x5_1)
                    have c14b0 := eq_true (DT : x5_1 ≤ (l0.length : Int))
                    obtain ⟨y158, hy158⟩ : ∃ y_ : List Int, y_ = (l0.drop (x5_1 : Int).toNat) := ⟨_, rfl⟩
                    replace H : (if y155.length + y158.length < 17592186044416 then (some (y155 ++ y158)) else (none)) = some r := by first | (rw [hy158]; with_reducible exact H) | (have H2_ := (Option.bind_some _ _).symm.trans H; rw [hy158]; with_reducible exact H2_) | (have H2_ := (Option.bind_some _ _).symm.trans H; with_reducible exact H2_) | with_reducible exact H | (rw [hy158]; exact H) | exact H
                    have Ny158 := Aside0.mk hy158
                    clear hy158
                    by_cases c15 : y155.length + y158.length < 17592186044416
                    · rw [if_pos c15] at H
                      have LMc15 := Aside0.mk c15
                      clear c15
                      obtain ⟨y162, hy162⟩ : ∃ y_ : List Int, y_ = (y155 ++ y158) := ⟨_, rfl⟩
                      replace H : (some y162) = some r := by first | (rw [hy162]; with_reducible exact H) | (have H2_ := (Option.bind_some _ _).symm.trans H; rw [hy162]; with_reducible exact H2_) | (have H2_ := (Option.bind_some _ _).symm.trans H; with_reducible exact H2_) | with_reducible exact H | (rw [hy162]; exact H) | exact H
                      have Ny162 := Aside0.mk hy162
                      clear hy162
                      obtain rfl := Option.some.inj H
                      obtain ⟨Ao16, co16, eo16⟩ := Kd.R_slice HO_0.out
                      subst eo16
                      have p143 : 0 ≤ (x5_1 : Int) := DT
                      have q143 : x5_1 < (l0.length : Int) := DT
                      obtain ⟨ad143, e143, hx143_0⟩ := Kd.at_int (Kd.R_reads' HO_0.out).2.2 x5_1 p143 q143
                      cases e143
                      replace p143 := eq_true p143
                      replace q143 := eq_true q143
                      have p144 : 0 ≤ (x5_1 : Int) := DT
                      have q144 : x5_1 < (l0.length : Int) := DT
                      obtain ⟨ad144, e144, hx144_0⟩ := Kd.at_int (Kd.R_reads' HO_0.out).2.2 x5_1 p144 q144
                      obtain rfl : ad143 = ad144 := (by injection e144)
                      replace p144 := eq_true p144
                      replace q144 := eq_true q144
                      go_wp2_with (first | ((with_reducible refine gate_dst (N := 34) rfl ?_); refine Kd.R_lit (Kd.int .i64) _ 3 ?hg (N := 34) ?hd (xs := ([] : List Int)) (inner := []) (ok := fun _ => True) (okp := fun _ => True) ?hr ?hp (fun _ hk => hk) trivial (Below.refl _ _) (Nat.le_refl _) (by simp) ?_; (case hd => rfl); (case hg => rfl); (case hr => first | (go_simp; done) | (go_simp; rfl)); (case hp => exact (Reps.none _ _)); intro v146 w17 ho18 hb hg_ hnew_; clear hg_ hnew_; (first | rw [← Ny145.out] at ho18 | (simp only [Int.reduceToNat] at ho18; rw [← Ny145.out] at ho18)); have HO147 := Aside0.mk (Kd.R_lower (Kd.R_new' (Kd.R_newM (M := fun k_ => (P0_ k_ ∨ w.heap.size ≤ k_)) ho18 (by first | exact HK.out.1 | exact (show Kept w _ (fun k_ => P0_ k_) from by repeat (first | (with_reducible first | exact HK.out | apply Kept.alloc | apply Kept.drewN | apply Kept.drew) | exact HK.out)).1) (fun k_ h_ => .inr h_)) (Kd.R_lt (by (with_reducible repeat (first | apply Kd.R_alloc | apply Kd.R_drewN | apply Kd.R_drew)); exact HO_0.out))) (below_size BA)); replace HO_0 := Aside0.mk (Kd.R_elder' (by (with_reducible repeat (first | apply Kd.R_alloc | apply Kd.R_drewN | apply Kd.R_drew)); exact HO_0.out) (Kd.R_base ho18) hb); replace HK := Aside0.mk (Kept.below (S := (fun k_ => P0_ k_)) (by repeat (first | (with_reducible first | exact HK.out | apply Kept.alloc | apply Kept.drewN | apply Kept.drew) | exact HK.out)) hb); replace HB := Aside0.mk (below_step BA hb); clear hb ho18; have q19 : (x5_1 : Int) ≤ ((l0.length : Int) : Int) := DT; obtain ⟨i019, hi019, _, hsz19, _⟩ := info_parts info3; have hroom19 : l0.length ≤ co16 := (Kd.R_reads' HO_0.out).2.1; have hC19 : Kd.C (Kd.int .i64) _ (some ad143) l0.length l0 := (Kd.R_reads' HO_0.out).2.2; have hcut19 := cut_to (P := Try.prog) 34 3 .i64 Try.underlying34 hi019 (some ad143) l0.length co16 x5_1 DT q19 hroom19; have hr19 := Kd.C_take (m := (x5_1 : Int).toNat) hC19 (by omega); have hy19 : y148.length = (x5_1 : Int).toNat := (by rw [Ny148.out, List.length_take]; omega); rw [← Ny148.out] at hr19; rw [← hy19] at hcut19; have HR151 := Aside0.mk hr19; have HC151 := Aside0.mk (show y148.length ≤ co16 from by omega); clear hr19 hC19 hroom19 hi019 hsz19; have KY19 := Aside0.mk hy19; clear hy19; have KL19 := Aside0.mk (show (x5_1 : Int).toNat ≤ l0.length from by omega); replace q19 := eq_true q19) | ((with_reducible refine gate_builtin (b := .append) (xs := #[.tmp 34, .tmp 37]) rfl ?_); at_builtin; refine Kd.R_append_rows (Kd.int .i64) (w0 := w0) w0.heap.size rfl (.tmp 34) (.tmp 37) 34 3 (.int .i64 0) 8 rfl Try.underlying34 info3 rfl (by decide) (by omega) v146 y145 y148 _ _ _ (fun k_ => (P0_ k_ ∨ w.heap.size ≤ k_) ∧ some k_ ≠ (.slice (some ad143) l0.length co16 : Value).ownBlock) (fun _ => False) rfl rfl ?aO ?aR (fun _ _ h => h) (fun _ h => h.elim) ?aF ?aB ?aS ?aL ?_; (case aR => exact cb (by repeat (first | (with_reducible exact HR151.out) | (with_reducible refine Kd.C_alloc ?_ _) | (with_reducible refine Kd.C_drewN ?_ _) | (with_reducible refine Kd.C_drew ?_) | exact HR151.out))); (case aB => exact BA); (case aF => exact (fun k_ hk => ⟨(.inr (Nat.le_trans (by first | exact HK.out.1 | exact (show Kept w _ (fun k_ => P0_ k_) from by repeat (first | (with_reducible first | exact HK.out | apply Kept.alloc | apply Kept.drewN | apply Kept.drew) | exact HK.out)).1) hk)), Kd.fresh' (Kd.R_lt (by (with_reducible repeat (first | apply Kd.R_alloc | apply Kd.R_drewN | apply Kd.R_drew)); exact HO_0.out)) k_ hk⟩)); (case aO => exact (by (with_reducible repeat (first | apply Kd.R_alloc | apply Kd.R_drewN | apply Kd.R_drew)); exact Kd.R_mono HO147.out (fun _ hk => ⟨hk.1.1, hk.2⟩))); (case aS => exact (below_size BA)); (case aL => have := LMc11.out; omega); intro v153 w20 ho hb hg hat; rw [← Ny152.out] at ho; have n0_ := Aside0.mk (Kd.R_after (ok := (fun k_ => (P0_ k_ ∨ w.heap.size ≤ k_))) (by (with_reducible repeat (first | apply Kd.R_alloc | apply Kd.R_drewN | apply Kd.R_drew)); exact HO_0.out) hg hat); have n1_ := Aside0.mk (hb); have n2_ := Aside0.mk (Kept.of_grown (S := (fun k_ => P0_ k_)) hg (by repeat (first | (with_reducible first | exact HK.out | apply Kept.alloc | apply Kept.drewN | apply Kept.drew) | exact HK.out)) (fun k_ e_ => (HO147.out.1 k_ e_).1.1)); have n3_ := Aside0.mk ((show Kd.C (Kd.int .i64) w20 (some ad143) y148.length y148 from by rw [Ny148.out]; exact Kd.C_take (m := (x5_1 : Int).toNat) ((Kd.R_reads' (Kd.R_after (ok := (fun k_ => (P0_ k_ ∨ w.heap.size ≤ k_))) (by (with_reducible repeat (first | apply Kd.R_alloc | apply Kd.R_drewN | apply Kd.R_drew)); exact HO_0.out) hg hat)).2.2) KL19.out)); have n4_ := Aside0.mk (ho); clear HO_0; clear HB; clear HK; clear HR151; clear HO147; have HO_0 := n0_; have HB := n1_; have HK := n2_; have HR151 := n3_; have HO154 := n4_; clear n0_ n1_ n2_ n3_ n4_; clear ho hb hg hat) | ((with_reducible refine gate_builtin (b := .append) (xs := #[.tmp 39, .tmp 41]) rfl ?_); at_builtin; refine Kd.R_append (Kd.int .i64) (w0 := w0) w0.heap.size rfl (.tmp 39) (.tmp 41) 34 3 (.int .i64 0) 8 rfl Try.underlying34 info3 rfl (by decide) (by omega) v153 y152 a1 [.int .i64 a1] (fun k_ => (P0_ k_ ∨ w.heap.size ≤ k_) ∧ some k_ ≠ (.slice (some ad143) l0.length co16 : Value).ownBlock) (fun _ => False) rfl rfl ?aP (fun _ hk => hk.elim) ?aF ?aO ?aB ?aS ?aL ?_; (case aP => exact rfl); (case aB => exact BA); (case aF => exact (fun k_ hk => ⟨(.inr (Nat.le_trans (by first | exact HK.out.1 | exact (show Kept w _ (fun k_ => P0_ k_) from by repeat (first | (with_reducible first | exact HK.out | apply Kept.alloc | apply Kept.drewN | apply Kept.drew) | exact HK.out)).1) hk)), Kd.fresh' (Kd.R_lt (by (with_reducible repeat (first | apply Kd.R_alloc | apply Kd.R_drewN | apply Kd.R_drew)); exact HO_0.out)) k_ hk⟩)); (case aO => exact (by (with_reducible repeat (first | apply Kd.R_alloc | apply Kd.R_drewN | apply Kd.R_drew)); exact HO154.out)); (case aS => exact (below_size BA)); (case aL => have := LMc12.out; omega); intro v156 w21 ho hb hg hat; rw [← Ny155.out] at ho; have n0_ := Aside0.mk (Kd.R_after (ok := (fun k_ => (P0_ k_ ∨ w.heap.size ≤ k_))) (by (with_reducible repeat (first | apply Kd.R_alloc | apply Kd.R_drewN | apply Kd.R_drew)); exact HO_0.out) hg hat); have n1_ := Aside0.mk (hb); have n2_ := Aside0.mk (Kept.of_grown (S := (fun k_ => P0_ k_)) hg (by repeat (first | (with_reducible first | exact HK.out | apply Kept.alloc | apply Kept.drewN | apply Kept.drew) | exact HK.out)) (fun k_ e_ => (HO154.out.1 k_ e_).1)); have n3_ := Aside0.mk ((show Kd.C (Kd.int .i64) w21 (some ad143) y148.length y148 from by rw [Ny148.out]; exact Kd.C_take (m := (x5_1 : Int).toNat) ((Kd.R_reads' (Kd.R_after (ok := (fun k_ => (P0_ k_ ∨ w.heap.size ≤ k_))) (by (with_reducible repeat (first | apply Kd.R_alloc | apply Kd.R_drewN | apply Kd.R_drew)); exact HO_0.out) hg hat)).2.2) KL19.out)); have n4_ := Aside0.mk (ho); clear HO_0; clear HB; clear HK; clear HR151; clear HO154; have HO_0 := n0_; have HB := n1_; have HK := n2_; have HR151 := n3_; have HO157 := n4_; clear n0_ n1_ n2_ n3_ n4_; clear ho hb hg hat; have q22 : (x5_1 : Int) ≤ ((l0.length : Int) : Int) := DT; obtain ⟨i022, hi022, _, hsz22, _⟩ := info_parts info3; have hroom22 : l0.length ≤ co16 := (Kd.R_reads' HO_0.out).2.1; have hC22 : Kd.C (Kd.int .i64) _ (some ad143) l0.length l0 := (Kd.R_reads' HO_0.out).2.2; have q022 : (0 : Int) ≤ (x5_1 : Int) := DT; have hcut22 := cut_from (P := Try.prog) 34 3 .i64 Try.underlying34 hi022 1 hsz22 (some ad143) l0.length co16 x5_1 q022 q22; have hr22 := Kd.C_drop (m := (x5_1 : Int).toNat) (c := co16) hC22 (by omega) hroom22; obtain ⟨A22, hA22⟩ : ∃ A1, A1 = (if co16 = (x5_1 : Int).toNat then (some ad143) else ((some ad143) : Option Addr).map (·.add ((x5_1 : Int).toNat * 1))) := ⟨_, rfl⟩; obtain ⟨c22, hc22⟩ : ∃ c1, c1 = co16 - (x5_1 : Int).toNat := ⟨_, rfl⟩; have hy22 : y158.length = l0.length - (x5_1 : Int).toNat := (by rw [Ny158.out, List.length_drop] <;> omega); rw [show (l0).drop (x5_1 : Int).toNat = y158 from Ny158.out.symm] at hr22; replace hr22 : Kd.C (Kd.int .i64) _ A22 y158.length y158 := (by rw [hA22]; exact hr22); rw [← hy22, ← hA22, ← hc22] at hcut22; have HR161 := Aside0.mk hr22; have HC161 := Aside0.mk (show y158.length ≤ c22 from by rw [hy22, hc22]; exact Nat.sub_le_sub_right hroom22 _); clear hr22 hC22 hroom22 hi022 hsz22 hc22; have KY22 := Aside0.mk hy22; have KA22 := Aside0.mk hA22; clear hy22 hA22; have KL22 := Aside0.mk (show (x5_1 : Int).toNat ≤ l0.length from by omega); replace q22 := eq_true q22) | ((with_reducible refine gate_builtin (b := .append) (xs := #[.tmp 43, .tmp 46]) rfl ?_); at_builtin; refine Kd.R_append_rows (Kd.int .i64) (w0 := w0) w0.heap.size rfl (.tmp 43) (.tmp 46) 34 3 (.int .i64 0) 8 rfl Try.underlying34 info3 rfl (by decide) (by omega) v156 y155 y158 _ _ _ (fun k_ => (P0_ k_ ∨ w.heap.size ≤ k_) ∧ some k_ ≠ (.slice (some ad143) l0.length co16 : Value).ownBlock) (fun _ => False) rfl rfl ?aO ?aR (fun _ _ h => h) (fun _ h => h.elim) ?aF ?aB ?aS ?aL ?_; (case aR => exact cb (by repeat (first | (with_reducible exact HR161.out) | (with_reducible refine Kd.C_alloc ?_ _) | (with_reducible refine Kd.C_drewN ?_ _) | (with_reducible refine Kd.C_drew ?_) | exact HR161.out))); (case aB => exact BA); (case aF => exact (fun k_ hk => ⟨(.inr (Nat.le_trans (by first | exact HK.out.1 | exact (show Kept w _ (fun k_ => P0_ k_) from by repeat (first | (with_reducible first | exact HK.out | apply Kept.alloc | apply Kept.drewN | apply Kept.drew) | exact HK.out)).1) hk)), Kd.fresh' (Kd.R_lt (by (with_reducible repeat (first | apply Kd.R_alloc | apply Kd.R_drewN | apply Kd.R_drew)); exact HO_0.out)) k_ hk⟩)); (case aO => exact (by (with_reducible repeat (first | apply Kd.R_alloc | apply Kd.R_drewN | apply Kd.R_drew)); exact HO157.out)); (case aS => exact (below_size BA)); (case aL => have := LMc15.out; omega); intro v163 w23 ho hb hg hat; rw [← Ny162.out] at ho; have n0_ := Aside0.mk (Kd.R_after (ok := (fun k_ => (P0_ k_ ∨ w.heap.size ≤ k_))) (by (with_reducible repeat (first | apply Kd.R_alloc | apply Kd.R_drewN | apply Kd.R_drew)); exact HO_0.out) hg hat); have n1_ := Aside0.mk (hb); have n2_ := Aside0.mk (Kept.of_grown (S := (fun k_ => P0_ k_)) hg (by repeat (first | (with_reducible first | exact HK.out | apply Kept.alloc | apply Kept.drewN | apply Kept.drew) | exact HK.out)) (fun k_ e_ => (HO157.out.1 k_ e_).1)); have n3_ := Aside0.mk ((show Kd.C (Kd.int .i64) w23 (some ad143) y148.length y148 from by rw [Ny148.out]; exact Kd.C_take (m := (x5_1 : Int).toNat) ((Kd.R_reads' (Kd.R_after (ok := (fun k_ => (P0_ k_ ∨ w.heap.size ≤ k_))) (by (with_reducible repeat (first | apply Kd.R_alloc | apply Kd.R_drewN | apply Kd.R_drew)); exact HO_0.out) hg hat)).2.2) KL19.out)); have n4_ := Aside0.mk ((show Kd.C (Kd.int .i64) w23 A22 y158.length y158 from by rw [Ny158.out, KA22.out]; exact Kd.C_drop (m := (x5_1 : Int).toNat) (c := co16) ((Kd.R_reads' (Kd.R_after (ok := (fun k_ => (P0_ k_ ∨ w.heap.size ≤ k_))) (by (with_reducible repeat (first | apply Kd.R_alloc | apply Kd.R_drewN | apply Kd.R_drew)); exact HO_0.out) hg hat)).2.2) KL22.out ((Kd.R_reads' (Kd.R_after (ok := (fun k_ => (P0_ k_ ∨ w.heap.size ≤ k_))) (by (with_reducible repeat (first | apply Kd.R_alloc | apply Kd.R_drewN | apply Kd.R_drew)); exact HO_0.out) hg hat)).2.1))); have n5_ := Aside0.mk (ho); clear HO_0; clear HB; clear HK; clear HR151; clear HR161; clear HO157; have HO_0 := n0_; have HB := n1_; have HK := n2_; have HR151 := n3_; have HR161 := n4_; have HO164 := n5_; clear n0_ n1_ n2_ n3_ n4_ n5_; clear ho hb hg hat))
                      go_ret
                      exact ⟨_, EQ, by (with_reducible repeat (first | apply Kd.R_alloc | apply Kd.R_drewN | apply Kd.R_drew)); exact Kd.R_mono HO164.out (fun _ hk => hk.1), BA, by repeat (first | (with_reducible first | exact HK.out | apply Kept.alloc | apply Kept.drewN | apply Kept.drew) | exact HK.out)⟩
                    · rw [if_neg c15] at H
                      exact absurd H (by simp)
                  · rw [if_neg c12] at H
                    exact absurd H (by simp)
                · rw [if_neg c11] at H
                  exact absurd H (by simp)
              · rw [if_neg c10] at H
                exact absurd H (by simp)
        · rw [if_neg c4] at H
          exact absurd H (by simp)
      · rw [if_neg c3] at H
        have c3b0 := decide_eq_false c3
        clear c3
        obtain ⟨y165, hy165⟩ : ∃ y_ : List Int, y_ = (([] : List Int)) := ⟨_, rfl⟩
        replace H : (if 0 ≤ x5_1 then (if x5_1 ≤ (l0.length : Int) then ((some (l0.take (x5_1 : Int).toNat : List Int)).bind fun y168 => (if y165.length + y168.length < 17592186044416 then ((some (y165 ++ y168 : List Int)).bind fun y172 => (if y172.length < 17592186044416 then ((some (y172 ++ [a1] : List Int)).bind fun y175 => ((some (l0.drop (x5_1 : Int).toNat : List Int)).bind fun y178 => (if y175.length + y178.length < 17592186044416 then (some (y175 ++ y178)) else (none)))) else (none))) else (none))) else (none)) else (none)) = some r := by first | (rw [hy165]; with_reducible exact H) | (have H2_ := (Option.bind_some _ _).symm.trans H; rw [hy165]; with_reducible exact H2_) | (have H2_ := (Option.bind_some _ _).symm.trans H; with_reducible exact H2_) | with_reducible exact H | (rw [hy165]; exact H) | exact H
        have Ny165 := Aside0.mk hy165
        clear hy165
        by_cases c24 : 0 ≤ x5_1
        · rw [if_pos c24] at H
          have c24b0 := eq_true c24
          have c24b1 := decide_eq_true c24
          clear c24
          by_cases c25 : x5_1 ≤ (l0.length : Int)
          · rw [if_pos c25] at H
            have c25b0 := eq_true c25
            have c25b1 := decide_eq_true c25
            clear c25
            obtain ⟨y168, hy168⟩ : ∃ y_ : List Int, y_ = (l0.take (x5_1 : Int).toNat) := ⟨_, rfl⟩
            replace H : (if y165.length + y168.length < 17592186044416 then ((some (y165 ++ y168 : List Int)).bind fun y172 => (if y172.length < 17592186044416 then ((some (y172 ++ [a1] : List Int)).bind fun y175 => ((some (l0.drop (x5_1 : Int).toNat : List Int)).bind fun y178 => (if y175.length + y178.length < 17592186044416 then (some (y175 ++ y178)) else (none)))) else (none))) else (none)) = some r := by first | (rw [hy168]; with_reducible exact H) | (have H2_ := (Option.bind_some _ _).symm.trans H; rw [hy168]; with_reducible exact H2_) | (have H2_ := (Option.bind_some _ _).symm.trans H; with_reducible exact H2_) | with_reducible exact H | (rw [hy168]; exact H) | exact H
            have Ny168 := Aside0.mk hy168
            clear hy168
            by_cases c26 : y165.length + y168.length < 17592186044416
            · rw [if_pos c26] at H
              have LMc26 := Aside0.mk c26
              clear c26
              obtain ⟨y172, hy172⟩ : ∃ y_ : List Int, y_ = (y165 ++ y168) := ⟨_, rfl⟩
              replace H : (if y172.length < 17592186044416 then ((some (y172 ++ [a1] : List Int)).bind fun y175 => ((some (l0.drop (x5_1 : Int).toNat : List Int)).bind fun y178 => (if y175.length + y178.length < 17592186044416 then (some (y175 ++ y178)) else (none)))) else (none)) = some r := by first | (rw [hy172]; with_reducible exact H) | (have H2_ := (Option.bind_some _ _).symm.trans H; rw [hy172]; with_reducible exact H2_) | (have H2_ := (Option.bind_some _ _).symm.trans H; with_reducible exact H2_) | with_reducible exact H | (rw [hy172]; exact H) | exact H
              have Ny172 := Aside0.mk hy172
              clear hy172
              by_cases c27 : y172.length < 17592186044416
              · rw [if_pos c27] at H
                have LMc27 := Aside0.mk c27
                clear c27
                obtain ⟨y175, hy175⟩ : ∃ y_ : List Int, y_ = (y172 ++ [a1]) := ⟨_, rfl⟩
                replace H : ((some (l0.drop (x5_1 : Int).toNat : List Int)).bind fun y178 => (if y175.length + y178.length < 17592186044416 then (some (y175 ++ y178)) else (none))) = some r := by first | (rw [hy175]; with_reducible exact H) | (have H2_ := (Option.bind_some _ _).symm.trans H; rw [hy175]; with_reducible exact H2_) | (have H2_ := (Option.bind_some _ _).symm.trans H; with_reducible exact H2_) | with_reducible exact H | (rw [hy175]; exact H) | exact H
                have Ny175 := Aside0.mk hy175
                clear hy175
                have c28b0 := eq_true (DT : 0 ≤ x5_1)
                have c29b0 := eq_true (DT : x5_1 ≤ (l0.length : Int))
                obtain ⟨y178, hy178⟩ : ∃ y_ : List Int, y_ = (l0.drop (x5_1 : Int).toNat) := ⟨_, rfl⟩
                replace H : (if y175.length + y178.length < 17592186044416 then (some (y175 ++ y178)) else (none)) = some r := by first | (rw [hy178]; with_reducible exact H) | (have H2_ := (Option.bind_some _ _).symm.trans H; rw [hy178]; with_reducible exact H2_) | (have H2_ := (Option.bind_some _ _).symm.trans H; with_reducible exact H2_) | with_reducible exact H | (rw [hy178]; exact H) | exact H
                have Ny178 := Aside0.mk hy178
                clear hy178
                by_cases c30 : y175.length + y178.length < 17592186044416
                · rw [if_pos c30] at H
                  have LMc30 := Aside0.mk c30
                  clear c30
                  obtain ⟨y182, hy182⟩ : ∃ y_ : List Int, y_ = (y175 ++ y178) := ⟨_, rfl⟩
                  replace H : (some y182) = some r := by first | (rw [hy182]; with_reducible exact H) | (have H2_ := (Option.bind_some _ _).symm.trans H; rw [hy182]; with_reducible exact H2_) | (have H2_ := (Option.bind_some _ _).symm.trans H; with_reducible exact H2_) | with_reducible exact H | (rw [hy182]; exact H) | exact H
                  have Ny182 := Aside0.mk hy182
                  clear hy182
                  obtain rfl := Option.some.inj H
                  obtain ⟨Ao31, co31, eo31⟩ := Kd.R_slice HO_0.out
                  subst eo31
                  go_wp2_with (first | ((with_reducible refine gate_dst (N := 34) rfl ?_); refine Kd.R_lit (Kd.int .i64) _ 3 ?hg (N := 34) ?hd (xs := ([] : List Int)) (inner := []) (ok := fun _ => True) (okp := fun _ => True) ?hr ?hp (fun _ hk => hk) trivial (Below.refl _ _) (Nat.le_refl _) (by simp) ?_; (case hd => rfl); (case hg => rfl); (case hr => first | (go_simp; done) | (go_simp; rfl)); (case hp => exact (Reps.none _ _)); intro v166 w32 ho33 hb hg_ hnew_; clear hg_ hnew_; (first | rw [← Ny165.out] at ho33 | (simp only [Int.reduceToNat] at ho33; rw [← Ny165.out] at ho33)); have HO167 := Aside0.mk (Kd.R_lower (Kd.R_new' (Kd.R_newM (M := fun k_ => (P0_ k_ ∨ w.heap.size ≤ k_)) ho33 (by first | exact HK.out.1 | exact (show Kept w _ (fun k_ => P0_ k_) from by repeat (first | (with_reducible first | exact HK.out | apply Kept.alloc | apply Kept.drewN | apply Kept.drew) | exact HK.out)).1) (fun k_ h_ => .inr h_)) (Kd.R_lt (by (with_reducible repeat (first | apply Kd.R_alloc | apply Kd.R_drewN | apply Kd.R_drew)); exact HO_0.out))) (below_size BA)); replace HO_0 := Aside0.mk (Kd.R_elder' (by (with_reducible repeat (first | apply Kd.R_alloc | apply Kd.R_drewN | apply Kd.R_drew)); exact HO_0.out) (Kd.R_base ho33) hb); replace HK := Aside0.mk (Kept.below (S := (fun k_ => P0_ k_)) (by repeat (first | (with_reducible first | exact HK.out | apply Kept.alloc | apply Kept.drewN | apply Kept.drew) | exact HK.out)) hb); replace HB := Aside0.mk (below_step BA hb); clear hb ho33; have q34 : (x5_1 : Int) ≤ ((l0.length : Int) : Int) := DT; obtain ⟨i034, hi034, _, hsz34, _⟩ := info_parts info3; have hroom34 : l0.length ≤ co31 := (Kd.R_reads' HO_0.out).2.1; have hC34 : Kd.C (Kd.int .i64) _ Ao31 l0.length l0 := (Kd.R_reads' HO_0.out).2.2; have hcut34 := cut_to (P := Try.prog) 34 3 .i64 Try.underlying34 hi034 Ao31 l0.length co31 x5_1 DT q34 hroom34; have hr34 := Kd.C_take (m := (x5_1 : Int).toNat) hC34 (by omega); have hy34 : y168.length = (x5_1 : Int).toNat := (by rw [Ny168.out, List.length_take]; omega); rw [← Ny168.out] at hr34; rw [← hy34] at hcut34; have HR171 := Aside0.mk hr34; have HC171 := Aside0.mk (show y168.length ≤ co31 from by omega); clear hr34 hC34 hroom34 hi034 hsz34; have KY34 := Aside0.mk hy34; clear hy34; have KL34 := Aside0.mk (show (x5_1 : Int).toNat ≤ l0.length from by omega); replace q34 := eq_true q34) | ((with_reducible refine gate_builtin (b := .append) (xs := #[.tmp 34, .tmp 37]) rfl ?_); at_builtin; refine Kd.R_append_rows (Kd.int .i64) (w0 := w0) w0.heap.size rfl (.tmp 34) (.tmp 37) 34 3 (.int .i64 0) 8 rfl Try.underlying34 info3 rfl (by decide) (by omega) v166 y165 y168 _ _ _ (fun k_ => (P0_ k_ ∨ w.heap.size ≤ k_) ∧ some k_ ≠ (.slice Ao31 l0.length co31 : Value).ownBlock) (fun _ => False) rfl rfl ?aO ?aR (fun _ _ h => h) (fun _ h => h.elim) ?aF ?aB ?aS ?aL ?_; (case aR => exact cb (by repeat (first | (with_reducible exact HR171.out) | (with_reducible refine Kd.C_alloc ?_ _) | (with_reducible refine Kd.C_drewN ?_ _) | (with_reducible refine Kd.C_drew ?_) | exact HR171.out))); (case aB => exact BA); (case aF => exact (fun k_ hk => ⟨(.inr (Nat.le_trans (by first | exact HK.out.1 | exact (show Kept w _ (fun k_ => P0_ k_) from by repeat (first | (with_reducible first | exact HK.out | apply Kept.alloc | apply Kept.drewN | apply Kept.drew) | exact HK.out)).1) hk)), Kd.fresh' (Kd.R_lt (by (with_reducible repeat (first | apply Kd.R_alloc | apply Kd.R_drewN | apply Kd.R_drew)); exact HO_0.out)) k_ hk⟩)); (case aO => exact (by (with_reducible repeat (first | apply Kd.R_alloc | apply Kd.R_drewN | apply Kd.R_drew)); exact Kd.R_mono HO167.out (fun _ hk => ⟨hk.1.1, hk.2⟩))); (case aS => exact (below_size BA)); (case aL => have := LMc26.out; omega); intro v173 w35 ho hb hg hat; rw [← Ny172.out] at ho; have n0_ := Aside0.mk (Kd.R_after (ok := (fun k_ => (P0_ k_ ∨ w.heap.size ≤ k_))) (by (with_reducible repeat (first | apply Kd.R_alloc | apply Kd.R_drewN | apply Kd.R_drew)); exact HO_0.out) hg hat); have n1_ := Aside0.mk (hb); have n2_ := Aside0.mk (Kept.of_grown (S := (fun k_ => P0_ k_)) hg (by repeat (first | (with_reducible first | exact HK.out | apply Kept.alloc | apply Kept.drewN | apply Kept.drew) | exact HK.out)) (fun k_ e_ => (HO167.out.1 k_ e_).1.1)); have n3_ := Aside0.mk ((show Kd.C (Kd.int .i64) w35 Ao31 y168.length y168 from by rw [Ny168.out]; exact Kd.C_take (m := (x5_1 : Int).toNat) ((Kd.R_reads' (Kd.R_after (ok := (fun k_ => (P0_ k_ ∨ w.heap.size ≤ k_))) (by (with_reducible repeat (first | apply Kd.R_alloc | apply Kd.R_drewN | apply Kd.R_drew)); exact HO_0.out) hg hat)).2.2) KL34.out)); have n4_ := Aside0.mk (ho); clear HO_0; clear HB; clear HK; clear HR171; clear HO167; have HO_0 := n0_; have HB := n1_; have HK := n2_; have HR171 := n3_; have HO174 := n4_; clear n0_ n1_ n2_ n3_ n4_; clear ho hb hg hat) | ((with_reducible refine gate_builtin (b := .append) (xs := #[.tmp 39, .tmp 41]) rfl ?_); at_builtin; refine Kd.R_append (Kd.int .i64) (w0 := w0) w0.heap.size rfl (.tmp 39) (.tmp 41) 34 3 (.int .i64 0) 8 rfl Try.underlying34 info3 rfl (by decide) (by omega) v173 y172 a1 [.int .i64 a1] (fun k_ => (P0_ k_ ∨ w.heap.size ≤ k_) ∧ some k_ ≠ (.slice Ao31 l0.length co31 : Value).ownBlock) (fun _ => False) rfl rfl ?aP (fun _ hk => hk.elim) ?aF ?aO ?aB ?aS ?aL ?_; (case aP => exact rfl); (case aB => exact BA); (case aF => exact (fun k_ hk => ⟨(.inr (Nat.le_trans (by first | exact HK.out.1 | exact (show Kept w _ (fun k_ => P0_ k_) from by repeat (first | (with_reducible first | exact HK.out | apply Kept.alloc | apply Kept.drewN | apply Kept.drew) | exact HK.out)).1) hk)), Kd.fresh' (Kd.R_lt (by (with_reducible repeat (first | apply Kd.R_alloc | apply Kd.R_drewN | apply Kd.R_drew)); exact HO_0.out)) k_ hk⟩)); (case aO => exact (by (with_reducible repeat (first | apply Kd.R_alloc | apply Kd.R_drewN | apply Kd.R_drew)); exact HO174.out)); (case aS => exact (below_size BA)); (case aL => have := LMc27.out; omega); intro v176 w36 ho hb hg hat; rw [← Ny175.out] at ho; have n0_ := Aside0.mk (Kd.R_after (ok := (fun k_ => (P0_ k_ ∨ w.heap.size ≤ k_))) (by (with_reducible repeat (first | apply Kd.R_alloc | apply Kd.R_drewN | apply Kd.R_drew)); exact HO_0.out) hg hat); have n1_ := Aside0.mk (hb); have n2_ := Aside0.mk (Kept.of_grown (S := (fun k_ => P0_ k_)) hg (by repeat (first | (with_reducible first | exact HK.out | apply Kept.alloc | apply Kept.drewN | apply Kept.drew) | exact HK.out)) (fun k_ e_ => (HO174.out.1 k_ e_).1)); have n3_ := Aside0.mk ((show Kd.C (Kd.int .i64) w36 Ao31 y168.length y168 from by rw [Ny168.out]; exact Kd.C_take (m := (x5_1 : Int).toNat) ((Kd.R_reads' (Kd.R_after (ok := (fun k_ => (P0_ k_ ∨ w.heap.size ≤ k_))) (by (with_reducible repeat (first | apply Kd.R_alloc | apply Kd.R_drewN | apply Kd.R_drew)); exact HO_0.out) hg hat)).2.2) KL34.out)); have n4_ := Aside0.mk (ho); clear HO_0; clear HB; clear HK; clear HR171; clear HO174; have HO_0 := n0_; have HB := n1_; have HK := n2_; have HR171 := n3_; have HO177 := n4_; clear n0_ n1_ n2_ n3_ n4_; clear ho hb hg hat; have q37 : (x5_1 : Int) ≤ ((l0.length : Int) : Int) := DT; obtain ⟨i037, hi037, _, hsz37, _⟩ := info_parts info3; have hroom37 : l0.length ≤ co31 := (Kd.R_reads' HO_0.out).2.1; have hC37 : Kd.C (Kd.int .i64) _ Ao31 l0.length l0 := (Kd.R_reads' HO_0.out).2.2; have q037 : (0 : Int) ≤ (x5_1 : Int) := DT; have hcut37 := cut_from (P := Try.prog) 34 3 .i64 Try.underlying34 hi037 1 hsz37 Ao31 l0.length co31 x5_1 q037 q37; have hr37 := Kd.C_drop (m := (x5_1 : Int).toNat) (c := co31) hC37 (by omega) hroom37; obtain ⟨A37, hA37⟩ : ∃ A1, A1 = (if co31 = (x5_1 : Int).toNat then Ao31 else (Ao31 : Option Addr).map (·.add ((x5_1 : Int).toNat * 1))) := ⟨_, rfl⟩; obtain ⟨c37, hc37⟩ : ∃ c1, c1 = co31 - (x5_1 : Int).toNat := ⟨_, rfl⟩; have hy37 : y178.length = l0.length - (x5_1 : Int).toNat := (by rw [Ny178.out, List.length_drop] <;> omega); rw [show (l0).drop (x5_1 : Int).toNat = y178 from Ny178.out.symm] at hr37; replace hr37 : Kd.C (Kd.int .i64) _ A37 y178.length y178 := (by rw [hA37]; exact hr37); rw [← hy37, ← hA37, ← hc37] at hcut37; have HR181 := Aside0.mk hr37; have HC181 := Aside0.mk (show y178.length ≤ c37 from by rw [hy37, hc37]; exact Nat.sub_le_sub_right hroom37 _); clear hr37 hC37 hroom37 hi037 hsz37 hc37; have KY37 := Aside0.mk hy37; have KA37 := Aside0.mk hA37; clear hy37 hA37; have KL37 := Aside0.mk (show (x5_1 : Int).toNat ≤ l0.length from by omega); replace q37 := eq_true q37) | ((with_reducible refine gate_builtin (b := .append) (xs := #[.tmp 43, .tmp 46]) rfl ?_); at_builtin; refine Kd.R_append_rows (Kd.int .i64) (w0 := w0) w0.heap.size rfl (.tmp 43) (.tmp 46) 34 3 (.int .i64 0) 8 rfl Try.underlying34 info3 rfl (by decide) (by omega) v176 y175 y178 _ _ _ (fun k_ => (P0_ k_ ∨ w.heap.size ≤ k_) ∧ some k_ ≠ (.slice Ao31 l0.length co31 : Value).ownBlock) (fun _ => False) rfl rfl ?aO ?aR (fun _ _ h => h) (fun _ h => h.elim) ?aF ?aB ?aS ?aL ?_; (case aR => exact cb (by repeat (first | (with_reducible exact HR181.out) | (with_reducible refine Kd.C_alloc ?_ _) | (with_reducible refine Kd.C_drewN ?_ _) | (with_reducible refine Kd.C_drew ?_) | exact HR181.out))); (case aB => exact BA); (case aF => exact (fun k_ hk => ⟨(.inr (Nat.le_trans (by first | exact HK.out.1 | exact (show Kept w _ (fun k_ => P0_ k_) from by repeat (first | (with_reducible first | exact HK.out | apply Kept.alloc | apply Kept.drewN | apply Kept.drew) | exact HK.out)).1) hk)), Kd.fresh' (Kd.R_lt (by (with_reducible repeat (first | apply Kd.R_alloc | apply Kd.R_drewN | apply Kd.R_drew)); exact HO_0.out)) k_ hk⟩)); (case aO => exact (by (with_reducible repeat (first | apply Kd.R_alloc | apply Kd.R_drewN | apply Kd.R_drew)); exact HO177.out)); (case aS => exact (below_size BA)); (case aL => have := LMc30.out; omega); intro v183 w38 ho hb hg hat; rw [← Ny182.out] at ho; have n0_ := Aside0.mk (Kd.R_after (ok := (fun k_ => (P0_ k_ ∨ w.heap.size ≤ k_))) (by (with_reducible repeat (first | apply Kd.R_alloc | apply Kd.R_drewN | apply Kd.R_drew)); exact HO_0.out) hg hat); have n1_ := Aside0.mk (hb); have n2_ := Aside0.mk (Kept.of_grown (S := (fun k_ => P0_ k_)) hg (by repeat (first | (with_reducible first | exact HK.out | apply Kept.alloc | apply Kept.drewN | apply Kept.drew) | exact HK.out)) (fun k_ e_ => (HO177.out.1 k_ e_).1)); have n3_ := Aside0.mk ((show Kd.C (Kd.int .i64) w38 Ao31 y168.length y168 from by rw [Ny168.out]; exact Kd.C_take (m := (x5_1 : Int).toNat) ((Kd.R_reads' (Kd.R_after (ok := (fun k_ => (P0_ k_ ∨ w.heap.size ≤ k_))) (by (with_reducible repeat (first | apply Kd.R_alloc | apply Kd.R_drewN | apply Kd.R_drew)); exact HO_0.out) hg hat)).2.2) KL34.out)); have n4_ := Aside0.mk ((show Kd.C (Kd.int .i64) w38 A37 y178.length y178 from by rw [Ny178.out, KA37.out]; exact Kd.C_drop (m := (x5_1 : Int).toNat) (c := co31) ((Kd.R_reads' (Kd.R_after (ok := (fun k_ => (P0_ k_ ∨ w.heap.size ≤ k_))) (by (with_reducible repeat (first | apply Kd.R_alloc | apply Kd.R_drewN | apply Kd.R_drew)); exact HO_0.out) hg hat)).2.2) KL37.out ((Kd.R_reads' (Kd.R_after (ok := (fun k_ => (P0_ k_ ∨ w.heap.size ≤ k_))) (by (with_reducible repeat (first | apply Kd.R_alloc | apply Kd.R_drewN | apply Kd.R_drew)); exact HO_0.out) hg hat)).2.1))); have n5_ := Aside0.mk (ho); clear HO_0; clear HB; clear HK; clear HR171; clear HR181; clear HO177; have HO_0 := n0_; have HB := n1_; have HK := n2_; have HR171 := n3_; have HR181 := n4_; have HO184 := n5_; clear n0_ n1_ n2_ n3_ n4_ n5_; clear ho hb hg hat))
                  go_ret
                  exact ⟨_, EQ, by (with_reducible repeat (first | apply Kd.R_alloc | apply Kd.R_drewN | apply Kd.R_drew)); exact Kd.R_mono HO184.out (fun _ hk => hk.1), BA, by repeat (first | (with_reducible first | exact HK.out | apply Kept.alloc | apply Kept.drewN | apply Kept.drew) | exact HK.out)⟩
                · rw [if_neg c30] at H
                  exact absurd H (by simp)
              · rw [if_neg c27] at H
                exact absurd H (by simp)
            · rw [if_neg c26] at H
              exact absurd H (by simp)
          · rw [if_neg c25] at H
            exact absurd H (by simp)
        · rw [if_neg c24] at H
          exact absurd H (by simp)

/-! ### spec_TemporariesOf: function 17 -/
def spec_TemporariesOf.l0 : Nat → List Int → List (S80) → Int → Int → Option (Int × Bool)
  | 0, _, _, _, _ => none
  | k + 1, x4, x10, x11, x12 => if x12 < x11 then (if 0 ≤ x12 then (if x12 < (x10.length : Int) then (if ((rd_T80 x10 x12).f1) > 1 then ((spec_l1Put.f k x4 ((rd_T80 x10 x12).f1)).bind fun t188 => (spec_TemporariesOf.l0 k t188 x10 x11 (wrap64 (x12 + 1)))) else (spec_TemporariesOf.l0 k x4 x10 x11 (wrap64 (x12 + 1)))) else (none)) else (none)) else (some ((x4.length : Int), true))
def spec_TemporariesOf.f (k : Nat) (l0 : List (S80)) : Option (Int × Bool) := (spec_cdCode.f k l0).bind fun t185 => (if t185 = true then (spec_TemporariesOf.l0 k ([] : List Int) l0 (l0.length : Int) 0) else (some (0, false)))
theorem spec_TemporariesOf.mono_l : ∀ k, (∀ y0 y1 y2 y3, LeO (spec_TemporariesOf.l0 k y0 y1 y2 y3) (spec_TemporariesOf.l0 (k + 1) y0 y1 y2 y3))
  | 0 => fun _ _ _ _ r h => by simp [spec_TemporariesOf.l0] at h
  | k + 1 => by
    have ih0 := spec_TemporariesOf.mono_l k
    · intro y0 y1 y2 y3
      unfold spec_TemporariesOf.l0
      repeat' first | (with_reducible first | exact ih0 _ _ _ _ | exact spec_cdCode.mono _ _ | exact spec_l1Put.mono _ _ _ | exact LeO.refl _ | exact LeO.none _ | refine LeO.ite ?_ ?_ | refine LeO.bind ?_ (fun _ => ?_)) | exact LeO.none _ | refine LeO.ite ?_ ?_ | refine LeO.bind ?_ (fun _ => ?_)
theorem spec_TemporariesOf.mono : ∀ a0 k, LeO (spec_TemporariesOf.f k a0) (spec_TemporariesOf.f (k + 1) a0) := by
  intro a0 k
  have ih0 := spec_TemporariesOf.mono_l k
  unfold spec_TemporariesOf.f
  repeat' first | (with_reducible first | exact ih0 _ _ _ _ | exact spec_cdCode.mono _ _ | exact spec_l1Put.mono _ _ _ | exact LeO.refl _ | exact LeO.none _ | refine LeO.ite ?_ ?_ | refine LeO.bind ?_ (fun _ => ?_)) | exact LeO.none _ | refine LeO.ite ?_ ?_ | refine LeO.bind ?_ (fun _ => ?_)
set_option maxHeartbeats 8000000 in
set_option maxRecDepth 100000 in
theorem spec_TemporariesOf.calls (k : Nat) (A0 : Option Addr) (c0 : Nat) (l0 : List (S80)) (r1 : Int) (r2 : Bool) (w : World) (hr0 : Kd.C k80 w A0 l0.length l0) (hc0 : l0.length ≤ c0) (h : spec_TemporariesOf.f k l0 = some (r1, r2)) :
    Calls Try.prog 17 #[.slice A0 l0.length c0] w fun e w' => e = .returned (.tuple #[.int .i64 r1, .bool r2]) ∧ Below w.heap.size w w' := by
  have hu80 := Try.underlying80
  have HR0 := Aside0.mk hr0
  have HC0 := Aside0.mk hc0
  clear hr0 hc0
  have HB := Aside0.mk (Below.refl w.heap.size w)
  have H : ((spec_cdCode.f k l0).bind fun t185 => (if t185 = true then (spec_TemporariesOf.l0 k ([] : List Int) l0 (l0.length : Int) 0) else (some (0, false)))) = some (r1, r2) := h
  clear h
  replace H := Option.bind_eq_some_iff.mp H
  obtain ⟨t185, A20, H⟩ := H
  replace H : (if t185 = true then (spec_TemporariesOf.l0 k ([] : List Int) l0 (l0.length : Int) 0) else (some (0, false))) = some (r1, r2) := H
  have A2 := Aside0.mk A20
  clear A20
  by_cases c3 : t185 = true
  · subst c3
    have H1 : (spec_TemporariesOf.l0 k ([] : List Int) l0 (l0.length : Int) 0) = some (r1, r2) := by rw [if_pos rfl] at H; exact H
    clear H
    have H := H1
    clear H1
    have H' := Aside0.mk H
    clear H
    go_enter Try.func17, Try.ntmps17
    go_wp2_with (first | ((with_reducible refine gate_callee (f := 60) rfl ?_); refine gK (some 8) Try.func60 #[.slice A0 l0.length c0] rfl rfl rfl ?_; (with_reducible refine (spec_cdCode.calls k _ _ l0 true _ ?side1 ?side2 A2.out).mono ?_); (case side1 => exact cb HR0.out); (case side2 => exact HC0.out); rintro e w4 ⟨rfl, hb⟩; refine ⟨_, rfl, ?_⟩; replace HB := Aside0.mk (below_step BA hb); (try clear hb)))
    go_loopg [4, 12] k (fun kq v4 v12 w' => ∃ (x4_1 : List Int) (x12_1 : Int), v12 = .int .i64 x12_1 ∧ Aside0 (spec_TemporariesOf.l0 kq x4_1 l0 (l0.length : Int) x12_1 = some (r1, r2)) ∧ Aside0 (kq ≤ k) ∧ Aside0 (Kd.R (Kd.int .i64) 3 w' w.heap.size (fun _ => True) v4 x4_1) ∧ Aside0 (Below w.heap.size w w'))
    case atStart => exact ⟨(([] : List Int)), (0), EQ1, H', ⟨Nat.le_refl _⟩, ⟨by first | exact Kd.R_nil _ _ _ _ _ | exact Kd.N_nil _ _ _ _ _ | exact Kd.V_nil _ _ _ _ _ | exact Kd.Q_nil _ _ _ _ _ | exact Kd.S_nil _ _ _ _ _⟩, ⟨BA⟩⟩
    case round =>
      clear H'
      (try clear c1); (try clear p2); (try clear c3)
      obtain ⟨x4_1, x12_1, rfl, HA, HK1, HO_4, HB⟩ := hrel
      cases gk with
      | zero => exact absurd HA.out (by simp [spec_TemporariesOf.l0])
      | succ k1 =>
        have H := HA.out
        clear HA
        simp only [spec_TemporariesOf.l0] at H
        by_cases c5 : x12_1 < (l0.length : Int)
        · rw [if_pos c5] at H
          have c5b0 := decide_eq_true c5
          clear c5
          by_cases c6 : 0 ≤ x12_1
          · rw [if_pos c6] at H
            have c6b0 := decide_eq_true c6
            clear c6
            by_cases c7 : x12_1 < (l0.length : Int)
            · rw [if_pos c7] at H
              have c7b0 := decide_eq_true c7
              clear c7
              by_cases c8 : ((rd_T80 l0 x12_1).f1) > 1
              · rw [if_pos c8] at H
                have c8b0 := decide_eq_true c8
                clear c8
                replace H := Option.bind_eq_some_iff.mp H
                obtain ⟨t188, A90, H⟩ := H
                replace H : (spec_TemporariesOf.l0 k1 t188 l0 (l0.length : Int) (wrap64 (x12_1 + 1))) = some (r1, r2) := H
                have A9 := Aside0.mk A90
                clear A90
                have H' := Aside0.mk H
                clear H
                have p186 : 0 ≤ (x12_1 : Int) := DT
                have q186 : x12_1 < (l0.length : Int) := DT
                obtain ⟨ad186, e186, hx186_0, hx186_1, hx186_2, hx186_3, hx186_4⟩ := at_T80 HR0.out x12_1 p186 q186
                cases e186
                replace hx186_0 := (HB.out.cell (World.block_lt_of_cell? w _ hx186_0)).trans hx186_0
                replace hx186_1 := (HB.out.cell (World.block_lt_of_cell? w _ hx186_1)).trans hx186_1
                replace hx186_2 := (HB.out.cell (World.block_lt_of_cell? w _ hx186_2)).trans hx186_2
                replace hx186_3 := (HB.out.cell (World.block_lt_of_cell? w _ hx186_3)).trans hx186_3
                replace hx186_4 := (HB.out.cell (World.block_lt_of_cell? w _ hx186_4)).trans hx186_4
                replace p186 := eq_true p186
                replace q186 := eq_true q186
                go_wp2_with (first | ((with_reducible refine gate_dst (N := 6) rfl ?_); refine box_event ?hg (N := 6) ?hd (cs := #[.string (⟨#[]⟩ : ByteArray), .int .i64 0, .int .i64 0, .int .i64 0, .int .i64 0]) (t := 80) ?hr ?_; (case hd => rfl); (case hg => rfl); (case hr => first | (go_simp; done) | (go_simp; rfl)); intro gb187 hg w10 hbox hb; replace HO_4 := Aside0.mk (Kd.R_below (by (with_reducible repeat (first | apply Kd.R_alloc | apply Kd.R_drewN | apply Kd.R_drew)); exact HO_4.out) hb); have BK187 := Aside0.mk (hbox); have GW187 := Aside0.mk ((by rw [hg]; exact (below_size BA) : w.heap.size ≤ gb187)); have GE187 := Aside0.mk ((by rw [hg]; exact (below_size BA) : w.heap.size ≤ gb187)); replace HB := Aside0.mk (below_step BA hb); clear hb hbox hg; have hcz11_0 := bcv BK187.out 0 (.string (⟨#[]⟩ : ByteArray)); have hcz11_1 := bcv BK187.out 1 (.int .i64 0); have hcz11_2 := bcv BK187.out 2 (.int .i64 0); have hcz11_3 := bcv BK187.out 3 (.int .i64 0); have hcz11_4 := bcv BK187.out 4 (.int .i64 0); have hfz11 := blk_frozen BK187.out) | ((with_reducible refine gate_store (t := 80) (p := 6) rfl ?_); refine store_event (t := 80) (p := 6) (v := ?vo_w12) (w1 := (((((w10.setCell ⟨gb187, 0, none⟩ (.string ((rd_T80 l0 x12_1).f0))).setCell ⟨gb187, 1, none⟩ (.int .i64 ((rd_T80 l0 x12_1).f1))).setCell ⟨gb187, 2, none⟩ (.int .i64 ((rd_T80 l0 x12_1).f2))).setCell ⟨gb187, 3, none⟩ (.int .i64 ((rd_T80 l0 x12_1).f3))).setCell ⟨gb187, 4, none⟩ (.int .i64 ((rd_T80 l0 x12_1).f4)))) ?hg ?ho ?hn ?hr ?_; (case ho => rfl); (case hg => rfl); (case hn => rfl); (case hr => first | (go_simp; done) | (go_simp; rfl)); intro w12 hw; have n0_ : Aside0 (Kd.R (Kd.int .i64) 3 w12 w.heap.size (fun _ => True) u4 x4_1) := ⟨(by rw [hw]; exact (by (with_reducible repeat (first | apply Kd.R_alloc | apply Kd.R_drewN | apply Kd.R_drew)); exact Kd.R_mono (Kd.R_far (p := ⟨gb187, 4, none⟩) (Kd.R_far (p := ⟨gb187, 3, none⟩) (Kd.R_far (p := ⟨gb187, 2, none⟩) (Kd.R_far (p := ⟨gb187, 1, none⟩) (Kd.R_far (p := ⟨gb187, 0, none⟩) (Kd.R_types HO_4.out BK187.out (by decide)) (fun _ hk => hk.2) (.string ((rd_T80 l0 x12_1).f0))) (fun _ hk => hk.2) (.int .i64 ((rd_T80 l0 x12_1).f1))) (fun _ hk => hk.2) (.int .i64 ((rd_T80 l0 x12_1).f2))) (fun _ hk => hk.2) (.int .i64 ((rd_T80 l0 x12_1).f3))) (fun _ hk => hk.2) (.int .i64 ((rd_T80 l0 x12_1).f4))) (fun _ hk => trivial)))⟩; have n1_ : Aside0 (w12.heap[gb187]? = some (.cells #[.string ((rd_T80 l0 x12_1).f0), .int .i64 ((rd_T80 l0 x12_1).f1), .int .i64 ((rd_T80 l0 x12_1).f2), .int .i64 ((rd_T80 l0 x12_1).f3), .int .i64 ((rd_T80 l0 x12_1).f4)] 80 (0, 0))) := ⟨(by rw [hw]; exact (by (with_reducible repeat (first | refine blk_drewN ?_ _ | refine blk_drew ?_ | refine blk_alloc ?_ _)); refine blk_put (cs := #[.string ((rd_T80 l0 x12_1).f0), .int .i64 ((rd_T80 l0 x12_1).f1), .int .i64 ((rd_T80 l0 x12_1).f2), .int .i64 ((rd_T80 l0 x12_1).f3), .int .i64 0]) ?_ 4 _ rfl; (with_reducible repeat (first | refine blk_drewN ?_ _ | refine blk_drew ?_ | refine blk_alloc ?_ _)); refine blk_put (cs := #[.string ((rd_T80 l0 x12_1).f0), .int .i64 ((rd_T80 l0 x12_1).f1), .int .i64 ((rd_T80 l0 x12_1).f2), .int .i64 0, .int .i64 0]) ?_ 3 _ rfl; (with_reducible repeat (first | refine blk_drewN ?_ _ | refine blk_drew ?_ | refine blk_alloc ?_ _)); refine blk_put (cs := #[.string ((rd_T80 l0 x12_1).f0), .int .i64 ((rd_T80 l0 x12_1).f1), .int .i64 0, .int .i64 0, .int .i64 0]) ?_ 2 _ rfl; (with_reducible repeat (first | refine blk_drewN ?_ _ | refine blk_drew ?_ | refine blk_alloc ?_ _)); refine blk_put (cs := #[.string ((rd_T80 l0 x12_1).f0), .int .i64 0, .int .i64 0, .int .i64 0, .int .i64 0]) ?_ 1 _ rfl; (with_reducible repeat (first | refine blk_drewN ?_ _ | refine blk_drew ?_ | refine blk_alloc ?_ _)); refine blk_put (cs := #[.string (⟨#[]⟩ : ByteArray), .int .i64 0, .int .i64 0, .int .i64 0, .int .i64 0]) ?_ 0 _ rfl; (with_reducible repeat (first | refine blk_drewN ?_ _ | refine blk_drew ?_ | refine blk_alloc ?_ _)); exact BK187.out))⟩; have n2_ : Aside0 (Below w.heap.size w w12) := ⟨(by rw [hw]; exact BA)⟩; clear hw; clear HO_4; clear BK187; clear HB; have HO_4 := n0_; have BK187 := n1_; have HB := n2_; clear n0_ n1_ n2_; have hcz13_0 := bcv BK187.out 0 (.string ((rd_T80 l0 x12_1).f0)); have hcz13_1 := bcv BK187.out 1 (.int .i64 ((rd_T80 l0 x12_1).f1)); have hcz13_2 := bcv BK187.out 2 (.int .i64 ((rd_T80 l0 x12_1).f2)); have hcz13_3 := bcv BK187.out 3 (.int .i64 ((rd_T80 l0 x12_1).f3)); have hcz13_4 := bcv BK187.out 4 (.int .i64 ((rd_T80 l0 x12_1).f4)); have hfz13 := blk_frozen BK187.out; obtain ⟨Ao14, co14, eo14⟩ := Kd.R_slice HO_4.out; subst eo14) | ((with_reducible refine gate_callee (f := 61) rfl ?_); refine gK (some 22) Try.func61 #[.slice Ao14 x4_1.length co14, .int .i64 ((rd_T80 l0 x12_1).f1)] rfl rfl rfl ?_; (with_reducible refine (spec_l1Put.calls k1 (fun k_ => some k_ = (.slice Ao14 x4_1.length co14 : Value).ownBlock) (.slice Ao14 x4_1.length co14) x4_1 ((rd_T80 l0 x12_1).f1) t188 w _ ?side1 ?side2 A9.out).mono ?_); (case side1 => repeat (first | (with_reducible first | exact HB.out | apply below_alloc | apply pw_below_drewN | apply below_drew1 | refine below_set ?_ GE187.out) | exact HB.out)); (case side2 => exact Kd.R_tight rfl HO_4.out); rintro e w15 ⟨v189, rfl, ho0, hb, hkp⟩; refine ⟨_, rfl, ?_⟩; have n0_ := Aside0.mk (blk_kept (bk BK187.out) hkp (fun hs_ => (fun e_ => (Kd.R_ne HO_4.out BK187.out (by decide)) e_) hs_)); have n1_ := Aside0.mk (Kd.R_mono (ok' := fun k_ => True) ho0 (fun k_ hk_ => trivial)); have n2_ := Aside0.mk (hb); clear BK187; clear HB; clear HO_4; have BK187 := n0_; have HO190 := n1_; have HB := n2_; clear n0_ n1_ n2_; (try clear hb); (try clear hkp); (try clear ho0)))
                go_roundg k1
                case measure => have := HK1.out; omega
                case rel => exact ⟨(t188), (wrap64 (x12_1 + 1)), EQ1, H', ⟨by have := HK1.out; omega⟩, ⟨by (with_reducible repeat (first | apply Kd.R_alloc | apply Kd.R_drewN | apply Kd.R_drew)); exact HO190.out⟩, ⟨BA⟩⟩
              · rw [if_neg c8] at H
                have c8b0 := decide_eq_false c8
                clear c8
                have H' := Aside0.mk H
                clear H
                have p186 : 0 ≤ (x12_1 : Int) := DT
                have q186 : x12_1 < (l0.length : Int) := DT
                obtain ⟨ad186, e186, hx186_0, hx186_1, hx186_2, hx186_3, hx186_4⟩ := at_T80 HR0.out x12_1 p186 q186
                cases e186
                replace hx186_0 := (HB.out.cell (World.block_lt_of_cell? w _ hx186_0)).trans hx186_0
                replace hx186_1 := (HB.out.cell (World.block_lt_of_cell? w _ hx186_1)).trans hx186_1
                replace hx186_2 := (HB.out.cell (World.block_lt_of_cell? w _ hx186_2)).trans hx186_2
                replace hx186_3 := (HB.out.cell (World.block_lt_of_cell? w _ hx186_3)).trans hx186_3
                replace hx186_4 := (HB.out.cell (World.block_lt_of_cell? w _ hx186_4)).trans hx186_4
                replace p186 := eq_true p186
                replace q186 := eq_true q186
                go_wp2_with (first | ((with_reducible refine gate_dst (N := 6) rfl ?_); refine box_event ?hg (N := 6) ?hd (cs := #[.string (⟨#[]⟩ : ByteArray), .int .i64 0, .int .i64 0, .int .i64 0, .int .i64 0]) (t := 80) ?hr ?_; (case hd => rfl); (case hg => rfl); (case hr => first | (go_simp; done) | (go_simp; rfl)); intro gb187 hg w16 hbox hb; replace HO_4 := Aside0.mk (Kd.R_below (by (with_reducible repeat (first | apply Kd.R_alloc | apply Kd.R_drewN | apply Kd.R_drew)); exact HO_4.out) hb); have BK187 := Aside0.mk (hbox); have GW187 := Aside0.mk ((by rw [hg]; exact (below_size BA) : w.heap.size ≤ gb187)); have GE187 := Aside0.mk ((by rw [hg]; exact (below_size BA) : w.heap.size ≤ gb187)); replace HB := Aside0.mk (below_step BA hb); clear hb hbox hg; have hcz17_0 := bcv BK187.out 0 (.string (⟨#[]⟩ : ByteArray)); have hcz17_1 := bcv BK187.out 1 (.int .i64 0); have hcz17_2 := bcv BK187.out 2 (.int .i64 0); have hcz17_3 := bcv BK187.out 3 (.int .i64 0); have hcz17_4 := bcv BK187.out 4 (.int .i64 0); have hfz17 := blk_frozen BK187.out))
                go_roundg k1
                case measure => have := HK1.out; omega
                case rel => exact ⟨(x4_1), (wrap64 (x12_1 + 1)), EQ1, H', ⟨by have := HK1.out; omega⟩, ⟨by (with_reducible repeat (first | apply Kd.R_alloc | apply Kd.R_drewN | apply Kd.R_drew)); exact Kd.R_mono (Kd.R_far (p := ⟨gb187, 4, none⟩) (Kd.R_far (p := ⟨gb187, 3, none⟩) (Kd.R_far (p := ⟨gb187, 2, none⟩) (Kd.R_far (p := ⟨gb187, 1, none⟩) (Kd.R_far (p := ⟨gb187, 0, none⟩) (Kd.R_types HO_4.out BK187.out (by decide)) (fun _ hk => hk.2) (.string ((rd_T80 l0 x12_1).f0))) (fun _ hk => hk.2) (.int .i64 ((rd_T80 l0 x12_1).f1))) (fun _ hk => hk.2) (.int .i64 ((rd_T80 l0 x12_1).f2))) (fun _ hk => hk.2) (.int .i64 ((rd_T80 l0 x12_1).f3))) (fun _ hk => hk.2) (.int .i64 ((rd_T80 l0 x12_1).f4))) (fun _ hk => trivial)⟩, ⟨BA⟩⟩
            · rw [if_neg c7] at H
              exact absurd H (by simp)
          · rw [if_neg c6] at H
            exact absurd H (by simp)
        · rw [if_neg c5] at H
          have c5b0 := decide_eq_false c5
          clear c5
          simp only [Option.some.injEq, Prod.mk.injEq] at H
          obtain ⟨rfl, rfl⟩ := H
          obtain ⟨Ao18, co18, eo18⟩ := Kd.R_slice HO_4.out
          subst eo18
          go_wp2
          go_ret2
          exact ⟨EQ, BA⟩
  · replace c3 := Bool.eq_false_iff.mpr c3
    subst c3
    have H1 : (some (0, false)) = some (r1, r2) := by rw [if_neg (show ¬ (false = true) by decide)] at H; exact H
    clear H
    have H := H1
    clear H1
    simp only [Option.some.injEq, Prod.mk.injEq] at H
    obtain ⟨rfl, rfl⟩ := H
    go_enter Try.func17, Try.ntmps17
    go_wp2_with (first | ((with_reducible refine gate_callee (f := 60) rfl ?_); refine gK (some 8) Try.func60 #[.slice A0 l0.length c0] rfl rfl rfl ?_; (with_reducible refine (spec_cdCode.calls k _ _ l0 false _ ?side1 ?side2 A2.out).mono ?_); (case side1 => exact cb HR0.out); (case side2 => exact HC0.out); rintro e w19 ⟨rfl, hb⟩; refine ⟨_, rfl, ?_⟩; replace HB := Aside0.mk (below_step BA hb); (try clear hb)))
    go_ret2
    exact ⟨EQ, BA⟩

/-! ### impl_TemporariesOf_1: function 66 -/
def impl_TemporariesOf_1.f (a0_0 : ByteArray) (a0_1 : Int) (a0_2 : Int) (a0_3 : Int) (a0_4 : Int) (x : Int) : Option (Bool) := some (a0_1 == x)
set_option maxHeartbeats 8000000 in
set_option maxRecDepth 100000 in
theorem impl_TemporariesOf_1.calls (a0_0 : ByteArray) (a0_1 : Int) (a0_2 : Int) (a0_3 : Int) (a0_4 : Int) (x : Int) (g : Nat) (r : Bool) (w : World) (hx : w.cell? ⟨g, 0, none⟩ = some (.int .i64 x)) (h : impl_TemporariesOf_1.f a0_0 a0_1 a0_2 a0_3 a0_4 x = some r) :
    Calls Try.prog 66 #[.agg #[.string a0_0, .int .i64 a0_1, .int .i64 a0_2, .int .i64 a0_3, .int .i64 a0_4], .pointer (some ⟨g, 0, none⟩)] w fun e w' => e = .returned (.bool r) ∧ Below w.heap.size w w' := by
  have hu80 := Try.underlying80
  have HB := Aside0.mk (Below.refl w.heap.size w)
  obtain rfl := Option.some.inj h
  clear h
  go_enter Try.func66, Try.ntmps66
  go_wp2_with (first | ((with_reducible refine gate_dst (N := 2) rfl ?_); refine box_event ?hg (N := 2) ?hd (cs := #[.string a0_0, .int .i64 a0_1, .int .i64 a0_2, .int .i64 a0_3, .int .i64 a0_4]) (t := 80) ?hr ?_; (case hd => rfl); (case hg => rfl); (case hr => first | (go_simp; done) | (go_simp; rfl)); intro gb226 hg w3 hbox hb; have BK226 := Aside0.mk (hbox); have GW226 := Aside0.mk ((by rw [hg]; exact (below_size BA) : w.heap.size ≤ gb226)); have GE226 := Aside0.mk ((by rw [hg]; exact (below_size BA) : w.heap.size ≤ gb226)); replace HB := Aside0.mk (below_step BA hb); clear hb hbox hg; have hcz4_0 := bcv BK226.out 0 (.string a0_0); have hcz4_1 := bcv BK226.out 1 (.int .i64 a0_1); have hcz4_2 := bcv BK226.out 2 (.int .i64 a0_2); have hcz4_3 := bcv BK226.out 3 (.int .i64 a0_3); have hcz4_4 := bcv BK226.out 4 (.int .i64 a0_4); have hfz4 := blk_frozen BK226.out; have hx9 := (HB.out.cell (World.block_lt_of_cell? w _ hx)).trans hx))
  go_ret
  exact ⟨EQ, BA⟩

/-! ### impl_TemporariesOf: function 19 -/
def slices_IndexFunc_impl_Instr_impl_Instr__impl_TemporariesOf_1.l0 : Nat → Int → List (S80) → Int → Int → Option (Int)
  | 0, _, _, _, _ => none
  | k + 1, cx, x0, x7, x8 => if x8 < x7 then (if 0 ≤ x8 then (if x8 < (x0.length : Int) then ((impl_TemporariesOf_1.f ((rd_T80 x0 x8).f0) ((rd_T80 x0 x8).f1) ((rd_T80 x0 x8).f2) ((rd_T80 x0 x8).f3) ((rd_T80 x0 x8).f4) cx).bind fun t229 => (if t229 = true then (some x8) else (slices_IndexFunc_impl_Instr_impl_Instr__impl_TemporariesOf_1.l0 k cx x0 x7 (wrap64 (x8 + 1))))) else (none)) else (none)) else (some (-1))
def slices_IndexFunc_impl_Instr_impl_Instr__impl_TemporariesOf_1.f (k : Nat) (cx : Int) (l0 : List (S80))  : Option (Int) := slices_IndexFunc_impl_Instr_impl_Instr__impl_TemporariesOf_1.l0 k cx l0 (l0.length : Int) 0
theorem slices_IndexFunc_impl_Instr_impl_Instr__impl_TemporariesOf_1.mono_l : ∀ k, (∀ q0 y0 y1 y2, LeO (slices_IndexFunc_impl_Instr_impl_Instr__impl_TemporariesOf_1.l0 k q0 y0 y1 y2) (slices_IndexFunc_impl_Instr_impl_Instr__impl_TemporariesOf_1.l0 (k + 1) q0 y0 y1 y2))
  | 0 => fun _ _ _ _ r h => by simp [slices_IndexFunc_impl_Instr_impl_Instr__impl_TemporariesOf_1.l0] at h
  | k + 1 => by
    have ih0 := slices_IndexFunc_impl_Instr_impl_Instr__impl_TemporariesOf_1.mono_l k
    · intro q0 y0 y1 y2
      unfold slices_IndexFunc_impl_Instr_impl_Instr__impl_TemporariesOf_1.l0
      repeat' first | (with_reducible first | exact ih0 _ _ _ _ | exact LeO.refl _ | exact LeO.none _ | refine LeO.ite ?_ ?_ | refine LeO.bind ?_ (fun _ => ?_)) | exact LeO.none _ | refine LeO.ite ?_ ?_ | refine LeO.bind ?_ (fun _ => ?_)
theorem slices_IndexFunc_impl_Instr_impl_Instr__impl_TemporariesOf_1.mono : ∀ q0 a0 k, LeO (slices_IndexFunc_impl_Instr_impl_Instr__impl_TemporariesOf_1.f k q0 a0) (slices_IndexFunc_impl_Instr_impl_Instr__impl_TemporariesOf_1.f (k + 1) q0 a0) := by
  intro q0 a0 k
  have ih0 := slices_IndexFunc_impl_Instr_impl_Instr__impl_TemporariesOf_1.mono_l k
  unfold slices_IndexFunc_impl_Instr_impl_Instr__impl_TemporariesOf_1.f
  repeat' first | (with_reducible first | exact ih0 _ _ _ _ | exact LeO.refl _ | exact LeO.none _ | refine LeO.ite ?_ ?_ | refine LeO.bind ?_ (fun _ => ?_)) | exact LeO.none _ | refine LeO.ite ?_ ?_ | refine LeO.bind ?_ (fun _ => ?_)
set_option maxHeartbeats 8000000 in
set_option maxRecDepth 100000 in
theorem slices_IndexFunc_impl_Instr_impl_Instr__impl_TemporariesOf_1.calls (k : Nat) (cx : Int) (gcx : Nat) (A0 : Option Addr) (c0 : Nat) (l0 : List (S80))  (r : Int) (w : World) (hxcx : w.cell? ⟨gcx, 0, none⟩ = some (.int .i64 cx)) (hr0 : Kd.C k80 w A0 l0.length l0) (hc0 : l0.length ≤ c0) (h : slices_IndexFunc_impl_Instr_impl_Instr__impl_TemporariesOf_1.f k cx l0 = some r) :
    Calls Try.prog 113 #[.slice A0 l0.length c0, .func (.func 66) #[] #[.pointer (some ⟨gcx, 0, none⟩)]] w fun e w' => e = .returned (.int .i64 r) ∧ Below w.heap.size w w' := by
  have hu80 := Try.underlying80
  have HR0 := Aside0.mk hr0
  have HC0 := Aside0.mk hc0
  clear hr0 hc0
  have HB := Aside0.mk (Below.refl w.heap.size w)
  have H : (slices_IndexFunc_impl_Instr_impl_Instr__impl_TemporariesOf_1.l0 k cx l0 (l0.length : Int) 0) = some r := h
  clear h
  have H' := Aside0.mk H
  clear H
  go_enter Try.func113, Try.ntmps113
  go_wp2
  go_loopg [8] k (fun kq v8 w' => ∃ (x8_1 : Int), v8 = .int .i64 x8_1 ∧ Aside0 (slices_IndexFunc_impl_Instr_impl_Instr__impl_TemporariesOf_1.l0 kq cx l0 (l0.length : Int) x8_1 = some r) ∧ Aside0 (kq ≤ k) ∧ Aside0 (Below w.heap.size w w'))
  case atStart => exact ⟨(0), EQ1, H', ⟨Nat.le_refl _⟩, ⟨BA⟩⟩
  case round =>
    clear H'
    (try clear c1); (try clear p2)
    obtain ⟨x8_1, rfl, HA, HK1, HB⟩ := hrel
    cases gk with
    | zero => exact absurd HA.out (by simp [slices_IndexFunc_impl_Instr_impl_Instr__impl_TemporariesOf_1.l0])
    | succ k1 =>
      have H := HA.out
      clear HA
      simp only [slices_IndexFunc_impl_Instr_impl_Instr__impl_TemporariesOf_1.l0] at H
      by_cases c3 : x8_1 < (l0.length : Int)
      · rw [if_pos c3] at H
        have c3b0 := decide_eq_true c3
        clear c3
        by_cases c4 : 0 ≤ x8_1
        · rw [if_pos c4] at H
          have c4b0 := decide_eq_true c4
          clear c4
          by_cases c5 : x8_1 < (l0.length : Int)
          · rw [if_pos c5] at H
            have c5b0 := decide_eq_true c5
            clear c5
            replace H := Option.bind_eq_some_iff.mp H
            obtain ⟨t229, A60, H⟩ := H
            replace H : (if t229 = true then (some x8_1) else (slices_IndexFunc_impl_Instr_impl_Instr__impl_TemporariesOf_1.l0 k1 cx l0 (l0.length : Int) (wrap64 (x8_1 + 1)))) = some r := H
            have A6 := Aside0.mk A60
            clear A60
            by_cases c7 : t229 = true
            · subst c7
              have H1 : (some x8_1) = some r := by rw [if_pos rfl] at H; exact H
              clear H
              have H := H1
              clear H1
              obtain rfl := Option.some.inj H
              have p228 : 0 ≤ (x8_1 : Int) := DT
              have q228 : x8_1 < (l0.length : Int) := DT
              obtain ⟨ad228, e228, hx228_0, hx228_1, hx228_2, hx228_3, hx228_4⟩ := at_T80 HR0.out x8_1 p228 q228
              cases e228
              replace hx228_0 := (HB.out.cell (World.block_lt_of_cell? w _ hx228_0)).trans hx228_0
              replace hx228_1 := (HB.out.cell (World.block_lt_of_cell? w _ hx228_1)).trans hx228_1
              replace hx228_2 := (HB.out.cell (World.block_lt_of_cell? w _ hx228_2)).trans hx228_2
              replace hx228_3 := (HB.out.cell (World.block_lt_of_cell? w _ hx228_3)).trans hx228_3
              replace hx228_4 := (HB.out.cell (World.block_lt_of_cell? w _ hx228_4)).trans hx228_4
              replace p228 := eq_true p228
              replace q228 := eq_true q228
              go_wp2_with (first | (go_at_call 66; (with_reducible refine (impl_TemporariesOf_1.calls ((rd_T80 l0 x8_1).f0) ((rd_T80 l0 x8_1).f1) ((rd_T80 l0 x8_1).f2) ((rd_T80 l0 x8_1).f3) ((rd_T80 l0 x8_1).f4) cx gcx true _ ?cxcx A6.out).mono ?_); (case cxcx => exact (HB.out.cell (World.block_lt_of_cell? w _ hxcx)).trans hxcx); rintro e w8 ⟨rfl, hb⟩; replace HB := Aside0.mk (below_step BA hb); (try clear hb)))
              go_ret
              exact ⟨EQ, BA⟩
            · replace c7 := Bool.eq_false_iff.mpr c7
              subst c7
              have H1 : (slices_IndexFunc_impl_Instr_impl_Instr__impl_TemporariesOf_1.l0 k1 cx l0 (l0.length : Int) (wrap64 (x8_1 + 1))) = some r := by rw [if_neg (show ¬ (false = true) by decide)] at H; exact H
              clear H
              have H := H1
              clear H1
              have H' := Aside0.mk H
              clear H
              have p228 : 0 ≤ (x8_1 : Int) := DT
              have q228 : x8_1 < (l0.length : Int) := DT
              obtain ⟨ad228, e228, hx228_0, hx228_1, hx228_2, hx228_3, hx228_4⟩ := at_T80 HR0.out x8_1 p228 q228
              cases e228
              replace hx228_0 := (HB.out.cell (World.block_lt_of_cell? w _ hx228_0)).trans hx228_0
              replace hx228_1 := (HB.out.cell (World.block_lt_of_cell? w _ hx228_1)).trans hx228_1
              replace hx228_2 := (HB.out.cell (World.block_lt_of_cell? w _ hx228_2)).trans hx228_2
              replace hx228_3 := (HB.out.cell (World.block_lt_of_cell? w _ hx228_3)).trans hx228_3
              replace hx228_4 := (HB.out.cell (World.block_lt_of_cell? w _ hx228_4)).trans hx228_4
              replace p228 := eq_true p228
              replace q228 := eq_true q228
              go_wp2_with (first | (go_at_call 66; (with_reducible refine (impl_TemporariesOf_1.calls ((rd_T80 l0 x8_1).f0) ((rd_T80 l0 x8_1).f1) ((rd_T80 l0 x8_1).f2) ((rd_T80 l0 x8_1).f3) ((rd_T80 l0 x8_1).f4) cx gcx false _ ?cxcx A6.out).mono ?_); (case cxcx => exact (HB.out.cell (World.block_lt_of_cell? w _ hxcx)).trans hxcx); rintro e w9 ⟨rfl, hb⟩; replace HB := Aside0.mk (below_step BA hb); (try clear hb)))
              go_roundg k1
              case measure => have := HK1.out; omega
              case rel => exact ⟨(wrap64 (x8_1 + 1)), EQ1, H', ⟨by have := HK1.out; omega⟩, ⟨BA⟩⟩
          · rw [if_neg c5] at H
            exact absurd H (by simp)
        · rw [if_neg c4] at H
          exact absurd H (by simp)
      · rw [if_neg c3] at H
        have c3b0 := decide_eq_false c3
        clear c3
        obtain rfl := Option.some.inj H
        go_wp2
        go_ret
        exact ⟨EQ, BA⟩

def slices_ContainsFunc_impl_Instr_impl_Instr__impl_TemporariesOf_1.f (k : Nat) (cx : Int) (l0 : List (S80))  : Option (Bool) := (slices_IndexFunc_impl_Instr_impl_Instr__impl_TemporariesOf_1.f k cx l0).bind fun t230 => (some (decide (t230 ≥ 0)))
theorem slices_ContainsFunc_impl_Instr_impl_Instr__impl_TemporariesOf_1.mono : ∀ q0 a0 k, LeO (slices_ContainsFunc_impl_Instr_impl_Instr__impl_TemporariesOf_1.f k q0 a0) (slices_ContainsFunc_impl_Instr_impl_Instr__impl_TemporariesOf_1.f (k + 1) q0 a0) := by
  intro q0 a0 k
  unfold slices_ContainsFunc_impl_Instr_impl_Instr__impl_TemporariesOf_1.f
  repeat' first | (with_reducible first | exact slices_IndexFunc_impl_Instr_impl_Instr__impl_TemporariesOf_1.mono _ _ _ | exact LeO.refl _ | exact LeO.none _ | refine LeO.ite ?_ ?_ | refine LeO.bind ?_ (fun _ => ?_)) | exact LeO.none _ | refine LeO.ite ?_ ?_ | refine LeO.bind ?_ (fun _ => ?_)
set_option maxHeartbeats 8000000 in
set_option maxRecDepth 100000 in
theorem slices_ContainsFunc_impl_Instr_impl_Instr__impl_TemporariesOf_1.calls (k : Nat) (cx : Int) (gcx : Nat) (A0 : Option Addr) (c0 : Nat) (l0 : List (S80))  (r : Bool) (w : World) (hxcx : w.cell? ⟨gcx, 0, none⟩ = some (.int .i64 cx)) (hr0 : Kd.C k80 w A0 l0.length l0) (hc0 : l0.length ≤ c0) (h : slices_ContainsFunc_impl_Instr_impl_Instr__impl_TemporariesOf_1.f k cx l0 = some r) :
    Calls Try.prog 65 #[.slice A0 l0.length c0, .func (.func 66) #[] #[.pointer (some ⟨gcx, 0, none⟩)]] w fun e w' => e = .returned (.bool r) ∧ Below w.heap.size w w' := by
  have HR0 := Aside0.mk hr0
  have HC0 := Aside0.mk hc0
  clear hr0 hc0
  have HB := Aside0.mk (Below.refl w.heap.size w)
  have H : ((slices_IndexFunc_impl_Instr_impl_Instr__impl_TemporariesOf_1.f k cx l0).bind fun t230 => (some (decide (t230 ≥ 0)))) = some r := h
  clear h
  replace H := Option.bind_eq_some_iff.mp H
  obtain ⟨t230, A30, H⟩ := H
  replace H : (some (decide (t230 ≥ 0))) = some r := H
  have A3 := Aside0.mk A30
  clear A30
  obtain rfl := Option.some.inj H
  go_enter Try.func65, Try.ntmps65
  go_wp2_with (first | ((with_reducible refine gate_callee (f := 113) rfl ?_); refine gK (some 7) Try.func113 #[.slice A0 l0.length c0, .func (.func 66) #[] #[.pointer (some ⟨gcx, 0, none⟩)]] rfl rfl rfl ?_; (with_reducible refine (slices_IndexFunc_impl_Instr_impl_Instr__impl_TemporariesOf_1.calls k cx gcx _ _ l0 t230 _ ?cxcx ?side1 ?side2 A3.out).mono ?_); (case cxcx => exact (HB.out.cell (World.block_lt_of_cell? w _ hxcx)).trans hxcx); (case side1 => exact cb HR0.out); (case side2 => exact HC0.out); rintro e w4 ⟨rfl, hb⟩; refine ⟨_, rfl, ?_⟩; replace HB := Aside0.mk (below_step BA hb); (try clear hb)))
  go_ret
  exact ⟨EQ, BA⟩



def impl_TemporariesOf.l0 : Nat → List (S80) → Int → Int → Option (Int × Bool)
  | 0, _, _, _ => none
  | k + 1, x0, m, x => if x < 6 then ((slices_ContainsFunc_impl_Instr_impl_Instr__impl_TemporariesOf_1.f k x x0).bind fun t => ((impl_bit.f t).bind fun b => impl_TemporariesOf.l0 k x0 (wrap64 (m + b)) (wrap64 (x + 1)))) else (some (m, true))
def impl_TemporariesOf.f (k : Nat) (l0 : List (S80)) : Option (Int × Bool) := (impl_IsCode.f k l0).bind fun t => (if t = true then (impl_TemporariesOf.l0 k l0 0 2) else (some (0, false)))
theorem impl_TemporariesOf.mono_l : ∀ k, (∀ y0 y1 y2, LeO (impl_TemporariesOf.l0 k y0 y1 y2) (impl_TemporariesOf.l0 (k + 1) y0 y1 y2))
  | 0 => fun _ _ _ r h => by simp [impl_TemporariesOf.l0] at h
  | k + 1 => by
    have ih0 := impl_TemporariesOf.mono_l k
    · intro y0 y1 y2
      unfold impl_TemporariesOf.l0
      repeat' first | (with_reducible first | exact ih0 _ _ _ | exact slices_ContainsFunc_impl_Instr_impl_Instr__impl_TemporariesOf_1.mono _ _ _ | exact LeO.refl _ | exact LeO.none _ | refine LeO.ite ?_ ?_ | refine LeO.bind ?_ (fun _ => ?_)) | exact LeO.none _ | refine LeO.ite ?_ ?_ | refine LeO.bind ?_ (fun _ => ?_)
theorem impl_TemporariesOf.mono : ∀ a0 k, LeO (impl_TemporariesOf.f k a0) (impl_TemporariesOf.f (k + 1) a0) := by
  intro a0 k
  have ih0 := impl_TemporariesOf.mono_l k
  unfold impl_TemporariesOf.f
  repeat' first | (with_reducible first | exact ih0 _ _ _ | exact impl_IsCode.mono _ _ | exact LeO.refl _ | exact LeO.none _ | refine LeO.ite ?_ ?_ | refine LeO.bind ?_ (fun _ => ?_)) | exact LeO.none _ | refine LeO.ite ?_ ?_ | refine LeO.bind ?_ (fun _ => ?_)
set_option maxHeartbeats 8000000 in
set_option maxRecDepth 100000 in
theorem impl_TemporariesOf.calls (k : Nat) (A0 : Option Addr) (c0 : Nat) (l0 : List (S80)) (r1 : Int) (r2 : Bool) (w : World) (hr0 : Kd.C k80 w A0 l0.length l0) (hc0 : l0.length ≤ c0) (h : impl_TemporariesOf.f k l0 = some (r1, r2)) :
    Calls Try.prog 19 #[.slice A0 l0.length c0] w fun e w' => e = .returned (.tuple #[.int .i64 r1, .bool r2]) ∧ Below w.heap.size w w' := by
  have HR0 := Aside0.mk hr0
  have HC0 := Aside0.mk hc0
  clear hr0 hc0
  have HB := Aside0.mk (Below.refl w.heap.size w)
  have H : ((impl_IsCode.f k l0).bind fun t => (if t = true then (impl_TemporariesOf.l0 k l0 0 2) else (some (0, false)))) = some (r1, r2) := h
  clear h
  replace H := Option.bind_eq_some_iff.mp H
  obtain ⟨t, A20, H⟩ := H
  have A2 := Aside0.mk A20
  clear A20
  cases t with
  | true =>
    replace H : impl_TemporariesOf.l0 k l0 0 2 = some (r1, r2) := H
    have H' := Aside0.mk H
    clear H
    go_enter Try.func19, Try.ntmps19
    go_wp2_with (first | ((with_reducible refine gate_callee (f := 63) rfl ?_); refine gK (some 7) Try.func63 #[.slice A0 l0.length c0] rfl rfl rfl ?_; (with_reducible refine (impl_IsCode.calls k _ _ l0 true _ ?side1 ?side2 A2.out).mono ?_); (case side1 => exact cb HR0.out); (case side2 => exact HC0.out); rintro e w5 ⟨rfl, hb⟩; refine ⟨_, rfl, ?_⟩; replace HB := Aside0.mk (below_step BA hb); (try clear hb)) | ((with_reducible refine gate_dst (N := 5) rfl ?_); refine box_event ?hg (N := 5) ?hd (cs := #[.int .i64 0]) (t := 3) ?hr ?_; (case hd => rfl); (case hg => rfl); (case hr => first | (go_simp; done) | (go_simp; rfl)); intro gb1 hg w3 hbox hb; have BK1 := Aside0.mk (hbox); have GW1 := Aside0.mk ((by rw [hg]; exact (below_size BA) : w.heap.size ≤ gb1)); replace HB := Aside0.mk (below_step BA hb); clear hb hbox hg; have hcz1 := bcv BK1.out 0 (.int .i64 0); have hfz1 := blk_frozen BK1.out) | ((with_reducible refine gate_store (t := 3) (p := 5) rfl ?_); refine store_event (t := 3) (p := 5) (v := ?vo) (w1 := (w3.setCell ⟨gb1, 0, none⟩ (.int .i64 2))) ?hg ?ho ?hn ?hr ?_; (case ho => rfl); (case hg => rfl); (case hn => rfl); (case hr => first | (go_simp; done) | (go_simp; rfl)); intro w11 hw; have BK2 := Aside0.mk ((by rw [hw]; exact blk_put BK1.out 0 _ rfl : w11.heap[gb1]? = some (.cells #[.int .i64 2] 3 (0, 0)))); replace HB := Aside0.mk ((by rw [hw]; exact below_set (HB.out) GW1.out : Below w.heap.size w w11)); clear hw hcz1 hfz1))
    go_simp
    go_loopg [4, 5] k (fun kq v4 v5 w' => ∃ (m x : Int) (g : Nat), v4 = .int .i64 m ∧ v5 = .pointer (some ⟨g, 0, none⟩) ∧ Aside0 (impl_TemporariesOf.l0 kq l0 m x = some (r1, r2)) ∧ Aside0 (kq ≤ k) ∧ Aside0 (w.heap.size ≤ g) ∧ Aside0 (w'.heap[g]? = some (.cells #[.int .i64 x] 3 (0, 0))) ∧ Aside0 (Below w.heap.size w w'))
    case atStart => exact ⟨0, 2, gb1, EQ1, EQ1, H', ⟨Nat.le_refl _⟩, GW1, BK2, HB⟩
    case round =>
      clear H' BK1 GW1 BK2 HB
      obtain ⟨m, x, g, rfl, rfl, HA, HK1, GW, BK, HB⟩ := hrel
      have hcz := bcv BK.out 0 (.int .i64 x)
      have hfz := blk_frozen BK.out
      cases gk with
      | zero => exact absurd HA.out (by simp [impl_TemporariesOf.l0])
      | succ k1 =>
        have H := HA.out
        clear HA
        simp only [impl_TemporariesOf.l0] at H
        by_cases c3 : x < 6
        · rw [if_pos c3] at H
          have c3b0 := decide_eq_true c3
          clear c3
          replace H := Option.bind_eq_some_iff.mp H
          obtain ⟨t, A30, H⟩ := H
          have A3 := Aside0.mk A30
          clear A30
          replace H := Option.bind_eq_some_iff.mp H
          obtain ⟨b, A40, H⟩ := H
          have A4 := Aside0.mk A40
          clear A40
          have H' := Aside0.mk H
          clear H
          go_wp2_with (first | ((with_reducible refine gate_callee (f := 65) rfl ?_); refine gK (some 16) Try.func65 #[.slice A0 l0.length c0, .func (.func 66) #[] #[.pointer (some ⟨g, 0, none⟩)]] rfl rfl rfl ?_; (with_reducible refine (slices_ContainsFunc_impl_Instr_impl_Instr__impl_TemporariesOf_1.calls k1 x g _ _ l0 t _ ?sidex ?side1 ?side2 A3.out).mono ?_); (case sidex => exact hcz); (case side1 => exact cb (Kd.C_below HR0.out HB.out)); (case side2 => exact HC0.out); rintro e w6 ⟨rfl, hb⟩; refine ⟨_, rfl, ?_⟩; replace BK := Aside0.mk (bk BK.out hb); replace hcz := bcv BK.out 0 (.int .i64 x); replace hfz := blk_frozen BK.out; replace HB := Aside0.mk (below_step BA hb); (try clear hb)) | ((with_reducible refine gate_callee (f := 64) rfl ?_); refine gK (some 17) Try.func64 #[.bool t] rfl rfl rfl ?_; (with_reducible refine (impl_bit.calls t b _ A4.out).mono ?_); rintro e w7 ⟨rfl, hb⟩; refine ⟨_, rfl, ?_⟩; replace BK := Aside0.mk (bk BK.out hb.below); replace hcz := bcv BK.out 0 (.int .i64 x); replace hfz := blk_frozen BK.out; replace HB := Aside0.mk (below_step BA hb.below); (try clear hb)) | ((with_reducible refine gate_dst (N := 5) rfl ?_); refine box_event ?hg (N := 5) ?hd (cs := #[.int .i64 0]) (t := 3) ?hr ?_; (case hd => rfl); (case hg => rfl); (case hr => first | (go_simp; done) | (go_simp; rfl)); intro gb2 hg w8 hbox hb; have BK3 := Aside0.mk (hbox); have GW3 := Aside0.mk ((by rw [hg]; exact (below_size BA) : w.heap.size ≤ gb2)); replace HB := Aside0.mk (below_step BA hb); clear hb hbox hg; have hcz3 := bcv BK3.out 0 (.int .i64 0); have hfz3 := blk_frozen BK3.out))
          go_roundg k1
          case measure => have := HK1.out; omega
          case rel => exact ⟨(wrap64 (m + b)), (wrap64 (x + 1)), gb2, EQ1, EQ1, H', ⟨by have := HK1.out; omega⟩, GW3, ⟨blk_put (blk_put BK3.out 0 (.int .i64 x) rfl) 0 _ rfl⟩, ⟨below_set (below_set HB.out GW3.out) GW3.out⟩⟩
        · rw [if_neg c3] at H
          have c3b0 := decide_eq_false c3
          clear c3
          simp only [Option.some.injEq, Prod.mk.injEq] at H
          obtain ⟨rfl, rfl⟩ := H
          go_wp2
          go_ret2
          exact ⟨EQ, BA⟩
  | false =>
    have H1 : (some (0, false)) = some (r1, r2) := by rw [if_neg (show ¬ (false = true) by decide)] at H; exact H
    clear H
    have H := H1
    clear H1
    simp only [Option.some.injEq, Prod.mk.injEq] at H
    obtain ⟨rfl, rfl⟩ := H
    go_enter Try.func19, Try.ntmps19
    go_wp2_with (first | ((with_reducible refine gate_callee (f := 63) rfl ?_); refine gK (some 7) Try.func63 #[.slice A0 l0.length c0] rfl rfl rfl ?_; (with_reducible refine (impl_IsCode.calls k _ _ l0 false _ ?side1 ?side2 A2.out).mono ?_); (case side1 => exact cb HR0.out); (case side2 => exact HC0.out); rintro e w5 ⟨rfl, hb⟩; refine ⟨_, rfl, ?_⟩; replace HB := Aside0.mk (below_step BA hb); (try clear hb)))
    go_ret2
    exact ⟨EQ, BA⟩

/-! ### laws_FnExactTemporariesOf: function 4 -/
def laws_FnExactTemporariesOf.j0 : Nat → List (S78) → List (S80) → Bool → Option (Bool)
  | 0, _, _, _ => none
  | k + 1, x0, x6, x34 => if x34 = true then (some false) else ((laws_toInstrS.f k x0).bind fun t248 => ((laws_eqInstrS.f k x6 t248).bind fun t251 => (if t251 = true then (some true) else (some false))))
def laws_FnExactTemporariesOf.f (k : Nat) (l0 : List (S78)) : Option (Bool) := (laws_szInstrS.f k l0 1048576).bind fun t237 => (if t237 < 0 then (some true) else ((laws_toInstrS.f k l0).bind fun t238 => ((spec_TemporariesOf.f k t238).bind fun bt241 => ((laws_toInstrS.f k l0).bind fun t243 => ((impl_TemporariesOf.f k t243).bind fun bt246 => (if bt246.1 = bt241.1 then (laws_FnExactTemporariesOf.j0 k l0 t243 (bt246.2 != bt241.2)) else (laws_FnExactTemporariesOf.j0 k l0 t243 true)))))))
theorem laws_FnExactTemporariesOf.mono_l : ∀ k, (∀ y0 y1 y2, LeO (laws_FnExactTemporariesOf.j0 k y0 y1 y2) (laws_FnExactTemporariesOf.j0 (k + 1) y0 y1 y2))
  | 0 => fun _ _ _ r h => by simp [laws_FnExactTemporariesOf.j0] at h
  | k + 1 => by
    have ih0 := laws_FnExactTemporariesOf.mono_l k
    · intro y0 y1 y2
      unfold laws_FnExactTemporariesOf.j0
      repeat' first | (with_reducible first | exact ih0 _ _ _ | exact impl_TemporariesOf.mono _ _ | exact laws_eqInstrS.mono _ _ _ | exact laws_szInstrS.mono _ _ _ | exact laws_toInstrS.mono _ _ | exact spec_TemporariesOf.mono _ _ | exact LeO.refl _ | exact LeO.none _ | refine LeO.ite ?_ ?_ | refine LeO.bind ?_ (fun _ => ?_)) | exact LeO.none _ | refine LeO.ite ?_ ?_ | refine LeO.bind ?_ (fun _ => ?_)
theorem laws_FnExactTemporariesOf.mono : ∀ a0 k, LeO (laws_FnExactTemporariesOf.f k a0) (laws_FnExactTemporariesOf.f (k + 1) a0) := by
  intro a0 k
  have ih0 := laws_FnExactTemporariesOf.mono_l k
  unfold laws_FnExactTemporariesOf.f
  repeat' first | (with_reducible first | exact ih0 _ _ _ | exact impl_TemporariesOf.mono _ _ | exact laws_eqInstrS.mono _ _ _ | exact laws_szInstrS.mono _ _ _ | exact laws_toInstrS.mono _ _ | exact spec_TemporariesOf.mono _ _ | exact LeO.refl _ | exact LeO.none _ | refine LeO.ite ?_ ?_ | refine LeO.bind ?_ (fun _ => ?_)) | exact LeO.none _ | refine LeO.ite ?_ ?_ | refine LeO.bind ?_ (fun _ => ?_)
set_option maxHeartbeats 8000000 in
set_option maxRecDepth 100000 in
theorem laws_FnExactTemporariesOf.calls (k : Nat) (A0 : Option Addr) (c0 : Nat) (l0 : List (S78)) (r : Bool) (w : World) (hr0 : Kd.C k78 w A0 l0.length l0) (hc0 : l0.length ≤ c0) (h : laws_FnExactTemporariesOf.f k l0 = some r) :
    Calls Try.prog 4 #[.slice A0 l0.length c0] w fun e w' => e = .returned (.bool r) ∧ Below w.heap.size w w' := by
  have HR0 := Aside0.mk hr0
  have HC0 := Aside0.mk hc0
  clear hr0 hc0
  have HB := Aside0.mk (Below.refl w.heap.size w)
  have H : ((laws_szInstrS.f k l0 1048576).bind fun t237 => (if t237 < 0 then (some true) else ((laws_toInstrS.f k l0).bind fun t238 => ((spec_TemporariesOf.f k t238).bind fun bt241 => ((laws_toInstrS.f k l0).bind fun t243 => ((impl_TemporariesOf.f k t243).bind fun bt246 => (if bt246.1 = bt241.1 then (laws_FnExactTemporariesOf.j0 k l0 t243 (bt246.2 != bt241.2)) else (laws_FnExactTemporariesOf.j0 k l0 t243 true)))))))) = some r := h
  clear h
  replace H := Option.bind_eq_some_iff.mp H
  obtain ⟨t237, A20, H⟩ := H
  replace H : (if t237 < 0 then (some true) else ((laws_toInstrS.f k l0).bind fun t238 => ((spec_TemporariesOf.f k t238).bind fun bt241 => ((laws_toInstrS.f k l0).bind fun t243 => ((impl_TemporariesOf.f k t243).bind fun bt246 => (if bt246.1 = bt241.1 then (laws_FnExactTemporariesOf.j0 k l0 t243 (bt246.2 != bt241.2)) else (laws_FnExactTemporariesOf.j0 k l0 t243 true))))))) = some r := H
  have A2 := Aside0.mk A20
  clear A20
  by_cases c3 : t237 < 0
  · rw [if_pos c3] at H
    have c3b0 := decide_eq_true c3
    clear c3
    obtain rfl := Option.some.inj H
    go_enter Try.func4, Try.ntmps4
    go_wp2_with (first | ((with_reducible refine gate_callee (f := 16) rfl ?_); refine gK (some 11) Try.func16 #[.slice A0 l0.length c0, .int .i64 1048576] rfl rfl rfl ?_; (with_reducible refine (laws_szInstrS.calls k _ _ l0 1048576 t237 _ ?side1 ?side2 A2.out).mono ?_); (case side1 => exact cb HR0.out); (case side2 => exact HC0.out); rintro e w4 ⟨rfl, hb⟩; refine ⟨_, rfl, ?_⟩; replace HB := Aside0.mk (below_step BA hb); (try clear hb)))
    go_ret
    exact ⟨EQ, BA⟩
  · rw [if_neg c3] at H
    have c3b0 := decide_eq_false c3
    clear c3
    replace H := Option.bind_eq_some_iff.mp H
    obtain ⟨t238, A50, H⟩ := H
    replace H : ((spec_TemporariesOf.f k t238).bind fun bt241 => ((laws_toInstrS.f k l0).bind fun t243 => ((impl_TemporariesOf.f k t243).bind fun bt246 => (if bt246.1 = bt241.1 then (laws_FnExactTemporariesOf.j0 k l0 t243 (bt246.2 != bt241.2)) else (laws_FnExactTemporariesOf.j0 k l0 t243 true))))) = some r := H
    have A5 := Aside0.mk A50
    clear A50
    replace H := Option.bind_eq_some_iff.mp H
    obtain ⟨⟨t241, t242⟩, A60, H⟩ := H
    replace H : ((laws_toInstrS.f k l0).bind fun t243 => ((impl_TemporariesOf.f k t243).bind fun bt246 => (if bt246.1 = t241 then (laws_FnExactTemporariesOf.j0 k l0 t243 (bt246.2 != t242)) else (laws_FnExactTemporariesOf.j0 k l0 t243 true)))) = some r := H
    have A6 := Aside0.mk A60
    clear A60
    replace H := Option.bind_eq_some_iff.mp H
    obtain ⟨t243, A70, H⟩ := H
    replace H : ((impl_TemporariesOf.f k t243).bind fun bt246 => (if bt246.1 = t241 then (laws_FnExactTemporariesOf.j0 k l0 t243 (bt246.2 != t242)) else (laws_FnExactTemporariesOf.j0 k l0 t243 true))) = some r := H
    have A7 := Aside0.mk A70
    clear A70
    replace H := Option.bind_eq_some_iff.mp H
    obtain ⟨⟨t246, t247⟩, A80, H⟩ := H
    replace H : (if t246 = t241 then (laws_FnExactTemporariesOf.j0 k l0 t243 (t247 != t242)) else (laws_FnExactTemporariesOf.j0 k l0 t243 true)) = some r := H
    have A8 := Aside0.mk A80
    clear A80
    have HC9 := Aside0.mk H
    clear H
    go_enter Try.func4, Try.ntmps4
    go_upto_region 8 with (first | ((with_reducible refine gate_callee (f := 16) rfl ?_); refine gK (some 11) Try.func16 #[.slice A0 l0.length c0, .int .i64 1048576] rfl rfl rfl ?_; (with_reducible refine (laws_szInstrS.calls k _ _ l0 1048576 t237 _ ?side1 ?side2 A2.out).mono ?_); (case side1 => exact cb HR0.out); (case side2 => exact HC0.out); rintro e w10 ⟨rfl, hb⟩; refine ⟨_, rfl, ?_⟩; replace HB := Aside0.mk (below_step BA hb); (try clear hb)) | ((with_reducible refine gate_callee (f := 18) rfl ?_); refine gK (some 16) Try.func18 #[.slice A0 l0.length c0] rfl rfl rfl ?_; (with_reducible refine (laws_toInstrS.calls k _ _ l0 t238 _ ?side1 ?side2 A5.out).mono ?_); (case side1 => exact cb (Kd.C_below HR0.out HB.out)); (case side2 => exact HC0.out); rintro e w11 ⟨v239, rfl, ho0, hb⟩; refine ⟨_, rfl, ?_⟩; have HO240 := Aside0.mk (Kd.R_lower ho0 (below_size BA)); replace HB := Aside0.mk (below_step BA hb); (try clear hb); (try clear ho0); obtain ⟨Ao12, co12, eo12⟩ := Kd.R_slice HO240.out; subst eo12) | ((with_reducible refine gate_callee (f := 17) rfl ?_); refine gK (some 17) Try.func17 #[.slice Ao12 t238.length co12] rfl rfl rfl ?_; (with_reducible refine (spec_TemporariesOf.calls k _ _ t238 t241 t242 _ ?side1 ?side2 A6.out).mono ?_); (case side1 => exact cb (Kd.R_reads' HO240.out).2.2); (case side2 => exact (Kd.R_reads' HO240.out).2.1); rintro e w13 ⟨rfl, hb⟩; refine ⟨_, rfl, ?_⟩; replace HO240 := Aside0.mk (Kd.R_below (by (with_reducible repeat (first | apply Kd.R_alloc | apply Kd.R_drewN | apply Kd.R_drew)); exact HO240.out) hb); replace HB := Aside0.mk (below_step BA hb); (try clear hb)) | ((with_reducible refine gate_callee (f := 18) rfl ?_); refine gK (some 21) Try.func18 #[.slice A0 l0.length c0] rfl rfl rfl ?_; (with_reducible refine (laws_toInstrS.calls k _ _ l0 t243 _ ?side1 ?side2 A7.out).mono ?_); (case side1 => exact cb (Kd.C_below HR0.out HB.out)); (case side2 => exact HC0.out); rintro e w14 ⟨v244, rfl, ho0, hb⟩; refine ⟨_, rfl, ?_⟩; have HO245 := Aside0.mk (Kd.R_lower (Kd.R_new' ho0 (Kd.R_lt (by (with_reducible repeat (first | apply Kd.R_alloc | apply Kd.R_drewN | apply Kd.R_drew)); exact HO240.out))) (below_size BA)); replace HO240 := Aside0.mk (Kd.R_elder' (by (with_reducible repeat (first | apply Kd.R_alloc | apply Kd.R_drewN | apply Kd.R_drew)); exact HO240.out) (Kd.R_base ho0) hb); replace HB := Aside0.mk (below_step BA hb); (try clear hb); (try clear ho0); obtain ⟨Ao15, co15, eo15⟩ := Kd.R_slice HO245.out; subst eo15) | ((with_reducible refine gate_callee (f := 19) rfl ?_); refine gK (some 24) Try.func19 #[.slice Ao15 t243.length co15] rfl rfl rfl ?_; (with_reducible refine (impl_TemporariesOf.calls k _ _ t243 t246 t247 _ ?side1 ?side2 A8.out).mono ?_); (case side1 => exact cb (Kd.R_reads' HO245.out).2.2); (case side2 => exact (Kd.R_reads' HO245.out).2.1); rintro e w16 ⟨rfl, hb⟩; refine ⟨_, rfl, ?_⟩; replace HO240 := Aside0.mk (Kd.R_below (by (with_reducible repeat (first | apply Kd.R_alloc | apply Kd.R_drewN | apply Kd.R_drew)); exact HO240.out) hb); replace HO245 := Aside0.mk (Kd.R_below (by (with_reducible repeat (first | apply Kd.R_alloc | apply Kd.R_drewN | apply Kd.R_drew)); exact HO245.out) hb); replace HB := Aside0.mk (below_step BA hb); (try clear hb)))
    (try simp only [Act.put, List.setIfInBounds_toArray, List.set_cons_zero, List.set_cons_succ])
    go_cut [34] (fun v34 wc => ∃ (kq : Nat) (x34_8 : Bool), v34 = .bool x34_8 ∧ Aside0 (laws_FnExactTemporariesOf.j0 kq l0 t243 x34_8 = some r) ∧ Aside0 (kq ≤ k) ∧ Aside0 (Kd.R k80 80 wc w.heap.size (fun _ => True) (.slice Ao15 t243.length co15) t243) ∧ Aside0 (Below w.heap.size w wc))
    case first =>
      have H := HC9.out
      clear HC9
      by_cases c17 : t246 = t241
      · rw [if_pos c17] at H
        have c17b0 := beq_iff_eq.mpr c17
        have c17b1 := bne_eq_false_iff_eq.mpr c17
        clear c17
        (first | rw [c17b0] | (simp only [i64_w, i32_w]; rw [c17b0]) | skip)
        have H' := Aside0.mk H
        clear H
        go_wp2
        go_meet
        case rel => exact ⟨_, ((t247 != t242)), EQ1, H', ⟨by first | omega | exact Nat.le_refl _⟩, ⟨by (with_reducible repeat (first | apply Kd.R_alloc | apply Kd.R_drewN | apply Kd.R_drew)); exact Kd.R_mono HO245.out (fun _ hk => trivial)⟩, ⟨BA⟩⟩
      · rw [if_neg c17] at H
        have c17b0 := beq_eq_false_iff_ne.mpr c17
        have c17b1 := bne_iff_ne.mpr c17
        (first | rw [c17b0] | (simp only [i64_w, i32_w]; rw [c17b0]) | skip)
        have H' := Aside0.mk H
        clear H
        go_wp2
        go_meet
        case rel => exact ⟨_, (true), EQ1, H', ⟨by first | omega | exact Nat.le_refl _⟩, ⟨by (with_reducible repeat (first | apply Kd.R_alloc | apply Kd.R_drewN | apply Kd.R_drew)); exact Kd.R_mono HO245.out (fun _ hk => trivial)⟩, ⟨BA⟩⟩
    case rest =>
      clear HC9
      (try clear c1); (try clear p2); (try clear c3); (try clear c3b0); (try clear c4); (try clear c16); (try clear c17); (try clear c17b0); (try clear c17b1)
      obtain ⟨kq, x34_8, rfl, HA, HJ8, HO_6, HB⟩ := hcut
      cases kq with
      | zero => exact absurd HA.out (by simp [laws_FnExactTemporariesOf.j0])
      | succ kj8 =>
        have H := HA.out
        clear HA
        simp only [laws_FnExactTemporariesOf.j0] at H
        by_cases c18 : x34_8 = true
        · subst c18
          have H1 : (some false) = some r := by rw [if_pos rfl] at H; exact H
          clear H
          have H := H1
          clear H1
          obtain rfl := Option.some.inj H
          go_wp2
          go_ret
          exact ⟨EQ, BA⟩
        · replace c18 := Bool.eq_false_iff.mpr c18
          subst c18
          have H1 : ((laws_toInstrS.f kj8 l0).bind fun t248 => ((laws_eqInstrS.f kj8 t243 t248).bind fun t251 => (if t251 = true then (some true) else (some false)))) = some r := by rw [if_neg (show ¬ (false = true) by decide)] at H; exact H
          clear H
          have H := H1
          clear H1
          replace H := Option.bind_eq_some_iff.mp H
          obtain ⟨t248, A190, H⟩ := H
          replace H : ((laws_eqInstrS.f kj8 t243 t248).bind fun t251 => (if t251 = true then (some true) else (some false))) = some r := H
          have A19 := Aside0.mk A190
          clear A190
          replace H := Option.bind_eq_some_iff.mp H
          obtain ⟨t251, A200, H⟩ := H
          replace H : (if t251 = true then (some true) else (some false)) = some r := H
          have A20 := Aside0.mk A200
          clear A200
          by_cases c21 : t251 = true
          · subst c21
            have H1 : (some true) = some r := by rw [if_pos rfl] at H; exact H
            clear H
            have H := H1
            clear H1
            obtain rfl := Option.some.inj H
            go_wp2_with (first | ((with_reducible refine gate_callee (f := 18) rfl ?_); refine gK (some 37) Try.func18 #[.slice A0 l0.length c0] rfl rfl rfl ?_; (with_reducible refine (laws_toInstrS.calls kj8 _ _ l0 t248 _ ?side1 ?side2 A19.out).mono ?_); (case side1 => exact cb (Kd.C_below HR0.out HB.out)); (case side2 => exact HC0.out); rintro e w22 ⟨v249, rfl, ho0, hb⟩; refine ⟨_, rfl, ?_⟩; have HO250 := Aside0.mk (Kd.R_lower (Kd.R_new' ho0 (Kd.R_lt (by (with_reducible repeat (first | apply Kd.R_alloc | apply Kd.R_drewN | apply Kd.R_drew)); exact HO_6.out))) (below_size BA)); replace HO_6 := Aside0.mk (Kd.R_elder' (by (with_reducible repeat (first | apply Kd.R_alloc | apply Kd.R_drewN | apply Kd.R_drew)); exact HO_6.out) (Kd.R_base ho0) hb); replace HB := Aside0.mk (below_step BA hb); (try clear hb); (try clear ho0); obtain ⟨Ao23, co23, eo23⟩ := Kd.R_slice HO250.out; subst eo23) | ((with_reducible refine gate_callee (f := 20) rfl ?_); refine gK (some 38) Try.func20 #[.slice Ao15 t243.length co15, .slice Ao23 t248.length co23] rfl rfl rfl ?_; (with_reducible refine (laws_eqInstrS.calls kj8 _ _ t243 _ _ t248 true _ ?side1 ?side2 ?side3 ?side4 A20.out).mono ?_); (case side1 => exact cb (Kd.R_reads' HO_6.out).2.2); (case side2 => exact (Kd.R_reads' HO_6.out).2.1); (case side3 => exact cb (Kd.R_reads' HO250.out).2.2); (case side4 => exact (Kd.R_reads' HO250.out).2.1); rintro e w24 ⟨rfl, hb⟩; refine ⟨_, rfl, ?_⟩; replace HO_6 := Aside0.mk (Kd.R_below (by (with_reducible repeat (first | apply Kd.R_alloc | apply Kd.R_drewN | apply Kd.R_drew)); exact HO_6.out) hb); replace HO250 := Aside0.mk (Kd.R_below (by (with_reducible repeat (first | apply Kd.R_alloc | apply Kd.R_drewN | apply Kd.R_drew)); exact HO250.out) hb); replace HB := Aside0.mk (below_step BA hb); (try clear hb)))
            go_ret
            exact ⟨EQ, BA⟩
          · replace c21 := Bool.eq_false_iff.mpr c21
            subst c21
            have H1 : (some false) = some r := by rw [if_neg (show ¬ (false = true) by decide)] at H; exact H
            clear H
            have H := H1
            clear H1
            obtain rfl := Option.some.inj H
            go_wp2_with (first | ((with_reducible refine gate_callee (f := 18) rfl ?_); refine gK (some 37) Try.func18 #[.slice A0 l0.length c0] rfl rfl rfl ?_; (with_reducible refine (laws_toInstrS.calls kj8 _ _ l0 t248 _ ?side1 ?side2 A19.out).mono ?_); (case side1 => exact cb (Kd.C_below HR0.out HB.out)); (case side2 => exact HC0.out); rintro e w25 ⟨v249, rfl, ho0, hb⟩; refine ⟨_, rfl, ?_⟩; have HO250 := Aside0.mk (Kd.R_lower (Kd.R_new' ho0 (Kd.R_lt (by (with_reducible repeat (first | apply Kd.R_alloc | apply Kd.R_drewN | apply Kd.R_drew)); exact HO_6.out))) (below_size BA)); replace HO_6 := Aside0.mk (Kd.R_elder' (by (with_reducible repeat (first | apply Kd.R_alloc | apply Kd.R_drewN | apply Kd.R_drew)); exact HO_6.out) (Kd.R_base ho0) hb); replace HB := Aside0.mk (below_step BA hb); (try clear hb); (try clear ho0); obtain ⟨Ao26, co26, eo26⟩ := Kd.R_slice HO250.out; subst eo26) | ((with_reducible refine gate_callee (f := 20) rfl ?_); refine gK (some 38) Try.func20 #[.slice Ao15 t243.length co15, .slice Ao26 t248.length co26] rfl rfl rfl ?_; (with_reducible refine (laws_eqInstrS.calls kj8 _ _ t243 _ _ t248 false _ ?side1 ?side2 ?side3 ?side4 A20.out).mono ?_); (case side1 => exact cb (Kd.R_reads' HO_6.out).2.2); (case side2 => exact (Kd.R_reads' HO_6.out).2.1); (case side3 => exact cb (Kd.R_reads' HO250.out).2.2); (case side4 => exact (Kd.R_reads' HO250.out).2.1); rintro e w27 ⟨rfl, hb⟩; refine ⟨_, rfl, ?_⟩; replace HO_6 := Aside0.mk (Kd.R_below (by (with_reducible repeat (first | apply Kd.R_alloc | apply Kd.R_drewN | apply Kd.R_drew)); exact HO_6.out) hb); replace HO250 := Aside0.mk (Kd.R_below (by (with_reducible repeat (first | apply Kd.R_alloc | apply Kd.R_drewN | apply Kd.R_drew)); exact HO250.out) hb); replace HB := Aside0.mk (below_step BA hb); (try clear hb)))
            go_ret
            exact ⟨EQ, BA⟩

end Go.Proofs.Ytefipbekabmncaa.Pa
