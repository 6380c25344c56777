-- Made by this session's program gen.py over the translation.
import Derived.Test.YtlmegefdnkjcbaaPa11
import Derived.Test.YtlmegefdnkjcbaaPa15
namespace Go.Proofs.Ytlmegefdnkjcbaa.Pa
open Go.RowKit Go.Proofs.YtlmegefdnkjcbaaW.PrintWords Go.Proofs.YtlmegefdnkjcbaaW.PrintLast Go.Proofs.YtlmegefdnkjcbaaW.PrintMore
attribute [local go_sem] max2_int min2_int max_two min_two max_three min_three max_four min_four   -- for this text's walks alone
set_option linter.unusedVariables false
set_option linter.unusedSimpArgs false
set_option maxHeartbeats 8000000
set_option maxRecDepth 100000

/-! ### spec_cvPrices: function 65 -/
mutual
def spec_cvPrices.l0 : Nat → List (S54) → List Int → Int → Int → Option (List Int)
 | 0, _, _, _, _ => none
 | k + 1, x0, x3, x12, x13 => if x13 < x12 then ((spec_cvTiles.f k x0 x13).bind fun t8 => (spec_cvPrices.l1 k x0 x3 x13 x12 x13 t8 (t8.length : Int) 0)) else (some x3)
def spec_cvPrices.l1 : Nat → List (S54) → List Int → Int → Int → Int → List Int → Int → Int → Option (List Int)
 | 0, _, _, _, _, _, _, _, _ => none
 | k + 1, x0, x3, x4, x12, x13, x18, x19, x20 => if x20 < x19 then (if 0 ≤ x20 then (if x20 < (x18.length : Int) then ((spec_cvWith.f k x0 x4 (rd x18 x20) x3).bind fun t2 => (if x20 = 0 then (if 0 ≤ x4 then (if x4 < (x3.length : Int) then (spec_cvPrices.l1 k x0 (x3.set (x4 : Int).toNat t2) x4 x12 x13 x18 x19 (wrap64 (x20 + 1))) else (none)) else (none)) else (if 0 ≤ x4 then (if x4 < (x3.length : Int) then (if t2 < (rd x3 x4) then (spec_cvPrices.l1 k x0 (x3.set (x4 : Int).toNat t2) x4 x12 x13 x18 x19 (wrap64 (x20 + 1))) else (spec_cvPrices.l1 k x0 x3 x4 x12 x13 x18 x19 (wrap64 (x20 + 1)))) else (none)) else (none)))) else (none)) else (none)) else (spec_cvPrices.l0 k x0 x3 x12 (wrap64 (x13 + 1)))
end
def spec_cvPrices.f (k : Nat) (l0 : List (S54)) : Option (List Int) := if 0 ≤ (l0.length : Int) then (if ((l0.length : Int) : Int).toNat ≤ 35184372088832 then (spec_cvPrices.l0 k l0 (List.replicate ((l0.length : Int) : Int).toNat 0) (l0.length : Int) 0) else (none)) else (none)
theorem spec_cvPrices.calls (k : Nat) (A0 : Option Addr) (c0 : Nat) (l0 : List (S54)) (r : List Int) (w : World) (hr0 : Kd.C k54 w A0 l0.length l0) (hc0 : l0.length ≤ c0) (h : spec_cvPrices.f k l0 = some r) :
  Calls Try.prog 65 #[.slice A0 l0.length c0] w fun e w' => ∃ v0_ : Value, e = .returned (v0_) ∧ Kd.R (Kd.int .i64) 3 w' w.heap.size (fun _ => True) v0_ r ∧ Below w.heap.size w w' := by
 have HR0 := Aside0.mk hr0
 have HC0 := Aside0.mk hc0
 clear hr0 hc0
 have HB := Aside0.mk (Below.refl w.heap.size w)
 have H := h
 clear h
 unfold spec_cvPrices.f at H
 obtain ⟨c2, H⟩ := ifs H
 have c2b0 := eq_true c2
 have c2b1 := decide_eq_true c2
 clear c2
 obtain ⟨c3, H⟩ := ifs H
 have c3b0 := eq_true c3
 have c3b1 := decide_eq_true c3
 clear c3
 obtain ⟨y5, hy5⟩ : ∃ y_ : List Int, y_ = (List.replicate ((l0.length : Int) : Int).toNat 0) := ⟨_, rfl⟩
 replace H : (spec_cvPrices.l0 k l0 y5 (l0.length : Int) 0) = some r := by first | (rw [hy5]; with_reducible exact H) | (have H2_ := (Option.bind_some _ _).symm.trans H; rw [hy5]; with_reducible exact H2_) | (have H2_ := (Option.bind_some _ _).symm.trans H; with_reducible exact H2_) | with_reducible exact H | (rw [hy5]; exact H) | exact H
 have Ny5 := Aside0.mk hy5
 clear hy5
 have H' := Aside0.mk H
 clear H
 go_enter Try.func65, Try.ntmps65
 go_wp2_with (first | ((with_reducible refine gate_dst (N := 10) rfl ?_); refine Kd.R_make (Kd.int .i64) _ 3 rfl (N := 10) rfl 30 _ _ rfl (l0.length : Int) rfl rfl Try.underlying30 (.int .i64 0) 8 info3 rfl (by decide) (by omega) 0 (ok := fun _ => True) (okp := fun _ => True) rfl (fun _ hk => hk) trivial DT (Nat.le_trans (Nat.mul_le_mul_right _ (DT : (l0.length : Int).toNat ≤ 35184372088832)) (by omega)) (Below.refl _ _) (Nat.le_refl _) ?_; intro v6 w4 ho5 hb hg_ hnew_; clear hg_ hnew_; (first | rw [← Ny5.out] at ho5 | (simp only [Int.reduceToNat] at ho5; rw [← Ny5.out] at ho5)); have HO7 := Aside0.mk (Kd.R_lower ho5 (below_size BA)); replace HB := bs hb; clear hb ho5))
 go_loopg [13] k (fun kq v13 w' => ∃ (x3_1 : List Int) (x13_1 : Int), v13 = .int .i64 x13_1 ∧ Aside0 (spec_cvPrices.l0 kq l0 x3_1 (l0.length : Int) x13_1 = some r) ∧ Aside0 (kq ≤ k) ∧ Aside0 (Kd.R (Kd.int .i64) 3 w' w.heap.size (fun _ => True) v6 x3_1) ∧ Aside0 (Below w.heap.size w w'))
 case atStart => exact ⟨(y5), (0), EQ1, H', ⟨Nat.le_refl _⟩, ⟨rb HO7.out⟩, ⟨BA⟩⟩
 case round =>
  clear H'
  obtain ⟨x3_1, x13_1, rfl, HA, HK1, HO_3, HB⟩ := hrel
  cases gk with
  | zero => exact absurd HA.out (by simp [spec_cvPrices.l0])
  | succ k1 =>
   have H := HA.out
   clear HA
   simp only [spec_cvPrices.l0] at H
   by_cases c6 : x13_1 < (l0.length : Int)
   ·rw [if_pos c6] at H
    have c6b0 := decide_eq_true c6
    clear c6
    obtain ⟨t8, A7, H⟩ := ob H
    (try dsimp only at H)
    have H' := Aside0.mk H
    clear H
    go_wp2_with (first | ((with_reducible refine gate_callee (f := 57) rfl ?_); refine gK (some 18) Try.func57 #[.slice A0 l0.length c0, .int .i64 x13_1] rfl rfl rfl ?_; (with_reducible refine (spec_cvTiles.calls k1 _ _ l0 x13_1 t8 _ ?side1 ?side2 A7.out).mono ?_); (case side1 => exact cb (Kd.C_below HR0.out HB.out)); (case side2 => exact HC0.out); rintro e w8 ⟨v9, rfl, ho0, hb⟩; refine ⟨_, rfl, ?_⟩; have HO0 := Aside0.mk (Kd.R_lower (Kd.R_new' ho0 (Kd.R_lt (rb HO_3.out))) (below_size BA)); replace HO_3 := Aside0.mk (Kd.R_elder' (rb HO_3.out) (Kd.R_base ho0) hb); replace HB := bs hb; (try clear hb); (try clear ho0); obtain ⟨Ao9, co9, eo9⟩ := Kd.R_slice HO0.out; subst eo9))
    go_loopg [20] k1 (fun kq v20 w' => ∃ (x3_2 : List Int) (x20_2 : Int), v20 = .int .i64 x20_2 ∧ Aside0 (spec_cvPrices.l1 kq l0 x3_2 x13_1 (l0.length : Int) x13_1 t8 (t8.length : Int) x20_2 = some r) ∧ Aside0 (kq ≤ k1) ∧ Aside0 (Kd.R (Kd.int .i64) 3 w' w.heap.size (fun k_ => some k_ ≠ ((.slice Ao9 t8.length co9) : Value).ownBlock) v6 x3_2) ∧ Aside0 (Kd.R (Kd.int .i64) 3 w' w.heap.size (fun k_ => some k_ ≠ (v6 : Value).ownBlock) (.slice Ao9 t8.length co9) t8) ∧ Aside0 (Below w.heap.size w w'))
    case atStart => exact ⟨(x3_1), (0), EQ1, H', ⟨Nat.le_refl _⟩, ⟨rb (Kd.R_mono HO_3.out (fun _ hk => hk.2))⟩, ⟨rb (Kd.R_mono HO0.out (fun _ hk => hk.2))⟩, ⟨BA⟩⟩
    case round =>
     clear H'
     obtain ⟨x3_2, x20_2, rfl, HA, HK2, HO_3, HO_18, HB⟩ := hrel
     cases gk with
     | zero => exact absurd HA.out (by simp [spec_cvPrices.l1])
     | succ k2 =>
      have H := HA.out
      clear HA
      simp only [spec_cvPrices.l1] at H
      by_cases c10 : x20_2 < (t8.length : Int)
      ·rw [if_pos c10] at H
       have c10b0 := decide_eq_true c10
       clear c10
       obtain ⟨c11, H⟩ := ifs H
       have c11b0 := decide_eq_true c11
       clear c11
       obtain ⟨c12, H⟩ := ifs H
       have c12b0 := decide_eq_true c12
       clear c12
       obtain ⟨t2, A13, H⟩ := ob H
       (try dsimp only at H)
       by_cases c14 : x20_2 = 0
       ·rw [if_pos c14] at H
        have c14b0 := beq_iff_eq.mpr c14
        have c14b1 := bne_eq_false_iff_eq.mpr c14
        clear c14
        obtain ⟨c15, H⟩ := ifs H
        have c15b0 := decide_eq_true c15
        clear c15
        obtain ⟨c16, H⟩ := ifs H
        have c16b0 := decide_eq_true c16
        clear c16
        obtain ⟨y3, hy3⟩ : ∃ y_ : List Int, y_ = (x3_2.set (x13_1 : Int).toNat t2) := ⟨_, rfl⟩
        replace H : (spec_cvPrices.l1 k2 l0 y3 x13_1 (l0.length : Int) x13_1 t8 (t8.length : Int) (wrap64 (x20_2 + 1))) = some r := by first | (rw [hy3]; with_reducible exact H) | (have H2_ := (Option.bind_some _ _).symm.trans H; rw [hy3]; with_reducible exact H2_) | (have H2_ := (Option.bind_some _ _).symm.trans H; with_reducible exact H2_) | with_reducible exact H | (rw [hy3]; exact H) | exact H
        have Ny3 := Aside0.mk hy3
        clear hy3
        have H' := Aside0.mk H
        clear H
        have p1 : 0 ≤ (x20_2 : Int) := DT
        have q1 : x20_2 < (t8.length : Int) := DT
        obtain ⟨ad1, e1, hx1_0⟩ := Kd.at_int (Kd.R_reads' HO_18.out).2.2 x20_2 p1 q1
        cases e1
        replace p1 := eq_true p1
        replace q1 := eq_true q1
        obtain ⟨Ao18, co18, eo18⟩ := Kd.R_slice HO_3.out
        subst eo18
        go_wp2_with (first | ((with_reducible refine gate_callee (f := 92) rfl ?_); refine gK (some 29) Try.func92 #[.slice A0 l0.length c0, .int .i64 x13_1, .int .i64 (rd t8 x20_2), .slice Ao18 x3_2.length co18] rfl rfl rfl ?_; (with_reducible refine (spec_cvWith.calls k2 _ _ l0 x13_1 (rd t8 x20_2) _ _ x3_2 t2 _ ?side1 ?side2 ?side3 ?side4 A13.out).mono ?_); (case side1 => exact cb (Kd.C_below HR0.out HB.out)); (case side2 => exact HC0.out); (case side3 => exact cb (Kd.R_reads' HO_3.out).2.2); (case side4 => exact (Kd.R_reads' HO_3.out).2.1); rintro e w19 ⟨rfl, hb⟩; refine ⟨_, rfl, ?_⟩; replace HO_3 := Aside0.mk (Kd.R_below (rb HO_3.out) hb); replace HO_18 := Aside0.mk (Kd.R_below (rb HO_18.out) hb); replace HB := bs hb; (try clear hb); have p17 : 0 ≤ (x13_1 : Int) := DT; have q17 : (x13_1 : Int) < ((x3_2.length : Int) : Int) := DT; obtain ⟨go17, co17, eo17, gb17, gl17, cl17, HG17⟩ := Kd.R_form HO_3.out (by omega); (first | cases eo17 | (injection eo17 with ea_ en_ ec_; (first | subst ea_ | (injection ea_ with ea_; subst ea_)); subst ec_; clear en_)); have GB17 := Aside0.mk gb17; have GG17 := Aside0.mk HG17; clear gb17 gl17 HG17; obtain ⟨hx17_0, hf17_0⟩ := Kd.R_celln 0 HO_3.out (x13_1 : Int) p17 q17; replace p17 := eq_true p17; replace q17 := eq_true q17; obtain ⟨hy20_, hz20_⟩ := Kd.R_celln 0 HO_3.out (x13_1 : Int) DT DT; have HP20 := Kd.R_putg HO_3.out (x13_1 : Int) t2) | ((with_reducible refine gate_store (t := 3) (p := 43) rfl ?_); refine store_event (t := 3) (p := 43) (v := ?vo_w21) (w1 := (w19.setCell ⟨go17, (x13_1 : Int).toNat, none⟩ (.int .i64 t2))) ?hg ?ho ?hn ?hr ?_; (case ho => rfl); (case hg => rfl); (case hn => rfl); (case hr => first | (go_simp; done) | (go_simp; rfl)); intro w21 hw; have hg : w19.grownBy w21 (some go17) := (by rw [hw]; exact HP20.2); have hp_ : Kd.R (Kd.int .i64) 3 w21 w.heap.size (fun k_ => some k_ ≠ (.slice (some ad1) t8.length co9 : Value).ownBlock) (.slice (some ⟨go17, 0, none⟩) x3_2.length co18) y3 := (by rw [hw, Ny3.out]; exact HP20.1); clear HP20; replace HO_3 := Aside0.mk (hp_); replace HO_18 := Aside0.mk (Kd.R_after (v := (.slice (some ⟨go17, 0, none⟩) x3_2.length co18)) (v1 := (.slice (some ⟨go17, 0, none⟩) x3_2.length co18)) (ok := (fun _ => True)) (rb (Kd.R_mono HO_18.out (fun _ hk => ⟨trivial, hk⟩))) hg (.inl rfl)); replace HB := Aside0.mk ((by rw [hw]; exact below_set (HB.out) GB17.out : Below w.heap.size w w21)); clear hg hw hp_))
        go_roundg k2
        case measure => have := HK1.out; have := HK2.out; omega
        case rel => exact ⟨(y3), (wrap64 (x20_2 + 1)), EQ1, H', ⟨by have := HK1.out; have := HK2.out; omega⟩, ⟨rb HO_3.out⟩, ⟨rb (Kd.R_mono HO_18.out (fun _ hk => hk.2))⟩, ⟨BA⟩⟩
       ·rw [if_neg c14] at H
        have c14b0 := beq_eq_false_iff_ne.mpr c14
        have c14b1 := bne_iff_ne.mpr c14
        obtain ⟨c22, H⟩ := ifs H
        have c22b0 := decide_eq_true c22
        clear c22
        obtain ⟨c23, H⟩ := ifs H
        have c23b0 := decide_eq_true c23
        clear c23
        by_cases c24 : t2 < (rd x3_2 x13_1)
        ·rw [if_pos c24] at H
         have c24b0 := decide_eq_true c24
         clear c24
         obtain ⟨y205, hy205⟩ : ∃ y_ : List Int, y_ = (x3_2.set (x13_1 : Int).toNat t2) := ⟨_, rfl⟩
         replace H : (spec_cvPrices.l1 k2 l0 y205 x13_1 (l0.length : Int) x13_1 t8 (t8.length : Int) (wrap64 (x20_2 + 1))) = some r := by first | (rw [hy205]; with_reducible exact H) | (have H2_ := (Option.bind_some _ _).symm.trans H; rw [hy205]; with_reducible exact H2_) | (have H2_ := (Option.bind_some _ _).symm.trans H; with_reducible exact H2_) | with_reducible exact H | (rw [hy205]; exact H) | exact H
         have Ny205 := Aside0.mk hy205
         clear hy205
         have H' := Aside0.mk H
         clear H
         have p1 : 0 ≤ (x20_2 : Int) := DT
         have q1 : x20_2 < (t8.length : Int) := DT
         obtain ⟨ad1, e1, hx1_0⟩ := Kd.at_int (Kd.R_reads' HO_18.out).2.2 x20_2 p1 q1
         cases e1
         replace p1 := eq_true p1
         replace q1 := eq_true q1
         obtain ⟨Ao26, co26, eo26⟩ := Kd.R_slice HO_3.out
         subst eo26
         go_wp2_with (first | ((with_reducible refine gate_callee (f := 92) rfl ?_); refine gK (some 29) Try.func92 #[.slice A0 l0.length c0, .int .i64 x13_1, .int .i64 (rd t8 x20_2), .slice Ao26 x3_2.length co26] rfl rfl rfl ?_; (with_reducible refine (spec_cvWith.calls k2 _ _ l0 x13_1 (rd t8 x20_2) _ _ x3_2 t2 _ ?side1 ?side2 ?side3 ?side4 A13.out).mono ?_); (case side1 => exact cb (Kd.C_below HR0.out HB.out)); (case side2 => exact HC0.out); (case side3 => exact cb (Kd.R_reads' HO_3.out).2.2); (case side4 => exact (Kd.R_reads' HO_3.out).2.1); rintro e w27 ⟨rfl, hb⟩; refine ⟨_, rfl, ?_⟩; replace HO_3 := Aside0.mk (Kd.R_below (rb HO_3.out) hb); replace HO_18 := Aside0.mk (Kd.R_below (rb HO_18.out) hb); replace HB := bs hb; (try clear hb); have p4 : 0 ≤ (x13_1 : Int) := DT; have q4 : x13_1 < (x3_2.length : Int) := DT; obtain ⟨ad4, e4, hx4_0⟩ := Kd.at_int (Kd.R_reads' HO_3.out).2.2 x13_1 p4 q4; cases e4; replace p4 := eq_true p4; replace q4 := eq_true q4; have p25 : 0 ≤ (x13_1 : Int) := DT; have q25 : (x13_1 : Int) < ((x3_2.length : Int) : Int) := DT; obtain ⟨go25, co25, eo25, gb25, gl25, cl25, HG25⟩ := Kd.R_form HO_3.out (by omega); (first | cases eo25 | (injection eo25 with ea_ en_ ec_; (first | subst ea_ | (injection ea_ with ea_; subst ea_)); subst ec_; clear en_)); have GB25 := Aside0.mk gb25; have GG25 := Aside0.mk HG25; clear gb25 gl25 HG25; (first | simp only [add_plain] at hx4_0 | skip); obtain ⟨hx25_0, hf25_0⟩ := Kd.R_celln 0 HO_3.out (x13_1 : Int) p25 q25; replace p25 := eq_true p25; replace q25 := eq_true q25; obtain ⟨hy28_, hz28_⟩ := Kd.R_celln 0 HO_3.out (x13_1 : Int) DT DT; have HP28 := Kd.R_putg HO_3.out (x13_1 : Int) t2) | ((with_reducible refine gate_store (t := 3) (p := 43) rfl ?_); refine store_event (t := 3) (p := 43) (v := ?vo_w29) (w1 := (w27.setCell ⟨go25, (x13_1 : Int).toNat, none⟩ (.int .i64 t2))) ?hg ?ho ?hn ?hr ?_; (case ho => rfl); (case hg => rfl); (case hn => rfl); (case hr => first | (go_simp; done) | (go_simp; rfl)); intro w29 hw; have hg : w27.grownBy w29 (some go25) := (by rw [hw]; exact HP28.2); have hp_ : Kd.R (Kd.int .i64) 3 w29 w.heap.size (fun k_ => some k_ ≠ (.slice (some ad1) t8.length co9 : Value).ownBlock) (.slice (some ⟨go25, 0, none⟩) x3_2.length co26) y205 := (by rw [hw, Ny205.out]; exact HP28.1); clear HP28; replace HO_3 := Aside0.mk (hp_); replace HO_18 := Aside0.mk (Kd.R_after (v := (.slice (some ⟨go25, 0, none⟩) x3_2.length co26)) (v1 := (.slice (some ⟨go25, 0, none⟩) x3_2.length co26)) (ok := (fun _ => True)) (rb (Kd.R_mono HO_18.out (fun _ hk => ⟨trivial, hk⟩))) hg (.inl rfl)); replace HB := Aside0.mk ((by rw [hw]; exact below_set (HB.out) GB25.out : Below w.heap.size w w29)); clear hg hw hp_))
         go_roundg k2
         case measure => have := HK1.out; have := HK2.out; omega
         case rel => exact ⟨(y205), (wrap64 (x20_2 + 1)), EQ1, H', ⟨by have := HK1.out; have := HK2.out; omega⟩, ⟨rb HO_3.out⟩, ⟨rb (Kd.R_mono HO_18.out (fun _ hk => hk.2))⟩, ⟨BA⟩⟩
        ·rw [if_neg c24] at H
         have c24b0 := decide_eq_false c24
         clear c24
         have H' := Aside0.mk H
         clear H
         have p1 : 0 ≤ (x20_2 : Int) := DT
         have q1 : x20_2 < (t8.length : Int) := DT
         obtain ⟨ad1, e1, hx1_0⟩ := Kd.at_int (Kd.R_reads' HO_18.out).2.2 x20_2 p1 q1
         cases e1
         replace p1 := eq_true p1
         replace q1 := eq_true q1
         obtain ⟨Ao30, co30, eo30⟩ := Kd.R_slice HO_3.out
         subst eo30
         go_wp2_with (first | ((with_reducible refine gate_callee (f := 92) rfl ?_); refine gK (some 29) Try.func92 #[.slice A0 l0.length c0, .int .i64 x13_1, .int .i64 (rd t8 x20_2), .slice Ao30 x3_2.length co30] rfl rfl rfl ?_; (with_reducible refine (spec_cvWith.calls k2 _ _ l0 x13_1 (rd t8 x20_2) _ _ x3_2 t2 _ ?side1 ?side2 ?side3 ?side4 A13.out).mono ?_); (case side1 => exact cb (Kd.C_below HR0.out HB.out)); (case side2 => exact HC0.out); (case side3 => exact cb (Kd.R_reads' HO_3.out).2.2); (case side4 => exact (Kd.R_reads' HO_3.out).2.1); rintro e w31 ⟨rfl, hb⟩; refine ⟨_, rfl, ?_⟩; replace HO_3 := Aside0.mk (Kd.R_below (rb HO_3.out) hb); replace HO_18 := Aside0.mk (Kd.R_below (rb HO_18.out) hb); replace HB := bs hb; (try clear hb); have p4 : 0 ≤ (x13_1 : Int) := DT; have q4 : x13_1 < (x3_2.length : Int) := DT; obtain ⟨ad4, e4, hx4_0⟩ := Kd.at_int (Kd.R_reads' HO_3.out).2.2 x13_1 p4 q4; cases e4; replace p4 := eq_true p4; replace q4 := eq_true q4))
         go_roundg k2
         case measure => have := HK1.out; have := HK2.out; omega
         case rel => exact ⟨(x3_2), (wrap64 (x20_2 + 1)), EQ1, H', ⟨by have := HK1.out; have := HK2.out; omega⟩, ⟨rb HO_3.out⟩, ⟨rb HO_18.out⟩, ⟨BA⟩⟩
      ·rw [if_neg c10] at H
       have c10b0 := decide_eq_false c10
       clear c10
       have H' := Aside0.mk H
       clear H
       go_wp2
       go_roundg k2
       case measure => have := HK1.out; have := HK2.out; omega
       case rel => exact ⟨(x3_2), (wrap64 (x13_1 + 1)), EQ1, H', ⟨by have := HK1.out; have := HK2.out; omega⟩, ⟨rb (Kd.R_mono HO_3.out (fun _ hk => trivial))⟩, ⟨BA⟩⟩
   ·rw [if_neg c6] at H
    have c6b0 := decide_eq_false c6
    clear c6
    obtain rfl := Option.some.inj H
    go_wp2
    go_ret
    exact ⟨_, EQ, rb HO_3.out, BA⟩

/-! ### spec_PricesOf: function 35 -/
def spec_PricesOf.f (k : Nat) (l0 : List (S54)) : Option (List Int × Bool) := (spec_cvTree.f k l0).bind fun t6 => (if t6 = true then ((spec_cvPrices.f k l0).bind fun t7 => (some (t7, true))) else (some (([] : List Int), false)))
theorem spec_PricesOf.calls (k : Nat) (A0 : Option Addr) (c0 : Nat) (l0 : List (S54)) (r1 : List Int) (r2 : Bool) (w : World) (hr0 : Kd.C k54 w A0 l0.length l0) (hc0 : l0.length ≤ c0) (h : spec_PricesOf.f k l0 = some (r1, r2)) :
  Calls Try.prog 35 #[.slice A0 l0.length c0] w fun e w' => ∃ v0_ : Value, e = .returned (.tuple #[v0_, .bool r2]) ∧ Kd.R (Kd.int .i64) 3 w' w.heap.size (fun _ => True) v0_ r1 ∧ Below w.heap.size w w' := by
 have HR0 := Aside0.mk hr0
 have HC0 := Aside0.mk hc0
 clear hr0 hc0
 have HB := Aside0.mk (Below.refl w.heap.size w)
 have H := h
 clear h
 unfold spec_PricesOf.f at H
 obtain ⟨t6, A2, H⟩ := ob H
 (try dsimp only at H)
 by_cases c3 : t6 = true
 ·subst c3
  rw [if_pos rfl] at H
  obtain ⟨t7, A4, H⟩ := ob H
  (try dsimp only at H)
  simp only [Option.some.injEq, Prod.mk.injEq] at H
  obtain ⟨rfl, rfl⟩ := H
  go_enter Try.func35, Try.ntmps35
  go_wp2_with (first | ((with_reducible refine gate_callee (f := 55) rfl ?_); refine gK (some 5) Try.func55 #[.slice A0 l0.length c0] rfl rfl rfl ?_; (with_reducible refine (spec_cvTree.calls k _ _ l0 true _ ?side1 ?side2 A2.out).mono ?_); (case side1 => exact cb HR0.out); (case side2 => exact HC0.out); rintro e w5 ⟨rfl, hb⟩; refine ⟨_, rfl, ?_⟩; replace HB := bs hb; (try clear hb)) | ((with_reducible refine gate_callee (f := 65) rfl ?_); refine gK (some 8) Try.func65 #[.slice A0 l0.length c0] rfl rfl rfl ?_; (with_reducible refine (spec_cvPrices.calls k _ _ l0 t7 _ ?side1 ?side2 A4.out).mono ?_); (case side1 => exact cb (Kd.C_below HR0.out HB.out)); (case side2 => exact HC0.out); rintro e w6 ⟨v8, rfl, ho0, hb⟩; refine ⟨_, rfl, ?_⟩; have HO9 := Aside0.mk (Kd.R_lower ho0 (below_size BA)); replace HB := bs hb; (try clear hb); (try clear ho0)))
  go_ret2
  exact ⟨_, EQ, rb HO9.out, BA⟩
 ·replace c3 := Bool.eq_false_iff.mpr c3
  subst c3
  rw [if_neg (show ¬ (false = true) by decide)] at H
  simp only [Option.some.injEq, Prod.mk.injEq] at H
  obtain ⟨rfl, rfl⟩ := H
  go_enter Try.func35, Try.ntmps35
  go_wp2_with (first | ((with_reducible refine gate_callee (f := 55) rfl ?_); refine gK (some 5) Try.func55 #[.slice A0 l0.length c0] rfl rfl rfl ?_; (with_reducible refine (spec_cvTree.calls k _ _ l0 false _ ?side1 ?side2 A2.out).mono ?_); (case side1 => exact cb HR0.out); (case side2 => exact HC0.out); rintro e w7 ⟨rfl, hb⟩; refine ⟨_, rfl, ?_⟩; replace HB := bs hb; (try clear hb)))
  go_ret2
  exact ⟨_, EQ, by first | exact Kd.R_nil _ _ _ _ _ | exact Kd.N_nil _ _ _ _ _ | exact Kd.V_nil _ _ _ _ _ | exact Kd.Q_nil _ _ _ _ _ | exact Kd.S_nil _ _ _ _ _, BA⟩

/-! ### impl_pricesOf: function 66 -/
mutual
def impl_pricesOf.l0 : Nat → List (S54) → List Int → List Int → Int → Int → Option (List Int × List Int)
 | 0, _, _, _, _, _ => none
 | k + 1, x0, x4, x5, x19, x20 => if x20 < x19 then ((impl_tilesAt.f k x0 x20).bind fun t16 => (impl_pricesOf.l1 k x0 x4 x5 x20 x19 x20 t16 (t16.length : Int) 0)) else (some (x4, x5))
def impl_pricesOf.l1 : Nat → List (S54) → List Int → List Int → Int → Int → Int → List Int → Int → Int → Option (List Int × List Int)
 | 0, _, _, _, _, _, _, _, _, _ => none
 | k + 1, x0, x4, x5, x6, x19, x20, x25, x26, x27 => if x27 < x26 then (if 0 ≤ x27 then (if x27 < (x25.length : Int) then ((impl_tileAt.f k x0 x6 (rd x25 x27)).bind fun bt0 => ((impl_tile_total.f k bt0.1 bt0.2.1 bt0.2.2.1 x4).bind fun t9 => (if x27 = 0 then (if 0 ≤ x6 then (if x6 < (x4.length : Int) then (if x6 < (x5.length : Int) then (impl_pricesOf.l1 k x0 (x4.set (x6 : Int).toNat t9) (x5.set (x6 : Int).toNat (rd x25 x27)) x6 x19 x20 x25 x26 (wrap64 (x27 + 1))) else (none)) else (none)) else (none)) else (if 0 ≤ x6 then (if x6 < (x4.length : Int) then (if t9 < (rd x4 x6) then (if x6 < (x5.length : Int) then (impl_pricesOf.l1 k x0 (x4.set (x6 : Int).toNat t9) (x5.set (x6 : Int).toNat (rd x25 x27)) x6 x19 x20 x25 x26 (wrap64 (x27 + 1))) else (none)) else (impl_pricesOf.l1 k x0 x4 x5 x6 x19 x20 x25 x26 (wrap64 (x27 + 1)))) else (none)) else (none))))) else (none)) else (none)) else (impl_pricesOf.l0 k x0 x4 x5 x19 (wrap64 (x20 + 1)))
end
def impl_pricesOf.f (k : Nat) (l0 : List (S54)) : Option (List Int × List Int) := if 0 ≤ (l0.length : Int) then (if ((l0.length : Int) : Int).toNat ≤ 35184372088832 then (impl_pricesOf.l0 k l0 (List.replicate ((l0.length : Int) : Int).toNat 0) (List.replicate ((l0.length : Int) : Int).toNat 0) (l0.length : Int) 0) else (none)) else (none)
def impl_pricesOf.T1 : Bool × List (List Nat × List Nat) := (true, [([], []), ([0], [0]), ([1, 1], [1]), ([], []), ([3], [3]), ([4, 4], [4]), ([2, 0, 1, 2], [2]), ([5, 6, 0, 1, 2, 3, 4, 5, 6], [5])])
def impl_pricesOf.B1 : List Nat := [0, 1, 3, 0, 8, 24, 7, 127]
theorem impl_pricesOf.tab1 : rtab .any (opsOf Try.f66 1) = impl_pricesOf.T1 := by kernel_rfl
theorem impl_pricesOf.bits1 : waitsOk impl_pricesOf.T1.2 impl_pricesOf.B1 = true := by kernel_rfl
theorem impl_pricesOf.calls (k : Nat) (A0 : Option Addr) (c0 : Nat) (l0 : List (S54)) (r1 : List Int) (r2 : List Int) (w : World) (hr0 : Kd.C k54 w A0 l0.length l0) (hc0 : l0.length ≤ c0) (h : impl_pricesOf.f k l0 = some (r1, r2)) :
  Calls Try.prog 66 #[.slice A0 l0.length c0] w fun e w' => ∃ v0_ v1_ : Value, e = .returned (.tuple #[v0_, v1_]) ∧ Kd.R (Kd.int .i64) 3 w' w.heap.size (fun k_ => some k_ ≠ (v1_ : Value).ownBlock) v0_ r1 ∧ Kd.R (Kd.int .i64) 3 w' w.heap.size (fun k_ => some k_ ≠ (v0_ : Value).ownBlock) v1_ r2 ∧ Below w.heap.size w w' := by
 have hu57 := Try.underlying57
 have HR0 := Aside0.mk hr0
 have HC0 := Aside0.mk hc0
 clear hr0 hc0
 have HB := Aside0.mk (Below.refl w.heap.size w)
 have H := h
 clear h
 unfold impl_pricesOf.f at H
 obtain ⟨c2, H⟩ := ifs H
 have c2b0 := eq_true c2
 have c2b1 := decide_eq_true c2
 clear c2
 obtain ⟨c3, H⟩ := ifs H
 have c3b0 := eq_true c3
 have c3b1 := decide_eq_true c3
 clear c3
 obtain ⟨y0, hy0⟩ : ∃ y_ : List Int, y_ = (List.replicate ((l0.length : Int) : Int).toNat 0) := ⟨_, rfl⟩
 replace H : (impl_pricesOf.l0 k l0 y0 (List.replicate ((l0.length : Int) : Int).toNat 0) (l0.length : Int) 0) = some (r1, r2) := by first | (rw [hy0]; with_reducible exact H) | (have H2_ := (Option.bind_some _ _).symm.trans H; rw [hy0]; with_reducible exact H2_) | (have H2_ := (Option.bind_some _ _).symm.trans H; with_reducible exact H2_) | with_reducible exact H | (rw [hy0]; exact H) | exact H
 have Ny0 := Aside0.mk hy0
 clear hy0
 obtain ⟨y13, hy13⟩ : ∃ y_ : List Int, y_ = (List.replicate ((l0.length : Int) : Int).toNat 0) := ⟨_, rfl⟩
 replace H : (impl_pricesOf.l0 k l0 y0 y13 (l0.length : Int) 0) = some (r1, r2) := by first | (rw [hy13]; with_reducible exact H) | (have H2_ := (Option.bind_some _ _).symm.trans H; rw [hy13]; with_reducible exact H2_) | (have H2_ := (Option.bind_some _ _).symm.trans H; with_reducible exact H2_) | with_reducible exact H | (rw [hy13]; exact H) | exact H
 have Ny13 := Aside0.mk hy13
 clear hy13
 have H' := Aside0.mk H
 clear H
 go_enter Try.func66, Try.ntmps66
 try go_wp2
 replace HB := Aside0.mk (below_drew1 HB.out)
 refine start_ (n := 8) (S := fun w' => True) (ds := []) (mk 8 0) (by kernel_rfl) rfl (by kernel_rfl) trivial (fun hHeld => ?_); refine with_tabW impl_pricesOf.tab1 impl_pricesOf.bits1 (fun HT_ HW_ => ?_)
 generalize w.drew = w4 at HB hHeld ⊢
 refine pu 0 12 8 1 rfl rfl ?_
 refine pu 1 13 8 3 rfl rfl ?_
 refine pu 3 15 8 11 rfl rfl ?_
 refine pu 4 16 8 27 rfl rfl ?_
 refine join_ (σ := Value × Value) 1 #[true, true, true, true, true, true, true, false] (fun s_ => [(14, s_.1), (17, s_.2), (4, s_.1)]) (fun s_ w' => (Kd.R (Kd.int .i64) 3 w' w.heap.size (fun k_ => some k_ ≠ (s_.2 : Value).ownBlock) s_.1 y0) ∧ (Kd.R (Kd.int .i64) 3 w' w.heap.size (fun k_ => some k_ ≠ (s_.1 : Value).ownBlock) s_.2 y13) ∧ (Below w.heap.size w w')) ?_ ?_
 rotate_left
 ·intro hCont
  refine two_ (i := 2) (j := 5) (Ni := some 14) (Nj := some 17) #[true, true, true, true, true, false, false, false] #[true, true, false, true, true, true, false, false] rfl rfl rfl rfl (two_of HT_.out (by kernel_rfl)) (by decide) (by decide) (fun K hK => ?_) (fun K hK => ?_)
  ·skip
   refine Kd.R_make_step (Kd.int .i64) _ 3 (by rfl) (N := 14) rfl 30 _ _ rfl (l0.length : Int) rfl rfl Try.underlying30 (.int .i64 0) 8 info3 rfl (by decide) (by omega) 0 (ok := fun _ => True) (okp := fun _ => True) rfl (fun _ hk => hk) trivial DT (Nat.le_trans (Nat.mul_le_mul_right _ (DT : (l0.length : Int).toNat ≤ 35184372088832)) (by omega)) (Below.refl _ _) (Nat.le_refl _) ?_
   intro v11 w5 ho6 hb hg_ hnew_
   clear hg_ hnew_
   (first | rw [← Ny0.out] at ho6 | (simp only [Int.reduceToNat] at ho6; rw [← Ny0.out] at ho6))
   have HO2 := Aside0.mk (Kd.R_lower ho6 (below_size BA)); replace HB := bs hb
   clear hb ho6
   refine hK.out _ _ trivial (fun hHeld => ?_)
   clear hK K
   refine nm 14 ?_
   refine pu 6 4 8 95 rfl rfl ?_
   refine one_ (i := 5) (N := some 17) (mk 8 127) rfl rfl (one_of HT_.out (by kernel_rfl)) (by decide) (fun K hK => ?_)
   refine Kd.R_make_step (Kd.int .i64) _ 3 (by rfl) (N := 17) rfl 30 _ _ rfl (l0.length : Int) rfl rfl Try.underlying30 (.int .i64 0) 8 info3 rfl (by decide) (by omega) 0 (ok := fun _ => True) (okp := fun _ => True) rfl (fun _ hk => hk) trivial DT (Nat.le_trans (Nat.mul_le_mul_right _ (DT : (l0.length : Int).toNat ≤ 35184372088832)) (by omega)) (Below.refl _ _) (Nat.le_refl _) ?_
   intro v4 w7 ho8 hb hg_ hnew_
   clear hg_ hnew_
   (first | rw [← Ny13.out] at ho8 | (simp only [Int.reduceToNat] at ho8; rw [← Ny13.out] at ho8))
   have HO5 := Aside0.mk (Kd.R_lower (Kd.R_new' ho8 (Kd.R_lt (rb HO2.out))) (below_size BA)); replace HO2 := Aside0.mk (Kd.R_elder' (rb HO2.out) (Kd.R_base ho8) hb); replace HB := bs hb
   clear hb ho8
   refine hK.out _ _ trivial (fun hHeld => ?_)
   clear hK K
   refine nm 17 ?_
   exact norm_ (by simp only [putAll, Act.put, List.setIfInBounds_toArray, List.set_cons_zero, List.set_cons_succ]) (hCont (v11, v4) _ ⟨(rb (Kd.R_mono HO2.out (fun _ hk => hk.2))), (rb (Kd.R_mono HO5.out (fun _ hk => hk.2))), BA⟩)
  ·skip
   refine Kd.R_make_step (Kd.int .i64) _ 3 (by rfl) (N := 17) rfl 30 _ _ rfl (l0.length : Int) rfl rfl Try.underlying30 (.int .i64 0) 8 info3 rfl (by decide) (by omega) 0 (ok := fun _ => True) (okp := fun _ => True) rfl (fun _ hk => hk) trivial DT (Nat.le_trans (Nat.mul_le_mul_right _ (DT : (l0.length : Int).toNat ≤ 35184372088832)) (by omega)) (Below.refl _ _) (Nat.le_refl _) ?_
   intro v4 w5 ho6 hb hg_ hnew_
   clear hg_ hnew_
   (first | rw [← Ny13.out] at ho6 | (simp only [Int.reduceToNat] at ho6; rw [← Ny13.out] at ho6))
   have HO5 := Aside0.mk (Kd.R_lower ho6 (below_size BA)); replace HB := bs hb
   clear hb ho6
   refine hK.out _ _ trivial (fun hHeld => ?_)
   clear hK K
   refine nm 17 ?_
   refine one_ (i := 2) (N := some 14) (mk 8 63) rfl rfl (one_of HT_.out (by kernel_rfl)) (by decide) (fun K hK => ?_)
   refine Kd.R_make_step (Kd.int .i64) _ 3 (by rfl) (N := 14) rfl 30 _ _ rfl (l0.length : Int) rfl rfl Try.underlying30 (.int .i64 0) 8 info3 rfl (by decide) (by omega) 0 (ok := fun _ => True) (okp := fun _ => True) rfl (fun _ hk => hk) trivial DT (Nat.le_trans (Nat.mul_le_mul_right _ (DT : (l0.length : Int).toNat ≤ 35184372088832)) (by omega)) (Below.refl _ _) (Nat.le_refl _) ?_
   intro v11 w7 ho8 hb hg_ hnew_
   clear hg_ hnew_
   (first | rw [← Ny0.out] at ho8 | (simp only [Int.reduceToNat] at ho8; rw [← Ny0.out] at ho8))
   have HO2 := Aside0.mk (Kd.R_lower (Kd.R_new' ho8 (Kd.R_lt (rb HO5.out))) (below_size BA)); replace HO5 := Aside0.mk (Kd.R_elder' (rb HO5.out) (Kd.R_base ho8) hb); replace HB := bs hb
   clear hb ho8
   refine hK.out _ _ trivial (fun hHeld => ?_)
   clear hK K
   refine nm 14 ?_
   refine pu 6 4 8 127 rfl rfl ?_
   exact norm_ (by simp only [putAll, Act.put, List.setIfInBounds_toArray, List.set_cons_zero, List.set_cons_succ]) (hCont (v11, v4) _ ⟨(rb (Kd.R_mono HO2.out (fun _ hk => hk.2))), (rb (Kd.R_mono HO5.out (fun _ hk => hk.2))), BA⟩)
 rintro ⟨v11, v4⟩ w9 ⟨h0_, h1_, h2_⟩
 have n0_ : Aside0 (Kd.R (Kd.int .i64) 3 w9 w.heap.size (fun k_ => some k_ ≠ (v4 : Value).ownBlock) v11 y0) := ⟨h0_⟩
 have n1_ : Aside0 (Kd.R (Kd.int .i64) 3 w9 w.heap.size (fun k_ => some k_ ≠ (v11 : Value).ownBlock) v4 y13) := ⟨h1_⟩
 have n2_ : Aside0 (Below w.heap.size w w9) := ⟨h2_⟩
 clear HB
 clear h0_ h1_ h2_
 have HO2 := n0_
 have HO5 := n1_
 have HB := n2_
 clear n0_ n1_ n2_
 have hHeld := trivial
 refine norm_ (a' := ?_) ?_ ?_
 rotate_left
 ·simp only [putAll, Act.put, List.setIfInBounds_toArray, List.set_cons_zero, List.set_cons_succ]
  rfl
 refine pu 7 5 8 255 rfl rfl ?_
 refine done_ (done_of HT_.out (by kernel_rfl)) ?_
 try go_wp2
 go_loopg [20] k (fun kq v20 w' => ∃ (x4_1 : List Int) (x5_1 : List Int) (x20_1 : Int), v20 = .int .i64 x20_1 ∧ Aside0 (impl_pricesOf.l0 kq l0 x4_1 x5_1 (l0.length : Int) x20_1 = some (r1, r2)) ∧ Aside0 (kq ≤ k) ∧ Aside0 (Kd.R (Kd.int .i64) 3 w' w.heap.size (fun k_ => some k_ ≠ (v4 : Value).ownBlock) v11 x4_1) ∧ Aside0 (Kd.R (Kd.int .i64) 3 w' w.heap.size (fun k_ => some k_ ≠ (v11 : Value).ownBlock) v4 x5_1) ∧ Aside0 (Below w.heap.size w w'))
 case atStart => exact ⟨(y0), (y13), (0), EQ1, H', ⟨Nat.le_refl _⟩, ⟨rb HO2.out⟩, ⟨rb HO5.out⟩, ⟨BA⟩⟩
 case round =>
  clear H'
  obtain ⟨x4_1, x5_1, x20_1, rfl, HA, HK1, HO_4, HO_5, HB⟩ := hrel
  cases gk with
  | zero => exact absurd HA.out (by simp [impl_pricesOf.l0])
  | succ k1 =>
   have H := HA.out
   clear HA
   simp only [impl_pricesOf.l0] at H
   by_cases c10 : x20_1 < (l0.length : Int)
   ·rw [if_pos c10] at H
    have c10b0 := decide_eq_true c10
    clear c10
    obtain ⟨t16, A11, H⟩ := ob H
    (try dsimp only at H)
    have H' := Aside0.mk H
    clear H
    go_wp2_with (first | ((with_reducible refine gate_callee (f := 60) rfl ?_); refine gK (some 25) Try.func60 #[.slice A0 l0.length c0, .int .i64 x20_1] rfl rfl rfl ?_; (with_reducible refine (impl_tilesAt.calls k1 _ _ l0 x20_1 t16 _ ?side1 ?side2 A11.out).mono ?_); (case side1 => exact cb (Kd.C_below HR0.out HB.out)); (case side2 => exact HC0.out); rintro e w12 ⟨v7, rfl, ho0, hb⟩; refine ⟨_, rfl, ?_⟩; have HO8 := Aside0.mk (Kd.R_lower (Kd.R_new' (Kd.R_new' ho0 (Kd.R_lt (rb HO_4.out))) (Kd.R_lt (rb HO_5.out))) (below_size BA)); replace HO_4 := Aside0.mk (Kd.R_elder' (rb HO_4.out) (Kd.R_base ho0) hb); replace HO_5 := Aside0.mk (Kd.R_elder' (rb HO_5.out) (Kd.R_base ho0) hb); replace HB := bs hb; (try clear hb); (try clear ho0); obtain ⟨Ao13, co13, eo13⟩ := Kd.R_slice HO8.out; subst eo13))
    go_loopg [27] k1 (fun kq v27 w' => ∃ (x4_2 : List Int) (x5_2 : List Int) (x27_2 : Int), v27 = .int .i64 x27_2 ∧ Aside0 (impl_pricesOf.l1 kq l0 x4_2 x5_2 x20_1 (l0.length : Int) x20_1 t16 (t16.length : Int) x27_2 = some (r1, r2)) ∧ Aside0 (kq ≤ k1) ∧ Aside0 (Kd.R (Kd.int .i64) 3 w' w.heap.size (fun k_ => some k_ ≠ (v4 : Value).ownBlock ∧ some k_ ≠ ((.slice Ao13 t16.length co13) : Value).ownBlock) v11 x4_2) ∧ Aside0 (Kd.R (Kd.int .i64) 3 w' w.heap.size (fun k_ => some k_ ≠ (v11 : Value).ownBlock ∧ some k_ ≠ ((.slice Ao13 t16.length co13) : Value).ownBlock) v4 x5_2) ∧ Aside0 (Kd.R (Kd.int .i64) 3 w' w.heap.size (fun k_ => some k_ ≠ (v11 : Value).ownBlock ∧ some k_ ≠ (v4 : Value).ownBlock) (.slice Ao13 t16.length co13) t16) ∧ Aside0 (Below w.heap.size w w'))
    case atStart => exact ⟨(x4_1), (x5_1), (0), EQ1, H', ⟨Nat.le_refl _⟩, ⟨rb HO_4.out⟩, ⟨rb HO_5.out⟩, ⟨rb (Kd.R_mono HO8.out (fun _ hk => ⟨hk.1.2, hk.2⟩))⟩, ⟨BA⟩⟩
    case round =>
     clear H'
     obtain ⟨x4_2, x5_2, x27_2, rfl, HA, HK2, HO_4, HO_5, HO_25, HB⟩ := hrel
     cases gk with
     | zero => exact absurd HA.out (by simp [impl_pricesOf.l1])
     | succ k2 =>
      have H := HA.out
      clear HA
      simp only [impl_pricesOf.l1] at H
      by_cases c14 : x27_2 < (t16.length : Int)
      ·rw [if_pos c14] at H
       have c14b0 := decide_eq_true c14
       clear c14
       obtain ⟨c15, H⟩ := ifs H
       have c15b0 := decide_eq_true c15
       clear c15
       obtain ⟨c16, H⟩ := ifs H
       have c16b0 := decide_eq_true c16
       clear c16
       replace H := Option.bind_eq_some_iff.mp H
       obtain ⟨⟨t0, t3, t26, t27⟩, A70, H⟩ := H
       (try dsimp only at H)
       have A17 := Aside0.mk A70
       clear A70
       obtain ⟨t9, A18, H⟩ := ob H
       (try dsimp only at H)
       by_cases c19 : x27_2 = 0
       ·rw [if_pos c19] at H
        have c19b0 := beq_iff_eq.mpr c19
        have c19b1 := bne_eq_false_iff_eq.mpr c19
        clear c19
        obtain ⟨c20, H⟩ := ifs H
        have c20b0 := decide_eq_true c20
        clear c20
        obtain ⟨c21, H⟩ := ifs H
        have c21b0 := decide_eq_true c21
        clear c21
        obtain ⟨y30, hy30⟩ : ∃ y_ : List Int, y_ = (x4_2.set (x20_1 : Int).toNat t9) := ⟨_, rfl⟩
        replace H : (if x20_1 < (x5_2.length : Int) then (impl_pricesOf.l1 k2 l0 y30 (x5_2.set (x20_1 : Int).toNat (rd t16 x27_2)) x20_1 (l0.length : Int) x20_1 t16 (t16.length : Int) (wrap64 (x27_2 + 1))) else (none)) = some (r1, r2) := by first | (rw [hy30]; with_reducible exact H) | (have H2_ := (Option.bind_some _ _).symm.trans H; rw [hy30]; with_reducible exact H2_) | (have H2_ := (Option.bind_some _ _).symm.trans H; with_reducible exact H2_) | with_reducible exact H | (rw [hy30]; exact H) | exact H
        have Ny30 := Aside0.mk hy30
        clear hy30
        obtain ⟨c23, H⟩ := ifs H
        have c23b0 := decide_eq_true c23
        clear c23
        obtain ⟨y1, hy1⟩ : ∃ y_ : List Int, y_ = (x5_2.set (x20_1 : Int).toNat (rd t16 x27_2)) := ⟨_, rfl⟩
        replace H : (impl_pricesOf.l1 k2 l0 y30 y1 x20_1 (l0.length : Int) x20_1 t16 (t16.length : Int) (wrap64 (x27_2 + 1))) = some (r1, r2) := by first | (rw [hy1]; with_reducible exact H) | (have H2_ := (Option.bind_some _ _).symm.trans H; rw [hy1]; with_reducible exact H2_) | (have H2_ := (Option.bind_some _ _).symm.trans H; with_reducible exact H2_) | with_reducible exact H | (rw [hy1]; exact H) | exact H
        have Ny1 := Aside0.mk hy1
        clear hy1
        have H' := Aside0.mk H
        clear H
        have p9 : 0 ≤ (x27_2 : Int) := DT
        have q9 : x27_2 < (t16.length : Int) := DT
        obtain ⟨ad9, e9, hx9_0⟩ := Kd.at_int (Kd.R_reads' HO_25.out).2.2 x27_2 p9 q9
        cases e9
        replace p9 := eq_true p9
        replace q9 := eq_true q9
        go_wp2_with (first | ((with_reducible refine gate_callee (f := 78) rfl ?_); refine gK (some 36) Try.func78 #[.slice A0 l0.length c0, .int .i64 x20_1, .int .i64 (rd t16 x27_2)] rfl rfl rfl ?_; (with_reducible refine (impl_tileAt.calls k2 _ _ l0 x20_1 (rd t16 x27_2) t0 t3 t26 t27 _ ?side1 ?side2 A17.out).mono ?_); (case side1 => exact cb (Kd.C_below HR0.out HB.out)); (case side2 => exact HC0.out); rintro e w25 ⟨v21, v24, rfl, ho0, ho1, hb⟩; refine ⟨_, rfl, ?_⟩; have HO22 := Aside0.mk (Kd.R_lower (Kd.R_new' (Kd.R_new' (Kd.R_new' ho0 (Kd.R_lt (rb HO_4.out))) (Kd.R_lt (rb HO_5.out))) (Kd.R_lt (rb HO_25.out))) (below_size BA)); have HO25 := Aside0.mk (Kd.R_lower (Kd.R_new' (Kd.R_new' (Kd.R_new' ho1 (Kd.R_lt (rb HO_4.out))) (Kd.R_lt (rb HO_5.out))) (Kd.R_lt (rb HO_25.out))) (below_size BA)); replace HO_4 := Aside0.mk (Kd.R_mono (Kd.R_told (Kd.R_told (Kd.R_old (rb HO_4.out) hb) (Kd.R_base ho0)) (Kd.R_base ho1)) (fun _ h_ => h_.1)); replace HO_5 := Aside0.mk (Kd.R_mono (Kd.R_told (Kd.R_told (Kd.R_old (rb HO_5.out) hb) (Kd.R_base ho0)) (Kd.R_base ho1)) (fun _ h_ => h_.1)); replace HO_25 := Aside0.mk (Kd.R_mono (Kd.R_told (Kd.R_told (Kd.R_old (rb HO_25.out) hb) (Kd.R_base ho0)) (Kd.R_base ho1)) (fun _ h_ => h_.1)); replace HB := bs hb; (try clear hb); (try clear ho0); (try clear ho1)) | ((with_reducible refine gd 9 rfl ?_); refine bx 9 #[.slice none 0 0, .slice none 0 0, .int .i64 0] 57 ?_; intro gb8 hg w26 BK8 GW8 HB hb; replace HO_4 := Aside0.mk (Kd.R_below (rb HO_4.out) hb); replace HO_5 := Aside0.mk (Kd.R_below (rb HO_5.out) hb); replace HO_25 := Aside0.mk (Kd.R_below (rb HO_25.out) hb); replace HO22 := Aside0.mk (Kd.R_below (rb HO22.out) hb); replace HO25 := Aside0.mk (Kd.R_below (rb HO25.out) hb); have GE8 := GW8; clear hb hg; obtain ⟨Ao27, co27, eo27⟩ := Kd.R_slice HO22.out; subst eo27; obtain ⟨hcz28_0, hcz28_1, hcz28_2⟩ := bc3 BK8.out; have hfz28 := blk_frozen BK8.out; obtain ⟨Ao29, co29, eo29⟩ := Kd.R_slice HO25.out; subst eo29; obtain ⟨Ao30, co30, eo30⟩ := Kd.R_slice HO_4.out; subst eo30) | ((with_reducible refine gate_callee (f := 94) rfl ?_); refine gK (some 41) Try.func94 #[.agg #[.slice Ao27 t0.length co27, .slice Ao29 t3.length co29, .int .i64 t26], .slice Ao30 x4_2.length co30] rfl rfl rfl ?_; (with_reducible refine (impl_tile_total.calls k2 _ _ t0 _ _ t3 t26 _ _ x4_2 t9 _ ?side1 ?side2 ?side3 ?side4 ?side5 ?side6 A18.out).mono ?_); (case side1 => refine (Kd.R_reads' (e := 3) (base := w.heap.size) (ok := fun k_ => (((some k_ ≠ (.slice Ao29 t3.length co29 : Value).ownBlock ∧ some k_ ≠ (.slice Ao30 x4_2.length co30 : Value).ownBlock) ∧ some k_ ≠ (v4 : Value).ownBlock) ∧ some k_ ≠ (.slice (some ad9) t16.length co13 : Value).ownBlock)) (n := t0.length) (c := co27) ?_).2.2; exact (rb (Kd.R_mono (Kd.R_far (p := ⟨gb8, 2, none⟩) (Kd.R_far (p := ⟨gb8, 1, none⟩) (Kd.R_far (p := ⟨gb8, 0, none⟩) (Kd.R_types HO22.out BK8.out (by decide)) (fun _ hk => hk.2) (.slice Ao27 t0.length co27)) (fun _ hk => hk.2) (.slice Ao29 t3.length co29)) (fun _ hk => hk.2) (.int .i64 t26)) (fun _ h_ => h_.1)))); (case side2 => exact (Kd.R_reads' HO22.out).2.1); (case side3 => refine (Kd.R_reads' (e := 3) (base := w.heap.size) (ok := fun k_ => (((some k_ ≠ (.slice Ao27 t0.length co27 : Value).ownBlock ∧ some k_ ≠ (.slice Ao30 x4_2.length co30 : Value).ownBlock) ∧ some k_ ≠ (v4 : Value).ownBlock) ∧ some k_ ≠ (.slice (some ad9) t16.length co13 : Value).ownBlock)) (n := t3.length) (c := co29) ?_).2.2; exact (rb (Kd.R_mono (Kd.R_far (p := ⟨gb8, 2, none⟩) (Kd.R_far (p := ⟨gb8, 1, none⟩) (Kd.R_far (p := ⟨gb8, 0, none⟩) (Kd.R_types HO25.out BK8.out (by decide)) (fun _ hk => hk.2) (.slice Ao27 t0.length co27)) (fun _ hk => hk.2) (.slice Ao29 t3.length co29)) (fun _ hk => hk.2) (.int .i64 t26)) (fun _ h_ => h_.1)))); (case side4 => exact (Kd.R_reads' HO25.out).2.1); (case side5 => refine (Kd.R_reads' (e := 3) (base := w.heap.size) (ok := fun k_ => (((some k_ ≠ (v4 : Value).ownBlock ∧ some k_ ≠ (.slice (some ad9) t16.length co13 : Value).ownBlock) ∧ some k_ ≠ (.slice Ao27 t0.length co27 : Value).ownBlock) ∧ some k_ ≠ (.slice Ao29 t3.length co29 : Value).ownBlock)) (n := x4_2.length) (c := co30) ?_).2.2; exact (rb (Kd.R_mono (Kd.R_far (p := ⟨gb8, 2, none⟩) (Kd.R_far (p := ⟨gb8, 1, none⟩) (Kd.R_far (p := ⟨gb8, 0, none⟩) (Kd.R_types HO_4.out BK8.out (by decide)) (fun _ hk => hk.2) (.slice Ao27 t0.length co27)) (fun _ hk => hk.2) (.slice Ao29 t3.length co29)) (fun _ hk => hk.2) (.int .i64 t26)) (fun _ h_ => h_.1)))); (case side6 => exact (Kd.R_reads' HO_4.out).2.1); rintro e w31 ⟨rfl, hb⟩; refine ⟨_, rfl, ?_⟩; replace HO_4 := Aside0.mk (Kd.R_below (rb (Kd.R_mono (Kd.R_far (p := ⟨gb8, 2, none⟩) (Kd.R_far (p := ⟨gb8, 1, none⟩) (Kd.R_far (p := ⟨gb8, 0, none⟩) (Kd.R_types HO_4.out BK8.out (by decide)) (fun _ hk => hk.2) (.slice Ao27 t0.length co27)) (fun _ hk => hk.2) (.slice Ao29 t3.length co29)) (fun _ hk => hk.2) (.int .i64 t26)) (fun _ h_ => h_.1))) hb); replace HO_5 := Aside0.mk (Kd.R_below (rb (Kd.R_mono (Kd.R_far (p := ⟨gb8, 2, none⟩) (Kd.R_far (p := ⟨gb8, 1, none⟩) (Kd.R_far (p := ⟨gb8, 0, none⟩) (Kd.R_types HO_5.out BK8.out (by decide)) (fun _ hk => hk.2) (.slice Ao27 t0.length co27)) (fun _ hk => hk.2) (.slice Ao29 t3.length co29)) (fun _ hk => hk.2) (.int .i64 t26)) (fun _ h_ => h_.1))) hb); replace HO_25 := Aside0.mk (Kd.R_below (rb (Kd.R_mono (Kd.R_far (p := ⟨gb8, 2, none⟩) (Kd.R_far (p := ⟨gb8, 1, none⟩) (Kd.R_far (p := ⟨gb8, 0, none⟩) (Kd.R_types HO_25.out BK8.out (by decide)) (fun _ hk => hk.2) (.slice Ao27 t0.length co27)) (fun _ hk => hk.2) (.slice Ao29 t3.length co29)) (fun _ hk => hk.2) (.int .i64 t26)) (fun _ h_ => h_.1))) hb); replace HO22 := Aside0.mk (Kd.R_below (rb (Kd.R_mono (Kd.R_far (p := ⟨gb8, 2, none⟩) (Kd.R_far (p := ⟨gb8, 1, none⟩) (Kd.R_far (p := ⟨gb8, 0, none⟩) (Kd.R_types HO22.out BK8.out (by decide)) (fun _ hk => hk.2) (.slice Ao27 t0.length co27)) (fun _ hk => hk.2) (.slice Ao29 t3.length co29)) (fun _ hk => hk.2) (.int .i64 t26)) (fun _ h_ => h_.1))) hb); replace HO25 := Aside0.mk (Kd.R_below (rb (Kd.R_mono (Kd.R_far (p := ⟨gb8, 2, none⟩) (Kd.R_far (p := ⟨gb8, 1, none⟩) (Kd.R_far (p := ⟨gb8, 0, none⟩) (Kd.R_types HO25.out BK8.out (by decide)) (fun _ hk => hk.2) (.slice Ao27 t0.length co27)) (fun _ hk => hk.2) (.slice Ao29 t3.length co29)) (fun _ hk => hk.2) (.int .i64 t26)) (fun _ h_ => h_.1))) hb); replace BK8 := Aside0.mk (blk_below (g := gb8) (o := .cells #[.slice Ao27 t0.length co27, .slice Ao29 t3.length co29, .int .i64 t26] 57 (0, 0)) (bq BK8.out) hb); replace HB := bs hb; (try clear hb); have p22 : 0 ≤ (x20_1 : Int) := DT; have q22 : (x20_1 : Int) < ((x4_2.length : Int) : Int) := DT; obtain ⟨go22, co22, eo22, gb22, gl22, cl22, HG22⟩ := Kd.R_form HO_4.out (by omega); (first | cases eo22 | (injection eo22 with ea_ en_ ec_; (first | subst ea_ | (injection ea_ with ea_; subst ea_)); subst ec_; clear en_)); have GB22 := Aside0.mk gb22; have GG22 := Aside0.mk HG22; clear gb22 gl22 HG22; obtain ⟨hx22_0, hf22_0⟩ := Kd.R_celln 0 HO_4.out (x20_1 : Int) p22 q22; replace p22 := eq_true p22; replace q22 := eq_true q22; have n_ := Aside0.mk (Kd.R_mono (ok' := (fun k_ => some k_ ≠ (v4 : Value).ownBlock ∧ some k_ ≠ (.slice (some ad9) t16.length co13 : Value).ownBlock ∧ some k_ ≠ (.slice Ao27 t0.length co27 : Value).ownBlock ∧ some k_ ≠ (.slice Ao29 t3.length co29 : Value).ownBlock)) HO_4.out (fun k_ hk => ⟨hk.1.1.1, ⟨hk.1.1.2, ⟨hk.1.2, hk.2⟩⟩⟩)); clear HO_4; have HO_4 := n_; clear n_; obtain ⟨hy32_, hz32_⟩ := Kd.R_celln 0 HO_4.out (x20_1 : Int) DT DT; have HP32 := Kd.R_putg HO_4.out (x20_1 : Int) t9) | ((with_reducible refine gate_store (t := 3) (p := 58) rfl ?_); refine store_event (t := 3) (p := 58) (v := ?vo_w33) (w1 := (w31.setCell ⟨go22, (x20_1 : Int).toNat, none⟩ (.int .i64 t9))) ?hg ?ho ?hn ?hr ?_; (case ho => rfl); (case hg => rfl); (case hn => rfl); (case hr => first | (go_simp; done) | (go_simp; rfl)); intro w33 hw; have hg : w31.grownBy w33 (some go22) := (by rw [hw]; exact HP32.2); have hp_ : Kd.R (Kd.int .i64) 3 w33 w.heap.size (fun k_ => some k_ ≠ (v4 : Value).ownBlock ∧ some k_ ≠ (.slice (some ad9) t16.length co13 : Value).ownBlock ∧ some k_ ≠ (.slice Ao27 t0.length co27 : Value).ownBlock ∧ some k_ ≠ (.slice Ao29 t3.length co29 : Value).ownBlock) (.slice (some ⟨go22, 0, none⟩) x4_2.length co30) y30 := (by rw [hw, Ny30.out]; exact HP32.1); clear HP32; replace HO_5 := Aside0.mk (Kd.R_after (v := (.slice (some ⟨go22, 0, none⟩) x4_2.length co30)) (v1 := (.slice (some ⟨go22, 0, none⟩) x4_2.length co30)) (ok := (fun k_ => some k_ ≠ (.slice (some ad9) t16.length co13 : Value).ownBlock ∧ some k_ ≠ (.slice Ao27 t0.length co27 : Value).ownBlock ∧ some k_ ≠ (.slice Ao29 t3.length co29 : Value).ownBlock)) (rb (Kd.R_mono HO_5.out (fun _ hk => ⟨⟨hk.1.1.2, ⟨hk.1.2, hk.2⟩⟩, hk.1.1.1⟩))) hg (.inl rfl)); replace HO_25 := Aside0.mk (Kd.R_after (v := (.slice (some ⟨go22, 0, none⟩) x4_2.length co30)) (v1 := (.slice (some ⟨go22, 0, none⟩) x4_2.length co30)) (ok := (fun k_ => some k_ ≠ (v4 : Value).ownBlock ∧ some k_ ≠ (.slice Ao27 t0.length co27 : Value).ownBlock ∧ some k_ ≠ (.slice Ao29 t3.length co29 : Value).ownBlock)) (rb (Kd.R_mono HO_25.out (fun _ hk => ⟨⟨hk.1.1.2, ⟨hk.1.2, hk.2⟩⟩, hk.1.1.1⟩))) hg (.inl rfl)); replace HO22 := Aside0.mk (Kd.R_after (v := (.slice (some ⟨go22, 0, none⟩) x4_2.length co30)) (v1 := (.slice (some ⟨go22, 0, none⟩) x4_2.length co30)) (ok := (fun k_ => some k_ ≠ (v4 : Value).ownBlock ∧ some k_ ≠ (.slice (some ad9) t16.length co13 : Value).ownBlock ∧ some k_ ≠ (.slice Ao29 t3.length co29 : Value).ownBlock)) (rb (Kd.R_mono HO22.out (fun _ hk => ⟨⟨hk.1.2, ⟨hk.2, hk.1.1.1⟩⟩, hk.1.1.2⟩))) hg (.inl rfl)); replace HO25 := Aside0.mk (Kd.R_after (v := (.slice (some ⟨go22, 0, none⟩) x4_2.length co30)) (v1 := (.slice (some ⟨go22, 0, none⟩) x4_2.length co30)) (ok := (fun k_ => some k_ ≠ (v4 : Value).ownBlock ∧ some k_ ≠ (.slice (some ad9) t16.length co13 : Value).ownBlock ∧ some k_ ≠ (.slice Ao27 t0.length co27 : Value).ownBlock)) (rb (Kd.R_mono HO25.out (fun _ hk => ⟨⟨hk.1.2, ⟨hk.2, hk.1.1.1⟩⟩, hk.1.1.2⟩))) hg (.inl rfl)); replace BK8 := Aside0.mk (blk_grown (g := gb8) (o := .cells #[.slice Ao27 t0.length co27, .slice Ao29 t3.length co29, .int .i64 t26] 57 (0, 0)) (bk BK8.out) hg (Kd.R_ne HO_4.out BK8.out (by decide))); replace HO_4 := Aside0.mk (hp_); replace HB := Aside0.mk ((by rw [hw]; exact below_set (HB.out) GB22.out : Below w.heap.size w w33)); clear hg hw hp_; have p24 : 0 ≤ (x20_1 : Int) := DT; have q24 : (x20_1 : Int) < ((x5_2.length : Int) : Int) := DT; obtain ⟨go24, co24, eo24, gb24, gl24, cl24, HG24⟩ := Kd.R_form HO_5.out (by omega); (first | cases eo24 | (injection eo24 with ea_ en_ ec_; (first | subst ea_ | (injection ea_ with ea_; subst ea_)); subst ec_; clear en_)); have GB24 := Aside0.mk gb24; have GG24 := Aside0.mk HG24; clear gb24 gl24 HG24; obtain ⟨hx24_0, hf24_0⟩ := Kd.R_celln 0 HO_5.out (x20_1 : Int) p24 q24; replace p24 := eq_true p24; replace q24 := eq_true q24; have n_ := Aside0.mk (Kd.R_mono (ok' := (fun k_ => some k_ ≠ (.slice (some ⟨go22, 0, none⟩) x4_2.length co30 : Value).ownBlock ∧ some k_ ≠ (.slice (some ad9) t16.length co13 : Value).ownBlock ∧ some k_ ≠ (.slice Ao27 t0.length co27 : Value).ownBlock ∧ some k_ ≠ (.slice Ao29 t3.length co29 : Value).ownBlock)) HO_5.out (fun k_ hk => ⟨hk.2, ⟨hk.1.1, ⟨hk.1.2.1, hk.1.2.2⟩⟩⟩)); clear HO_5; have HO_5 := n_; clear n_; obtain ⟨hy34_, hz34_⟩ := Kd.R_celln 0 HO_5.out (x20_1 : Int) DT DT; have HP34 := Kd.R_putg HO_5.out (x20_1 : Int) (rd t16 x27_2)) | ((with_reducible refine gate_store (t := 3) (p := 59) rfl ?_); refine store_event (t := 3) (p := 59) (v := ?vo_w35) (w1 := (w33.setCell ⟨go24, (x20_1 : Int).toNat, none⟩ (.int .i64 (rd t16 x27_2)))) ?hg ?ho ?hn ?hr ?_; (case ho => rfl); (case hg => rfl); (case hn => rfl); (case hr => first | (go_simp; done) | (go_simp; rfl)); intro w35 hw; have hg : w33.grownBy w35 (some go24) := (by rw [hw]; exact HP34.2); have hp_ : Kd.R (Kd.int .i64) 3 w35 w.heap.size (fun k_ => some k_ ≠ (.slice (some ⟨go22, 0, none⟩) x4_2.length co30 : Value).ownBlock ∧ some k_ ≠ (.slice (some ad9) t16.length co13 : Value).ownBlock ∧ some k_ ≠ (.slice Ao27 t0.length co27 : Value).ownBlock ∧ some k_ ≠ (.slice Ao29 t3.length co29 : Value).ownBlock) (.slice (some ⟨go24, 0, none⟩) x5_2.length co24) y1 := (by rw [hw, Ny1.out]; exact HP34.1); clear HP34; replace HO_4 := Aside0.mk (Kd.R_after (v := (.slice (some ⟨go24, 0, none⟩) x5_2.length co24)) (v1 := (.slice (some ⟨go24, 0, none⟩) x5_2.length co24)) (ok := (fun k_ => some k_ ≠ (.slice (some ad9) t16.length co13 : Value).ownBlock ∧ some k_ ≠ (.slice Ao27 t0.length co27 : Value).ownBlock ∧ some k_ ≠ (.slice Ao29 t3.length co29 : Value).ownBlock)) (rb (Kd.R_mono HO_4.out (fun _ hk => ⟨⟨hk.2.1, ⟨hk.2.2.1, hk.2.2.2⟩⟩, hk.1⟩))) hg (.inl rfl)); replace HO_25 := Aside0.mk (Kd.R_after (v := (.slice (some ⟨go24, 0, none⟩) x5_2.length co24)) (v1 := (.slice (some ⟨go24, 0, none⟩) x5_2.length co24)) (ok := (fun k_ => some k_ ≠ (.slice (some ⟨go22, 0, none⟩) x4_2.length co30 : Value).ownBlock ∧ some k_ ≠ (.slice Ao27 t0.length co27 : Value).ownBlock ∧ some k_ ≠ (.slice Ao29 t3.length co29 : Value).ownBlock)) (rb (Kd.R_mono HO_25.out (fun _ hk => ⟨⟨hk.2, ⟨hk.1.2.1, hk.1.2.2⟩⟩, hk.1.1⟩))) hg (.inl rfl)); replace HO22 := Aside0.mk (Kd.R_after (v := (.slice (some ⟨go24, 0, none⟩) x5_2.length co24)) (v1 := (.slice (some ⟨go24, 0, none⟩) x5_2.length co24)) (ok := (fun k_ => some k_ ≠ (.slice (some ⟨go22, 0, none⟩) x4_2.length co30 : Value).ownBlock ∧ some k_ ≠ (.slice (some ad9) t16.length co13 : Value).ownBlock ∧ some k_ ≠ (.slice Ao29 t3.length co29 : Value).ownBlock)) (rb (Kd.R_mono HO22.out (fun _ hk => ⟨⟨hk.2, ⟨hk.1.2.1, hk.1.2.2⟩⟩, hk.1.1⟩))) hg (.inl rfl)); replace HO25 := Aside0.mk (Kd.R_after (v := (.slice (some ⟨go24, 0, none⟩) x5_2.length co24)) (v1 := (.slice (some ⟨go24, 0, none⟩) x5_2.length co24)) (ok := (fun k_ => some k_ ≠ (.slice (some ⟨go22, 0, none⟩) x4_2.length co30 : Value).ownBlock ∧ some k_ ≠ (.slice (some ad9) t16.length co13 : Value).ownBlock ∧ some k_ ≠ (.slice Ao27 t0.length co27 : Value).ownBlock)) (rb (Kd.R_mono HO25.out (fun _ hk => ⟨⟨hk.2, ⟨hk.1.2.1, hk.1.2.2⟩⟩, hk.1.1⟩))) hg (.inl rfl)); replace BK8 := Aside0.mk (blk_grown (g := gb8) (o := .cells #[.slice Ao27 t0.length co27, .slice Ao29 t3.length co29, .int .i64 t26] 57 (0, 0)) (bk BK8.out) hg (Kd.R_ne HO_5.out BK8.out (by decide))); replace HO_5 := Aside0.mk (hp_); replace HB := Aside0.mk ((by rw [hw]; exact below_set (HB.out) GB24.out : Below w.heap.size w w35)); clear hg hw hp_))
        go_roundg k2
        case measure => have := HK1.out; have := HK2.out; omega
        case rel => exact ⟨(y30), (y1), (wrap64 (x27_2 + 1)), EQ1, H', ⟨by have := HK1.out; have := HK2.out; omega⟩, ⟨rb (Kd.R_mono HO_4.out (fun _ hk => ⟨hk.2, hk.1.1⟩))⟩, ⟨rb (Kd.R_mono HO_5.out (fun _ hk => ⟨hk.1, hk.2.1⟩))⟩, ⟨rb (Kd.R_mono HO_25.out (fun _ hk => ⟨hk.1.1, hk.2⟩))⟩, ⟨BA⟩⟩
       ·rw [if_neg c19] at H
        have c19b0 := beq_eq_false_iff_ne.mpr c19
        have c19b1 := bne_iff_ne.mpr c19
        obtain ⟨c36, H⟩ := ifs H
        have c36b0 := decide_eq_true c36
        clear c36
        obtain ⟨c37, H⟩ := ifs H
        have c37b0 := decide_eq_true c37
        clear c37
        by_cases c38 : t9 < (rd x4_2 x20_1)
        ·rw [if_pos c38] at H
         have c38b0 := decide_eq_true c38
         clear c38
         obtain ⟨y33, hy33⟩ : ∃ y_ : List Int, y_ = (x4_2.set (x20_1 : Int).toNat t9) := ⟨_, rfl⟩
         replace H : (if x20_1 < (x5_2.length : Int) then (impl_pricesOf.l1 k2 l0 y33 (x5_2.set (x20_1 : Int).toNat (rd t16 x27_2)) x20_1 (l0.length : Int) x20_1 t16 (t16.length : Int) (wrap64 (x27_2 + 1))) else (none)) = some (r1, r2) := by first | (rw [hy33]; with_reducible exact H) | (have H2_ := (Option.bind_some _ _).symm.trans H; rw [hy33]; with_reducible exact H2_) | (have H2_ := (Option.bind_some _ _).symm.trans H; with_reducible exact H2_) | with_reducible exact H | (rw [hy33]; exact H) | exact H
         have Ny33 := Aside0.mk hy33
         clear hy33
         obtain ⟨c40, H⟩ := ifs H
         have c40b0 := decide_eq_true c40
         clear c40
         obtain ⟨y4, hy4⟩ : ∃ y_ : List Int, y_ = (x5_2.set (x20_1 : Int).toNat (rd t16 x27_2)) := ⟨_, rfl⟩
         replace H : (impl_pricesOf.l1 k2 l0 y33 y4 x20_1 (l0.length : Int) x20_1 t16 (t16.length : Int) (wrap64 (x27_2 + 1))) = some (r1, r2) := by first | (rw [hy4]; with_reducible exact H) | (have H2_ := (Option.bind_some _ _).symm.trans H; rw [hy4]; with_reducible exact H2_) | (have H2_ := (Option.bind_some _ _).symm.trans H; with_reducible exact H2_) | with_reducible exact H | (rw [hy4]; exact H) | exact H
         have Ny4 := Aside0.mk hy4
         clear hy4
         have H' := Aside0.mk H
         clear H
         have p9 : 0 ≤ (x27_2 : Int) := DT
         have q9 : x27_2 < (t16.length : Int) := DT
         obtain ⟨ad9, e9, hx9_0⟩ := Kd.at_int (Kd.R_reads' HO_25.out).2.2 x27_2 p9 q9
         cases e9
         replace p9 := eq_true p9
         replace q9 := eq_true q9
         go_wp2_with (first | ((with_reducible refine gate_callee (f := 78) rfl ?_); refine gK (some 36) Try.func78 #[.slice A0 l0.length c0, .int .i64 x20_1, .int .i64 (rd t16 x27_2)] rfl rfl rfl ?_; (with_reducible refine (impl_tileAt.calls k2 _ _ l0 x20_1 (rd t16 x27_2) t0 t3 t26 t27 _ ?side1 ?side2 A17.out).mono ?_); (case side1 => exact cb (Kd.C_below HR0.out HB.out)); (case side2 => exact HC0.out); rintro e w42 ⟨v21, v24, rfl, ho0, ho1, hb⟩; refine ⟨_, rfl, ?_⟩; have HO22 := Aside0.mk (Kd.R_lower (Kd.R_new' (Kd.R_new' (Kd.R_new' ho0 (Kd.R_lt (rb HO_4.out))) (Kd.R_lt (rb HO_5.out))) (Kd.R_lt (rb HO_25.out))) (below_size BA)); have HO25 := Aside0.mk (Kd.R_lower (Kd.R_new' (Kd.R_new' (Kd.R_new' ho1 (Kd.R_lt (rb HO_4.out))) (Kd.R_lt (rb HO_5.out))) (Kd.R_lt (rb HO_25.out))) (below_size BA)); replace HO_4 := Aside0.mk (Kd.R_mono (Kd.R_told (Kd.R_told (Kd.R_old (rb HO_4.out) hb) (Kd.R_base ho0)) (Kd.R_base ho1)) (fun _ h_ => h_.1)); replace HO_5 := Aside0.mk (Kd.R_mono (Kd.R_told (Kd.R_told (Kd.R_old (rb HO_5.out) hb) (Kd.R_base ho0)) (Kd.R_base ho1)) (fun _ h_ => h_.1)); replace HO_25 := Aside0.mk (Kd.R_mono (Kd.R_told (Kd.R_told (Kd.R_old (rb HO_25.out) hb) (Kd.R_base ho0)) (Kd.R_base ho1)) (fun _ h_ => h_.1)); replace HB := bs hb; (try clear hb); (try clear ho0); (try clear ho1)) | ((with_reducible refine gd 9 rfl ?_); refine bx 9 #[.slice none 0 0, .slice none 0 0, .int .i64 0] 57 ?_; intro gb8 hg w43 BK8 GW8 HB hb; replace HO_4 := Aside0.mk (Kd.R_below (rb HO_4.out) hb); replace HO_5 := Aside0.mk (Kd.R_below (rb HO_5.out) hb); replace HO_25 := Aside0.mk (Kd.R_below (rb HO_25.out) hb); replace HO22 := Aside0.mk (Kd.R_below (rb HO22.out) hb); replace HO25 := Aside0.mk (Kd.R_below (rb HO25.out) hb); have GE8 := GW8; clear hb hg; obtain ⟨Ao44, co44, eo44⟩ := Kd.R_slice HO22.out; subst eo44; obtain ⟨hcz45_0, hcz45_1, hcz45_2⟩ := bc3 BK8.out; have hfz45 := blk_frozen BK8.out; obtain ⟨Ao46, co46, eo46⟩ := Kd.R_slice HO25.out; subst eo46; obtain ⟨Ao47, co47, eo47⟩ := Kd.R_slice HO_4.out; subst eo47) | ((with_reducible refine gate_callee (f := 94) rfl ?_); refine gK (some 41) Try.func94 #[.agg #[.slice Ao44 t0.length co44, .slice Ao46 t3.length co46, .int .i64 t26], .slice Ao47 x4_2.length co47] rfl rfl rfl ?_; (with_reducible refine (impl_tile_total.calls k2 _ _ t0 _ _ t3 t26 _ _ x4_2 t9 _ ?side1 ?side2 ?side3 ?side4 ?side5 ?side6 A18.out).mono ?_); (case side1 => refine (Kd.R_reads' (e := 3) (base := w.heap.size) (ok := fun k_ => (((some k_ ≠ (.slice Ao46 t3.length co46 : Value).ownBlock ∧ some k_ ≠ (.slice Ao47 x4_2.length co47 : Value).ownBlock) ∧ some k_ ≠ (v4 : Value).ownBlock) ∧ some k_ ≠ (.slice (some ad9) t16.length co13 : Value).ownBlock)) (n := t0.length) (c := co44) ?_).2.2; exact (rb (Kd.R_mono (Kd.R_far (p := ⟨gb8, 2, none⟩) (Kd.R_far (p := ⟨gb8, 1, none⟩) (Kd.R_far (p := ⟨gb8, 0, none⟩) (Kd.R_types HO22.out BK8.out (by decide)) (fun _ hk => hk.2) (.slice Ao44 t0.length co44)) (fun _ hk => hk.2) (.slice Ao46 t3.length co46)) (fun _ hk => hk.2) (.int .i64 t26)) (fun _ h_ => h_.1)))); (case side2 => exact (Kd.R_reads' HO22.out).2.1); (case side3 => refine (Kd.R_reads' (e := 3) (base := w.heap.size) (ok := fun k_ => (((some k_ ≠ (.slice Ao44 t0.length co44 : Value).ownBlock ∧ some k_ ≠ (.slice Ao47 x4_2.length co47 : Value).ownBlock) ∧ some k_ ≠ (v4 : Value).ownBlock) ∧ some k_ ≠ (.slice (some ad9) t16.length co13 : Value).ownBlock)) (n := t3.length) (c := co46) ?_).2.2; exact (rb (Kd.R_mono (Kd.R_far (p := ⟨gb8, 2, none⟩) (Kd.R_far (p := ⟨gb8, 1, none⟩) (Kd.R_far (p := ⟨gb8, 0, none⟩) (Kd.R_types HO25.out BK8.out (by decide)) (fun _ hk => hk.2) (.slice Ao44 t0.length co44)) (fun _ hk => hk.2) (.slice Ao46 t3.length co46)) (fun _ hk => hk.2) (.int .i64 t26)) (fun _ h_ => h_.1)))); (case side4 => exact (Kd.R_reads' HO25.out).2.1); (case side5 => refine (Kd.R_reads' (e := 3) (base := w.heap.size) (ok := fun k_ => (((some k_ ≠ (v4 : Value).ownBlock ∧ some k_ ≠ (.slice (some ad9) t16.length co13 : Value).ownBlock) ∧ some k_ ≠ (.slice Ao44 t0.length co44 : Value).ownBlock) ∧ some k_ ≠ (.slice Ao46 t3.length co46 : Value).ownBlock)) (n := x4_2.length) (c := co47) ?_).2.2; exact (rb (Kd.R_mono (Kd.R_far (p := ⟨gb8, 2, none⟩) (Kd.R_far (p := ⟨gb8, 1, none⟩) (Kd.R_far (p := ⟨gb8, 0, none⟩) (Kd.R_types HO_4.out BK8.out (by decide)) (fun _ hk => hk.2) (.slice Ao44 t0.length co44)) (fun _ hk => hk.2) (.slice Ao46 t3.length co46)) (fun _ hk => hk.2) (.int .i64 t26)) (fun _ h_ => h_.1)))); (case side6 => exact (Kd.R_reads' HO_4.out).2.1); rintro e w48 ⟨rfl, hb⟩; refine ⟨_, rfl, ?_⟩; replace HO_4 := Aside0.mk (Kd.R_below (rb (Kd.R_mono (Kd.R_far (p := ⟨gb8, 2, none⟩) (Kd.R_far (p := ⟨gb8, 1, none⟩) (Kd.R_far (p := ⟨gb8, 0, none⟩) (Kd.R_types HO_4.out BK8.out (by decide)) (fun _ hk => hk.2) (.slice Ao44 t0.length co44)) (fun _ hk => hk.2) (.slice Ao46 t3.length co46)) (fun _ hk => hk.2) (.int .i64 t26)) (fun _ h_ => h_.1))) hb); replace HO_5 := Aside0.mk (Kd.R_below (rb (Kd.R_mono (Kd.R_far (p := ⟨gb8, 2, none⟩) (Kd.R_far (p := ⟨gb8, 1, none⟩) (Kd.R_far (p := ⟨gb8, 0, none⟩) (Kd.R_types HO_5.out BK8.out (by decide)) (fun _ hk => hk.2) (.slice Ao44 t0.length co44)) (fun _ hk => hk.2) (.slice Ao46 t3.length co46)) (fun _ hk => hk.2) (.int .i64 t26)) (fun _ h_ => h_.1))) hb); replace HO_25 := Aside0.mk (Kd.R_below (rb (Kd.R_mono (Kd.R_far (p := ⟨gb8, 2, none⟩) (Kd.R_far (p := ⟨gb8, 1, none⟩) (Kd.R_far (p := ⟨gb8, 0, none⟩) (Kd.R_types HO_25.out BK8.out (by decide)) (fun _ hk => hk.2) (.slice Ao44 t0.length co44)) (fun _ hk => hk.2) (.slice Ao46 t3.length co46)) (fun _ hk => hk.2) (.int .i64 t26)) (fun _ h_ => h_.1))) hb); replace HO22 := Aside0.mk (Kd.R_below (rb (Kd.R_mono (Kd.R_far (p := ⟨gb8, 2, none⟩) (Kd.R_far (p := ⟨gb8, 1, none⟩) (Kd.R_far (p := ⟨gb8, 0, none⟩) (Kd.R_types HO22.out BK8.out (by decide)) (fun _ hk => hk.2) (.slice Ao44 t0.length co44)) (fun _ hk => hk.2) (.slice Ao46 t3.length co46)) (fun _ hk => hk.2) (.int .i64 t26)) (fun _ h_ => h_.1))) hb); replace HO25 := Aside0.mk (Kd.R_below (rb (Kd.R_mono (Kd.R_far (p := ⟨gb8, 2, none⟩) (Kd.R_far (p := ⟨gb8, 1, none⟩) (Kd.R_far (p := ⟨gb8, 0, none⟩) (Kd.R_types HO25.out BK8.out (by decide)) (fun _ hk => hk.2) (.slice Ao44 t0.length co44)) (fun _ hk => hk.2) (.slice Ao46 t3.length co46)) (fun _ hk => hk.2) (.int .i64 t26)) (fun _ h_ => h_.1))) hb); replace BK8 := Aside0.mk (blk_below (g := gb8) (o := .cells #[.slice Ao44 t0.length co44, .slice Ao46 t3.length co46, .int .i64 t26] 57 (0, 0)) (bq BK8.out) hb); replace HB := bs hb; (try clear hb); have p2 : 0 ≤ (x20_1 : Int) := DT; have q2 : x20_1 < (x4_2.length : Int) := DT; obtain ⟨ad2, e2, hx2_0⟩ := Kd.at_int (Kd.R_reads' HO_4.out).2.2 x20_1 p2 q2; cases e2; replace p2 := eq_true p2; replace q2 := eq_true q2; have p39 : 0 ≤ (x20_1 : Int) := DT; have q39 : (x20_1 : Int) < ((x4_2.length : Int) : Int) := DT; obtain ⟨go39, co39, eo39, gb39, gl39, cl39, HG39⟩ := Kd.R_form HO_4.out (by omega); (first | cases eo39 | (injection eo39 with ea_ en_ ec_; (first | subst ea_ | (injection ea_ with ea_; subst ea_)); subst ec_; clear en_)); have GB39 := Aside0.mk gb39; have GG39 := Aside0.mk HG39; clear gb39 gl39 HG39; (first | simp only [add_plain] at hx2_0 | skip); obtain ⟨hx39_0, hf39_0⟩ := Kd.R_celln 0 HO_4.out (x20_1 : Int) p39 q39; replace p39 := eq_true p39; replace q39 := eq_true q39; have n_ := Aside0.mk (Kd.R_mono (ok' := (fun k_ => some k_ ≠ (v4 : Value).ownBlock ∧ some k_ ≠ (.slice (some ad9) t16.length co13 : Value).ownBlock ∧ some k_ ≠ (.slice Ao44 t0.length co44 : Value).ownBlock ∧ some k_ ≠ (.slice Ao46 t3.length co46 : Value).ownBlock)) HO_4.out (fun k_ hk => ⟨hk.1.1.1, ⟨hk.1.1.2, ⟨hk.1.2, hk.2⟩⟩⟩)); clear HO_4; have HO_4 := n_; clear n_; obtain ⟨hy49_, hz49_⟩ := Kd.R_celln 0 HO_4.out (x20_1 : Int) DT DT; have HP49 := Kd.R_putg HO_4.out (x20_1 : Int) t9) | ((with_reducible refine gate_store (t := 3) (p := 58) rfl ?_); refine store_event (t := 3) (p := 58) (v := ?vo_w50) (w1 := (w48.setCell ⟨go39, (x20_1 : Int).toNat, none⟩ (.int .i64 t9))) ?hg ?ho ?hn ?hr ?_; (case ho => rfl); (case hg => rfl); (case hn => rfl); (case hr => first | (go_simp; done) | (go_simp; rfl)); intro w50 hw; have hg : w48.grownBy w50 (some go39) := (by rw [hw]; exact HP49.2); have hp_ : Kd.R (Kd.int .i64) 3 w50 w.heap.size (fun k_ => some k_ ≠ (v4 : Value).ownBlock ∧ some k_ ≠ (.slice (some ad9) t16.length co13 : Value).ownBlock ∧ some k_ ≠ (.slice Ao44 t0.length co44 : Value).ownBlock ∧ some k_ ≠ (.slice Ao46 t3.length co46 : Value).ownBlock) (.slice (some ⟨go39, 0, none⟩) x4_2.length co47) y33 := (by rw [hw, Ny33.out]; exact HP49.1); clear HP49; replace HO_5 := Aside0.mk (Kd.R_after (v := (.slice (some ⟨go39, 0, none⟩) x4_2.length co47)) (v1 := (.slice (some ⟨go39, 0, none⟩) x4_2.length co47)) (ok := (fun k_ => some k_ ≠ (.slice (some ad9) t16.length co13 : Value).ownBlock ∧ some k_ ≠ (.slice Ao44 t0.length co44 : Value).ownBlock ∧ some k_ ≠ (.slice Ao46 t3.length co46 : Value).ownBlock)) (rb (Kd.R_mono HO_5.out (fun _ hk => ⟨⟨hk.1.1.2, ⟨hk.1.2, hk.2⟩⟩, hk.1.1.1⟩))) hg (.inl rfl)); replace HO_25 := Aside0.mk (Kd.R_after (v := (.slice (some ⟨go39, 0, none⟩) x4_2.length co47)) (v1 := (.slice (some ⟨go39, 0, none⟩) x4_2.length co47)) (ok := (fun k_ => some k_ ≠ (v4 : Value).ownBlock ∧ some k_ ≠ (.slice Ao44 t0.length co44 : Value).ownBlock ∧ some k_ ≠ (.slice Ao46 t3.length co46 : Value).ownBlock)) (rb (Kd.R_mono HO_25.out (fun _ hk => ⟨⟨hk.1.1.2, ⟨hk.1.2, hk.2⟩⟩, hk.1.1.1⟩))) hg (.inl rfl)); replace HO22 := Aside0.mk (Kd.R_after (v := (.slice (some ⟨go39, 0, none⟩) x4_2.length co47)) (v1 := (.slice (some ⟨go39, 0, none⟩) x4_2.length co47)) (ok := (fun k_ => some k_ ≠ (v4 : Value).ownBlock ∧ some k_ ≠ (.slice (some ad9) t16.length co13 : Value).ownBlock ∧ some k_ ≠ (.slice Ao46 t3.length co46 : Value).ownBlock)) (rb (Kd.R_mono HO22.out (fun _ hk => ⟨⟨hk.1.2, ⟨hk.2, hk.1.1.1⟩⟩, hk.1.1.2⟩))) hg (.inl rfl)); replace HO25 := Aside0.mk (Kd.R_after (v := (.slice (some ⟨go39, 0, none⟩) x4_2.length co47)) (v1 := (.slice (some ⟨go39, 0, none⟩) x4_2.length co47)) (ok := (fun k_ => some k_ ≠ (v4 : Value).ownBlock ∧ some k_ ≠ (.slice (some ad9) t16.length co13 : Value).ownBlock ∧ some k_ ≠ (.slice Ao44 t0.length co44 : Value).ownBlock)) (rb (Kd.R_mono HO25.out (fun _ hk => ⟨⟨hk.1.2, ⟨hk.2, hk.1.1.1⟩⟩, hk.1.1.2⟩))) hg (.inl rfl)); replace BK8 := Aside0.mk (blk_grown (g := gb8) (o := .cells #[.slice Ao44 t0.length co44, .slice Ao46 t3.length co46, .int .i64 t26] 57 (0, 0)) (bk BK8.out) hg (Kd.R_ne HO_4.out BK8.out (by decide))); replace HO_4 := Aside0.mk (hp_); replace HB := Aside0.mk ((by rw [hw]; exact below_set (HB.out) GB39.out : Below w.heap.size w w50)); clear hg hw hp_; have p41 : 0 ≤ (x20_1 : Int) := DT; have q41 : (x20_1 : Int) < ((x5_2.length : Int) : Int) := DT; obtain ⟨go41, co41, eo41, gb41, gl41, cl41, HG41⟩ := Kd.R_form HO_5.out (by omega); (first | cases eo41 | (injection eo41 with ea_ en_ ec_; (first | subst ea_ | (injection ea_ with ea_; subst ea_)); subst ec_; clear en_)); have GB41 := Aside0.mk gb41; have GG41 := Aside0.mk HG41; clear gb41 gl41 HG41; obtain ⟨hx41_0, hf41_0⟩ := Kd.R_celln 0 HO_5.out (x20_1 : Int) p41 q41; replace p41 := eq_true p41; replace q41 := eq_true q41; have n_ := Aside0.mk (Kd.R_mono (ok' := (fun k_ => some k_ ≠ (.slice (some ⟨go39, 0, none⟩) x4_2.length co47 : Value).ownBlock ∧ some k_ ≠ (.slice (some ad9) t16.length co13 : Value).ownBlock ∧ some k_ ≠ (.slice Ao44 t0.length co44 : Value).ownBlock ∧ some k_ ≠ (.slice Ao46 t3.length co46 : Value).ownBlock)) HO_5.out (fun k_ hk => ⟨hk.2, ⟨hk.1.1, ⟨hk.1.2.1, hk.1.2.2⟩⟩⟩)); clear HO_5; have HO_5 := n_; clear n_; obtain ⟨hy51_, hz51_⟩ := Kd.R_celln 0 HO_5.out (x20_1 : Int) DT DT; have HP51 := Kd.R_putg HO_5.out (x20_1 : Int) (rd t16 x27_2)) | ((with_reducible refine gate_store (t := 3) (p := 59) rfl ?_); refine store_event (t := 3) (p := 59) (v := ?vo_w52) (w1 := (w50.setCell ⟨go41, (x20_1 : Int).toNat, none⟩ (.int .i64 (rd t16 x27_2)))) ?hg ?ho ?hn ?hr ?_; (case ho => rfl); (case hg => rfl); (case hn => rfl); (case hr => first | (go_simp; done) | (go_simp; rfl)); intro w52 hw; have hg : w50.grownBy w52 (some go41) := (by rw [hw]; exact HP51.2); have hp_ : Kd.R (Kd.int .i64) 3 w52 w.heap.size (fun k_ => some k_ ≠ (.slice (some ⟨go39, 0, none⟩) x4_2.length co47 : Value).ownBlock ∧ some k_ ≠ (.slice (some ad9) t16.length co13 : Value).ownBlock ∧ some k_ ≠ (.slice Ao44 t0.length co44 : Value).ownBlock ∧ some k_ ≠ (.slice Ao46 t3.length co46 : Value).ownBlock) (.slice (some ⟨go41, 0, none⟩) x5_2.length co41) y4 := (by rw [hw, Ny4.out]; exact HP51.1); clear HP51; replace HO_4 := Aside0.mk (Kd.R_after (v := (.slice (some ⟨go41, 0, none⟩) x5_2.length co41)) (v1 := (.slice (some ⟨go41, 0, none⟩) x5_2.length co41)) (ok := (fun k_ => some k_ ≠ (.slice (some ad9) t16.length co13 : Value).ownBlock ∧ some k_ ≠ (.slice Ao44 t0.length co44 : Value).ownBlock ∧ some k_ ≠ (.slice Ao46 t3.length co46 : Value).ownBlock)) (rb (Kd.R_mono HO_4.out (fun _ hk => ⟨⟨hk.2.1, ⟨hk.2.2.1, hk.2.2.2⟩⟩, hk.1⟩))) hg (.inl rfl)); replace HO_25 := Aside0.mk (Kd.R_after (v := (.slice (some ⟨go41, 0, none⟩) x5_2.length co41)) (v1 := (.slice (some ⟨go41, 0, none⟩) x5_2.length co41)) (ok := (fun k_ => some k_ ≠ (.slice (some ⟨go39, 0, none⟩) x4_2.length co47 : Value).ownBlock ∧ some k_ ≠ (.slice Ao44 t0.length co44 : Value).ownBlock ∧ some k_ ≠ (.slice Ao46 t3.length co46 : Value).ownBlock)) (rb (Kd.R_mono HO_25.out (fun _ hk => ⟨⟨hk.2, ⟨hk.1.2.1, hk.1.2.2⟩⟩, hk.1.1⟩))) hg (.inl rfl)); replace HO22 := Aside0.mk (Kd.R_after (v := (.slice (some ⟨go41, 0, none⟩) x5_2.length co41)) (v1 := (.slice (some ⟨go41, 0, none⟩) x5_2.length co41)) (ok := (fun k_ => some k_ ≠ (.slice (some ⟨go39, 0, none⟩) x4_2.length co47 : Value).ownBlock ∧ some k_ ≠ (.slice (some ad9) t16.length co13 : Value).ownBlock ∧ some k_ ≠ (.slice Ao46 t3.length co46 : Value).ownBlock)) (rb (Kd.R_mono HO22.out (fun _ hk => ⟨⟨hk.2, ⟨hk.1.2.1, hk.1.2.2⟩⟩, hk.1.1⟩))) hg (.inl rfl)); replace HO25 := Aside0.mk (Kd.R_after (v := (.slice (some ⟨go41, 0, none⟩) x5_2.length co41)) (v1 := (.slice (some ⟨go41, 0, none⟩) x5_2.length co41)) (ok := (fun k_ => some k_ ≠ (.slice (some ⟨go39, 0, none⟩) x4_2.length co47 : Value).ownBlock ∧ some k_ ≠ (.slice (some ad9) t16.length co13 : Value).ownBlock ∧ some k_ ≠ (.slice Ao44 t0.length co44 : Value).ownBlock)) (rb (Kd.R_mono HO25.out (fun _ hk => ⟨⟨hk.2, ⟨hk.1.2.1, hk.1.2.2⟩⟩, hk.1.1⟩))) hg (.inl rfl)); replace BK8 := Aside0.mk (blk_grown (g := gb8) (o := .cells #[.slice Ao44 t0.length co44, .slice Ao46 t3.length co46, .int .i64 t26] 57 (0, 0)) (bk BK8.out) hg (Kd.R_ne HO_5.out BK8.out (by decide))); replace HO_5 := Aside0.mk (hp_); replace HB := Aside0.mk ((by rw [hw]; exact below_set (HB.out) GB41.out : Below w.heap.size w w52)); clear hg hw hp_))
         go_roundg k2
         case measure => have := HK1.out; have := HK2.out; omega
         case rel => exact ⟨(y33), (y4), (wrap64 (x27_2 + 1)), EQ1, H', ⟨by have := HK1.out; have := HK2.out; omega⟩, ⟨rb (Kd.R_mono HO_4.out (fun _ hk => ⟨hk.2, hk.1.1⟩))⟩, ⟨rb (Kd.R_mono HO_5.out (fun _ hk => ⟨hk.1, hk.2.1⟩))⟩, ⟨rb (Kd.R_mono HO_25.out (fun _ hk => ⟨hk.1.1, hk.2⟩))⟩, ⟨BA⟩⟩
        ·rw [if_neg c38] at H
         have c38b0 := decide_eq_false c38
         clear c38
         have H' := Aside0.mk H
         clear H
         have p9 : 0 ≤ (x27_2 : Int) := DT
         have q9 : x27_2 < (t16.length : Int) := DT
         obtain ⟨ad9, e9, hx9_0⟩ := Kd.at_int (Kd.R_reads' HO_25.out).2.2 x27_2 p9 q9
         cases e9
         replace p9 := eq_true p9
         replace q9 := eq_true q9
         go_wp2_with (first | ((with_reducible refine gate_callee (f := 78) rfl ?_); refine gK (some 36) Try.func78 #[.slice A0 l0.length c0, .int .i64 x20_1, .int .i64 (rd t16 x27_2)] rfl rfl rfl ?_; (with_reducible refine (impl_tileAt.calls k2 _ _ l0 x20_1 (rd t16 x27_2) t0 t3 t26 t27 _ ?side1 ?side2 A17.out).mono ?_); (case side1 => exact cb (Kd.C_below HR0.out HB.out)); (case side2 => exact HC0.out); rintro e w53 ⟨v21, v24, rfl, ho0, ho1, hb⟩; refine ⟨_, rfl, ?_⟩; have HO22 := Aside0.mk (Kd.R_lower (Kd.R_new' (Kd.R_new' (Kd.R_new' ho0 (Kd.R_lt (rb HO_4.out))) (Kd.R_lt (rb HO_5.out))) (Kd.R_lt (rb HO_25.out))) (below_size BA)); have HO25 := Aside0.mk (Kd.R_lower (Kd.R_new' (Kd.R_new' (Kd.R_new' ho1 (Kd.R_lt (rb HO_4.out))) (Kd.R_lt (rb HO_5.out))) (Kd.R_lt (rb HO_25.out))) (below_size BA)); replace HO_4 := Aside0.mk (Kd.R_mono (Kd.R_told (Kd.R_told (Kd.R_old (rb HO_4.out) hb) (Kd.R_base ho0)) (Kd.R_base ho1)) (fun _ h_ => h_.1)); replace HO_5 := Aside0.mk (Kd.R_mono (Kd.R_told (Kd.R_told (Kd.R_old (rb HO_5.out) hb) (Kd.R_base ho0)) (Kd.R_base ho1)) (fun _ h_ => h_.1)); replace HO_25 := Aside0.mk (Kd.R_mono (Kd.R_told (Kd.R_told (Kd.R_old (rb HO_25.out) hb) (Kd.R_base ho0)) (Kd.R_base ho1)) (fun _ h_ => h_.1)); replace HB := bs hb; (try clear hb); (try clear ho0); (try clear ho1)) | ((with_reducible refine gd 9 rfl ?_); refine bx 9 #[.slice none 0 0, .slice none 0 0, .int .i64 0] 57 ?_; intro gb8 hg w54 BK8 GW8 HB hb; replace HO_4 := Aside0.mk (Kd.R_below (rb HO_4.out) hb); replace HO_5 := Aside0.mk (Kd.R_below (rb HO_5.out) hb); replace HO_25 := Aside0.mk (Kd.R_below (rb HO_25.out) hb); replace HO22 := Aside0.mk (Kd.R_below (rb HO22.out) hb); replace HO25 := Aside0.mk (Kd.R_below (rb HO25.out) hb); have GE8 := GW8; clear hb hg; obtain ⟨Ao55, co55, eo55⟩ := Kd.R_slice HO22.out; subst eo55; obtain ⟨hcz56_0, hcz56_1, hcz56_2⟩ := bc3 BK8.out; have hfz56 := blk_frozen BK8.out; obtain ⟨Ao57, co57, eo57⟩ := Kd.R_slice HO25.out; subst eo57; obtain ⟨Ao58, co58, eo58⟩ := Kd.R_slice HO_4.out; subst eo58) | ((with_reducible refine gate_callee (f := 94) rfl ?_); refine gK (some 41) Try.func94 #[.agg #[.slice Ao55 t0.length co55, .slice Ao57 t3.length co57, .int .i64 t26], .slice Ao58 x4_2.length co58] rfl rfl rfl ?_; (with_reducible refine (impl_tile_total.calls k2 _ _ t0 _ _ t3 t26 _ _ x4_2 t9 _ ?side1 ?side2 ?side3 ?side4 ?side5 ?side6 A18.out).mono ?_); (case side1 => refine (Kd.R_reads' (e := 3) (base := w.heap.size) (ok := fun k_ => (((some k_ ≠ (.slice Ao57 t3.length co57 : Value).ownBlock ∧ some k_ ≠ (.slice Ao58 x4_2.length co58 : Value).ownBlock) ∧ some k_ ≠ (v4 : Value).ownBlock) ∧ some k_ ≠ (.slice (some ad9) t16.length co13 : Value).ownBlock)) (n := t0.length) (c := co55) ?_).2.2; exact (rb (Kd.R_mono (Kd.R_far (p := ⟨gb8, 2, none⟩) (Kd.R_far (p := ⟨gb8, 1, none⟩) (Kd.R_far (p := ⟨gb8, 0, none⟩) (Kd.R_types HO22.out BK8.out (by decide)) (fun _ hk => hk.2) (.slice Ao55 t0.length co55)) (fun _ hk => hk.2) (.slice Ao57 t3.length co57)) (fun _ hk => hk.2) (.int .i64 t26)) (fun _ h_ => h_.1)))); (case side2 => exact (Kd.R_reads' HO22.out).2.1); (case side3 => refine (Kd.R_reads' (e := 3) (base := w.heap.size) (ok := fun k_ => (((some k_ ≠ (.slice Ao55 t0.length co55 : Value).ownBlock ∧ some k_ ≠ (.slice Ao58 x4_2.length co58 : Value).ownBlock) ∧ some k_ ≠ (v4 : Value).ownBlock) ∧ some k_ ≠ (.slice (some ad9) t16.length co13 : Value).ownBlock)) (n := t3.length) (c := co57) ?_).2.2; exact (rb (Kd.R_mono (Kd.R_far (p := ⟨gb8, 2, none⟩) (Kd.R_far (p := ⟨gb8, 1, none⟩) (Kd.R_far (p := ⟨gb8, 0, none⟩) (Kd.R_types HO25.out BK8.out (by decide)) (fun _ hk => hk.2) (.slice Ao55 t0.length co55)) (fun _ hk => hk.2) (.slice Ao57 t3.length co57)) (fun _ hk => hk.2) (.int .i64 t26)) (fun _ h_ => h_.1)))); (case side4 => exact (Kd.R_reads' HO25.out).2.1); (case side5 => refine (Kd.R_reads' (e := 3) (base := w.heap.size) (ok := fun k_ => (((some k_ ≠ (v4 : Value).ownBlock ∧ some k_ ≠ (.slice (some ad9) t16.length co13 : Value).ownBlock) ∧ some k_ ≠ (.slice Ao55 t0.length co55 : Value).ownBlock) ∧ some k_ ≠ (.slice Ao57 t3.length co57 : Value).ownBlock)) (n := x4_2.length) (c := co58) ?_).2.2; exact (rb (Kd.R_mono (Kd.R_far (p := ⟨gb8, 2, none⟩) (Kd.R_far (p := ⟨gb8, 1, none⟩) (Kd.R_far (p := ⟨gb8, 0, none⟩) (Kd.R_types HO_4.out BK8.out (by decide)) (fun _ hk => hk.2) (.slice Ao55 t0.length co55)) (fun _ hk => hk.2) (.slice Ao57 t3.length co57)) (fun _ hk => hk.2) (.int .i64 t26)) (fun _ h_ => h_.1)))); (case side6 => exact (Kd.R_reads' HO_4.out).2.1); rintro e w59 ⟨rfl, hb⟩; refine ⟨_, rfl, ?_⟩; replace HO_4 := Aside0.mk (Kd.R_below (rb (Kd.R_mono (Kd.R_far (p := ⟨gb8, 2, none⟩) (Kd.R_far (p := ⟨gb8, 1, none⟩) (Kd.R_far (p := ⟨gb8, 0, none⟩) (Kd.R_types HO_4.out BK8.out (by decide)) (fun _ hk => hk.2) (.slice Ao55 t0.length co55)) (fun _ hk => hk.2) (.slice Ao57 t3.length co57)) (fun _ hk => hk.2) (.int .i64 t26)) (fun _ h_ => h_.1))) hb); replace HO_5 := Aside0.mk (Kd.R_below (rb (Kd.R_mono (Kd.R_far (p := ⟨gb8, 2, none⟩) (Kd.R_far (p := ⟨gb8, 1, none⟩) (Kd.R_far (p := ⟨gb8, 0, none⟩) (Kd.R_types HO_5.out BK8.out (by decide)) (fun _ hk => hk.2) (.slice Ao55 t0.length co55)) (fun _ hk => hk.2) (.slice Ao57 t3.length co57)) (fun _ hk => hk.2) (.int .i64 t26)) (fun _ h_ => h_.1))) hb); replace HO_25 := Aside0.mk (Kd.R_below (rb (Kd.R_mono (Kd.R_far (p := ⟨gb8, 2, none⟩) (Kd.R_far (p := ⟨gb8, 1, none⟩) (Kd.R_far (p := ⟨gb8, 0, none⟩) (Kd.R_types HO_25.out BK8.out (by decide)) (fun _ hk => hk.2) (.slice Ao55 t0.length co55)) (fun _ hk => hk.2) (.slice Ao57 t3.length co57)) (fun _ hk => hk.2) (.int .i64 t26)) (fun _ h_ => h_.1))) hb); replace HO22 := Aside0.mk (Kd.R_below (rb (Kd.R_mono (Kd.R_far (p := ⟨gb8, 2, none⟩) (Kd.R_far (p := ⟨gb8, 1, none⟩) (Kd.R_far (p := ⟨gb8, 0, none⟩) (Kd.R_types HO22.out BK8.out (by decide)) (fun _ hk => hk.2) (.slice Ao55 t0.length co55)) (fun _ hk => hk.2) (.slice Ao57 t3.length co57)) (fun _ hk => hk.2) (.int .i64 t26)) (fun _ h_ => h_.1))) hb); replace HO25 := Aside0.mk (Kd.R_below (rb (Kd.R_mono (Kd.R_far (p := ⟨gb8, 2, none⟩) (Kd.R_far (p := ⟨gb8, 1, none⟩) (Kd.R_far (p := ⟨gb8, 0, none⟩) (Kd.R_types HO25.out BK8.out (by decide)) (fun _ hk => hk.2) (.slice Ao55 t0.length co55)) (fun _ hk => hk.2) (.slice Ao57 t3.length co57)) (fun _ hk => hk.2) (.int .i64 t26)) (fun _ h_ => h_.1))) hb); replace BK8 := Aside0.mk (blk_below (g := gb8) (o := .cells #[.slice Ao55 t0.length co55, .slice Ao57 t3.length co57, .int .i64 t26] 57 (0, 0)) (bq BK8.out) hb); replace HB := bs hb; (try clear hb); have p2 : 0 ≤ (x20_1 : Int) := DT; have q2 : x20_1 < (x4_2.length : Int) := DT; obtain ⟨ad2, e2, hx2_0⟩ := Kd.at_int (Kd.R_reads' HO_4.out).2.2 x20_1 p2 q2; cases e2; replace p2 := eq_true p2; replace q2 := eq_true q2))
         go_roundg k2
         case measure => have := HK1.out; have := HK2.out; omega
         case rel => exact ⟨(x4_2), (x5_2), (wrap64 (x27_2 + 1)), EQ1, H', ⟨by have := HK1.out; have := HK2.out; omega⟩, ⟨rb (Kd.R_mono HO_4.out (fun _ hk => ⟨hk.1.1.1, hk.1.1.2⟩))⟩, ⟨rb (Kd.R_mono HO_5.out (fun _ hk => ⟨hk.1.1.1, hk.1.1.2⟩))⟩, ⟨rb (Kd.R_mono HO_25.out (fun _ hk => ⟨hk.1.1.1, hk.1.1.2⟩))⟩, ⟨BA⟩⟩
      ·rw [if_neg c14] at H
       have c14b0 := decide_eq_false c14
       clear c14
       have H' := Aside0.mk H
       clear H
       go_wp2
       go_roundg k2
       case measure => have := HK1.out; have := HK2.out; omega
       case rel => exact ⟨(x4_2), (x5_2), (wrap64 (x20_1 + 1)), EQ1, H', ⟨by have := HK1.out; have := HK2.out; omega⟩, ⟨rb (Kd.R_mono HO_4.out (fun _ hk => hk.1))⟩, ⟨rb (Kd.R_mono HO_5.out (fun _ hk => hk.1))⟩, ⟨BA⟩⟩
   ·rw [if_neg c10] at H
    have c10b0 := decide_eq_false c10
    clear c10
    simp only [Option.some.injEq, Prod.mk.injEq] at H
    obtain ⟨rfl, rfl⟩ := H
    go_wp2
    go_ret2
    exact ⟨_, _, EQ, rb HO_4.out, rb HO_5.out, BA⟩

/-! ### impl_PricesOf: function 36 -/
def impl_PricesOf.f (k : Nat) (l0 : List (S54)) : Option (List Int × Bool) := (impl_isTree.f k l0).bind fun t5 => (if t5 = true then ((impl_pricesOf.f k l0).bind fun bt6 => (some (bt6.1, true))) else (some (([] : List Int), false)))
theorem impl_PricesOf.calls (k : Nat) (A0 : Option Addr) (c0 : Nat) (l0 : List (S54)) (r1 : List Int) (r2 : Bool) (w : World) (hr0 : Kd.C k54 w A0 l0.length l0) (hc0 : l0.length ≤ c0) (h : impl_PricesOf.f k l0 = some (r1, r2)) :
  Calls Try.prog 36 #[.slice A0 l0.length c0] w fun e w' => ∃ v0_ : Value, e = .returned (.tuple #[v0_, .bool r2]) ∧ Kd.R (Kd.int .i64) 3 w' w.heap.size (fun _ => True) v0_ r1 ∧ Below w.heap.size w w' := by
 have HR0 := Aside0.mk hr0
 have HC0 := Aside0.mk hc0
 clear hr0 hc0
 have HB := Aside0.mk (Below.refl w.heap.size w)
 have H := h
 clear h
 unfold impl_PricesOf.f at H
 obtain ⟨t5, A2, H⟩ := ob H
 (try dsimp only at H)
 by_cases c3 : t5 = true
 ·subst c3
  rw [if_pos rfl] at H
  replace H := Option.bind_eq_some_iff.mp H
  obtain ⟨⟨t36, t37⟩, A40, H⟩ := H
  (try dsimp only at H)
  have A4 := Aside0.mk A40
  clear A40
  simp only [Option.some.injEq, Prod.mk.injEq] at H
  obtain ⟨rfl, rfl⟩ := H
  go_enter Try.func36, Try.ntmps36
  go_wp2_with (first | ((with_reducible refine gate_callee (f := 58) rfl ?_); refine gK (some 7) Try.func58 #[.slice A0 l0.length c0] rfl rfl rfl ?_; (with_reducible refine (impl_isTree.calls k _ _ l0 true _ ?side1 ?side2 A2.out).mono ?_); (case side1 => exact cb HR0.out); (case side2 => exact HC0.out); rintro e w5 ⟨rfl, hb⟩; refine ⟨_, rfl, ?_⟩; replace HB := bs hb; (try clear hb)) | ((with_reducible refine gate_callee (f := 66) rfl ?_); refine gK (some 11) Try.func66 #[.slice A0 l0.length c0] rfl rfl rfl ?_; (with_reducible refine (impl_pricesOf.calls k _ _ l0 t36 t37 _ ?side1 ?side2 A4.out).mono ?_); (case side1 => exact cb (Kd.C_below HR0.out HB.out)); (case side2 => exact HC0.out); rintro e w6 ⟨v38, v0, rfl, ho0, ho1, hb⟩; refine ⟨_, rfl, ?_⟩; have HO39 := Aside0.mk (Kd.R_lower ho0 (below_size BA)); have HO1 := Aside0.mk (Kd.R_lower ho1 (below_size BA)); replace HB := bs hb; (try clear hb); (try clear ho0); (try clear ho1)))
  go_ret2
  exact ⟨_, EQ, rb (Kd.R_mono HO39.out (fun _ hk => trivial)), BA⟩
 ·replace c3 := Bool.eq_false_iff.mpr c3
  subst c3
  rw [if_neg (show ¬ (false = true) by decide)] at H
  simp only [Option.some.injEq, Prod.mk.injEq] at H
  obtain ⟨rfl, rfl⟩ := H
  go_enter Try.func36, Try.ntmps36
  go_wp2_with (first | ((with_reducible refine gate_callee (f := 58) rfl ?_); refine gK (some 7) Try.func58 #[.slice A0 l0.length c0] rfl rfl rfl ?_; (with_reducible refine (impl_isTree.calls k _ _ l0 false _ ?side1 ?side2 A2.out).mono ?_); (case side1 => exact cb HR0.out); (case side2 => exact HC0.out); rintro e w7 ⟨rfl, hb⟩; refine ⟨_, rfl, ?_⟩; replace HB := bs hb; (try clear hb)))
  go_ret2
  exact ⟨_, EQ, by first | exact Kd.R_nil _ _ _ _ _ | exact Kd.N_nil _ _ _ _ _ | exact Kd.V_nil _ _ _ _ _ | exact Kd.Q_nil _ _ _ _ _ | exact Kd.S_nil _ _ _ _ _, BA⟩

end Go.Proofs.Ytlmegefdnkjcbaa.Pa
