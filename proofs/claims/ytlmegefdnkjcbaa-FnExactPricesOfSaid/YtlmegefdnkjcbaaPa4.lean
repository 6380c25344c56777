-- Made by this session's program gen.py over the translation.
import Derived.Test.YtlmegefdnkjcbaaPa0
import Derived.Test.YtlmegefdnkjcbaaPa1
import Derived.Test.YtlmegefdnkjcbaaPa3
namespace Go.Proofs.Ytlmegefdnkjcbaa.Pa
open Go.RowKit Go.Proofs.YtlmegefdnkjcbaaW.PrintWords Go.Proofs.YtlmegefdnkjcbaaW.PrintLast Go.Proofs.YtlmegefdnkjcbaaW.PrintMore
attribute [local go_sem] max2_int min2_int max_two min_two max_three min_three max_four min_four   -- for this text's walks alone
set_option linter.unusedVariables false
set_option linter.unusedSimpArgs false
set_option maxHeartbeats 8000000
set_option maxRecDepth 100000

/-! ### spec_exUses: function 108 -/
mutual
def spec_exUses.l0 : Nat → List Int → List (S54) → Int → Int → Option (List Int)
 | 0, _, _, _, _ => none
 | k + 1, x3, x11, x12, x13 => if x13 < x12 then (if 0 ≤ x13 then (if x13 < (x11.length : Int) then ((spec_exParts.f k ((rd_T54 x11 x13).f0) ((rd_T54 x11 x13).f1) ((rd_T54 x11 x13).f2) ((rd_T54 x11 x13).f3)).bind fun t337 => (spec_exUses.l1 k x3 x11 x12 x13 t337 (t337.length : Int) 0)) else (none)) else (none)) else (some x3)
def spec_exUses.l1 : Nat → List Int → List (S54) → Int → Int → List Int → Int → Int → Option (List Int)
 | 0, _, _, _, _, _, _, _ => none
 | k + 1, x3, x11, x12, x13, x18, x19, x20 => if x20 < x19 then (if 0 ≤ x20 then (if x20 < (x18.length : Int) then (if 0 ≤ (rd x18 x20) then (if (rd x18 x20) < (x3.length : Int) then (spec_exUses.l1 k (x3.set ((rd x18 x20) : Int).toNat (wrap64 ((rd x3 (rd x18 x20)) + 1))) x11 x12 x13 x18 x19 (wrap64 (x20 + 1))) else (none)) else (none)) else (none)) else (none)) else (spec_exUses.l0 k x3 x11 x12 (wrap64 (x13 + 1)))
end
def spec_exUses.f (k : Nat) (l0 : List (S54)) : Option (List Int) := if 0 ≤ (l0.length : Int) then (if ((l0.length : Int) : Int).toNat ≤ 35184372088832 then (spec_exUses.l0 k (List.replicate ((l0.length : Int) : Int).toNat 0) l0 (l0.length : Int) 0) else (none)) else (none)
theorem spec_exUses.calls (k : Nat) (A0 : Option Addr) (c0 : Nat) (l0 : List (S54)) (r : List Int) (w : World) (hr0 : Kd.C k54 w A0 l0.length l0) (hc0 : l0.length ≤ c0) (h : spec_exUses.f k l0 = some r) :
  Calls Try.prog 108 #[.slice A0 l0.length c0] w fun e w' => ∃ v0_ : Value, e = .returned (v0_) ∧ Kd.R (Kd.int .i64) 3 w' w.heap.size (fun _ => True) v0_ r ∧ Below w.heap.size w w' := by
 have hu54 := Try.underlying54
 have HR0 := Aside0.mk hr0
 have HC0 := Aside0.mk hc0
 clear hr0 hc0
 have HB := Aside0.mk (Below.refl w.heap.size w)
 have H := h
 clear h
 unfold spec_exUses.f at H
 obtain ⟨c2, H⟩ := ifs H
 have c2b0 := eq_true c2
 have c2b1 := decide_eq_true c2
 clear c2
 obtain ⟨c3, H⟩ := ifs H
 have c3b0 := eq_true c3
 have c3b1 := decide_eq_true c3
 clear c3
 obtain ⟨y332, hy332⟩ : ∃ y_ : List Int, y_ = (List.replicate ((l0.length : Int) : Int).toNat 0) := ⟨_, rfl⟩
 replace H : (spec_exUses.l0 k y332 l0 (l0.length : Int) 0) = some r := by first | (rw [hy332]; with_reducible exact H) | (have H2_ := (Option.bind_some _ _).symm.trans H; rw [hy332]; with_reducible exact H2_) | (have H2_ := (Option.bind_some _ _).symm.trans H; with_reducible exact H2_) | with_reducible exact H | (rw [hy332]; exact H) | exact H
 have Ny332 := Aside0.mk hy332
 clear hy332
 have H' := Aside0.mk H
 clear H
 go_enter Try.func108, Try.ntmps108
 go_wp2_with (first | ((with_reducible refine gate_dst (N := 10) rfl ?_); refine Kd.R_make (Kd.int .i64) _ 3 rfl (N := 10) rfl 30 _ _ rfl (l0.length : Int) rfl rfl Try.underlying30 (.int .i64 0) 8 info3 rfl (by decide) (by omega) 0 (ok := fun _ => True) (okp := fun _ => True) rfl (fun _ hk => hk) trivial DT (Nat.le_trans (Nat.mul_le_mul_right _ (DT : (l0.length : Int).toNat ≤ 35184372088832)) (by omega)) (Below.refl _ _) (Nat.le_refl _) ?_; intro v333 w4 ho5 hb hg_ hnew_; clear hg_ hnew_; (first | rw [← Ny332.out] at ho5 | (simp only [Int.reduceToNat] at ho5; rw [← Ny332.out] at ho5)); have HO334 := Aside0.mk (Kd.R_lower ho5 (below_size BA)); replace HB := bs hb; clear hb ho5))
 go_loopg [13] k (fun kq v13 w' => ∃ (x3_1 : List Int) (x13_1 : Int), v13 = .int .i64 x13_1 ∧ Aside0 (spec_exUses.l0 kq x3_1 l0 (l0.length : Int) x13_1 = some r) ∧ Aside0 (kq ≤ k) ∧ Aside0 (Kd.R (Kd.int .i64) 3 w' w.heap.size (fun _ => True) v333 x3_1) ∧ Aside0 (Below w.heap.size w w'))
 case atStart => exact ⟨(y332), (0), EQ1, H', ⟨Nat.le_refl _⟩, ⟨rb HO334.out⟩, ⟨BA⟩⟩
 case round =>
  clear H'
  (try clear c2b0); (try clear c2b1); (try clear c3b0); (try clear c3b1)
  obtain ⟨x3_1, x13_1, rfl, HA, HK1, HO_3, HB⟩ := hrel
  cases gk with
  | zero => exact absurd HA.out (by simp [spec_exUses.l0])
  | succ k1 =>
   have H := HA.out
   clear HA
   simp only [spec_exUses.l0] at H
   by_cases c6 : x13_1 < (l0.length : Int)
   ·rw [if_pos c6] at H
    have c6b0 := decide_eq_true c6
    clear c6
    obtain ⟨c7, H⟩ := ifs H
    have c7b0 := decide_eq_true c7
    clear c7
    obtain ⟨c8, H⟩ := ifs H
    have c8b0 := decide_eq_true c8
    clear c8
    obtain ⟨t337, A9, H⟩ := ob H
    (try dsimp only at H)
    have H' := Aside0.mk H
    clear H
    have p335 : 0 ≤ (x13_1 : Int) := DT
    have q335 : x13_1 < (l0.length : Int) := DT
    obtain ⟨ad335, e335, hx335_0, hx335_1, hx335_2, hx335_3⟩ := at_T54 (Kd.C_below HR0.out HB.out) x13_1 p335 q335
    cases e335
    replace p335 := eq_true p335
    replace q335 := eq_true q335
    go_wp2_with (first | ((with_reducible refine gd 5 rfl ?_); refine bx 5 #[.string (⟨#[]⟩ : ByteArray), .int .i64 0, .int .i64 0, .int .i64 0] 54 ?_; intro gb336 hg w10 BK336 GW336 HB hb; replace HO_3 := Aside0.mk (Kd.R_below (rb HO_3.out) hb); have GE336 := GW336; clear hb hg; obtain ⟨hcz11_0, hcz11_1, hcz11_2, hcz11_3⟩ := bc4 BK336.out; have hfz11 := blk_frozen BK336.out) | ((with_reducible refine gate_callee (f := 120) rfl ?_); refine gK (some 18) Try.func120 #[.agg #[.string ((rd_T54 l0 x13_1).f0), .int .i64 ((rd_T54 l0 x13_1).f1), .int .i64 ((rd_T54 l0 x13_1).f2), .int .i64 ((rd_T54 l0 x13_1).f3)]] rfl rfl rfl ?_; (with_reducible refine (spec_exParts.calls k1 ((rd_T54 l0 x13_1).f0) ((rd_T54 l0 x13_1).f1) ((rd_T54 l0 x13_1).f2) ((rd_T54 l0 x13_1).f3) t337 _ A9.out).mono ?_); rintro e w12 ⟨v338, rfl, ho0, hb⟩; refine ⟨_, rfl, ?_⟩; have HO339 := Aside0.mk (Kd.R_lower (Kd.R_new' ho0 (Kd.R_lt (rb (Kd.R_mono (Kd.R_far (p := ⟨gb336, 3, none⟩) (Kd.R_far (p := ⟨gb336, 2, none⟩) (Kd.R_far (p := ⟨gb336, 1, none⟩) (Kd.R_far (p := ⟨gb336, 0, none⟩) (Kd.R_types HO_3.out BK336.out (by decide)) (fun _ hk => hk.2) (.string ((rd_T54 l0 x13_1).f0))) (fun _ hk => hk.2) (.int .i64 ((rd_T54 l0 x13_1).f1))) (fun _ hk => hk.2) (.int .i64 ((rd_T54 l0 x13_1).f2))) (fun _ hk => hk.2) (.int .i64 ((rd_T54 l0 x13_1).f3))) (fun _ h_ => h_.1))))) (below_size BA)); replace HO_3 := Aside0.mk (Kd.R_elder' (rb (Kd.R_mono (Kd.R_far (p := ⟨gb336, 3, none⟩) (Kd.R_far (p := ⟨gb336, 2, none⟩) (Kd.R_far (p := ⟨gb336, 1, none⟩) (Kd.R_far (p := ⟨gb336, 0, none⟩) (Kd.R_types HO_3.out BK336.out (by decide)) (fun _ hk => hk.2) (.string ((rd_T54 l0 x13_1).f0))) (fun _ hk => hk.2) (.int .i64 ((rd_T54 l0 x13_1).f1))) (fun _ hk => hk.2) (.int .i64 ((rd_T54 l0 x13_1).f2))) (fun _ hk => hk.2) (.int .i64 ((rd_T54 l0 x13_1).f3))) (fun _ h_ => h_.1))) (Kd.R_base ho0) hb); replace BK336 := Aside0.mk (blk_below (g := gb336) (o := .cells #[.string ((rd_T54 l0 x13_1).f0), .int .i64 ((rd_T54 l0 x13_1).f1), .int .i64 ((rd_T54 l0 x13_1).f2), .int .i64 ((rd_T54 l0 x13_1).f3)] 54 (0, 0)) (bq BK336.out) hb); replace HB := bs hb; (try clear hb); (try clear ho0); obtain ⟨Ao13, co13, eo13⟩ := Kd.R_slice HO339.out; subst eo13))
    go_loopg [20] k1 (fun kq v20 w' => ∃ (x3_2 : List Int) (x20_2 : Int), v20 = .int .i64 x20_2 ∧ Aside0 (spec_exUses.l1 kq x3_2 l0 (l0.length : Int) x13_1 t337 (t337.length : Int) x20_2 = some r) ∧ Aside0 (kq ≤ k1) ∧ Aside0 (Kd.R (Kd.int .i64) 3 w' w.heap.size (fun k_ => some k_ ≠ ((.slice Ao13 t337.length co13) : Value).ownBlock) v333 x3_2) ∧ Aside0 (Kd.R (Kd.int .i64) 3 w' w.heap.size (fun k_ => some k_ ≠ (v333 : Value).ownBlock) (.slice Ao13 t337.length co13) t337) ∧ Aside0 (w'.heap[gb336]? = some (.cells #[.string ((rd_T54 l0 x13_1).f0), .int .i64 ((rd_T54 l0 x13_1).f1), .int .i64 ((rd_T54 l0 x13_1).f2), .int .i64 ((rd_T54 l0 x13_1).f3)] 54 (0, 0))) ∧ Aside0 (Below w.heap.size w w'))
    case atStart => exact ⟨(x3_1), (0), EQ1, H', ⟨Nat.le_refl _⟩, ⟨rb (Kd.R_mono HO_3.out (fun _ hk => hk.2))⟩, ⟨rb (Kd.R_mono HO339.out (fun _ hk => hk.2))⟩, ⟨by (with_reducible repeat (first | refine blk_drewN ?_ _ | refine blk_drew ?_ | refine blk_alloc ?_ _)); exact BK336.out⟩, ⟨BA⟩⟩
    case round =>
     clear H'
     (try clear c2b0); (try clear c2b1); (try clear c3b0); (try clear c3b1); (try clear c6b0); (try clear c7b0); (try clear c8b0); (try clear hcz11_0); (try clear hcz11_1); (try clear hcz11_2); (try clear hcz11_3); (try clear hx335_0); (try clear hx335_1); (try clear hx335_2); (try clear hx335_3); (try clear p335); (try clear q335)
     obtain ⟨x3_2, x20_2, rfl, HA, HK2, HO_3, HO_18, BK336, HB⟩ := hrel
     cases gk with
     | zero => exact absurd HA.out (by simp [spec_exUses.l1])
     | succ k2 =>
      have H := HA.out
      clear HA
      simp only [spec_exUses.l1] at H
      by_cases c14 : x20_2 < (t337.length : Int)
      ·rw [if_pos c14] at H
       have c14b0 := decide_eq_true c14
       clear c14
       obtain ⟨c15, H⟩ := ifs H
       have c15b0 := decide_eq_true c15
       clear c15
       obtain ⟨c16, H⟩ := ifs H
       have c16b0 := decide_eq_true c16
       clear c16
       obtain ⟨c17, H⟩ := ifs H
       have c17b0 := decide_eq_true c17
       clear c17
       obtain ⟨c18, H⟩ := ifs H
       have c18b0 := decide_eq_true c18
       clear c18
       obtain ⟨y342, hy342⟩ : ∃ y_ : List Int, y_ = (x3_2.set ((rd t337 x20_2) : Int).toNat (wrap64 ((rd x3_2 (rd t337 x20_2)) + 1))) := ⟨_, rfl⟩
       replace H : (spec_exUses.l1 k2 y342 l0 (l0.length : Int) x13_1 t337 (t337.length : Int) (wrap64 (x20_2 + 1))) = some r := by first | (rw [hy342]; with_reducible exact H) | (have H2_ := (Option.bind_some _ _).symm.trans H; rw [hy342]; with_reducible exact H2_) | (have H2_ := (Option.bind_some _ _).symm.trans H; with_reducible exact H2_) | with_reducible exact H | (rw [hy342]; exact H) | exact H
       have Ny342 := Aside0.mk hy342
       clear hy342
       have H' := Aside0.mk H
       clear H
       have p340 : 0 ≤ (x20_2 : Int) := DT
       have q340 : x20_2 < (t337.length : Int) := DT
       obtain ⟨ad340, e340, hx340_0⟩ := Kd.at_int (Kd.R_reads' HO_18.out).2.2 x20_2 p340 q340
       cases e340
       replace p340 := eq_true p340
       replace q340 := eq_true q340
       obtain ⟨Ao20, co20, eo20⟩ := Kd.R_slice HO_3.out
       subst eo20
       have p341 : 0 ≤ ((rd t337 x20_2) : Int) := DT
       have q341 : (rd t337 x20_2) < (x3_2.length : Int) := DT
       obtain ⟨ad341, e341, hx341_0⟩ := Kd.at_int (Kd.R_reads' HO_3.out).2.2 (rd t337 x20_2) p341 q341
       cases e341
       replace p341 := eq_true p341
       replace q341 := eq_true q341
       have p19 : 0 ≤ ((rd t337 x20_2) : Int) := DT
       have q19 : ((rd t337 x20_2) : Int) < ((x3_2.length : Int) : Int) := DT
       obtain ⟨go19, co19, eo19, gb19, gl19, cl19, HG19⟩ := Kd.R_form HO_3.out (by omega)
       (first | cases eo19 | (injection eo19 with ea_ en_ ec_; (first | subst ea_ | (injection ea_ with ea_; subst ea_)); subst ec_; clear en_))
       have GB19 := Aside0.mk gb19
       have GG19 := Aside0.mk HG19
       clear gb19 gl19 HG19
       (first | simp only [add_plain] at hx341_0 | skip)
       obtain ⟨hx19_0, hf19_0⟩ := Kd.R_celln 0 HO_3.out ((rd t337 x20_2) : Int) p19 q19
       replace p19 := eq_true p19
       replace q19 := eq_true q19
       have HP21 := Kd.R_putg HO_3.out ((rd t337 x20_2) : Int) (wrap64 ((rd x3_2 (rd t337 x20_2)) + 1))
       go_wp2_with (first | ((with_reducible refine gate_store (t := 3) (p := 29) rfl ?_); refine store_event (t := 3) (p := 29) (v := ?vo_w22) (w1 := (wr.setCell ⟨go19, ((rd t337 x20_2) : Int).toNat, none⟩ (.int .i64 (wrap64 ((rd x3_2 (rd t337 x20_2)) + 1))))) ?hg ?ho ?hn ?hr ?_; (case ho => rfl); (case hg => rfl); (case hn => rfl); (case hr => first | (go_simp; done) | (go_simp; rfl)); intro w22 hw; have hg : wr.grownBy w22 (some go19) := (by rw [hw]; exact HP21.2); have hp_ : Kd.R (Kd.int .i64) 3 w22 w.heap.size (fun k_ => some k_ ≠ (.slice (some ad340) t337.length co13 : Value).ownBlock) (.slice (some ⟨go19, 0, none⟩) x3_2.length co20) y342 := (by rw [hw, Ny342.out]; exact HP21.1); clear HP21; replace HO_18 := Aside0.mk (Kd.R_after (v := (.slice (some ⟨go19, 0, none⟩) x3_2.length co20)) (v1 := (.slice (some ⟨go19, 0, none⟩) x3_2.length co20)) (ok := (fun _ => True)) (rb (Kd.R_mono HO_18.out (fun _ hk => ⟨trivial, hk⟩))) hg (.inl rfl)); replace BK336 := Aside0.mk (blk_grown (g := gb336) (o := .cells #[.string ((rd_T54 l0 x13_1).f0), .int .i64 ((rd_T54 l0 x13_1).f1), .int .i64 ((rd_T54 l0 x13_1).f2), .int .i64 ((rd_T54 l0 x13_1).f3)] 54 (0, 0)) (bk BK336.out) hg (Kd.R_ne HO_3.out BK336.out (by decide))); replace HO_3 := Aside0.mk (hp_); replace HB := Aside0.mk ((by rw [hw]; exact below_set (HB.out) GB19.out : Below w.heap.size w w22)); clear hg hw hp_))
       go_roundg k2
       case measure => have := HK1.out; have := HK2.out; omega
       case rel => exact ⟨(y342), (wrap64 (x20_2 + 1)), EQ1, H', ⟨by have := HK1.out; have := HK2.out; omega⟩, ⟨rb HO_3.out⟩, ⟨rb (Kd.R_mono HO_18.out (fun _ hk => hk.2))⟩, ⟨by (with_reducible repeat (first | refine blk_drewN ?_ _ | refine blk_drew ?_ | refine blk_alloc ?_ _)); exact BK336.out⟩, ⟨BA⟩⟩
      ·rw [if_neg c14] at H
       have c14b0 := decide_eq_false c14
       clear c14
       have H' := Aside0.mk H
       clear H
       go_wp2
       go_roundg k2
       case measure => have := HK1.out; have := HK2.out; omega
       case rel => exact ⟨(x3_2), (wrap64 (x13_1 + 1)), EQ1, H', ⟨by have := HK1.out; have := HK2.out; omega⟩, ⟨rb (Kd.R_mono HO_3.out (fun _ hk => trivial))⟩, ⟨BA⟩⟩
   ·rw [if_neg c6] at H
    have c6b0 := decide_eq_false c6
    clear c6
    obtain rfl := Option.some.inj H
    go_wp2
    go_ret
    exact ⟨_, EQ, rb HO_3.out, BA⟩

/-! ### spec_exGood: function 85 -/
def spec_exGood.l0 : Nat → List (S54) → List (S54) → Int → Int → Option (Bool)
 | 0, _, _, _, _ => none
 | k + 1, x0, x9, x10, x11 => if x11 < x10 then (if 0 ≤ x11 then (if x11 < (x9.length : Int) then ((spec_exNode.f k ((rd_T54 x9 x11).f0) ((rd_T54 x9 x11).f1) ((rd_T54 x9 x11).f2) ((rd_T54 x9 x11).f3) x11).bind fun t346 => (if t346 = true then (spec_exGood.l0 k x0 x9 x10 (wrap64 (x11 + 1))) else (some false))) else (none)) else (none)) else ((spec_exUses.f k x0).bind fun t347 => (if 0 ≤ (wrap64 ((x0.length : Int) - 1)) then (if (wrap64 ((x0.length : Int) - 1)) ≤ (t347.length : Int) then ((spec_l1Has.f k (t347.take ((wrap64 ((x0.length : Int) - 1)) : Int).toNat) 0).bind fun t354 => (some (!t354))) else (none)) else (none)))
def spec_exGood.f (k : Nat) (l0 : List (S54)) : Option (Bool) := (spec_l1In.f (l0.length : Int) 1 24).bind fun t343 => (if t343 = true then (spec_exGood.l0 k l0 l0 (l0.length : Int) 0) else (some false))
theorem spec_exGood.calls (k : Nat) (A0 : Option Addr) (c0 : Nat) (l0 : List (S54)) (r : Bool) (w : World) (hr0 : Kd.C k54 w A0 l0.length l0) (hc0 : l0.length ≤ c0) (h : spec_exGood.f k l0 = some r) :
  Calls Try.prog 85 #[.slice A0 l0.length c0] w fun e w' => e = .returned (.bool r) ∧ Below w.heap.size w w' := by
 have hu54 := Try.underlying54
 have HR0 := Aside0.mk hr0
 have HC0 := Aside0.mk hc0
 clear hr0 hc0
 have HB := Aside0.mk (Below.refl w.heap.size w)
 have H := h
 clear h
 unfold spec_exGood.f at H
 obtain ⟨t343, A2, H⟩ := ob H
 (try dsimp only at H)
 by_cases c3 : t343 = true
 ·subst c3
  rw [if_pos rfl] at H
  have H' := Aside0.mk H
  clear H
  go_enter Try.func85, Try.ntmps85
  go_wp2_with (first | ((with_reducible refine gate_callee (f := 56) rfl ?_); refine gK (some 7) Try.func56 #[.int .i64 (l0.length : Int), .int .i64 1, .int .i64 24] rfl rfl rfl ?_; (with_reducible refine (spec_l1In.calls (l0.length : Int) 1 24 true _ A2.out).mono ?_); rintro e w' ⟨rfl, ⟨nd, rfl⟩⟩; refine ⟨_, rfl, ?_⟩))
  go_loopg [11] k (fun kq v11 w' => ∃ (x11_1 : Int), v11 = .int .i64 x11_1 ∧ Aside0 (spec_exGood.l0 kq l0 l0 (l0.length : Int) x11_1 = some r) ∧ Aside0 (kq ≤ k) ∧ Aside0 (Below w.heap.size w w'))
  case atStart => exact ⟨(0), EQ1, H', ⟨Nat.le_refl _⟩, ⟨BA⟩⟩
  case round =>
   clear H'
   (try clear c3)
   obtain ⟨x11_1, rfl, HA, HK1, HB⟩ := hrel
   cases gk with
   | zero => exact absurd HA.out (by simp [spec_exGood.l0])
   | succ k1 =>
    have H := HA.out
    clear HA
    simp only [spec_exGood.l0] at H
    by_cases c4 : x11_1 < (l0.length : Int)
    ·rw [if_pos c4] at H
     have c4b0 := decide_eq_true c4
     clear c4
     obtain ⟨c5, H⟩ := ifs H
     have c5b0 := decide_eq_true c5
     clear c5
     obtain ⟨c6, H⟩ := ifs H
     have c6b0 := decide_eq_true c6
     clear c6
     obtain ⟨t346, A7, H⟩ := ob H
     (try dsimp only at H)
     by_cases c8 : t346 = true
     ·subst c8
      rw [if_pos rfl] at H
      have H' := Aside0.mk H
      clear H
      have p344 : 0 ≤ (x11_1 : Int) := DT
      have q344 : x11_1 < (l0.length : Int) := DT
      obtain ⟨ad344, e344, hx344_0, hx344_1, hx344_2, hx344_3⟩ := at_T54 (Kd.C_below HR0.out HB.out) x11_1 p344 q344
      cases e344
      replace p344 := eq_true p344
      replace q344 := eq_true q344
      go_wp2_with (first | ((with_reducible refine gd 4 rfl ?_); refine bx 4 #[.string (⟨#[]⟩ : ByteArray), .int .i64 0, .int .i64 0, .int .i64 0] 54 ?_; intro gb345 hg w9 BK345 GW345 HB hb; have GE345 := GW345; clear hb hg; obtain ⟨hcz10_0, hcz10_1, hcz10_2, hcz10_3⟩ := bc4 BK345.out; have hfz10 := blk_frozen BK345.out) | ((with_reducible refine gate_callee (f := 107) rfl ?_); refine gK (some 18) Try.func107 #[.agg #[.string ((rd_T54 l0 x11_1).f0), .int .i64 ((rd_T54 l0 x11_1).f1), .int .i64 ((rd_T54 l0 x11_1).f2), .int .i64 ((rd_T54 l0 x11_1).f3)], .int .i64 x11_1] rfl rfl rfl ?_; (with_reducible refine (spec_exNode.calls k1 ((rd_T54 l0 x11_1).f0) ((rd_T54 l0 x11_1).f1) ((rd_T54 l0 x11_1).f2) ((rd_T54 l0 x11_1).f3) x11_1 true _ A7.out).mono ?_); rintro e w11 ⟨rfl, hb⟩; refine ⟨_, rfl, ?_⟩; replace BK345 := Aside0.mk (blk_below (g := gb345) (o := .cells #[.string ((rd_T54 l0 x11_1).f0), .int .i64 ((rd_T54 l0 x11_1).f1), .int .i64 ((rd_T54 l0 x11_1).f2), .int .i64 ((rd_T54 l0 x11_1).f3)] 54 (0, 0)) (bq BK345.out) hb); replace HB := bs hb; (try clear hb)))
      go_roundg k1
      case measure => have := HK1.out; omega
      case rel => exact ⟨(wrap64 (x11_1 + 1)), EQ1, H', ⟨by have := HK1.out; omega⟩, ⟨BA⟩⟩
     ·replace c8 := Bool.eq_false_iff.mpr c8
      subst c8
      rw [if_neg (show ¬ (false = true) by decide)] at H
      obtain rfl := Option.some.inj H
      have p344 : 0 ≤ (x11_1 : Int) := DT
      have q344 : x11_1 < (l0.length : Int) := DT
      obtain ⟨ad344, e344, hx344_0, hx344_1, hx344_2, hx344_3⟩ := at_T54 (Kd.C_below HR0.out HB.out) x11_1 p344 q344
      cases e344
      replace p344 := eq_true p344
      replace q344 := eq_true q344
      go_wp2_with (first | ((with_reducible refine gd 4 rfl ?_); refine bx 4 #[.string (⟨#[]⟩ : ByteArray), .int .i64 0, .int .i64 0, .int .i64 0] 54 ?_; intro gb345 hg w12 BK345 GW345 HB hb; have GE345 := GW345; clear hb hg; obtain ⟨hcz13_0, hcz13_1, hcz13_2, hcz13_3⟩ := bc4 BK345.out; have hfz13 := blk_frozen BK345.out) | ((with_reducible refine gate_callee (f := 107) rfl ?_); refine gK (some 18) Try.func107 #[.agg #[.string ((rd_T54 l0 x11_1).f0), .int .i64 ((rd_T54 l0 x11_1).f1), .int .i64 ((rd_T54 l0 x11_1).f2), .int .i64 ((rd_T54 l0 x11_1).f3)], .int .i64 x11_1] rfl rfl rfl ?_; (with_reducible refine (spec_exNode.calls k1 ((rd_T54 l0 x11_1).f0) ((rd_T54 l0 x11_1).f1) ((rd_T54 l0 x11_1).f2) ((rd_T54 l0 x11_1).f3) x11_1 false _ A7.out).mono ?_); rintro e w14 ⟨rfl, hb⟩; refine ⟨_, rfl, ?_⟩; replace BK345 := Aside0.mk (blk_below (g := gb345) (o := .cells #[.string ((rd_T54 l0 x11_1).f0), .int .i64 ((rd_T54 l0 x11_1).f1), .int .i64 ((rd_T54 l0 x11_1).f2), .int .i64 ((rd_T54 l0 x11_1).f3)] 54 (0, 0)) (bq BK345.out) hb); replace HB := bs hb; (try clear hb)))
      go_ret
      exact ⟨EQ, BA⟩
    ·rw [if_neg c4] at H
     have c4b0 := decide_eq_false c4
     clear c4
     obtain ⟨t347, A15, H⟩ := ob H
     (try dsimp only at H)
     obtain ⟨ji16, hji16⟩ : ∃ j_ : Int, (wrap64 ((l0.length : Int) - 1)) = j_ := ⟨_, rfl⟩
     replace H : (if 0 ≤ (ji16) then (if (ji16) ≤ (t347.length : Int) then ((spec_l1Has.f k1 (t347.take ((ji16) : Int).toNat) 0).bind fun t354 => (some (!t354))) else (none)) else (none)) = some r := by first | (rw [hji16] at H; exact H) | (simp only [hji16] at H ⊢; exact H)
     (try rw [hji16] at A15)
     have hji16w : (IntKind.i64.wrap ((l0.length : Int) - 1)) = ji16 := (i64_w _).trans hji16
     obtain ⟨c17, H⟩ := ifs H
     have c17b0 := eq_true c17
     have c17b1 := decide_eq_true c17
     clear c17
     obtain ⟨c18, H⟩ := ifs H
     have c18b0 := eq_true c18
     have c18b1 := decide_eq_true c18
     clear c18
     obtain ⟨y350, hy350⟩ : ∃ y_ : List Int, y_ = (t347.take ((ji16) : Int).toNat) := ⟨_, rfl⟩
     replace H : ((spec_l1Has.f k1 y350 0).bind fun t354 => (some (!t354))) = some r := by first | (rw [hy350]; with_reducible exact H) | (have H2_ := (Option.bind_some _ _).symm.trans H; rw [hy350]; with_reducible exact H2_) | (have H2_ := (Option.bind_some _ _).symm.trans H; with_reducible exact H2_) | with_reducible exact H | (rw [hy350]; exact H) | exact H
     have Ny350 := Aside0.mk hy350
     clear hy350
     obtain ⟨t354, A19, H⟩ := ob H
     (try dsimp only at H)
     obtain rfl := Option.some.inj H
     go_wp2_with (first | ((with_reducible refine gate_callee (f := 108) rfl ?_); refine gK (some 22) Try.func108 #[.slice A0 l0.length c0] rfl rfl rfl ?_; (with_reducible refine (spec_exUses.calls k1 _ _ l0 t347 _ ?side1 ?side2 A15.out).mono ?_); (case side1 => exact cb (Kd.C_below HR0.out HB.out)); (case side2 => exact HC0.out); rintro e w20 ⟨v348, rfl, ho0, hb⟩; refine ⟨_, rfl, ?_⟩; have HO349 := Aside0.mk (Kd.R_lower ho0 (below_size BA)); replace HB := bs hb; (try clear hb); (try clear ho0); obtain ⟨Ao22, co22, eo22⟩ := Kd.R_slice HO349.out; subst eo22; have q21 : ((ji16) : Int) ≤ ((t347.length : Int) : Int) := DT; obtain ⟨i021, hi021, _, hsz21, _⟩ := info_parts info3; have hroom21 : t347.length ≤ co22 := (Kd.R_reads' HO349.out).2.1; have hC21 : Kd.C (Kd.int .i64) _ Ao22 t347.length t347 := (Kd.R_reads' HO349.out).2.2; have hcut21 := cut_to (P := Try.prog) 30 3 .i64 Try.underlying30 hi021 Ao22 t347.length co22 (ji16) DT q21 hroom21; have hr21 := Kd.C_take (m := ((ji16) : Int).toNat) hC21 (by omega); have hy21 : y350.length = ((ji16) : Int).toNat := (by rw [Ny350.out, List.length_take]; omega); rw [← Ny350.out] at hr21; rw [← hy21] at hcut21; have HR353 := Aside0.mk hr21; have HC353 := Aside0.mk (show y350.length ≤ co22 from by omega); clear hr21 hC21 hroom21 hi021 hsz21; have KY21 := Aside0.mk hy21; clear hy21; have KL21 := Aside0.mk (show ((ji16) : Int).toNat ≤ t347.length from by omega); replace q21 := eq_true q21) | ((with_reducible refine gate_callee (f := 105) rfl ?_); refine gK (some 27) Try.func105 #[.slice Ao22 y350.length co22, .int .i64 0] rfl rfl rfl ?_; (with_reducible refine (spec_l1Has.calls k1 _ _ y350 0 t354 _ ?side1 ?side2 A19.out).mono ?_); (case side1 => exact cb (by repeat (first | (with_reducible exact HR353.out) | (with_reducible refine Kd.C_alloc ?_ _) | (with_reducible refine Kd.C_drewN ?_ _) | (with_reducible refine Kd.C_drew ?_) | exact HR353.out))); (case side2 => exact HC353.out); rintro e w' ⟨rfl, ⟨nd, rfl⟩⟩; refine ⟨_, rfl, ?_⟩))
     go_ret
     exact ⟨by first | rfl | (simp [errW_none, errW_some] <;> rfl) | (simp only [← hji16]; first | rfl | (simp [errW_none, errW_some] <;> rfl)) | (simp [*, errW_none, errW_some] <;> rfl), BA⟩
 ·replace c3 := Bool.eq_false_iff.mpr c3
  subst c3
  rw [if_neg (show ¬ (false = true) by decide)] at H
  obtain rfl := Option.some.inj H
  go_enter Try.func85, Try.ntmps85
  go_wp2_with (first | ((with_reducible refine gate_callee (f := 56) rfl ?_); refine gK (some 7) Try.func56 #[.int .i64 (l0.length : Int), .int .i64 1, .int .i64 24] rfl rfl rfl ?_; (with_reducible refine (spec_l1In.calls (l0.length : Int) 1 24 false _ A2.out).mono ?_); rintro e w' ⟨rfl, ⟨nd, rfl⟩⟩; refine ⟨_, rfl, ?_⟩))
  go_ret
  exact ⟨EQ, BA⟩

/-! ### spec_l1All: function 91 -/
def spec_l1All.l0 : Nat → Int → Int → List Int → Int → Int → Option (Bool)
 | 0, _, _, _, _, _ => none
 | k + 1, x1, x2, x9, x10, x11 => if x11 < x10 then (if 0 ≤ x11 then (if x11 < (x9.length : Int) then ((spec_l1In.f (rd x9 x11) x1 x2).bind fun t356 => (if t356 = true then (spec_l1All.l0 k x1 x2 x9 x10 (wrap64 (x11 + 1))) else (some false))) else (none)) else (none)) else (some true)
def spec_l1All.f (k : Nat) (l0 : List Int) (a1 : Int) (a2 : Int) : Option (Bool) := spec_l1All.l0 k a1 a2 l0 (l0.length : Int) 0
theorem spec_l1All.calls (k : Nat) (A0 : Option Addr) (c0 : Nat) (l0 : List Int) (a1 : Int) (a2 : Int) (r : Bool) (w : World) (hr0 : Kd.C (Kd.int .i64) w A0 l0.length l0) (hc0 : l0.length ≤ c0) (h : spec_l1All.f k l0 a1 a2 = some r) :
  Calls Try.prog 91 #[.slice A0 l0.length c0, .int .i64 a1, .int .i64 a2] w fun e w' => e = .returned (.bool r) ∧ Drawn0 w w' := by
 have HR0 := Aside0.mk hr0
 have HC0 := Aside0.mk hc0
 clear hr0 hc0
 have H := h
 clear h
 unfold spec_l1All.f at H
 have H' := Aside0.mk H
 clear H
 go_enter Try.func91, Try.ntmps91
 go_wp2
 go_loopg [11] k (fun kq v11 w' => ∃ (x11_1 : Int), v11 = .int .i64 x11_1 ∧ Aside0 (spec_l1All.l0 kq a1 a2 l0 (l0.length : Int) x11_1 = some r) ∧ Aside0 (kq ≤ k) ∧ Drawn0 w w')
 case atStart => exact ⟨(0), EQ1, H', ⟨Nat.le_refl _⟩, DA⟩
 case round =>
  clear H'
  obtain ⟨x11_1, rfl, HA, HK1, ⟨m1, rfl⟩⟩ := hrel
  cases gk with
  | zero => exact absurd HA.out (by simp [spec_l1All.l0])
  | succ k1 =>
   have H := HA.out
   clear HA
   simp only [spec_l1All.l0] at H
   by_cases c4 : x11_1 < (l0.length : Int)
   ·rw [if_pos c4] at H
    have c4b0 := decide_eq_true c4
    clear c4
    obtain ⟨c5, H⟩ := ifs H
    have c5b0 := decide_eq_true c5
    clear c5
    obtain ⟨c6, H⟩ := ifs H
    have c6b0 := decide_eq_true c6
    clear c6
    obtain ⟨t356, A7, H⟩ := ob H
    (try dsimp only at H)
    by_cases c8 : t356 = true
    ·subst c8
     rw [if_pos rfl] at H
     have H' := Aside0.mk H
     clear H
     have p355 : 0 ≤ (x11_1 : Int) := DT
     have q355 : x11_1 < (l0.length : Int) := DT
     obtain ⟨ad355, e355, hx355_0⟩ := Kd.at_int HR0.out x11_1 p355 q355
     cases e355
     replace p355 := eq_true p355
     replace q355 := eq_true q355
     go_wp2_with (first | ((with_reducible refine gate_callee (f := 56) rfl ?_); refine gK (some 18) Try.func56 #[.int .i64 (rd l0 x11_1), .int .i64 a1, .int .i64 a2] rfl rfl rfl ?_; (with_reducible refine (spec_l1In.calls (rd l0 x11_1) a1 a2 true _ A7.out).mono ?_); rintro e w' ⟨rfl, ⟨nd, rfl⟩⟩; refine ⟨_, rfl, ?_⟩))
     go_roundg k1
     case measure => have := HK1.out; omega
     case rel => exact ⟨(wrap64 (x11_1 + 1)), EQ1, H', ⟨by have := HK1.out; omega⟩, DA⟩
    ·replace c8 := Bool.eq_false_iff.mpr c8
     subst c8
     rw [if_neg (show ¬ (false = true) by decide)] at H
     obtain rfl := Option.some.inj H
     have p355 : 0 ≤ (x11_1 : Int) := DT
     have q355 : x11_1 < (l0.length : Int) := DT
     obtain ⟨ad355, e355, hx355_0⟩ := Kd.at_int HR0.out x11_1 p355 q355
     cases e355
     replace p355 := eq_true p355
     replace q355 := eq_true q355
     go_wp2_with (first | ((with_reducible refine gate_callee (f := 56) rfl ?_); refine gK (some 18) Try.func56 #[.int .i64 (rd l0 x11_1), .int .i64 a1, .int .i64 a2] rfl rfl rfl ?_; (with_reducible refine (spec_l1In.calls (rd l0 x11_1) a1 a2 false _ A7.out).mono ?_); rintro e w' ⟨rfl, ⟨nd, rfl⟩⟩; refine ⟨_, rfl, ?_⟩))
     go_ret
     exact ⟨EQ1, DA⟩
   ·rw [if_neg c4] at H
    have c4b0 := decide_eq_false c4
    clear c4
    obtain rfl := Option.some.inj H
    go_wp2
    go_ret
    exact ⟨EQ1, DA⟩

/-! ### spec_exTree: function 86 -/
def spec_exTree.f (k : Nat) (l0 : List (S54)) : Option (Bool) := (spec_exUses.f k l0).bind fun t357 => ((spec_l1All.f k t357 0 1).bind fun t360 => (some t360))
theorem spec_exTree.calls (k : Nat) (A0 : Option Addr) (c0 : Nat) (l0 : List (S54)) (r : Bool) (w : World) (hr0 : Kd.C k54 w A0 l0.length l0) (hc0 : l0.length ≤ c0) (h : spec_exTree.f k l0 = some r) :
  Calls Try.prog 86 #[.slice A0 l0.length c0] w fun e w' => e = .returned (.bool r) ∧ Below w.heap.size w w' := by
 have HR0 := Aside0.mk hr0
 have HC0 := Aside0.mk hc0
 clear hr0 hc0
 have HB := Aside0.mk (Below.refl w.heap.size w)
 have H := h
 clear h
 unfold spec_exTree.f at H
 obtain ⟨t357, A2, H⟩ := ob H
 (try dsimp only at H)
 obtain ⟨t360, A3, H⟩ := ob H
 (try dsimp only at H)
 obtain rfl := Option.some.inj H
 go_enter Try.func86, Try.ntmps86
 go_wp2_with (first | ((with_reducible refine gate_callee (f := 108) rfl ?_); refine gK (some 4) Try.func108 #[.slice A0 l0.length c0] rfl rfl rfl ?_; (with_reducible refine (spec_exUses.calls k _ _ l0 t357 _ ?side1 ?side2 A2.out).mono ?_); (case side1 => exact cb HR0.out); (case side2 => exact HC0.out); rintro e w4 ⟨v358, rfl, ho0, hb⟩; refine ⟨_, rfl, ?_⟩; have HO359 := Aside0.mk (Kd.R_lower ho0 (below_size BA)); replace HB := bs hb; (try clear hb); (try clear ho0); obtain ⟨Ao5, co5, eo5⟩ := Kd.R_slice HO359.out; subst eo5) | ((with_reducible refine gate_callee (f := 91) rfl ?_); refine gK (some 5) Try.func91 #[.slice Ao5 t357.length co5, .int .i64 0, .int .i64 1] rfl rfl rfl ?_; (with_reducible refine (spec_l1All.calls k _ _ t357 0 1 t360 _ ?side1 ?side2 A3.out).mono ?_); (case side1 => exact cb (Kd.R_reads' HO359.out).2.2); (case side2 => exact (Kd.R_reads' HO359.out).2.1); rintro e w' ⟨rfl, ⟨nd, rfl⟩⟩; refine ⟨_, rfl, ?_⟩))
 go_ret
 exact ⟨EQ, BA⟩

/-! ### spec_cvTree: function 55 -/
def spec_cvTree.f (k : Nat) (l0 : List (S54)) : Option (Bool) := (spec_exGood.f k l0).bind fun t361 => (if t361 = true then ((spec_exTree.f k l0).bind fun t362 => (some t362)) else (some false))
theorem spec_cvTree.calls (k : Nat) (A0 : Option Addr) (c0 : Nat) (l0 : List (S54)) (r : Bool) (w : World) (hr0 : Kd.C k54 w A0 l0.length l0) (hc0 : l0.length ≤ c0) (h : spec_cvTree.f k l0 = some r) :
  Calls Try.prog 55 #[.slice A0 l0.length c0] w fun e w' => e = .returned (.bool r) ∧ Below w.heap.size w w' := by
 have HR0 := Aside0.mk hr0
 have HC0 := Aside0.mk hc0
 clear hr0 hc0
 have HB := Aside0.mk (Below.refl w.heap.size w)
 have H := h
 clear h
 unfold spec_cvTree.f at H
 obtain ⟨t361, A2, H⟩ := ob H
 (try dsimp only at H)
 by_cases c3 : t361 = true
 ·subst c3
  rw [if_pos rfl] at H
  obtain ⟨t362, A4, H⟩ := ob H
  (try dsimp only at H)
  obtain rfl := Option.some.inj H
  go_enter Try.func55, Try.ntmps55
  go_wp2_with (first | ((with_reducible refine gate_callee (f := 85) rfl ?_); refine gK (some 4) Try.func85 #[.slice A0 l0.length c0] rfl rfl rfl ?_; (with_reducible refine (spec_exGood.calls k _ _ l0 true _ ?side1 ?side2 A2.out).mono ?_); (case side1 => exact cb HR0.out); (case side2 => exact HC0.out); rintro e w5 ⟨rfl, hb⟩; refine ⟨_, rfl, ?_⟩; replace HB := bs hb; (try clear hb)) | (go_at_call 86; (with_reducible refine (spec_exTree.calls k _ _ l0 t362 _ ?side1 ?side2 A4.out).mono ?_); (case side1 => exact cb (Kd.C_below HR0.out HB.out)); (case side2 => exact HC0.out); rintro e w6 ⟨rfl, hb⟩; replace HB := bs hb; (try clear hb)))
  go_ret
  exact ⟨EQ, BA⟩
 ·replace c3 := Bool.eq_false_iff.mpr c3
  subst c3
  rw [if_neg (show ¬ (false = true) by decide)] at H
  obtain rfl := Option.some.inj H
  go_enter Try.func55, Try.ntmps55
  go_wp2_with (first | ((with_reducible refine gate_callee (f := 85) rfl ?_); refine gK (some 4) Try.func85 #[.slice A0 l0.length c0] rfl rfl rfl ?_; (with_reducible refine (spec_exGood.calls k _ _ l0 false _ ?side1 ?side2 A2.out).mono ?_); (case side1 => exact cb HR0.out); (case side2 => exact HC0.out); rintro e w7 ⟨rfl, hb⟩; refine ⟨_, rfl, ?_⟩; replace HB := bs hb; (try clear hb)))
  go_ret
  exact ⟨EQ, BA⟩

/-! ### laws_toNode: function 50 -/
def laws_toNode.f (a0_0 : ByteArray) (a0_1 : Int) (a0_2 : Int) (a0_3 : Int) : Option (ByteArray × Int × Int × Int) := some (a0_0, a0_1, a0_2, a0_3)
theorem laws_toNode.calls (a0_0 : ByteArray) (a0_1 : Int) (a0_2 : Int) (a0_3 : Int) (r1 : ByteArray) (r2 : Int) (r3 : Int) (r4 : Int) (w : World) (h : laws_toNode.f a0_0 a0_1 a0_2 a0_3 = some (r1, r2, r3, r4)) :
  Calls Try.prog 50 #[.agg #[.string a0_0, .int .i64 a0_1, .int .i64 a0_2, .int .i64 a0_3]] w fun e w' => e = .returned (.agg #[.string r1, .int .i64 r2, .int .i64 r3, .int .i64 r4]) ∧ Below w.heap.size w w' := by
 have hu51 := Try.underlying51
 have hu54 := Try.underlying54
 have HB := Aside0.mk (Below.refl w.heap.size w)
 have H := h
 clear h
 unfold laws_toNode.f at H
 simp only [Option.some.injEq, Prod.mk.injEq] at H
 obtain ⟨rfl, rfl, rfl, rfl⟩ := H
 go_enter Try.func50, Try.ntmps50
 go_wp2_with (first | ((with_reducible refine gd 1 rfl ?_); refine bx 1 #[.string a0_0, .int .i64 a0_1, .int .i64 a0_2, .int .i64 a0_3] 51 ?_; intro gb377 hg w2 BK377 GW377 HB hb; have GE377 := GW377; clear hb hg) | ((with_reducible refine gd 2 rfl ?_); refine bx 2 #[.string (⟨#[]⟩ : ByteArray), .int .i64 0, .int .i64 0, .int .i64 0] 54 ?_; intro gb378 hg w3 BK378 GW378 HB hb; have GE378 := GW378; have NB377_378 := nbl hg (bk BK377.out); have NB378_377 := nbr hg (bk BK377.out); replace BK377 := kb BK377 hb; clear hb hg) | ((with_reducible refine gd 3 rfl ?_); refine bx 3 #[.string (⟨#[]⟩ : ByteArray), .int .i64 0, .int .i64 0, .int .i64 0] 54 ?_; intro gb379 hg w4 BK379 GW379 HB hb; have GE379 := GW379; have NB377_379 := nbl hg (bk BK377.out); have NB379_377 := nbr hg (bk BK377.out); replace BK377 := kb BK377 hb; have NB378_379 := nbl hg (bk BK378.out); have NB379_378 := nbr hg (bk BK378.out); replace BK378 := Aside0.mk (blk_below (g := gb378) (o := .cells #[.string (⟨#[]⟩ : ByteArray), .int .i64 0, .int .i64 0, .int .i64 0] 54 (0, 0)) (bk BK378.out) hb); clear hb hg; have hnb5 := NB377_378.out; have hnc5 := NB378_377.out; have hnb6 := NB377_379.out; have hnc6 := NB379_377.out; obtain ⟨hcz7_0, hcz7_1, hcz7_2, hcz7_3⟩ := bc4 BK377.out; have hfz7 := blk_frozen BK377.out; have hnb8 := NB379_378.out; have hnc8 := NB378_379.out; obtain ⟨hcz9_0, hcz9_1, hcz9_2, hcz9_3⟩ := bc4 BK379.out; have hfz9 := blk_frozen BK379.out; obtain ⟨hcz10_0, hcz10_1, hcz10_2, hcz10_3⟩ := bc4 BK378.out; have hfz10 := blk_frozen BK378.out))
 refine bodyPost_ret (results_cell_row rfl _ _ gb378 54 #[.string a0_0, .int .i64 a0_1, .int .i64 a0_2, .int .i64 a0_3] (0, 0) _ rfl (bq BK378.out) Try.underlying54 rfl (by kernel_rfl)) rfl ?_
 exact ⟨EQ, BA⟩

/-! ### laws_toNodeS: function 17 -/
def laws_toNodeS.l0 : Nat → List (S51) → List (S54) → Int → Option ((List (S54)))
 | 0, _, _, _ => none
 | k + 1, x0, x3, x4 => if x4 < (x0.length : Int) then (if 0 ≤ x4 then ((laws_toNode.f ((rd_T51 x0 x4).f0) ((rd_T51 x0 x4).f1) ((rd_T51 x0 x4).f2) ((rd_T51 x0 x4).f3)).bind fun bt384 => (if x4 < (x3.length : Int) then (laws_toNodeS.l0 k x0 (x3.set (x4 : Int).toNat (⟨bt384.1, bt384.2.1, bt384.2.2.1, bt384.2.2.2⟩ : S54)) (wrap64 (x4 + 1))) else (none))) else (none)) else (some x3)
def laws_toNodeS.f (k : Nat) (l0 : List (S51)) : Option ((List (S54))) := if 0 ≤ (l0.length : Int) then (if ((l0.length : Int) : Int).toNat ≤ 7036874417766 then (laws_toNodeS.l0 k l0 (List.replicate ((l0.length : Int) : Int).toNat z54) 0) else (none)) else (none)
theorem laws_toNodeS.calls (k : Nat) (A0 : Option Addr) (c0 : Nat) (l0 : List (S51)) (r : List (S54)) (w : World) (hr0 : Kd.C k51 w A0 l0.length l0) (hc0 : l0.length ≤ c0) (h : laws_toNodeS.f k l0 = some r) :
  Calls Try.prog 17 #[.slice A0 l0.length c0] w fun e w' => ∃ v0_ : Value, e = .returned (v0_) ∧ Kd.R k54 54 w' w.heap.size (fun _ => True) v0_ r ∧ Below w.heap.size w w' := by
 have hu51 := Try.underlying51
 have hu54 := Try.underlying54
 have HR0 := Aside0.mk hr0
 have HC0 := Aside0.mk hc0
 clear hr0 hc0
 have HB := Aside0.mk (Below.refl w.heap.size w)
 have H := h
 clear h
 unfold laws_toNodeS.f at H
 obtain ⟨c2, H⟩ := ifs H
 have c2b0 := eq_true c2
 have c2b1 := decide_eq_true c2
 clear c2
 obtain ⟨c3, H⟩ := ifs H
 have c3b0 := eq_true c3
 have c3b1 := decide_eq_true c3
 clear c3
 obtain ⟨y380, hy380⟩ : ∃ y_ : List (S54), y_ = (List.replicate ((l0.length : Int) : Int).toNat z54) := ⟨_, rfl⟩
 replace H : (laws_toNodeS.l0 k l0 y380 0) = some r := by first | (rw [hy380]; with_reducible exact H) | (have H2_ := (Option.bind_some _ _).symm.trans H; rw [hy380]; with_reducible exact H2_) | (have H2_ := (Option.bind_some _ _).symm.trans H; with_reducible exact H2_) | with_reducible exact H | (rw [hy380]; exact H) | exact H
 have Ny380 := Aside0.mk hy380
 clear hy380
 have H' := Aside0.mk H
 clear H
 go_enter Try.func17, Try.ntmps17
 go_wp2_with (first | ((with_reducible refine gate_dst (N := 7) rfl ?_); refine Kd.R_make k54 _ 54 rfl (N := 7) rfl 26 _ _ rfl (l0.length : Int) rfl rfl Try.underlying26 (.agg #[(.string ⟨#[]⟩), (.int .i64 0), (.int .i64 0), (.int .i64 0)]) 40 info54 rfl (by decide) (by omega) z54 (ok := fun _ => True) (okp := fun _ => True) (k54_mkM _ _ _ z54 ) (fun _ hk => hk) trivial DT (Nat.le_trans (Nat.mul_le_mul_right _ (DT : (l0.length : Int).toNat ≤ 7036874417766)) (by omega)) (Below.refl _ _) (Nat.le_refl _) ?_; intro v381 w4 ho5 hb hg_ hnew_; clear hg_ hnew_; (first | rw [← Ny380.out] at ho5 | (simp only [Int.reduceToNat] at ho5; rw [← Ny380.out] at ho5)); have HO382 := Aside0.mk (Kd.R_lower ho5 (below_size BA)); replace HB := bs hb; clear hb ho5))
 go_loopg [4] k (fun kq v4 w' => ∃ (x3_1 : List (S54)) (x4_1 : Int), v4 = .int .i64 x4_1 ∧ Aside0 (laws_toNodeS.l0 kq l0 x3_1 x4_1 = some r) ∧ Aside0 (kq ≤ k) ∧ Aside0 (Kd.R k54 54 w' w.heap.size (fun _ => True) v381 x3_1) ∧ Aside0 (Below w.heap.size w w'))
 case atStart => exact ⟨(y380), (0), EQ1, H', ⟨Nat.le_refl _⟩, ⟨rb HO382.out⟩, ⟨BA⟩⟩
 case round =>
  clear H'
  (try clear c2b0); (try clear c2b1); (try clear c3b0); (try clear c3b1)
  obtain ⟨x3_1, x4_1, rfl, HA, HK1, HO_3, HB⟩ := hrel
  cases gk with
  | zero => exact absurd HA.out (by simp [laws_toNodeS.l0])
  | succ k1 =>
   have H := HA.out
   clear HA
   simp only [laws_toNodeS.l0] at H
   by_cases c6 : x4_1 < (l0.length : Int)
   ·rw [if_pos c6] at H
    have c6b0 := decide_eq_true c6
    clear c6
    obtain ⟨c7, H⟩ := ifs H
    have c7b0 := decide_eq_true c7
    clear c7
    replace H := Option.bind_eq_some_iff.mp H
    obtain ⟨⟨t384, t385, t386, t387⟩, A80, H⟩ := H
    (try dsimp only at H)
    have A8 := Aside0.mk A80
    clear A80
    obtain ⟨c9, H⟩ := ifs H
    have c9b0 := decide_eq_true c9
    clear c9
    obtain ⟨y388, hy388⟩ : ∃ y_ : List (S54), y_ = (x3_1.set (x4_1 : Int).toNat (⟨t384, t385, t386, t387⟩ : S54)) := ⟨_, rfl⟩
    replace H : (laws_toNodeS.l0 k1 l0 y388 (wrap64 (x4_1 + 1))) = some r := by first | (rw [hy388]; with_reducible exact H) | (have H2_ := (Option.bind_some _ _).symm.trans H; rw [hy388]; with_reducible exact H2_) | (have H2_ := (Option.bind_some _ _).symm.trans H; with_reducible exact H2_) | with_reducible exact H | (rw [hy388]; exact H) | exact H
    have Ny388 := Aside0.mk hy388
    clear hy388
    have H' := Aside0.mk H
    clear H
    have p383 : 0 ≤ (x4_1 : Int) := DT
    have q383 : x4_1 < (l0.length : Int) := DT
    obtain ⟨ad383, e383, hx383_0, hx383_1, hx383_2, hx383_3⟩ := at_T51 (Kd.C_below HR0.out HB.out) x4_1 p383 q383
    cases e383
    replace p383 := eq_true p383
    replace q383 := eq_true q383
    go_wp2_with (first | ((with_reducible refine gate_callee (f := 50) rfl ?_); refine gK (some 20) Try.func50 #[.agg #[.string ((rd_T51 l0 x4_1).f0), .int .i64 ((rd_T51 l0 x4_1).f1), .int .i64 ((rd_T51 l0 x4_1).f2), .int .i64 ((rd_T51 l0 x4_1).f3)]] rfl rfl rfl ?_; (with_reducible refine (laws_toNode.calls ((rd_T51 l0 x4_1).f0) ((rd_T51 l0 x4_1).f1) ((rd_T51 l0 x4_1).f2) ((rd_T51 l0 x4_1).f3) t384 t385 t386 t387 _ A8.out).mono ?_); rintro e w11 ⟨rfl, hb⟩; refine ⟨_, rfl, ?_⟩; replace HO_3 := Aside0.mk (Kd.R_below (rb HO_3.out) hb); replace HB := bs hb; (try clear hb); have p10 : 0 ≤ (x4_1 : Int) := DT; have q10 : (x4_1 : Int) < ((x3_1.length : Int) : Int) := DT; obtain ⟨go10, co10, eo10, gb10, gl10, cl10, HG10⟩ := Kd.R_form HO_3.out (by omega); (first | cases eo10 | (injection eo10 with ea_ en_ ec_; (first | subst ea_ | (injection ea_ with ea_; subst ea_)); subst ec_; clear en_)); have GB10 := Aside0.mk gb10; have GG10 := Aside0.mk HG10; clear gb10 gl10 HG10; obtain ⟨ce10, hcl10, hM10, hcc10, hfr10⟩ := Kd.R_elem HO_3.out z54 (x4_1 : Int) p10 q10; obtain rfl := k54_openM hM10; have hx10_0 : w11.cell? ⟨go10, (x4_1 : Int).toNat * 4, none⟩ = some (.string ((rd_T54 x3_1 x4_1).f0)) := hcc10 0 _ rfl; have hx10_1 : w11.cell? ⟨go10, (x4_1 : Int).toNat * 4 + 1, none⟩ = some (.int .i64 ((rd_T54 x3_1 x4_1).f1)) := hcc10 1 _ rfl; have hx10_2 : w11.cell? ⟨go10, (x4_1 : Int).toNat * 4 + 2, none⟩ = some (.int .i64 ((rd_T54 x3_1 x4_1).f2)) := hcc10 2 _ rfl; have hx10_3 : w11.cell? ⟨go10, (x4_1 : Int).toNat * 4 + 3, none⟩ = some (.int .i64 ((rd_T54 x3_1 x4_1).f3)) := hcc10 3 _ rfl; have hf10_0 : w11.frozen? ⟨go10, (x4_1 : Int).toNat * 4, none⟩ = false := hfr10 0; have hf10_1 : w11.frozen? ⟨go10, (x4_1 : Int).toNat * 4 + 1, none⟩ = false := hfr10 1; have hf10_2 : w11.frozen? ⟨go10, (x4_1 : Int).toNat * 4 + 2, none⟩ = false := hfr10 2; have hf10_3 : w11.frozen? ⟨go10, (x4_1 : Int).toNat * 4 + 3, none⟩ = false := hfr10 3; clear hcl10 hcc10 hfr10 hM10; replace p10 := eq_true p10; replace q10 := eq_true q10; have HX12 := Aside0.mk (show Kd.R k54 54 w11 w.heap.size (fun _ => True) (.slice (some ⟨go10, 0, none⟩) x3_1.length co10) x3_1 from (rb HO_3.out)); obtain ⟨ce12, hcl12, hM12, hcc12, hfr12⟩ := Kd.R_elem HX12.out z54 (x4_1 : Int) DT (by have h_ : (x4_1 : Int) < ((x3_1.length : Int) : Int) := DT; first | exact h_ | (have e_ := (Kd.R_reads' HO_3.out).1; omega) | simpa using h_); obtain rfl := k54_openM hM12; have HP12 := Kd.R_seg HX12.out (x4_1 : Int) DT (by have h_ : (x4_1 : Int) < ((x3_1.length : Int) : Int) := DT; first | exact h_ | (have e_ := (Kd.R_reads' HO_3.out).1; omega) | simpa using h_) (seg := [.string t384, .int .i64 t385, .int .i64 t386, .int .i64 t387]) (j := 0) hcl12 hcc12 (show 4 ≤ 4 from by decide) (x' := (⟨t384, t385, t386, t387⟩ : S54)) (k54_mkM _ _ _ (⟨t384, t385, t386, t387⟩ : S54) ) (fun _ hk => hk); have hx12_0 := hcc12 0 _ rfl; (try simp only [show (k54).sz = 4 from rfl, Nat.mul_one, Nat.add_zero] at hx12_0); have hf12_0 := hfr12 0; (try simp only [show (k54).sz = 4 from rfl, Nat.mul_one, Nat.add_zero] at hf12_0); have hx12_1 := hcc12 1 _ rfl; (try simp only [show (k54).sz = 4 from rfl, Nat.mul_one, Nat.add_zero] at hx12_1); have hf12_1 := hfr12 1; (try simp only [show (k54).sz = 4 from rfl, Nat.mul_one, Nat.add_zero] at hf12_1); have hx12_2 := hcc12 2 _ rfl; (try simp only [show (k54).sz = 4 from rfl, Nat.mul_one, Nat.add_zero] at hx12_2); have hf12_2 := hfr12 2; (try simp only [show (k54).sz = 4 from rfl, Nat.mul_one, Nat.add_zero] at hf12_2); have hx12_3 := hcc12 3 _ rfl; (try simp only [show (k54).sz = 4 from rfl, Nat.mul_one, Nat.add_zero] at hx12_3); have hf12_3 := hfr12 3; (try simp only [show (k54).sz = 4 from rfl, Nat.mul_one, Nat.add_zero] at hf12_3); clear hcl12 hcc12 hfr12 hM12) | ((with_reducible refine gate_store (t := 54) (p := 21) rfl ?_); refine store_event (t := 54) (p := 21) (v := ?vo_w13) (w1 := ((((w11.setCell ⟨go10, (x4_1 : Int).toNat * 4, none⟩ (.string t384)).setCell ⟨go10, (x4_1 : Int).toNat * 4 + 1, none⟩ (.int .i64 t385)).setCell ⟨go10, (x4_1 : Int).toNat * 4 + 2, none⟩ (.int .i64 t386)).setCell ⟨go10, (x4_1 : Int).toNat * 4 + 3, none⟩ (.int .i64 t387))) ?hg ?ho ?hn ?hr ?_; (case ho => rfl); (case hg => rfl); (case hn => rfl); (case hr => first | (go_simp; done) | (go_simp; rfl)); intro w13 hw; have hg : w11.grownBy w13 (some go10) := (by rw [hw]; exact HP12.2); have hp_ : Kd.R k54 54 w13 w.heap.size (fun _ => True) (.slice (some ⟨go10, 0, none⟩) x3_1.length co10) y388 := (by rw [hw, Ny388.out]; exact HP12.1); clear HP12; replace HO_3 := Aside0.mk (hp_); replace HB := Aside0.mk ((by rw [hw]; exact below_set (below_set (below_set (below_set (HB.out) GB10.out) GB10.out) GB10.out) GB10.out : Below w.heap.size w w13)); clear hg hw hp_))
    go_roundg k1
    case measure => have := HK1.out; omega
    case rel => exact ⟨(y388), (wrap64 (x4_1 + 1)), EQ1, H', ⟨by have := HK1.out; omega⟩, ⟨rb HO_3.out⟩, ⟨BA⟩⟩
   ·rw [if_neg c6] at H
    have c6b0 := decide_eq_false c6
    clear c6
    obtain rfl := Option.some.inj H
    go_wp2
    go_ret
    exact ⟨_, EQ, rb HO_3.out, BA⟩

/-! ### impl_within: function 59 -/
def impl_within.f (a0 : Int) (a1 : Int) (a2 : Int) : Option (Bool) := if a1 ≤ a0 then (some (decide (a0 ≤ a2))) else (some false)
theorem impl_within.calls (a0 : Int) (a1 : Int) (a2 : Int) (r : Bool) (w : World) (h : impl_within.f a0 a1 a2 = some r) :
  Calls Try.prog 59 #[.int .i64 a0, .int .i64 a1, .int .i64 a2] w fun e w' => e = .returned (.bool r) ∧ Drawn0 w w' := by
 have H := h
 clear h
 unfold impl_within.f at H
 by_cases c4 : a1 ≤ a0
 ·rw [if_pos c4] at H
  have c4b0 := decide_eq_true c4
  clear c4
  obtain rfl := Option.some.inj H
  go_enter Try.func59, Try.ntmps59
  go_wp2
  go_ret
  exact ⟨EQ1, DA⟩
 ·rw [if_neg c4] at H
  have c4b0 := decide_eq_false c4
  clear c4
  obtain rfl := Option.some.inj H
  go_enter Try.func59, Try.ntmps59
  go_wp2
  go_ret
  exact ⟨EQ1, DA⟩

/-! ### slices_Index_string_string: function 124 -/
def slices_Index_string_string.l0 : Nat → List ByteArray → ByteArray → Int → Int → Option (Int)
 | 0, _, _, _, _ => none
 | k + 1, x0, x1, x7, x8 => if x8 < x7 then (if 0 ≤ x8 then (if x8 < (x0.length : Int) then (if x1.toList = (rdOf ByteArray.empty x0 x8).toList then (some x8) else (slices_Index_string_string.l0 k x0 x1 x7 (wrap64 (x8 + 1)))) else (none)) else (none)) else (some (-1))
def slices_Index_string_string.f (k : Nat) (l0 : List ByteArray) (a1 : ByteArray) : Option (Int) := slices_Index_string_string.l0 k l0 a1 (l0.length : Int) 0
theorem slices_Index_string_string.calls (k : Nat) (A0 : Option Addr) (c0 : Nat) (l0 : List ByteArray) (a1 : ByteArray) (r : Int) (w : World) (hr0 : Kd.C Kd.string w A0 l0.length l0) (hc0 : l0.length ≤ c0) (h : slices_Index_string_string.f k l0 a1 = some r) :
  Calls Try.prog 124 #[.slice A0 l0.length c0, .string a1] w fun e w' => e = .returned (.int .i64 r) ∧ Drawn0 w w' := by
 have HR0 := Aside0.mk hr0
 have HC0 := Aside0.mk hc0
 clear hr0 hc0
 have H := h
 clear h
 unfold slices_Index_string_string.f at H
 have H' := Aside0.mk H
 clear H
 go_enter Try.func124, Try.ntmps124
 go_wp2
 go_loopg [8] k (fun kq v8 w' => ∃ (x8_1 : Int), v8 = .int .i64 x8_1 ∧ Aside0 (slices_Index_string_string.l0 kq l0 a1 (l0.length : Int) x8_1 = some r) ∧ Aside0 (kq ≤ k) ∧ Drawn0 w w')
 case atStart => exact ⟨(0), EQ1, H', ⟨Nat.le_refl _⟩, DA⟩
 case round =>
  clear H'
  obtain ⟨x8_1, rfl, HA, HK1, ⟨m1, rfl⟩⟩ := hrel
  cases gk with
  | zero => exact absurd HA.out (by simp [slices_Index_string_string.l0])
  | succ k1 =>
   have H := HA.out
   clear HA
   simp only [slices_Index_string_string.l0] at H
   by_cases c3 : x8_1 < (l0.length : Int)
   ·rw [if_pos c3] at H
    have c3b0 := decide_eq_true c3
    clear c3
    obtain ⟨c4, H⟩ := ifs H
    have c4b0 := decide_eq_true c4
    clear c4
    obtain ⟨c5, H⟩ := ifs H
    have c5b0 := decide_eq_true c5
    clear c5
    by_cases c6 : a1.toList = (rdOf ByteArray.empty l0 x8_1).toList
    ·rw [if_pos c6] at H
     have c6b0 := beq_iff_eq.mpr c6
     have c6b1 := bne_eq_false_iff_eq.mpr c6
     clear c6
     obtain rfl := Option.some.inj H
     have p389 : 0 ≤ (x8_1 : Int) := DT
     have q389 : x8_1 < (l0.length : Int) := DT
     obtain ⟨ad389, e389, hx389_0⟩ := Kd.at_string HR0.out x8_1 p389 q389
     cases e389
     replace p389 := eq_true p389
     replace q389 := eq_true q389
     go_wp2
     go_ret
     exact ⟨EQ1, DA⟩
    ·rw [if_neg c6] at H
     have c6b0 := beq_eq_false_iff_ne.mpr c6
     have c6b1 := bne_iff_ne.mpr c6
     have H' := Aside0.mk H
     clear H
     have p389 : 0 ≤ (x8_1 : Int) := DT
     have q389 : x8_1 < (l0.length : Int) := DT
     obtain ⟨ad389, e389, hx389_0⟩ := Kd.at_string HR0.out x8_1 p389 q389
     cases e389
     replace p389 := eq_true p389
     replace q389 := eq_true q389
     go_wp2
     go_roundg k1
     case measure => have := HK1.out; omega
     case rel => exact ⟨(wrap64 (x8_1 + 1)), EQ1, H', ⟨by have := HK1.out; omega⟩, DA⟩
   ·rw [if_neg c3] at H
    have c3b0 := decide_eq_false c3
    clear c3
    obtain rfl := Option.some.inj H
    go_wp2
    go_ret
    exact ⟨EQ1, DA⟩

/-! ### slices_Contains_string_string: function 115 -/
def slices_Contains_string_string.f (k : Nat) (l0 : List ByteArray) (a1 : ByteArray) : Option (Bool) := (slices_Index_string_string.f k l0 a1).bind fun t390 => (some (decide (t390 ≥ 0)))
theorem slices_Contains_string_string.calls (k : Nat) (A0 : Option Addr) (c0 : Nat) (l0 : List ByteArray) (a1 : ByteArray) (r : Bool) (w : World) (hr0 : Kd.C Kd.string w A0 l0.length l0) (hc0 : l0.length ≤ c0) (h : slices_Contains_string_string.f k l0 a1 = some r) :
  Calls Try.prog 115 #[.slice A0 l0.length c0, .string a1] w fun e w' => e = .returned (.bool r) ∧ Drawn0 w w' := by
 have HR0 := Aside0.mk hr0
 have HC0 := Aside0.mk hc0
 clear hr0 hc0
 have H := h
 clear h
 unfold slices_Contains_string_string.f at H
 obtain ⟨t390, A3, H⟩ := ob H
 (try dsimp only at H)
 obtain rfl := Option.some.inj H
 go_enter Try.func115, Try.ntmps115
 go_wp2_with (first | ((with_reducible refine gate_callee (f := 124) rfl ?_); refine gK (some 7) Try.func124 #[.slice A0 l0.length c0, .string a1] rfl rfl rfl ?_; (with_reducible refine (slices_Index_string_string.calls k _ _ l0 a1 t390 _ ?side1 ?side2 A3.out).mono ?_); (case side1 => exact cb HR0.out); (case side2 => exact HC0.out); rintro e w' ⟨rfl, ⟨nd, rfl⟩⟩; refine ⟨_, rfl, ?_⟩))
 go_ret
 exact ⟨EQ1, DA⟩

/-! ### impl_binary: function 116 -/
def impl_binary.f  : Option (List ByteArray) := some (([(⟨#[97, 100, 100]⟩ : ByteArray), (⟨#[115, 117, 98]⟩ : ByteArray), (⟨#[109, 117, 108]⟩ : ByteArray), (⟨#[97, 110, 100]⟩ : ByteArray), (⟨#[111, 114]⟩ : ByteArray), (⟨#[120, 111, 114]⟩ : ByteArray), (⟨#[115, 104, 108]⟩ : ByteArray), (⟨#[115, 104, 114]⟩ : ByteArray), (⟨#[108, 101, 115, 115]⟩ : ByteArray), (⟨#[101, 113]⟩ : ByteArray)] : List ByteArray))
theorem impl_binary.calls  (r : List ByteArray) (w : World) (h : impl_binary.f  = some r) :
  Calls Try.prog 116 #[] w fun e w' => ∃ v0_ : Value, e = .returned (v0_) ∧ Kd.R Kd.string 9 w' w.heap.size (fun _ => True) v0_ r ∧ Below w.heap.size w w' := by
 have HB := Aside0.mk (Below.refl w.heap.size w)
 have H := h
 clear h
 unfold impl_binary.f at H
 obtain ⟨y391, hy391⟩ : ∃ y_ : List ByteArray, y_ = (([(⟨#[97, 100, 100]⟩ : ByteArray), (⟨#[115, 117, 98]⟩ : ByteArray), (⟨#[109, 117, 108]⟩ : ByteArray), (⟨#[97, 110, 100]⟩ : ByteArray), (⟨#[111, 114]⟩ : ByteArray), (⟨#[120, 111, 114]⟩ : ByteArray), (⟨#[115, 104, 108]⟩ : ByteArray), (⟨#[115, 104, 114]⟩ : ByteArray), (⟨#[108, 101, 115, 115]⟩ : ByteArray), (⟨#[101, 113]⟩ : ByteArray)] : List ByteArray)) := ⟨_, rfl⟩
 replace H : (some y391) = some r := by first | (rw [hy391]; with_reducible exact H) | (have H2_ := (Option.bind_some _ _).symm.trans H; rw [hy391]; with_reducible exact H2_) | (have H2_ := (Option.bind_some _ _).symm.trans H; with_reducible exact H2_) | with_reducible exact H | (rw [hy391]; exact H) | exact H
 have Ny391 := Aside0.mk hy391
 clear hy391
 obtain rfl := Option.some.inj H
 go_enter Try.func116, Try.ntmps116
 go_wp2_with (first | ((with_reducible refine gate_dst (N := 1) rfl ?_); refine ls 1 9 Ny391.out ?_; intro v392 w1 ho2 hb; have HO393 := Aside0.mk (Kd.R_lower ho2 (below_size BA)); replace HB := bs hb; clear hb ho2))
 go_ret
 exact ⟨_, EQ, rb HO393.out, BA⟩

/-! ### impl_operands: function 100 -/
mutual
def impl_operands.j0 : Nat → ByteArray → Bool → Option (Int)
 | 0, _, _ => none
 | k + 1, x0, x3 => if x3 = true then (some 0) else (if x0.toList = ([110, 111, 116] : List UInt8) then (impl_operands.j1 k x0 true) else (impl_operands.j1 k x0 (x0.toList == ([110, 101, 103] : List UInt8))))
def impl_operands.j1 : Nat → ByteArray → Bool → Option (Int)
 | 0, _, _ => none
 | k + 1, x0, x10 => if x10 = true then (some 1) else ((impl_binary.f).bind fun t394 => ((slices_Contains_string_string.f k t394 x0).bind fun t397 => (if t397 = true then (some 2) else (some (-1)))))
end
def impl_operands.f (k : Nat) (a0 : ByteArray) : Option (Int) := if a0.toList = ([105, 110] : List UInt8) then (impl_operands.j0 k a0 true) else (impl_operands.j0 k a0 (a0.toList == ([99, 111, 110, 115, 116] : List UInt8)))
theorem impl_operands.calls (k : Nat) (a0 : ByteArray) (r : Int) (w : World) (h : impl_operands.f k a0 = some r) :
  Calls Try.prog 100 #[.string a0] w fun e w' => e = .returned (.int .i64 r) ∧ Below w.heap.size w w' := by
 have HB := Aside0.mk (Below.refl w.heap.size w)
 have H := h
 clear h
 unfold impl_operands.f at H
 have HC2 := Aside0.mk H
 clear H
 go_enter Try.func100, Try.ntmps100
 go_upto_region 1 with (fail)
 go_cut [3] (fun v3 wc => ∃ (kq : Nat) (x3_1 : Bool), v3 = .bool x3_1 ∧ Aside0 (impl_operands.j0 kq a0 x3_1 = some r) ∧ Aside0 (kq ≤ k) ∧ Aside0 (Below w.heap.size w wc))
 case first =>
  have H := HC2.out
  clear HC2
  by_cases c3 : a0.toList = ([105, 110] : List UInt8)
  ·rw [if_pos c3] at H
   have c3b0 := beq_iff_eq.mpr c3
   have c3b1 := bne_eq_false_iff_eq.mpr c3
   clear c3
   (first | rw [c3b0] | (simp only [i64_w, i32_w]; rw [c3b0]) | skip)
   have H' := Aside0.mk H
   clear H
   go_wp2
   go_meet
   case rel => exact ⟨_, (true), EQ1, H', ⟨by first | omega | exact Nat.le_refl _⟩, ⟨BA⟩⟩
  ·rw [if_neg c3] at H
   have c3b0 := beq_eq_false_iff_ne.mpr c3
   have c3b1 := bne_iff_ne.mpr c3
   (first | rw [c3b0] | (simp only [i64_w, i32_w]; rw [c3b0]) | skip)
   have H' := Aside0.mk H
   clear H
   go_wp2
   go_meet
   case rel => exact ⟨_, ((a0.toList == ([99, 111, 110, 115, 116] : List UInt8))), EQ1, H', ⟨by first | omega | exact Nat.le_refl _⟩, ⟨BA⟩⟩
 case rest =>
  clear HC2
  (try clear c3b0); (try clear c3b1)
  obtain ⟨kq, x3_1, rfl, HA, HJ1, HB⟩ := hcut
  cases kq with
  | zero => exact absurd HA.out (by simp [impl_operands.j0])
  | succ kj1 =>
   have H := HA.out
   clear HA
   simp only [impl_operands.j0] at H
   by_cases c4 : x3_1 = true
   ·subst c4
    rw [if_pos rfl] at H
    obtain rfl := Option.some.inj H
    go_wp2
    go_ret
    exact ⟨EQ, BA⟩
   ·replace c4 := Bool.eq_false_iff.mpr c4
    subst c4
    rw [if_neg (show ¬ (false = true) by decide)] at H
    have HC5 := Aside0.mk H
    clear H
    go_upto_region 3 with (fail)
    go_cut [10] (fun v10 wc => ∃ (kq : Nat) (x10_4 : Bool), v10 = .bool x10_4 ∧ Aside0 (impl_operands.j1 kq a0 x10_4 = some r) ∧ Aside0 (kq ≤ kj1) ∧ Aside0 (Below w.heap.size w wc))
    case first =>
     have H := HC5.out
     clear HC5
     by_cases c6 : a0.toList = ([110, 111, 116] : List UInt8)
     ·rw [if_pos c6] at H
      have c6b0 := beq_iff_eq.mpr c6
      have c6b1 := bne_eq_false_iff_eq.mpr c6
      clear c6
      (first | rw [c6b0] | (simp only [i64_w, i32_w]; rw [c6b0]) | skip)
      have H' := Aside0.mk H
      clear H
      go_wp2
      go_meet
      case rel => exact ⟨_, (true), EQ1, H', ⟨by have := HJ1.out; first | omega | exact Nat.le_refl _⟩, ⟨BA⟩⟩
     ·rw [if_neg c6] at H
      have c6b0 := beq_eq_false_iff_ne.mpr c6
      have c6b1 := bne_iff_ne.mpr c6
      (first | rw [c6b0] | (simp only [i64_w, i32_w]; rw [c6b0]) | skip)
      have H' := Aside0.mk H
      clear H
      go_wp2
      go_meet
      case rel => exact ⟨_, ((a0.toList == ([110, 101, 103] : List UInt8))), EQ1, H', ⟨by have := HJ1.out; first | omega | exact Nat.le_refl _⟩, ⟨BA⟩⟩
    case rest =>
     clear HC5
     (try clear c3b0); (try clear c3b1); (try clear c4); (try clear c6b0); (try clear c6b1)
     obtain ⟨kq, x10_4, rfl, HA, HJ4, HB⟩ := hcut
     cases kq with
     | zero => exact absurd HA.out (by simp [impl_operands.j1])
     | succ kj4 =>
      have H := HA.out
      clear HA
      simp only [impl_operands.j1] at H
      by_cases c7 : x10_4 = true
      ·subst c7
       rw [if_pos rfl] at H
       obtain rfl := Option.some.inj H
       go_wp2
       go_ret
       exact ⟨EQ, BA⟩
      ·replace c7 := Bool.eq_false_iff.mpr c7
       subst c7
       rw [if_neg (show ¬ (false = true) by decide)] at H
       obtain ⟨t394, A8, H⟩ := ob H
       (try dsimp only at H)
       obtain ⟨t397, A9, H⟩ := ob H
       (try dsimp only at H)
       by_cases c10 : t397 = true
       ·subst c10
        rw [if_pos rfl] at H
        obtain rfl := Option.some.inj H
        go_wp2_with (first | ((with_reducible refine gate_callee (f := 116) rfl ?_); refine gK (some 18) Try.func116 #[] rfl rfl rfl ?_; (with_reducible refine (impl_binary.calls  t394 _ A8.out).mono ?_); rintro e w11 ⟨v395, rfl, ho0, hb⟩; refine ⟨_, rfl, ?_⟩; have HO396 := Aside0.mk (Kd.R_lower ho0 (below_size BA)); replace HB := bs hb; (try clear hb); (try clear ho0); obtain ⟨Ao12, co12, eo12⟩ := Kd.R_slice HO396.out; subst eo12) | ((with_reducible refine gate_callee (f := 115) rfl ?_); refine gK (some 20) Try.func115 #[.slice Ao12 t394.length co12, .string a0] rfl rfl rfl ?_; (with_reducible refine (slices_Contains_string_string.calls kj4 _ _ t394 a0 true _ ?side1 ?side2 A9.out).mono ?_); (case side1 => exact cb (Kd.R_reads' HO396.out).2.2); (case side2 => exact (Kd.R_reads' HO396.out).2.1); rintro e w' ⟨rfl, ⟨nd, rfl⟩⟩; refine ⟨_, rfl, ?_⟩))
        go_ret
        exact ⟨EQ, BA⟩
       ·replace c10 := Bool.eq_false_iff.mpr c10
        subst c10
        rw [if_neg (show ¬ (false = true) by decide)] at H
        obtain rfl := Option.some.inj H
        go_wp2_with (first | ((with_reducible refine gate_callee (f := 116) rfl ?_); refine gK (some 18) Try.func116 #[] rfl rfl rfl ?_; (with_reducible refine (impl_binary.calls  t394 _ A8.out).mono ?_); rintro e w13 ⟨v395, rfl, ho0, hb⟩; refine ⟨_, rfl, ?_⟩; have HO396 := Aside0.mk (Kd.R_lower ho0 (below_size BA)); replace HB := bs hb; (try clear hb); (try clear ho0); obtain ⟨Ao14, co14, eo14⟩ := Kd.R_slice HO396.out; subst eo14) | ((with_reducible refine gate_callee (f := 115) rfl ?_); refine gK (some 20) Try.func115 #[.slice Ao14 t394.length co14, .string a0] rfl rfl rfl ?_; (with_reducible refine (slices_Contains_string_string.calls kj4 _ _ t394 a0 false _ ?side1 ?side2 A9.out).mono ?_); (case side1 => exact cb (Kd.R_reads' HO396.out).2.2); (case side2 => exact (Kd.R_reads' HO396.out).2.1); rintro e w' ⟨rfl, ⟨nd, rfl⟩⟩; refine ⟨_, rfl, ?_⟩))
        go_ret
        exact ⟨EQ, BA⟩

/-! ### impl_Node_of: function 112 -/
def impl_Node_of.f (k : Nat) (a0_0 : ByteArray) (a0_1 : Int) (a0_2 : Int) (a0_3 : Int) : Option (List Int) := (some (([a0_1, a0_2] : List Int) : List Int)).bind fun y399 => ((impl_operands.f k a0_0).bind fun t402 => (if 0 ≤ (mx t402 0) then (if (mx t402 0) ≤ (y399.length : Int) then (some (y399.take ((mx t402 0) : Int).toNat)) else (none)) else (none)))
def impl_Node_of.T1 : Bool × List (List Nat × List Nat) := (true, [([], []), ([0], [0]), ([], []), ([2], [2]), ([1, 3], [1, 3]), ([], []), ([5], [5]), ([6], [6]), ([7], [7]), ([4, 8], [4, 8]), ([9, 7, 0, 1, 2, 3, 4, 5, 6, 7, 8, 9], [9])])
def impl_Node_of.B1 : List Nat := [0, 1, 0, 4, 15, 0, 32, 96, 224, 511, 1023]
theorem impl_Node_of.tab1 : rtab .any (opsOf Try.f112 1) = impl_Node_of.T1 := by kernel_rfl
theorem impl_Node_of.bits1 : waitsOk impl_Node_of.T1.2 impl_Node_of.B1 = true := by kernel_rfl
theorem impl_Node_of.calls (k : Nat) (a0_0 : ByteArray) (a0_1 : Int) (a0_2 : Int) (a0_3 : Int) (r : List Int) (w : World) (h : impl_Node_of.f k a0_0 a0_1 a0_2 a0_3 = some r) :
  Calls Try.prog 112 #[.agg #[.string a0_0, .int .i64 a0_1, .int .i64 a0_2, .int .i64 a0_3]] w fun e w' => ∃ v0_ : Value, e = .returned (v0_) ∧ Kd.R (Kd.int .i64) 3 w' w.heap.size (fun _ => True) v0_ r ∧ Below w.heap.size w w' := by
 have hu54 := Try.underlying54
 have HB := Aside0.mk (Below.refl w.heap.size w)
 have H := h
 clear h
 unfold impl_Node_of.f at H
 obtain ⟨y399, hy399, H⟩ := lets H
 (try dsimp only at H)
 have Ny399 := Aside0.mk hy399
 clear hy399
 obtain ⟨t402, A2, H⟩ := ob H
 (try dsimp only at H)
 obtain ⟨ji3, hji3⟩ : ∃ j_ : Int, (mx t402 0) = j_ := ⟨_, rfl⟩
 replace H : (if 0 ≤ (ji3) then (if (ji3) ≤ (y399.length : Int) then (some (y399.take ((ji3) : Int).toNat)) else (none)) else (none)) = some r := by first | (rw [hji3] at H; exact H) | (simp only [hji3] at H ⊢; exact H)
 (try rw [hji3] at A2)
 (try (have hji3l : 0 ≤ ji3 := by (rw [← hji3]; unfold mx; (repeat' split) <;> omega)))
 (try (have hji3m : 0 ≤ ji3 := by omega))
 have hji3_ : (if t402 < 0 then 0 else t402) = ji3 := hji3
 obtain ⟨c4, H⟩ := ifs H
 have c4b0 := eq_true c4
 have c4b1 := decide_eq_true c4
 clear c4
 obtain ⟨c5, H⟩ := ifs H
 have c5b0 := eq_true c5
 have c5b1 := decide_eq_true c5
 clear c5
 obtain ⟨y403, hy403⟩ : ∃ y_ : List Int, y_ = (y399.take ((ji3) : Int).toNat) := ⟨_, rfl⟩
 replace H : (some y403) = some r := by first | (rw [hy403]; with_reducible exact H) | (have H2_ := (Option.bind_some _ _).symm.trans H; rw [hy403]; with_reducible exact H2_) | (have H2_ := (Option.bind_some _ _).symm.trans H; with_reducible exact H2_) | with_reducible exact H | (rw [hy403]; exact H) | exact H
 have Ny403 := Aside0.mk hy403
 clear hy403
 obtain rfl := Option.some.inj H
 go_enter Try.func112, Try.ntmps112
 try go_wp2_with (first | ((with_reducible refine gd 1 rfl ?_); refine bx 1 #[.string a0_0, .int .i64 a0_1, .int .i64 a0_2, .int .i64 a0_3] 54 ?_; intro gb398 hg w6 BK398 GW398 HB hb; have GE398 := GW398; clear hb hg))
 replace BK398 := Aside0.mk (blk_drew BK398.out); replace HB := Aside0.mk (below_drew1 HB.out)
 refine start_ (n := 11) (S := C4 gb398 (.string a0_0) (.int .i64 a0_1) (.int .i64 a0_2) (.int .i64 a0_3)) (ds := []) (mk 11 0) (by kernel_rfl) rfl (by kernel_rfl) (bc4 BK398.out) (fun hHeld => ?_); refine with_tabW impl_Node_of.tab1 impl_Node_of.bits1 (fun HT_ HW_ => ?_)
 generalize w6.drew = w7 at BK398 HB hHeld ⊢
 refine pu 0 3 11 1 rfl rfl ?_
 refine pu 2 5 11 5 rfl rfl ?_
 refine pu 5 8 11 37 rfl rfl ?_
 refine ta 1 4 11 39 rfl rfl ?_
 refine ta 3 6 11 47 rfl rfl ?_
 refine ta 6 9 11 111 rfl rfl ?_
 refine join_ (σ := Value) 2 #[true, true, true, true, true, true, true, true, true, false, false] (fun s_ => [(7, s_), (10, .int .i64 t402), (11, .int .i64 ji3)]) (fun s_ w' => (w'.cell? ⟨gb398, 0, none⟩ = some (.string a0_0) ∧ w'.cell? ⟨gb398, 1, none⟩ = some (.int .i64 a0_1) ∧ w'.cell? ⟨gb398, 2, none⟩ = some (.int .i64 a0_2) ∧ w'.cell? ⟨gb398, 3, none⟩ = some (.int .i64 a0_3)) ∧ (Kd.R (Kd.int .i64) 3 w' w.heap.size (fun _ => True) s_ y399) ∧ (w'.heap[gb398]? = some (.cells #[.string a0_0, .int .i64 a0_1, .int .i64 a0_2, .int .i64 a0_3] 54 (0, 0))) ∧ (Below w.heap.size w w')) ?_ ?_
 rotate_left
 ·intro hCont
  refine two_ (i := 4) (j := 7) (Ni := some 7) (Nj := some 10) #[true, true, true, true, true, true, true, false, false, false, false] #[true, true, true, true, false, true, true, true, false, false, false] rfl rfl rfl rfl (two_of HT_.out (by kernel_rfl)) (by decide) (by decide) (fun K hK => ?_) (fun K hK => ?_)
  ·skip
   refine lis 7 3 Ny399.out ?_
   intro v400 w8 ho9 hb
   have HO401 := Aside0.mk (Kd.R_lower ho9 (below_size BA)); replace BK398 := kb BK398 hb; replace HB := bs hb
   clear hb ho9
   refine hK.out _ _ (bc4 BK398.out) (fun hHeld => ?_)
   clear hK K
   refine nm 7 ?_
   refine one_ (i := 7) (N := some 10) (mk 11 255) rfl rfl (one_of HT_.out (by kernel_rfl)) (by decide) (fun K hK => ?_)
   refine goes_ Try.func100 (by kernel_rfl) rfl #[.string a0_0] (by rfl) rfl rfl (by (try simp only [List.map_toArray, List.map_cons, List.map_nil]); first | done | rfl | (simp only [List.length_drop, List.length_take]; rfl)) ?_
   with_reducible refine (impl_operands.calls k a0_0 t402 _ A2.out).mono ?_
   rintro e w10 ⟨rfl, hb⟩
   refine ⟨_, rfl, ?_⟩
   replace HO401 := Aside0.mk (Kd.R_below (rb HO401.out) hb); replace BK398 := kb BK398 hb; replace HB := bs hb
   (try clear hb)
   refine hK.out _ _ (bc4 BK398.out) (fun hHeld => ?_)
   clear hK K
   refine nm 10 ?_
   refine pu 8 11 11 511 rfl rfl ?_
   exact norm_ (by simp only [putAll, Act.put, List.setIfInBounds_toArray, List.set_cons_zero, List.set_cons_succ]) (hCont (v400) _ ⟨hHeld, (rb HO401.out), (bk BK398.out), BA⟩)
  ·skip
   refine goes_ Try.func100 (by kernel_rfl) rfl #[.string a0_0] (by rfl) rfl rfl (by (try simp only [List.map_toArray, List.map_cons, List.map_nil]); first | done | rfl | (simp only [List.length_drop, List.length_take]; rfl)) ?_
   with_reducible refine (impl_operands.calls k a0_0 t402 _ A2.out).mono ?_
   rintro e w8 ⟨rfl, hb⟩
   refine ⟨_, rfl, ?_⟩
   replace BK398 := kb BK398 hb; replace HB := bs hb
   (try clear hb)
   refine hK.out _ _ (bc4 BK398.out) (fun hHeld => ?_)
   clear hK K
   refine nm 10 ?_
   refine pu 8 11 11 495 rfl rfl ?_
   refine one_ (i := 4) (N := some 7) (mk 11 511) rfl rfl (one_of HT_.out (by kernel_rfl)) (by decide) (fun K hK => ?_)
   refine lis 7 3 Ny399.out ?_
   intro v400 w9 ho10 hb
   have HO401 := Aside0.mk (Kd.R_lower ho10 (below_size BA)); replace BK398 := kb BK398 hb; replace HB := bs hb
   clear hb ho10
   refine hK.out _ _ (bc4 BK398.out) (fun hHeld => ?_)
   clear hK K
   refine nm 7 ?_
   exact norm_ (by simp only [putAll, Act.put, List.setIfInBounds_toArray, List.set_cons_zero, List.set_cons_succ]) (hCont (v400) _ ⟨hHeld, (rb HO401.out), (bk BK398.out), BA⟩)
 rintro v400 w11 ⟨hS_, h0_, h1_, h2_⟩
 have n0_ : Aside0 (Kd.R (Kd.int .i64) 3 w11 w.heap.size (fun _ => True) v400 y399) := ⟨h0_⟩
 have n1_ : Aside0 (w11.heap[gb398]? = some (.cells #[.string a0_0, .int .i64 a0_1, .int .i64 a0_2, .int .i64 a0_3] 54 (0, 0))) := ⟨h1_⟩
 have n2_ : Aside0 (Below w.heap.size w w11) := ⟨h2_⟩
 clear BK398
 clear HB
 clear h0_ h1_ h2_
 have HO401 := n0_
 have BK398 := n1_
 have HB := n2_
 clear n0_ n1_ n2_
 have hHeld : w11.cell? ⟨gb398, 0, none⟩ = some (.string a0_0) ∧ w11.cell? ⟨gb398, 1, none⟩ = some (.int .i64 a0_1) ∧ w11.cell? ⟨gb398, 2, none⟩ = some (.int .i64 a0_2) ∧ w11.cell? ⟨gb398, 3, none⟩ = some (.int .i64 a0_3) := hS_
 obtain ⟨Ao12, co12, eo12⟩ := Kd.R_slice HO401.out
 (first | subst eo12 | (injection eo12 with f1_ f2_ f3_; have f4_ := f1_.symm; have f5_ := f3_.symm; clear f1_ f2_ f3_; subst f4_; subst f5_))
 have q13 : ((ji3) : Int) ≤ ((y399.length : Int) : Int) := DT
 obtain ⟨i013, hi013, _, hsz13, _⟩ := info_parts info3
 have hcut13 := cut_to (P := Try.prog) 30 3 .i64 Try.underlying30 hi013 Ao12 y399.length co12 (ji3) DT q13 (Kd.R_reads' HO401.out).2.1
 have hr13 := Kd.R_take (m := ((ji3) : Int).toNat) HO401.out (by omega)
 have hy13 : y403.length = ((ji3) : Int).toNat := (by rw [Ny403.out, List.length_take]; omega)
 rw [← Ny403.out] at hr13
 rw [← hy13] at hr13 hcut13
 clear hy13 hi013 hsz13 HO401
 have HO405 := Aside0.mk hr13
 clear hr13
 replace q13 := eq_true q13
 refine norm_ (a' := ?_) ?_ ?_
 rotate_left
 ·simp only [putAll, Act.put, List.setIfInBounds_toArray, List.set_cons_zero, List.set_cons_succ]
  rfl
 refine pu 9 12 11 1023 rfl rfl ?_
 refine pu 10 2 11 2047 rfl rfl ?_
 refine done_ (done_of HT_.out (by kernel_rfl)) ?_
 try go_wp2
 go_ret
 exact ⟨_, by first | rfl | (simp [errW_none, errW_some] <;> rfl) | (simp only [← hji3]; first | rfl | (simp [errW_none, errW_some] <;> rfl)) | (simp [*, errW_none, errW_some] <;> rfl), rb HO405.out, BA⟩

/-! ### impl_uses: function 89 -/
mutual
def impl_uses.l0 : Nat → List Int → List (S54) → Int → Int → Option (List Int)
 | 0, _, _, _, _ => none
 | k + 1, x3, x11, x12, x13 => if x13 < x12 then (if 0 ≤ x13 then (if x13 < (x11.length : Int) then ((impl_Node_of.f k ((rd_T54 x11 x13).f0) ((rd_T54 x11 x13).f1) ((rd_T54 x11 x13).f2) ((rd_T54 x11 x13).f3)).bind fun t411 => (impl_uses.l1 k x3 x11 x12 x13 t411 (t411.length : Int) 0)) else (none)) else (none)) else (some x3)
def impl_uses.l1 : Nat → List Int → List (S54) → Int → Int → List Int → Int → Int → Option (List Int)
 | 0, _, _, _, _, _, _, _ => none
 | k + 1, x3, x11, x12, x13, x18, x19, x20 => if x20 < x19 then (if 0 ≤ x20 then (if x20 < (x18.length : Int) then (if 0 ≤ (rd x18 x20) then (if (rd x18 x20) < (x3.length : Int) then (impl_uses.l1 k (x3.set ((rd x18 x20) : Int).toNat (wrap64 ((rd x3 (rd x18 x20)) + 1))) x11 x12 x13 x18 x19 (wrap64 (x20 + 1))) else (none)) else (none)) else (none)) else (none)) else (impl_uses.l0 k x3 x11 x12 (wrap64 (x13 + 1)))
end
def impl_uses.f (k : Nat) (l0 : List (S54)) : Option (List Int) := if 0 ≤ (l0.length : Int) then (if ((l0.length : Int) : Int).toNat ≤ 35184372088832 then (impl_uses.l0 k (List.replicate ((l0.length : Int) : Int).toNat 0) l0 (l0.length : Int) 0) else (none)) else (none)
theorem impl_uses.calls (k : Nat) (A0 : Option Addr) (c0 : Nat) (l0 : List (S54)) (r : List Int) (w : World) (hr0 : Kd.C k54 w A0 l0.length l0) (hc0 : l0.length ≤ c0) (h : impl_uses.f k l0 = some r) :
  Calls Try.prog 89 #[.slice A0 l0.length c0] w fun e w' => ∃ v0_ : Value, e = .returned (v0_) ∧ Kd.R (Kd.int .i64) 3 w' w.heap.size (fun _ => True) v0_ r ∧ Below w.heap.size w w' := by
 have hu54 := Try.underlying54
 have HR0 := Aside0.mk hr0
 have HC0 := Aside0.mk hc0
 clear hr0 hc0
 have HB := Aside0.mk (Below.refl w.heap.size w)
 have H := h
 clear h
 unfold impl_uses.f at H
 obtain ⟨c2, H⟩ := ifs H
 have c2b0 := eq_true c2
 have c2b1 := decide_eq_true c2
 clear c2
 obtain ⟨c3, H⟩ := ifs H
 have c3b0 := eq_true c3
 have c3b1 := decide_eq_true c3
 clear c3
 obtain ⟨y406, hy406⟩ : ∃ y_ : List Int, y_ = (List.replicate ((l0.length : Int) : Int).toNat 0) := ⟨_, rfl⟩
 replace H : (impl_uses.l0 k y406 l0 (l0.length : Int) 0) = some r := by first | (rw [hy406]; with_reducible exact H) | (have H2_ := (Option.bind_some _ _).symm.trans H; rw [hy406]; with_reducible exact H2_) | (have H2_ := (Option.bind_some _ _).symm.trans H; with_reducible exact H2_) | with_reducible exact H | (rw [hy406]; exact H) | exact H
 have Ny406 := Aside0.mk hy406
 clear hy406
 have H' := Aside0.mk H
 clear H
 go_enter Try.func89, Try.ntmps89
 go_wp2_with (first | ((with_reducible refine gate_dst (N := 10) rfl ?_); refine Kd.R_make (Kd.int .i64) _ 3 rfl (N := 10) rfl 30 _ _ rfl (l0.length : Int) rfl rfl Try.underlying30 (.int .i64 0) 8 info3 rfl (by decide) (by omega) 0 (ok := fun _ => True) (okp := fun _ => True) rfl (fun _ hk => hk) trivial DT (Nat.le_trans (Nat.mul_le_mul_right _ (DT : (l0.length : Int).toNat ≤ 35184372088832)) (by omega)) (Below.refl _ _) (Nat.le_refl _) ?_; intro v407 w4 ho5 hb hg_ hnew_; clear hg_ hnew_; (first | rw [← Ny406.out] at ho5 | (simp only [Int.reduceToNat] at ho5; rw [← Ny406.out] at ho5)); have HO408 := Aside0.mk (Kd.R_lower ho5 (below_size BA)); replace HB := bs hb; clear hb ho5))
 go_loopg [13] k (fun kq v13 w' => ∃ (x3_1 : List Int) (x13_1 : Int), v13 = .int .i64 x13_1 ∧ Aside0 (impl_uses.l0 kq x3_1 l0 (l0.length : Int) x13_1 = some r) ∧ Aside0 (kq ≤ k) ∧ Aside0 (Kd.R (Kd.int .i64) 3 w' w.heap.size (fun _ => True) v407 x3_1) ∧ Aside0 (Below w.heap.size w w'))
 case atStart => exact ⟨(y406), (0), EQ1, H', ⟨Nat.le_refl _⟩, ⟨rb HO408.out⟩, ⟨BA⟩⟩
 case round =>
  clear H'
  (try clear c2b0); (try clear c2b1); (try clear c3b0); (try clear c3b1)
  obtain ⟨x3_1, x13_1, rfl, HA, HK1, HO_3, HB⟩ := hrel
  cases gk with
  | zero => exact absurd HA.out (by simp [impl_uses.l0])
  | succ k1 =>
   have H := HA.out
   clear HA
   simp only [impl_uses.l0] at H
   by_cases c6 : x13_1 < (l0.length : Int)
   ·rw [if_pos c6] at H
    have c6b0 := decide_eq_true c6
    clear c6
    obtain ⟨c7, H⟩ := ifs H
    have c7b0 := decide_eq_true c7
    clear c7
    obtain ⟨c8, H⟩ := ifs H
    have c8b0 := decide_eq_true c8
    clear c8
    obtain ⟨t411, A9, H⟩ := ob H
    (try dsimp only at H)
    have H' := Aside0.mk H
    clear H
    have p409 : 0 ≤ (x13_1 : Int) := DT
    have q409 : x13_1 < (l0.length : Int) := DT
    obtain ⟨ad409, e409, hx409_0, hx409_1, hx409_2, hx409_3⟩ := at_T54 (Kd.C_below HR0.out HB.out) x13_1 p409 q409
    cases e409
    replace p409 := eq_true p409
    replace q409 := eq_true q409
    go_wp2_with (first | ((with_reducible refine gd 5 rfl ?_); refine bx 5 #[.string (⟨#[]⟩ : ByteArray), .int .i64 0, .int .i64 0, .int .i64 0] 54 ?_; intro gb410 hg w10 BK410 GW410 HB hb; replace HO_3 := Aside0.mk (Kd.R_below (rb HO_3.out) hb); have GE410 := GW410; clear hb hg; obtain ⟨hcz11_0, hcz11_1, hcz11_2, hcz11_3⟩ := bc4 BK410.out; have hfz11 := blk_frozen BK410.out) | ((with_reducible refine gate_callee (f := 112) rfl ?_); refine gK (some 18) Try.func112 #[.agg #[.string ((rd_T54 l0 x13_1).f0), .int .i64 ((rd_T54 l0 x13_1).f1), .int .i64 ((rd_T54 l0 x13_1).f2), .int .i64 ((rd_T54 l0 x13_1).f3)]] rfl rfl rfl ?_; (with_reducible refine (impl_Node_of.calls k1 ((rd_T54 l0 x13_1).f0) ((rd_T54 l0 x13_1).f1) ((rd_T54 l0 x13_1).f2) ((rd_T54 l0 x13_1).f3) t411 _ A9.out).mono ?_); rintro e w12 ⟨v412, rfl, ho0, hb⟩; refine ⟨_, rfl, ?_⟩; have HO413 := Aside0.mk (Kd.R_lower (Kd.R_new' ho0 (Kd.R_lt (rb (Kd.R_mono (Kd.R_far (p := ⟨gb410, 3, none⟩) (Kd.R_far (p := ⟨gb410, 2, none⟩) (Kd.R_far (p := ⟨gb410, 1, none⟩) (Kd.R_far (p := ⟨gb410, 0, none⟩) (Kd.R_types HO_3.out BK410.out (by decide)) (fun _ hk => hk.2) (.string ((rd_T54 l0 x13_1).f0))) (fun _ hk => hk.2) (.int .i64 ((rd_T54 l0 x13_1).f1))) (fun _ hk => hk.2) (.int .i64 ((rd_T54 l0 x13_1).f2))) (fun _ hk => hk.2) (.int .i64 ((rd_T54 l0 x13_1).f3))) (fun _ h_ => h_.1))))) (below_size BA)); replace HO_3 := Aside0.mk (Kd.R_elder' (rb (Kd.R_mono (Kd.R_far (p := ⟨gb410, 3, none⟩) (Kd.R_far (p := ⟨gb410, 2, none⟩) (Kd.R_far (p := ⟨gb410, 1, none⟩) (Kd.R_far (p := ⟨gb410, 0, none⟩) (Kd.R_types HO_3.out BK410.out (by decide)) (fun _ hk => hk.2) (.string ((rd_T54 l0 x13_1).f0))) (fun _ hk => hk.2) (.int .i64 ((rd_T54 l0 x13_1).f1))) (fun _ hk => hk.2) (.int .i64 ((rd_T54 l0 x13_1).f2))) (fun _ hk => hk.2) (.int .i64 ((rd_T54 l0 x13_1).f3))) (fun _ h_ => h_.1))) (Kd.R_base ho0) hb); replace BK410 := Aside0.mk (blk_below (g := gb410) (o := .cells #[.string ((rd_T54 l0 x13_1).f0), .int .i64 ((rd_T54 l0 x13_1).f1), .int .i64 ((rd_T54 l0 x13_1).f2), .int .i64 ((rd_T54 l0 x13_1).f3)] 54 (0, 0)) (bq BK410.out) hb); replace HB := bs hb; (try clear hb); (try clear ho0); obtain ⟨Ao13, co13, eo13⟩ := Kd.R_slice HO413.out; subst eo13))
    go_loopg [20] k1 (fun kq v20 w' => ∃ (x3_2 : List Int) (x20_2 : Int), v20 = .int .i64 x20_2 ∧ Aside0 (impl_uses.l1 kq x3_2 l0 (l0.length : Int) x13_1 t411 (t411.length : Int) x20_2 = some r) ∧ Aside0 (kq ≤ k1) ∧ Aside0 (Kd.R (Kd.int .i64) 3 w' w.heap.size (fun k_ => some k_ ≠ ((.slice Ao13 t411.length co13) : Value).ownBlock) v407 x3_2) ∧ Aside0 (Kd.R (Kd.int .i64) 3 w' w.heap.size (fun k_ => some k_ ≠ (v407 : Value).ownBlock) (.slice Ao13 t411.length co13) t411) ∧ Aside0 (w'.heap[gb410]? = some (.cells #[.string ((rd_T54 l0 x13_1).f0), .int .i64 ((rd_T54 l0 x13_1).f1), .int .i64 ((rd_T54 l0 x13_1).f2), .int .i64 ((rd_T54 l0 x13_1).f3)] 54 (0, 0))) ∧ Aside0 (Below w.heap.size w w'))
    case atStart => exact ⟨(x3_1), (0), EQ1, H', ⟨Nat.le_refl _⟩, ⟨rb (Kd.R_mono HO_3.out (fun _ hk => hk.2))⟩, ⟨rb (Kd.R_mono HO413.out (fun _ hk => hk.2))⟩, ⟨by (with_reducible repeat (first | refine blk_drewN ?_ _ | refine blk_drew ?_ | refine blk_alloc ?_ _)); exact BK410.out⟩, ⟨BA⟩⟩
    case round =>
     clear H'
     (try clear c2b0); (try clear c2b1); (try clear c3b0); (try clear c3b1); (try clear c6b0); (try clear c7b0); (try clear c8b0); (try clear hcz11_0); (try clear hcz11_1); (try clear hcz11_2); (try clear hcz11_3); (try clear hx409_0); (try clear hx409_1); (try clear hx409_2); (try clear hx409_3); (try clear p409); (try clear q409)
     obtain ⟨x3_2, x20_2, rfl, HA, HK2, HO_3, HO_18, BK410, HB⟩ := hrel
     cases gk with
     | zero => exact absurd HA.out (by simp [impl_uses.l1])
     | succ k2 =>
      have H := HA.out
      clear HA
      simp only [impl_uses.l1] at H
      by_cases c14 : x20_2 < (t411.length : Int)
      ·rw [if_pos c14] at H
       have c14b0 := decide_eq_true c14
       clear c14
       obtain ⟨c15, H⟩ := ifs H
       have c15b0 := decide_eq_true c15
       clear c15
       obtain ⟨c16, H⟩ := ifs H
       have c16b0 := decide_eq_true c16
       clear c16
       obtain ⟨c17, H⟩ := ifs H
       have c17b0 := decide_eq_true c17
       clear c17
       obtain ⟨c18, H⟩ := ifs H
       have c18b0 := decide_eq_true c18
       clear c18
       obtain ⟨y416, hy416⟩ : ∃ y_ : List Int, y_ = (x3_2.set ((rd t411 x20_2) : Int).toNat (wrap64 ((rd x3_2 (rd t411 x20_2)) + 1))) := ⟨_, rfl⟩
       replace H : (impl_uses.l1 k2 y416 l0 (l0.length : Int) x13_1 t411 (t411.length : Int) (wrap64 (x20_2 + 1))) = some r := by first | (rw [hy416]; with_reducible exact H) | (have H2_ := (Option.bind_some _ _).symm.trans H; rw [hy416]; with_reducible exact H2_) | (have H2_ := (Option.bind_some _ _).symm.trans H; with_reducible exact H2_) | with_reducible exact H | (rw [hy416]; exact H) | exact H
       have Ny416 := Aside0.mk hy416
       clear hy416
       have H' := Aside0.mk H
       clear H
       have p414 : 0 ≤ (x20_2 : Int) := DT
       have q414 : x20_2 < (t411.length : Int) := DT
       obtain ⟨ad414, e414, hx414_0⟩ := Kd.at_int (Kd.R_reads' HO_18.out).2.2 x20_2 p414 q414
       cases e414
       replace p414 := eq_true p414
       replace q414 := eq_true q414
       obtain ⟨Ao20, co20, eo20⟩ := Kd.R_slice HO_3.out
       subst eo20
       have p415 : 0 ≤ ((rd t411 x20_2) : Int) := DT
       have q415 : (rd t411 x20_2) < (x3_2.length : Int) := DT
       obtain ⟨ad415, e415, hx415_0⟩ := Kd.at_int (Kd.R_reads' HO_3.out).2.2 (rd t411 x20_2) p415 q415
       cases e415
       replace p415 := eq_true p415
       replace q415 := eq_true q415
       have p19 : 0 ≤ ((rd t411 x20_2) : Int) := DT
       have q19 : ((rd t411 x20_2) : Int) < ((x3_2.length : Int) : Int) := DT
       obtain ⟨go19, co19, eo19, gb19, gl19, cl19, HG19⟩ := Kd.R_form HO_3.out (by omega)
       (first | cases eo19 | (injection eo19 with ea_ en_ ec_; (first | subst ea_ | (injection ea_ with ea_; subst ea_)); subst ec_; clear en_))
       have GB19 := Aside0.mk gb19
       have GG19 := Aside0.mk HG19
       clear gb19 gl19 HG19
       (first | simp only [add_plain] at hx415_0 | skip)
       obtain ⟨hx19_0, hf19_0⟩ := Kd.R_celln 0 HO_3.out ((rd t411 x20_2) : Int) p19 q19
       replace p19 := eq_true p19
       replace q19 := eq_true q19
       have HP21 := Kd.R_putg HO_3.out ((rd t411 x20_2) : Int) (wrap64 ((rd x3_2 (rd t411 x20_2)) + 1))
       go_wp2_with (first | ((with_reducible refine gate_store (t := 3) (p := 29) rfl ?_); refine store_event (t := 3) (p := 29) (v := ?vo_w22) (w1 := (wr.setCell ⟨go19, ((rd t411 x20_2) : Int).toNat, none⟩ (.int .i64 (wrap64 ((rd x3_2 (rd t411 x20_2)) + 1))))) ?hg ?ho ?hn ?hr ?_; (case ho => rfl); (case hg => rfl); (case hn => rfl); (case hr => first | (go_simp; done) | (go_simp; rfl)); intro w22 hw; have hg : wr.grownBy w22 (some go19) := (by rw [hw]; exact HP21.2); have hp_ : Kd.R (Kd.int .i64) 3 w22 w.heap.size (fun k_ => some k_ ≠ (.slice (some ad414) t411.length co13 : Value).ownBlock) (.slice (some ⟨go19, 0, none⟩) x3_2.length co20) y416 := (by rw [hw, Ny416.out]; exact HP21.1); clear HP21; replace HO_18 := Aside0.mk (Kd.R_after (v := (.slice (some ⟨go19, 0, none⟩) x3_2.length co20)) (v1 := (.slice (some ⟨go19, 0, none⟩) x3_2.length co20)) (ok := (fun _ => True)) (rb (Kd.R_mono HO_18.out (fun _ hk => ⟨trivial, hk⟩))) hg (.inl rfl)); replace BK410 := Aside0.mk (blk_grown (g := gb410) (o := .cells #[.string ((rd_T54 l0 x13_1).f0), .int .i64 ((rd_T54 l0 x13_1).f1), .int .i64 ((rd_T54 l0 x13_1).f2), .int .i64 ((rd_T54 l0 x13_1).f3)] 54 (0, 0)) (bk BK410.out) hg (Kd.R_ne HO_3.out BK410.out (by decide))); replace HO_3 := Aside0.mk (hp_); replace HB := Aside0.mk ((by rw [hw]; exact below_set (HB.out) GB19.out : Below w.heap.size w w22)); clear hg hw hp_))
       go_roundg k2
       case measure => have := HK1.out; have := HK2.out; omega
       case rel => exact ⟨(y416), (wrap64 (x20_2 + 1)), EQ1, H', ⟨by have := HK1.out; have := HK2.out; omega⟩, ⟨rb HO_3.out⟩, ⟨rb (Kd.R_mono HO_18.out (fun _ hk => hk.2))⟩, ⟨by (with_reducible repeat (first | refine blk_drewN ?_ _ | refine blk_drew ?_ | refine blk_alloc ?_ _)); exact BK410.out⟩, ⟨BA⟩⟩
      ·rw [if_neg c14] at H
       have c14b0 := decide_eq_false c14
       clear c14
       have H' := Aside0.mk H
       clear H
       go_wp2
       go_roundg k2
       case measure => have := HK1.out; have := HK2.out; omega
       case rel => exact ⟨(x3_2), (wrap64 (x13_1 + 1)), EQ1, H', ⟨by have := HK1.out; have := HK2.out; omega⟩, ⟨rb (Kd.R_mono HO_3.out (fun _ hk => trivial))⟩, ⟨BA⟩⟩
   ·rw [if_neg c6] at H
    have c6b0 := decide_eq_false c6
    clear c6
    obtain rfl := Option.some.inj H
    go_wp2
    go_ret
    exact ⟨_, EQ, rb HO_3.out, BA⟩

/-! ### impl_isWord: function 121 -/
def impl_isWord.f (a0 : Int) : Option (Bool) := (impl_within.f a0 0 63).bind fun t417 => (some t417)
theorem impl_isWord.calls (a0 : Int) (r : Bool) (w : World) (h : impl_isWord.f a0 = some r) :
  Calls Try.prog 121 #[.int .i64 a0] w fun e w' => e = .returned (.bool r) ∧ Drawn0 w w' := by
 have H := h
 clear h
 unfold impl_isWord.f at H
 obtain ⟨t417, A2, H⟩ := ob H
 (try dsimp only at H)
 obtain rfl := Option.some.inj H
 go_enter Try.func121, Try.ntmps121
 go_wp2_with (first | ((with_reducible refine gate_callee (f := 59) rfl ?_); refine gK (some 4) Try.func59 #[.int .i64 a0, .int .i64 0, .int .i64 63] rfl rfl rfl ?_; (with_reducible refine (impl_within.calls a0 0 63 t417 _ A2.out).mono ?_); rintro e w' ⟨rfl, ⟨nd, rfl⟩⟩; refine ⟨_, rfl, ?_⟩))
 go_ret
 exact ⟨EQ1, DA⟩

/-! ### impl_Node_isNode: function 109 -/
def impl_Node_isNode.l0 : Nat → Int → Int → List Int → Int → Int → ByteArray → Int → Int → Int → Option (Bool)
 | 0, _, _, _, _, _, _, _, _, _ => none
 | k + 1, x1, x5, x15, x16, x17, x419000, x419001, x419002, x419003 => if x17 < x16 then (if 0 ≤ x17 then (if x17 < (x15.length : Int) then (if x17 < x5 then ((impl_within.f (rd x15 x17) 0 (wrap64 (x1 - 1))).bind fun t424 => (if t424 = true then (if x17 ≥ x5 then (if (rd x15 x17) = 0 then (impl_Node_isNode.l0 k x1 x5 x15 x16 (wrap64 (x17 + 1)) x419000 x419001 x419002 x419003) else (some false)) else (impl_Node_isNode.l0 k x1 x5 x15 x16 (wrap64 (x17 + 1)) x419000 x419001 x419002 x419003)) else (some false))) else (if x17 ≥ x5 then (if (rd x15 x17) = 0 then (impl_Node_isNode.l0 k x1 x5 x15 x16 (wrap64 (x17 + 1)) x419000 x419001 x419002 x419003) else (some false)) else (impl_Node_isNode.l0 k x1 x5 x15 x16 (wrap64 (x17 + 1)) x419000 x419001 x419002 x419003))) else (none)) else (none)) else (if x419000.toList = ([105, 110] : List UInt8) then ((impl_within.f x419003 0 1).bind fun t425 => (some t425)) else (if x419000.toList = ([99, 111, 110, 115, 116] : List UInt8) then ((impl_isWord.f x419003).bind fun t426 => (some t426)) else (if x5 > 0 then (some (x419003 == 0)) else (some false))))
def impl_Node_isNode.f (k : Nat) (a0_0 : ByteArray) (a0_1 : Int) (a0_2 : Int) (a0_3 : Int) (a1 : Int) : Option (Bool) := (impl_operands.f k a0_0).bind fun t419 => ((some (([a0_1, a0_2] : List Int) : List Int)).bind fun y420 => (impl_Node_isNode.l0 k a1 t419 y420 (y420.length : Int) 0 a0_0 a0_1 a0_2 a0_3))
theorem impl_Node_isNode.calls (k : Nat) (a0_0 : ByteArray) (a0_1 : Int) (a0_2 : Int) (a0_3 : Int) (a1 : Int) (r : Bool) (w : World) (h : impl_Node_isNode.f k a0_0 a0_1 a0_2 a0_3 a1 = some r) :
  Calls Try.prog 109 #[.agg #[.string a0_0, .int .i64 a0_1, .int .i64 a0_2, .int .i64 a0_3], .int .i64 a1] w fun e w' => e = .returned (.bool r) ∧ Below w.heap.size w w' := by
 have hu54 := Try.underlying54
 have HB := Aside0.mk (Below.refl w.heap.size w)
 have H := h
 clear h
 unfold impl_Node_isNode.f at H
 obtain ⟨t419, A3, H⟩ := ob H
 (try dsimp only at H)
 obtain ⟨y420, hy420, H⟩ := lets H
 (try dsimp only at H)
 have Ny420 := Aside0.mk hy420
 clear hy420
 have H' := Aside0.mk H
 clear H
 go_enter Try.func109, Try.ntmps109
 go_wp2_with (first | ((with_reducible refine gd 2 rfl ?_); refine bx 2 #[.string a0_0, .int .i64 a0_1, .int .i64 a0_2, .int .i64 a0_3] 54 ?_; intro gb418 hg w4 BK418 GW418 HB hb; have GE418 := GW418; clear hb hg; obtain ⟨hcz5_0, hcz5_1, hcz5_2, hcz5_3⟩ := bc4 BK418.out; have hfz5 := blk_frozen BK418.out) | ((with_reducible refine gate_callee (f := 100) rfl ?_); refine gK (some 10) Try.func100 #[.string a0_0] rfl rfl rfl ?_; (with_reducible refine (impl_operands.calls k a0_0 t419 _ A3.out).mono ?_); rintro e w6 ⟨rfl, hb⟩; refine ⟨_, rfl, ?_⟩; replace BK418 := kb BK418 hb; replace HB := bs hb; (try clear hb); obtain ⟨hcz7_0, hcz7_1, hcz7_2, hcz7_3⟩ := bc4 BK418.out; have hfz7 := blk_frozen BK418.out) | ((with_reducible refine gate_dst (N := 15) rfl ?_); refine li 15 3 Ny420.out ?_; intro v421 w8 ho9 hb; have HO422 := Aside0.mk (Kd.R_lower ho9 (below_size BA)); replace BK418 := kb BK418 hb; replace HB := bs hb; clear hb ho9; obtain ⟨Ao10, co10, eo10⟩ := Kd.R_slice HO422.out; subst eo10))
 go_loopg [17] k (fun kq v17 w' => ∃ (x17_1 : Int), v17 = .int .i64 x17_1 ∧ Aside0 (impl_Node_isNode.l0 kq a1 t419 y420 (y420.length : Int) x17_1 a0_0 a0_1 a0_2 a0_3 = some r) ∧ Aside0 (kq ≤ k) ∧ Aside0 (Kd.R (Kd.int .i64) 3 w' w.heap.size (fun _ => True) (.slice Ao10 y420.length co10) y420) ∧ Aside0 (w'.heap[gb418]? = some (.cells #[.string a0_0, .int .i64 a0_1, .int .i64 a0_2, .int .i64 a0_3] 54 (0, 0))) ∧ Aside0 (Below w.heap.size w w'))
 case atStart => exact ⟨(0), EQ1, H', ⟨Nat.le_refl _⟩, ⟨rb HO422.out⟩, ⟨by (with_reducible repeat (first | refine blk_drewN ?_ _ | refine blk_drew ?_ | refine blk_alloc ?_ _)); exact BK418.out⟩, ⟨BA⟩⟩
 case round =>
  clear H'
  (try clear hcz5_0); (try clear hcz5_1); (try clear hcz5_2); (try clear hcz5_3); (try clear hcz7_0); (try clear hcz7_1); (try clear hcz7_2); (try clear hcz7_3)
  obtain ⟨x17_1, rfl, HA, HK1, HO_15, BK418, HB⟩ := hrel
  cases gk with
  | zero => exact absurd HA.out (by simp [impl_Node_isNode.l0])
  | succ k1 =>
   have H := HA.out
   clear HA
   simp only [impl_Node_isNode.l0] at H
   by_cases c11 : x17_1 < (y420.length : Int)
   ·rw [if_pos c11] at H
    have c11b0 := decide_eq_true c11
    clear c11
    obtain ⟨c12, H⟩ := ifs H
    have c12b0 := decide_eq_true c12
    clear c12
    obtain ⟨c13, H⟩ := ifs H
    have c13b0 := decide_eq_true c13
    clear c13
    by_cases c14 : x17_1 < t419
    ·rw [if_pos c14] at H
     have c14b0 := decide_eq_true c14
     clear c14
     obtain ⟨t424, A15, H⟩ := ob H
     (try dsimp only at H)
     by_cases c16 : t424 = true
     ·subst c16
      rw [if_pos rfl] at H
      by_cases c17 : x17_1 ≥ t419
      ·rw [if_pos c17] at H
       have c17b0 := decide_eq_true c17
       clear c17
       by_cases c18 : (rd y420 x17_1) = 0
       ·rw [if_pos c18] at H
        have c18b0 := beq_iff_eq.mpr c18
        have c18b1 := bne_eq_false_iff_eq.mpr c18
        clear c18
        have H' := Aside0.mk H
        clear H
        have p423 : 0 ≤ (x17_1 : Int) := DT
        have q423 : x17_1 < (y420.length : Int) := DT
        obtain ⟨ad423, e423, hx423_0⟩ := Kd.at_int (Kd.R_reads' HO_15.out).2.2 x17_1 p423 q423
        cases e423
        replace p423 := eq_true p423
        replace q423 := eq_true q423
        go_wp2_with (first | (go_at_call 59; (with_reducible refine (impl_within.calls (rd y420 x17_1) 0 (wrap64 (a1 - 1)) true _ A15.out).mono ?_); rintro e w' ⟨rfl, ⟨nd, rfl⟩⟩))
        go_roundg k1
        case measure => have := HK1.out; omega
        case rel => exact ⟨(wrap64 (x17_1 + 1)), EQ1, H', ⟨by have := HK1.out; omega⟩, ⟨rb HO_15.out⟩, ⟨by (with_reducible repeat (first | refine blk_drewN ?_ _ | refine blk_drew ?_ | refine blk_alloc ?_ _)); exact BK418.out⟩, ⟨BA⟩⟩
       ·rw [if_neg c18] at H
        have c18b0 := beq_eq_false_iff_ne.mpr c18
        have c18b1 := bne_iff_ne.mpr c18
        obtain rfl := Option.some.inj H
        have p423 : 0 ≤ (x17_1 : Int) := DT
        have q423 : x17_1 < (y420.length : Int) := DT
        obtain ⟨ad423, e423, hx423_0⟩ := Kd.at_int (Kd.R_reads' HO_15.out).2.2 x17_1 p423 q423
        cases e423
        replace p423 := eq_true p423
        replace q423 := eq_true q423
        go_wp2_with (first | (go_at_call 59; (with_reducible refine (impl_within.calls (rd y420 x17_1) 0 (wrap64 (a1 - 1)) true _ A15.out).mono ?_); rintro e w' ⟨rfl, ⟨nd, rfl⟩⟩))
        go_ret
        exact ⟨EQ, BA⟩
      ·rw [if_neg c17] at H
       have c17b0 := decide_eq_false c17
       clear c17
       have H' := Aside0.mk H
       clear H
       have p423 : 0 ≤ (x17_1 : Int) := DT
       have q423 : x17_1 < (y420.length : Int) := DT
       obtain ⟨ad423, e423, hx423_0⟩ := Kd.at_int (Kd.R_reads' HO_15.out).2.2 x17_1 p423 q423
       cases e423
       replace p423 := eq_true p423
       replace q423 := eq_true q423
       go_wp2_with (first | (go_at_call 59; (with_reducible refine (impl_within.calls (rd y420 x17_1) 0 (wrap64 (a1 - 1)) true _ A15.out).mono ?_); rintro e w' ⟨rfl, ⟨nd, rfl⟩⟩))
       go_roundg k1
       case measure => have := HK1.out; omega
       case rel => exact ⟨(wrap64 (x17_1 + 1)), EQ1, H', ⟨by have := HK1.out; omega⟩, ⟨rb HO_15.out⟩, ⟨by (with_reducible repeat (first | refine blk_drewN ?_ _ | refine blk_drew ?_ | refine blk_alloc ?_ _)); exact BK418.out⟩, ⟨BA⟩⟩
     ·replace c16 := Bool.eq_false_iff.mpr c16
      subst c16
      rw [if_neg (show ¬ (false = true) by decide)] at H
      obtain rfl := Option.some.inj H
      have p423 : 0 ≤ (x17_1 : Int) := DT
      have q423 : x17_1 < (y420.length : Int) := DT
      obtain ⟨ad423, e423, hx423_0⟩ := Kd.at_int (Kd.R_reads' HO_15.out).2.2 x17_1 p423 q423
      cases e423
      replace p423 := eq_true p423
      replace q423 := eq_true q423
      go_wp2_with (first | (go_at_call 59; (with_reducible refine (impl_within.calls (rd y420 x17_1) 0 (wrap64 (a1 - 1)) false _ A15.out).mono ?_); rintro e w' ⟨rfl, ⟨nd, rfl⟩⟩))
      go_ret
      exact ⟨EQ, BA⟩
    ·rw [if_neg c14] at H
     have c14b0 := decide_eq_false c14
     clear c14
     by_cases c19 : x17_1 ≥ t419
     ·rw [if_pos c19] at H
      have c19b0 := decide_eq_true c19
      clear c19
      by_cases c20 : (rd y420 x17_1) = 0
      ·rw [if_pos c20] at H
       have c20b0 := beq_iff_eq.mpr c20
       have c20b1 := bne_eq_false_iff_eq.mpr c20
       clear c20
       have H' := Aside0.mk H
       clear H
       have p423 : 0 ≤ (x17_1 : Int) := DT
       have q423 : x17_1 < (y420.length : Int) := DT
       obtain ⟨ad423, e423, hx423_0⟩ := Kd.at_int (Kd.R_reads' HO_15.out).2.2 x17_1 p423 q423
       cases e423
       replace p423 := eq_true p423
       replace q423 := eq_true q423
       go_wp2
       go_roundg k1
       case measure => have := HK1.out; omega
       case rel => exact ⟨(wrap64 (x17_1 + 1)), EQ1, H', ⟨by have := HK1.out; omega⟩, ⟨rb HO_15.out⟩, ⟨by (with_reducible repeat (first | refine blk_drewN ?_ _ | refine blk_drew ?_ | refine blk_alloc ?_ _)); exact BK418.out⟩, ⟨BA⟩⟩
      ·rw [if_neg c20] at H
       have c20b0 := beq_eq_false_iff_ne.mpr c20
       have c20b1 := bne_iff_ne.mpr c20
       obtain rfl := Option.some.inj H
       have p423 : 0 ≤ (x17_1 : Int) := DT
       have q423 : x17_1 < (y420.length : Int) := DT
       obtain ⟨ad423, e423, hx423_0⟩ := Kd.at_int (Kd.R_reads' HO_15.out).2.2 x17_1 p423 q423
       cases e423
       replace p423 := eq_true p423
       replace q423 := eq_true q423
       go_wp2
       go_ret
       exact ⟨EQ, BA⟩
     ·rw [if_neg c19] at H
      have c19b0 := decide_eq_false c19
      clear c19
      have H' := Aside0.mk H
      clear H
      have p423 : 0 ≤ (x17_1 : Int) := DT
      have q423 : x17_1 < (y420.length : Int) := DT
      obtain ⟨ad423, e423, hx423_0⟩ := Kd.at_int (Kd.R_reads' HO_15.out).2.2 x17_1 p423 q423
      cases e423
      replace p423 := eq_true p423
      replace q423 := eq_true q423
      go_wp2
      go_roundg k1
      case measure => have := HK1.out; omega
      case rel => exact ⟨(wrap64 (x17_1 + 1)), EQ1, H', ⟨by have := HK1.out; omega⟩, ⟨rb HO_15.out⟩, ⟨by (with_reducible repeat (first | refine blk_drewN ?_ _ | refine blk_drew ?_ | refine blk_alloc ?_ _)); exact BK418.out⟩, ⟨BA⟩⟩
   ·rw [if_neg c11] at H
    have c11b0 := decide_eq_false c11
    clear c11
    by_cases c21 : a0_0.toList = ([105, 110] : List UInt8)
    ·rw [if_pos c21] at H
     have c21b0 := beq_iff_eq.mpr c21
     have c21b1 := bne_eq_false_iff_eq.mpr c21
     clear c21
     obtain ⟨t425, A22, H⟩ := ob H
     (try dsimp only at H)
     obtain rfl := Option.some.inj H
     obtain ⟨hcz23_0, hcz23_1, hcz23_2, hcz23_3⟩ := bc4 BK418.out
     have hfz23 := blk_frozen BK418.out
     have hfz23_1 := blk_frozen BK418.out 1
     have hfz23_2 := blk_frozen BK418.out 2
     have hfz23_3 := blk_frozen BK418.out 3
     go_wp2_with (first | ((with_reducible refine gate_callee (f := 59) rfl ?_); refine gK (some 48) Try.func59 #[.int .i64 a0_3, .int .i64 0, .int .i64 1] rfl rfl rfl ?_; (with_reducible refine (impl_within.calls a0_3 0 1 t425 _ A22.out).mono ?_); rintro e w' ⟨rfl, ⟨nd, rfl⟩⟩; refine ⟨_, rfl, ?_⟩))
     go_ret
     exact ⟨EQ, BA⟩
    ·rw [if_neg c21] at H
     have c21b0 := beq_eq_false_iff_ne.mpr c21
     have c21b1 := bne_iff_ne.mpr c21
     by_cases c24 : a0_0.toList = ([99, 111, 110, 115, 116] : List UInt8)
     ·rw [if_pos c24] at H
      have c24b0 := beq_iff_eq.mpr c24
      have c24b1 := bne_eq_false_iff_eq.mpr c24
      clear c24
      obtain ⟨t426, A25, H⟩ := ob H
      (try dsimp only at H)
      obtain rfl := Option.some.inj H
      obtain ⟨hcz26_0, hcz26_1, hcz26_2, hcz26_3⟩ := bc4 BK418.out
      have hfz26 := blk_frozen BK418.out
      have hfz26_1 := blk_frozen BK418.out 1
      have hfz26_2 := blk_frozen BK418.out 2
      have hfz26_3 := blk_frozen BK418.out 3
      go_wp2_with (first | ((with_reducible refine gate_callee (f := 121) rfl ?_); refine gK (some 53) Try.func121 #[.int .i64 a0_3] rfl rfl rfl ?_; (with_reducible refine (impl_isWord.calls a0_3 t426 _ A25.out).mono ?_); rintro e w' ⟨rfl, ⟨nd, rfl⟩⟩; refine ⟨_, rfl, ?_⟩))
      go_ret
      exact ⟨EQ, BA⟩
     ·rw [if_neg c24] at H
      have c24b0 := beq_eq_false_iff_ne.mpr c24
      have c24b1 := bne_iff_ne.mpr c24
      by_cases c27 : t419 > 0
      ·rw [if_pos c27] at H
       have c27b0 := decide_eq_true c27
       clear c27
       obtain rfl := Option.some.inj H
       obtain ⟨hcz28_0, hcz28_1, hcz28_2, hcz28_3⟩ := bc4 BK418.out
       have hfz28 := blk_frozen BK418.out
       have hfz28_1 := blk_frozen BK418.out 1
       have hfz28_2 := blk_frozen BK418.out 2
       have hfz28_3 := blk_frozen BK418.out 3
       go_wp2
       go_ret
       exact ⟨EQ, BA⟩
      ·rw [if_neg c27] at H
       have c27b0 := decide_eq_false c27
       clear c27
       obtain rfl := Option.some.inj H
       obtain ⟨hcz29_0, hcz29_1, hcz29_2, hcz29_3⟩ := bc4 BK418.out
       have hfz29 := blk_frozen BK418.out
       have hfz29_1 := blk_frozen BK418.out 1
       have hfz29_2 := blk_frozen BK418.out 2
       have hfz29_3 := blk_frozen BK418.out 3
       go_wp2
       go_ret
       exact ⟨EQ, BA⟩

/-! ### slices_Index_int_int: function 122 -/
def slices_Index_int_int.l0 : Nat → List Int → Int → Int → Int → Option (Int)
 | 0, _, _, _, _ => none
 | k + 1, x0, x1, x7, x8 => if x8 < x7 then (if 0 ≤ x8 then (if x8 < (x0.length : Int) then (if x1 = (rd x0 x8) then (some x8) else (slices_Index_int_int.l0 k x0 x1 x7 (wrap64 (x8 + 1)))) else (none)) else (none)) else (some (-1))
def slices_Index_int_int.f (k : Nat) (l0 : List Int) (a1 : Int) : Option (Int) := slices_Index_int_int.l0 k l0 a1 (l0.length : Int) 0
theorem slices_Index_int_int.calls (k : Nat) (A0 : Option Addr) (c0 : Nat) (l0 : List Int) (a1 : Int) (r : Int) (w : World) (hr0 : Kd.C (Kd.int .i64) w A0 l0.length l0) (hc0 : l0.length ≤ c0) (h : slices_Index_int_int.f k l0 a1 = some r) :
  Calls Try.prog 122 #[.slice A0 l0.length c0, .int .i64 a1] w fun e w' => e = .returned (.int .i64 r) ∧ Drawn0 w w' := by
 have HR0 := Aside0.mk hr0
 have HC0 := Aside0.mk hc0
 clear hr0 hc0
 have H := h
 clear h
 unfold slices_Index_int_int.f at H
 have H' := Aside0.mk H
 clear H
 go_enter Try.func122, Try.ntmps122
 go_wp2
 go_loopg [8] k (fun kq v8 w' => ∃ (x8_1 : Int), v8 = .int .i64 x8_1 ∧ Aside0 (slices_Index_int_int.l0 kq l0 a1 (l0.length : Int) x8_1 = some r) ∧ Aside0 (kq ≤ k) ∧ Drawn0 w w')
 case atStart => exact ⟨(0), EQ1, H', ⟨Nat.le_refl _⟩, DA⟩
 case round =>
  clear H'
  obtain ⟨x8_1, rfl, HA, HK1, ⟨m1, rfl⟩⟩ := hrel
  cases gk with
  | zero => exact absurd HA.out (by simp [slices_Index_int_int.l0])
  | succ k1 =>
   have H := HA.out
   clear HA
   simp only [slices_Index_int_int.l0] at H
   by_cases c3 : x8_1 < (l0.length : Int)
   ·rw [if_pos c3] at H
    have c3b0 := decide_eq_true c3
    clear c3
    obtain ⟨c4, H⟩ := ifs H
    have c4b0 := decide_eq_true c4
    clear c4
    obtain ⟨c5, H⟩ := ifs H
    have c5b0 := decide_eq_true c5
    clear c5
    by_cases c6 : a1 = (rd l0 x8_1)
    ·rw [if_pos c6] at H
     have c6b0 := beq_iff_eq.mpr c6
     have c6b1 := bne_eq_false_iff_eq.mpr c6
     clear c6
     obtain rfl := Option.some.inj H
     have p427 : 0 ≤ (x8_1 : Int) := DT
     have q427 : x8_1 < (l0.length : Int) := DT
     obtain ⟨ad427, e427, hx427_0⟩ := Kd.at_int HR0.out x8_1 p427 q427
     cases e427
     replace p427 := eq_true p427
     replace q427 := eq_true q427
     go_wp2
     go_ret
     exact ⟨EQ1, DA⟩
    ·rw [if_neg c6] at H
     have c6b0 := beq_eq_false_iff_ne.mpr c6
     have c6b1 := bne_iff_ne.mpr c6
     have H' := Aside0.mk H
     clear H
     have p427 : 0 ≤ (x8_1 : Int) := DT
     have q427 : x8_1 < (l0.length : Int) := DT
     obtain ⟨ad427, e427, hx427_0⟩ := Kd.at_int HR0.out x8_1 p427 q427
     cases e427
     replace p427 := eq_true p427
     replace q427 := eq_true q427
     go_wp2
     go_roundg k1
     case measure => have := HK1.out; omega
     case rel => exact ⟨(wrap64 (x8_1 + 1)), EQ1, H', ⟨by have := HK1.out; omega⟩, DA⟩
   ·rw [if_neg c3] at H
    have c3b0 := decide_eq_false c3
    clear c3
    obtain rfl := Option.some.inj H
    go_wp2
    go_ret
    exact ⟨EQ1, DA⟩

/-! ### slices_Contains_int_int: function 110 -/
def slices_Contains_int_int.f (k : Nat) (l0 : List Int) (a1 : Int) : Option (Bool) := (slices_Index_int_int.f k l0 a1).bind fun t428 => (some (decide (t428 ≥ 0)))
theorem slices_Contains_int_int.calls (k : Nat) (A0 : Option Addr) (c0 : Nat) (l0 : List Int) (a1 : Int) (r : Bool) (w : World) (hr0 : Kd.C (Kd.int .i64) w A0 l0.length l0) (hc0 : l0.length ≤ c0) (h : slices_Contains_int_int.f k l0 a1 = some r) :
  Calls Try.prog 110 #[.slice A0 l0.length c0, .int .i64 a1] w fun e w' => e = .returned (.bool r) ∧ Drawn0 w w' := by
 have HR0 := Aside0.mk hr0
 have HC0 := Aside0.mk hc0
 clear hr0 hc0
 have H := h
 clear h
 unfold slices_Contains_int_int.f at H
 obtain ⟨t428, A3, H⟩ := ob H
 (try dsimp only at H)
 obtain rfl := Option.some.inj H
 go_enter Try.func110, Try.ntmps110
 go_wp2_with (first | ((with_reducible refine gate_callee (f := 122) rfl ?_); refine gK (some 7) Try.func122 #[.slice A0 l0.length c0, .int .i64 a1] rfl rfl rfl ?_; (with_reducible refine (slices_Index_int_int.calls k _ _ l0 a1 t428 _ ?side1 ?side2 A3.out).mono ?_); (case side1 => exact cb HR0.out); (case side2 => exact HC0.out); rintro e w' ⟨rfl, ⟨nd, rfl⟩⟩; refine ⟨_, rfl, ?_⟩))
 go_ret
 exact ⟨EQ1, DA⟩

/-! ### impl_IsExpr: function 87 -/
def impl_IsExpr.l0 : Nat → List (S54) → List (S54) → Int → Int → Option (Bool)
 | 0, _, _, _, _ => none
 | k + 1, x0, x9, x10, x11 => if x11 < x10 then (if 0 ≤ x11 then (if x11 < (x9.length : Int) then ((impl_Node_isNode.f k ((rd_T54 x9 x11).f0) ((rd_T54 x9 x11).f1) ((rd_T54 x9 x11).f2) ((rd_T54 x9 x11).f3) x11).bind fun t432 => (if t432 = true then (impl_IsExpr.l0 k x0 x9 x10 (wrap64 (x11 + 1))) else (some false))) else (none)) else (none)) else ((impl_uses.f k x0).bind fun t433 => (if 0 ≤ (wrap64 ((x0.length : Int) - 1)) then (if (wrap64 ((x0.length : Int) - 1)) ≤ (t433.length : Int) then ((slices_Contains_int_int.f k (t433.take ((wrap64 ((x0.length : Int) - 1)) : Int).toNat) 0).bind fun t440 => (some (!t440))) else (none)) else (none)))
def impl_IsExpr.f (k : Nat) (l0 : List (S54)) : Option (Bool) := (impl_within.f (l0.length : Int) 1 24).bind fun t429 => (if t429 = true then (impl_IsExpr.l0 k l0 l0 (l0.length : Int) 0) else (some false))
theorem impl_IsExpr.calls (k : Nat) (A0 : Option Addr) (c0 : Nat) (l0 : List (S54)) (r : Bool) (w : World) (hr0 : Kd.C k54 w A0 l0.length l0) (hc0 : l0.length ≤ c0) (h : impl_IsExpr.f k l0 = some r) :
  Calls Try.prog 87 #[.slice A0 l0.length c0] w fun e w' => e = .returned (.bool r) ∧ Below w.heap.size w w' := by
 have hu54 := Try.underlying54
 have HR0 := Aside0.mk hr0
 have HC0 := Aside0.mk hc0
 clear hr0 hc0
 have HB := Aside0.mk (Below.refl w.heap.size w)
 have H := h
 clear h
 unfold impl_IsExpr.f at H
 obtain ⟨t429, A2, H⟩ := ob H
 (try dsimp only at H)
 by_cases c3 : t429 = true
 ·subst c3
  rw [if_pos rfl] at H
  have H' := Aside0.mk H
  clear H
  go_enter Try.func87, Try.ntmps87
  go_wp2_with (first | ((with_reducible refine gate_callee (f := 59) rfl ?_); refine gK (some 7) Try.func59 #[.int .i64 (l0.length : Int), .int .i64 1, .int .i64 24] rfl rfl rfl ?_; (with_reducible refine (impl_within.calls (l0.length : Int) 1 24 true _ A2.out).mono ?_); rintro e w' ⟨rfl, ⟨nd, rfl⟩⟩; refine ⟨_, rfl, ?_⟩))
  go_loopg [11] k (fun kq v11 w' => ∃ (x11_1 : Int), v11 = .int .i64 x11_1 ∧ Aside0 (impl_IsExpr.l0 kq l0 l0 (l0.length : Int) x11_1 = some r) ∧ Aside0 (kq ≤ k) ∧ Aside0 (Below w.heap.size w w'))
  case atStart => exact ⟨(0), EQ1, H', ⟨Nat.le_refl _⟩, ⟨BA⟩⟩
  case round =>
   clear H'
   (try clear c3)
   obtain ⟨x11_1, rfl, HA, HK1, HB⟩ := hrel
   cases gk with
   | zero => exact absurd HA.out (by simp [impl_IsExpr.l0])
   | succ k1 =>
    have H := HA.out
    clear HA
    simp only [impl_IsExpr.l0] at H
    by_cases c4 : x11_1 < (l0.length : Int)
    ·rw [if_pos c4] at H
     have c4b0 := decide_eq_true c4
     clear c4
     obtain ⟨c5, H⟩ := ifs H
     have c5b0 := decide_eq_true c5
     clear c5
     obtain ⟨c6, H⟩ := ifs H
     have c6b0 := decide_eq_true c6
     clear c6
     obtain ⟨t432, A7, H⟩ := ob H
     (try dsimp only at H)
     by_cases c8 : t432 = true
     ·subst c8
      rw [if_pos rfl] at H
      have H' := Aside0.mk H
      clear H
      have p430 : 0 ≤ (x11_1 : Int) := DT
      have q430 : x11_1 < (l0.length : Int) := DT
      obtain ⟨ad430, e430, hx430_0, hx430_1, hx430_2, hx430_3⟩ := at_T54 (Kd.C_below HR0.out HB.out) x11_1 p430 q430
      cases e430
      replace p430 := eq_true p430
      replace q430 := eq_true q430
      go_wp2_with (first | ((with_reducible refine gd 4 rfl ?_); refine bx 4 #[.string (⟨#[]⟩ : ByteArray), .int .i64 0, .int .i64 0, .int .i64 0] 54 ?_; intro gb431 hg w9 BK431 GW431 HB hb; have GE431 := GW431; clear hb hg; obtain ⟨hcz10_0, hcz10_1, hcz10_2, hcz10_3⟩ := bc4 BK431.out; have hfz10 := blk_frozen BK431.out) | ((with_reducible refine gate_callee (f := 109) rfl ?_); refine gK (some 18) Try.func109 #[.agg #[.string ((rd_T54 l0 x11_1).f0), .int .i64 ((rd_T54 l0 x11_1).f1), .int .i64 ((rd_T54 l0 x11_1).f2), .int .i64 ((rd_T54 l0 x11_1).f3)], .int .i64 x11_1] rfl rfl rfl ?_; (with_reducible refine (impl_Node_isNode.calls k1 ((rd_T54 l0 x11_1).f0) ((rd_T54 l0 x11_1).f1) ((rd_T54 l0 x11_1).f2) ((rd_T54 l0 x11_1).f3) x11_1 true _ A7.out).mono ?_); rintro e w11 ⟨rfl, hb⟩; refine ⟨_, rfl, ?_⟩; replace BK431 := Aside0.mk (blk_below (g := gb431) (o := .cells #[.string ((rd_T54 l0 x11_1).f0), .int .i64 ((rd_T54 l0 x11_1).f1), .int .i64 ((rd_T54 l0 x11_1).f2), .int .i64 ((rd_T54 l0 x11_1).f3)] 54 (0, 0)) (bq BK431.out) hb); replace HB := bs hb; (try clear hb)))
      go_roundg k1
      case measure => have := HK1.out; omega
      case rel => exact ⟨(wrap64 (x11_1 + 1)), EQ1, H', ⟨by have := HK1.out; omega⟩, ⟨BA⟩⟩
     ·replace c8 := Bool.eq_false_iff.mpr c8
      subst c8
      rw [if_neg (show ¬ (false = true) by decide)] at H
      obtain rfl := Option.some.inj H
      have p430 : 0 ≤ (x11_1 : Int) := DT
      have q430 : x11_1 < (l0.length : Int) := DT
      obtain ⟨ad430, e430, hx430_0, hx430_1, hx430_2, hx430_3⟩ := at_T54 (Kd.C_below HR0.out HB.out) x11_1 p430 q430
      cases e430
      replace p430 := eq_true p430
      replace q430 := eq_true q430
      go_wp2_with (first | ((with_reducible refine gd 4 rfl ?_); refine bx 4 #[.string (⟨#[]⟩ : ByteArray), .int .i64 0, .int .i64 0, .int .i64 0] 54 ?_; intro gb431 hg w12 BK431 GW431 HB hb; have GE431 := GW431; clear hb hg; obtain ⟨hcz13_0, hcz13_1, hcz13_2, hcz13_3⟩ := bc4 BK431.out; have hfz13 := blk_frozen BK431.out) | ((with_reducible refine gate_callee (f := 109) rfl ?_); refine gK (some 18) Try.func109 #[.agg #[.string ((rd_T54 l0 x11_1).f0), .int .i64 ((rd_T54 l0 x11_1).f1), .int .i64 ((rd_T54 l0 x11_1).f2), .int .i64 ((rd_T54 l0 x11_1).f3)], .int .i64 x11_1] rfl rfl rfl ?_; (with_reducible refine (impl_Node_isNode.calls k1 ((rd_T54 l0 x11_1).f0) ((rd_T54 l0 x11_1).f1) ((rd_T54 l0 x11_1).f2) ((rd_T54 l0 x11_1).f3) x11_1 false _ A7.out).mono ?_); rintro e w14 ⟨rfl, hb⟩; refine ⟨_, rfl, ?_⟩; replace BK431 := Aside0.mk (blk_below (g := gb431) (o := .cells #[.string ((rd_T54 l0 x11_1).f0), .int .i64 ((rd_T54 l0 x11_1).f1), .int .i64 ((rd_T54 l0 x11_1).f2), .int .i64 ((rd_T54 l0 x11_1).f3)] 54 (0, 0)) (bq BK431.out) hb); replace HB := bs hb; (try clear hb)))
      go_ret
      exact ⟨EQ, BA⟩
    ·rw [if_neg c4] at H
     have c4b0 := decide_eq_false c4
     clear c4
     obtain ⟨t433, A15, H⟩ := ob H
     (try dsimp only at H)
     obtain ⟨ji16, hji16⟩ : ∃ j_ : Int, (wrap64 ((l0.length : Int) - 1)) = j_ := ⟨_, rfl⟩
     replace H : (if 0 ≤ (ji16) then (if (ji16) ≤ (t433.length : Int) then ((slices_Contains_int_int.f k1 (t433.take ((ji16) : Int).toNat) 0).bind fun t440 => (some (!t440))) else (none)) else (none)) = some r := by first | (rw [hji16] at H; exact H) | (simp only [hji16] at H ⊢; exact H)
     (try rw [hji16] at A15)
     have hji16w : (IntKind.i64.wrap ((l0.length : Int) - 1)) = ji16 := (i64_w _).trans hji16
     obtain ⟨c17, H⟩ := ifs H
     have c17b0 := eq_true c17
     have c17b1 := decide_eq_true c17
     clear c17
     obtain ⟨c18, H⟩ := ifs H
     have c18b0 := eq_true c18
     have c18b1 := decide_eq_true c18
     clear c18
     obtain ⟨y436, hy436⟩ : ∃ y_ : List Int, y_ = (t433.take ((ji16) : Int).toNat) := ⟨_, rfl⟩
     replace H : ((slices_Contains_int_int.f k1 y436 0).bind fun t440 => (some (!t440))) = some r := by first | (rw [hy436]; with_reducible exact H) | (have H2_ := (Option.bind_some _ _).symm.trans H; rw [hy436]; with_reducible exact H2_) | (have H2_ := (Option.bind_some _ _).symm.trans H; with_reducible exact H2_) | with_reducible exact H | (rw [hy436]; exact H) | exact H
     have Ny436 := Aside0.mk hy436
     clear hy436
     obtain ⟨t440, A19, H⟩ := ob H
     (try dsimp only at H)
     obtain rfl := Option.some.inj H
     go_wp2_with (first | ((with_reducible refine gate_callee (f := 89) rfl ?_); refine gK (some 22) Try.func89 #[.slice A0 l0.length c0] rfl rfl rfl ?_; (with_reducible refine (impl_uses.calls k1 _ _ l0 t433 _ ?side1 ?side2 A15.out).mono ?_); (case side1 => exact cb (Kd.C_below HR0.out HB.out)); (case side2 => exact HC0.out); rintro e w20 ⟨v434, rfl, ho0, hb⟩; refine ⟨_, rfl, ?_⟩; have HO435 := Aside0.mk (Kd.R_lower ho0 (below_size BA)); replace HB := bs hb; (try clear hb); (try clear ho0); obtain ⟨Ao22, co22, eo22⟩ := Kd.R_slice HO435.out; subst eo22; have q21 : ((ji16) : Int) ≤ ((t433.length : Int) : Int) := DT; obtain ⟨i021, hi021, _, hsz21, _⟩ := info_parts info3; have hroom21 : t433.length ≤ co22 := (Kd.R_reads' HO435.out).2.1; have hC21 : Kd.C (Kd.int .i64) _ Ao22 t433.length t433 := (Kd.R_reads' HO435.out).2.2; have hcut21 := cut_to (P := Try.prog) 30 3 .i64 Try.underlying30 hi021 Ao22 t433.length co22 (ji16) DT q21 hroom21; have hr21 := Kd.C_take (m := ((ji16) : Int).toNat) hC21 (by omega); have hy21 : y436.length = ((ji16) : Int).toNat := (by rw [Ny436.out, List.length_take]; omega); rw [← Ny436.out] at hr21; rw [← hy21] at hcut21; have HR439 := Aside0.mk hr21; have HC439 := Aside0.mk (show y436.length ≤ co22 from by omega); clear hr21 hC21 hroom21 hi021 hsz21; have KY21 := Aside0.mk hy21; clear hy21; have KL21 := Aside0.mk (show ((ji16) : Int).toNat ≤ t433.length from by omega); replace q21 := eq_true q21) | ((with_reducible refine gate_callee (f := 110) rfl ?_); refine gK (some 27) Try.func110 #[.slice Ao22 y436.length co22, .int .i64 0] rfl rfl rfl ?_; (with_reducible refine (slices_Contains_int_int.calls k1 _ _ y436 0 t440 _ ?side1 ?side2 A19.out).mono ?_); (case side1 => exact cb (by repeat (first | (with_reducible exact HR439.out) | (with_reducible refine Kd.C_alloc ?_ _) | (with_reducible refine Kd.C_drewN ?_ _) | (with_reducible refine Kd.C_drew ?_) | exact HR439.out))); (case side2 => exact HC439.out); rintro e w' ⟨rfl, ⟨nd, rfl⟩⟩; refine ⟨_, rfl, ?_⟩))
     go_ret
     exact ⟨by first | rfl | (simp [errW_none, errW_some] <;> rfl) | (simp only [← hji16]; first | rfl | (simp [errW_none, errW_some] <;> rfl)) | (simp [*, errW_none, errW_some] <;> rfl), BA⟩
 ·replace c3 := Bool.eq_false_iff.mpr c3
  subst c3
  rw [if_neg (show ¬ (false = true) by decide)] at H
  obtain rfl := Option.some.inj H
  go_enter Try.func87, Try.ntmps87
  go_wp2_with (first | ((with_reducible refine gate_callee (f := 59) rfl ?_); refine gK (some 7) Try.func59 #[.int .i64 (l0.length : Int), .int .i64 1, .int .i64 24] rfl rfl rfl ?_; (with_reducible refine (impl_within.calls (l0.length : Int) 1 24 false _ A2.out).mono ?_); rintro e w' ⟨rfl, ⟨nd, rfl⟩⟩; refine ⟨_, rfl, ?_⟩))
  go_ret
  exact ⟨EQ, BA⟩

/-! ### impl_isTree_1: function 90 -/
def impl_isTree_1.f (a0 : Int) : Option (Bool) := some (decide (a0 > 1))
theorem impl_isTree_1.calls (a0 : Int) (r : Bool) (w : World) (h : impl_isTree_1.f a0 = some r) :
  Calls Try.prog 90 #[.int .i64 a0] w fun e w' => e = .returned (.bool r) ∧ Drawn0 w w' := by
 have H := h
 clear h
 unfold impl_isTree_1.f at H
 obtain rfl := Option.some.inj H
 go_enter Try.func90, Try.ntmps90
 go_wp2
 go_ret
 exact ⟨EQ1, DA⟩

/-! ### slices_IndexFunc_int_int__impl_isTree_1: function 111 -/
def slices_IndexFunc_int_int__impl_isTree_1.l0 : Nat → List Int → Int → Int → Option (Int)
 | 0, _, _, _ => none
 | k + 1, x0, x7, x8 => if x8 < x7 then (if 0 ≤ x8 then (if x8 < (x0.length : Int) then ((impl_isTree_1.f (rd x0 x8)).bind fun t442 => (if t442 = true then (some x8) else (slices_IndexFunc_int_int__impl_isTree_1.l0 k x0 x7 (wrap64 (x8 + 1))))) else (none)) else (none)) else (some (-1))
def slices_IndexFunc_int_int__impl_isTree_1.f (k : Nat) (l0 : List Int)  : Option (Int) := slices_IndexFunc_int_int__impl_isTree_1.l0 k l0 (l0.length : Int) 0
theorem slices_IndexFunc_int_int__impl_isTree_1.calls (k : Nat) (A0 : Option Addr) (c0 : Nat) (l0 : List Int)  (r : Int) (w : World) (hr0 : Kd.C (Kd.int .i64) w A0 l0.length l0) (hc0 : l0.length ≤ c0) (h : slices_IndexFunc_int_int__impl_isTree_1.f k l0 = some r) :
  Calls Try.prog 111 #[.slice A0 l0.length c0, .func (.func 90) #[] #[]] w fun e w' => e = .returned (.int .i64 r) ∧ Drawn0 w w' := by
 have HR0 := Aside0.mk hr0
 have HC0 := Aside0.mk hc0
 clear hr0 hc0
 have H := h
 clear h
 unfold slices_IndexFunc_int_int__impl_isTree_1.f at H
 have H' := Aside0.mk H
 clear H
 go_enter Try.func111, Try.ntmps111
 go_wp2
 go_loopg [8] k (fun kq v8 w' => ∃ (x8_1 : Int), v8 = .int .i64 x8_1 ∧ Aside0 (slices_IndexFunc_int_int__impl_isTree_1.l0 kq l0 (l0.length : Int) x8_1 = some r) ∧ Aside0 (kq ≤ k) ∧ Drawn0 w w')
 case atStart => exact ⟨(0), EQ1, H', ⟨Nat.le_refl _⟩, DA⟩
 case round =>
  clear H'
  obtain ⟨x8_1, rfl, HA, HK1, ⟨m1, rfl⟩⟩ := hrel
  cases gk with
  | zero => exact absurd HA.out (by simp [slices_IndexFunc_int_int__impl_isTree_1.l0])
  | succ k1 =>
   have H := HA.out
   clear HA
   simp only [slices_IndexFunc_int_int__impl_isTree_1.l0] at H
   by_cases c3 : x8_1 < (l0.length : Int)
   ·rw [if_pos c3] at H
    have c3b0 := decide_eq_true c3
    clear c3
    obtain ⟨c4, H⟩ := ifs H
    have c4b0 := decide_eq_true c4
    clear c4
    obtain ⟨c5, H⟩ := ifs H
    have c5b0 := decide_eq_true c5
    clear c5
    obtain ⟨t442, A6, H⟩ := ob H
    (try dsimp only at H)
    by_cases c7 : t442 = true
    ·subst c7
     rw [if_pos rfl] at H
     obtain rfl := Option.some.inj H
     have p441 : 0 ≤ (x8_1 : Int) := DT
     have q441 : x8_1 < (l0.length : Int) := DT
     obtain ⟨ad441, e441, hx441_0⟩ := Kd.at_int HR0.out x8_1 p441 q441
     cases e441
     replace p441 := eq_true p441
     replace q441 := eq_true q441
     go_wp2_with (first | (go_at_call 90; (with_reducible refine (impl_isTree_1.calls (rd l0 x8_1) true _ A6.out).mono ?_); rintro e w' ⟨rfl, ⟨nd, rfl⟩⟩))
     go_ret
     exact ⟨EQ1, DA⟩
    ·replace c7 := Bool.eq_false_iff.mpr c7
     subst c7
     rw [if_neg (show ¬ (false = true) by decide)] at H
     have H' := Aside0.mk H
     clear H
     have p441 : 0 ≤ (x8_1 : Int) := DT
     have q441 : x8_1 < (l0.length : Int) := DT
     obtain ⟨ad441, e441, hx441_0⟩ := Kd.at_int HR0.out x8_1 p441 q441
     cases e441
     replace p441 := eq_true p441
     replace q441 := eq_true q441
     go_wp2_with (first | (go_at_call 90; (with_reducible refine (impl_isTree_1.calls (rd l0 x8_1) false _ A6.out).mono ?_); rintro e w' ⟨rfl, ⟨nd, rfl⟩⟩))
     go_roundg k1
     case measure => have := HK1.out; omega
     case rel => exact ⟨(wrap64 (x8_1 + 1)), EQ1, H', ⟨by have := HK1.out; omega⟩, DA⟩
   ·rw [if_neg c3] at H
    have c3b0 := decide_eq_false c3
    clear c3
    obtain rfl := Option.some.inj H
    go_wp2
    go_ret
    exact ⟨EQ1, DA⟩

/-! ### slices_ContainsFunc_int_int__impl_isTree_1: function 88 -/
def slices_ContainsFunc_int_int__impl_isTree_1.f (k : Nat) (l0 : List Int)  : Option (Bool) := (slices_IndexFunc_int_int__impl_isTree_1.f k l0).bind fun t443 => (some (decide (t443 ≥ 0)))
theorem slices_ContainsFunc_int_int__impl_isTree_1.calls (k : Nat) (A0 : Option Addr) (c0 : Nat) (l0 : List Int)  (r : Bool) (w : World) (hr0 : Kd.C (Kd.int .i64) w A0 l0.length l0) (hc0 : l0.length ≤ c0) (h : slices_ContainsFunc_int_int__impl_isTree_1.f k l0 = some r) :
  Calls Try.prog 88 #[.slice A0 l0.length c0, .func (.func 90) #[] #[]] w fun e w' => e = .returned (.bool r) ∧ Drawn0 w w' := by
 have HR0 := Aside0.mk hr0
 have HC0 := Aside0.mk hc0
 clear hr0 hc0
 have H := h
 clear h
 unfold slices_ContainsFunc_int_int__impl_isTree_1.f at H
 obtain ⟨t443, A3, H⟩ := ob H
 (try dsimp only at H)
 obtain rfl := Option.some.inj H
 go_enter Try.func88, Try.ntmps88
 go_wp2_with (first | ((with_reducible refine gate_callee (f := 111) rfl ?_); refine gK (some 7) Try.func111 #[.slice A0 l0.length c0, .func (.func 90) #[] #[]] rfl rfl rfl ?_; (with_reducible refine (slices_IndexFunc_int_int__impl_isTree_1.calls k _ _ l0  t443 _ ?side1 ?side2 A3.out).mono ?_); (case side1 => exact cb HR0.out); (case side2 => exact HC0.out); rintro e w' ⟨rfl, ⟨nd, rfl⟩⟩; refine ⟨_, rfl, ?_⟩))
 go_ret
 exact ⟨EQ1, DA⟩

end Go.Proofs.Ytlmegefdnkjcbaa.Pa
