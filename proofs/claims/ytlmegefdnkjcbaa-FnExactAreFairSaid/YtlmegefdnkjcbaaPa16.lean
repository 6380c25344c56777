-- Made by this session's program gen.py over the translation.
import Derived.Test.YtlmegefdnkjcbaaPa0
import Derived.Test.YtlmegefdnkjcbaaPa4
import Derived.Test.YtlmegefdnkjcbaaPa9
import Derived.Test.YtlmegefdnkjcbaaPa11
import Derived.Test.YtlmegefdnkjcbaaPa15
namespace Go.Proofs.Ytlmegefdnkjcbaa.Pa
open Go.RowKit Go.Proofs.YtlmegefdnkjcbaaW.PrintWords Go.Proofs.YtlmegefdnkjcbaaW.PrintLast Go.Proofs.YtlmegefdnkjcbaaW.PrintMore
attribute [local go_sem] max2_int min2_int max_two min_two max_three min_three max_four min_four   -- for this text's walks alone
set_option linter.unusedVariables false
set_option linter.unusedSimpArgs false
set_option maxHeartbeats 8000000
set_option maxRecDepth 100000

/-! ### spec_cvPriced: function 61 -/
def spec_cvPriced.f (k : Nat) (l0 : List (S54)) (l1 : List Int) : Option (Bool) := if (l1.length : Int) = (l0.length : Int) then ((spec_l1All.f k l1 0 1000).bind fun t1078 => (some t1078)) else (some false)
theorem spec_cvPriced.calls (k : Nat) (A0 : Option Addr) (c0 : Nat) (l0 : List (S54)) (A1 : Option Addr) (c1 : Nat) (l1 : List Int) (r : Bool) (w : World) (hr0 : Kd.C k54 w A0 l0.length l0) (hc0 : l0.length ≤ c0) (hr1 : Kd.C (Kd.int .i64) w A1 l1.length l1) (hc1 : l1.length ≤ c1) (h : spec_cvPriced.f k l0 l1 = some r) :
  Calls Try.prog 61 #[.slice A0 l0.length c0, .slice A1 l1.length c1] w fun e w' => e = .returned (.bool r) ∧ Drawn0 w w' := by
 have HR0 := Aside0.mk hr0
 have HC0 := Aside0.mk hc0
 clear hr0 hc0
 have HR1 := Aside0.mk hr1
 have HC1 := Aside0.mk hc1
 clear hr1 hc1
 have H := h
 clear h
 unfold spec_cvPriced.f at H
 by_cases c3 : (l1.length : Int) = (l0.length : Int)
 ·rw [if_pos c3] at H
  have c3b0 := beq_iff_eq.mpr c3
  have c3b1 := bne_eq_false_iff_eq.mpr c3
  have c3b2 : (l1.length == l0.length) = true := by first | simpa using c3 | (simp at c3 ⊢; omega)
  clear c3
  obtain ⟨t1078, A4, H⟩ := ob H
  (try dsimp only at H)
  obtain rfl := Option.some.inj H
  go_enter Try.func61, Try.ntmps61
  go_wp2_with (first | (go_at_call 91; (with_reducible refine (spec_l1All.calls k _ _ l1 0 1000 t1078 _ ?side1 ?side2 A4.out).mono ?_); (case side1 => exact cb HR1.out); (case side2 => exact HC1.out); rintro e w' ⟨rfl, ⟨nd, rfl⟩⟩))
  go_ret
  exact ⟨EQ1, DA⟩
 ·rw [if_neg c3] at H
  have c3b0 := beq_eq_false_iff_ne.mpr c3
  have c3b1 := bne_iff_ne.mpr c3
  have c3b2 : (l1.length == l0.length) = false := by first | simpa using c3 | (simp at c3 ⊢; omega)
  obtain rfl := Option.some.inj H
  go_enter Try.func61, Try.ntmps61
  go_wp2
  go_ret
  exact ⟨EQ1, DA⟩

/-! ### spec_cvUnfair: function 62 -/
mutual
def spec_cvUnfair.l0 : Nat → List (S54) → List Int → Int → Int → Option (Int × Int × Bool)
 | 0, _, _, _, _ => none
 | k + 1, x0, x1, x11, x12 => if x12 < x11 then ((spec_cvTiles.f k x0 x12).bind fun t1089 => (spec_cvUnfair.l1 k x0 x1 x12 x11 x12 t1089 (t1089.length : Int) 0)) else (some (0, 0, false))
def spec_cvUnfair.l1 : Nat → List (S54) → List Int → Int → Int → Int → List Int → Int → Int → Option (Int × Int × Bool)
 | 0, _, _, _, _, _, _, _, _ => none
 | k + 1, x0, x1, x7, x11, x12, x17, x18, x19 => if x19 < x18 then (if 0 ≤ x19 then (if x19 < (x17.length : Int) then (if 0 ≤ x7 then (if x7 < (x1.length : Int) then ((spec_cvWith.f k x0 x7 (rd x17 x19) x1).bind fun t1094 => (if (rd x1 x7) > t1094 then (some (x7, rd x17 x19, true)) else (spec_cvUnfair.l1 k x0 x1 x7 x11 x12 x17 x18 (wrap64 (x19 + 1))))) else (none)) else (none)) else (none)) else (none)) else (spec_cvUnfair.l0 k x0 x1 x11 (wrap64 (x12 + 1)))
end
def spec_cvUnfair.f (k : Nat) (l0 : List (S54)) (l1 : List Int) : Option (Int × Int × Bool) := spec_cvUnfair.l0 k l0 l1 (l0.length : Int) 0
def spec_cvUnfair.T7 : Bool × List (List Nat × List Nat) := (true, [([], []), ([], []), ([0, 1], [0, 1]), ([2], [2]), ([], []), ([], []), ([], []), ([], []), ([4, 5, 6, 7], [4, 5, 6, 7]), ([3, 8], [3, 8])])
def spec_cvUnfair.B7 : List Nat := [0, 0, 3, 7, 0, 0, 0, 0, 240, 511]
theorem spec_cvUnfair.tab7 : rtab .any (opsOf Try.f62 7) = spec_cvUnfair.T7 := by kernel_rfl
theorem spec_cvUnfair.bits7 : waitsOk spec_cvUnfair.T7.2 spec_cvUnfair.B7 = true := by kernel_rfl
theorem spec_cvUnfair.calls (k : Nat) (A0 : Option Addr) (c0 : Nat) (l0 : List (S54)) (A1 : Option Addr) (c1 : Nat) (l1 : List Int) (r1 : Int) (r2 : Int) (r3 : Bool) (w : World) (hr0 : Kd.C k54 w A0 l0.length l0) (hc0 : l0.length ≤ c0) (hr1 : Kd.C (Kd.int .i64) w A1 l1.length l1) (hc1 : l1.length ≤ c1) (h : spec_cvUnfair.f k l0 l1 = some (r1, r2, r3)) :
  Calls Try.prog 62 #[.slice A0 l0.length c0, .slice A1 l1.length c1] w fun e w' => e = .returned (.tuple #[.int .i64 r1, .int .i64 r2, .bool r3]) ∧ Below w.heap.size w w' := by
 have HR0 := Aside0.mk hr0
 have HC0 := Aside0.mk hc0
 clear hr0 hc0
 have HR1 := Aside0.mk hr1
 have HC1 := Aside0.mk hc1
 clear hr1 hc1
 have HB := Aside0.mk (Below.refl w.heap.size w)
 have H := h
 clear h
 unfold spec_cvUnfair.f at H
 have H' := Aside0.mk H
 clear H
 go_enter Try.func62, Try.ntmps62
 go_wp2
 go_loopg [12] k (fun kq v12 w' => ∃ (x12_1 : Int), v12 = .int .i64 x12_1 ∧ Aside0 (spec_cvUnfair.l0 kq l0 l1 (l0.length : Int) x12_1 = some (r1, r2, r3)) ∧ Aside0 (kq ≤ k) ∧ Aside0 (Below w.heap.size w w'))
 case atStart => exact ⟨(0), EQ1, H', ⟨Nat.le_refl _⟩, ⟨BA⟩⟩
 case round =>
  clear H'
  (try clear c1)
  obtain ⟨x12_1, rfl, HA, HK1, HB⟩ := hrel
  cases gk with
  | zero => exact absurd HA.out (by simp [spec_cvUnfair.l0])
  | succ k1 =>
   have H := HA.out
   clear HA
   simp only [spec_cvUnfair.l0] at H
   by_cases c3 : x12_1 < (l0.length : Int)
   ·rw [if_pos c3] at H
    have c3b0 := decide_eq_true c3
    clear c3
    obtain ⟨t1089, A4, H⟩ := ob H
    (try dsimp only at H)
    have H' := Aside0.mk H
    clear H
    go_wp2_with (first | ((with_reducible refine gate_callee (f := 57) rfl ?_); refine gK (some 17) Try.func57 #[.slice A0 l0.length c0, .int .i64 x12_1] rfl rfl rfl ?_; (with_reducible refine (spec_cvTiles.calls k1 _ _ l0 x12_1 t1089 _ ?side1 ?side2 A4.out).mono ?_); (case side1 => exact cb (Kd.C_below HR0.out HB.out)); (case side2 => exact HC0.out); rintro e w5 ⟨v1090, rfl, ho0, hb⟩; refine ⟨_, rfl, ?_⟩; have HO1091 := Aside0.mk (Kd.R_lower ho0 (below_size BA)); replace HB := bs hb; (try clear hb); (try clear ho0); obtain ⟨Ao6, co6, eo6⟩ := Kd.R_slice HO1091.out; subst eo6))
    go_loopg [19] k1 (fun kq v19 w' => ∃ (x19_2 : Int), v19 = .int .i64 x19_2 ∧ Aside0 (spec_cvUnfair.l1 kq l0 l1 x12_1 (l0.length : Int) x12_1 t1089 (t1089.length : Int) x19_2 = some (r1, r2, r3)) ∧ Aside0 (kq ≤ k1) ∧ Aside0 (Kd.R (Kd.int .i64) 3 w' w.heap.size (fun _ => True) (.slice Ao6 t1089.length co6) t1089) ∧ Aside0 (Below w.heap.size w w'))
    case atStart => exact ⟨(0), EQ1, H', ⟨Nat.le_refl _⟩, ⟨rb HO1091.out⟩, ⟨BA⟩⟩
    case round =>
     clear H'
     (try clear c1); (try clear c3b0)
     obtain ⟨x19_2, rfl, HA, HK2, HO_17, HB⟩ := hrel
     cases gk with
     | zero => exact absurd HA.out (by simp [spec_cvUnfair.l1])
     | succ k2 =>
      have H := HA.out
      clear HA
      simp only [spec_cvUnfair.l1] at H
      by_cases c7 : x19_2 < (t1089.length : Int)
      ·rw [if_pos c7] at H
       have c7b0 := decide_eq_true c7
       clear c7
       obtain ⟨c8, H⟩ := ifs H
       have c8b0 := decide_eq_true c8
       clear c8
       obtain ⟨c9, H⟩ := ifs H
       have c9b0 := decide_eq_true c9
       clear c9
       obtain ⟨c10, H⟩ := ifs H
       have c10b0 := decide_eq_true c10
       clear c10
       obtain ⟨c11, H⟩ := ifs H
       have c11b0 := decide_eq_true c11
       clear c11
       obtain ⟨t1094, A12, H⟩ := ob H
       (try dsimp only at H)
       by_cases c13 : (rd l1 x12_1) > t1094
       ·rw [if_pos c13] at H
        have c13b0 := decide_eq_true c13
        clear c13
        simp only [Option.some.injEq, Prod.mk.injEq] at H
        obtain ⟨rfl, rfl, rfl⟩ := H
        have p1092 : 0 ≤ (x19_2 : Int) := DT
        have q1092 : x19_2 < (t1089.length : Int) := DT
        obtain ⟨ad1092, e1092, hx1092_0⟩ := Kd.at_int (Kd.R_reads' HO_17.out).2.2 x19_2 p1092 q1092
        cases e1092
        replace p1092 := eq_true p1092
        replace q1092 := eq_true q1092
        try go_wp2
        replace HO_17 := Aside0.mk (Kd.R_drew HO_17.out); replace HB := Aside0.mk (below_drew1 HB.out)
        have p1093 : 0 ≤ (x12_1 : Int) := DT
        have q1093 : x12_1 < (l1.length : Int) := DT
        obtain ⟨ad1093, e1093, hx1093_0⟩ := Kd.at_int HR1.out x12_1 p1093 q1093
        have hw1093_0 := hx1093_0
        cases e1093
        replace hx1093_0 := (HB.out.cell (World.block_lt_of_cell? w _ hx1093_0)).trans hx1093_0
        replace p1093 := eq_true p1093
        replace q1093 := eq_true q1093
        refine start_ (n := 10) (S := fun w' => w'.cell? (ad1093.add (x12_1).toNat) = some (.int .i64 (rd l1 x12_1))) (ds := []) (mk 10 0) (by kernel_rfl) rfl (by kernel_rfl) (((HB.out.cell (World.block_lt_of_cell? w _ hw1093_0)).trans hw1093_0)) (fun hHeld => ?_); refine with_tabW spec_cvUnfair.tab7 spec_cvUnfair.bits7 (fun HT_ HW_ => ?_)
        generalize wr.drew = w14 at HO_17 HB hx1093_0 hHeld ⊢
        refine pu 0 23 10 1 rfl rfl ?_
        refine pu 1 24 10 3 rfl rfl ?_
        refine pu 2 25 10 7 rfl rfl ?_
        refine pu 4 27 10 23 rfl rfl ?_
        refine pu 5 28 10 55 rfl rfl ?_
        refine pu 6 29 10 119 rfl rfl ?_
        refine pu 7 30 10 247 rfl rfl ?_
        refine ta 3 26 10 255 rfl rfl ?_
        refine one_ (i := 8) (N := some 31) (mk 10 511) rfl rfl (one_of HT_.out (by kernel_rfl)) (by decide) (fun K hK => ?_)
        refine goes_ Try.func92 (by kernel_rfl) rfl #[.slice A0 l0.length c0, .int .i64 x12_1, .int .i64 (rd t1089 x19_2), .slice (some ad1093) l1.length c1] (by rfl) rfl rfl (by (try simp only [List.map_toArray, List.map_cons, List.map_nil]); first | done | rfl | (simp only [List.length_drop, List.length_take]; rfl)) ?_
        with_reducible refine (spec_cvWith.calls k2 _ _ l0 x12_1 (rd t1089 x19_2) _ _ l1 t1094 _ ?side1 ?side2 ?side3 ?side4 A12.out).mono ?_
        (case side1 => exact cb (Kd.C_below HR0.out HB.out))
        (case side2 => exact HC0.out)
        (case side3 => exact cb (Kd.C_below HR1.out HB.out))
        (case side4 => exact HC1.out)
        rintro e w15 ⟨rfl, hb⟩
        refine ⟨_, rfl, ?_⟩
        replace HO_17 := Aside0.mk (Kd.R_below (rb HO_17.out) hb); replace HB := bs hb
        (try clear hb)
        refine hK.out _ _ (((HB.out.cell (World.block_lt_of_cell? w _ hw1093_0)).trans hw1093_0)) (fun hHeld => ?_)
        clear hK K
        refine nm 31 ?_
        refine pu 9 32 10 1023 rfl rfl ?_
        refine done_ (done_of HT_.out (by kernel_rfl)) ?_
        try go_wp2
        go_ret3
        exact ⟨EQ, BA⟩
       ·rw [if_neg c13] at H
        have c13b0 := decide_eq_false c13
        clear c13
        have H' := Aside0.mk H
        clear H
        have p1092 : 0 ≤ (x19_2 : Int) := DT
        have q1092 : x19_2 < (t1089.length : Int) := DT
        obtain ⟨ad1092, e1092, hx1092_0⟩ := Kd.at_int (Kd.R_reads' HO_17.out).2.2 x19_2 p1092 q1092
        cases e1092
        replace p1092 := eq_true p1092
        replace q1092 := eq_true q1092
        try go_wp2
        replace HO_17 := Aside0.mk (Kd.R_drew HO_17.out); replace HB := Aside0.mk (below_drew1 HB.out)
        have p1093 : 0 ≤ (x12_1 : Int) := DT
        have q1093 : x12_1 < (l1.length : Int) := DT
        obtain ⟨ad1093, e1093, hx1093_0⟩ := Kd.at_int HR1.out x12_1 p1093 q1093
        have hw1093_0 := hx1093_0
        cases e1093
        replace hx1093_0 := (HB.out.cell (World.block_lt_of_cell? w _ hx1093_0)).trans hx1093_0
        replace p1093 := eq_true p1093
        replace q1093 := eq_true q1093
        refine start_ (n := 10) (S := fun w' => w'.cell? (ad1093.add (x12_1).toNat) = some (.int .i64 (rd l1 x12_1))) (ds := []) (mk 10 0) (by kernel_rfl) rfl (by kernel_rfl) (((HB.out.cell (World.block_lt_of_cell? w _ hw1093_0)).trans hw1093_0)) (fun hHeld => ?_); refine with_tabW spec_cvUnfair.tab7 spec_cvUnfair.bits7 (fun HT_ HW_ => ?_)
        generalize wr.drew = w16 at HO_17 HB hx1093_0 hHeld ⊢
        refine pu 0 23 10 1 rfl rfl ?_
        refine pu 1 24 10 3 rfl rfl ?_
        refine pu 2 25 10 7 rfl rfl ?_
        refine pu 4 27 10 23 rfl rfl ?_
        refine pu 5 28 10 55 rfl rfl ?_
        refine pu 6 29 10 119 rfl rfl ?_
        refine pu 7 30 10 247 rfl rfl ?_
        refine ta 3 26 10 255 rfl rfl ?_
        refine one_ (i := 8) (N := some 31) (mk 10 511) rfl rfl (one_of HT_.out (by kernel_rfl)) (by decide) (fun K hK => ?_)
        refine goes_ Try.func92 (by kernel_rfl) rfl #[.slice A0 l0.length c0, .int .i64 x12_1, .int .i64 (rd t1089 x19_2), .slice (some ad1093) l1.length c1] (by rfl) rfl rfl (by (try simp only [List.map_toArray, List.map_cons, List.map_nil]); first | done | rfl | (simp only [List.length_drop, List.length_take]; rfl)) ?_
        with_reducible refine (spec_cvWith.calls k2 _ _ l0 x12_1 (rd t1089 x19_2) _ _ l1 t1094 _ ?side1 ?side2 ?side3 ?side4 A12.out).mono ?_
        (case side1 => exact cb (Kd.C_below HR0.out HB.out))
        (case side2 => exact HC0.out)
        (case side3 => exact cb (Kd.C_below HR1.out HB.out))
        (case side4 => exact HC1.out)
        rintro e w17 ⟨rfl, hb⟩
        refine ⟨_, rfl, ?_⟩
        replace HO_17 := Aside0.mk (Kd.R_below (rb HO_17.out) hb); replace HB := bs hb
        (try clear hb)
        refine hK.out _ _ (((HB.out.cell (World.block_lt_of_cell? w _ hw1093_0)).trans hw1093_0)) (fun hHeld => ?_)
        clear hK K
        refine nm 31 ?_
        refine pu 9 32 10 1023 rfl rfl ?_
        refine done_ (done_of HT_.out (by kernel_rfl)) ?_
        try go_wp2
        go_roundg k2
        case measure => have := HK1.out; have := HK2.out; omega
        case rel => exact ⟨(wrap64 (x19_2 + 1)), EQ1, H', ⟨by have := HK1.out; have := HK2.out; omega⟩, ⟨rb HO_17.out⟩, ⟨BA⟩⟩
      ·rw [if_neg c7] at H
       have c7b0 := decide_eq_false c7
       clear c7
       have H' := Aside0.mk H
       clear H
       go_wp2
       go_roundg k2
       case measure => have := HK1.out; have := HK2.out; omega
       case rel => exact ⟨(wrap64 (x12_1 + 1)), EQ1, H', ⟨by have := HK1.out; have := HK2.out; omega⟩, ⟨BA⟩⟩
   ·rw [if_neg c3] at H
    have c3b0 := decide_eq_false c3
    clear c3
    simp only [Option.some.injEq, Prod.mk.injEq] at H
    obtain ⟨rfl, rfl, rfl⟩ := H
    go_wp2
    go_ret3
    exact ⟨EQ, BA⟩

/-! ### laws_toIntS: function 31 -/
def laws_toIntS.l0 : Nat → List Int → List Int → Int → Option (List Int)
 | 0, _, _, _ => none
 | k + 1, x0, x3, x4 => if x4 < (x0.length : Int) then (if 0 ≤ x4 then (if x4 < (x3.length : Int) then (laws_toIntS.l0 k x0 (x3.set (x4 : Int).toNat (rd x0 x4)) (wrap64 (x4 + 1))) else (none)) else (none)) else (some x3)
def laws_toIntS.f (k : Nat) (l0 : List Int) : Option (List Int) := if 0 ≤ (l0.length : Int) then (if ((l0.length : Int) : Int).toNat ≤ 35184372088832 then (laws_toIntS.l0 k l0 (List.replicate ((l0.length : Int) : Int).toNat 0) 0) else (none)) else (none)
theorem laws_toIntS.calls (k : Nat) (A0 : Option Addr) (c0 : Nat) (l0 : List Int) (r : List Int) (w : World) (hr0 : Kd.C (Kd.int .i64) w A0 l0.length l0) (hc0 : l0.length ≤ c0) (h : laws_toIntS.f k l0 = some r) :
  Calls Try.prog 31 #[.slice A0 l0.length c0] w fun e w' => ∃ v0_ : Value, e = .returned (v0_) ∧ Kd.R (Kd.int .i64) 3 w' w.heap.size (fun _ => True) v0_ r ∧ Below w.heap.size w w' := by
 have HR0 := Aside0.mk hr0
 have HC0 := Aside0.mk hc0
 clear hr0 hc0
 have HB := Aside0.mk (Below.refl w.heap.size w)
 have H := h
 clear h
 unfold laws_toIntS.f at H
 obtain ⟨c2, H⟩ := ifs H
 have c2b0 := eq_true c2
 have c2b1 := decide_eq_true c2
 clear c2
 obtain ⟨c3, H⟩ := ifs H
 have c3b0 := eq_true c3
 have c3b1 := decide_eq_true c3
 clear c3
 obtain ⟨y1100, hy1100⟩ : ∃ y_ : List Int, y_ = (List.replicate ((l0.length : Int) : Int).toNat 0) := ⟨_, rfl⟩
 replace H : (laws_toIntS.l0 k l0 y1100 0) = some r := by first | (rw [hy1100]; with_reducible exact H) | (have H2_ := (Option.bind_some _ _).symm.trans H; rw [hy1100]; with_reducible exact H2_) | (have H2_ := (Option.bind_some _ _).symm.trans H; with_reducible exact H2_) | with_reducible exact H | (rw [hy1100]; exact H) | exact H
 have Ny1100 := Aside0.mk hy1100
 clear hy1100
 have H' := Aside0.mk H
 clear H
 go_enter Try.func31, Try.ntmps31
 go_wp2_with (first | ((with_reducible refine gate_dst (N := 7) rfl ?_); refine Kd.R_make (Kd.int .i64) _ 3 rfl (N := 7) rfl 30 _ _ rfl (l0.length : Int) rfl rfl Try.underlying30 (.int .i64 0) 8 info3 rfl (by decide) (by omega) 0 (ok := fun _ => True) (okp := fun _ => True) rfl (fun _ hk => hk) trivial DT (Nat.le_trans (Nat.mul_le_mul_right _ (DT : (l0.length : Int).toNat ≤ 35184372088832)) (by omega)) (Below.refl _ _) (Nat.le_refl _) ?_; intro v1101 w4 ho5 hb hg_ hnew_; clear hg_ hnew_; (first | rw [← Ny1100.out] at ho5 | (simp only [Int.reduceToNat] at ho5; rw [← Ny1100.out] at ho5)); have HO1102 := Aside0.mk (Kd.R_lower ho5 (below_size BA)); replace HB := bs hb; clear hb ho5))
 go_loopg [4] k (fun kq v4 w' => ∃ (x3_1 : List Int) (x4_1 : Int), v4 = .int .i64 x4_1 ∧ Aside0 (laws_toIntS.l0 kq l0 x3_1 x4_1 = some r) ∧ Aside0 (kq ≤ k) ∧ Aside0 (Kd.R (Kd.int .i64) 3 w' w.heap.size (fun _ => True) v1101 x3_1) ∧ Aside0 (Below w.heap.size w w'))
 case atStart => exact ⟨(y1100), (0), EQ1, H', ⟨Nat.le_refl _⟩, ⟨rb HO1102.out⟩, ⟨BA⟩⟩
 case round =>
  clear H'
  (try clear c2b0); (try clear c2b1); (try clear c3b0); (try clear c3b1)
  obtain ⟨x3_1, x4_1, rfl, HA, HK1, HO_3, HB⟩ := hrel
  cases gk with
  | zero => exact absurd HA.out (by simp [laws_toIntS.l0])
  | succ k1 =>
   have H := HA.out
   clear HA
   simp only [laws_toIntS.l0] at H
   by_cases c6 : x4_1 < (l0.length : Int)
   ·rw [if_pos c6] at H
    have c6b0 := decide_eq_true c6
    clear c6
    obtain ⟨c7, H⟩ := ifs H
    have c7b0 := decide_eq_true c7
    clear c7
    obtain ⟨c8, H⟩ := ifs H
    have c8b0 := decide_eq_true c8
    clear c8
    obtain ⟨y1104, hy1104⟩ : ∃ y_ : List Int, y_ = (x3_1.set (x4_1 : Int).toNat (rd l0 x4_1)) := ⟨_, rfl⟩
    replace H : (laws_toIntS.l0 k1 l0 y1104 (wrap64 (x4_1 + 1))) = some r := by first | (rw [hy1104]; with_reducible exact H) | (have H2_ := (Option.bind_some _ _).symm.trans H; rw [hy1104]; with_reducible exact H2_) | (have H2_ := (Option.bind_some _ _).symm.trans H; with_reducible exact H2_) | with_reducible exact H | (rw [hy1104]; exact H) | exact H
    have Ny1104 := Aside0.mk hy1104
    clear hy1104
    have H' := Aside0.mk H
    clear H
    have p1103 : 0 ≤ (x4_1 : Int) := DT
    have q1103 : x4_1 < (l0.length : Int) := DT
    obtain ⟨ad1103, e1103, hx1103_0⟩ := Kd.at_int HR0.out x4_1 p1103 q1103
    cases e1103
    replace hx1103_0 := (HB.out.cell (World.block_lt_of_cell? w _ hx1103_0)).trans hx1103_0
    replace p1103 := eq_true p1103
    replace q1103 := eq_true q1103
    have p9 : 0 ≤ (x4_1 : Int) := DT
    have q9 : (x4_1 : Int) < ((x3_1.length : Int) : Int) := DT
    obtain ⟨go9, co9, eo9, gb9, gl9, cl9, HG9⟩ := Kd.R_form HO_3.out (by omega)
    (first | cases eo9 | (injection eo9 with ea_ en_ ec_; (first | subst ea_ | (injection ea_ with ea_; subst ea_)); subst ec_; clear en_))
    have GB9 := Aside0.mk gb9
    have GG9 := Aside0.mk HG9
    clear gb9 gl9 HG9
    obtain ⟨hx9_0, hf9_0⟩ := Kd.R_celln 0 HO_3.out (x4_1 : Int) p9 q9
    replace p9 := eq_true p9
    replace q9 := eq_true q9
    have HP10 := Kd.R_putg HO_3.out (x4_1 : Int) (rd l0 x4_1)
    go_wp2_with (first | ((with_reducible refine gate_store (t := 3) (p := 20) rfl ?_); refine store_event (t := 3) (p := 20) (v := ?vo_w11) (w1 := (wr.setCell ⟨go9, (x4_1 : Int).toNat, none⟩ (.int .i64 (rd l0 x4_1)))) ?hg ?ho ?hn ?hr ?_; (case ho => rfl); (case hg => rfl); (case hn => rfl); (case hr => first | (go_simp; done) | (go_simp; rfl)); intro w11 hw; have hg : wr.grownBy w11 (some go9) := (by rw [hw]; exact HP10.2); have hp_ : Kd.R (Kd.int .i64) 3 w11 w.heap.size (fun _ => True) (.slice (some ⟨go9, 0, none⟩) x3_1.length co9) y1104 := (by rw [hw, Ny1104.out]; exact HP10.1); clear HP10; replace HO_3 := Aside0.mk (hp_); replace HB := Aside0.mk ((by rw [hw]; exact below_set (HB.out) GB9.out : Below w.heap.size w w11)); clear hg hw hp_))
    go_roundg k1
    case measure => have := HK1.out; omega
    case rel => exact ⟨(y1104), (wrap64 (x4_1 + 1)), EQ1, H', ⟨by have := HK1.out; omega⟩, ⟨rb HO_3.out⟩, ⟨BA⟩⟩
   ·rw [if_neg c6] at H
    have c6b0 := decide_eq_false c6
    clear c6
    obtain rfl := Option.some.inj H
    go_wp2
    go_ret
    exact ⟨_, EQ, rb HO_3.out, BA⟩

/-! ### impl_arePrices_1: function 93 -/
def impl_arePrices_1.f (a0 : Int) : Option (Bool) := (impl_within.f a0 0 1000).bind fun t1105 => (some (!t1105))
theorem impl_arePrices_1.calls (a0 : Int) (r : Bool) (w : World) (h : impl_arePrices_1.f a0 = some r) :
  Calls Try.prog 93 #[.int .i64 a0] w fun e w' => e = .returned (.bool r) ∧ Drawn0 w w' := by
 have H := h
 clear h
 unfold impl_arePrices_1.f at H
 obtain ⟨t1105, A2, H⟩ := ob H
 (try dsimp only at H)
 obtain rfl := Option.some.inj H
 go_enter Try.func93, Try.ntmps93
 go_wp2_with (first | ((with_reducible refine gate_callee (f := 59) rfl ?_); refine gK (some 4) Try.func59 #[.int .i64 a0, .int .i64 0, .int .i64 1000] rfl rfl rfl ?_; (with_reducible refine (impl_within.calls a0 0 1000 t1105 _ A2.out).mono ?_); rintro e w' ⟨rfl, ⟨nd, rfl⟩⟩; refine ⟨_, rfl, ?_⟩))
 go_ret
 exact ⟨EQ1, DA⟩

/-! ### slices_IndexFunc_int_int__impl_arePrices_1: function 111 -/
def slices_IndexFunc_int_int__impl_arePrices_1.l0 : Nat → List Int → Int → Int → Option (Int)
 | 0, _, _, _ => none
 | k + 1, x0, x7, x8 => if x8 < x7 then (if 0 ≤ x8 then (if x8 < (x0.length : Int) then ((impl_arePrices_1.f (rd x0 x8)).bind fun t1107 => (if t1107 = true then (some x8) else (slices_IndexFunc_int_int__impl_arePrices_1.l0 k x0 x7 (wrap64 (x8 + 1))))) else (none)) else (none)) else (some (-1))
def slices_IndexFunc_int_int__impl_arePrices_1.f (k : Nat) (l0 : List Int)  : Option (Int) := slices_IndexFunc_int_int__impl_arePrices_1.l0 k l0 (l0.length : Int) 0
theorem slices_IndexFunc_int_int__impl_arePrices_1.calls (k : Nat) (A0 : Option Addr) (c0 : Nat) (l0 : List Int)  (r : Int) (w : World) (hr0 : Kd.C (Kd.int .i64) w A0 l0.length l0) (hc0 : l0.length ≤ c0) (h : slices_IndexFunc_int_int__impl_arePrices_1.f k l0 = some r) :
  Calls Try.prog 111 #[.slice A0 l0.length c0, .func (.func 93) #[] #[]] w fun e w' => e = .returned (.int .i64 r) ∧ Drawn0 w w' := by
 have HR0 := Aside0.mk hr0
 have HC0 := Aside0.mk hc0
 clear hr0 hc0
 have H := h
 clear h
 unfold slices_IndexFunc_int_int__impl_arePrices_1.f at H
 have H' := Aside0.mk H
 clear H
 go_enter Try.func111, Try.ntmps111
 go_wp2
 go_loopg [8] k (fun kq v8 w' => ∃ (x8_1 : Int), v8 = .int .i64 x8_1 ∧ Aside0 (slices_IndexFunc_int_int__impl_arePrices_1.l0 kq l0 (l0.length : Int) x8_1 = some r) ∧ Aside0 (kq ≤ k) ∧ Drawn0 w w')
 case atStart => exact ⟨(0), EQ1, H', ⟨Nat.le_refl _⟩, DA⟩
 case round =>
  clear H'
  obtain ⟨x8_1, rfl, HA, HK1, ⟨m1, rfl⟩⟩ := hrel
  cases gk with
  | zero => exact absurd HA.out (by simp [slices_IndexFunc_int_int__impl_arePrices_1.l0])
  | succ k1 =>
   have H := HA.out
   clear HA
   simp only [slices_IndexFunc_int_int__impl_arePrices_1.l0] at H
   by_cases c3 : x8_1 < (l0.length : Int)
   ·rw [if_pos c3] at H
    have c3b0 := decide_eq_true c3
    clear c3
    obtain ⟨c4, H⟩ := ifs H
    have c4b0 := decide_eq_true c4
    clear c4
    obtain ⟨c5, H⟩ := ifs H
    have c5b0 := decide_eq_true c5
    clear c5
    obtain ⟨t1107, A6, H⟩ := ob H
    (try dsimp only at H)
    by_cases c7 : t1107 = true
    ·subst c7
     rw [if_pos rfl] at H
     obtain rfl := Option.some.inj H
     have p1106 : 0 ≤ (x8_1 : Int) := DT
     have q1106 : x8_1 < (l0.length : Int) := DT
     obtain ⟨ad1106, e1106, hx1106_0⟩ := Kd.at_int HR0.out x8_1 p1106 q1106
     cases e1106
     replace p1106 := eq_true p1106
     replace q1106 := eq_true q1106
     go_wp2_with (first | (go_at_call 93; (with_reducible refine (impl_arePrices_1.calls (rd l0 x8_1) true _ A6.out).mono ?_); rintro e w' ⟨rfl, ⟨nd, rfl⟩⟩))
     go_ret
     exact ⟨EQ1, DA⟩
    ·replace c7 := Bool.eq_false_iff.mpr c7
     subst c7
     rw [if_neg (show ¬ (false = true) by decide)] at H
     have H' := Aside0.mk H
     clear H
     have p1106 : 0 ≤ (x8_1 : Int) := DT
     have q1106 : x8_1 < (l0.length : Int) := DT
     obtain ⟨ad1106, e1106, hx1106_0⟩ := Kd.at_int HR0.out x8_1 p1106 q1106
     cases e1106
     replace p1106 := eq_true p1106
     replace q1106 := eq_true q1106
     go_wp2_with (first | (go_at_call 93; (with_reducible refine (impl_arePrices_1.calls (rd l0 x8_1) false _ A6.out).mono ?_); rintro e w' ⟨rfl, ⟨nd, rfl⟩⟩))
     go_roundg k1
     case measure => have := HK1.out; omega
     case rel => exact ⟨(wrap64 (x8_1 + 1)), EQ1, H', ⟨by have := HK1.out; omega⟩, DA⟩
   ·rw [if_neg c3] at H
    have c3b0 := decide_eq_false c3
    clear c3
    obtain rfl := Option.some.inj H
    go_wp2
    go_ret
    exact ⟨EQ1, DA⟩

/-! ### slices_ContainsFunc_int_int__impl_arePrices_1: function 88 -/
def slices_ContainsFunc_int_int__impl_arePrices_1.f (k : Nat) (l0 : List Int)  : Option (Bool) := (slices_IndexFunc_int_int__impl_arePrices_1.f k l0).bind fun t1108 => (some (decide (t1108 ≥ 0)))
theorem slices_ContainsFunc_int_int__impl_arePrices_1.calls (k : Nat) (A0 : Option Addr) (c0 : Nat) (l0 : List Int)  (r : Bool) (w : World) (hr0 : Kd.C (Kd.int .i64) w A0 l0.length l0) (hc0 : l0.length ≤ c0) (h : slices_ContainsFunc_int_int__impl_arePrices_1.f k l0 = some r) :
  Calls Try.prog 88 #[.slice A0 l0.length c0, .func (.func 93) #[] #[]] w fun e w' => e = .returned (.bool r) ∧ Drawn0 w w' := by
 have HR0 := Aside0.mk hr0
 have HC0 := Aside0.mk hc0
 clear hr0 hc0
 have H := h
 clear h
 unfold slices_ContainsFunc_int_int__impl_arePrices_1.f at H
 obtain ⟨t1108, A3, H⟩ := ob H
 (try dsimp only at H)
 obtain rfl := Option.some.inj H
 go_enter Try.func88, Try.ntmps88
 go_wp2_with (first | ((with_reducible refine gate_callee (f := 111) rfl ?_); refine gK (some 7) Try.func111 #[.slice A0 l0.length c0, .func (.func 93) #[] #[]] rfl rfl rfl ?_; (with_reducible refine (slices_IndexFunc_int_int__impl_arePrices_1.calls k _ _ l0  t1108 _ ?side1 ?side2 A3.out).mono ?_); (case side1 => exact cb HR0.out); (case side2 => exact HC0.out); rintro e w' ⟨rfl, ⟨nd, rfl⟩⟩; refine ⟨_, rfl, ?_⟩))
 go_ret
 exact ⟨EQ1, DA⟩

/-! ### impl_arePrices: function 63 -/
def impl_arePrices.f (k : Nat) (l0 : List (S54)) (l1 : List Int) : Option (Bool) := if (l1.length : Int) = (l0.length : Int) then ((slices_ContainsFunc_int_int__impl_arePrices_1.f k l1).bind fun t1109 => (some (!t1109))) else (some false)
theorem impl_arePrices.calls (k : Nat) (A0 : Option Addr) (c0 : Nat) (l0 : List (S54)) (A1 : Option Addr) (c1 : Nat) (l1 : List Int) (r : Bool) (w : World) (hr0 : Kd.C k54 w A0 l0.length l0) (hc0 : l0.length ≤ c0) (hr1 : Kd.C (Kd.int .i64) w A1 l1.length l1) (hc1 : l1.length ≤ c1) (h : impl_arePrices.f k l0 l1 = some r) :
  Calls Try.prog 63 #[.slice A0 l0.length c0, .slice A1 l1.length c1] w fun e w' => e = .returned (.bool r) ∧ Drawn0 w w' := by
 have HR0 := Aside0.mk hr0
 have HC0 := Aside0.mk hc0
 clear hr0 hc0
 have HR1 := Aside0.mk hr1
 have HC1 := Aside0.mk hc1
 clear hr1 hc1
 have H := h
 clear h
 unfold impl_arePrices.f at H
 by_cases c3 : (l1.length : Int) = (l0.length : Int)
 ·rw [if_pos c3] at H
  have c3b0 := beq_iff_eq.mpr c3
  have c3b1 := bne_eq_false_iff_eq.mpr c3
  have c3b2 : (l1.length == l0.length) = true := by first | simpa using c3 | (simp at c3 ⊢; omega)
  clear c3
  obtain ⟨t1109, A4, H⟩ := ob H
  (try dsimp only at H)
  obtain rfl := Option.some.inj H
  go_enter Try.func63, Try.ntmps63
  go_wp2_with (first | (go_at_call 88; (with_reducible refine (slices_ContainsFunc_int_int__impl_arePrices_1.calls k _ _ l1  t1109 _ ?side1 ?side2 A4.out).mono ?_); (case side1 => exact cb HR1.out); (case side2 => exact HC1.out); rintro e w' ⟨rfl, ⟨nd, rfl⟩⟩))
  go_ret
  exact ⟨EQ1, DA⟩
 ·rw [if_neg c3] at H
  have c3b0 := beq_eq_false_iff_ne.mpr c3
  have c3b1 := bne_iff_ne.mpr c3
  have c3b2 : (l1.length == l0.length) = false := by first | simpa using c3 | (simp at c3 ⊢; omega)
  obtain rfl := Option.some.inj H
  go_enter Try.func63, Try.ntmps63
  go_wp2
  go_ret
  exact ⟨EQ1, DA⟩

/-! ### impl_unfair: function 64 -/
mutual
def impl_unfair.l0 : Nat → List (S54) → List Int → Int → Int → Option (Int × Int × Bool)
 | 0, _, _, _, _ => none
 | k + 1, x0, x1, x13, x14 => if x14 < x13 then ((impl_tilesAt.f k x0 x14).bind fun t1113 => (impl_unfair.l1 k x0 x1 x14 x13 x14 t1113 (t1113.length : Int) 0)) else (some (0, 0, false))
def impl_unfair.l1 : Nat → List (S54) → List Int → Int → Int → Int → List Int → Int → Int → Option (Int × Int × Bool)
 | 0, _, _, _, _, _, _, _, _ => none
 | k + 1, x0, x1, x7, x13, x14, x19, x20, x21 => if x21 < x20 then (if 0 ≤ x21 then (if x21 < (x19.length : Int) then ((impl_tileAt.f k x0 x7 (rd x19 x21)).bind fun bt1117 => (if 0 ≤ x7 then (if x7 < (x1.length : Int) then ((impl_tile_total.f k bt1117.1 bt1117.2.1 bt1117.2.2.1 x1).bind fun t1127 => (if (rd x1 x7) > t1127 then (some (x7, rd x19 x21, true)) else (impl_unfair.l1 k x0 x1 x7 x13 x14 x19 x20 (wrap64 (x21 + 1))))) else (none)) else (none))) else (none)) else (none)) else (impl_unfair.l0 k x0 x1 x13 (wrap64 (x14 + 1)))
end
def impl_unfair.f (k : Nat) (l0 : List (S54)) (l1 : List Int) : Option (Int × Int × Bool) := impl_unfair.l0 k l0 l1 (l0.length : Int) 0
def impl_unfair.T8 : Bool × List (List Nat × List Nat) := (true, [([], []), ([], []), ([0, 1], [0, 1]), ([2], [2]), ([], []), ([], []), ([4, 5], [4, 5]), ([3, 6], [3, 6])])
def impl_unfair.B8 : List Nat := [0, 0, 3, 7, 0, 0, 48, 127]
theorem impl_unfair.tab8 : rtab .any (opsOf Try.f64 8) = impl_unfair.T8 := by kernel_rfl
theorem impl_unfair.bits8 : waitsOk impl_unfair.T8.2 impl_unfair.B8 = true := by kernel_rfl
theorem impl_unfair.calls (k : Nat) (A0 : Option Addr) (c0 : Nat) (l0 : List (S54)) (A1 : Option Addr) (c1 : Nat) (l1 : List Int) (r1 : Int) (r2 : Int) (r3 : Bool) (w : World) (hr0 : Kd.C k54 w A0 l0.length l0) (hc0 : l0.length ≤ c0) (hr1 : Kd.C (Kd.int .i64) w A1 l1.length l1) (hc1 : l1.length ≤ c1) (h : impl_unfair.f k l0 l1 = some (r1, r2, r3)) :
  Calls Try.prog 64 #[.slice A0 l0.length c0, .slice A1 l1.length c1] w fun e w' => e = .returned (.tuple #[.int .i64 r1, .int .i64 r2, .bool r3]) ∧ Below w.heap.size w w' := by
 have hu57 := Try.underlying57
 have HR0 := Aside0.mk hr0
 have HC0 := Aside0.mk hc0
 clear hr0 hc0
 have HR1 := Aside0.mk hr1
 have HC1 := Aside0.mk hc1
 clear hr1 hc1
 have HB := Aside0.mk (Below.refl w.heap.size w)
 have H := h
 clear h
 unfold impl_unfair.f at H
 have H' := Aside0.mk H
 clear H
 go_enter Try.func64, Try.ntmps64
 go_wp2
 go_loopg [14] k (fun kq v14 w' => ∃ (x14_1 : Int), v14 = .int .i64 x14_1 ∧ Aside0 (impl_unfair.l0 kq l0 l1 (l0.length : Int) x14_1 = some (r1, r2, r3)) ∧ Aside0 (kq ≤ k) ∧ Aside0 (Below w.heap.size w w'))
 case atStart => exact ⟨(0), EQ1, H', ⟨Nat.le_refl _⟩, ⟨BA⟩⟩
 case round =>
  clear H'
  (try clear c1)
  obtain ⟨x14_1, rfl, HA, HK1, HB⟩ := hrel
  cases gk with
  | zero => exact absurd HA.out (by simp [impl_unfair.l0])
  | succ k1 =>
   have H := HA.out
   clear HA
   simp only [impl_unfair.l0] at H
   by_cases c3 : x14_1 < (l0.length : Int)
   ·rw [if_pos c3] at H
    have c3b0 := decide_eq_true c3
    clear c3
    obtain ⟨t1113, A4, H⟩ := ob H
    (try dsimp only at H)
    have H' := Aside0.mk H
    clear H
    go_wp2_with (first | ((with_reducible refine gate_callee (f := 60) rfl ?_); refine gK (some 19) Try.func60 #[.slice A0 l0.length c0, .int .i64 x14_1] rfl rfl rfl ?_; (with_reducible refine (impl_tilesAt.calls k1 _ _ l0 x14_1 t1113 _ ?side1 ?side2 A4.out).mono ?_); (case side1 => exact cb (Kd.C_below HR0.out HB.out)); (case side2 => exact HC0.out); rintro e w5 ⟨v1114, rfl, ho0, hb⟩; refine ⟨_, rfl, ?_⟩; have HO1115 := Aside0.mk (Kd.R_lower ho0 (below_size BA)); replace HB := bs hb; (try clear hb); (try clear ho0); obtain ⟨Ao6, co6, eo6⟩ := Kd.R_slice HO1115.out; subst eo6))
    go_loopg [21] k1 (fun kq v21 w' => ∃ (x21_2 : Int), v21 = .int .i64 x21_2 ∧ Aside0 (impl_unfair.l1 kq l0 l1 x14_1 (l0.length : Int) x14_1 t1113 (t1113.length : Int) x21_2 = some (r1, r2, r3)) ∧ Aside0 (kq ≤ k1) ∧ Aside0 (Kd.R (Kd.int .i64) 3 w' w.heap.size (fun _ => True) (.slice Ao6 t1113.length co6) t1113) ∧ Aside0 (Below w.heap.size w w'))
    case atStart => exact ⟨(0), EQ1, H', ⟨Nat.le_refl _⟩, ⟨rb HO1115.out⟩, ⟨BA⟩⟩
    case round =>
     clear H'
     (try clear c1); (try clear c3b0)
     obtain ⟨x21_2, rfl, HA, HK2, HO_19, HB⟩ := hrel
     cases gk with
     | zero => exact absurd HA.out (by simp [impl_unfair.l1])
     | succ k2 =>
      have H := HA.out
      clear HA
      simp only [impl_unfair.l1] at H
      by_cases c7 : x21_2 < (t1113.length : Int)
      ·rw [if_pos c7] at H
       have c7b0 := decide_eq_true c7
       clear c7
       obtain ⟨c8, H⟩ := ifs H
       have c8b0 := decide_eq_true c8
       clear c8
       obtain ⟨c9, H⟩ := ifs H
       have c9b0 := decide_eq_true c9
       clear c9
       replace H := Option.bind_eq_some_iff.mp H
       obtain ⟨⟨t1117, t1120, t1123, t1124⟩, A100, H⟩ := H
       (try dsimp only at H)
       have A10 := Aside0.mk A100
       clear A100
       obtain ⟨c11, H⟩ := ifs H
       have c11b0 := decide_eq_true c11
       clear c11
       obtain ⟨c12, H⟩ := ifs H
       have c12b0 := decide_eq_true c12
       clear c12
       obtain ⟨t1127, A13, H⟩ := ob H
       (try dsimp only at H)
       by_cases c14 : (rd l1 x14_1) > t1127
       ·rw [if_pos c14] at H
        have c14b0 := decide_eq_true c14
        clear c14
        simp only [Option.some.injEq, Prod.mk.injEq] at H
        obtain ⟨rfl, rfl, rfl⟩ := H
        have p1116 : 0 ≤ (x21_2 : Int) := DT
        have q1116 : x21_2 < (t1113.length : Int) := DT
        obtain ⟨ad1116, e1116, hx1116_0⟩ := Kd.at_int (Kd.R_reads' HO_19.out).2.2 x21_2 p1116 q1116
        cases e1116
        replace p1116 := eq_true p1116
        replace q1116 := eq_true q1116
        try go_wp2_with (first | ((with_reducible refine gate_callee (f := 78) rfl ?_); refine gK (some 29) Try.func78 #[.slice A0 l0.length c0, .int .i64 x14_1, .int .i64 (rd t1113 x21_2)] rfl rfl rfl ?_; (with_reducible refine (impl_tileAt.calls k2 _ _ l0 x14_1 (rd t1113 x21_2) t1117 t1120 t1123 t1124 _ ?side1 ?side2 A10.out).mono ?_); (case side1 => exact cb (Kd.C_below HR0.out HB.out)); (case side2 => exact HC0.out); rintro e w15 ⟨v1118, v1121, rfl, ho0, ho1, hb⟩; refine ⟨_, rfl, ?_⟩; have HO1119 := Aside0.mk (Kd.R_lower (Kd.R_new' ho0 (Kd.R_lt (rb HO_19.out))) (below_size BA)); have HO1122 := Aside0.mk (Kd.R_lower (Kd.R_new' ho1 (Kd.R_lt (rb HO_19.out))) (below_size BA)); replace HO_19 := Aside0.mk (Kd.R_mono (Kd.R_told (Kd.R_told (Kd.R_old (rb HO_19.out) hb) (Kd.R_base ho0)) (Kd.R_base ho1)) (fun _ h_ => h_.1)); replace HB := bs hb; (try clear hb); (try clear ho0); (try clear ho1)) | ((with_reducible refine gd 10 rfl ?_); refine bx 10 #[.slice none 0 0, .slice none 0 0, .int .i64 0] 57 ?_; intro gb1125 hg w16 BK1125 GW1125 HB hb; replace HO_19 := Aside0.mk (Kd.R_below (rb HO_19.out) hb); replace HO1119 := Aside0.mk (Kd.R_below (rb HO1119.out) hb); replace HO1122 := Aside0.mk (Kd.R_below (rb HO1122.out) hb); have GE1125 := GW1125; clear hb hg; obtain ⟨Ao17, co17, eo17⟩ := Kd.R_slice HO1119.out; subst eo17; obtain ⟨hcz18_0, hcz18_1, hcz18_2⟩ := bc3 BK1125.out; have hfz18 := blk_frozen BK1125.out; obtain ⟨Ao19, co19, eo19⟩ := Kd.R_slice HO1122.out; subst eo19))
        have n0_ : Aside0 (Kd.R (Kd.int .i64) 3 (((w16.setCell ⟨gb1125, 0, none⟩ (.slice Ao17 t1117.length co17)).setCell ⟨gb1125, 1, none⟩ (.slice Ao19 t1120.length co19)).setCell ⟨gb1125, 2, none⟩ (.int .i64 t1123)) w.heap.size (fun k_ => some k_ ≠ (.slice Ao17 t1117.length co17 : Value).ownBlock ∧ some k_ ≠ (.slice Ao19 t1120.length co19 : Value).ownBlock) (.slice (some ad1116) t1113.length co6) t1113) := ⟨rb (Kd.R_mono (Kd.R_far (p := ⟨gb1125, 2, none⟩) (Kd.R_far (p := ⟨gb1125, 1, none⟩) (Kd.R_far (p := ⟨gb1125, 0, none⟩) (Kd.R_types HO_19.out BK1125.out (by decide)) (fun _ hk => hk.2) (.slice Ao17 t1117.length co17)) (fun _ hk => hk.2) (.slice Ao19 t1120.length co19)) (fun _ hk => hk.2) (.int .i64 t1123)) (fun _ hk => ⟨hk.1.1.2, hk.1.2⟩))⟩
        have n1_ : Aside0 (Kd.R (Kd.int .i64) 3 (((w16.setCell ⟨gb1125, 0, none⟩ (.slice Ao17 t1117.length co17)).setCell ⟨gb1125, 1, none⟩ (.slice Ao19 t1120.length co19)).setCell ⟨gb1125, 2, none⟩ (.int .i64 t1123)) w.heap.size (fun k_ => some k_ ≠ (.slice (some ad1116) t1113.length co6 : Value).ownBlock ∧ some k_ ≠ (.slice Ao19 t1120.length co19 : Value).ownBlock) (.slice Ao17 t1117.length co17) t1117) := ⟨rb (Kd.R_mono (Kd.R_far (p := ⟨gb1125, 2, none⟩) (Kd.R_far (p := ⟨gb1125, 1, none⟩) (Kd.R_far (p := ⟨gb1125, 0, none⟩) (Kd.R_types HO1119.out BK1125.out (by decide)) (fun _ hk => hk.2) (.slice Ao17 t1117.length co17)) (fun _ hk => hk.2) (.slice Ao19 t1120.length co19)) (fun _ hk => hk.2) (.int .i64 t1123)) (fun _ hk => ⟨hk.1.2, hk.1.1⟩))⟩
        have n2_ : Aside0 (Kd.R (Kd.int .i64) 3 (((w16.setCell ⟨gb1125, 0, none⟩ (.slice Ao17 t1117.length co17)).setCell ⟨gb1125, 1, none⟩ (.slice Ao19 t1120.length co19)).setCell ⟨gb1125, 2, none⟩ (.int .i64 t1123)) w.heap.size (fun k_ => some k_ ≠ (.slice (some ad1116) t1113.length co6 : Value).ownBlock ∧ some k_ ≠ (.slice Ao17 t1117.length co17 : Value).ownBlock) (.slice Ao19 t1120.length co19) t1120) := ⟨rb (Kd.R_mono (Kd.R_far (p := ⟨gb1125, 2, none⟩) (Kd.R_far (p := ⟨gb1125, 1, none⟩) (Kd.R_far (p := ⟨gb1125, 0, none⟩) (Kd.R_types HO1122.out BK1125.out (by decide)) (fun _ hk => hk.2) (.slice Ao17 t1117.length co17)) (fun _ hk => hk.2) (.slice Ao19 t1120.length co19)) (fun _ hk => hk.2) (.int .i64 t1123)) (fun _ hk => ⟨hk.1.2, hk.1.1⟩))⟩
        have n3_ : Aside0 ((((w16.setCell ⟨gb1125, 0, none⟩ (.slice Ao17 t1117.length co17)).setCell ⟨gb1125, 1, none⟩ (.slice Ao19 t1120.length co19)).setCell ⟨gb1125, 2, none⟩ (.int .i64 t1123)).heap[gb1125]? = some (.cells #[.slice Ao17 t1117.length co17, .slice Ao19 t1120.length co19, .int .i64 t1123] 57 (0, 0))) := ⟨by (with_reducible repeat (first | refine blk_drewN ?_ _ | refine blk_drew ?_ | refine blk_alloc ?_ _)); refine blk_put (cs := #[.slice Ao17 t1117.length co17, .slice Ao19 t1120.length co19, .int .i64 0]) ?_ 2 _ rfl; (with_reducible repeat (first | refine blk_drewN ?_ _ | refine blk_drew ?_ | refine blk_alloc ?_ _)); refine blk_put (cs := #[.slice Ao17 t1117.length co17, .slice none 0 0, .int .i64 0]) ?_ 1 _ rfl; (with_reducible repeat (first | refine blk_drewN ?_ _ | refine blk_drew ?_ | refine blk_alloc ?_ _)); refine blk_put (cs := #[.slice none 0 0, .slice none 0 0, .int .i64 0]) ?_ 0 _ rfl; (with_reducible repeat (first | refine blk_drewN ?_ _ | refine blk_drew ?_ | refine blk_alloc ?_ _)); exact BK1125.out⟩
        have n4_ : Aside0 (Below w.heap.size w (((w16.setCell ⟨gb1125, 0, none⟩ (.slice Ao17 t1117.length co17)).setCell ⟨gb1125, 1, none⟩ (.slice Ao19 t1120.length co19)).setCell ⟨gb1125, 2, none⟩ (.int .i64 t1123))) := ⟨BA⟩
        (try clear HO_19)
        (try clear HO1119)
        (try clear HO1122)
        (try clear BK1125)
        (try clear HB)
        generalize (((w16.setCell ⟨gb1125, 0, none⟩ (.slice Ao17 t1117.length co17)).setCell ⟨gb1125, 1, none⟩ (.slice Ao19 t1120.length co19)).setCell ⟨gb1125, 2, none⟩ (.int .i64 t1123)) = w20 at n0_ n1_ n2_ n3_ n4_ ⊢
        have HO_19 := n0_
        have HO1119 := n1_
        have HO1122 := n2_
        have BK1125 := n3_
        have HB := n4_
        clear n0_ n1_ n2_ n3_ n4_
        replace HO_19 := Aside0.mk (Kd.R_drew HO_19.out); replace HO1119 := Aside0.mk (Kd.R_drew HO1119.out); replace HO1122 := Aside0.mk (Kd.R_drew HO1122.out); replace BK1125 := Aside0.mk (blk_drew BK1125.out); replace HB := Aside0.mk (below_drew1 HB.out)
        have p1126 : 0 ≤ (x14_1 : Int) := DT
        have q1126 : x14_1 < (l1.length : Int) := DT
        obtain ⟨ad1126, e1126, hx1126_0⟩ := Kd.at_int HR1.out x14_1 p1126 q1126
        have hw1126_0 := hx1126_0
        cases e1126
        replace hx1126_0 := (HB.out.cell (World.block_lt_of_cell? w _ hx1126_0)).trans hx1126_0
        replace p1126 := eq_true p1126
        replace q1126 := eq_true q1126
        refine start_ (n := 8) (S := fun w' => w'.cell? ⟨gb1125, 0, none⟩ = some (.slice Ao17 t1117.length co17) ∧ w'.cell? ⟨gb1125, 1, none⟩ = some (.slice Ao19 t1120.length co19) ∧ w'.cell? ⟨gb1125, 2, none⟩ = some (.int .i64 t1123) ∧ w'.cell? (ad1126.add (x14_1).toNat) = some (.int .i64 (rd l1 x14_1))) (ds := []) (mk 8 0) (by kernel_rfl) rfl (by kernel_rfl) ⟨(blk_cell BK1125.out 0).trans rfl, (blk_cell BK1125.out 1).trans rfl, (blk_cell BK1125.out 2).trans rfl, ((HB.out.cell (World.block_lt_of_cell? w _ hw1126_0)).trans hw1126_0)⟩ (fun hHeld => ?_); refine with_tabW impl_unfair.tab8 impl_unfair.bits8 (fun HT_ HW_ => ?_)
        generalize w20.drew = w21 at HO_19 HO1119 HO1122 BK1125 HB hx1126_0 hHeld ⊢
        refine pu 0 32 8 1 rfl rfl ?_
        refine pu 1 33 8 3 rfl rfl ?_
        refine pu 2 34 8 7 rfl rfl ?_
        refine pu 5 37 8 39 rfl rfl ?_
        refine ta 3 35 8 47 rfl rfl ?_
        refine ta 4 36 8 63 rfl rfl ?_
        refine one_ (i := 6) (N := some 38) (mk 8 127) rfl rfl (one_of HT_.out (by kernel_rfl)) (by decide) (fun K hK => ?_)
        refine goes_ Try.func94 (by kernel_rfl) rfl #[.agg #[.slice Ao17 t1117.length co17, .slice Ao19 t1120.length co19, .int .i64 t1123], .slice (some ad1126) l1.length c1] (by rfl) rfl rfl (by (try simp only [List.map_toArray, List.map_cons, List.map_nil]); first | done | rfl | (simp only [List.length_drop, List.length_take]; rfl)) ?_
        with_reducible refine (impl_tile_total.calls k2 _ _ t1117 _ _ t1120 t1123 _ _ l1 t1127 _ ?side1 ?side2 ?side3 ?side4 ?side5 ?side6 A13.out).mono ?_
        (case side1 => exact cb (Kd.R_reads' HO1119.out).2.2)
        (case side2 => exact (Kd.R_reads' HO1119.out).2.1)
        (case side3 => exact cb (Kd.R_reads' HO1122.out).2.2)
        (case side4 => exact (Kd.R_reads' HO1122.out).2.1)
        (case side5 => exact cb (Kd.C_below HR1.out HB.out))
        (case side6 => exact HC1.out)
        rintro e w22 ⟨rfl, hb⟩
        refine ⟨_, rfl, ?_⟩
        replace HO_19 := Aside0.mk (Kd.R_below (rb HO_19.out) hb); replace HO1119 := Aside0.mk (Kd.R_below (rb HO1119.out) hb); replace HO1122 := Aside0.mk (Kd.R_below (rb HO1122.out) hb); replace BK1125 := kb BK1125 hb; replace HB := bs hb
        (try clear hb)
        (try clear hk)
        refine hK.out _ _ ⟨(blk_cell BK1125.out 0).trans rfl, (blk_cell BK1125.out 1).trans rfl, (blk_cell BK1125.out 2).trans rfl, ((HB.out.cell (World.block_lt_of_cell? w _ hw1126_0)).trans hw1126_0)⟩ (fun hHeld => ?_)
        clear hK K
        refine nm 38 ?_
        refine pu 7 39 8 255 rfl rfl ?_
        refine done_ (done_of HT_.out (by kernel_rfl)) ?_
        try go_wp2
        go_ret3
        exact ⟨EQ, BA⟩
       ·rw [if_neg c14] at H
        have c14b0 := decide_eq_false c14
        clear c14
        have H' := Aside0.mk H
        clear H
        have p1116 : 0 ≤ (x21_2 : Int) := DT
        have q1116 : x21_2 < (t1113.length : Int) := DT
        obtain ⟨ad1116, e1116, hx1116_0⟩ := Kd.at_int (Kd.R_reads' HO_19.out).2.2 x21_2 p1116 q1116
        cases e1116
        replace p1116 := eq_true p1116
        replace q1116 := eq_true q1116
        try go_wp2_with (first | ((with_reducible refine gate_callee (f := 78) rfl ?_); refine gK (some 29) Try.func78 #[.slice A0 l0.length c0, .int .i64 x14_1, .int .i64 (rd t1113 x21_2)] rfl rfl rfl ?_; (with_reducible refine (impl_tileAt.calls k2 _ _ l0 x14_1 (rd t1113 x21_2) t1117 t1120 t1123 t1124 _ ?side1 ?side2 A10.out).mono ?_); (case side1 => exact cb (Kd.C_below HR0.out HB.out)); (case side2 => exact HC0.out); rintro e w23 ⟨v1118, v1121, rfl, ho0, ho1, hb⟩; refine ⟨_, rfl, ?_⟩; have HO1119 := Aside0.mk (Kd.R_lower (Kd.R_new' ho0 (Kd.R_lt (rb HO_19.out))) (below_size BA)); have HO1122 := Aside0.mk (Kd.R_lower (Kd.R_new' ho1 (Kd.R_lt (rb HO_19.out))) (below_size BA)); replace HO_19 := Aside0.mk (Kd.R_mono (Kd.R_told (Kd.R_told (Kd.R_old (rb HO_19.out) hb) (Kd.R_base ho0)) (Kd.R_base ho1)) (fun _ h_ => h_.1)); replace HB := bs hb; (try clear hb); (try clear ho0); (try clear ho1)) | ((with_reducible refine gd 10 rfl ?_); refine bx 10 #[.slice none 0 0, .slice none 0 0, .int .i64 0] 57 ?_; intro gb1125 hg w24 BK1125 GW1125 HB hb; replace HO_19 := Aside0.mk (Kd.R_below (rb HO_19.out) hb); replace HO1119 := Aside0.mk (Kd.R_below (rb HO1119.out) hb); replace HO1122 := Aside0.mk (Kd.R_below (rb HO1122.out) hb); have GE1125 := GW1125; clear hb hg; obtain ⟨Ao25, co25, eo25⟩ := Kd.R_slice HO1119.out; subst eo25; obtain ⟨hcz26_0, hcz26_1, hcz26_2⟩ := bc3 BK1125.out; have hfz26 := blk_frozen BK1125.out; obtain ⟨Ao27, co27, eo27⟩ := Kd.R_slice HO1122.out; subst eo27))
        have n0_ : Aside0 (Kd.R (Kd.int .i64) 3 (((w24.setCell ⟨gb1125, 0, none⟩ (.slice Ao25 t1117.length co25)).setCell ⟨gb1125, 1, none⟩ (.slice Ao27 t1120.length co27)).setCell ⟨gb1125, 2, none⟩ (.int .i64 t1123)) w.heap.size (fun k_ => some k_ ≠ (.slice Ao25 t1117.length co25 : Value).ownBlock ∧ some k_ ≠ (.slice Ao27 t1120.length co27 : Value).ownBlock) (.slice (some ad1116) t1113.length co6) t1113) := ⟨rb (Kd.R_mono (Kd.R_far (p := ⟨gb1125, 2, none⟩) (Kd.R_far (p := ⟨gb1125, 1, none⟩) (Kd.R_far (p := ⟨gb1125, 0, none⟩) (Kd.R_types HO_19.out BK1125.out (by decide)) (fun _ hk => hk.2) (.slice Ao25 t1117.length co25)) (fun _ hk => hk.2) (.slice Ao27 t1120.length co27)) (fun _ hk => hk.2) (.int .i64 t1123)) (fun _ hk => ⟨hk.1.1.2, hk.1.2⟩))⟩
        have n1_ : Aside0 (Kd.R (Kd.int .i64) 3 (((w24.setCell ⟨gb1125, 0, none⟩ (.slice Ao25 t1117.length co25)).setCell ⟨gb1125, 1, none⟩ (.slice Ao27 t1120.length co27)).setCell ⟨gb1125, 2, none⟩ (.int .i64 t1123)) w.heap.size (fun k_ => some k_ ≠ (.slice (some ad1116) t1113.length co6 : Value).ownBlock ∧ some k_ ≠ (.slice Ao27 t1120.length co27 : Value).ownBlock) (.slice Ao25 t1117.length co25) t1117) := ⟨rb (Kd.R_mono (Kd.R_far (p := ⟨gb1125, 2, none⟩) (Kd.R_far (p := ⟨gb1125, 1, none⟩) (Kd.R_far (p := ⟨gb1125, 0, none⟩) (Kd.R_types HO1119.out BK1125.out (by decide)) (fun _ hk => hk.2) (.slice Ao25 t1117.length co25)) (fun _ hk => hk.2) (.slice Ao27 t1120.length co27)) (fun _ hk => hk.2) (.int .i64 t1123)) (fun _ hk => ⟨hk.1.2, hk.1.1⟩))⟩
        have n2_ : Aside0 (Kd.R (Kd.int .i64) 3 (((w24.setCell ⟨gb1125, 0, none⟩ (.slice Ao25 t1117.length co25)).setCell ⟨gb1125, 1, none⟩ (.slice Ao27 t1120.length co27)).setCell ⟨gb1125, 2, none⟩ (.int .i64 t1123)) w.heap.size (fun k_ => some k_ ≠ (.slice (some ad1116) t1113.length co6 : Value).ownBlock ∧ some k_ ≠ (.slice Ao25 t1117.length co25 : Value).ownBlock) (.slice Ao27 t1120.length co27) t1120) := ⟨rb (Kd.R_mono (Kd.R_far (p := ⟨gb1125, 2, none⟩) (Kd.R_far (p := ⟨gb1125, 1, none⟩) (Kd.R_far (p := ⟨gb1125, 0, none⟩) (Kd.R_types HO1122.out BK1125.out (by decide)) (fun _ hk => hk.2) (.slice Ao25 t1117.length co25)) (fun _ hk => hk.2) (.slice Ao27 t1120.length co27)) (fun _ hk => hk.2) (.int .i64 t1123)) (fun _ hk => ⟨hk.1.2, hk.1.1⟩))⟩
        have n3_ : Aside0 ((((w24.setCell ⟨gb1125, 0, none⟩ (.slice Ao25 t1117.length co25)).setCell ⟨gb1125, 1, none⟩ (.slice Ao27 t1120.length co27)).setCell ⟨gb1125, 2, none⟩ (.int .i64 t1123)).heap[gb1125]? = some (.cells #[.slice Ao25 t1117.length co25, .slice Ao27 t1120.length co27, .int .i64 t1123] 57 (0, 0))) := ⟨by (with_reducible repeat (first | refine blk_drewN ?_ _ | refine blk_drew ?_ | refine blk_alloc ?_ _)); refine blk_put (cs := #[.slice Ao25 t1117.length co25, .slice Ao27 t1120.length co27, .int .i64 0]) ?_ 2 _ rfl; (with_reducible repeat (first | refine blk_drewN ?_ _ | refine blk_drew ?_ | refine blk_alloc ?_ _)); refine blk_put (cs := #[.slice Ao25 t1117.length co25, .slice none 0 0, .int .i64 0]) ?_ 1 _ rfl; (with_reducible repeat (first | refine blk_drewN ?_ _ | refine blk_drew ?_ | refine blk_alloc ?_ _)); refine blk_put (cs := #[.slice none 0 0, .slice none 0 0, .int .i64 0]) ?_ 0 _ rfl; (with_reducible repeat (first | refine blk_drewN ?_ _ | refine blk_drew ?_ | refine blk_alloc ?_ _)); exact BK1125.out⟩
        have n4_ : Aside0 (Below w.heap.size w (((w24.setCell ⟨gb1125, 0, none⟩ (.slice Ao25 t1117.length co25)).setCell ⟨gb1125, 1, none⟩ (.slice Ao27 t1120.length co27)).setCell ⟨gb1125, 2, none⟩ (.int .i64 t1123))) := ⟨BA⟩
        (try clear HO_19)
        (try clear HO1119)
        (try clear HO1122)
        (try clear BK1125)
        (try clear HB)
        generalize (((w24.setCell ⟨gb1125, 0, none⟩ (.slice Ao25 t1117.length co25)).setCell ⟨gb1125, 1, none⟩ (.slice Ao27 t1120.length co27)).setCell ⟨gb1125, 2, none⟩ (.int .i64 t1123)) = w28 at n0_ n1_ n2_ n3_ n4_ ⊢
        have HO_19 := n0_
        have HO1119 := n1_
        have HO1122 := n2_
        have BK1125 := n3_
        have HB := n4_
        clear n0_ n1_ n2_ n3_ n4_
        replace HO_19 := Aside0.mk (Kd.R_drew HO_19.out); replace HO1119 := Aside0.mk (Kd.R_drew HO1119.out); replace HO1122 := Aside0.mk (Kd.R_drew HO1122.out); replace BK1125 := Aside0.mk (blk_drew BK1125.out); replace HB := Aside0.mk (below_drew1 HB.out)
        have p1126 : 0 ≤ (x14_1 : Int) := DT
        have q1126 : x14_1 < (l1.length : Int) := DT
        obtain ⟨ad1126, e1126, hx1126_0⟩ := Kd.at_int HR1.out x14_1 p1126 q1126
        have hw1126_0 := hx1126_0
        cases e1126
        replace hx1126_0 := (HB.out.cell (World.block_lt_of_cell? w _ hx1126_0)).trans hx1126_0
        replace p1126 := eq_true p1126
        replace q1126 := eq_true q1126
        refine start_ (n := 8) (S := fun w' => w'.cell? ⟨gb1125, 0, none⟩ = some (.slice Ao25 t1117.length co25) ∧ w'.cell? ⟨gb1125, 1, none⟩ = some (.slice Ao27 t1120.length co27) ∧ w'.cell? ⟨gb1125, 2, none⟩ = some (.int .i64 t1123) ∧ w'.cell? (ad1126.add (x14_1).toNat) = some (.int .i64 (rd l1 x14_1))) (ds := []) (mk 8 0) (by kernel_rfl) rfl (by kernel_rfl) ⟨(blk_cell BK1125.out 0).trans rfl, (blk_cell BK1125.out 1).trans rfl, (blk_cell BK1125.out 2).trans rfl, ((HB.out.cell (World.block_lt_of_cell? w _ hw1126_0)).trans hw1126_0)⟩ (fun hHeld => ?_); refine with_tabW impl_unfair.tab8 impl_unfair.bits8 (fun HT_ HW_ => ?_)
        generalize w28.drew = w29 at HO_19 HO1119 HO1122 BK1125 HB hx1126_0 hHeld ⊢
        refine pu 0 32 8 1 rfl rfl ?_
        refine pu 1 33 8 3 rfl rfl ?_
        refine pu 2 34 8 7 rfl rfl ?_
        refine pu 5 37 8 39 rfl rfl ?_
        refine ta 3 35 8 47 rfl rfl ?_
        refine ta 4 36 8 63 rfl rfl ?_
        refine one_ (i := 6) (N := some 38) (mk 8 127) rfl rfl (one_of HT_.out (by kernel_rfl)) (by decide) (fun K hK => ?_)
        refine goes_ Try.func94 (by kernel_rfl) rfl #[.agg #[.slice Ao25 t1117.length co25, .slice Ao27 t1120.length co27, .int .i64 t1123], .slice (some ad1126) l1.length c1] (by rfl) rfl rfl (by (try simp only [List.map_toArray, List.map_cons, List.map_nil]); first | done | rfl | (simp only [List.length_drop, List.length_take]; rfl)) ?_
        with_reducible refine (impl_tile_total.calls k2 _ _ t1117 _ _ t1120 t1123 _ _ l1 t1127 _ ?side1 ?side2 ?side3 ?side4 ?side5 ?side6 A13.out).mono ?_
        (case side1 => exact cb (Kd.R_reads' HO1119.out).2.2)
        (case side2 => exact (Kd.R_reads' HO1119.out).2.1)
        (case side3 => exact cb (Kd.R_reads' HO1122.out).2.2)
        (case side4 => exact (Kd.R_reads' HO1122.out).2.1)
        (case side5 => exact cb (Kd.C_below HR1.out HB.out))
        (case side6 => exact HC1.out)
        rintro e w30 ⟨rfl, hb⟩
        refine ⟨_, rfl, ?_⟩
        replace HO_19 := Aside0.mk (Kd.R_below (rb HO_19.out) hb); replace HO1119 := Aside0.mk (Kd.R_below (rb HO1119.out) hb); replace HO1122 := Aside0.mk (Kd.R_below (rb HO1122.out) hb); replace BK1125 := kb BK1125 hb; replace HB := bs hb
        (try clear hb)
        (try clear hk)
        refine hK.out _ _ ⟨(blk_cell BK1125.out 0).trans rfl, (blk_cell BK1125.out 1).trans rfl, (blk_cell BK1125.out 2).trans rfl, ((HB.out.cell (World.block_lt_of_cell? w _ hw1126_0)).trans hw1126_0)⟩ (fun hHeld => ?_)
        clear hK K
        refine nm 38 ?_
        refine pu 7 39 8 255 rfl rfl ?_
        refine done_ (done_of HT_.out (by kernel_rfl)) ?_
        try go_wp2
        go_roundg k2
        case measure => have := HK1.out; have := HK2.out; omega
        case rel => exact ⟨(wrap64 (x21_2 + 1)), EQ1, H', ⟨by have := HK1.out; have := HK2.out; omega⟩, ⟨rb (Kd.R_mono HO_19.out (fun _ hk => trivial))⟩, ⟨BA⟩⟩
      ·rw [if_neg c7] at H
       have c7b0 := decide_eq_false c7
       clear c7
       have H' := Aside0.mk H
       clear H
       go_wp2
       go_roundg k2
       case measure => have := HK1.out; have := HK2.out; omega
       case rel => exact ⟨(wrap64 (x14_1 + 1)), EQ1, H', ⟨by have := HK1.out; have := HK2.out; omega⟩, ⟨BA⟩⟩
   ·rw [if_neg c3] at H
    have c3b0 := decide_eq_false c3
    clear c3
    simp only [Option.some.injEq, Prod.mk.injEq] at H
    obtain ⟨rfl, rfl, rfl⟩ := H
    go_wp2
    go_ret3
    exact ⟨EQ, BA⟩

end Go.Proofs.Ytlmegefdnkjcbaa.Pa
