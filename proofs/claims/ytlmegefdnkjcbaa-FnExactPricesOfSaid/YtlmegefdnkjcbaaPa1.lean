-- Made by this session's program gen.py over the translation.
import Derived.Test.YtlmegefdnkjcbaaPa0
namespace Go.Proofs.Ytlmegefdnkjcbaa.Pa
open Go.RowKit Go.Proofs.YtlmegefdnkjcbaaW.PrintWords Go.Proofs.YtlmegefdnkjcbaaW.PrintLast Go.Proofs.YtlmegefdnkjcbaaW.PrintMore
attribute [local go_sem] max2_int min2_int max_two min_two max_three min_three max_four min_four   -- for this text's walks alone
set_option linter.unusedVariables false
set_option linter.unusedSimpArgs false
set_option maxHeartbeats 8000000
set_option maxRecDepth 100000

/-! ### laws_szNode: function 47 -/
def laws_szNode.f (a0_0 : ByteArray) (a0_1 : Int) (a0_2 : Int) (a0_3 : Int) (a1 : Int) : Option (Int) := if (wrap64 (a1 - (a0_0.size : Int))) < 0 then (some (-1)) else (some (wrap64 (a1 - (a0_0.size : Int))))
theorem laws_szNode.calls (a0_0 : ByteArray) (a0_1 : Int) (a0_2 : Int) (a0_3 : Int) (a1 : Int) (r : Int) (w : World) (h : laws_szNode.f a0_0 a0_1 a0_2 a0_3 a1 = some r) :
  Calls Try.prog 47 #[.agg #[.string a0_0, .int .i64 a0_1, .int .i64 a0_2, .int .i64 a0_3], .int .i64 a1] w fun e w' => e = .returned (.int .i64 r) ∧ Below w.heap.size w w' := by
 have hu51 := Try.underlying51
 have HB := Aside0.mk (Below.refl w.heap.size w)
 have H := h
 clear h
 unfold laws_szNode.f at H
 by_cases c3 : (wrap64 (a1 - (a0_0.size : Int))) < 0
 ·rw [if_pos c3] at H
  have c3b0 := decide_eq_true c3
  clear c3
  obtain rfl := Option.some.inj H
  go_enter Try.func47, Try.ntmps47
  go_wp2_with (first | ((with_reducible refine gd 2 rfl ?_); refine bx 2 #[.string a0_0, .int .i64 a0_1, .int .i64 a0_2, .int .i64 a0_3] 51 ?_; intro gb101 hg w4 BK101 GW101 HB hb; have GE101 := GW101; clear hb hg; obtain ⟨hcz5_0, hcz5_1, hcz5_2, hcz5_3⟩ := bc4 BK101.out; have hfz5 := blk_frozen BK101.out))
  go_ret
  exact ⟨EQ, BA⟩
 ·rw [if_neg c3] at H
  have c3b0 := decide_eq_false c3
  clear c3
  obtain rfl := Option.some.inj H
  go_enter Try.func47, Try.ntmps47
  go_wp2_with (first | ((with_reducible refine gd 2 rfl ?_); refine bx 2 #[.string a0_0, .int .i64 a0_1, .int .i64 a0_2, .int .i64 a0_3] 51 ?_; intro gb101 hg w6 BK101 GW101 HB hb; have GE101 := GW101; clear hb hg; obtain ⟨hcz7_0, hcz7_1, hcz7_2, hcz7_3⟩ := bc4 BK101.out; have hfz7 := blk_frozen BK101.out))
  go_ret
  exact ⟨EQ, BA⟩

/-! ### laws_szNodeS: function 15 -/
def laws_szNodeS.l0 : Nat → List (S51) → Int → Int → Option (Int)
 | 0, _, _, _ => none
 | k + 1, x0, x1, x5 => if x5 < (x0.length : Int) then (if 0 ≤ x5 then ((laws_szNode.f ((rd_T51 x0 x5).f0) ((rd_T51 x0 x5).f1) ((rd_T51 x0 x5).f2) ((rd_T51 x0 x5).f3) x1).bind fun t103 => (if t103 < 0 then (some (-1)) else (laws_szNodeS.l0 k x0 t103 (wrap64 (x5 + 1))))) else (none)) else (some x1)
def laws_szNodeS.f (k : Nat) (l0 : List (S51)) (a1 : Int) : Option (Int) := if (wrap64 (a1 - (l0.length : Int))) < 0 then (some (-1)) else (laws_szNodeS.l0 k l0 (wrap64 (a1 - (l0.length : Int))) 0)
theorem laws_szNodeS.calls (k : Nat) (A0 : Option Addr) (c0 : Nat) (l0 : List (S51)) (a1 : Int) (r : Int) (w : World) (hr0 : Kd.C k51 w A0 l0.length l0) (hc0 : l0.length ≤ c0) (h : laws_szNodeS.f k l0 a1 = some r) :
  Calls Try.prog 15 #[.slice A0 l0.length c0, .int .i64 a1] w fun e w' => e = .returned (.int .i64 r) ∧ Below w.heap.size w w' := by
 have hu51 := Try.underlying51
 have HR0 := Aside0.mk hr0
 have HC0 := Aside0.mk hc0
 clear hr0 hc0
 have HB := Aside0.mk (Below.refl w.heap.size w)
 have H := h
 clear h
 unfold laws_szNodeS.f at H
 by_cases c3 : (wrap64 (a1 - (l0.length : Int))) < 0
 ·rw [if_pos c3] at H
  have c3b0 := decide_eq_true c3
  clear c3
  obtain rfl := Option.some.inj H
  go_enter Try.func15, Try.ntmps15
  go_wp2
  go_ret
  exact ⟨EQ, BA⟩
 ·rw [if_neg c3] at H
  have c3b0 := decide_eq_false c3
  clear c3
  have H' := Aside0.mk H
  clear H
  go_enter Try.func15, Try.ntmps15
  go_wp2
  go_loopg [1, 5] k (fun kq v1 v5 w' => ∃ (x1_1 : Int) (x5_1 : Int), v1 = .int .i64 x1_1 ∧ v5 = .int .i64 x5_1 ∧ Aside0 (laws_szNodeS.l0 kq l0 x1_1 x5_1 = some r) ∧ Aside0 (kq ≤ k) ∧ Aside0 (Below w.heap.size w w'))
  case atStart => exact ⟨(wrap64 (a1 - (l0.length : Int))), (0), EQ1, EQ1, H', ⟨Nat.le_refl _⟩, ⟨BA⟩⟩
  case round =>
   clear H'
   (try clear c3b0)
   obtain ⟨x1_1, x5_1, rfl, rfl, HA, HK1, HB⟩ := hrel
   cases gk with
   | zero => exact absurd HA.out (by simp [laws_szNodeS.l0])
   | succ k1 =>
    have H := HA.out
    clear HA
    simp only [laws_szNodeS.l0] at H
    by_cases c4 : x5_1 < (l0.length : Int)
    ·rw [if_pos c4] at H
     have c4b0 := decide_eq_true c4
     clear c4
     obtain ⟨c5, H⟩ := ifs H
     have c5b0 := decide_eq_true c5
     clear c5
     obtain ⟨t103, A6, H⟩ := ob H
     (try dsimp only at H)
     by_cases c7 : t103 < 0
     ·rw [if_pos c7] at H
      have c7b0 := decide_eq_true c7
      clear c7
      obtain rfl := Option.some.inj H
      have p102 : 0 ≤ (x5_1 : Int) := DT
      have q102 : x5_1 < (l0.length : Int) := DT
      obtain ⟨ad102, e102, hx102_0, hx102_1, hx102_2, hx102_3⟩ := at_T51 (Kd.C_below HR0.out HB.out) x5_1 p102 q102
      cases e102
      replace p102 := eq_true p102
      replace q102 := eq_true q102
      go_wp2_with (first | ((with_reducible refine gate_callee (f := 47) rfl ?_); refine gK (some 23) Try.func47 #[.agg #[.string ((rd_T51 l0 x5_1).f0), .int .i64 ((rd_T51 l0 x5_1).f1), .int .i64 ((rd_T51 l0 x5_1).f2), .int .i64 ((rd_T51 l0 x5_1).f3)], .int .i64 x1_1] rfl rfl rfl ?_; (with_reducible refine (laws_szNode.calls ((rd_T51 l0 x5_1).f0) ((rd_T51 l0 x5_1).f1) ((rd_T51 l0 x5_1).f2) ((rd_T51 l0 x5_1).f3) x1_1 t103 _ A6.out).mono ?_); rintro e w8 ⟨rfl, hb⟩; refine ⟨_, rfl, ?_⟩; replace HB := bs hb; (try clear hb)))
      go_ret
      exact ⟨EQ, BA⟩
     ·rw [if_neg c7] at H
      have c7b0 := decide_eq_false c7
      clear c7
      have H' := Aside0.mk H
      clear H
      have p102 : 0 ≤ (x5_1 : Int) := DT
      have q102 : x5_1 < (l0.length : Int) := DT
      obtain ⟨ad102, e102, hx102_0, hx102_1, hx102_2, hx102_3⟩ := at_T51 (Kd.C_below HR0.out HB.out) x5_1 p102 q102
      cases e102
      replace p102 := eq_true p102
      replace q102 := eq_true q102
      go_wp2_with (first | ((with_reducible refine gate_callee (f := 47) rfl ?_); refine gK (some 23) Try.func47 #[.agg #[.string ((rd_T51 l0 x5_1).f0), .int .i64 ((rd_T51 l0 x5_1).f1), .int .i64 ((rd_T51 l0 x5_1).f2), .int .i64 ((rd_T51 l0 x5_1).f3)], .int .i64 x1_1] rfl rfl rfl ?_; (with_reducible refine (laws_szNode.calls ((rd_T51 l0 x5_1).f0) ((rd_T51 l0 x5_1).f1) ((rd_T51 l0 x5_1).f2) ((rd_T51 l0 x5_1).f3) x1_1 t103 _ A6.out).mono ?_); rintro e w9 ⟨rfl, hb⟩; refine ⟨_, rfl, ?_⟩; replace HB := bs hb; (try clear hb)))
      go_roundg k1
      case measure => have := HK1.out; omega
      case rel => exact ⟨(t103), (wrap64 (x5_1 + 1)), EQ1, EQ1, H', ⟨by have := HK1.out; omega⟩, ⟨BA⟩⟩
    ·rw [if_neg c4] at H
     have c4b0 := decide_eq_false c4
     clear c4
     obtain rfl := Option.some.inj H
     go_wp2
     go_ret
     exact ⟨EQ, BA⟩

/-! ### spec_exOne: function 79 -/
def spec_exOne.f (a0 : ByteArray) : Option (Bool) := if a0.toList = ([110, 111, 116] : List UInt8) then (some true) else (some (a0.toList == ([110, 101, 103] : List UInt8)))
theorem spec_exOne.calls (a0 : ByteArray) (r : Bool) (w : World) (h : spec_exOne.f a0 = some r) :
  Calls Try.prog 79 #[.string a0] w fun e w' => e = .returned (.bool r) ∧ Drawn0 w w' := by
 have H := h
 clear h
 unfold spec_exOne.f at H
 by_cases c2 : a0.toList = ([110, 111, 116] : List UInt8)
 ·rw [if_pos c2] at H
  have c2b0 := beq_iff_eq.mpr c2
  have c2b1 := bne_eq_false_iff_eq.mpr c2
  clear c2
  obtain rfl := Option.some.inj H
  go_enter Try.func79, Try.ntmps79
  go_wp2
  go_ret
  exact ⟨EQ1, DA⟩
 ·rw [if_neg c2] at H
  have c2b0 := beq_eq_false_iff_ne.mpr c2
  have c2b1 := bne_iff_ne.mpr c2
  obtain rfl := Option.some.inj H
  go_enter Try.func79, Try.ntmps79
  go_wp2
  go_ret
  exact ⟨EQ1, DA⟩

/-! ### spec_l1HasS: function 81 -/
def spec_l1HasS.l0 : Nat → ByteArray → List ByteArray → Int → Int → Option (Bool)
 | 0, _, _, _, _ => none
 | k + 1, x1, x7, x8, x9 => if x9 < x8 then (if 0 ≤ x9 then (if x9 < (x7.length : Int) then (if (rdOf ByteArray.empty x7 x9).toList = x1.toList then (some true) else (spec_l1HasS.l0 k x1 x7 x8 (wrap64 (x9 + 1)))) else (none)) else (none)) else (some false)
def spec_l1HasS.f (k : Nat) (l0 : List ByteArray) (a1 : ByteArray) : Option (Bool) := spec_l1HasS.l0 k a1 l0 (l0.length : Int) 0
theorem spec_l1HasS.calls (k : Nat) (A0 : Option Addr) (c0 : Nat) (l0 : List ByteArray) (a1 : ByteArray) (r : Bool) (w : World) (hr0 : Kd.C Kd.string w A0 l0.length l0) (hc0 : l0.length ≤ c0) (h : spec_l1HasS.f k l0 a1 = some r) :
  Calls Try.prog 81 #[.slice A0 l0.length c0, .string a1] w fun e w' => e = .returned (.bool r) ∧ Drawn0 w w' := by
 have HR0 := Aside0.mk hr0
 have HC0 := Aside0.mk hc0
 clear hr0 hc0
 have H := h
 clear h
 unfold spec_l1HasS.f at H
 have H' := Aside0.mk H
 clear H
 go_enter Try.func81, Try.ntmps81
 go_wp2
 go_loopg [9] k (fun kq v9 w' => ∃ (x9_1 : Int), v9 = .int .i64 x9_1 ∧ Aside0 (spec_l1HasS.l0 kq a1 l0 (l0.length : Int) x9_1 = some r) ∧ Aside0 (kq ≤ k) ∧ Drawn0 w w')
 case atStart => exact ⟨(0), EQ1, H', ⟨Nat.le_refl _⟩, DA⟩
 case round =>
  clear H'
  obtain ⟨x9_1, rfl, HA, HK1, ⟨m1, rfl⟩⟩ := hrel
  cases gk with
  | zero => exact absurd HA.out (by simp [spec_l1HasS.l0])
  | succ k1 =>
   have H := HA.out
   clear HA
   simp only [spec_l1HasS.l0] at H
   by_cases c3 : x9_1 < (l0.length : Int)
   ·rw [if_pos c3] at H
    have c3b0 := decide_eq_true c3
    clear c3
    obtain ⟨c4, H⟩ := ifs H
    have c4b0 := decide_eq_true c4
    clear c4
    obtain ⟨c5, H⟩ := ifs H
    have c5b0 := decide_eq_true c5
    clear c5
    by_cases c6 : (rdOf ByteArray.empty l0 x9_1).toList = a1.toList
    ·rw [if_pos c6] at H
     have c6b0 := beq_iff_eq.mpr c6
     have c6b1 := bne_eq_false_iff_eq.mpr c6
     clear c6
     obtain rfl := Option.some.inj H
     have p104 : 0 ≤ (x9_1 : Int) := DT
     have q104 : x9_1 < (l0.length : Int) := DT
     obtain ⟨ad104, e104, hx104_0⟩ := Kd.at_string HR0.out x9_1 p104 q104
     cases e104
     replace p104 := eq_true p104
     replace q104 := eq_true q104
     go_wp2
     go_ret
     exact ⟨EQ1, DA⟩
    ·rw [if_neg c6] at H
     have c6b0 := beq_eq_false_iff_ne.mpr c6
     have c6b1 := bne_iff_ne.mpr c6
     have H' := Aside0.mk H
     clear H
     have p104 : 0 ≤ (x9_1 : Int) := DT
     have q104 : x9_1 < (l0.length : Int) := DT
     obtain ⟨ad104, e104, hx104_0⟩ := Kd.at_string HR0.out x9_1 p104 q104
     cases e104
     replace p104 := eq_true p104
     replace q104 := eq_true q104
     go_wp2
     go_roundg k1
     case measure => have := HK1.out; omega
     case rel => exact ⟨(wrap64 (x9_1 + 1)), EQ1, H', ⟨by have := HK1.out; omega⟩, DA⟩
   ·rw [if_neg c3] at H
    have c3b0 := decide_eq_false c3
    clear c3
    obtain rfl := Option.some.inj H
    go_wp2
    go_ret
    exact ⟨EQ1, DA⟩

/-! ### spec_exOps: function 104 -/
def spec_exOps.f  : Option (List ByteArray) := some (([(⟨#[97, 100, 100]⟩ : ByteArray), (⟨#[115, 117, 98]⟩ : ByteArray), (⟨#[109, 117, 108]⟩ : ByteArray), (⟨#[97, 110, 100]⟩ : ByteArray), (⟨#[111, 114]⟩ : ByteArray), (⟨#[120, 111, 114]⟩ : ByteArray), (⟨#[115, 104, 108]⟩ : ByteArray), (⟨#[115, 104, 114]⟩ : ByteArray), (⟨#[108, 101, 115, 115]⟩ : ByteArray), (⟨#[101, 113]⟩ : ByteArray)] : List ByteArray))
theorem spec_exOps.calls  (r : List ByteArray) (w : World) (h : spec_exOps.f  = some r) :
  Calls Try.prog 104 #[] w fun e w' => ∃ v0_ : Value, e = .returned (v0_) ∧ Kd.R Kd.string 9 w' w.heap.size (fun _ => True) v0_ r ∧ Below w.heap.size w w' := by
 have HB := Aside0.mk (Below.refl w.heap.size w)
 have H := h
 clear h
 unfold spec_exOps.f at H
 obtain ⟨y105, hy105⟩ : ∃ y_ : List ByteArray, y_ = (([(⟨#[97, 100, 100]⟩ : ByteArray), (⟨#[115, 117, 98]⟩ : ByteArray), (⟨#[109, 117, 108]⟩ : ByteArray), (⟨#[97, 110, 100]⟩ : ByteArray), (⟨#[111, 114]⟩ : ByteArray), (⟨#[120, 111, 114]⟩ : ByteArray), (⟨#[115, 104, 108]⟩ : ByteArray), (⟨#[115, 104, 114]⟩ : ByteArray), (⟨#[108, 101, 115, 115]⟩ : ByteArray), (⟨#[101, 113]⟩ : ByteArray)] : List ByteArray)) := ⟨_, rfl⟩
 replace H : (some y105) = some r := by first | (rw [hy105]; with_reducible exact H) | (have H2_ := (Option.bind_some _ _).symm.trans H; rw [hy105]; with_reducible exact H2_) | (have H2_ := (Option.bind_some _ _).symm.trans H; with_reducible exact H2_) | with_reducible exact H | (rw [hy105]; exact H) | exact H
 have Ny105 := Aside0.mk hy105
 clear hy105
 obtain rfl := Option.some.inj H
 go_enter Try.func104, Try.ntmps104
 go_wp2_with (first | ((with_reducible refine gate_dst (N := 1) rfl ?_); refine ls 1 9 Ny105.out ?_; intro v106 w1 ho2 hb; have HO107 := Aside0.mk (Kd.R_lower ho2 (below_size BA)); replace HB := bs hb; clear hb ho2))
 go_ret
 exact ⟨_, EQ, rb HO107.out, BA⟩

/-! ### spec_exTwo: function 80 -/
def spec_exTwo.f (k : Nat) (a0 : ByteArray) : Option (Bool) := (spec_exOps.f).bind fun t108 => ((spec_l1HasS.f k t108 a0).bind fun t111 => (some t111))
theorem spec_exTwo.calls (k : Nat) (a0 : ByteArray) (r : Bool) (w : World) (h : spec_exTwo.f k a0 = some r) :
  Calls Try.prog 80 #[.string a0] w fun e w' => e = .returned (.bool r) ∧ Below w.heap.size w w' := by
 have HB := Aside0.mk (Below.refl w.heap.size w)
 have H := h
 clear h
 unfold spec_exTwo.f at H
 obtain ⟨t108, A2, H⟩ := ob H
 (try dsimp only at H)
 obtain ⟨t111, A3, H⟩ := ob H
 (try dsimp only at H)
 obtain rfl := Option.some.inj H
 go_enter Try.func80, Try.ntmps80
 go_wp2_with (first | ((with_reducible refine gate_callee (f := 104) rfl ?_); refine gK (some 3) Try.func104 #[] rfl rfl rfl ?_; (with_reducible refine (spec_exOps.calls  t108 _ A2.out).mono ?_); rintro e w4 ⟨v109, rfl, ho0, hb⟩; refine ⟨_, rfl, ?_⟩; have HO110 := Aside0.mk (Kd.R_lower ho0 (below_size BA)); replace HB := bs hb; (try clear hb); (try clear ho0); obtain ⟨Ao5, co5, eo5⟩ := Kd.R_slice HO110.out; subst eo5) | ((with_reducible refine gate_callee (f := 81) rfl ?_); refine gK (some 5) Try.func81 #[.slice Ao5 t108.length co5, .string a0] rfl rfl rfl ?_; (with_reducible refine (spec_l1HasS.calls k _ _ t108 a0 t111 _ ?side1 ?side2 A3.out).mono ?_); (case side1 => exact cb (Kd.R_reads' HO110.out).2.2); (case side2 => exact (Kd.R_reads' HO110.out).2.1); rintro e w' ⟨rfl, ⟨nd, rfl⟩⟩; refine ⟨_, rfl, ?_⟩))
 go_ret
 exact ⟨EQ, BA⟩

/-! ### spec_l1Has: function 105 -/
def spec_l1Has.l0 : Nat → Int → List Int → Int → Int → Option (Bool)
 | 0, _, _, _, _ => none
 | k + 1, x1, x7, x8, x9 => if x9 < x8 then (if 0 ≤ x9 then (if x9 < (x7.length : Int) then (if (rd x7 x9) = x1 then (some true) else (spec_l1Has.l0 k x1 x7 x8 (wrap64 (x9 + 1)))) else (none)) else (none)) else (some false)
def spec_l1Has.f (k : Nat) (l0 : List Int) (a1 : Int) : Option (Bool) := spec_l1Has.l0 k a1 l0 (l0.length : Int) 0
theorem spec_l1Has.calls (k : Nat) (A0 : Option Addr) (c0 : Nat) (l0 : List Int) (a1 : Int) (r : Bool) (w : World) (hr0 : Kd.C (Kd.int .i64) w A0 l0.length l0) (hc0 : l0.length ≤ c0) (h : spec_l1Has.f k l0 a1 = some r) :
  Calls Try.prog 105 #[.slice A0 l0.length c0, .int .i64 a1] w fun e w' => e = .returned (.bool r) ∧ Drawn0 w w' := by
 have HR0 := Aside0.mk hr0
 have HC0 := Aside0.mk hc0
 clear hr0 hc0
 have H := h
 clear h
 unfold spec_l1Has.f at H
 have H' := Aside0.mk H
 clear H
 go_enter Try.func105, Try.ntmps105
 go_wp2
 go_loopg [9] k (fun kq v9 w' => ∃ (x9_1 : Int), v9 = .int .i64 x9_1 ∧ Aside0 (spec_l1Has.l0 kq a1 l0 (l0.length : Int) x9_1 = some r) ∧ Aside0 (kq ≤ k) ∧ Drawn0 w w')
 case atStart => exact ⟨(0), EQ1, H', ⟨Nat.le_refl _⟩, DA⟩
 case round =>
  clear H'
  obtain ⟨x9_1, rfl, HA, HK1, ⟨m1, rfl⟩⟩ := hrel
  cases gk with
  | zero => exact absurd HA.out (by simp [spec_l1Has.l0])
  | succ k1 =>
   have H := HA.out
   clear HA
   simp only [spec_l1Has.l0] at H
   by_cases c3 : x9_1 < (l0.length : Int)
   ·rw [if_pos c3] at H
    have c3b0 := decide_eq_true c3
    clear c3
    obtain ⟨c4, H⟩ := ifs H
    have c4b0 := decide_eq_true c4
    clear c4
    obtain ⟨c5, H⟩ := ifs H
    have c5b0 := decide_eq_true c5
    clear c5
    by_cases c6 : (rd l0 x9_1) = a1
    ·rw [if_pos c6] at H
     have c6b0 := beq_iff_eq.mpr c6
     have c6b1 := bne_eq_false_iff_eq.mpr c6
     clear c6
     obtain rfl := Option.some.inj H
     have p112 : 0 ≤ (x9_1 : Int) := DT
     have q112 : x9_1 < (l0.length : Int) := DT
     obtain ⟨ad112, e112, hx112_0⟩ := Kd.at_int HR0.out x9_1 p112 q112
     cases e112
     replace p112 := eq_true p112
     replace q112 := eq_true q112
     go_wp2
     go_ret
     exact ⟨EQ1, DA⟩
    ·rw [if_neg c6] at H
     have c6b0 := beq_eq_false_iff_ne.mpr c6
     have c6b1 := bne_iff_ne.mpr c6
     have H' := Aside0.mk H
     clear H
     have p112 : 0 ≤ (x9_1 : Int) := DT
     have q112 : x9_1 < (l0.length : Int) := DT
     obtain ⟨ad112, e112, hx112_0⟩ := Kd.at_int HR0.out x9_1 p112 q112
     cases e112
     replace p112 := eq_true p112
     replace q112 := eq_true q112
     go_wp2
     go_roundg k1
     case measure => have := HK1.out; omega
     case rel => exact ⟨(wrap64 (x9_1 + 1)), EQ1, H', ⟨by have := HK1.out; omega⟩, DA⟩
   ·rw [if_neg c3] at H
    have c3b0 := decide_eq_false c3
    clear c3
    obtain rfl := Option.some.inj H
    go_wp2
    go_ret
    exact ⟨EQ1, DA⟩

/-! ### spec_cvConst: function 82 -/
def spec_cvConst.f (k : Nat) (a0_0 : ByteArray) (a0_1 : Int) (a0_2 : Int) (a0_3 : Int) (l1 : List Int) : Option (Bool) := if a0_0.toList = ([99, 111, 110, 115, 116] : List UInt8) then ((spec_l1Has.f k l1 a0_3).bind fun t114 => (some t114)) else (some false)
theorem spec_cvConst.calls (k : Nat) (a0_0 : ByteArray) (a0_1 : Int) (a0_2 : Int) (a0_3 : Int) (A1 : Option Addr) (c1 : Nat) (l1 : List Int) (r : Bool) (w : World) (hr1 : Kd.C (Kd.int .i64) w A1 l1.length l1) (hc1 : l1.length ≤ c1) (h : spec_cvConst.f k a0_0 a0_1 a0_2 a0_3 l1 = some r) :
  Calls Try.prog 82 #[.agg #[.string a0_0, .int .i64 a0_1, .int .i64 a0_2, .int .i64 a0_3], .slice A1 l1.length c1] w fun e w' => e = .returned (.bool r) ∧ Below w.heap.size w w' := by
 have hu54 := Try.underlying54
 have HR1 := Aside0.mk hr1
 have HC1 := Aside0.mk hc1
 clear hr1 hc1
 have HB := Aside0.mk (Below.refl w.heap.size w)
 have H := h
 clear h
 unfold spec_cvConst.f at H
 by_cases c3 : a0_0.toList = ([99, 111, 110, 115, 116] : List UInt8)
 ·rw [if_pos c3] at H
  have c3b0 := beq_iff_eq.mpr c3
  have c3b1 := bne_eq_false_iff_eq.mpr c3
  clear c3
  obtain ⟨t114, A4, H⟩ := ob H
  (try dsimp only at H)
  obtain rfl := Option.some.inj H
  go_enter Try.func82, Try.ntmps82
  go_wp2_with (first | ((with_reducible refine gd 2 rfl ?_); refine bx 2 #[.string a0_0, .int .i64 a0_1, .int .i64 a0_2, .int .i64 a0_3] 54 ?_; intro gb113 hg w5 BK113 GW113 HB hb; have GE113 := GW113; clear hb hg; obtain ⟨hcz6_0, hcz6_1, hcz6_2, hcz6_3⟩ := bc4 BK113.out; have hfz6 := blk_frozen BK113.out) | (go_at_call 105; (with_reducible refine (spec_l1Has.calls k _ _ l1 a0_3 t114 _ ?side1 ?side2 A4.out).mono ?_); (case side1 => exact cb (Kd.C_below HR1.out HB.out)); (case side2 => exact HC1.out); rintro e w' ⟨rfl, ⟨nd, rfl⟩⟩))
  go_ret
  exact ⟨EQ, BA⟩
 ·rw [if_neg c3] at H
  have c3b0 := beq_eq_false_iff_ne.mpr c3
  have c3b1 := bne_iff_ne.mpr c3
  obtain rfl := Option.some.inj H
  go_enter Try.func82, Try.ntmps82
  go_wp2_with (first | ((with_reducible refine gd 2 rfl ?_); refine bx 2 #[.string a0_0, .int .i64 a0_1, .int .i64 a0_2, .int .i64 a0_3] 54 ?_; intro gb113 hg w7 BK113 GW113 HB hb; have GE113 := GW113; clear hb hg; obtain ⟨hcz8_0, hcz8_1, hcz8_2, hcz8_3⟩ := bc4 BK113.out; have hfz8 := blk_frozen BK113.out))
  go_ret
  exact ⟨EQ, BA⟩

/-! ### spec_cvWords: function 83 -/
def spec_cvWords.l0 : Nat → List Int → Int → Option (List Int)
 | 0, _, _ => none
 | k + 1, x1, x2 => if x2 ≤ 63 then (if x1.length < 17592186044416 then (spec_cvWords.l0 k (x1 ++ [x2]) (wrap64 (x2 + 1))) else (none)) else (some x1)
def spec_cvWords.f (k : Nat)  : Option (List Int) := spec_cvWords.l0 k ([] : List Int) 0
theorem spec_cvWords.calls (k : Nat)  (r : List Int) (w : World) (h : spec_cvWords.f k  = some r) :
  Calls Try.prog 83 #[] w fun e w' => ∃ v0_ : Value, e = .returned (v0_) ∧ Kd.R (Kd.int .i64) 3 w' w.heap.size (fun _ => True) v0_ r ∧ Below w.heap.size w w' := by
 have HB := Aside0.mk (Below.refl w.heap.size w)
 have H := h
 clear h
 unfold spec_cvWords.f at H
 have H' := Aside0.mk H
 clear H
 go_enter Try.func83, Try.ntmps83
 go_wp2
 go_loopg [1, 2] k (fun kq v1 v2 w' => ∃ (x1_1 : List Int) (x2_1 : Int), v2 = .int .i64 x2_1 ∧ Aside0 (spec_cvWords.l0 kq x1_1 x2_1 = some r) ∧ Aside0 (kq ≤ k) ∧ Aside0 (Kd.R (Kd.int .i64) 3 w' w.heap.size (fun _ => True) v1 x1_1) ∧ Aside0 (Below w.heap.size w w'))
 case atStart => exact ⟨(([] : List Int)), (0), EQ1, H', ⟨Nat.le_refl _⟩, ⟨by first | exact Kd.R_nil _ _ _ _ _ | exact Kd.N_nil _ _ _ _ _ | exact Kd.V_nil _ _ _ _ _ | exact Kd.Q_nil _ _ _ _ _ | exact Kd.S_nil _ _ _ _ _⟩, ⟨BA⟩⟩
 case round =>
  clear H'
  obtain ⟨x1_1, x2_1, rfl, HA, HK1, HO_1, HB⟩ := hrel
  cases gk with
  | zero => exact absurd HA.out (by simp [spec_cvWords.l0])
  | succ k1 =>
   have H := HA.out
   clear HA
   simp only [spec_cvWords.l0] at H
   by_cases c1 : x2_1 ≤ 63
   ·rw [if_pos c1] at H
    have c1b0 := decide_eq_true c1
    clear c1
    obtain ⟨c2, H⟩ := ifs H
    have LMc2 := Aside0.mk c2
    clear c2
    obtain ⟨y115, hy115⟩ : ∃ y_ : List Int, y_ = (x1_1 ++ [x2_1]) := ⟨_, rfl⟩
    replace H : (spec_cvWords.l0 k1 y115 (wrap64 (x2_1 + 1))) = some r := by first | (rw [hy115]; with_reducible exact H) | (have H2_ := (Option.bind_some _ _).symm.trans H; rw [hy115]; with_reducible exact H2_) | (have H2_ := (Option.bind_some _ _).symm.trans H; with_reducible exact H2_) | with_reducible exact H | (rw [hy115]; exact H) | exact H
    have Ny115 := Aside0.mk hy115
    clear hy115
    have H' := Aside0.mk H
    clear H
    go_wp2_with (first | ((with_reducible refine gate_builtin (b := .append) (xs := #[.tmp 7, .tmp 9]) rfl ?_); at_builtin; refine Kd.R_append (Kd.int .i64) (w0 := w) w.heap.size rfl (.tmp 7) (.tmp 9) 30 3 (.int .i64 0) 8 rfl Try.underlying30 info3 rfl (by decide) (by omega) u1 x1_1 x2_1 [.int .i64 x2_1] (fun _ => True) (fun _ => False) rfl rfl ?aP (fun _ hk => hk.elim) ?aF ?aO ?aB ?aS ?aL ?_; (case aP => exact rfl); (case aB => exact BA); (case aF => exact (fun _ _ => trivial)); (case aO => exact (rb HO_1.out)); (case aS => exact (below_size BA)); (case aL => have := LMc2.out; omega); intro v116 w3 ho hb hg hat; rw [← Ny115.out] at ho; have n0_ := Aside0.mk (hb); have n1_ := Aside0.mk (ho); clear HB; clear HO_1; have HB := n0_; have HO117 := n1_; clear n0_ n1_; clear ho hb hg hat))
    go_roundg k1
    case measure => have := HK1.out; omega
    case rel => exact ⟨(y115), (wrap64 (x2_1 + 1)), EQ1, H', ⟨by have := HK1.out; omega⟩, ⟨rb HO117.out⟩, ⟨BA⟩⟩
   ·rw [if_neg c1] at H
    have c1b0 := decide_eq_false c1
    clear c1
    obtain rfl := Option.some.inj H
    go_wp2
    go_ret
    exact ⟨_, EQ, rb HO_1.out, BA⟩

/-! ### spec_l1Put: function 106 -/
def spec_l1Put.l0 : Nat → List Int → Int → Int → Option (List Int)
 | 0, _, _, _ => none
 | k + 1, x0, x1, x5 => if x5 < (x0.length : Int) then (if 0 ≤ x5 then (if (rd x0 x5) < x1 then (spec_l1Put.l0 k x0 x1 (wrap64 (x5 + 1))) else (if (rd x0 x5) = x1 then (some x0) else ((some (([] : List Int) : List Int)).bind fun y120 => (if x5 ≤ (x0.length : Int) then ((some (x0.take (x5 : Int).toNat : List Int)).bind fun y123 => (if y120.length + y123.length < 17592186044416 then ((some (y120 ++ y123 : List Int)).bind fun y127 => (if y127.length < 17592186044416 then ((some (y127 ++ [x1] : List Int)).bind fun y130 => ((some (x0.drop (x5 : Int).toNat : List Int)).bind fun y133 => (if y130.length + y133.length < 17592186044416 then (some (y130 ++ y133)) else (none)))) else (none))) else (none))) else (none))))) else (none)) else ((some (([] : List Int) : List Int)).bind fun y140 => (if 0 ≤ x5 then (if x5 ≤ (x0.length : Int) then ((some (x0.take (x5 : Int).toNat : List Int)).bind fun y143 => (if y140.length + y143.length < 17592186044416 then ((some (y140 ++ y143 : List Int)).bind fun y147 => (if y147.length < 17592186044416 then ((some (y147 ++ [x1] : List Int)).bind fun y150 => ((some (x0.drop (x5 : Int).toNat : List Int)).bind fun y153 => (if y150.length + y153.length < 17592186044416 then (some (y150 ++ y153)) else (none)))) else (none))) else (none))) else (none)) else (none)))
def spec_l1Put.f (k : Nat) (l0 : List Int) (a1 : Int) : Option (List Int) := spec_l1Put.l0 k l0 a1 0
theorem spec_l1Put.calls (k : Nat) (P0_ : Nat → Prop) (u9000_ : Value) (l0 : List Int) (a1 : Int) (r : List Int) (w0 w : World) (hB : Below w0.heap.size w0 w) (ho0 : Kd.R (Kd.int .i64) 3 w w0.heap.size P0_ u9000_ l0) (h : spec_l1Put.f k l0 a1 = some r) :
  Calls Try.prog 106 #[u9000_, .int .i64 a1] w fun e w' => ∃ v0_ : Value, e = .returned (v0_) ∧ Kd.R (Kd.int .i64) 3 w' w0.heap.size (fun k_ => (P0_ k_ ∨ w.heap.size ≤ k_)) v0_ r ∧ Below w0.heap.size w0 w' ∧ Kept w w' (fun k_ => P0_ k_) := by
 have HO0 := Aside0.mk (show Kd.R (Kd.int .i64) 3 w w0.heap.size (fun k_ => (P0_ k_ ∨ w.heap.size ≤ k_)) u9000_ l0 from Kd.R_mono ho0 (fun k_ hk => (.inl hk)))
 have HK := Aside0.mk (Kept.refl w (fun k_ => P0_ k_))
 have HW0 := Aside0.mk hB.size
 have HB := Aside0.mk hB
 clear hB
 have H := h
 clear h
 unfold spec_l1Put.f at H
 have H' := Aside0.mk H
 clear H
 go_enter Try.func106, Try.ntmps106
 go_wp2
 go_loopg [5] k (fun kq v5 w' => ∃ (x5_1 : Int), v5 = .int .i64 x5_1 ∧ Aside0 (spec_l1Put.l0 kq l0 a1 x5_1 = some r) ∧ Aside0 (kq ≤ k) ∧ Aside0 (Kd.R (Kd.int .i64) 3 w' w0.heap.size (fun k_ => (P0_ k_ ∨ w.heap.size ≤ k_)) u9000_ l0) ∧ Aside0 (Kept w w' (fun k_ => P0_ k_)) ∧ Aside0 (Below w0.heap.size w0 w'))
 case atStart => exact ⟨(0), EQ1, H', ⟨Nat.le_refl _⟩, ⟨rb HO0.out⟩, ⟨by repeat (first | (with_reducible first | exact HK.out | apply Kept.alloc | apply Kept.drewN | apply Kept.drew) | exact HK.out)⟩, ⟨BA⟩⟩
 case round =>
  clear H'
  (try clear c1)
  obtain ⟨x5_1, rfl, HA, HK1, HO_0, HK, HB⟩ := hrel
  cases gk with
  | zero => exact absurd HA.out (by simp [spec_l1Put.l0])
  | succ k1 =>
   have H := HA.out
   clear HA
   simp only [spec_l1Put.l0] at H
   by_cases c3 : x5_1 < (l0.length : Int)
   ·rw [if_pos c3] at H
    have c3b0 := decide_eq_true c3
    clear c3
    obtain ⟨c4, H⟩ := ifs H
    have c4b0 := decide_eq_true c4
    clear c4
    by_cases c5 : (rd l0 x5_1) < a1
    ·rw [if_pos c5] at H
     have c5b0 := decide_eq_true c5
     clear c5
     have H' := Aside0.mk H
     clear H
     obtain ⟨Ao6, co6, eo6⟩ := Kd.R_slice HO_0.out
     subst eo6
     have p118 : 0 ≤ (x5_1 : Int) := DT
     have q118 : x5_1 < (l0.length : Int) := DT
     obtain ⟨ad118, e118, hx118_0⟩ := Kd.at_int (Kd.R_reads' HO_0.out).2.2 x5_1 p118 q118
     cases e118
     replace p118 := eq_true p118
     replace q118 := eq_true q118
     go_wp2
     go_roundg k1
     case measure => have := HK1.out; omega
     case rel => exact ⟨(wrap64 (x5_1 + 1)), EQ1, H', ⟨by have := HK1.out; omega⟩, ⟨rb HO_0.out⟩, ⟨by repeat (first | (with_reducible first | exact HK.out | apply Kept.alloc | apply Kept.drewN | apply Kept.drew) | exact HK.out)⟩, ⟨BA⟩⟩
    ·rw [if_neg c5] at H
     have c5b0 := decide_eq_false c5
     clear c5
     by_cases c7 : (rd l0 x5_1) = a1
     ·rw [if_pos c7] at H
      have c7b0 := beq_iff_eq.mpr c7
      have c7b1 := bne_eq_false_iff_eq.mpr c7
      clear c7
      obtain rfl := Option.some.inj H
      obtain ⟨Ao8, co8, eo8⟩ := Kd.R_slice HO_0.out
      subst eo8
      have p118 : 0 ≤ (x5_1 : Int) := DT
      have q118 : x5_1 < (l0.length : Int) := DT
      obtain ⟨ad118, e118, hx118_0⟩ := Kd.at_int (Kd.R_reads' HO_0.out).2.2 x5_1 p118 q118
      cases e118
      replace p118 := eq_true p118
      replace q118 := eq_true q118
      have p119 : 0 ≤ (x5_1 : Int) := DT
      have q119 : x5_1 < (l0.length : Int) := DT
      obtain ⟨ad119, e119, hx119_0⟩ := Kd.at_int (Kd.R_reads' HO_0.out).2.2 x5_1 p119 q119
      obtain rfl : ad118 = ad119 := (by injection e119)
      replace p119 := eq_true p119
      replace q119 := eq_true q119
      go_wp2
      go_ret
      exact ⟨_, EQ, rb HO_0.out, BA, by repeat (first | (with_reducible first | exact HK.out | apply Kept.alloc | apply Kept.drewN | apply Kept.drew) | exact HK.out)⟩
     ·rw [if_neg c7] at H
      have c7b0 := beq_eq_false_iff_ne.mpr c7
      have c7b1 := bne_iff_ne.mpr c7
      obtain ⟨y120, hy120, H⟩ := lets H
      (try dsimp only at H)
      have Ny120 := Aside0.mk hy120
      clear hy120
      have c9b0 := eq_true (DT : 0 ≤ x5_1)
      obtain ⟨c10, H⟩ := ifs H
      have c10b0 := eq_true c10
      have c10b1 := decide_eq_true c10
      clear c10
      obtain ⟨y123, hy123, H⟩ := lets H
      (try dsimp only at H)
      have Ny123 := Aside0.mk hy123
      clear hy123
      obtain ⟨c11, H⟩ := ifs H
      have LMc11 := Aside0.mk c11
      clear c11
      obtain ⟨y127, hy127, H⟩ := lets H
      (try dsimp only at H)
      have Ny127 := Aside0.mk hy127
      clear hy127
      obtain ⟨c12, H⟩ := ifs H
      have LMc12 := Aside0.mk c12
      clear c12
      obtain ⟨y130, hy130, H⟩ := lets H
      (try dsimp only at H)
      have Ny130 := Aside0.mk hy130
      clear hy130
      have c13b0 := eq_true (DT : 0 ≤ x5_1)
      have c14b0 := eq_true (DT : x5_1 ≤ (l0.length : Int))
      obtain ⟨y133, hy133, H⟩ := lets H
      (try dsimp only at H)
      have Ny133 := Aside0.mk hy133
      clear hy133
      obtain ⟨c15, H⟩ := ifs H
      have LMc15 := Aside0.mk c15
      clear c15
      obtain ⟨y137, hy137⟩ : ∃ y_ : List Int, y_ = (y130 ++ y133) := ⟨_, rfl⟩
      replace H : (some y137) = some r := by first | (rw [hy137]; with_reducible exact H) | (have H2_ := (Option.bind_some _ _).symm.trans H; rw [hy137]; with_reducible exact H2_) | (have H2_ := (Option.bind_some _ _).symm.trans H; with_reducible exact H2_) | with_reducible exact H | (rw [hy137]; exact H) | exact H
      have Ny137 := Aside0.mk hy137
      clear hy137
      obtain rfl := Option.some.inj H
      obtain ⟨Ao16, co16, eo16⟩ := Kd.R_slice HO_0.out
      subst eo16
      have p118 : 0 ≤ (x5_1 : Int) := DT
      have q118 : x5_1 < (l0.length : Int) := DT
      obtain ⟨ad118, e118, hx118_0⟩ := Kd.at_int (Kd.R_reads' HO_0.out).2.2 x5_1 p118 q118
      cases e118
      replace p118 := eq_true p118
      replace q118 := eq_true q118
      have p119 : 0 ≤ (x5_1 : Int) := DT
      have q119 : x5_1 < (l0.length : Int) := DT
      obtain ⟨ad119, e119, hx119_0⟩ := Kd.at_int (Kd.R_reads' HO_0.out).2.2 x5_1 p119 q119
      obtain rfl : ad118 = ad119 := (by injection e119)
      replace p119 := eq_true p119
      replace q119 := eq_true q119
      go_wp2_with (first | ((with_reducible refine gate_dst (N := 34) rfl ?_); refine li 34 3 Ny120.out ?_; intro v121 w17 ho18 hb; have HO122 := Aside0.mk (Kd.R_lower (Kd.R_new' (Kd.R_newM (M := fun k_ => (P0_ k_ ∨ w.heap.size ≤ k_)) ho18 (by first | exact HK.out.1 | exact (show Kept w _ (fun k_ => P0_ k_) from by repeat (first | (with_reducible first | exact HK.out | apply Kept.alloc | apply Kept.drewN | apply Kept.drew) | exact HK.out)).1) (fun k_ h_ => .inr h_)) (Kd.R_lt (rb HO_0.out))) (below_size BA)); replace HO_0 := Aside0.mk (Kd.R_elder' (rb HO_0.out) (Kd.R_base ho18) hb); replace HK := Aside0.mk (Kept.below (S := (fun k_ => P0_ k_)) (by repeat (first | (with_reducible first | exact HK.out | apply Kept.alloc | apply Kept.drewN | apply Kept.drew) | exact HK.out)) hb); replace HB := bs hb; clear hb ho18; have q19 : (x5_1 : Int) ≤ ((l0.length : Int) : Int) := DT; obtain ⟨i019, hi019, _, hsz19, _⟩ := info_parts info3; have hroom19 : l0.length ≤ co16 := (Kd.R_reads' HO_0.out).2.1; have hC19 : Kd.C (Kd.int .i64) _ (some ad118) l0.length l0 := (Kd.R_reads' HO_0.out).2.2; have hcut19 := cut_to (P := Try.prog) 30 3 .i64 Try.underlying30 hi019 (some ad118) l0.length co16 x5_1 DT q19 hroom19; have hr19 := Kd.C_take (m := (x5_1 : Int).toNat) hC19 (by omega); have hy19 : y123.length = (x5_1 : Int).toNat := (by rw [Ny123.out, List.length_take]; omega); rw [← Ny123.out] at hr19; rw [← hy19] at hcut19; have HR126 := Aside0.mk hr19; have HC126 := Aside0.mk (show y123.length ≤ co16 from by omega); clear hr19 hC19 hroom19 hi019 hsz19; have KY19 := Aside0.mk hy19; clear hy19; have KL19 := Aside0.mk (show (x5_1 : Int).toNat ≤ l0.length from by omega); replace q19 := eq_true q19) | ((with_reducible refine gate_builtin (b := .append) (xs := #[.tmp 34, .tmp 37]) rfl ?_); at_builtin; refine Kd.R_append_rows (Kd.int .i64) (w0 := w0) w0.heap.size rfl (.tmp 34) (.tmp 37) 30 3 (.int .i64 0) 8 rfl Try.underlying30 info3 rfl (by decide) (by omega) v121 y120 y123 _ _ _ (fun k_ => (P0_ k_ ∨ w.heap.size ≤ k_) ∧ some k_ ≠ (.slice (some ad118) l0.length co16 : Value).ownBlock) (fun _ => False) rfl rfl ?aO ?aR (fun _ _ h => h) (fun _ h => h.elim) ?aF ?aB ?aS ?aL ?_; (case aR => exact cb (by repeat (first | (with_reducible exact HR126.out) | (with_reducible refine Kd.C_alloc ?_ _) | (with_reducible refine Kd.C_drewN ?_ _) | (with_reducible refine Kd.C_drew ?_) | exact HR126.out))); (case aB => exact BA); (case aF => exact (fun k_ hk => ⟨(.inr (Nat.le_trans (by first | exact HK.out.1 | exact (show Kept w _ (fun k_ => P0_ k_) from by repeat (first | (with_reducible first | exact HK.out | apply Kept.alloc | apply Kept.drewN | apply Kept.drew) | exact HK.out)).1) hk)), Kd.fresh' (Kd.R_lt (rb HO_0.out)) k_ hk⟩)); (case aO => exact (rb (Kd.R_mono HO122.out (fun _ hk => ⟨hk.1.1, hk.2⟩)))); (case aS => exact (below_size BA)); (case aL => have := LMc11.out; omega); intro v128 w20 ho hb hg hat; rw [← Ny127.out] at ho; have n0_ := Aside0.mk (Kd.R_after (ok := (fun k_ => (P0_ k_ ∨ w.heap.size ≤ k_))) (rb HO_0.out) hg hat); have n1_ := Aside0.mk (hb); have n2_ := Aside0.mk (Kept.of_grown (S := (fun k_ => P0_ k_)) hg (by repeat (first | (with_reducible first | exact HK.out | apply Kept.alloc | apply Kept.drewN | apply Kept.drew) | exact HK.out)) (fun k_ e_ => (HO122.out.1 k_ e_).1.1)); have n3_ := Aside0.mk ((show Kd.C (Kd.int .i64) w20 (some ad118) y123.length y123 from by rw [Ny123.out]; exact Kd.C_take (m := (x5_1 : Int).toNat) ((Kd.R_reads' (Kd.R_after (ok := (fun k_ => (P0_ k_ ∨ w.heap.size ≤ k_))) (rb HO_0.out) hg hat)).2.2) KL19.out)); have n4_ := Aside0.mk (ho); clear HO_0; clear HB; clear HK; clear HR126; clear HO122; have HO_0 := n0_; have HB := n1_; have HK := n2_; have HR126 := n3_; have HO129 := n4_; clear n0_ n1_ n2_ n3_ n4_; clear ho hb hg hat) | ((with_reducible refine gate_builtin (b := .append) (xs := #[.tmp 39, .tmp 41]) rfl ?_); at_builtin; refine Kd.R_append (Kd.int .i64) (w0 := w0) w0.heap.size rfl (.tmp 39) (.tmp 41) 30 3 (.int .i64 0) 8 rfl Try.underlying30 info3 rfl (by decide) (by omega) v128 y127 a1 [.int .i64 a1] (fun k_ => (P0_ k_ ∨ w.heap.size ≤ k_) ∧ some k_ ≠ (.slice (some ad118) l0.length co16 : Value).ownBlock) (fun _ => False) rfl rfl ?aP (fun _ hk => hk.elim) ?aF ?aO ?aB ?aS ?aL ?_; (case aP => exact rfl); (case aB => exact BA); (case aF => exact (fun k_ hk => ⟨(.inr (Nat.le_trans (by first | exact HK.out.1 | exact (show Kept w _ (fun k_ => P0_ k_) from by repeat (first | (with_reducible first | exact HK.out | apply Kept.alloc | apply Kept.drewN | apply Kept.drew) | exact HK.out)).1) hk)), Kd.fresh' (Kd.R_lt (rb HO_0.out)) k_ hk⟩)); (case aO => exact (rb HO129.out)); (case aS => exact (below_size BA)); (case aL => have := LMc12.out; omega); intro v131 w21 ho hb hg hat; rw [← Ny130.out] at ho; have n0_ := Aside0.mk (Kd.R_after (ok := (fun k_ => (P0_ k_ ∨ w.heap.size ≤ k_))) (rb HO_0.out) hg hat); have n1_ := Aside0.mk (hb); have n2_ := Aside0.mk (Kept.of_grown (S := (fun k_ => P0_ k_)) hg (by repeat (first | (with_reducible first | exact HK.out | apply Kept.alloc | apply Kept.drewN | apply Kept.drew) | exact HK.out)) (fun k_ e_ => (HO129.out.1 k_ e_).1)); have n3_ := Aside0.mk ((show Kd.C (Kd.int .i64) w21 (some ad118) y123.length y123 from by rw [Ny123.out]; exact Kd.C_take (m := (x5_1 : Int).toNat) ((Kd.R_reads' (Kd.R_after (ok := (fun k_ => (P0_ k_ ∨ w.heap.size ≤ k_))) (rb HO_0.out) hg hat)).2.2) KL19.out)); have n4_ := Aside0.mk (ho); clear HO_0; clear HB; clear HK; clear HR126; clear HO129; have HO_0 := n0_; have HB := n1_; have HK := n2_; have HR126 := n3_; have HO132 := n4_; clear n0_ n1_ n2_ n3_ n4_; clear ho hb hg hat; have q22 : (x5_1 : Int) ≤ ((l0.length : Int) : Int) := DT; obtain ⟨i022, hi022, _, hsz22, _⟩ := info_parts info3; have hroom22 : l0.length ≤ co16 := (Kd.R_reads' HO_0.out).2.1; have hC22 : Kd.C (Kd.int .i64) _ (some ad118) l0.length l0 := (Kd.R_reads' HO_0.out).2.2; have q022 : (0 : Int) ≤ (x5_1 : Int) := DT; have hcut22 := cut_from (P := Try.prog) 30 3 .i64 Try.underlying30 hi022 1 hsz22 (some ad118) l0.length co16 x5_1 q022 q22; have hr22 := Kd.C_drop (m := (x5_1 : Int).toNat) (c := co16) hC22 (by omega) hroom22; obtain ⟨A22, hA22⟩ : ∃ A1, A1 = (if co16 = (x5_1 : Int).toNat then (some ad118) else ((some ad118) : Option Addr).map (·.add ((x5_1 : Int).toNat * 1))) := ⟨_, rfl⟩; obtain ⟨c22, hc22⟩ : ∃ c1, c1 = co16 - (x5_1 : Int).toNat := ⟨_, rfl⟩; have hy22 : y133.length = l0.length - (x5_1 : Int).toNat := (by rw [Ny133.out, List.length_drop] <;> omega); rw [show (l0).drop (x5_1 : Int).toNat = y133 from Ny133.out.symm] at hr22; replace hr22 : Kd.C (Kd.int .i64) _ A22 y133.length y133 := (by rw [hA22]; exact hr22); rw [← hy22, ← hA22, ← hc22] at hcut22; have HR136 := Aside0.mk hr22; have HC136 := Aside0.mk (show y133.length ≤ c22 from by rw [hy22, hc22]; exact Nat.sub_le_sub_right hroom22 _); clear hr22 hC22 hroom22 hi022 hsz22 hc22; have KY22 := Aside0.mk hy22; have KA22 := Aside0.mk hA22; clear hy22 hA22; have KL22 := Aside0.mk (show (x5_1 : Int).toNat ≤ l0.length from by omega); replace q22 := eq_true q22) | ((with_reducible refine gate_builtin (b := .append) (xs := #[.tmp 43, .tmp 46]) rfl ?_); at_builtin; refine Kd.R_append_rows (Kd.int .i64) (w0 := w0) w0.heap.size rfl (.tmp 43) (.tmp 46) 30 3 (.int .i64 0) 8 rfl Try.underlying30 info3 rfl (by decide) (by omega) v131 y130 y133 _ _ _ (fun k_ => (P0_ k_ ∨ w.heap.size ≤ k_) ∧ some k_ ≠ (.slice (some ad118) l0.length co16 : Value).ownBlock) (fun _ => False) rfl rfl ?aO ?aR (fun _ _ h => h) (fun _ h => h.elim) ?aF ?aB ?aS ?aL ?_; (case aR => exact cb (by repeat (first | (with_reducible exact HR136.out) | (with_reducible refine Kd.C_alloc ?_ _) | (with_reducible refine Kd.C_drewN ?_ _) | (with_reducible refine Kd.C_drew ?_) | exact HR136.out))); (case aB => exact BA); (case aF => exact (fun k_ hk => ⟨(.inr (Nat.le_trans (by first | exact HK.out.1 | exact (show Kept w _ (fun k_ => P0_ k_) from by repeat (first | (with_reducible first | exact HK.out | apply Kept.alloc | apply Kept.drewN | apply Kept.drew) | exact HK.out)).1) hk)), Kd.fresh' (Kd.R_lt (rb HO_0.out)) k_ hk⟩)); (case aO => exact (rb HO132.out)); (case aS => exact (below_size BA)); (case aL => have := LMc15.out; omega); intro v138 w23 ho hb hg hat; rw [← Ny137.out] at ho; have n0_ := Aside0.mk (Kd.R_after (ok := (fun k_ => (P0_ k_ ∨ w.heap.size ≤ k_))) (rb HO_0.out) hg hat); have n1_ := Aside0.mk (hb); have n2_ := Aside0.mk (Kept.of_grown (S := (fun k_ => P0_ k_)) hg (by repeat (first | (with_reducible first | exact HK.out | apply Kept.alloc | apply Kept.drewN | apply Kept.drew) | exact HK.out)) (fun k_ e_ => (HO132.out.1 k_ e_).1)); have n3_ := Aside0.mk ((show Kd.C (Kd.int .i64) w23 (some ad118) y123.length y123 from by rw [Ny123.out]; exact Kd.C_take (m := (x5_1 : Int).toNat) ((Kd.R_reads' (Kd.R_after (ok := (fun k_ => (P0_ k_ ∨ w.heap.size ≤ k_))) (rb HO_0.out) hg hat)).2.2) KL19.out)); have n4_ := Aside0.mk ((show Kd.C (Kd.int .i64) w23 A22 y133.length y133 from by rw [Ny133.out, KA22.out]; exact Kd.C_drop (m := (x5_1 : Int).toNat) (c := co16) ((Kd.R_reads' (Kd.R_after (ok := (fun k_ => (P0_ k_ ∨ w.heap.size ≤ k_))) (rb HO_0.out) hg hat)).2.2) KL22.out ((Kd.R_reads' (Kd.R_after (ok := (fun k_ => (P0_ k_ ∨ w.heap.size ≤ k_))) (rb HO_0.out) hg hat)).2.1))); have n5_ := Aside0.mk (ho); clear HO_0; clear HB; clear HK; clear HR126; clear HR136; clear HO132; have HO_0 := n0_; have HB := n1_; have HK := n2_; have HR126 := n3_; have HR136 := n4_; have HO139 := n5_; clear n0_ n1_ n2_ n3_ n4_ n5_; clear ho hb hg hat))
      go_ret
      exact ⟨_, EQ, rb (Kd.R_mono HO139.out (fun _ hk => hk.1)), BA, by repeat (first | (with_reducible first | exact HK.out | apply Kept.alloc | apply Kept.drewN | apply Kept.drew) | exact HK.out)⟩
   ·rw [if_neg c3] at H
    have c3b0 := decide_eq_false c3
    clear c3
    obtain ⟨y140, hy140, H⟩ := lets H
    (try dsimp only at H)
    have Ny140 := Aside0.mk hy140
    clear hy140
    obtain ⟨c24, H⟩ := ifs H
    have c24b0 := eq_true c24
    have c24b1 := decide_eq_true c24
    clear c24
    obtain ⟨c25, H⟩ := ifs H
    have c25b0 := eq_true c25
    have c25b1 := decide_eq_true c25
    clear c25
    obtain ⟨y143, hy143, H⟩ := lets H
    (try dsimp only at H)
    have Ny143 := Aside0.mk hy143
    clear hy143
    obtain ⟨c26, H⟩ := ifs H
    have LMc26 := Aside0.mk c26
    clear c26
    obtain ⟨y147, hy147, H⟩ := lets H
    (try dsimp only at H)
    have Ny147 := Aside0.mk hy147
    clear hy147
    obtain ⟨c27, H⟩ := ifs H
    have LMc27 := Aside0.mk c27
    clear c27
    obtain ⟨y150, hy150, H⟩ := lets H
    (try dsimp only at H)
    have Ny150 := Aside0.mk hy150
    clear hy150
    have c28b0 := eq_true (DT : 0 ≤ x5_1)
    have c29b0 := eq_true (DT : x5_1 ≤ (l0.length : Int))
    obtain ⟨y153, hy153, H⟩ := lets H
    (try dsimp only at H)
    have Ny153 := Aside0.mk hy153
    clear hy153
    obtain ⟨c30, H⟩ := ifs H
    have LMc30 := Aside0.mk c30
    clear c30
    obtain ⟨y157, hy157⟩ : ∃ y_ : List Int, y_ = (y150 ++ y153) := ⟨_, rfl⟩
    replace H : (some y157) = some r := by first | (rw [hy157]; with_reducible exact H) | (have H2_ := (Option.bind_some _ _).symm.trans H; rw [hy157]; with_reducible exact H2_) | (have H2_ := (Option.bind_some _ _).symm.trans H; with_reducible exact H2_) | with_reducible exact H | (rw [hy157]; exact H) | exact H
    have Ny157 := Aside0.mk hy157
    clear hy157
    obtain rfl := Option.some.inj H
    obtain ⟨Ao31, co31, eo31⟩ := Kd.R_slice HO_0.out
    subst eo31
    go_wp2_with (first | ((with_reducible refine gate_dst (N := 34) rfl ?_); refine li 34 3 Ny140.out ?_; intro v141 w32 ho33 hb; have HO142 := Aside0.mk (Kd.R_lower (Kd.R_new' (Kd.R_newM (M := fun k_ => (P0_ k_ ∨ w.heap.size ≤ k_)) ho33 (by first | exact HK.out.1 | exact (show Kept w _ (fun k_ => P0_ k_) from by repeat (first | (with_reducible first | exact HK.out | apply Kept.alloc | apply Kept.drewN | apply Kept.drew) | exact HK.out)).1) (fun k_ h_ => .inr h_)) (Kd.R_lt (rb HO_0.out))) (below_size BA)); replace HO_0 := Aside0.mk (Kd.R_elder' (rb HO_0.out) (Kd.R_base ho33) hb); replace HK := Aside0.mk (Kept.below (S := (fun k_ => P0_ k_)) (by repeat (first | (with_reducible first | exact HK.out | apply Kept.alloc | apply Kept.drewN | apply Kept.drew) | exact HK.out)) hb); replace HB := bs hb; clear hb ho33; have q34 : (x5_1 : Int) ≤ ((l0.length : Int) : Int) := DT; obtain ⟨i034, hi034, _, hsz34, _⟩ := info_parts info3; have hroom34 : l0.length ≤ co31 := (Kd.R_reads' HO_0.out).2.1; have hC34 : Kd.C (Kd.int .i64) _ Ao31 l0.length l0 := (Kd.R_reads' HO_0.out).2.2; have hcut34 := cut_to (P := Try.prog) 30 3 .i64 Try.underlying30 hi034 Ao31 l0.length co31 x5_1 DT q34 hroom34; have hr34 := Kd.C_take (m := (x5_1 : Int).toNat) hC34 (by omega); have hy34 : y143.length = (x5_1 : Int).toNat := (by rw [Ny143.out, List.length_take]; omega); rw [← Ny143.out] at hr34; rw [← hy34] at hcut34; have HR146 := Aside0.mk hr34; have HC146 := Aside0.mk (show y143.length ≤ co31 from by omega); clear hr34 hC34 hroom34 hi034 hsz34; have KY34 := Aside0.mk hy34; clear hy34; have KL34 := Aside0.mk (show (x5_1 : Int).toNat ≤ l0.length from by omega); replace q34 := eq_true q34) | ((with_reducible refine gate_builtin (b := .append) (xs := #[.tmp 34, .tmp 37]) rfl ?_); at_builtin; refine Kd.R_append_rows (Kd.int .i64) (w0 := w0) w0.heap.size rfl (.tmp 34) (.tmp 37) 30 3 (.int .i64 0) 8 rfl Try.underlying30 info3 rfl (by decide) (by omega) v141 y140 y143 _ _ _ (fun k_ => (P0_ k_ ∨ w.heap.size ≤ k_) ∧ some k_ ≠ (.slice Ao31 l0.length co31 : Value).ownBlock) (fun _ => False) rfl rfl ?aO ?aR (fun _ _ h => h) (fun _ h => h.elim) ?aF ?aB ?aS ?aL ?_; (case aR => exact cb (by repeat (first | (with_reducible exact HR146.out) | (with_reducible refine Kd.C_alloc ?_ _) | (with_reducible refine Kd.C_drewN ?_ _) | (with_reducible refine Kd.C_drew ?_) | exact HR146.out))); (case aB => exact BA); (case aF => exact (fun k_ hk => ⟨(.inr (Nat.le_trans (by first | exact HK.out.1 | exact (show Kept w _ (fun k_ => P0_ k_) from by repeat (first | (with_reducible first | exact HK.out | apply Kept.alloc | apply Kept.drewN | apply Kept.drew) | exact HK.out)).1) hk)), Kd.fresh' (Kd.R_lt (rb HO_0.out)) k_ hk⟩)); (case aO => exact (rb (Kd.R_mono HO142.out (fun _ hk => ⟨hk.1.1, hk.2⟩)))); (case aS => exact (below_size BA)); (case aL => have := LMc26.out; omega); intro v148 w35 ho hb hg hat; rw [← Ny147.out] at ho; have n0_ := Aside0.mk (Kd.R_after (ok := (fun k_ => (P0_ k_ ∨ w.heap.size ≤ k_))) (rb HO_0.out) hg hat); have n1_ := Aside0.mk (hb); have n2_ := Aside0.mk (Kept.of_grown (S := (fun k_ => P0_ k_)) hg (by repeat (first | (with_reducible first | exact HK.out | apply Kept.alloc | apply Kept.drewN | apply Kept.drew) | exact HK.out)) (fun k_ e_ => (HO142.out.1 k_ e_).1.1)); have n3_ := Aside0.mk ((show Kd.C (Kd.int .i64) w35 Ao31 y143.length y143 from by rw [Ny143.out]; exact Kd.C_take (m := (x5_1 : Int).toNat) ((Kd.R_reads' (Kd.R_after (ok := (fun k_ => (P0_ k_ ∨ w.heap.size ≤ k_))) (rb HO_0.out) hg hat)).2.2) KL34.out)); have n4_ := Aside0.mk (ho); clear HO_0; clear HB; clear HK; clear HR146; clear HO142; have HO_0 := n0_; have HB := n1_; have HK := n2_; have HR146 := n3_; have HO149 := n4_; clear n0_ n1_ n2_ n3_ n4_; clear ho hb hg hat) | ((with_reducible refine gate_builtin (b := .append) (xs := #[.tmp 39, .tmp 41]) rfl ?_); at_builtin; refine Kd.R_append (Kd.int .i64) (w0 := w0) w0.heap.size rfl (.tmp 39) (.tmp 41) 30 3 (.int .i64 0) 8 rfl Try.underlying30 info3 rfl (by decide) (by omega) v148 y147 a1 [.int .i64 a1] (fun k_ => (P0_ k_ ∨ w.heap.size ≤ k_) ∧ some k_ ≠ (.slice Ao31 l0.length co31 : Value).ownBlock) (fun _ => False) rfl rfl ?aP (fun _ hk => hk.elim) ?aF ?aO ?aB ?aS ?aL ?_; (case aP => exact rfl); (case aB => exact BA); (case aF => exact (fun k_ hk => ⟨(.inr (Nat.le_trans (by first | exact HK.out.1 | exact (show Kept w _ (fun k_ => P0_ k_) from by repeat (first | (with_reducible first | exact HK.out | apply Kept.alloc | apply Kept.drewN | apply Kept.drew) | exact HK.out)).1) hk)), Kd.fresh' (Kd.R_lt (rb HO_0.out)) k_ hk⟩)); (case aO => exact (rb HO149.out)); (case aS => exact (below_size BA)); (case aL => have := LMc27.out; omega); intro v151 w36 ho hb hg hat; rw [← Ny150.out] at ho; have n0_ := Aside0.mk (Kd.R_after (ok := (fun k_ => (P0_ k_ ∨ w.heap.size ≤ k_))) (rb HO_0.out) hg hat); have n1_ := Aside0.mk (hb); have n2_ := Aside0.mk (Kept.of_grown (S := (fun k_ => P0_ k_)) hg (by repeat (first | (with_reducible first | exact HK.out | apply Kept.alloc | apply Kept.drewN | apply Kept.drew) | exact HK.out)) (fun k_ e_ => (HO149.out.1 k_ e_).1)); have n3_ := Aside0.mk ((show Kd.C (Kd.int .i64) w36 Ao31 y143.length y143 from by rw [Ny143.out]; exact Kd.C_take (m := (x5_1 : Int).toNat) ((Kd.R_reads' (Kd.R_after (ok := (fun k_ => (P0_ k_ ∨ w.heap.size ≤ k_))) (rb HO_0.out) hg hat)).2.2) KL34.out)); have n4_ := Aside0.mk (ho); clear HO_0; clear HB; clear HK; clear HR146; clear HO149; have HO_0 := n0_; have HB := n1_; have HK := n2_; have HR146 := n3_; have HO152 := n4_; clear n0_ n1_ n2_ n3_ n4_; clear ho hb hg hat; have q37 : (x5_1 : Int) ≤ ((l0.length : Int) : Int) := DT; obtain ⟨i037, hi037, _, hsz37, _⟩ := info_parts info3; have hroom37 : l0.length ≤ co31 := (Kd.R_reads' HO_0.out).2.1; have hC37 : Kd.C (Kd.int .i64) _ Ao31 l0.length l0 := (Kd.R_reads' HO_0.out).2.2; have q037 : (0 : Int) ≤ (x5_1 : Int) := DT; have hcut37 := cut_from (P := Try.prog) 30 3 .i64 Try.underlying30 hi037 1 hsz37 Ao31 l0.length co31 x5_1 q037 q37; have hr37 := Kd.C_drop (m := (x5_1 : Int).toNat) (c := co31) hC37 (by omega) hroom37; obtain ⟨A37, hA37⟩ : ∃ A1, A1 = (if co31 = (x5_1 : Int).toNat then Ao31 else (Ao31 : Option Addr).map (·.add ((x5_1 : Int).toNat * 1))) := ⟨_, rfl⟩; obtain ⟨c37, hc37⟩ : ∃ c1, c1 = co31 - (x5_1 : Int).toNat := ⟨_, rfl⟩; have hy37 : y153.length = l0.length - (x5_1 : Int).toNat := (by rw [Ny153.out, List.length_drop] <;> omega); rw [show (l0).drop (x5_1 : Int).toNat = y153 from Ny153.out.symm] at hr37; replace hr37 : Kd.C (Kd.int .i64) _ A37 y153.length y153 := (by rw [hA37]; exact hr37); rw [← hy37, ← hA37, ← hc37] at hcut37; have HR156 := Aside0.mk hr37; have HC156 := Aside0.mk (show y153.length ≤ c37 from by rw [hy37, hc37]; exact Nat.sub_le_sub_right hroom37 _); clear hr37 hC37 hroom37 hi037 hsz37 hc37; have KY37 := Aside0.mk hy37; have KA37 := Aside0.mk hA37; clear hy37 hA37; have KL37 := Aside0.mk (show (x5_1 : Int).toNat ≤ l0.length from by omega); replace q37 := eq_true q37) | ((with_reducible refine gate_builtin (b := .append) (xs := #[.tmp 43, .tmp 46]) rfl ?_); at_builtin; refine Kd.R_append_rows (Kd.int .i64) (w0 := w0) w0.heap.size rfl (.tmp 43) (.tmp 46) 30 3 (.int .i64 0) 8 rfl Try.underlying30 info3 rfl (by decide) (by omega) v151 y150 y153 _ _ _ (fun k_ => (P0_ k_ ∨ w.heap.size ≤ k_) ∧ some k_ ≠ (.slice Ao31 l0.length co31 : Value).ownBlock) (fun _ => False) rfl rfl ?aO ?aR (fun _ _ h => h) (fun _ h => h.elim) ?aF ?aB ?aS ?aL ?_; (case aR => exact cb (by repeat (first | (with_reducible exact HR156.out) | (with_reducible refine Kd.C_alloc ?_ _) | (with_reducible refine Kd.C_drewN ?_ _) | (with_reducible refine Kd.C_drew ?_) | exact HR156.out))); (case aB => exact BA); (case aF => exact (fun k_ hk => ⟨(.inr (Nat.le_trans (by first | exact HK.out.1 | exact (show Kept w _ (fun k_ => P0_ k_) from by repeat (first | (with_reducible first | exact HK.out | apply Kept.alloc | apply Kept.drewN | apply Kept.drew) | exact HK.out)).1) hk)), Kd.fresh' (Kd.R_lt (rb HO_0.out)) k_ hk⟩)); (case aO => exact (rb HO152.out)); (case aS => exact (below_size BA)); (case aL => have := LMc30.out; omega); intro v158 w38 ho hb hg hat; rw [← Ny157.out] at ho; have n0_ := Aside0.mk (Kd.R_after (ok := (fun k_ => (P0_ k_ ∨ w.heap.size ≤ k_))) (rb HO_0.out) hg hat); have n1_ := Aside0.mk (hb); have n2_ := Aside0.mk (Kept.of_grown (S := (fun k_ => P0_ k_)) hg (by repeat (first | (with_reducible first | exact HK.out | apply Kept.alloc | apply Kept.drewN | apply Kept.drew) | exact HK.out)) (fun k_ e_ => (HO152.out.1 k_ e_).1)); have n3_ := Aside0.mk ((show Kd.C (Kd.int .i64) w38 Ao31 y143.length y143 from by rw [Ny143.out]; exact Kd.C_take (m := (x5_1 : Int).toNat) ((Kd.R_reads' (Kd.R_after (ok := (fun k_ => (P0_ k_ ∨ w.heap.size ≤ k_))) (rb HO_0.out) hg hat)).2.2) KL34.out)); have n4_ := Aside0.mk ((show Kd.C (Kd.int .i64) w38 A37 y153.length y153 from by rw [Ny153.out, KA37.out]; exact Kd.C_drop (m := (x5_1 : Int).toNat) (c := co31) ((Kd.R_reads' (Kd.R_after (ok := (fun k_ => (P0_ k_ ∨ w.heap.size ≤ k_))) (rb HO_0.out) hg hat)).2.2) KL37.out ((Kd.R_reads' (Kd.R_after (ok := (fun k_ => (P0_ k_ ∨ w.heap.size ≤ k_))) (rb HO_0.out) hg hat)).2.1))); have n5_ := Aside0.mk (ho); clear HO_0; clear HB; clear HK; clear HR146; clear HR156; clear HO152; have HO_0 := n0_; have HB := n1_; have HK := n2_; have HR146 := n3_; have HR156 := n4_; have HO159 := n5_; clear n0_ n1_ n2_ n3_ n4_ n5_; clear ho hb hg hat))
    go_ret
    exact ⟨_, EQ, rb (Kd.R_mono HO159.out (fun _ hk => hk.1)), BA, by repeat (first | (with_reducible first | exact HK.out | apply Kept.alloc | apply Kept.drewN | apply Kept.drew) | exact HK.out)⟩

/-! ### spec_cvDeep: function 84 -/
def spec_cvDeep.f (k : Nat) (l0 : List (S54)) (a1 : Int) (a2 : Int) (a3 : ByteArray) (l4 : List Int) : Option (List Int × List Int × Bool) := if 0 ≤ a2 then (if a2 < (l0.length : Int) then (if ((rd_T54 l0 a2).f0).toList = a3.toList then (if 0 ≤ ((rd_T54 l0 a2).f2) then (if ((rd_T54 l0 a2).f2) < (l0.length : Int) then ((spec_cvConst.f k ((rd_T54 l0 ((rd_T54 l0 a2).f2)).f0) ((rd_T54 l0 ((rd_T54 l0 a2).f2)).f1) ((rd_T54 l0 ((rd_T54 l0 a2).f2)).f2) ((rd_T54 l0 ((rd_T54 l0 a2).f2)).f3) l4).bind fun t163 => (if t163 = true then ((spec_l1Put.f k (([a2] : List Int)) ((rd_T54 l0 a2).f2)).bind fun t170 => (some ((([a1, (rd_T54 l0 a2).f1] : List Int)), t170, true))) else (some (([] : List Int), ([] : List Int), false)))) else (none)) else (none)) else (some (([] : List Int), ([] : List Int), false))) else (none)) else (none)
def spec_cvDeep.T4 : Bool × List (List Nat × List Nat) := (true, [([], []), ([], []), ([1], [1]), ([0, 2], [0, 2]), ([], []), ([4], [4]), ([], []), ([6], [6]), ([5, 7], [5, 7]), ([3, 8, 0, 1, 2, 3], [3]), ([8, 9, 0, 1, 2, 3, 4, 5, 6, 7, 8, 9], [8]), ([10, 0, 1, 2, 3, 4, 5, 6, 7, 8, 9, 10], [])])
def spec_cvDeep.B4 : List Nat := [0, 0, 2, 7, 0, 16, 0, 64, 240, 511, 1023, 2047]
theorem spec_cvDeep.tab4 : rtab .any (opsOf Try.f84 4) = spec_cvDeep.T4 := by kernel_rfl
theorem spec_cvDeep.bits4 : waitsOk spec_cvDeep.T4.2 spec_cvDeep.B4 = true := by kernel_rfl
theorem spec_cvDeep.calls (k : Nat) (A0 : Option Addr) (c0 : Nat) (l0 : List (S54)) (a1 : Int) (a2 : Int) (a3 : ByteArray) (A4 : Option Addr) (c4 : Nat) (l4 : List Int) (r1 : List Int) (r2 : List Int) (r3 : Bool) (w : World) (hr0 : Kd.C k54 w A0 l0.length l0) (hc0 : l0.length ≤ c0) (hr4 : Kd.C (Kd.int .i64) w A4 l4.length l4) (hc4 : l4.length ≤ c4) (h : spec_cvDeep.f k l0 a1 a2 a3 l4 = some (r1, r2, r3)) :
  Calls Try.prog 84 #[.slice A0 l0.length c0, .int .i64 a1, .int .i64 a2, .string a3, .slice A4 l4.length c4] w fun e w' => ∃ v0_ v1_ : Value, e = .returned (.tuple #[v0_, v1_, .bool r3]) ∧ Kd.R (Kd.int .i64) 3 w' w.heap.size (fun k_ => some k_ ≠ (v1_ : Value).ownBlock) v0_ r1 ∧ Kd.R (Kd.int .i64) 3 w' w.heap.size (fun k_ => some k_ ≠ (v0_ : Value).ownBlock) v1_ r2 ∧ Below w.heap.size w w' := by
 have hu54 := Try.underlying54
 have HR0 := Aside0.mk hr0
 have HC0 := Aside0.mk hc0
 clear hr0 hc0
 have HR4 := Aside0.mk hr4
 have HC4 := Aside0.mk hc4
 clear hr4 hc4
 have HB := Aside0.mk (Below.refl w.heap.size w)
 have H := h
 clear h
 unfold spec_cvDeep.f at H
 obtain ⟨c6, H⟩ := ifs H
 have c6b0 := decide_eq_true c6
 clear c6
 obtain ⟨c7, H⟩ := ifs H
 have c7b0 := decide_eq_true c7
 clear c7
 by_cases c8 : ((rd_T54 l0 a2).f0).toList = a3.toList
 ·rw [if_pos c8] at H
  have c8b0 := beq_iff_eq.mpr c8
  have c8b1 := bne_eq_false_iff_eq.mpr c8
  clear c8
  obtain ⟨c9, H⟩ := ifs H
  have c9b0 := decide_eq_true c9
  clear c9
  obtain ⟨c10, H⟩ := ifs H
  have c10b0 := decide_eq_true c10
  clear c10
  obtain ⟨t163, A11, H⟩ := ob H
  (try dsimp only at H)
  by_cases c12 : t163 = true
  ·subst c12
   rw [if_pos rfl] at H
   obtain ⟨y164, hy164⟩ : ∃ y_ : List Int, y_ = (([a1, (rd_T54 l0 a2).f1] : List Int)) := ⟨_, rfl⟩
   replace H : ((spec_l1Put.f k (([a2] : List Int)) ((rd_T54 l0 a2).f2)).bind fun t170 => (some (y164, t170, true))) = some (r1, r2, r3) := by first | (rw [hy164]; with_reducible exact H) | (have H2_ := (Option.bind_some _ _).symm.trans H; rw [hy164]; with_reducible exact H2_) | (have H2_ := (Option.bind_some _ _).symm.trans H; with_reducible exact H2_) | with_reducible exact H | (rw [hy164]; exact H) | exact H
   have Ny164 := Aside0.mk hy164
   clear hy164
   obtain ⟨y167, hy167⟩ : ∃ y_ : List Int, y_ = (([a2] : List Int)) := ⟨_, rfl⟩
   replace H : ((spec_l1Put.f k y167 ((rd_T54 l0 a2).f2)).bind fun t170 => (some (y164, t170, true))) = some (r1, r2, r3) := by first | (rw [hy167]; with_reducible exact H) | (have H2_ := (Option.bind_some _ _).symm.trans H; rw [hy167]; with_reducible exact H2_) | (have H2_ := (Option.bind_some _ _).symm.trans H; with_reducible exact H2_) | with_reducible exact H | (rw [hy167]; exact H) | exact H
   have Ny167 := Aside0.mk hy167
   clear hy167
   obtain ⟨t170, A13, H⟩ := ob H
   (try dsimp only at H)
   simp only [Option.some.injEq, Prod.mk.injEq] at H
   obtain ⟨rfl, rfl, rfl⟩ := H
   have p160 : 0 ≤ (a2 : Int) := DT
   have q160 : a2 < (l0.length : Int) := DT
   obtain ⟨ad160, e160, hx160_0, hx160_1, hx160_2, hx160_3⟩ := at_T54 HR0.out a2 p160 q160
   cases e160
   replace p160 := eq_true p160
   replace q160 := eq_true q160
   go_enter Try.func84, Try.ntmps84
   try go_wp2_with (first | ((with_reducible refine gd 13 rfl ?_); refine bx 13 #[.string (⟨#[]⟩ : ByteArray), .int .i64 0, .int .i64 0, .int .i64 0] 54 ?_; intro gb161 hg w14 BK161 GW161 HB hb; have GE161 := GW161; clear hb hg; obtain ⟨hcz15_0, hcz15_1, hcz15_2, hcz15_3⟩ := bc4 BK161.out; have hfz15 := blk_frozen BK161.out; have p162 : 0 ≤ (((rd_T54 l0 a2).f2) : Int) := DT; have q162 : ((rd_T54 l0 a2).f2) < (l0.length : Int) := DT; obtain ⟨ad162, e162, hx162_0, hx162_1, hx162_2, hx162_3⟩ := at_T54 HR0.out ((rd_T54 l0 a2).f2) p162 q162; obtain rfl : ad160 = ad162 := (by injection e162); have hn162_0 : ad160.block ≠ gb161 := Nat.ne_of_lt (Nat.lt_of_lt_of_le (by have := World.block_lt_of_cell? _ _ hx162_0; first | rwa [add_block] at this | exact this) GW161.out); have hn162_1 : ad160.block ≠ gb161 := Nat.ne_of_lt (Nat.lt_of_lt_of_le (by have := World.block_lt_of_cell? _ _ hx162_0; first | rwa [add_block] at this | exact this) GW161.out); have hn162_2 : ad160.block ≠ gb161 := Nat.ne_of_lt (Nat.lt_of_lt_of_le (by have := World.block_lt_of_cell? _ _ hx162_0; first | rwa [add_block] at this | exact this) GW161.out); have hn162_3 : ad160.block ≠ gb161 := Nat.ne_of_lt (Nat.lt_of_lt_of_le (by have := World.block_lt_of_cell? _ _ hx162_0; first | rwa [add_block] at this | exact this) GW161.out); replace hx162_0 := (HB.out.cell (World.block_lt_of_cell? w _ hx162_0)).trans hx162_0; replace hx162_1 := (HB.out.cell (World.block_lt_of_cell? w _ hx162_1)).trans hx162_1; replace hx162_2 := (HB.out.cell (World.block_lt_of_cell? w _ hx162_2)).trans hx162_2; replace hx162_3 := (HB.out.cell (World.block_lt_of_cell? w _ hx162_3)).trans hx162_3; replace hx162_0 := (cell_far (p := ⟨gb161, 0, none⟩) (by first | (rw [add_block]; exact hn162_0) | (show (Addr.add _ _).block ≠ _; rw [add_block]; exact hn162_0) | exact hn162_0) (.string ((rd_T54 l0 a2).f0))).trans hx162_0; replace hx162_1 := (cell_far (p := ⟨gb161, 0, none⟩) (by first | (rw [add_block]; exact hn162_0) | (show (Addr.add _ _).block ≠ _; rw [add_block]; exact hn162_0) | exact hn162_0) (.string ((rd_T54 l0 a2).f0))).trans hx162_1; replace hx162_2 := (cell_far (p := ⟨gb161, 0, none⟩) (by first | (rw [add_block]; exact hn162_0) | (show (Addr.add _ _).block ≠ _; rw [add_block]; exact hn162_0) | exact hn162_0) (.string ((rd_T54 l0 a2).f0))).trans hx162_2; replace hx162_3 := (cell_far (p := ⟨gb161, 0, none⟩) (by first | (rw [add_block]; exact hn162_0) | (show (Addr.add _ _).block ≠ _; rw [add_block]; exact hn162_0) | exact hn162_0) (.string ((rd_T54 l0 a2).f0))).trans hx162_3; replace hx162_0 := (cell_far (p := ⟨gb161, 1, none⟩) (by first | (rw [add_block]; exact hn162_1) | (show (Addr.add _ _).block ≠ _; rw [add_block]; exact hn162_1) | exact hn162_1) (.int .i64 ((rd_T54 l0 a2).f1))).trans hx162_0; replace hx162_1 := (cell_far (p := ⟨gb161, 1, none⟩) (by first | (rw [add_block]; exact hn162_1) | (show (Addr.add _ _).block ≠ _; rw [add_block]; exact hn162_1) | exact hn162_1) (.int .i64 ((rd_T54 l0 a2).f1))).trans hx162_1; replace hx162_2 := (cell_far (p := ⟨gb161, 1, none⟩) (by first | (rw [add_block]; exact hn162_1) | (show (Addr.add _ _).block ≠ _; rw [add_block]; exact hn162_1) | exact hn162_1) (.int .i64 ((rd_T54 l0 a2).f1))).trans hx162_2; replace hx162_3 := (cell_far (p := ⟨gb161, 1, none⟩) (by first | (rw [add_block]; exact hn162_1) | (show (Addr.add _ _).block ≠ _; rw [add_block]; exact hn162_1) | exact hn162_1) (.int .i64 ((rd_T54 l0 a2).f1))).trans hx162_3; replace hx162_0 := (cell_far (p := ⟨gb161, 2, none⟩) (by first | (rw [add_block]; exact hn162_2) | (show (Addr.add _ _).block ≠ _; rw [add_block]; exact hn162_2) | exact hn162_2) (.int .i64 ((rd_T54 l0 a2).f2))).trans hx162_0; replace hx162_1 := (cell_far (p := ⟨gb161, 2, none⟩) (by first | (rw [add_block]; exact hn162_2) | (show (Addr.add _ _).block ≠ _; rw [add_block]; exact hn162_2) | exact hn162_2) (.int .i64 ((rd_T54 l0 a2).f2))).trans hx162_1; replace hx162_2 := (cell_far (p := ⟨gb161, 2, none⟩) (by first | (rw [add_block]; exact hn162_2) | (show (Addr.add _ _).block ≠ _; rw [add_block]; exact hn162_2) | exact hn162_2) (.int .i64 ((rd_T54 l0 a2).f2))).trans hx162_2; replace hx162_3 := (cell_far (p := ⟨gb161, 2, none⟩) (by first | (rw [add_block]; exact hn162_2) | (show (Addr.add _ _).block ≠ _; rw [add_block]; exact hn162_2) | exact hn162_2) (.int .i64 ((rd_T54 l0 a2).f2))).trans hx162_3; replace hx162_0 := (cell_far (p := ⟨gb161, 3, none⟩) (by first | (rw [add_block]; exact hn162_3) | (show (Addr.add _ _).block ≠ _; rw [add_block]; exact hn162_3) | exact hn162_3) (.int .i64 ((rd_T54 l0 a2).f3))).trans hx162_0; replace hx162_1 := (cell_far (p := ⟨gb161, 3, none⟩) (by first | (rw [add_block]; exact hn162_3) | (show (Addr.add _ _).block ≠ _; rw [add_block]; exact hn162_3) | exact hn162_3) (.int .i64 ((rd_T54 l0 a2).f3))).trans hx162_1; replace hx162_2 := (cell_far (p := ⟨gb161, 3, none⟩) (by first | (rw [add_block]; exact hn162_3) | (show (Addr.add _ _).block ≠ _; rw [add_block]; exact hn162_3) | exact hn162_3) (.int .i64 ((rd_T54 l0 a2).f3))).trans hx162_2; replace hx162_3 := (cell_far (p := ⟨gb161, 3, none⟩) (by first | (rw [add_block]; exact hn162_3) | (show (Addr.add _ _).block ≠ _; rw [add_block]; exact hn162_3) | exact hn162_3) (.int .i64 ((rd_T54 l0 a2).f3))).trans hx162_3; clear hn162_0; clear hn162_1; clear hn162_2; clear hn162_3; replace p162 := eq_true p162; replace q162 := eq_true q162) | (go_at_call 82; (with_reducible refine (spec_cvConst.calls k ((rd_T54 l0 ((rd_T54 l0 a2).f2)).f0) ((rd_T54 l0 ((rd_T54 l0 a2).f2)).f1) ((rd_T54 l0 ((rd_T54 l0 a2).f2)).f2) ((rd_T54 l0 ((rd_T54 l0 a2).f2)).f3) _ _ l4 true _ ?side1 ?side2 A11.out).mono ?_); (case side1 => exact Kd.C_below HR4.out BA); (case side2 => exact HC4.out); rintro e w16 ⟨rfl, hb⟩; replace BK161 := Aside0.mk (blk_below (g := gb161) (o := .cells #[.string ((rd_T54 l0 a2).f0), .int .i64 ((rd_T54 l0 a2).f1), .int .i64 ((rd_T54 l0 a2).f2), .int .i64 ((rd_T54 l0 a2).f3)] 54 (0, 0)) (bq BK161.out) hb); replace HB := bs hb; (try clear hb)))
   replace BK161 := Aside0.mk (blk_drew BK161.out); replace HB := Aside0.mk (below_drew1 HB.out)
   refine start_ (n := 12) (S := C4 gb161 (.string ((rd_T54 l0 a2).f0)) (.int .i64 ((rd_T54 l0 a2).f1)) (.int .i64 ((rd_T54 l0 a2).f2)) (.int .i64 ((rd_T54 l0 a2).f3))) (ds := []) (mk 12 0) (by kernel_rfl) rfl (by kernel_rfl) (bc4 BK161.out) (fun hHeld => ?_); refine with_tabW spec_cvDeep.tab4 spec_cvDeep.bits4 (fun HT_ HW_ => ?_)
   generalize w16.drew = w17 at BK161 HB hHeld ⊢
   refine pu 0 32 12 1 rfl rfl ?_
   refine pu 1 33 12 3 rfl rfl ?_
   refine pu 4 36 12 19 rfl rfl ?_
   refine pu 6 38 12 83 rfl rfl ?_
   refine ta 2 34 12 87 rfl rfl ?_
   refine ta 7 39 12 215 rfl rfl ?_
   refine join_ (σ := Value × Value × Value) 3 #[true, true, true, true, true, true, true, true, true, false, false, false] (fun s_ => [(35, s_.1), (37, s_.2.1), (40, s_.2.2)]) (fun s_ w' => (w'.cell? ⟨gb161, 0, none⟩ = some (.string ((rd_T54 l0 a2).f0)) ∧ w'.cell? ⟨gb161, 1, none⟩ = some (.int .i64 ((rd_T54 l0 a2).f1)) ∧ w'.cell? ⟨gb161, 2, none⟩ = some (.int .i64 ((rd_T54 l0 a2).f2)) ∧ w'.cell? ⟨gb161, 3, none⟩ = some (.int .i64 ((rd_T54 l0 a2).f3))) ∧ (Kd.R (Kd.int .i64) 3 w' w.heap.size (fun k_ => some k_ ≠ (s_.2.2 : Value).ownBlock) s_.1 y164) ∧ (Kd.R (Kd.int .i64) 3 w' w.heap.size (fun k_ => some k_ ≠ (s_.1 : Value).ownBlock) s_.2.2 t170) ∧ (w'.heap[gb161]? = some (.cells #[.string ((rd_T54 l0 a2).f0), .int .i64 ((rd_T54 l0 a2).f1), .int .i64 ((rd_T54 l0 a2).f2), .int .i64 ((rd_T54 l0 a2).f3)] 54 (0, 0))) ∧ (Below w.heap.size w w')) ?_ ?_
   rotate_left
   ·intro hCont
    refine two_ (i := 3) (j := 5) (Ni := some 35) (Nj := some 37) #[true, true, true, true, true, false, true, true, false, false, false, false] #[true, true, true, false, true, true, true, true, false, false, false, false] rfl rfl rfl rfl (two_of HT_.out (by kernel_rfl)) (by decide) (by decide) (fun K hK => ?_) (fun K hK => ?_)
    ·skip
     refine lis 35 3 Ny164.out ?_
     intro v165 w18 ho19 hb
     have HO166 := Aside0.mk (Kd.R_lower ho19 (below_size BA)); replace BK161 := kb BK161 hb; replace HB := bs hb
     clear hb ho19
     refine hK.out _ _ (bc4 BK161.out) (fun hHeld => ?_)
     clear hK K
     refine nm 35 ?_
     refine one_ (i := 5) (N := some 37) (mk 12 255) rfl rfl (one_of HT_.out (by kernel_rfl)) (by decide) (fun K hK => ?_)
     refine lis 37 3 Ny167.out ?_
     intro v168 w20 ho21 hb
     have HO169 := Aside0.mk (Kd.R_lower (Kd.R_new' ho21 (Kd.R_lt (rb HO166.out))) (below_size BA)); replace HO166 := Aside0.mk (Kd.R_elder' (rb HO166.out) (Kd.R_base ho21) hb); replace BK161 := kb BK161 hb; replace HB := bs hb
     clear hb ho21
     obtain ⟨Ao22, co22, eo22⟩ := Kd.R_slice HO169.out
     (first | subst eo22 | (injection eo22 with f1_ f2_ f3_; have f4_ := f1_.symm; have f5_ := f3_.symm; clear f1_ f2_ f3_; subst f4_; subst f5_))
     refine hK.out _ _ (bc4 BK161.out) (fun hHeld => ?_)
     clear hK K
     refine nm 37 ?_
     refine one_ (i := 8) (N := some 40) (mk 12 511) rfl rfl (one_of HT_.out (by kernel_rfl)) (by decide) (fun K hK => ?_)
     refine goes_ Try.func106 (by kernel_rfl) rfl #[.slice Ao22 y167.length co22, .int .i64 ((rd_T54 l0 a2).f2)] (by rfl) rfl rfl (by (try simp only [List.map_toArray, List.map_cons, List.map_nil]); first | done | rfl | (simp only [List.length_drop, List.length_take]; rfl)) ?_
     with_reducible refine (spec_l1Put.calls k (fun k_ => some k_ = (.slice Ao22 y167.length co22 : Value).ownBlock) (.slice Ao22 y167.length co22) y167 ((rd_T54 l0 a2).f2) t170 w _ ?side1 ?side2 A13.out).mono ?_
     (case side1 => repeat (first | (with_reducible first | exact HB.out | apply below_alloc | apply pw_below_drewN | apply below_drew1 | refine below_set ?_ GE161.out) | exact HB.out))
     (case side2 => exact Kd.R_tight rfl HO169.out)
     rintro e w23 ⟨v171, rfl, ho0, hb, hkp⟩
     refine ⟨_, rfl, ?_⟩
     have n0_ := Aside0.mk (blk_kept (bk BK161.out) hkp (fun hs_ => (fun e_ => (Kd.R_ne HO169.out BK161.out (by decide)) e_) hs_))
     have n1_ := Aside0.mk (Kd.R_mono (ok' := fun k_ => some k_ ≠ (v171 : Value).ownBlock) (Kd.R_keptB (HO166.out) hkp (fun k_ hk_ hs_ => (hk_.2) hs_)) (fun k_ hk_ => fun e_ => Or.elim (ho0.1 k_ e_.symm) (fun hs_ => hk_.2.1 hs_) (fun hn_ => Nat.not_le.2 hk_.2.2 hn_)))
     have n2_ := Aside0.mk (Kd.R_mono (ok' := fun k_ => some k_ ≠ (v165 : Value).ownBlock) ho0 (fun k_ hk_ => Or.elim hk_ (fun hs_ => fun e_ => (((HO166.out).1 k_ e_.symm).2) hs_) (fun hn_ => (Kd.fresh' (Kd.R_lt (rb HO166.out)) k_ hn_))))
     have n3_ := Aside0.mk (hb)
     clear BK161
     clear HO166
     clear HB
     clear HO169
     have BK161 := n0_
     have HO166 := n1_
     have HO172 := n2_
     have HB := n3_
     clear n0_ n1_ n2_ n3_
     (try clear hb)
     (try clear hkp)
     (try clear ho0)
     refine hK.out _ _ (bc4 BK161.out) (fun hHeld => ?_)
     clear hK K
     refine nm 40 ?_
     exact norm_ (by simp only [putAll, Act.put, List.setIfInBounds_toArray, List.set_cons_zero, List.set_cons_succ]) (hCont (v165, .slice Ao22 y167.length co22, v171) _ ⟨hHeld, (rb HO166.out), (rb HO172.out), (bk BK161.out), BA⟩)
    ·skip
     refine lis 37 3 Ny167.out ?_
     intro v168 w18 ho19 hb
     have HO169 := Aside0.mk (Kd.R_lower ho19 (below_size BA)); replace BK161 := kb BK161 hb; replace HB := bs hb
     clear hb ho19
     refine hK.out _ _ (bc4 BK161.out) (fun hHeld => ?_)
     clear hK K
     refine nm 37 ?_
     refine two_ (i := 3) (j := 8) (Ni := some 35) (Nj := some 40) #[true, true, true, true, true, true, true, true, false, false, false, false] #[true, true, true, false, true, true, true, true, true, false, false, false] rfl rfl rfl rfl (two_of HT_.out (by kernel_rfl)) (by decide) (by decide) (fun K hK => ?_) (fun K hK => ?_)
     ·skip
      refine lis 35 3 Ny164.out ?_
      intro v165 w20 ho21 hb
      have HO166 := Aside0.mk (Kd.R_lower (Kd.R_new' ho21 (Kd.R_lt (rb HO169.out))) (below_size BA)); replace HO169 := Aside0.mk (Kd.R_elder' (rb HO169.out) (Kd.R_base ho21) hb); replace BK161 := kb BK161 hb; replace HB := bs hb
      clear hb ho21
      obtain ⟨Ao22, co22, eo22⟩ := Kd.R_slice HO169.out
      (first | subst eo22 | (injection eo22 with f1_ f2_ f3_; have f4_ := f1_.symm; have f5_ := f3_.symm; clear f1_ f2_ f3_; subst f4_; subst f5_))
      refine hK.out _ _ (bc4 BK161.out) (fun hHeld => ?_)
      clear hK K
      refine nm 35 ?_
      refine one_ (i := 8) (N := some 40) (mk 12 511) rfl rfl (one_of HT_.out (by kernel_rfl)) (by decide) (fun K hK => ?_)
      refine goes_ Try.func106 (by kernel_rfl) rfl #[.slice Ao22 y167.length co22, .int .i64 ((rd_T54 l0 a2).f2)] (by rfl) rfl rfl (by (try simp only [List.map_toArray, List.map_cons, List.map_nil]); first | done | rfl | (simp only [List.length_drop, List.length_take]; rfl)) ?_
      with_reducible refine (spec_l1Put.calls k (fun k_ => some k_ = (.slice Ao22 y167.length co22 : Value).ownBlock) (.slice Ao22 y167.length co22) y167 ((rd_T54 l0 a2).f2) t170 w _ ?side1 ?side2 A13.out).mono ?_
      (case side1 => repeat (first | (with_reducible first | exact HB.out | apply below_alloc | apply pw_below_drewN | apply below_drew1 | refine below_set ?_ GE161.out) | exact HB.out))
      (case side2 => exact Kd.R_tight rfl HO169.out)
      rintro e w23 ⟨v171, rfl, ho0, hb, hkp⟩
      refine ⟨_, rfl, ?_⟩
      have n0_ := Aside0.mk (blk_kept (bk BK161.out) hkp (fun hs_ => (fun e_ => (Kd.R_ne HO169.out BK161.out (by decide)) e_) hs_))
      have n1_ := Aside0.mk (Kd.R_mono (ok' := fun k_ => some k_ ≠ (v171 : Value).ownBlock) (Kd.R_keptB (HO166.out) hkp (fun k_ hk_ hs_ => (hk_.2) hs_)) (fun k_ hk_ => fun e_ => Or.elim (ho0.1 k_ e_.symm) (fun hs_ => hk_.2.1 hs_) (fun hn_ => Nat.not_le.2 hk_.2.2 hn_)))
      have n2_ := Aside0.mk (Kd.R_mono (ok' := fun k_ => some k_ ≠ (v165 : Value).ownBlock) ho0 (fun k_ hk_ => Or.elim hk_ (fun hs_ => fun e_ => (((HO166.out).1 k_ e_.symm).2) hs_) (fun hn_ => (Kd.fresh' (Kd.R_lt (rb HO166.out)) k_ hn_))))
      have n3_ := Aside0.mk (hb)
      clear BK161
      clear HO166
      clear HB
      clear HO169
      have BK161 := n0_
      have HO166 := n1_
      have HO172 := n2_
      have HB := n3_
      clear n0_ n1_ n2_ n3_
      (try clear hb)
      (try clear hkp)
      (try clear ho0)
      refine hK.out _ _ (bc4 BK161.out) (fun hHeld => ?_)
      clear hK K
      refine nm 40 ?_
      exact norm_ (by simp only [putAll, Act.put, List.setIfInBounds_toArray, List.set_cons_zero, List.set_cons_succ]) (hCont (v165, .slice Ao22 y167.length co22, v171) _ ⟨hHeld, (rb HO166.out), (rb HO172.out), (bk BK161.out), BA⟩)
     ·skip
      obtain ⟨Ao20, co20, eo20⟩ := Kd.R_slice HO169.out
      subst eo20
      refine goes_ Try.func106 (by kernel_rfl) rfl #[.slice Ao20 y167.length co20, .int .i64 ((rd_T54 l0 a2).f2)] (by rfl) rfl rfl (by (try simp only [List.map_toArray, List.map_cons, List.map_nil]); first | done | rfl | (simp only [List.length_drop, List.length_take]; rfl)) ?_
      with_reducible refine (spec_l1Put.calls k (fun k_ => some k_ = (.slice Ao20 y167.length co20 : Value).ownBlock) (.slice Ao20 y167.length co20) y167 ((rd_T54 l0 a2).f2) t170 w _ ?side1 ?side2 A13.out).mono ?_
      (case side1 => repeat (first | (with_reducible first | exact HB.out | apply below_alloc | apply pw_below_drewN | apply below_drew1 | refine below_set ?_ GE161.out) | exact HB.out))
      (case side2 => exact Kd.R_tight rfl HO169.out)
      rintro e w21 ⟨v171, rfl, ho0, hb, hkp⟩
      refine ⟨_, rfl, ?_⟩
      have n0_ := Aside0.mk (blk_kept (bk BK161.out) hkp (fun hs_ => (fun e_ => (Kd.R_ne HO169.out BK161.out (by decide)) e_) hs_))
      have n1_ := Aside0.mk (Kd.R_mono (ok' := fun k_ => True) ho0 (fun k_ hk_ => trivial))
      have n2_ := Aside0.mk (hb)
      clear BK161
      clear HB
      clear HO169
      have BK161 := n0_
      have HO172 := n1_
      have HB := n2_
      clear n0_ n1_ n2_
      (try clear hb)
      (try clear hkp)
      (try clear ho0)
      refine hK.out _ _ (bc4 BK161.out) (fun hHeld => ?_)
      clear hK K
      refine nm 40 ?_
      refine one_ (i := 3) (N := some 35) (mk 12 511) rfl rfl (one_of HT_.out (by kernel_rfl)) (by decide) (fun K hK => ?_)
      refine lis 35 3 Ny164.out ?_
      intro v165 w22 ho23 hb
      have HO166 := Aside0.mk (Kd.R_lower (Kd.R_new' ho23 (Kd.R_lt (rb HO172.out))) (below_size BA)); replace HO172 := Aside0.mk (Kd.R_elder' (rb HO172.out) (Kd.R_base ho23) hb); replace BK161 := kb BK161 hb; replace HB := bs hb
      clear hb ho23
      refine hK.out _ _ (bc4 BK161.out) (fun hHeld => ?_)
      clear hK K
      refine nm 35 ?_
      exact norm_ (by simp only [putAll, Act.put, List.setIfInBounds_toArray, List.set_cons_zero, List.set_cons_succ]) (hCont (v165, .slice Ao20 y167.length co20, v171) _ ⟨hHeld, (rb (Kd.R_mono HO166.out (fun _ hk => hk.2))), (rb (Kd.R_mono HO172.out (fun _ hk => hk.2))), (bk BK161.out), BA⟩)
   rintro ⟨v165, v168, v171⟩ w24 ⟨hS_, h0_, h1_, h2_, h3_⟩
   have n0_ : Aside0 (Kd.R (Kd.int .i64) 3 w24 w.heap.size (fun k_ => some k_ ≠ (v171 : Value).ownBlock) v165 y164) := ⟨h0_⟩
   have n1_ : Aside0 (Kd.R (Kd.int .i64) 3 w24 w.heap.size (fun k_ => some k_ ≠ (v165 : Value).ownBlock) v171 t170) := ⟨h1_⟩
   have n2_ : Aside0 (w24.heap[gb161]? = some (.cells #[.string ((rd_T54 l0 a2).f0), .int .i64 ((rd_T54 l0 a2).f1), .int .i64 ((rd_T54 l0 a2).f2), .int .i64 ((rd_T54 l0 a2).f3)] 54 (0, 0))) := ⟨h2_⟩
   have n3_ : Aside0 (Below w.heap.size w w24) := ⟨h3_⟩
   clear BK161
   clear HB
   clear h0_ h1_ h2_ h3_
   have HO166 := n0_
   have HO172 := n1_
   have BK161 := n2_
   have HB := n3_
   clear n0_ n1_ n2_ n3_
   have hHeld : w24.cell? ⟨gb161, 0, none⟩ = some (.string ((rd_T54 l0 a2).f0)) ∧ w24.cell? ⟨gb161, 1, none⟩ = some (.int .i64 ((rd_T54 l0 a2).f1)) ∧ w24.cell? ⟨gb161, 2, none⟩ = some (.int .i64 ((rd_T54 l0 a2).f2)) ∧ w24.cell? ⟨gb161, 3, none⟩ = some (.int .i64 ((rd_T54 l0 a2).f3)) := hS_
   refine norm_ (a' := ?_) ?_ ?_
   rotate_left
   ·simp only [putAll, Act.put, List.setIfInBounds_toArray, List.set_cons_zero, List.set_cons_succ]
    rfl
   refine pu 9 10 12 1023 rfl rfl ?_
   refine pu 10 11 12 2047 rfl rfl ?_
   refine pu 11 12 12 4095 rfl rfl ?_
   refine done_ (done_of HT_.out (by kernel_rfl)) ?_
   try go_wp2
   go_ret3
   exact ⟨_, _, EQ, rb HO166.out, rb HO172.out, BA⟩
  ·replace c12 := Bool.eq_false_iff.mpr c12
   subst c12
   rw [if_neg (show ¬ (false = true) by decide)] at H
   simp only [Option.some.injEq, Prod.mk.injEq] at H
   obtain ⟨rfl, rfl, rfl⟩ := H
   have p160 : 0 ≤ (a2 : Int) := DT
   have q160 : a2 < (l0.length : Int) := DT
   obtain ⟨ad160, e160, hx160_0, hx160_1, hx160_2, hx160_3⟩ := at_T54 HR0.out a2 p160 q160
   cases e160
   replace p160 := eq_true p160
   replace q160 := eq_true q160
   go_enter Try.func84, Try.ntmps84
   go_wp2_with (first | ((with_reducible refine gd 13 rfl ?_); refine bx 13 #[.string (⟨#[]⟩ : ByteArray), .int .i64 0, .int .i64 0, .int .i64 0] 54 ?_; intro gb161 hg w25 BK161 GW161 HB hb; have GE161 := GW161; clear hb hg; obtain ⟨hcz26_0, hcz26_1, hcz26_2, hcz26_3⟩ := bc4 BK161.out; have hfz26 := blk_frozen BK161.out; have p162 : 0 ≤ (((rd_T54 l0 a2).f2) : Int) := DT; have q162 : ((rd_T54 l0 a2).f2) < (l0.length : Int) := DT; obtain ⟨ad162, e162, hx162_0, hx162_1, hx162_2, hx162_3⟩ := at_T54 HR0.out ((rd_T54 l0 a2).f2) p162 q162; obtain rfl : ad160 = ad162 := (by injection e162); have hn162_0 : ad160.block ≠ gb161 := Nat.ne_of_lt (Nat.lt_of_lt_of_le (by have := World.block_lt_of_cell? _ _ hx162_0; first | rwa [add_block] at this | exact this) GW161.out); have hn162_1 : ad160.block ≠ gb161 := Nat.ne_of_lt (Nat.lt_of_lt_of_le (by have := World.block_lt_of_cell? _ _ hx162_0; first | rwa [add_block] at this | exact this) GW161.out); have hn162_2 : ad160.block ≠ gb161 := Nat.ne_of_lt (Nat.lt_of_lt_of_le (by have := World.block_lt_of_cell? _ _ hx162_0; first | rwa [add_block] at this | exact this) GW161.out); have hn162_3 : ad160.block ≠ gb161 := Nat.ne_of_lt (Nat.lt_of_lt_of_le (by have := World.block_lt_of_cell? _ _ hx162_0; first | rwa [add_block] at this | exact this) GW161.out); replace hx162_0 := (HB.out.cell (World.block_lt_of_cell? w _ hx162_0)).trans hx162_0; replace hx162_1 := (HB.out.cell (World.block_lt_of_cell? w _ hx162_1)).trans hx162_1; replace hx162_2 := (HB.out.cell (World.block_lt_of_cell? w _ hx162_2)).trans hx162_2; replace hx162_3 := (HB.out.cell (World.block_lt_of_cell? w _ hx162_3)).trans hx162_3; replace hx162_0 := (cell_far (p := ⟨gb161, 0, none⟩) (by first | (rw [add_block]; exact hn162_0) | (show (Addr.add _ _).block ≠ _; rw [add_block]; exact hn162_0) | exact hn162_0) (.string ((rd_T54 l0 a2).f0))).trans hx162_0; replace hx162_1 := (cell_far (p := ⟨gb161, 0, none⟩) (by first | (rw [add_block]; exact hn162_0) | (show (Addr.add _ _).block ≠ _; rw [add_block]; exact hn162_0) | exact hn162_0) (.string ((rd_T54 l0 a2).f0))).trans hx162_1; replace hx162_2 := (cell_far (p := ⟨gb161, 0, none⟩) (by first | (rw [add_block]; exact hn162_0) | (show (Addr.add _ _).block ≠ _; rw [add_block]; exact hn162_0) | exact hn162_0) (.string ((rd_T54 l0 a2).f0))).trans hx162_2; replace hx162_3 := (cell_far (p := ⟨gb161, 0, none⟩) (by first | (rw [add_block]; exact hn162_0) | (show (Addr.add _ _).block ≠ _; rw [add_block]; exact hn162_0) | exact hn162_0) (.string ((rd_T54 l0 a2).f0))).trans hx162_3; replace hx162_0 := (cell_far (p := ⟨gb161, 1, none⟩) (by first | (rw [add_block]; exact hn162_1) | (show (Addr.add _ _).block ≠ _; rw [add_block]; exact hn162_1) | exact hn162_1) (.int .i64 ((rd_T54 l0 a2).f1))).trans hx162_0; replace hx162_1 := (cell_far (p := ⟨gb161, 1, none⟩) (by first | (rw [add_block]; exact hn162_1) | (show (Addr.add _ _).block ≠ _; rw [add_block]; exact hn162_1) | exact hn162_1) (.int .i64 ((rd_T54 l0 a2).f1))).trans hx162_1; replace hx162_2 := (cell_far (p := ⟨gb161, 1, none⟩) (by first | (rw [add_block]; exact hn162_1) | (show (Addr.add _ _).block ≠ _; rw [add_block]; exact hn162_1) | exact hn162_1) (.int .i64 ((rd_T54 l0 a2).f1))).trans hx162_2; replace hx162_3 := (cell_far (p := ⟨gb161, 1, none⟩) (by first | (rw [add_block]; exact hn162_1) | (show (Addr.add _ _).block ≠ _; rw [add_block]; exact hn162_1) | exact hn162_1) (.int .i64 ((rd_T54 l0 a2).f1))).trans hx162_3; replace hx162_0 := (cell_far (p := ⟨gb161, 2, none⟩) (by first | (rw [add_block]; exact hn162_2) | (show (Addr.add _ _).block ≠ _; rw [add_block]; exact hn162_2) | exact hn162_2) (.int .i64 ((rd_T54 l0 a2).f2))).trans hx162_0; replace hx162_1 := (cell_far (p := ⟨gb161, 2, none⟩) (by first | (rw [add_block]; exact hn162_2) | (show (Addr.add _ _).block ≠ _; rw [add_block]; exact hn162_2) | exact hn162_2) (.int .i64 ((rd_T54 l0 a2).f2))).trans hx162_1; replace hx162_2 := (cell_far (p := ⟨gb161, 2, none⟩) (by first | (rw [add_block]; exact hn162_2) | (show (Addr.add _ _).block ≠ _; rw [add_block]; exact hn162_2) | exact hn162_2) (.int .i64 ((rd_T54 l0 a2).f2))).trans hx162_2; replace hx162_3 := (cell_far (p := ⟨gb161, 2, none⟩) (by first | (rw [add_block]; exact hn162_2) | (show (Addr.add _ _).block ≠ _; rw [add_block]; exact hn162_2) | exact hn162_2) (.int .i64 ((rd_T54 l0 a2).f2))).trans hx162_3; replace hx162_0 := (cell_far (p := ⟨gb161, 3, none⟩) (by first | (rw [add_block]; exact hn162_3) | (show (Addr.add _ _).block ≠ _; rw [add_block]; exact hn162_3) | exact hn162_3) (.int .i64 ((rd_T54 l0 a2).f3))).trans hx162_0; replace hx162_1 := (cell_far (p := ⟨gb161, 3, none⟩) (by first | (rw [add_block]; exact hn162_3) | (show (Addr.add _ _).block ≠ _; rw [add_block]; exact hn162_3) | exact hn162_3) (.int .i64 ((rd_T54 l0 a2).f3))).trans hx162_1; replace hx162_2 := (cell_far (p := ⟨gb161, 3, none⟩) (by first | (rw [add_block]; exact hn162_3) | (show (Addr.add _ _).block ≠ _; rw [add_block]; exact hn162_3) | exact hn162_3) (.int .i64 ((rd_T54 l0 a2).f3))).trans hx162_2; replace hx162_3 := (cell_far (p := ⟨gb161, 3, none⟩) (by first | (rw [add_block]; exact hn162_3) | (show (Addr.add _ _).block ≠ _; rw [add_block]; exact hn162_3) | exact hn162_3) (.int .i64 ((rd_T54 l0 a2).f3))).trans hx162_3; clear hn162_0; clear hn162_1; clear hn162_2; clear hn162_3; replace p162 := eq_true p162; replace q162 := eq_true q162) | (go_at_call 82; (with_reducible refine (spec_cvConst.calls k ((rd_T54 l0 ((rd_T54 l0 a2).f2)).f0) ((rd_T54 l0 ((rd_T54 l0 a2).f2)).f1) ((rd_T54 l0 ((rd_T54 l0 a2).f2)).f2) ((rd_T54 l0 ((rd_T54 l0 a2).f2)).f3) _ _ l4 false _ ?side1 ?side2 A11.out).mono ?_); (case side1 => exact Kd.C_below HR4.out BA); (case side2 => exact HC4.out); rintro e w27 ⟨rfl, hb⟩; replace BK161 := Aside0.mk (blk_below (g := gb161) (o := .cells #[.string ((rd_T54 l0 a2).f0), .int .i64 ((rd_T54 l0 a2).f1), .int .i64 ((rd_T54 l0 a2).f2), .int .i64 ((rd_T54 l0 a2).f3)] 54 (0, 0)) (bq BK161.out) hb); replace HB := bs hb; (try clear hb)))
   go_ret3
   exact ⟨_, _, EQ, by first | exact Kd.R_nil _ _ _ _ _ | exact Kd.N_nil _ _ _ _ _ | exact Kd.V_nil _ _ _ _ _ | exact Kd.Q_nil _ _ _ _ _ | exact Kd.S_nil _ _ _ _ _, by first | exact Kd.R_nil _ _ _ _ _ | exact Kd.N_nil _ _ _ _ _ | exact Kd.V_nil _ _ _ _ _ | exact Kd.Q_nil _ _ _ _ _ | exact Kd.S_nil _ _ _ _ _, BA⟩
 ·rw [if_neg c8] at H
  have c8b0 := beq_eq_false_iff_ne.mpr c8
  have c8b1 := bne_iff_ne.mpr c8
  simp only [Option.some.injEq, Prod.mk.injEq] at H
  obtain ⟨rfl, rfl, rfl⟩ := H
  have p160 : 0 ≤ (a2 : Int) := DT
  have q160 : a2 < (l0.length : Int) := DT
  obtain ⟨ad160, e160, hx160_0, hx160_1, hx160_2, hx160_3⟩ := at_T54 HR0.out a2 p160 q160
  cases e160
  replace p160 := eq_true p160
  replace q160 := eq_true q160
  go_enter Try.func84, Try.ntmps84
  go_wp2_with (first | ((with_reducible refine gd 13 rfl ?_); refine bx 13 #[.string (⟨#[]⟩ : ByteArray), .int .i64 0, .int .i64 0, .int .i64 0] 54 ?_; intro gb161 hg w28 BK161 GW161 HB hb; have GE161 := GW161; clear hb hg; obtain ⟨hcz29_0, hcz29_1, hcz29_2, hcz29_3⟩ := bc4 BK161.out; have hfz29 := blk_frozen BK161.out))
  go_ret3
  exact ⟨_, _, EQ, by first | exact Kd.R_nil _ _ _ _ _ | exact Kd.N_nil _ _ _ _ _ | exact Kd.V_nil _ _ _ _ _ | exact Kd.Q_nil _ _ _ _ _ | exact Kd.S_nil _ _ _ _ _, by first | exact Kd.R_nil _ _ _ _ _ | exact Kd.N_nil _ _ _ _ _ | exact Kd.V_nil _ _ _ _ _ | exact Kd.Q_nil _ _ _ _ _ | exact Kd.S_nil _ _ _ _ _, BA⟩

/-! ### spec_cvTile_at0: function 53 -/
def spec_cvTile_at0.f (l0 : List (S54)) (a1 : Int)  : Option (List Int × List Int × Bool) := if 0 ≤ a1 then (if a1 < (l0.length : Int) then (some (([] : List Int), ([] : List Int), (((rd_T54 l0 a1).f0).toList == ([105, 110] : List UInt8)))) else (none)) else (none)
theorem spec_cvTile_at0.calls (A0 : Option Addr) (c0 : Nat) (l0 : List (S54)) (a1 : Int)  (r1 : List Int) (r2 : List Int) (r3 : Bool) (w : World) (hr0 : Kd.C k54 w A0 l0.length l0) (hc0 : l0.length ≤ c0) (h : spec_cvTile_at0.f l0 a1 = some (r1, r2, r3)) :
  Calls Try.prog 53 #[.slice A0 l0.length c0, .int .i64 a1, .int .i64 0] w fun e w' => ∃ v0_ v1_ : Value, e = .returned (.tuple #[v0_, v1_, .bool r3]) ∧ Kd.R (Kd.int .i64) 3 w' w.heap.size (fun k_ => some k_ ≠ (v1_ : Value).ownBlock) v0_ r1 ∧ Kd.R (Kd.int .i64) 3 w' w.heap.size (fun k_ => some k_ ≠ (v0_ : Value).ownBlock) v1_ r2 ∧ Below w.heap.size w w' := by
 have hu54 := Try.underlying54
 have HR0 := Aside0.mk hr0
 have HC0 := Aside0.mk hc0
 clear hr0 hc0
 have HB := Aside0.mk (Below.refl w.heap.size w)
 have H := h
 clear h
 unfold spec_cvTile_at0.f at H
 obtain ⟨c4, H⟩ := ifs H
 have c4b0 := decide_eq_true c4
 clear c4
 obtain ⟨c5, H⟩ := ifs H
 have c5b0 := decide_eq_true c5
 clear c5
 simp only [Option.some.injEq, Prod.mk.injEq] at H
 obtain ⟨rfl, rfl, rfl⟩ := H
 have p173 : 0 ≤ (a1 : Int) := DT
 have q173 : a1 < (l0.length : Int) := DT
 obtain ⟨ad173, e173, hx173_0, hx173_1, hx173_2, hx173_3⟩ := at_T54 HR0.out a1 p173 q173
 cases e173
 replace p173 := eq_true p173
 replace q173 := eq_true q173
 go_enter Try.func53, Try.ntmps53
 try go_wp2_with (first | ((with_reducible refine gd 9 rfl ?_); (try (refine gate_guard (by rfl) ?_; dsimp only)); refine bx 9 #[.string (⟨#[]⟩ : ByteArray), .int .i64 0, .int .i64 0, .int .i64 0] 54 ?_; intro gb174 hg w6 BK174 GW174 HB hb; have GE174 := GW174; clear hb hg; obtain ⟨hcz7_0, hcz7_1, hcz7_2, hcz7_3⟩ := bc4 BK174.out; have hfz7 := blk_frozen BK174.out))
 have n0_ : Aside0 (((((w6.setCell ⟨gb174, 0, none⟩ (.string ((rd_T54 l0 a1).f0))).setCell ⟨gb174, 1, none⟩ (.int .i64 ((rd_T54 l0 a1).f1))).setCell ⟨gb174, 2, none⟩ (.int .i64 ((rd_T54 l0 a1).f2))).setCell ⟨gb174, 3, none⟩ (.int .i64 ((rd_T54 l0 a1).f3))).heap[gb174]? = some (.cells #[.string ((rd_T54 l0 a1).f0), .int .i64 ((rd_T54 l0 a1).f1), .int .i64 ((rd_T54 l0 a1).f2), .int .i64 ((rd_T54 l0 a1).f3)] 54 (0, 0))) := ⟨by (with_reducible repeat (first | refine blk_drewN ?_ _ | refine blk_drew ?_ | refine blk_alloc ?_ _)); refine blk_put (cs := #[.string ((rd_T54 l0 a1).f0), .int .i64 ((rd_T54 l0 a1).f1), .int .i64 ((rd_T54 l0 a1).f2), .int .i64 0]) ?_ 3 _ rfl; (with_reducible repeat (first | refine blk_drewN ?_ _ | refine blk_drew ?_ | refine blk_alloc ?_ _)); refine blk_put (cs := #[.string ((rd_T54 l0 a1).f0), .int .i64 ((rd_T54 l0 a1).f1), .int .i64 0, .int .i64 0]) ?_ 2 _ rfl; (with_reducible repeat (first | refine blk_drewN ?_ _ | refine blk_drew ?_ | refine blk_alloc ?_ _)); refine blk_put (cs := #[.string ((rd_T54 l0 a1).f0), .int .i64 0, .int .i64 0, .int .i64 0]) ?_ 1 _ rfl; (with_reducible repeat (first | refine blk_drewN ?_ _ | refine blk_drew ?_ | refine blk_alloc ?_ _)); refine blk_put (cs := #[.string (⟨#[]⟩ : ByteArray), .int .i64 0, .int .i64 0, .int .i64 0]) ?_ 0 _ rfl; (with_reducible repeat (first | refine blk_drewN ?_ _ | refine blk_drew ?_ | refine blk_alloc ?_ _)); exact BK174.out⟩
 have n1_ : Aside0 (Below w.heap.size w ((((w6.setCell ⟨gb174, 0, none⟩ (.string ((rd_T54 l0 a1).f0))).setCell ⟨gb174, 1, none⟩ (.int .i64 ((rd_T54 l0 a1).f1))).setCell ⟨gb174, 2, none⟩ (.int .i64 ((rd_T54 l0 a1).f2))).setCell ⟨gb174, 3, none⟩ (.int .i64 ((rd_T54 l0 a1).f3)))) := ⟨BA⟩
 (try clear BK174)
 (try clear HB)
 generalize ((((w6.setCell ⟨gb174, 0, none⟩ (.string ((rd_T54 l0 a1).f0))).setCell ⟨gb174, 1, none⟩ (.int .i64 ((rd_T54 l0 a1).f1))).setCell ⟨gb174, 2, none⟩ (.int .i64 ((rd_T54 l0 a1).f2))).setCell ⟨gb174, 3, none⟩ (.int .i64 ((rd_T54 l0 a1).f3))) = w8 at n0_ n1_ ⊢
 have BK174 := n0_
 have HB := n1_
 clear n0_ n1_
 replace BK174 := Aside0.mk (blk_drew BK174.out); replace HB := Aside0.mk (below_drew1 HB.out)
 refine start_ (n := 6) (S := C4 gb174 (.string ((rd_T54 l0 a1).f0)) (.int .i64 ((rd_T54 l0 a1).f1)) (.int .i64 ((rd_T54 l0 a1).f2)) (.int .i64 ((rd_T54 l0 a1).f3))) (ds := []) (mk 6 0) (by kernel_rfl) rfl (by kernel_rfl) (bc4 BK174.out) (fun hHeld => ?_)
 generalize w8.drew = w9 at BK174 HB hHeld ⊢
 refine pu 0 17 6 1 rfl rfl ?_
 refine pu 3 6 6 9 rfl rfl ?_
 refine pu 4 7 6 25 rfl rfl ?_
 refine ta 1 18 6 27 rfl rfl ?_
 refine pu 2 19 6 31 rfl rfl ?_
 refine pu 5 8 6 63 rfl rfl ?_
 refine done_ (by kernel_rfl) ?_
 try go_wp2
 go_ret3
 exact ⟨_, _, EQ, by first | exact Kd.R_nil _ _ _ _ _ | exact Kd.N_nil _ _ _ _ _ | exact Kd.V_nil _ _ _ _ _ | exact Kd.Q_nil _ _ _ _ _ | exact Kd.S_nil _ _ _ _ _, by first | exact Kd.R_nil _ _ _ _ _ | exact Kd.N_nil _ _ _ _ _ | exact Kd.V_nil _ _ _ _ _ | exact Kd.Q_nil _ _ _ _ _ | exact Kd.S_nil _ _ _ _ _, BA⟩

/-! ### spec_cvTile_at1: function 53 -/
def spec_cvTile_at1.f (l0 : List (S54)) (a1 : Int)  : Option (List Int × List Int × Bool) := if 0 ≤ a1 then (if a1 < (l0.length : Int) then (some (([] : List Int), ([] : List Int), (((rd_T54 l0 a1).f0).toList == ([99, 111, 110, 115, 116] : List UInt8)))) else (none)) else (none)
theorem spec_cvTile_at1.calls (A0 : Option Addr) (c0 : Nat) (l0 : List (S54)) (a1 : Int)  (r1 : List Int) (r2 : List Int) (r3 : Bool) (w : World) (hr0 : Kd.C k54 w A0 l0.length l0) (hc0 : l0.length ≤ c0) (h : spec_cvTile_at1.f l0 a1 = some (r1, r2, r3)) :
  Calls Try.prog 53 #[.slice A0 l0.length c0, .int .i64 a1, .int .i64 1] w fun e w' => ∃ v0_ v1_ : Value, e = .returned (.tuple #[v0_, v1_, .bool r3]) ∧ Kd.R (Kd.int .i64) 3 w' w.heap.size (fun k_ => some k_ ≠ (v1_ : Value).ownBlock) v0_ r1 ∧ Kd.R (Kd.int .i64) 3 w' w.heap.size (fun k_ => some k_ ≠ (v0_ : Value).ownBlock) v1_ r2 ∧ Below w.heap.size w w' := by
 have hu54 := Try.underlying54
 have HR0 := Aside0.mk hr0
 have HC0 := Aside0.mk hc0
 clear hr0 hc0
 have HB := Aside0.mk (Below.refl w.heap.size w)
 have H := h
 clear h
 unfold spec_cvTile_at1.f at H
 obtain ⟨c4, H⟩ := ifs H
 have c4b0 := decide_eq_true c4
 clear c4
 obtain ⟨c5, H⟩ := ifs H
 have c5b0 := decide_eq_true c5
 clear c5
 simp only [Option.some.injEq, Prod.mk.injEq] at H
 obtain ⟨rfl, rfl, rfl⟩ := H
 have p175 : 0 ≤ (a1 : Int) := DT
 have q175 : a1 < (l0.length : Int) := DT
 obtain ⟨ad175, e175, hx175_0, hx175_1, hx175_2, hx175_3⟩ := at_T54 HR0.out a1 p175 q175
 cases e175
 replace p175 := eq_true p175
 replace q175 := eq_true q175
 go_enter Try.func53, Try.ntmps53
 try go_wp2_with (first | ((with_reducible refine gd 9 rfl ?_); (try (refine gate_guard (by rfl) ?_; dsimp only)); refine bx 9 #[.string (⟨#[]⟩ : ByteArray), .int .i64 0, .int .i64 0, .int .i64 0] 54 ?_; intro gb176 hg w6 BK176 GW176 HB hb; have GE176 := GW176; clear hb hg; obtain ⟨hcz7_0, hcz7_1, hcz7_2, hcz7_3⟩ := bc4 BK176.out; have hfz7 := blk_frozen BK176.out))
 have n0_ : Aside0 (((((w6.setCell ⟨gb176, 0, none⟩ (.string ((rd_T54 l0 a1).f0))).setCell ⟨gb176, 1, none⟩ (.int .i64 ((rd_T54 l0 a1).f1))).setCell ⟨gb176, 2, none⟩ (.int .i64 ((rd_T54 l0 a1).f2))).setCell ⟨gb176, 3, none⟩ (.int .i64 ((rd_T54 l0 a1).f3))).heap[gb176]? = some (.cells #[.string ((rd_T54 l0 a1).f0), .int .i64 ((rd_T54 l0 a1).f1), .int .i64 ((rd_T54 l0 a1).f2), .int .i64 ((rd_T54 l0 a1).f3)] 54 (0, 0))) := ⟨by (with_reducible repeat (first | refine blk_drewN ?_ _ | refine blk_drew ?_ | refine blk_alloc ?_ _)); refine blk_put (cs := #[.string ((rd_T54 l0 a1).f0), .int .i64 ((rd_T54 l0 a1).f1), .int .i64 ((rd_T54 l0 a1).f2), .int .i64 0]) ?_ 3 _ rfl; (with_reducible repeat (first | refine blk_drewN ?_ _ | refine blk_drew ?_ | refine blk_alloc ?_ _)); refine blk_put (cs := #[.string ((rd_T54 l0 a1).f0), .int .i64 ((rd_T54 l0 a1).f1), .int .i64 0, .int .i64 0]) ?_ 2 _ rfl; (with_reducible repeat (first | refine blk_drewN ?_ _ | refine blk_drew ?_ | refine blk_alloc ?_ _)); refine blk_put (cs := #[.string ((rd_T54 l0 a1).f0), .int .i64 0, .int .i64 0, .int .i64 0]) ?_ 1 _ rfl; (with_reducible repeat (first | refine blk_drewN ?_ _ | refine blk_drew ?_ | refine blk_alloc ?_ _)); refine blk_put (cs := #[.string (⟨#[]⟩ : ByteArray), .int .i64 0, .int .i64 0, .int .i64 0]) ?_ 0 _ rfl; (with_reducible repeat (first | refine blk_drewN ?_ _ | refine blk_drew ?_ | refine blk_alloc ?_ _)); exact BK176.out⟩
 have n1_ : Aside0 (Below w.heap.size w ((((w6.setCell ⟨gb176, 0, none⟩ (.string ((rd_T54 l0 a1).f0))).setCell ⟨gb176, 1, none⟩ (.int .i64 ((rd_T54 l0 a1).f1))).setCell ⟨gb176, 2, none⟩ (.int .i64 ((rd_T54 l0 a1).f2))).setCell ⟨gb176, 3, none⟩ (.int .i64 ((rd_T54 l0 a1).f3)))) := ⟨BA⟩
 (try clear BK176)
 (try clear HB)
 generalize ((((w6.setCell ⟨gb176, 0, none⟩ (.string ((rd_T54 l0 a1).f0))).setCell ⟨gb176, 1, none⟩ (.int .i64 ((rd_T54 l0 a1).f1))).setCell ⟨gb176, 2, none⟩ (.int .i64 ((rd_T54 l0 a1).f2))).setCell ⟨gb176, 3, none⟩ (.int .i64 ((rd_T54 l0 a1).f3))) = w8 at n0_ n1_ ⊢
 have BK176 := n0_
 have HB := n1_
 clear n0_ n1_
 replace BK176 := Aside0.mk (blk_drew BK176.out); replace HB := Aside0.mk (below_drew1 HB.out)
 refine start_ (n := 6) (S := C4 gb176 (.string ((rd_T54 l0 a1).f0)) (.int .i64 ((rd_T54 l0 a1).f1)) (.int .i64 ((rd_T54 l0 a1).f2)) (.int .i64 ((rd_T54 l0 a1).f3))) (ds := []) (mk 6 0) (by kernel_rfl) rfl (by kernel_rfl) (bc4 BK176.out) (fun hHeld => ?_)
 generalize w8.drew = w9 at BK176 HB hHeld ⊢
 refine pu 0 23 6 1 rfl rfl ?_
 refine pu 3 6 6 9 rfl rfl ?_
 refine pu 4 7 6 25 rfl rfl ?_
 refine ta 1 24 6 27 rfl rfl ?_
 refine pu 2 25 6 31 rfl rfl ?_
 refine pu 5 8 6 63 rfl rfl ?_
 refine done_ (by kernel_rfl) ?_
 try go_wp2
 go_ret3
 exact ⟨_, _, EQ, by first | exact Kd.R_nil _ _ _ _ _ | exact Kd.N_nil _ _ _ _ _ | exact Kd.V_nil _ _ _ _ _ | exact Kd.Q_nil _ _ _ _ _ | exact Kd.S_nil _ _ _ _ _, by first | exact Kd.R_nil _ _ _ _ _ | exact Kd.N_nil _ _ _ _ _ | exact Kd.V_nil _ _ _ _ _ | exact Kd.Q_nil _ _ _ _ _ | exact Kd.S_nil _ _ _ _ _, BA⟩

/-! ### spec_cvTile_at2: function 53 -/
def spec_cvTile_at2.f (l0 : List (S54)) (a1 : Int)  : Option (List Int × List Int × Bool) := if 0 ≤ a1 then (if a1 < (l0.length : Int) then ((spec_exOne.f ((rd_T54 l0 a1).f0)).bind fun t179 => (if t179 = true then (some ((([(rd_T54 l0 a1).f1] : List Int)), ([] : List Int), true)) else (some (([] : List Int), ([] : List Int), false)))) else (none)) else (none)
def spec_cvTile_at2.T10 : Bool × List (List Nat × List Nat) := (true, [([], []), ([0], [0]), ([1], [1]), ([2], [2]), ([2], [2]), ([4, 2], [2, 4]), ([3, 5, 2, 2], [2, 3, 5]), ([2, 6], [2, 6]), ([7, 6], [7]), ([8], [8]), ([8], [8]), ([10, 8], [8, 10]), ([9, 11, 8], [8, 9, 11]), ([12, 8], [8, 12]), ([8, 8], [8]), ([13, 14, 14, 8], [8, 13, 14]), ([8, 15], [8, 15]), ([16, 15], [16])])
def spec_cvTile_at2.B10 : List Nat := [0, 1, 3, 7, 7, 23, 63, 127, 255, 511, 511, 1535, 4095, 8191, 511, 32767, 65535, 131071]
theorem spec_cvTile_at2.tab10 : rtab .any (opsOf Try.f53 10) = spec_cvTile_at2.T10 := by kernel_rfl
theorem spec_cvTile_at2.bits10 : waitsOk spec_cvTile_at2.T10.2 spec_cvTile_at2.B10 = true := by kernel_rfl
def spec_cvTile_at2.T12 : Bool × List (List Nat × List Nat) := (true, [([], []), ([0], [0]), ([1], [1]), ([2], [2]), ([2], [2]), ([4, 2], [2, 4]), ([3, 5, 2, 2], [2, 3, 5]), ([2, 6], [2, 6]), ([7, 6], [7]), ([8], [8]), ([8], [8]), ([10, 8], [8, 10]), ([9, 11, 8], [8, 9, 11]), ([12, 8], [8, 12]), ([8, 8], [8]), ([13, 14, 14, 8], [8, 13, 14]), ([8, 15], [8, 15]), ([16, 15], [16])])
def spec_cvTile_at2.B12 : List Nat := [0, 1, 3, 7, 7, 23, 63, 127, 255, 511, 511, 1535, 4095, 8191, 511, 32767, 65535, 131071]
theorem spec_cvTile_at2.tab12 : rtab .any (opsOf Try.f53 12) = spec_cvTile_at2.T12 := by kernel_rfl
theorem spec_cvTile_at2.bits12 : waitsOk spec_cvTile_at2.T12.2 spec_cvTile_at2.B12 = true := by kernel_rfl
theorem spec_cvTile_at2.calls (A0 : Option Addr) (c0 : Nat) (l0 : List (S54)) (a1 : Int)  (r1 : List Int) (r2 : List Int) (r3 : Bool) (w : World) (hr0 : Kd.C k54 w A0 l0.length l0) (hc0 : l0.length ≤ c0) (h : spec_cvTile_at2.f l0 a1 = some (r1, r2, r3)) :
  Calls Try.prog 53 #[.slice A0 l0.length c0, .int .i64 a1, .int .i64 2] w fun e w' => ∃ v0_ v1_ : Value, e = .returned (.tuple #[v0_, v1_, .bool r3]) ∧ Kd.R (Kd.int .i64) 3 w' w.heap.size (fun k_ => some k_ ≠ (v1_ : Value).ownBlock) v0_ r1 ∧ Kd.R (Kd.int .i64) 3 w' w.heap.size (fun k_ => some k_ ≠ (v0_ : Value).ownBlock) v1_ r2 ∧ Below w.heap.size w w' := by
 have hu54 := Try.underlying54
 have HR0 := Aside0.mk hr0
 have HC0 := Aside0.mk hc0
 clear hr0 hc0
 have HB := Aside0.mk (Below.refl w.heap.size w)
 have H := h
 clear h
 unfold spec_cvTile_at2.f at H
 obtain ⟨c4, H⟩ := ifs H
 have c4b0 := decide_eq_true c4
 clear c4
 obtain ⟨c5, H⟩ := ifs H
 have c5b0 := decide_eq_true c5
 clear c5
 obtain ⟨t179, A6, H⟩ := ob H
 (try dsimp only at H)
 by_cases c7 : t179 = true
 ·subst c7
  rw [if_pos rfl] at H
  obtain ⟨y180, hy180⟩ : ∃ y_ : List Int, y_ = (([(rd_T54 l0 a1).f1] : List Int)) := ⟨_, rfl⟩
  replace H : (some (y180, ([] : List Int), true)) = some (r1, r2, r3) := by first | (rw [hy180]; with_reducible exact H) | (have H2_ := (Option.bind_some _ _).symm.trans H; rw [hy180]; with_reducible exact H2_) | (have H2_ := (Option.bind_some _ _).symm.trans H; with_reducible exact H2_) | with_reducible exact H | (rw [hy180]; exact H) | exact H
  have Ny180 := Aside0.mk hy180
  clear hy180
  simp only [Option.some.injEq, Prod.mk.injEq] at H
  obtain ⟨rfl, rfl, rfl⟩ := H
  have p177 : 0 ≤ (a1 : Int) := DT
  have q177 : a1 < (l0.length : Int) := DT
  obtain ⟨ad177, e177, hx177_0, hx177_1, hx177_2, hx177_3⟩ := at_T54 HR0.out a1 p177 q177
  cases e177
  replace p177 := eq_true p177
  replace q177 := eq_true q177
  go_enter Try.func53, Try.ntmps53
  go_wp2_with (first | ((with_reducible refine gd 9 rfl ?_); (try (refine gate_guard (by rfl) ?_; dsimp only)); refine bx 9 #[.string (⟨#[]⟩ : ByteArray), .int .i64 0, .int .i64 0, .int .i64 0] 54 ?_; intro gb178 hg w8 BK178 GW178 HB hb; have GE178 := GW178; clear hb hg; obtain ⟨hcz9_0, hcz9_1, hcz9_2, hcz9_3⟩ := bc4 BK178.out; have hfz9 := blk_frozen BK178.out) | (go_at_call 79; (with_reducible refine (spec_exOne.calls ((rd_T54 l0 a1).f0) true _ A6.out).mono ?_); rintro e w' ⟨rfl, ⟨nd, rfl⟩⟩) | ((with_reducible refine gate_dst (N := 36) rfl ?_); (try (refine gate_guard (by rfl) ?_; dsimp only)); refine li 36 3 Ny180.out ?_; intro v181 w10 ho11 hb; have HO182 := Aside0.mk (Kd.R_lower ho11 (below_size BA)); replace BK178 := Aside0.mk (blk_below (g := gb178) (o := .cells #[.string ((rd_T54 l0 a1).f0), .int .i64 ((rd_T54 l0 a1).f1), .int .i64 ((rd_T54 l0 a1).f2), .int .i64 ((rd_T54 l0 a1).f3)] 54 (0, 0)) (bq BK178.out) hb); replace HB := bs hb; clear hb ho11))
  go_ret3
  exact ⟨_, _, EQ, rb (Kd.R_mono HO182.out (fun _ hk => (by simp [Value.ownBlock]))), by first | exact Kd.R_nil _ _ _ _ _ | exact Kd.N_nil _ _ _ _ _ | exact Kd.V_nil _ _ _ _ _ | exact Kd.Q_nil _ _ _ _ _ | exact Kd.S_nil _ _ _ _ _, BA⟩
 ·replace c7 := Bool.eq_false_iff.mpr c7
  subst c7
  rw [if_neg (show ¬ (false = true) by decide)] at H
  simp only [Option.some.injEq, Prod.mk.injEq] at H
  obtain ⟨rfl, rfl, rfl⟩ := H
  have p177 : 0 ≤ (a1 : Int) := DT
  have q177 : a1 < (l0.length : Int) := DT
  obtain ⟨ad177, e177, hx177_0, hx177_1, hx177_2, hx177_3⟩ := at_T54 HR0.out a1 p177 q177
  cases e177
  replace p177 := eq_true p177
  replace q177 := eq_true q177
  go_enter Try.func53, Try.ntmps53
  try go_wp2_with (first | ((with_reducible refine gd 9 rfl ?_); (try (refine gate_guard (by rfl) ?_; dsimp only)); refine bx 9 #[.string (⟨#[]⟩ : ByteArray), .int .i64 0, .int .i64 0, .int .i64 0] 54 ?_; intro gb178 hg w12 BK178 GW178 HB hb; have GE178 := GW178; clear hb hg; obtain ⟨hcz13_0, hcz13_1, hcz13_2, hcz13_3⟩ := bc4 BK178.out; have hfz13 := blk_frozen BK178.out) | (go_at_call 79; (with_reducible refine (spec_exOne.calls ((rd_T54 l0 a1).f0) false _ A6.out).mono ?_); rintro e w' ⟨rfl, ⟨nd, rfl⟩⟩))
  have n0_ : Aside0 (((((w12.setCell ⟨gb178, 0, none⟩ (.string ((rd_T54 l0 a1).f0))).setCell ⟨gb178, 1, none⟩ (.int .i64 ((rd_T54 l0 a1).f1))).setCell ⟨gb178, 2, none⟩ (.int .i64 ((rd_T54 l0 a1).f2))).setCell ⟨gb178, 3, none⟩ (.int .i64 ((rd_T54 l0 a1).f3))).heap[gb178]? = some (.cells #[.string ((rd_T54 l0 a1).f0), .int .i64 ((rd_T54 l0 a1).f1), .int .i64 ((rd_T54 l0 a1).f2), .int .i64 ((rd_T54 l0 a1).f3)] 54 (0, 0))) := ⟨by (with_reducible repeat (first | refine blk_drewN ?_ _ | refine blk_drew ?_ | refine blk_alloc ?_ _)); refine blk_put (cs := #[.string ((rd_T54 l0 a1).f0), .int .i64 ((rd_T54 l0 a1).f1), .int .i64 ((rd_T54 l0 a1).f2), .int .i64 0]) ?_ 3 _ rfl; (with_reducible repeat (first | refine blk_drewN ?_ _ | refine blk_drew ?_ | refine blk_alloc ?_ _)); refine blk_put (cs := #[.string ((rd_T54 l0 a1).f0), .int .i64 ((rd_T54 l0 a1).f1), .int .i64 0, .int .i64 0]) ?_ 2 _ rfl; (with_reducible repeat (first | refine blk_drewN ?_ _ | refine blk_drew ?_ | refine blk_alloc ?_ _)); refine blk_put (cs := #[.string ((rd_T54 l0 a1).f0), .int .i64 0, .int .i64 0, .int .i64 0]) ?_ 1 _ rfl; (with_reducible repeat (first | refine blk_drewN ?_ _ | refine blk_drew ?_ | refine blk_alloc ?_ _)); refine blk_put (cs := #[.string (⟨#[]⟩ : ByteArray), .int .i64 0, .int .i64 0, .int .i64 0]) ?_ 0 _ rfl; (with_reducible repeat (first | refine blk_drewN ?_ _ | refine blk_drew ?_ | refine blk_alloc ?_ _)); exact BK178.out⟩
  have n1_ : Aside0 (Below w.heap.size w ((((w12.setCell ⟨gb178, 0, none⟩ (.string ((rd_T54 l0 a1).f0))).setCell ⟨gb178, 1, none⟩ (.int .i64 ((rd_T54 l0 a1).f1))).setCell ⟨gb178, 2, none⟩ (.int .i64 ((rd_T54 l0 a1).f2))).setCell ⟨gb178, 3, none⟩ (.int .i64 ((rd_T54 l0 a1).f3)))) := ⟨BA⟩
  (try clear BK178)
  (try clear HB)
  generalize ((((w12.setCell ⟨gb178, 0, none⟩ (.string ((rd_T54 l0 a1).f0))).setCell ⟨gb178, 1, none⟩ (.int .i64 ((rd_T54 l0 a1).f1))).setCell ⟨gb178, 2, none⟩ (.int .i64 ((rd_T54 l0 a1).f2))).setCell ⟨gb178, 3, none⟩ (.int .i64 ((rd_T54 l0 a1).f3))) = w14 at n0_ n1_ ⊢
  have BK178 := n0_
  have HB := n1_
  clear n0_ n1_
  (try (rw [drewN_self w14]; generalize hq_ : World.drewN w14 _ = w14; have n0_ : Aside0 (w14.heap[gb178]? = some (.cells #[.string ((rd_T54 l0 a1).f0), .int .i64 ((rd_T54 l0 a1).f1), .int .i64 ((rd_T54 l0 a1).f2), .int .i64 ((rd_T54 l0 a1).f3)] 54 (0, 0))) := ⟨by rw [← hq_]; exact (bk BK178.out)⟩; have n1_ : Aside0 (Below w.heap.size w w14) := ⟨by rw [← hq_]; exact BA⟩; clear BK178 HB hq_; have BK178 := n0_; have HB := n1_; clear n0_ n1_))
  replace BK178 := Aside0.mk (blk_drew BK178.out); replace HB := Aside0.mk (below_drew1 HB.out)
  refine start_ (n := 18) (S := fun w' => True) (ds := []) (mk 18 0) (by kernel_rfl) rfl (by kernel_rfl) trivial (fun hHeld => ?_); refine with_tabW spec_cvTile_at2.tab10 spec_cvTile_at2.bits10 (fun HT_ HW_ => ?_)
  generalize w14.drew = w15 at BK178 HB hHeld ⊢
  refine pu 0 51 18 1 rfl rfl ?_
  refine pu 1 52 18 3 rfl rfl ?_
  refine pu 2 53 18 7 rfl rfl ?_
  refine pos [(3, some 54), (4, some 55), (5, some 56), (6, some 57)] 18 127 11 ?_
  refine pu 7 58 18 255 rfl rfl ?_
  refine pu 8 59 18 511 rfl rfl ?_
  refine pos [(9, some 60), (10, some 61), (11, some 62), (12, some 63), (13, some 64), (14, some 65), (15, some 66)] 18 65535 2 ?_
  refine pu 16 67 18 131071 rfl rfl ?_
  refine pu 17 50 18 262143 rfl rfl ?_
  refine done_ (done_of HT_.out (by kernel_rfl)) ?_
  try go_wp2
  replace BK178 := Aside0.mk (blk_drew BK178.out); replace HB := Aside0.mk (below_drew1 HB.out)
  refine start_ (n := 18) (S := fun w' => True) (ds := []) (mk 18 0) (by kernel_rfl) rfl (by kernel_rfl) trivial (fun hHeld => ?_); refine with_tabW spec_cvTile_at2.tab12 spec_cvTile_at2.bits12 (fun HT_ HW_ => ?_)
  generalize w15.drew = w16 at BK178 HB hHeld ⊢
  refine pu 0 75 18 1 rfl rfl ?_
  refine pu 1 76 18 3 rfl rfl ?_
  refine pu 2 77 18 7 rfl rfl ?_
  refine pos [(3, some 78), (4, some 79), (5, some 80), (6, some 81)] 18 127 11 ?_
  refine pu 7 82 18 255 rfl rfl ?_
  refine pu 8 83 18 511 rfl rfl ?_
  refine pos [(9, some 84), (10, some 85), (11, some 86), (12, some 87), (13, some 88), (14, some 89), (15, some 90)] 18 65535 2 ?_
  refine pu 16 91 18 131071 rfl rfl ?_
  refine pu 17 74 18 262143 rfl rfl ?_
  refine done_ (done_of HT_.out (by kernel_rfl)) ?_
  try go_wp2
  go_ret3
  exact ⟨_, _, EQ, by first | exact Kd.R_nil _ _ _ _ _ | exact Kd.N_nil _ _ _ _ _ | exact Kd.V_nil _ _ _ _ _ | exact Kd.Q_nil _ _ _ _ _ | exact Kd.S_nil _ _ _ _ _, by first | exact Kd.R_nil _ _ _ _ _ | exact Kd.N_nil _ _ _ _ _ | exact Kd.V_nil _ _ _ _ _ | exact Kd.Q_nil _ _ _ _ _ | exact Kd.S_nil _ _ _ _ _, BA⟩

/-! ### spec_cvTile_at3: function 53 -/
def spec_cvTile_at3.f (k : Nat) (l0 : List (S54)) (a1 : Int)  : Option (List Int × List Int × Bool) := if 0 ≤ a1 then (if a1 < (l0.length : Int) then ((spec_exTwo.f k ((rd_T54 l0 a1).f0)).bind fun t185 => (if t185 = true then (some ((([(rd_T54 l0 a1).f1, (rd_T54 l0 a1).f2] : List Int)), ([] : List Int), true)) else (some (([] : List Int), ([] : List Int), false)))) else (none)) else (none)
def spec_cvTile_at3.T10 : Bool × List (List Nat × List Nat) := (true, [([], []), ([0], [0]), ([1], [1]), ([2], [2]), ([2], [2]), ([4, 2], [2, 4]), ([3, 5, 2, 2], [2, 3, 5]), ([2, 6], [2, 6]), ([7, 6], [7]), ([8], [8]), ([8], [8]), ([10, 8], [8, 10]), ([9, 11, 8], [8, 9, 11]), ([12, 8], [8, 12]), ([8, 8], [8]), ([13, 14, 14, 8], [8, 13, 14]), ([8, 15], [8, 15]), ([16, 15], [16])])
def spec_cvTile_at3.B10 : List Nat := [0, 1, 3, 7, 7, 23, 63, 127, 255, 511, 511, 1535, 4095, 8191, 511, 32767, 65535, 131071]
theorem spec_cvTile_at3.tab10 : rtab .any (opsOf Try.f53 10) = spec_cvTile_at3.T10 := by kernel_rfl
theorem spec_cvTile_at3.bits10 : waitsOk spec_cvTile_at3.T10.2 spec_cvTile_at3.B10 = true := by kernel_rfl
def spec_cvTile_at3.T12 : Bool × List (List Nat × List Nat) := (true, [([], []), ([0], [0]), ([1], [1]), ([2], [2]), ([2], [2]), ([4, 2], [2, 4]), ([3, 5, 2, 2], [2, 3, 5]), ([2, 6], [2, 6]), ([7, 6], [7]), ([8], [8]), ([8], [8]), ([10, 8], [8, 10]), ([9, 11, 8], [8, 9, 11]), ([12, 8], [8, 12]), ([8, 8], [8]), ([13, 14, 14, 8], [8, 13, 14]), ([8, 15], [8, 15]), ([16, 15], [16])])
def spec_cvTile_at3.B12 : List Nat := [0, 1, 3, 7, 7, 23, 63, 127, 255, 511, 511, 1535, 4095, 8191, 511, 32767, 65535, 131071]
theorem spec_cvTile_at3.tab12 : rtab .any (opsOf Try.f53 12) = spec_cvTile_at3.T12 := by kernel_rfl
theorem spec_cvTile_at3.bits12 : waitsOk spec_cvTile_at3.T12.2 spec_cvTile_at3.B12 = true := by kernel_rfl
theorem spec_cvTile_at3.calls (k : Nat) (A0 : Option Addr) (c0 : Nat) (l0 : List (S54)) (a1 : Int)  (r1 : List Int) (r2 : List Int) (r3 : Bool) (w : World) (hr0 : Kd.C k54 w A0 l0.length l0) (hc0 : l0.length ≤ c0) (h : spec_cvTile_at3.f k l0 a1 = some (r1, r2, r3)) :
  Calls Try.prog 53 #[.slice A0 l0.length c0, .int .i64 a1, .int .i64 3] w fun e w' => ∃ v0_ v1_ : Value, e = .returned (.tuple #[v0_, v1_, .bool r3]) ∧ Kd.R (Kd.int .i64) 3 w' w.heap.size (fun k_ => some k_ ≠ (v1_ : Value).ownBlock) v0_ r1 ∧ Kd.R (Kd.int .i64) 3 w' w.heap.size (fun k_ => some k_ ≠ (v0_ : Value).ownBlock) v1_ r2 ∧ Below w.heap.size w w' := by
 have hu54 := Try.underlying54
 have HR0 := Aside0.mk hr0
 have HC0 := Aside0.mk hc0
 clear hr0 hc0
 have HB := Aside0.mk (Below.refl w.heap.size w)
 have H := h
 clear h
 unfold spec_cvTile_at3.f at H
 obtain ⟨c4, H⟩ := ifs H
 have c4b0 := decide_eq_true c4
 clear c4
 obtain ⟨c5, H⟩ := ifs H
 have c5b0 := decide_eq_true c5
 clear c5
 obtain ⟨t185, A6, H⟩ := ob H
 (try dsimp only at H)
 by_cases c7 : t185 = true
 ·subst c7
  rw [if_pos rfl] at H
  obtain ⟨y186, hy186⟩ : ∃ y_ : List Int, y_ = (([(rd_T54 l0 a1).f1, (rd_T54 l0 a1).f2] : List Int)) := ⟨_, rfl⟩
  replace H : (some (y186, ([] : List Int), true)) = some (r1, r2, r3) := by first | (rw [hy186]; with_reducible exact H) | (have H2_ := (Option.bind_some _ _).symm.trans H; rw [hy186]; with_reducible exact H2_) | (have H2_ := (Option.bind_some _ _).symm.trans H; with_reducible exact H2_) | with_reducible exact H | (rw [hy186]; exact H) | exact H
  have Ny186 := Aside0.mk hy186
  clear hy186
  simp only [Option.some.injEq, Prod.mk.injEq] at H
  obtain ⟨rfl, rfl, rfl⟩ := H
  have p183 : 0 ≤ (a1 : Int) := DT
  have q183 : a1 < (l0.length : Int) := DT
  obtain ⟨ad183, e183, hx183_0, hx183_1, hx183_2, hx183_3⟩ := at_T54 HR0.out a1 p183 q183
  cases e183
  replace p183 := eq_true p183
  replace q183 := eq_true q183
  go_enter Try.func53, Try.ntmps53
  go_wp2_with (first | ((with_reducible refine gd 9 rfl ?_); (try (refine gate_guard (by rfl) ?_; dsimp only)); refine bx 9 #[.string (⟨#[]⟩ : ByteArray), .int .i64 0, .int .i64 0, .int .i64 0] 54 ?_; intro gb184 hg w8 BK184 GW184 HB hb; have GE184 := GW184; clear hb hg; obtain ⟨hcz9_0, hcz9_1, hcz9_2, hcz9_3⟩ := bc4 BK184.out; have hfz9 := blk_frozen BK184.out) | (go_at_call 80; (with_reducible refine (spec_exTwo.calls k ((rd_T54 l0 a1).f0) true _ A6.out).mono ?_); rintro e w10 ⟨rfl, hb⟩; replace BK184 := Aside0.mk (blk_below (g := gb184) (o := .cells #[.string ((rd_T54 l0 a1).f0), .int .i64 ((rd_T54 l0 a1).f1), .int .i64 ((rd_T54 l0 a1).f2), .int .i64 ((rd_T54 l0 a1).f3)] 54 (0, 0)) (bq BK184.out) hb); replace HB := bs hb; (try clear hb); obtain ⟨hcz11_0, hcz11_1, hcz11_2, hcz11_3⟩ := bc4 BK184.out; have hfz11 := blk_frozen BK184.out) | ((with_reducible refine gate_dst (N := 49) rfl ?_); (try (refine gate_guard (by rfl) ?_; dsimp only)); refine li 49 3 Ny186.out ?_; intro v187 w12 ho13 hb; have HO188 := Aside0.mk (Kd.R_lower ho13 (below_size BA)); replace BK184 := kb BK184 hb; replace HB := bs hb; clear hb ho13))
  go_ret3
  exact ⟨_, _, EQ, rb (Kd.R_mono HO188.out (fun _ hk => (by simp [Value.ownBlock]))), by first | exact Kd.R_nil _ _ _ _ _ | exact Kd.N_nil _ _ _ _ _ | exact Kd.V_nil _ _ _ _ _ | exact Kd.Q_nil _ _ _ _ _ | exact Kd.S_nil _ _ _ _ _, BA⟩
 ·replace c7 := Bool.eq_false_iff.mpr c7
  subst c7
  rw [if_neg (show ¬ (false = true) by decide)] at H
  simp only [Option.some.injEq, Prod.mk.injEq] at H
  obtain ⟨rfl, rfl, rfl⟩ := H
  have p183 : 0 ≤ (a1 : Int) := DT
  have q183 : a1 < (l0.length : Int) := DT
  obtain ⟨ad183, e183, hx183_0, hx183_1, hx183_2, hx183_3⟩ := at_T54 HR0.out a1 p183 q183
  cases e183
  replace p183 := eq_true p183
  replace q183 := eq_true q183
  go_enter Try.func53, Try.ntmps53
  try go_wp2_with (first | ((with_reducible refine gd 9 rfl ?_); (try (refine gate_guard (by rfl) ?_; dsimp only)); refine bx 9 #[.string (⟨#[]⟩ : ByteArray), .int .i64 0, .int .i64 0, .int .i64 0] 54 ?_; intro gb184 hg w14 BK184 GW184 HB hb; have GE184 := GW184; clear hb hg; obtain ⟨hcz15_0, hcz15_1, hcz15_2, hcz15_3⟩ := bc4 BK184.out; have hfz15 := blk_frozen BK184.out) | (go_at_call 80; (with_reducible refine (spec_exTwo.calls k ((rd_T54 l0 a1).f0) false _ A6.out).mono ?_); rintro e w16 ⟨rfl, hb⟩; replace BK184 := Aside0.mk (blk_below (g := gb184) (o := .cells #[.string ((rd_T54 l0 a1).f0), .int .i64 ((rd_T54 l0 a1).f1), .int .i64 ((rd_T54 l0 a1).f2), .int .i64 ((rd_T54 l0 a1).f3)] 54 (0, 0)) (bq BK184.out) hb); replace HB := bs hb; (try clear hb)))
  replace BK184 := Aside0.mk (blk_drew BK184.out); replace HB := Aside0.mk (below_drew1 HB.out)
  refine start_ (n := 18) (S := fun w' => True) (ds := []) (mk 18 0) (by kernel_rfl) rfl (by kernel_rfl) trivial (fun hHeld => ?_); refine with_tabW spec_cvTile_at3.tab10 spec_cvTile_at3.bits10 (fun HT_ HW_ => ?_)
  generalize w16.drew = w17 at BK184 HB hHeld ⊢
  refine pu 0 51 18 1 rfl rfl ?_
  refine pu 1 52 18 3 rfl rfl ?_
  refine pu 2 53 18 7 rfl rfl ?_
  refine pos [(3, some 54), (4, some 55), (5, some 56), (6, some 57)] 18 127 11 ?_
  refine pu 7 58 18 255 rfl rfl ?_
  refine pu 8 59 18 511 rfl rfl ?_
  refine pos [(9, some 60), (10, some 61), (11, some 62), (12, some 63), (13, some 64), (14, some 65), (15, some 66)] 18 65535 2 ?_
  refine pu 16 67 18 131071 rfl rfl ?_
  refine pu 17 50 18 262143 rfl rfl ?_
  refine done_ (done_of HT_.out (by kernel_rfl)) ?_
  try go_wp2
  replace BK184 := Aside0.mk (blk_drew BK184.out); replace HB := Aside0.mk (below_drew1 HB.out)
  refine start_ (n := 18) (S := fun w' => True) (ds := []) (mk 18 0) (by kernel_rfl) rfl (by kernel_rfl) trivial (fun hHeld => ?_); refine with_tabW spec_cvTile_at3.tab12 spec_cvTile_at3.bits12 (fun HT_ HW_ => ?_)
  generalize w17.drew = w18 at BK184 HB hHeld ⊢
  refine pu 0 75 18 1 rfl rfl ?_
  refine pu 1 76 18 3 rfl rfl ?_
  refine pu 2 77 18 7 rfl rfl ?_
  refine pos [(3, some 78), (4, some 79), (5, some 80), (6, some 81)] 18 127 11 ?_
  refine pu 7 82 18 255 rfl rfl ?_
  refine pu 8 83 18 511 rfl rfl ?_
  refine pos [(9, some 84), (10, some 85), (11, some 86), (12, some 87), (13, some 88), (14, some 89), (15, some 90)] 18 65535 2 ?_
  refine pu 16 91 18 131071 rfl rfl ?_
  refine pu 17 74 18 262143 rfl rfl ?_
  refine done_ (done_of HT_.out (by kernel_rfl)) ?_
  try go_wp2
  go_ret3
  exact ⟨_, _, EQ, by first | exact Kd.R_nil _ _ _ _ _ | exact Kd.N_nil _ _ _ _ _ | exact Kd.V_nil _ _ _ _ _ | exact Kd.Q_nil _ _ _ _ _ | exact Kd.S_nil _ _ _ _ _, by first | exact Kd.R_nil _ _ _ _ _ | exact Kd.N_nil _ _ _ _ _ | exact Kd.V_nil _ _ _ _ _ | exact Kd.Q_nil _ _ _ _ _ | exact Kd.S_nil _ _ _ _ _, BA⟩

end Go.Proofs.Ytlmegefdnkjcbaa.Pa
