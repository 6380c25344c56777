-- Made by this session's program gen.py over the translation.
import Derived.Test.YtlmegefdnkjcbaaPa0
import Derived.Test.YtlmegefdnkjcbaaPa4
import Derived.Test.YtlmegefdnkjcbaaPa5
import Derived.Test.YtlmegefdnkjcbaaPa6
import Derived.Test.YtlmegefdnkjcbaaPa7
import Derived.Test.YtlmegefdnkjcbaaPa8
namespace Go.Proofs.Ytlmegefdnkjcbaa.Pa
open Go.RowKit Go.Proofs.YtlmegefdnkjcbaaW.PrintWords Go.Proofs.YtlmegefdnkjcbaaW.PrintLast Go.Proofs.YtlmegefdnkjcbaaW.PrintMore
attribute [local go_sem] max2_int min2_int max_two min_two max_three min_three max_four min_four   -- for this text's walks alone
set_option linter.unusedVariables false
set_option linter.unusedSimpArgs false
set_option maxHeartbeats 8000000
set_option maxRecDepth 100000

/-! ### impl_tileAt_at5: function 78 -/
def impl_tileAt_at5.f (k : Nat) (l0 : List (S54)) (a1 : Int)  : Option (List Int × List Int × Int × Bool) := if 0 ≤ a1 then (if a1 < (l0.length : Int) then ((impl_operands.f k ((rd_T54 l0 a1).f0)).bind fun t757 => (if t757 < 2 then (some (([] : List Int), ([] : List Int), 0, false)) else ((impl_constTile_at5.f k l0 ((rd_T54 l0 a1).f0) ((rd_T54 l0 a1).f1) ((rd_T54 l0 a1).f2) ((rd_T54 l0 a1).f3)).bind fun bt758 => (some (bt758.1, bt758.2.1, bt758.2.2.1, bt758.2.2.2))))) else (none)) else (none)
theorem impl_tileAt_at5.calls (k : Nat) (A0 : Option Addr) (c0 : Nat) (l0 : List (S54)) (a1 : Int)  (r1 : List Int) (r2 : List Int) (r3 : Int) (r4 : Bool) (w : World) (hr0 : Kd.C k54 w A0 l0.length l0) (hc0 : l0.length ≤ c0) (h : impl_tileAt_at5.f k l0 a1 = some (r1, r2, r3, r4)) :
  Calls Try.prog 78 #[.slice A0 l0.length c0, .int .i64 a1, .int .i64 5] w fun e w' => ∃ v0_ v1_ : Value, e = .returned (.tuple #[.agg #[v0_, v1_, .int .i64 r3], .bool r4]) ∧ Kd.R (Kd.int .i64) 3 w' w.heap.size (fun k_ => some k_ ≠ (v1_ : Value).ownBlock) v0_ r1 ∧ Kd.R (Kd.int .i64) 3 w' w.heap.size (fun k_ => some k_ ≠ (v0_ : Value).ownBlock) v1_ r2 ∧ Below w.heap.size w w' := by
 have hu57 := Try.underlying57
 have hu54 := Try.underlying54
 have hu93 := Try.underlying93
 have HR0 := Aside0.mk hr0
 have HC0 := Aside0.mk hc0
 clear hr0 hc0
 have HB := Aside0.mk (Below.refl w.heap.size w)
 have H := h
 clear h
 unfold impl_tileAt_at5.f at H
 obtain ⟨c4, H⟩ := ifs H
 have c4b0 := decide_eq_true c4
 clear c4
 obtain ⟨c5, H⟩ := ifs H
 have c5b0 := decide_eq_true c5
 clear c5
 obtain ⟨t757, A6, H⟩ := ob H
 (try dsimp only at H)
 by_cases c7 : t757 < 2
 ·rw [if_pos c7] at H
  have c7b0 := decide_eq_true c7
  clear c7
  simp only [Option.some.injEq, Prod.mk.injEq] at H
  obtain ⟨rfl, rfl, rfl, rfl⟩ := H
  go_enter Try.func78, Try.ntmps78
  go_wp2_with (first | ((with_reducible refine gd 6 rfl ?_); refine bx 6 #[.slice none 0 0, .slice none 0 0, .int .i64 0] 57 ?_; intro gb754 hg w8 BK754 GW754 HB hb; have GE754 := GW754; clear hb hg; have p755 : 0 ≤ (a1 : Int) := DT; have q755 : a1 < (l0.length : Int) := DT; obtain ⟨ad755, e755, hx755_0, hx755_1, hx755_2, hx755_3⟩ := at_T54 (Kd.C_below HR0.out HB.out) a1 p755 q755; cases e755; replace p755 := eq_true p755; replace q755 := eq_true q755) | ((with_reducible refine gd 8 rfl ?_); refine bx 8 #[.string (⟨#[]⟩ : ByteArray), .int .i64 0, .int .i64 0, .int .i64 0] 54 ?_; intro gb756 hg w9 BK756 GW756 HB hb; have GE756 := GW756; have NB754_756 := nbl hg (bk BK754.out); have NB756_754 := nbr hg (bk BK754.out); replace BK754 := kb BK754 hb; clear hb hg; have hnb10 := NB756_754.out; have hnc10 := NB754_756.out; obtain ⟨hcz11_0, hcz11_1, hcz11_2, hcz11_3⟩ := bc4 BK756.out; have hfz11 := blk_frozen BK756.out) | ((with_reducible refine gate_callee (f := 100) rfl ?_); refine gK (some 18) Try.func100 #[.string ((rd_T54 l0 a1).f0)] rfl rfl rfl ?_; (with_reducible refine (impl_operands.calls k ((rd_T54 l0 a1).f0) t757 _ A6.out).mono ?_); rintro e w12 ⟨rfl, hb⟩; refine ⟨_, rfl, ?_⟩; replace BK754 := Aside0.mk (blk_below (g := gb754) (o := .cells #[.slice none 0 0, .slice none 0 0, .int .i64 0] 57 (0, 0)) (bq BK754.out) hb); replace BK756 := Aside0.mk (blk_below (g := gb756) (o := .cells #[.string ((rd_T54 l0 a1).f0), .int .i64 ((rd_T54 l0 a1).f1), .int .i64 ((rd_T54 l0 a1).f2), .int .i64 ((rd_T54 l0 a1).f3)] 54 (0, 0)) (bq BK756.out) hb); replace HB := bs hb; (try clear hb); obtain ⟨hcz13_0, hcz13_1, hcz13_2⟩ := bc3 BK754.out; have hfz13 := blk_frozen BK754.out))
  refine bodyPost_ret (results_ct rfl _ _ gb754 57 #[.slice none 0 0, .slice none 0 0, .int .i64 0] (0, 0) _ rfl (bq BK754.out) Try.underlying57 rfl (by kernel_rfl)) rfl ?_
  exact ⟨_, _, EQ, by first | exact Kd.R_nil _ _ _ _ _ | exact Kd.N_nil _ _ _ _ _ | exact Kd.V_nil _ _ _ _ _ | exact Kd.Q_nil _ _ _ _ _ | exact Kd.S_nil _ _ _ _ _, by first | exact Kd.R_nil _ _ _ _ _ | exact Kd.N_nil _ _ _ _ _ | exact Kd.V_nil _ _ _ _ _ | exact Kd.Q_nil _ _ _ _ _ | exact Kd.S_nil _ _ _ _ _, BA⟩
 ·rw [if_neg c7] at H
  have c7b0 := decide_eq_false c7
  clear c7
  replace H := Option.bind_eq_some_iff.mp H
  obtain ⟨⟨t758, t761, t764, t765⟩, A140, H⟩ := H
  (try dsimp only at H)
  have A14 := Aside0.mk A140
  clear A140
  simp only [Option.some.injEq, Prod.mk.injEq] at H
  obtain ⟨rfl, rfl, rfl, rfl⟩ := H
  go_enter Try.func78, Try.ntmps78
  go_wp2_with (first | ((with_reducible refine gd 6 rfl ?_); refine bx 6 #[.slice none 0 0, .slice none 0 0, .int .i64 0] 57 ?_; intro gb754 hg w15 BK754 GW754 HB hb; have GE754 := GW754; clear hb hg; have p755 : 0 ≤ (a1 : Int) := DT; have q755 : a1 < (l0.length : Int) := DT; obtain ⟨ad755, e755, hx755_0, hx755_1, hx755_2, hx755_3⟩ := at_T54 (Kd.C_below HR0.out HB.out) a1 p755 q755; cases e755; replace p755 := eq_true p755; replace q755 := eq_true q755) | ((with_reducible refine gd 8 rfl ?_); refine bx 8 #[.string (⟨#[]⟩ : ByteArray), .int .i64 0, .int .i64 0, .int .i64 0] 54 ?_; intro gb756 hg w16 BK756 GW756 HB hb; have GE756 := GW756; have NB754_756 := nbl hg (bk BK754.out); have NB756_754 := nbr hg (bk BK754.out); replace BK754 := kb BK754 hb; clear hb hg; have hnb17 := NB756_754.out; have hnc17 := NB754_756.out; obtain ⟨hcz18_0, hcz18_1, hcz18_2, hcz18_3⟩ := bc4 BK756.out; have hfz18 := blk_frozen BK756.out) | ((with_reducible refine gate_callee (f := 100) rfl ?_); refine gK (some 18) Try.func100 #[.string ((rd_T54 l0 a1).f0)] rfl rfl rfl ?_; (with_reducible refine (impl_operands.calls k ((rd_T54 l0 a1).f0) t757 _ A6.out).mono ?_); rintro e w19 ⟨rfl, hb⟩; refine ⟨_, rfl, ?_⟩; replace BK754 := Aside0.mk (blk_below (g := gb754) (o := .cells #[.slice none 0 0, .slice none 0 0, .int .i64 0] 57 (0, 0)) (bq BK754.out) hb); replace BK756 := Aside0.mk (blk_below (g := gb756) (o := .cells #[.string ((rd_T54 l0 a1).f0), .int .i64 ((rd_T54 l0 a1).f1), .int .i64 ((rd_T54 l0 a1).f2), .int .i64 ((rd_T54 l0 a1).f3)] 54 (0, 0)) (bq BK756.out) hb); replace HB := bs hb; (try clear hb); obtain ⟨hcz20_0, hcz20_1, hcz20_2, hcz20_3⟩ := bc4 BK756.out; have hfz20 := blk_frozen BK756.out) | ((with_reducible refine gate_callee (f := 102) rfl ?_); refine gK (some 69) Try.func102 #[.slice (some ad755) l0.length c0, .agg #[.string ((rd_T54 l0 a1).f0), .int .i64 ((rd_T54 l0 a1).f1), .int .i64 ((rd_T54 l0 a1).f2), .int .i64 ((rd_T54 l0 a1).f3)], .int .i64 5] rfl rfl rfl ?_; (with_reducible refine (impl_constTile_at5.calls k _ _ l0 ((rd_T54 l0 a1).f0) ((rd_T54 l0 a1).f1) ((rd_T54 l0 a1).f2) ((rd_T54 l0 a1).f3)  t758 t761 t764 t765 _ ?side1 ?side2 A14.out).mono ?_); (case side1 => exact cb (Kd.C_below HR0.out HB.out)); (case side2 => exact HC0.out); rintro e w21 ⟨v759, v762, rfl, ho0, ho1, hb⟩; refine ⟨_, rfl, ?_⟩; have HO760 := Aside0.mk (Kd.R_lower ho0 (below_size BA)); have HO763 := Aside0.mk (Kd.R_lower ho1 (below_size BA)); replace BK754 := kb BK754 hb; replace BK756 := kb BK756 hb; replace HB := bs hb; (try clear hb); (try clear ho0); (try clear ho1); obtain ⟨Ao22, co22, eo22⟩ := Kd.R_slice HO760.out; subst eo22; obtain ⟨hcz23_0, hcz23_1, hcz23_2⟩ := bc3 BK754.out; have hfz23 := blk_frozen BK754.out; obtain ⟨Ao24, co24, eo24⟩ := Kd.R_slice HO763.out; subst eo24))
  refine bodyPost_ret (results_ct rfl _ _ gb754 57 #[.slice Ao22 t758.length co22, .slice Ao24 t761.length co24, .int .i64 t764] (0, 0) _ rfl (bq BK754.out) Try.underlying57 rfl (by kernel_rfl)) rfl ?_
  exact ⟨_, _, EQ, rb (Kd.R_mono (Kd.R_far (p := ⟨gb754, 2, none⟩) (Kd.R_far (p := ⟨gb754, 1, none⟩) (Kd.R_far (p := ⟨gb754, 0, none⟩) (Kd.R_types HO760.out BK754.out (by decide)) (fun _ hk => hk.2) (.slice Ao22 t758.length co22)) (fun _ hk => hk.2) (.slice Ao24 t761.length co24)) (fun _ hk => hk.2) (.int .i64 t764)) (fun _ hk => hk.1)), rb (Kd.R_mono (Kd.R_far (p := ⟨gb754, 2, none⟩) (Kd.R_far (p := ⟨gb754, 1, none⟩) (Kd.R_far (p := ⟨gb754, 0, none⟩) (Kd.R_types HO763.out BK754.out (by decide)) (fun _ hk => hk.2) (.slice Ao22 t758.length co22)) (fun _ hk => hk.2) (.slice Ao24 t761.length co24)) (fun _ hk => hk.2) (.int .i64 t764)) (fun _ hk => hk.1)), BA⟩

/-! ### impl_tileAt_at6: function 78 -/
def impl_tileAt_at6.f (k : Nat) (l0 : List (S54)) (a1 : Int)  : Option (List Int × List Int × Int × Bool) := if 0 ≤ a1 then (if a1 < (l0.length : Int) then ((impl_operands.f k ((rd_T54 l0 a1).f0)).bind fun t769 => (if t769 < 2 then (some (([] : List Int), ([] : List Int), 0, false)) else ((impl_constTile_at6.f k l0 ((rd_T54 l0 a1).f0) ((rd_T54 l0 a1).f1) ((rd_T54 l0 a1).f2) ((rd_T54 l0 a1).f3)).bind fun bt770 => (some (bt770.1, bt770.2.1, bt770.2.2.1, bt770.2.2.2))))) else (none)) else (none)
theorem impl_tileAt_at6.calls (k : Nat) (A0 : Option Addr) (c0 : Nat) (l0 : List (S54)) (a1 : Int)  (r1 : List Int) (r2 : List Int) (r3 : Int) (r4 : Bool) (w : World) (hr0 : Kd.C k54 w A0 l0.length l0) (hc0 : l0.length ≤ c0) (h : impl_tileAt_at6.f k l0 a1 = some (r1, r2, r3, r4)) :
  Calls Try.prog 78 #[.slice A0 l0.length c0, .int .i64 a1, .int .i64 6] w fun e w' => ∃ v0_ v1_ : Value, e = .returned (.tuple #[.agg #[v0_, v1_, .int .i64 r3], .bool r4]) ∧ Kd.R (Kd.int .i64) 3 w' w.heap.size (fun k_ => some k_ ≠ (v1_ : Value).ownBlock) v0_ r1 ∧ Kd.R (Kd.int .i64) 3 w' w.heap.size (fun k_ => some k_ ≠ (v0_ : Value).ownBlock) v1_ r2 ∧ Below w.heap.size w w' := by
 have hu57 := Try.underlying57
 have hu54 := Try.underlying54
 have hu93 := Try.underlying93
 have HR0 := Aside0.mk hr0
 have HC0 := Aside0.mk hc0
 clear hr0 hc0
 have HB := Aside0.mk (Below.refl w.heap.size w)
 have H := h
 clear h
 unfold impl_tileAt_at6.f at H
 obtain ⟨c4, H⟩ := ifs H
 have c4b0 := decide_eq_true c4
 clear c4
 obtain ⟨c5, H⟩ := ifs H
 have c5b0 := decide_eq_true c5
 clear c5
 obtain ⟨t769, A6, H⟩ := ob H
 (try dsimp only at H)
 by_cases c7 : t769 < 2
 ·rw [if_pos c7] at H
  have c7b0 := decide_eq_true c7
  clear c7
  simp only [Option.some.injEq, Prod.mk.injEq] at H
  obtain ⟨rfl, rfl, rfl, rfl⟩ := H
  go_enter Try.func78, Try.ntmps78
  go_wp2_with (first | ((with_reducible refine gd 6 rfl ?_); refine bx 6 #[.slice none 0 0, .slice none 0 0, .int .i64 0] 57 ?_; intro gb766 hg w8 BK766 GW766 HB hb; have GE766 := GW766; clear hb hg; have p767 : 0 ≤ (a1 : Int) := DT; have q767 : a1 < (l0.length : Int) := DT; obtain ⟨ad767, e767, hx767_0, hx767_1, hx767_2, hx767_3⟩ := at_T54 (Kd.C_below HR0.out HB.out) a1 p767 q767; cases e767; replace p767 := eq_true p767; replace q767 := eq_true q767) | ((with_reducible refine gd 8 rfl ?_); refine bx 8 #[.string (⟨#[]⟩ : ByteArray), .int .i64 0, .int .i64 0, .int .i64 0] 54 ?_; intro gb768 hg w9 BK768 GW768 HB hb; have GE768 := GW768; have NB766_768 := nbl hg (bk BK766.out); have NB768_766 := nbr hg (bk BK766.out); replace BK766 := kb BK766 hb; clear hb hg; have hnb10 := NB768_766.out; have hnc10 := NB766_768.out; obtain ⟨hcz11_0, hcz11_1, hcz11_2, hcz11_3⟩ := bc4 BK768.out; have hfz11 := blk_frozen BK768.out) | ((with_reducible refine gate_callee (f := 100) rfl ?_); refine gK (some 18) Try.func100 #[.string ((rd_T54 l0 a1).f0)] rfl rfl rfl ?_; (with_reducible refine (impl_operands.calls k ((rd_T54 l0 a1).f0) t769 _ A6.out).mono ?_); rintro e w12 ⟨rfl, hb⟩; refine ⟨_, rfl, ?_⟩; replace BK766 := Aside0.mk (blk_below (g := gb766) (o := .cells #[.slice none 0 0, .slice none 0 0, .int .i64 0] 57 (0, 0)) (bq BK766.out) hb); replace BK768 := Aside0.mk (blk_below (g := gb768) (o := .cells #[.string ((rd_T54 l0 a1).f0), .int .i64 ((rd_T54 l0 a1).f1), .int .i64 ((rd_T54 l0 a1).f2), .int .i64 ((rd_T54 l0 a1).f3)] 54 (0, 0)) (bq BK768.out) hb); replace HB := bs hb; (try clear hb); obtain ⟨hcz13_0, hcz13_1, hcz13_2⟩ := bc3 BK766.out; have hfz13 := blk_frozen BK766.out))
  refine bodyPost_ret (results_ct rfl _ _ gb766 57 #[.slice none 0 0, .slice none 0 0, .int .i64 0] (0, 0) _ rfl (bq BK766.out) Try.underlying57 rfl (by kernel_rfl)) rfl ?_
  exact ⟨_, _, EQ, by first | exact Kd.R_nil _ _ _ _ _ | exact Kd.N_nil _ _ _ _ _ | exact Kd.V_nil _ _ _ _ _ | exact Kd.Q_nil _ _ _ _ _ | exact Kd.S_nil _ _ _ _ _, by first | exact Kd.R_nil _ _ _ _ _ | exact Kd.N_nil _ _ _ _ _ | exact Kd.V_nil _ _ _ _ _ | exact Kd.Q_nil _ _ _ _ _ | exact Kd.S_nil _ _ _ _ _, BA⟩
 ·rw [if_neg c7] at H
  have c7b0 := decide_eq_false c7
  clear c7
  replace H := Option.bind_eq_some_iff.mp H
  obtain ⟨⟨t770, t773, t776, t777⟩, A140, H⟩ := H
  (try dsimp only at H)
  have A14 := Aside0.mk A140
  clear A140
  simp only [Option.some.injEq, Prod.mk.injEq] at H
  obtain ⟨rfl, rfl, rfl, rfl⟩ := H
  go_enter Try.func78, Try.ntmps78
  go_wp2_with (first | ((with_reducible refine gd 6 rfl ?_); refine bx 6 #[.slice none 0 0, .slice none 0 0, .int .i64 0] 57 ?_; intro gb766 hg w15 BK766 GW766 HB hb; have GE766 := GW766; clear hb hg; have p767 : 0 ≤ (a1 : Int) := DT; have q767 : a1 < (l0.length : Int) := DT; obtain ⟨ad767, e767, hx767_0, hx767_1, hx767_2, hx767_3⟩ := at_T54 (Kd.C_below HR0.out HB.out) a1 p767 q767; cases e767; replace p767 := eq_true p767; replace q767 := eq_true q767) | ((with_reducible refine gd 8 rfl ?_); refine bx 8 #[.string (⟨#[]⟩ : ByteArray), .int .i64 0, .int .i64 0, .int .i64 0] 54 ?_; intro gb768 hg w16 BK768 GW768 HB hb; have GE768 := GW768; have NB766_768 := nbl hg (bk BK766.out); have NB768_766 := nbr hg (bk BK766.out); replace BK766 := kb BK766 hb; clear hb hg; have hnb17 := NB768_766.out; have hnc17 := NB766_768.out; obtain ⟨hcz18_0, hcz18_1, hcz18_2, hcz18_3⟩ := bc4 BK768.out; have hfz18 := blk_frozen BK768.out) | ((with_reducible refine gate_callee (f := 100) rfl ?_); refine gK (some 18) Try.func100 #[.string ((rd_T54 l0 a1).f0)] rfl rfl rfl ?_; (with_reducible refine (impl_operands.calls k ((rd_T54 l0 a1).f0) t769 _ A6.out).mono ?_); rintro e w19 ⟨rfl, hb⟩; refine ⟨_, rfl, ?_⟩; replace BK766 := Aside0.mk (blk_below (g := gb766) (o := .cells #[.slice none 0 0, .slice none 0 0, .int .i64 0] 57 (0, 0)) (bq BK766.out) hb); replace BK768 := Aside0.mk (blk_below (g := gb768) (o := .cells #[.string ((rd_T54 l0 a1).f0), .int .i64 ((rd_T54 l0 a1).f1), .int .i64 ((rd_T54 l0 a1).f2), .int .i64 ((rd_T54 l0 a1).f3)] 54 (0, 0)) (bq BK768.out) hb); replace HB := bs hb; (try clear hb); obtain ⟨hcz20_0, hcz20_1, hcz20_2, hcz20_3⟩ := bc4 BK768.out; have hfz20 := blk_frozen BK768.out) | ((with_reducible refine gate_callee (f := 102) rfl ?_); refine gK (some 69) Try.func102 #[.slice (some ad767) l0.length c0, .agg #[.string ((rd_T54 l0 a1).f0), .int .i64 ((rd_T54 l0 a1).f1), .int .i64 ((rd_T54 l0 a1).f2), .int .i64 ((rd_T54 l0 a1).f3)], .int .i64 6] rfl rfl rfl ?_; (with_reducible refine (impl_constTile_at6.calls k _ _ l0 ((rd_T54 l0 a1).f0) ((rd_T54 l0 a1).f1) ((rd_T54 l0 a1).f2) ((rd_T54 l0 a1).f3)  t770 t773 t776 t777 _ ?side1 ?side2 A14.out).mono ?_); (case side1 => exact cb (Kd.C_below HR0.out HB.out)); (case side2 => exact HC0.out); rintro e w21 ⟨v771, v774, rfl, ho0, ho1, hb⟩; refine ⟨_, rfl, ?_⟩; have HO772 := Aside0.mk (Kd.R_lower ho0 (below_size BA)); have HO775 := Aside0.mk (Kd.R_lower ho1 (below_size BA)); replace BK766 := kb BK766 hb; replace BK768 := kb BK768 hb; replace HB := bs hb; (try clear hb); (try clear ho0); (try clear ho1); obtain ⟨Ao22, co22, eo22⟩ := Kd.R_slice HO772.out; subst eo22; obtain ⟨hcz23_0, hcz23_1, hcz23_2⟩ := bc3 BK766.out; have hfz23 := blk_frozen BK766.out; obtain ⟨Ao24, co24, eo24⟩ := Kd.R_slice HO775.out; subst eo24))
  refine bodyPost_ret (results_ct rfl _ _ gb766 57 #[.slice Ao22 t770.length co22, .slice Ao24 t773.length co24, .int .i64 t776] (0, 0) _ rfl (bq BK766.out) Try.underlying57 rfl (by kernel_rfl)) rfl ?_
  exact ⟨_, _, EQ, rb (Kd.R_mono (Kd.R_far (p := ⟨gb766, 2, none⟩) (Kd.R_far (p := ⟨gb766, 1, none⟩) (Kd.R_far (p := ⟨gb766, 0, none⟩) (Kd.R_types HO772.out BK766.out (by decide)) (fun _ hk => hk.2) (.slice Ao22 t770.length co22)) (fun _ hk => hk.2) (.slice Ao24 t773.length co24)) (fun _ hk => hk.2) (.int .i64 t776)) (fun _ hk => hk.1)), rb (Kd.R_mono (Kd.R_far (p := ⟨gb766, 2, none⟩) (Kd.R_far (p := ⟨gb766, 1, none⟩) (Kd.R_far (p := ⟨gb766, 0, none⟩) (Kd.R_types HO775.out BK766.out (by decide)) (fun _ hk => hk.2) (.slice Ao22 t770.length co22)) (fun _ hk => hk.2) (.slice Ao24 t773.length co24)) (fun _ hk => hk.2) (.int .i64 t776)) (fun _ hk => hk.1)), BA⟩

/-! ### impl_tileAt_at7: function 78 -/
def impl_tileAt_at7.f (k : Nat) (l0 : List (S54)) (a1 : Int)  : Option (List Int × List Int × Int × Bool) := if 0 ≤ a1 then (if a1 < (l0.length : Int) then ((impl_operands.f k ((rd_T54 l0 a1).f0)).bind fun t781 => (if t781 < 2 then (some (([] : List Int), ([] : List Int), 0, false)) else ((impl_constTile_at7.f k l0 ((rd_T54 l0 a1).f0) ((rd_T54 l0 a1).f1) ((rd_T54 l0 a1).f2) ((rd_T54 l0 a1).f3)).bind fun bt782 => (some (bt782.1, bt782.2.1, bt782.2.2.1, bt782.2.2.2))))) else (none)) else (none)
theorem impl_tileAt_at7.calls (k : Nat) (A0 : Option Addr) (c0 : Nat) (l0 : List (S54)) (a1 : Int)  (r1 : List Int) (r2 : List Int) (r3 : Int) (r4 : Bool) (w : World) (hr0 : Kd.C k54 w A0 l0.length l0) (hc0 : l0.length ≤ c0) (h : impl_tileAt_at7.f k l0 a1 = some (r1, r2, r3, r4)) :
  Calls Try.prog 78 #[.slice A0 l0.length c0, .int .i64 a1, .int .i64 7] w fun e w' => ∃ v0_ v1_ : Value, e = .returned (.tuple #[.agg #[v0_, v1_, .int .i64 r3], .bool r4]) ∧ Kd.R (Kd.int .i64) 3 w' w.heap.size (fun k_ => some k_ ≠ (v1_ : Value).ownBlock) v0_ r1 ∧ Kd.R (Kd.int .i64) 3 w' w.heap.size (fun k_ => some k_ ≠ (v0_ : Value).ownBlock) v1_ r2 ∧ Below w.heap.size w w' := by
 have hu57 := Try.underlying57
 have hu54 := Try.underlying54
 have hu93 := Try.underlying93
 have HR0 := Aside0.mk hr0
 have HC0 := Aside0.mk hc0
 clear hr0 hc0
 have HB := Aside0.mk (Below.refl w.heap.size w)
 have H := h
 clear h
 unfold impl_tileAt_at7.f at H
 obtain ⟨c4, H⟩ := ifs H
 have c4b0 := decide_eq_true c4
 clear c4
 obtain ⟨c5, H⟩ := ifs H
 have c5b0 := decide_eq_true c5
 clear c5
 obtain ⟨t781, A6, H⟩ := ob H
 (try dsimp only at H)
 by_cases c7 : t781 < 2
 ·rw [if_pos c7] at H
  have c7b0 := decide_eq_true c7
  clear c7
  simp only [Option.some.injEq, Prod.mk.injEq] at H
  obtain ⟨rfl, rfl, rfl, rfl⟩ := H
  go_enter Try.func78, Try.ntmps78
  go_wp2_with (first | ((with_reducible refine gd 6 rfl ?_); refine bx 6 #[.slice none 0 0, .slice none 0 0, .int .i64 0] 57 ?_; intro gb778 hg w8 BK778 GW778 HB hb; have GE778 := GW778; clear hb hg; have p779 : 0 ≤ (a1 : Int) := DT; have q779 : a1 < (l0.length : Int) := DT; obtain ⟨ad779, e779, hx779_0, hx779_1, hx779_2, hx779_3⟩ := at_T54 (Kd.C_below HR0.out HB.out) a1 p779 q779; cases e779; replace p779 := eq_true p779; replace q779 := eq_true q779) | ((with_reducible refine gd 8 rfl ?_); refine bx 8 #[.string (⟨#[]⟩ : ByteArray), .int .i64 0, .int .i64 0, .int .i64 0] 54 ?_; intro gb780 hg w9 BK780 GW780 HB hb; have GE780 := GW780; have NB778_780 := nbl hg (bk BK778.out); have NB780_778 := nbr hg (bk BK778.out); replace BK778 := kb BK778 hb; clear hb hg; have hnb10 := NB780_778.out; have hnc10 := NB778_780.out; obtain ⟨hcz11_0, hcz11_1, hcz11_2, hcz11_3⟩ := bc4 BK780.out; have hfz11 := blk_frozen BK780.out) | ((with_reducible refine gate_callee (f := 100) rfl ?_); refine gK (some 18) Try.func100 #[.string ((rd_T54 l0 a1).f0)] rfl rfl rfl ?_; (with_reducible refine (impl_operands.calls k ((rd_T54 l0 a1).f0) t781 _ A6.out).mono ?_); rintro e w12 ⟨rfl, hb⟩; refine ⟨_, rfl, ?_⟩; replace BK778 := Aside0.mk (blk_below (g := gb778) (o := .cells #[.slice none 0 0, .slice none 0 0, .int .i64 0] 57 (0, 0)) (bq BK778.out) hb); replace BK780 := Aside0.mk (blk_below (g := gb780) (o := .cells #[.string ((rd_T54 l0 a1).f0), .int .i64 ((rd_T54 l0 a1).f1), .int .i64 ((rd_T54 l0 a1).f2), .int .i64 ((rd_T54 l0 a1).f3)] 54 (0, 0)) (bq BK780.out) hb); replace HB := bs hb; (try clear hb); obtain ⟨hcz13_0, hcz13_1, hcz13_2⟩ := bc3 BK778.out; have hfz13 := blk_frozen BK778.out))
  refine bodyPost_ret (results_ct rfl _ _ gb778 57 #[.slice none 0 0, .slice none 0 0, .int .i64 0] (0, 0) _ rfl (bq BK778.out) Try.underlying57 rfl (by kernel_rfl)) rfl ?_
  exact ⟨_, _, EQ, by first | exact Kd.R_nil _ _ _ _ _ | exact Kd.N_nil _ _ _ _ _ | exact Kd.V_nil _ _ _ _ _ | exact Kd.Q_nil _ _ _ _ _ | exact Kd.S_nil _ _ _ _ _, by first | exact Kd.R_nil _ _ _ _ _ | exact Kd.N_nil _ _ _ _ _ | exact Kd.V_nil _ _ _ _ _ | exact Kd.Q_nil _ _ _ _ _ | exact Kd.S_nil _ _ _ _ _, BA⟩
 ·rw [if_neg c7] at H
  have c7b0 := decide_eq_false c7
  clear c7
  replace H := Option.bind_eq_some_iff.mp H
  obtain ⟨⟨t782, t785, t788, t789⟩, A140, H⟩ := H
  (try dsimp only at H)
  have A14 := Aside0.mk A140
  clear A140
  simp only [Option.some.injEq, Prod.mk.injEq] at H
  obtain ⟨rfl, rfl, rfl, rfl⟩ := H
  go_enter Try.func78, Try.ntmps78
  go_wp2_with (first | ((with_reducible refine gd 6 rfl ?_); refine bx 6 #[.slice none 0 0, .slice none 0 0, .int .i64 0] 57 ?_; intro gb778 hg w15 BK778 GW778 HB hb; have GE778 := GW778; clear hb hg; have p779 : 0 ≤ (a1 : Int) := DT; have q779 : a1 < (l0.length : Int) := DT; obtain ⟨ad779, e779, hx779_0, hx779_1, hx779_2, hx779_3⟩ := at_T54 (Kd.C_below HR0.out HB.out) a1 p779 q779; cases e779; replace p779 := eq_true p779; replace q779 := eq_true q779) | ((with_reducible refine gd 8 rfl ?_); refine bx 8 #[.string (⟨#[]⟩ : ByteArray), .int .i64 0, .int .i64 0, .int .i64 0] 54 ?_; intro gb780 hg w16 BK780 GW780 HB hb; have GE780 := GW780; have NB778_780 := nbl hg (bk BK778.out); have NB780_778 := nbr hg (bk BK778.out); replace BK778 := kb BK778 hb; clear hb hg; have hnb17 := NB780_778.out; have hnc17 := NB778_780.out; obtain ⟨hcz18_0, hcz18_1, hcz18_2, hcz18_3⟩ := bc4 BK780.out; have hfz18 := blk_frozen BK780.out) | ((with_reducible refine gate_callee (f := 100) rfl ?_); refine gK (some 18) Try.func100 #[.string ((rd_T54 l0 a1).f0)] rfl rfl rfl ?_; (with_reducible refine (impl_operands.calls k ((rd_T54 l0 a1).f0) t781 _ A6.out).mono ?_); rintro e w19 ⟨rfl, hb⟩; refine ⟨_, rfl, ?_⟩; replace BK778 := Aside0.mk (blk_below (g := gb778) (o := .cells #[.slice none 0 0, .slice none 0 0, .int .i64 0] 57 (0, 0)) (bq BK778.out) hb); replace BK780 := Aside0.mk (blk_below (g := gb780) (o := .cells #[.string ((rd_T54 l0 a1).f0), .int .i64 ((rd_T54 l0 a1).f1), .int .i64 ((rd_T54 l0 a1).f2), .int .i64 ((rd_T54 l0 a1).f3)] 54 (0, 0)) (bq BK780.out) hb); replace HB := bs hb; (try clear hb); obtain ⟨hcz20_0, hcz20_1, hcz20_2, hcz20_3⟩ := bc4 BK780.out; have hfz20 := blk_frozen BK780.out) | ((with_reducible refine gate_callee (f := 102) rfl ?_); refine gK (some 69) Try.func102 #[.slice (some ad779) l0.length c0, .agg #[.string ((rd_T54 l0 a1).f0), .int .i64 ((rd_T54 l0 a1).f1), .int .i64 ((rd_T54 l0 a1).f2), .int .i64 ((rd_T54 l0 a1).f3)], .int .i64 7] rfl rfl rfl ?_; (with_reducible refine (impl_constTile_at7.calls k _ _ l0 ((rd_T54 l0 a1).f0) ((rd_T54 l0 a1).f1) ((rd_T54 l0 a1).f2) ((rd_T54 l0 a1).f3)  t782 t785 t788 t789 _ ?side1 ?side2 A14.out).mono ?_); (case side1 => exact cb (Kd.C_below HR0.out HB.out)); (case side2 => exact HC0.out); rintro e w21 ⟨v783, v786, rfl, ho0, ho1, hb⟩; refine ⟨_, rfl, ?_⟩; have HO784 := Aside0.mk (Kd.R_lower ho0 (below_size BA)); have HO787 := Aside0.mk (Kd.R_lower ho1 (below_size BA)); replace BK778 := kb BK778 hb; replace BK780 := kb BK780 hb; replace HB := bs hb; (try clear hb); (try clear ho0); (try clear ho1); obtain ⟨Ao22, co22, eo22⟩ := Kd.R_slice HO784.out; subst eo22; obtain ⟨hcz23_0, hcz23_1, hcz23_2⟩ := bc3 BK778.out; have hfz23 := blk_frozen BK778.out; obtain ⟨Ao24, co24, eo24⟩ := Kd.R_slice HO787.out; subst eo24))
  refine bodyPost_ret (results_ct rfl _ _ gb778 57 #[.slice Ao22 t782.length co22, .slice Ao24 t785.length co24, .int .i64 t788] (0, 0) _ rfl (bq BK778.out) Try.underlying57 rfl (by kernel_rfl)) rfl ?_
  exact ⟨_, _, EQ, rb (Kd.R_mono (Kd.R_far (p := ⟨gb778, 2, none⟩) (Kd.R_far (p := ⟨gb778, 1, none⟩) (Kd.R_far (p := ⟨gb778, 0, none⟩) (Kd.R_types HO784.out BK778.out (by decide)) (fun _ hk => hk.2) (.slice Ao22 t782.length co22)) (fun _ hk => hk.2) (.slice Ao24 t785.length co24)) (fun _ hk => hk.2) (.int .i64 t788)) (fun _ hk => hk.1)), rb (Kd.R_mono (Kd.R_far (p := ⟨gb778, 2, none⟩) (Kd.R_far (p := ⟨gb778, 1, none⟩) (Kd.R_far (p := ⟨gb778, 0, none⟩) (Kd.R_types HO787.out BK778.out (by decide)) (fun _ hk => hk.2) (.slice Ao22 t782.length co22)) (fun _ hk => hk.2) (.slice Ao24 t785.length co24)) (fun _ hk => hk.2) (.int .i64 t788)) (fun _ hk => hk.1)), BA⟩

/-! ### impl_tileAt_at8: function 78 -/
def impl_tileAt_at8.f (k : Nat) (l0 : List (S54)) (a1 : Int)  : Option (List Int × List Int × Int × Bool) := if 0 ≤ a1 then (if a1 < (l0.length : Int) then ((impl_operands.f k ((rd_T54 l0 a1).f0)).bind fun t793 => (if t793 < 2 then (some (([] : List Int), ([] : List Int), 0, false)) else ((impl_constTile_at8.f k l0 ((rd_T54 l0 a1).f0) ((rd_T54 l0 a1).f1) ((rd_T54 l0 a1).f2) ((rd_T54 l0 a1).f3)).bind fun bt794 => (some (bt794.1, bt794.2.1, bt794.2.2.1, bt794.2.2.2))))) else (none)) else (none)
theorem impl_tileAt_at8.calls (k : Nat) (A0 : Option Addr) (c0 : Nat) (l0 : List (S54)) (a1 : Int)  (r1 : List Int) (r2 : List Int) (r3 : Int) (r4 : Bool) (w : World) (hr0 : Kd.C k54 w A0 l0.length l0) (hc0 : l0.length ≤ c0) (h : impl_tileAt_at8.f k l0 a1 = some (r1, r2, r3, r4)) :
  Calls Try.prog 78 #[.slice A0 l0.length c0, .int .i64 a1, .int .i64 8] w fun e w' => ∃ v0_ v1_ : Value, e = .returned (.tuple #[.agg #[v0_, v1_, .int .i64 r3], .bool r4]) ∧ Kd.R (Kd.int .i64) 3 w' w.heap.size (fun k_ => some k_ ≠ (v1_ : Value).ownBlock) v0_ r1 ∧ Kd.R (Kd.int .i64) 3 w' w.heap.size (fun k_ => some k_ ≠ (v0_ : Value).ownBlock) v1_ r2 ∧ Below w.heap.size w w' := by
 have hu57 := Try.underlying57
 have hu54 := Try.underlying54
 have hu93 := Try.underlying93
 have HR0 := Aside0.mk hr0
 have HC0 := Aside0.mk hc0
 clear hr0 hc0
 have HB := Aside0.mk (Below.refl w.heap.size w)
 have H := h
 clear h
 unfold impl_tileAt_at8.f at H
 obtain ⟨c4, H⟩ := ifs H
 have c4b0 := decide_eq_true c4
 clear c4
 obtain ⟨c5, H⟩ := ifs H
 have c5b0 := decide_eq_true c5
 clear c5
 obtain ⟨t793, A6, H⟩ := ob H
 (try dsimp only at H)
 by_cases c7 : t793 < 2
 ·rw [if_pos c7] at H
  have c7b0 := decide_eq_true c7
  clear c7
  simp only [Option.some.injEq, Prod.mk.injEq] at H
  obtain ⟨rfl, rfl, rfl, rfl⟩ := H
  go_enter Try.func78, Try.ntmps78
  go_wp2_with (first | ((with_reducible refine gd 6 rfl ?_); refine bx 6 #[.slice none 0 0, .slice none 0 0, .int .i64 0] 57 ?_; intro gb790 hg w8 BK790 GW790 HB hb; have GE790 := GW790; clear hb hg; have p791 : 0 ≤ (a1 : Int) := DT; have q791 : a1 < (l0.length : Int) := DT; obtain ⟨ad791, e791, hx791_0, hx791_1, hx791_2, hx791_3⟩ := at_T54 (Kd.C_below HR0.out HB.out) a1 p791 q791; cases e791; replace p791 := eq_true p791; replace q791 := eq_true q791) | ((with_reducible refine gd 8 rfl ?_); refine bx 8 #[.string (⟨#[]⟩ : ByteArray), .int .i64 0, .int .i64 0, .int .i64 0] 54 ?_; intro gb792 hg w9 BK792 GW792 HB hb; have GE792 := GW792; have NB790_792 := nbl hg (bk BK790.out); have NB792_790 := nbr hg (bk BK790.out); replace BK790 := kb BK790 hb; clear hb hg; have hnb10 := NB792_790.out; have hnc10 := NB790_792.out; obtain ⟨hcz11_0, hcz11_1, hcz11_2, hcz11_3⟩ := bc4 BK792.out; have hfz11 := blk_frozen BK792.out) | ((with_reducible refine gate_callee (f := 100) rfl ?_); refine gK (some 18) Try.func100 #[.string ((rd_T54 l0 a1).f0)] rfl rfl rfl ?_; (with_reducible refine (impl_operands.calls k ((rd_T54 l0 a1).f0) t793 _ A6.out).mono ?_); rintro e w12 ⟨rfl, hb⟩; refine ⟨_, rfl, ?_⟩; replace BK790 := Aside0.mk (blk_below (g := gb790) (o := .cells #[.slice none 0 0, .slice none 0 0, .int .i64 0] 57 (0, 0)) (bq BK790.out) hb); replace BK792 := Aside0.mk (blk_below (g := gb792) (o := .cells #[.string ((rd_T54 l0 a1).f0), .int .i64 ((rd_T54 l0 a1).f1), .int .i64 ((rd_T54 l0 a1).f2), .int .i64 ((rd_T54 l0 a1).f3)] 54 (0, 0)) (bq BK792.out) hb); replace HB := bs hb; (try clear hb); obtain ⟨hcz13_0, hcz13_1, hcz13_2⟩ := bc3 BK790.out; have hfz13 := blk_frozen BK790.out))
  refine bodyPost_ret (results_ct rfl _ _ gb790 57 #[.slice none 0 0, .slice none 0 0, .int .i64 0] (0, 0) _ rfl (bq BK790.out) Try.underlying57 rfl (by kernel_rfl)) rfl ?_
  exact ⟨_, _, EQ, by first | exact Kd.R_nil _ _ _ _ _ | exact Kd.N_nil _ _ _ _ _ | exact Kd.V_nil _ _ _ _ _ | exact Kd.Q_nil _ _ _ _ _ | exact Kd.S_nil _ _ _ _ _, by first | exact Kd.R_nil _ _ _ _ _ | exact Kd.N_nil _ _ _ _ _ | exact Kd.V_nil _ _ _ _ _ | exact Kd.Q_nil _ _ _ _ _ | exact Kd.S_nil _ _ _ _ _, BA⟩
 ·rw [if_neg c7] at H
  have c7b0 := decide_eq_false c7
  clear c7
  replace H := Option.bind_eq_some_iff.mp H
  obtain ⟨⟨t794, t797, t800, t801⟩, A140, H⟩ := H
  (try dsimp only at H)
  have A14 := Aside0.mk A140
  clear A140
  simp only [Option.some.injEq, Prod.mk.injEq] at H
  obtain ⟨rfl, rfl, rfl, rfl⟩ := H
  go_enter Try.func78, Try.ntmps78
  go_wp2_with (first | ((with_reducible refine gd 6 rfl ?_); refine bx 6 #[.slice none 0 0, .slice none 0 0, .int .i64 0] 57 ?_; intro gb790 hg w15 BK790 GW790 HB hb; have GE790 := GW790; clear hb hg; have p791 : 0 ≤ (a1 : Int) := DT; have q791 : a1 < (l0.length : Int) := DT; obtain ⟨ad791, e791, hx791_0, hx791_1, hx791_2, hx791_3⟩ := at_T54 (Kd.C_below HR0.out HB.out) a1 p791 q791; cases e791; replace p791 := eq_true p791; replace q791 := eq_true q791) | ((with_reducible refine gd 8 rfl ?_); refine bx 8 #[.string (⟨#[]⟩ : ByteArray), .int .i64 0, .int .i64 0, .int .i64 0] 54 ?_; intro gb792 hg w16 BK792 GW792 HB hb; have GE792 := GW792; have NB790_792 := nbl hg (bk BK790.out); have NB792_790 := nbr hg (bk BK790.out); replace BK790 := kb BK790 hb; clear hb hg; have hnb17 := NB792_790.out; have hnc17 := NB790_792.out; obtain ⟨hcz18_0, hcz18_1, hcz18_2, hcz18_3⟩ := bc4 BK792.out; have hfz18 := blk_frozen BK792.out) | ((with_reducible refine gate_callee (f := 100) rfl ?_); refine gK (some 18) Try.func100 #[.string ((rd_T54 l0 a1).f0)] rfl rfl rfl ?_; (with_reducible refine (impl_operands.calls k ((rd_T54 l0 a1).f0) t793 _ A6.out).mono ?_); rintro e w19 ⟨rfl, hb⟩; refine ⟨_, rfl, ?_⟩; replace BK790 := Aside0.mk (blk_below (g := gb790) (o := .cells #[.slice none 0 0, .slice none 0 0, .int .i64 0] 57 (0, 0)) (bq BK790.out) hb); replace BK792 := Aside0.mk (blk_below (g := gb792) (o := .cells #[.string ((rd_T54 l0 a1).f0), .int .i64 ((rd_T54 l0 a1).f1), .int .i64 ((rd_T54 l0 a1).f2), .int .i64 ((rd_T54 l0 a1).f3)] 54 (0, 0)) (bq BK792.out) hb); replace HB := bs hb; (try clear hb); obtain ⟨hcz20_0, hcz20_1, hcz20_2, hcz20_3⟩ := bc4 BK792.out; have hfz20 := blk_frozen BK792.out) | ((with_reducible refine gate_callee (f := 102) rfl ?_); refine gK (some 69) Try.func102 #[.slice (some ad791) l0.length c0, .agg #[.string ((rd_T54 l0 a1).f0), .int .i64 ((rd_T54 l0 a1).f1), .int .i64 ((rd_T54 l0 a1).f2), .int .i64 ((rd_T54 l0 a1).f3)], .int .i64 8] rfl rfl rfl ?_; (with_reducible refine (impl_constTile_at8.calls k _ _ l0 ((rd_T54 l0 a1).f0) ((rd_T54 l0 a1).f1) ((rd_T54 l0 a1).f2) ((rd_T54 l0 a1).f3)  t794 t797 t800 t801 _ ?side1 ?side2 A14.out).mono ?_); (case side1 => exact cb (Kd.C_below HR0.out HB.out)); (case side2 => exact HC0.out); rintro e w21 ⟨v795, v798, rfl, ho0, ho1, hb⟩; refine ⟨_, rfl, ?_⟩; have HO796 := Aside0.mk (Kd.R_lower ho0 (below_size BA)); have HO799 := Aside0.mk (Kd.R_lower ho1 (below_size BA)); replace BK790 := kb BK790 hb; replace BK792 := kb BK792 hb; replace HB := bs hb; (try clear hb); (try clear ho0); (try clear ho1); obtain ⟨Ao22, co22, eo22⟩ := Kd.R_slice HO796.out; subst eo22; obtain ⟨hcz23_0, hcz23_1, hcz23_2⟩ := bc3 BK790.out; have hfz23 := blk_frozen BK790.out; obtain ⟨Ao24, co24, eo24⟩ := Kd.R_slice HO799.out; subst eo24))
  refine bodyPost_ret (results_ct rfl _ _ gb790 57 #[.slice Ao22 t794.length co22, .slice Ao24 t797.length co24, .int .i64 t800] (0, 0) _ rfl (bq BK790.out) Try.underlying57 rfl (by kernel_rfl)) rfl ?_
  exact ⟨_, _, EQ, rb (Kd.R_mono (Kd.R_far (p := ⟨gb790, 2, none⟩) (Kd.R_far (p := ⟨gb790, 1, none⟩) (Kd.R_far (p := ⟨gb790, 0, none⟩) (Kd.R_types HO796.out BK790.out (by decide)) (fun _ hk => hk.2) (.slice Ao22 t794.length co22)) (fun _ hk => hk.2) (.slice Ao24 t797.length co24)) (fun _ hk => hk.2) (.int .i64 t800)) (fun _ hk => hk.1)), rb (Kd.R_mono (Kd.R_far (p := ⟨gb790, 2, none⟩) (Kd.R_far (p := ⟨gb790, 1, none⟩) (Kd.R_far (p := ⟨gb790, 0, none⟩) (Kd.R_types HO799.out BK790.out (by decide)) (fun _ hk => hk.2) (.slice Ao22 t794.length co22)) (fun _ hk => hk.2) (.slice Ao24 t797.length co24)) (fun _ hk => hk.2) (.int .i64 t800)) (fun _ hk => hk.1)), BA⟩

/-! ### impl_tileAt_at9: function 78 -/
def impl_tileAt_at9.f (k : Nat) (l0 : List (S54)) (a1 : Int)  : Option (List Int × List Int × Int × Bool) := if 0 ≤ a1 then (if a1 < (l0.length : Int) then ((impl_operands.f k ((rd_T54 l0 a1).f0)).bind fun t805 => (if t805 < 2 then (some (([] : List Int), ([] : List Int), 0, false)) else ((impl_sumTile_at9.f k l0 ((rd_T54 l0 a1).f0) ((rd_T54 l0 a1).f1) ((rd_T54 l0 a1).f2) ((rd_T54 l0 a1).f3)).bind fun bt806 => (some (bt806.1, bt806.2.1, bt806.2.2.1, bt806.2.2.2))))) else (none)) else (none)
theorem impl_tileAt_at9.calls (k : Nat) (A0 : Option Addr) (c0 : Nat) (l0 : List (S54)) (a1 : Int)  (r1 : List Int) (r2 : List Int) (r3 : Int) (r4 : Bool) (w : World) (hr0 : Kd.C k54 w A0 l0.length l0) (hc0 : l0.length ≤ c0) (h : impl_tileAt_at9.f k l0 a1 = some (r1, r2, r3, r4)) :
  Calls Try.prog 78 #[.slice A0 l0.length c0, .int .i64 a1, .int .i64 9] w fun e w' => ∃ v0_ v1_ : Value, e = .returned (.tuple #[.agg #[v0_, v1_, .int .i64 r3], .bool r4]) ∧ Kd.R (Kd.int .i64) 3 w' w.heap.size (fun k_ => some k_ ≠ (v1_ : Value).ownBlock) v0_ r1 ∧ Kd.R (Kd.int .i64) 3 w' w.heap.size (fun k_ => some k_ ≠ (v0_ : Value).ownBlock) v1_ r2 ∧ Below w.heap.size w w' := by
 have hu57 := Try.underlying57
 have hu54 := Try.underlying54
 have hu93 := Try.underlying93
 have HR0 := Aside0.mk hr0
 have HC0 := Aside0.mk hc0
 clear hr0 hc0
 have HB := Aside0.mk (Below.refl w.heap.size w)
 have H := h
 clear h
 unfold impl_tileAt_at9.f at H
 obtain ⟨c4, H⟩ := ifs H
 have c4b0 := decide_eq_true c4
 clear c4
 obtain ⟨c5, H⟩ := ifs H
 have c5b0 := decide_eq_true c5
 clear c5
 obtain ⟨t805, A6, H⟩ := ob H
 (try dsimp only at H)
 by_cases c7 : t805 < 2
 ·rw [if_pos c7] at H
  have c7b0 := decide_eq_true c7
  clear c7
  simp only [Option.some.injEq, Prod.mk.injEq] at H
  obtain ⟨rfl, rfl, rfl, rfl⟩ := H
  go_enter Try.func78, Try.ntmps78
  go_wp2_with (first | ((with_reducible refine gd 6 rfl ?_); refine bx 6 #[.slice none 0 0, .slice none 0 0, .int .i64 0] 57 ?_; intro gb802 hg w8 BK802 GW802 HB hb; have GE802 := GW802; clear hb hg; have p803 : 0 ≤ (a1 : Int) := DT; have q803 : a1 < (l0.length : Int) := DT; obtain ⟨ad803, e803, hx803_0, hx803_1, hx803_2, hx803_3⟩ := at_T54 (Kd.C_below HR0.out HB.out) a1 p803 q803; cases e803; replace p803 := eq_true p803; replace q803 := eq_true q803) | ((with_reducible refine gd 8 rfl ?_); refine bx 8 #[.string (⟨#[]⟩ : ByteArray), .int .i64 0, .int .i64 0, .int .i64 0] 54 ?_; intro gb804 hg w9 BK804 GW804 HB hb; have GE804 := GW804; have NB802_804 := nbl hg (bk BK802.out); have NB804_802 := nbr hg (bk BK802.out); replace BK802 := kb BK802 hb; clear hb hg; have hnb10 := NB804_802.out; have hnc10 := NB802_804.out; obtain ⟨hcz11_0, hcz11_1, hcz11_2, hcz11_3⟩ := bc4 BK804.out; have hfz11 := blk_frozen BK804.out) | ((with_reducible refine gate_callee (f := 100) rfl ?_); refine gK (some 18) Try.func100 #[.string ((rd_T54 l0 a1).f0)] rfl rfl rfl ?_; (with_reducible refine (impl_operands.calls k ((rd_T54 l0 a1).f0) t805 _ A6.out).mono ?_); rintro e w12 ⟨rfl, hb⟩; refine ⟨_, rfl, ?_⟩; replace BK802 := Aside0.mk (blk_below (g := gb802) (o := .cells #[.slice none 0 0, .slice none 0 0, .int .i64 0] 57 (0, 0)) (bq BK802.out) hb); replace BK804 := Aside0.mk (blk_below (g := gb804) (o := .cells #[.string ((rd_T54 l0 a1).f0), .int .i64 ((rd_T54 l0 a1).f1), .int .i64 ((rd_T54 l0 a1).f2), .int .i64 ((rd_T54 l0 a1).f3)] 54 (0, 0)) (bq BK804.out) hb); replace HB := bs hb; (try clear hb); obtain ⟨hcz13_0, hcz13_1, hcz13_2⟩ := bc3 BK802.out; have hfz13 := blk_frozen BK802.out))
  refine bodyPost_ret (results_ct rfl _ _ gb802 57 #[.slice none 0 0, .slice none 0 0, .int .i64 0] (0, 0) _ rfl (bq BK802.out) Try.underlying57 rfl (by kernel_rfl)) rfl ?_
  exact ⟨_, _, EQ, by first | exact Kd.R_nil _ _ _ _ _ | exact Kd.N_nil _ _ _ _ _ | exact Kd.V_nil _ _ _ _ _ | exact Kd.Q_nil _ _ _ _ _ | exact Kd.S_nil _ _ _ _ _, by first | exact Kd.R_nil _ _ _ _ _ | exact Kd.N_nil _ _ _ _ _ | exact Kd.V_nil _ _ _ _ _ | exact Kd.Q_nil _ _ _ _ _ | exact Kd.S_nil _ _ _ _ _, BA⟩
 ·rw [if_neg c7] at H
  have c7b0 := decide_eq_false c7
  clear c7
  replace H := Option.bind_eq_some_iff.mp H
  obtain ⟨⟨t806, t809, t812, t813⟩, A140, H⟩ := H
  (try dsimp only at H)
  have A14 := Aside0.mk A140
  clear A140
  simp only [Option.some.injEq, Prod.mk.injEq] at H
  obtain ⟨rfl, rfl, rfl, rfl⟩ := H
  go_enter Try.func78, Try.ntmps78
  go_wp2_with (first | ((with_reducible refine gd 6 rfl ?_); refine bx 6 #[.slice none 0 0, .slice none 0 0, .int .i64 0] 57 ?_; intro gb802 hg w15 BK802 GW802 HB hb; have GE802 := GW802; clear hb hg; have p803 : 0 ≤ (a1 : Int) := DT; have q803 : a1 < (l0.length : Int) := DT; obtain ⟨ad803, e803, hx803_0, hx803_1, hx803_2, hx803_3⟩ := at_T54 (Kd.C_below HR0.out HB.out) a1 p803 q803; cases e803; replace p803 := eq_true p803; replace q803 := eq_true q803) | ((with_reducible refine gd 8 rfl ?_); refine bx 8 #[.string (⟨#[]⟩ : ByteArray), .int .i64 0, .int .i64 0, .int .i64 0] 54 ?_; intro gb804 hg w16 BK804 GW804 HB hb; have GE804 := GW804; have NB802_804 := nbl hg (bk BK802.out); have NB804_802 := nbr hg (bk BK802.out); replace BK802 := kb BK802 hb; clear hb hg; have hnb17 := NB804_802.out; have hnc17 := NB802_804.out; obtain ⟨hcz18_0, hcz18_1, hcz18_2, hcz18_3⟩ := bc4 BK804.out; have hfz18 := blk_frozen BK804.out) | ((with_reducible refine gate_callee (f := 100) rfl ?_); refine gK (some 18) Try.func100 #[.string ((rd_T54 l0 a1).f0)] rfl rfl rfl ?_; (with_reducible refine (impl_operands.calls k ((rd_T54 l0 a1).f0) t805 _ A6.out).mono ?_); rintro e w19 ⟨rfl, hb⟩; refine ⟨_, rfl, ?_⟩; replace BK802 := Aside0.mk (blk_below (g := gb802) (o := .cells #[.slice none 0 0, .slice none 0 0, .int .i64 0] 57 (0, 0)) (bq BK802.out) hb); replace BK804 := Aside0.mk (blk_below (g := gb804) (o := .cells #[.string ((rd_T54 l0 a1).f0), .int .i64 ((rd_T54 l0 a1).f1), .int .i64 ((rd_T54 l0 a1).f2), .int .i64 ((rd_T54 l0 a1).f3)] 54 (0, 0)) (bq BK804.out) hb); replace HB := bs hb; (try clear hb); obtain ⟨hcz20_0, hcz20_1, hcz20_2, hcz20_3⟩ := bc4 BK804.out; have hfz20 := blk_frozen BK804.out) | ((with_reducible refine gate_callee (f := 103) rfl ?_); refine gK (some 75) Try.func103 #[.slice (some ad803) l0.length c0, .agg #[.string ((rd_T54 l0 a1).f0), .int .i64 ((rd_T54 l0 a1).f1), .int .i64 ((rd_T54 l0 a1).f2), .int .i64 ((rd_T54 l0 a1).f3)], .int .i64 9] rfl rfl rfl ?_; (with_reducible refine (impl_sumTile_at9.calls k _ _ l0 ((rd_T54 l0 a1).f0) ((rd_T54 l0 a1).f1) ((rd_T54 l0 a1).f2) ((rd_T54 l0 a1).f3)  t806 t809 t812 t813 _ ?side1 ?side2 A14.out).mono ?_); (case side1 => exact cb (Kd.C_below HR0.out HB.out)); (case side2 => exact HC0.out); rintro e w21 ⟨v807, v810, rfl, ho0, ho1, hb⟩; refine ⟨_, rfl, ?_⟩; have HO808 := Aside0.mk (Kd.R_lower ho0 (below_size BA)); have HO811 := Aside0.mk (Kd.R_lower ho1 (below_size BA)); replace BK802 := kb BK802 hb; replace BK804 := kb BK804 hb; replace HB := bs hb; (try clear hb); (try clear ho0); (try clear ho1); obtain ⟨Ao22, co22, eo22⟩ := Kd.R_slice HO808.out; subst eo22; obtain ⟨hcz23_0, hcz23_1, hcz23_2⟩ := bc3 BK802.out; have hfz23 := blk_frozen BK802.out; obtain ⟨Ao24, co24, eo24⟩ := Kd.R_slice HO811.out; subst eo24))
  refine bodyPost_ret (results_ct rfl _ _ gb802 57 #[.slice Ao22 t806.length co22, .slice Ao24 t809.length co24, .int .i64 t812] (0, 0) _ rfl (bq BK802.out) Try.underlying57 rfl (by kernel_rfl)) rfl ?_
  exact ⟨_, _, EQ, rb (Kd.R_mono (Kd.R_far (p := ⟨gb802, 2, none⟩) (Kd.R_far (p := ⟨gb802, 1, none⟩) (Kd.R_far (p := ⟨gb802, 0, none⟩) (Kd.R_types HO808.out BK802.out (by decide)) (fun _ hk => hk.2) (.slice Ao22 t806.length co22)) (fun _ hk => hk.2) (.slice Ao24 t809.length co24)) (fun _ hk => hk.2) (.int .i64 t812)) (fun _ hk => hk.1)), rb (Kd.R_mono (Kd.R_far (p := ⟨gb802, 2, none⟩) (Kd.R_far (p := ⟨gb802, 1, none⟩) (Kd.R_far (p := ⟨gb802, 0, none⟩) (Kd.R_types HO811.out BK802.out (by decide)) (fun _ hk => hk.2) (.slice Ao22 t806.length co22)) (fun _ hk => hk.2) (.slice Ao24 t809.length co24)) (fun _ hk => hk.2) (.int .i64 t812)) (fun _ hk => hk.1)), BA⟩

/-! ### impl_tileAt_at10: function 78 -/
def impl_tileAt_at10.f (k : Nat) (l0 : List (S54)) (a1 : Int)  : Option (List Int × List Int × Int × Bool) := if 0 ≤ a1 then (if a1 < (l0.length : Int) then ((impl_operands.f k ((rd_T54 l0 a1).f0)).bind fun t817 => (if t817 < 2 then (some (([] : List Int), ([] : List Int), 0, false)) else ((impl_sumTile_at10.f k l0 ((rd_T54 l0 a1).f0) ((rd_T54 l0 a1).f1) ((rd_T54 l0 a1).f2) ((rd_T54 l0 a1).f3)).bind fun bt818 => (some (bt818.1, bt818.2.1, bt818.2.2.1, bt818.2.2.2))))) else (none)) else (none)
theorem impl_tileAt_at10.calls (k : Nat) (A0 : Option Addr) (c0 : Nat) (l0 : List (S54)) (a1 : Int)  (r1 : List Int) (r2 : List Int) (r3 : Int) (r4 : Bool) (w : World) (hr0 : Kd.C k54 w A0 l0.length l0) (hc0 : l0.length ≤ c0) (h : impl_tileAt_at10.f k l0 a1 = some (r1, r2, r3, r4)) :
  Calls Try.prog 78 #[.slice A0 l0.length c0, .int .i64 a1, .int .i64 10] w fun e w' => ∃ v0_ v1_ : Value, e = .returned (.tuple #[.agg #[v0_, v1_, .int .i64 r3], .bool r4]) ∧ Kd.R (Kd.int .i64) 3 w' w.heap.size (fun k_ => some k_ ≠ (v1_ : Value).ownBlock) v0_ r1 ∧ Kd.R (Kd.int .i64) 3 w' w.heap.size (fun k_ => some k_ ≠ (v0_ : Value).ownBlock) v1_ r2 ∧ Below w.heap.size w w' := by
 have hu57 := Try.underlying57
 have hu54 := Try.underlying54
 have hu93 := Try.underlying93
 have HR0 := Aside0.mk hr0
 have HC0 := Aside0.mk hc0
 clear hr0 hc0
 have HB := Aside0.mk (Below.refl w.heap.size w)
 have H := h
 clear h
 unfold impl_tileAt_at10.f at H
 obtain ⟨c4, H⟩ := ifs H
 have c4b0 := decide_eq_true c4
 clear c4
 obtain ⟨c5, H⟩ := ifs H
 have c5b0 := decide_eq_true c5
 clear c5
 obtain ⟨t817, A6, H⟩ := ob H
 (try dsimp only at H)
 by_cases c7 : t817 < 2
 ·rw [if_pos c7] at H
  have c7b0 := decide_eq_true c7
  clear c7
  simp only [Option.some.injEq, Prod.mk.injEq] at H
  obtain ⟨rfl, rfl, rfl, rfl⟩ := H
  go_enter Try.func78, Try.ntmps78
  go_wp2_with (first | ((with_reducible refine gd 6 rfl ?_); refine bx 6 #[.slice none 0 0, .slice none 0 0, .int .i64 0] 57 ?_; intro gb814 hg w8 BK814 GW814 HB hb; have GE814 := GW814; clear hb hg; have p815 : 0 ≤ (a1 : Int) := DT; have q815 : a1 < (l0.length : Int) := DT; obtain ⟨ad815, e815, hx815_0, hx815_1, hx815_2, hx815_3⟩ := at_T54 (Kd.C_below HR0.out HB.out) a1 p815 q815; cases e815; replace p815 := eq_true p815; replace q815 := eq_true q815) | ((with_reducible refine gd 8 rfl ?_); refine bx 8 #[.string (⟨#[]⟩ : ByteArray), .int .i64 0, .int .i64 0, .int .i64 0] 54 ?_; intro gb816 hg w9 BK816 GW816 HB hb; have GE816 := GW816; have NB814_816 := nbl hg (bk BK814.out); have NB816_814 := nbr hg (bk BK814.out); replace BK814 := kb BK814 hb; clear hb hg; have hnb10 := NB816_814.out; have hnc10 := NB814_816.out; obtain ⟨hcz11_0, hcz11_1, hcz11_2, hcz11_3⟩ := bc4 BK816.out; have hfz11 := blk_frozen BK816.out) | ((with_reducible refine gate_callee (f := 100) rfl ?_); refine gK (some 18) Try.func100 #[.string ((rd_T54 l0 a1).f0)] rfl rfl rfl ?_; (with_reducible refine (impl_operands.calls k ((rd_T54 l0 a1).f0) t817 _ A6.out).mono ?_); rintro e w12 ⟨rfl, hb⟩; refine ⟨_, rfl, ?_⟩; replace BK814 := Aside0.mk (blk_below (g := gb814) (o := .cells #[.slice none 0 0, .slice none 0 0, .int .i64 0] 57 (0, 0)) (bq BK814.out) hb); replace BK816 := Aside0.mk (blk_below (g := gb816) (o := .cells #[.string ((rd_T54 l0 a1).f0), .int .i64 ((rd_T54 l0 a1).f1), .int .i64 ((rd_T54 l0 a1).f2), .int .i64 ((rd_T54 l0 a1).f3)] 54 (0, 0)) (bq BK816.out) hb); replace HB := bs hb; (try clear hb); obtain ⟨hcz13_0, hcz13_1, hcz13_2⟩ := bc3 BK814.out; have hfz13 := blk_frozen BK814.out))
  refine bodyPost_ret (results_ct rfl _ _ gb814 57 #[.slice none 0 0, .slice none 0 0, .int .i64 0] (0, 0) _ rfl (bq BK814.out) Try.underlying57 rfl (by kernel_rfl)) rfl ?_
  exact ⟨_, _, EQ, by first | exact Kd.R_nil _ _ _ _ _ | exact Kd.N_nil _ _ _ _ _ | exact Kd.V_nil _ _ _ _ _ | exact Kd.Q_nil _ _ _ _ _ | exact Kd.S_nil _ _ _ _ _, by first | exact Kd.R_nil _ _ _ _ _ | exact Kd.N_nil _ _ _ _ _ | exact Kd.V_nil _ _ _ _ _ | exact Kd.Q_nil _ _ _ _ _ | exact Kd.S_nil _ _ _ _ _, BA⟩
 ·rw [if_neg c7] at H
  have c7b0 := decide_eq_false c7
  clear c7
  replace H := Option.bind_eq_some_iff.mp H
  obtain ⟨⟨t818, t821, t824, t825⟩, A140, H⟩ := H
  (try dsimp only at H)
  have A14 := Aside0.mk A140
  clear A140
  simp only [Option.some.injEq, Prod.mk.injEq] at H
  obtain ⟨rfl, rfl, rfl, rfl⟩ := H
  go_enter Try.func78, Try.ntmps78
  go_wp2_with (first | ((with_reducible refine gd 6 rfl ?_); refine bx 6 #[.slice none 0 0, .slice none 0 0, .int .i64 0] 57 ?_; intro gb814 hg w15 BK814 GW814 HB hb; have GE814 := GW814; clear hb hg; have p815 : 0 ≤ (a1 : Int) := DT; have q815 : a1 < (l0.length : Int) := DT; obtain ⟨ad815, e815, hx815_0, hx815_1, hx815_2, hx815_3⟩ := at_T54 (Kd.C_below HR0.out HB.out) a1 p815 q815; cases e815; replace p815 := eq_true p815; replace q815 := eq_true q815) | ((with_reducible refine gd 8 rfl ?_); refine bx 8 #[.string (⟨#[]⟩ : ByteArray), .int .i64 0, .int .i64 0, .int .i64 0] 54 ?_; intro gb816 hg w16 BK816 GW816 HB hb; have GE816 := GW816; have NB814_816 := nbl hg (bk BK814.out); have NB816_814 := nbr hg (bk BK814.out); replace BK814 := kb BK814 hb; clear hb hg; have hnb17 := NB816_814.out; have hnc17 := NB814_816.out; obtain ⟨hcz18_0, hcz18_1, hcz18_2, hcz18_3⟩ := bc4 BK816.out; have hfz18 := blk_frozen BK816.out) | ((with_reducible refine gate_callee (f := 100) rfl ?_); refine gK (some 18) Try.func100 #[.string ((rd_T54 l0 a1).f0)] rfl rfl rfl ?_; (with_reducible refine (impl_operands.calls k ((rd_T54 l0 a1).f0) t817 _ A6.out).mono ?_); rintro e w19 ⟨rfl, hb⟩; refine ⟨_, rfl, ?_⟩; replace BK814 := Aside0.mk (blk_below (g := gb814) (o := .cells #[.slice none 0 0, .slice none 0 0, .int .i64 0] 57 (0, 0)) (bq BK814.out) hb); replace BK816 := Aside0.mk (blk_below (g := gb816) (o := .cells #[.string ((rd_T54 l0 a1).f0), .int .i64 ((rd_T54 l0 a1).f1), .int .i64 ((rd_T54 l0 a1).f2), .int .i64 ((rd_T54 l0 a1).f3)] 54 (0, 0)) (bq BK816.out) hb); replace HB := bs hb; (try clear hb); obtain ⟨hcz20_0, hcz20_1, hcz20_2, hcz20_3⟩ := bc4 BK816.out; have hfz20 := blk_frozen BK816.out) | ((with_reducible refine gate_callee (f := 103) rfl ?_); refine gK (some 75) Try.func103 #[.slice (some ad815) l0.length c0, .agg #[.string ((rd_T54 l0 a1).f0), .int .i64 ((rd_T54 l0 a1).f1), .int .i64 ((rd_T54 l0 a1).f2), .int .i64 ((rd_T54 l0 a1).f3)], .int .i64 10] rfl rfl rfl ?_; (with_reducible refine (impl_sumTile_at10.calls k _ _ l0 ((rd_T54 l0 a1).f0) ((rd_T54 l0 a1).f1) ((rd_T54 l0 a1).f2) ((rd_T54 l0 a1).f3)  t818 t821 t824 t825 _ ?side1 ?side2 A14.out).mono ?_); (case side1 => exact cb (Kd.C_below HR0.out HB.out)); (case side2 => exact HC0.out); rintro e w21 ⟨v819, v822, rfl, ho0, ho1, hb⟩; refine ⟨_, rfl, ?_⟩; have HO820 := Aside0.mk (Kd.R_lower ho0 (below_size BA)); have HO823 := Aside0.mk (Kd.R_lower ho1 (below_size BA)); replace BK814 := kb BK814 hb; replace BK816 := kb BK816 hb; replace HB := bs hb; (try clear hb); (try clear ho0); (try clear ho1); obtain ⟨Ao22, co22, eo22⟩ := Kd.R_slice HO820.out; subst eo22; obtain ⟨hcz23_0, hcz23_1, hcz23_2⟩ := bc3 BK814.out; have hfz23 := blk_frozen BK814.out; obtain ⟨Ao24, co24, eo24⟩ := Kd.R_slice HO823.out; subst eo24))
  refine bodyPost_ret (results_ct rfl _ _ gb814 57 #[.slice Ao22 t818.length co22, .slice Ao24 t821.length co24, .int .i64 t824] (0, 0) _ rfl (bq BK814.out) Try.underlying57 rfl (by kernel_rfl)) rfl ?_
  exact ⟨_, _, EQ, rb (Kd.R_mono (Kd.R_far (p := ⟨gb814, 2, none⟩) (Kd.R_far (p := ⟨gb814, 1, none⟩) (Kd.R_far (p := ⟨gb814, 0, none⟩) (Kd.R_types HO820.out BK814.out (by decide)) (fun _ hk => hk.2) (.slice Ao22 t818.length co22)) (fun _ hk => hk.2) (.slice Ao24 t821.length co24)) (fun _ hk => hk.2) (.int .i64 t824)) (fun _ hk => hk.1)), rb (Kd.R_mono (Kd.R_far (p := ⟨gb814, 2, none⟩) (Kd.R_far (p := ⟨gb814, 1, none⟩) (Kd.R_far (p := ⟨gb814, 0, none⟩) (Kd.R_types HO823.out BK814.out (by decide)) (fun _ hk => hk.2) (.slice Ao22 t818.length co22)) (fun _ hk => hk.2) (.slice Ao24 t821.length co24)) (fun _ hk => hk.2) (.int .i64 t824)) (fun _ hk => hk.1)), BA⟩

/-! ### impl_tileAt_at11: function 78 -/
def impl_tileAt_at11.f (k : Nat) (l0 : List (S54)) (a1 : Int)  : Option (List Int × List Int × Int × Bool) := if 0 ≤ a1 then (if a1 < (l0.length : Int) then ((impl_operands.f k ((rd_T54 l0 a1).f0)).bind fun t829 => (if t829 < 2 then (some (([] : List Int), ([] : List Int), 0, false)) else ((impl_sumTile_at11.f k l0 ((rd_T54 l0 a1).f0) ((rd_T54 l0 a1).f1) ((rd_T54 l0 a1).f2) ((rd_T54 l0 a1).f3)).bind fun bt830 => (some (bt830.1, bt830.2.1, bt830.2.2.1, bt830.2.2.2))))) else (none)) else (none)
theorem impl_tileAt_at11.calls (k : Nat) (A0 : Option Addr) (c0 : Nat) (l0 : List (S54)) (a1 : Int)  (r1 : List Int) (r2 : List Int) (r3 : Int) (r4 : Bool) (w : World) (hr0 : Kd.C k54 w A0 l0.length l0) (hc0 : l0.length ≤ c0) (h : impl_tileAt_at11.f k l0 a1 = some (r1, r2, r3, r4)) :
  Calls Try.prog 78 #[.slice A0 l0.length c0, .int .i64 a1, .int .i64 11] w fun e w' => ∃ v0_ v1_ : Value, e = .returned (.tuple #[.agg #[v0_, v1_, .int .i64 r3], .bool r4]) ∧ Kd.R (Kd.int .i64) 3 w' w.heap.size (fun k_ => some k_ ≠ (v1_ : Value).ownBlock) v0_ r1 ∧ Kd.R (Kd.int .i64) 3 w' w.heap.size (fun k_ => some k_ ≠ (v0_ : Value).ownBlock) v1_ r2 ∧ Below w.heap.size w w' := by
 have hu57 := Try.underlying57
 have hu54 := Try.underlying54
 have hu93 := Try.underlying93
 have HR0 := Aside0.mk hr0
 have HC0 := Aside0.mk hc0
 clear hr0 hc0
 have HB := Aside0.mk (Below.refl w.heap.size w)
 have H := h
 clear h
 unfold impl_tileAt_at11.f at H
 obtain ⟨c4, H⟩ := ifs H
 have c4b0 := decide_eq_true c4
 clear c4
 obtain ⟨c5, H⟩ := ifs H
 have c5b0 := decide_eq_true c5
 clear c5
 obtain ⟨t829, A6, H⟩ := ob H
 (try dsimp only at H)
 by_cases c7 : t829 < 2
 ·rw [if_pos c7] at H
  have c7b0 := decide_eq_true c7
  clear c7
  simp only [Option.some.injEq, Prod.mk.injEq] at H
  obtain ⟨rfl, rfl, rfl, rfl⟩ := H
  go_enter Try.func78, Try.ntmps78
  go_wp2_with (first | ((with_reducible refine gd 6 rfl ?_); refine bx 6 #[.slice none 0 0, .slice none 0 0, .int .i64 0] 57 ?_; intro gb826 hg w8 BK826 GW826 HB hb; have GE826 := GW826; clear hb hg; have p827 : 0 ≤ (a1 : Int) := DT; have q827 : a1 < (l0.length : Int) := DT; obtain ⟨ad827, e827, hx827_0, hx827_1, hx827_2, hx827_3⟩ := at_T54 (Kd.C_below HR0.out HB.out) a1 p827 q827; cases e827; replace p827 := eq_true p827; replace q827 := eq_true q827) | ((with_reducible refine gd 8 rfl ?_); refine bx 8 #[.string (⟨#[]⟩ : ByteArray), .int .i64 0, .int .i64 0, .int .i64 0] 54 ?_; intro gb828 hg w9 BK828 GW828 HB hb; have GE828 := GW828; have NB826_828 := nbl hg (bk BK826.out); have NB828_826 := nbr hg (bk BK826.out); replace BK826 := kb BK826 hb; clear hb hg; have hnb10 := NB828_826.out; have hnc10 := NB826_828.out; obtain ⟨hcz11_0, hcz11_1, hcz11_2, hcz11_3⟩ := bc4 BK828.out; have hfz11 := blk_frozen BK828.out) | ((with_reducible refine gate_callee (f := 100) rfl ?_); refine gK (some 18) Try.func100 #[.string ((rd_T54 l0 a1).f0)] rfl rfl rfl ?_; (with_reducible refine (impl_operands.calls k ((rd_T54 l0 a1).f0) t829 _ A6.out).mono ?_); rintro e w12 ⟨rfl, hb⟩; refine ⟨_, rfl, ?_⟩; replace BK826 := Aside0.mk (blk_below (g := gb826) (o := .cells #[.slice none 0 0, .slice none 0 0, .int .i64 0] 57 (0, 0)) (bq BK826.out) hb); replace BK828 := Aside0.mk (blk_below (g := gb828) (o := .cells #[.string ((rd_T54 l0 a1).f0), .int .i64 ((rd_T54 l0 a1).f1), .int .i64 ((rd_T54 l0 a1).f2), .int .i64 ((rd_T54 l0 a1).f3)] 54 (0, 0)) (bq BK828.out) hb); replace HB := bs hb; (try clear hb); obtain ⟨hcz13_0, hcz13_1, hcz13_2⟩ := bc3 BK826.out; have hfz13 := blk_frozen BK826.out))
  refine bodyPost_ret (results_ct rfl _ _ gb826 57 #[.slice none 0 0, .slice none 0 0, .int .i64 0] (0, 0) _ rfl (bq BK826.out) Try.underlying57 rfl (by kernel_rfl)) rfl ?_
  exact ⟨_, _, EQ, by first | exact Kd.R_nil _ _ _ _ _ | exact Kd.N_nil _ _ _ _ _ | exact Kd.V_nil _ _ _ _ _ | exact Kd.Q_nil _ _ _ _ _ | exact Kd.S_nil _ _ _ _ _, by first | exact Kd.R_nil _ _ _ _ _ | exact Kd.N_nil _ _ _ _ _ | exact Kd.V_nil _ _ _ _ _ | exact Kd.Q_nil _ _ _ _ _ | exact Kd.S_nil _ _ _ _ _, BA⟩
 ·rw [if_neg c7] at H
  have c7b0 := decide_eq_false c7
  clear c7
  replace H := Option.bind_eq_some_iff.mp H
  obtain ⟨⟨t830, t833, t836, t837⟩, A140, H⟩ := H
  (try dsimp only at H)
  have A14 := Aside0.mk A140
  clear A140
  simp only [Option.some.injEq, Prod.mk.injEq] at H
  obtain ⟨rfl, rfl, rfl, rfl⟩ := H
  go_enter Try.func78, Try.ntmps78
  go_wp2_with (first | ((with_reducible refine gd 6 rfl ?_); refine bx 6 #[.slice none 0 0, .slice none 0 0, .int .i64 0] 57 ?_; intro gb826 hg w15 BK826 GW826 HB hb; have GE826 := GW826; clear hb hg; have p827 : 0 ≤ (a1 : Int) := DT; have q827 : a1 < (l0.length : Int) := DT; obtain ⟨ad827, e827, hx827_0, hx827_1, hx827_2, hx827_3⟩ := at_T54 (Kd.C_below HR0.out HB.out) a1 p827 q827; cases e827; replace p827 := eq_true p827; replace q827 := eq_true q827) | ((with_reducible refine gd 8 rfl ?_); refine bx 8 #[.string (⟨#[]⟩ : ByteArray), .int .i64 0, .int .i64 0, .int .i64 0] 54 ?_; intro gb828 hg w16 BK828 GW828 HB hb; have GE828 := GW828; have NB826_828 := nbl hg (bk BK826.out); have NB828_826 := nbr hg (bk BK826.out); replace BK826 := kb BK826 hb; clear hb hg; have hnb17 := NB828_826.out; have hnc17 := NB826_828.out; obtain ⟨hcz18_0, hcz18_1, hcz18_2, hcz18_3⟩ := bc4 BK828.out; have hfz18 := blk_frozen BK828.out) | ((with_reducible refine gate_callee (f := 100) rfl ?_); refine gK (some 18) Try.func100 #[.string ((rd_T54 l0 a1).f0)] rfl rfl rfl ?_; (with_reducible refine (impl_operands.calls k ((rd_T54 l0 a1).f0) t829 _ A6.out).mono ?_); rintro e w19 ⟨rfl, hb⟩; refine ⟨_, rfl, ?_⟩; replace BK826 := Aside0.mk (blk_below (g := gb826) (o := .cells #[.slice none 0 0, .slice none 0 0, .int .i64 0] 57 (0, 0)) (bq BK826.out) hb); replace BK828 := Aside0.mk (blk_below (g := gb828) (o := .cells #[.string ((rd_T54 l0 a1).f0), .int .i64 ((rd_T54 l0 a1).f1), .int .i64 ((rd_T54 l0 a1).f2), .int .i64 ((rd_T54 l0 a1).f3)] 54 (0, 0)) (bq BK828.out) hb); replace HB := bs hb; (try clear hb); obtain ⟨hcz20_0, hcz20_1, hcz20_2, hcz20_3⟩ := bc4 BK828.out; have hfz20 := blk_frozen BK828.out) | ((with_reducible refine gate_callee (f := 103) rfl ?_); refine gK (some 75) Try.func103 #[.slice (some ad827) l0.length c0, .agg #[.string ((rd_T54 l0 a1).f0), .int .i64 ((rd_T54 l0 a1).f1), .int .i64 ((rd_T54 l0 a1).f2), .int .i64 ((rd_T54 l0 a1).f3)], .int .i64 11] rfl rfl rfl ?_; (with_reducible refine (impl_sumTile_at11.calls k _ _ l0 ((rd_T54 l0 a1).f0) ((rd_T54 l0 a1).f1) ((rd_T54 l0 a1).f2) ((rd_T54 l0 a1).f3)  t830 t833 t836 t837 _ ?side1 ?side2 A14.out).mono ?_); (case side1 => exact cb (Kd.C_below HR0.out HB.out)); (case side2 => exact HC0.out); rintro e w21 ⟨v831, v834, rfl, ho0, ho1, hb⟩; refine ⟨_, rfl, ?_⟩; have HO832 := Aside0.mk (Kd.R_lower ho0 (below_size BA)); have HO835 := Aside0.mk (Kd.R_lower ho1 (below_size BA)); replace BK826 := kb BK826 hb; replace BK828 := kb BK828 hb; replace HB := bs hb; (try clear hb); (try clear ho0); (try clear ho1); obtain ⟨Ao22, co22, eo22⟩ := Kd.R_slice HO832.out; subst eo22; obtain ⟨hcz23_0, hcz23_1, hcz23_2⟩ := bc3 BK826.out; have hfz23 := blk_frozen BK826.out; obtain ⟨Ao24, co24, eo24⟩ := Kd.R_slice HO835.out; subst eo24))
  refine bodyPost_ret (results_ct rfl _ _ gb826 57 #[.slice Ao22 t830.length co22, .slice Ao24 t833.length co24, .int .i64 t836] (0, 0) _ rfl (bq BK826.out) Try.underlying57 rfl (by kernel_rfl)) rfl ?_
  exact ⟨_, _, EQ, rb (Kd.R_mono (Kd.R_far (p := ⟨gb826, 2, none⟩) (Kd.R_far (p := ⟨gb826, 1, none⟩) (Kd.R_far (p := ⟨gb826, 0, none⟩) (Kd.R_types HO832.out BK826.out (by decide)) (fun _ hk => hk.2) (.slice Ao22 t830.length co22)) (fun _ hk => hk.2) (.slice Ao24 t833.length co24)) (fun _ hk => hk.2) (.int .i64 t836)) (fun _ hk => hk.1)), rb (Kd.R_mono (Kd.R_far (p := ⟨gb826, 2, none⟩) (Kd.R_far (p := ⟨gb826, 1, none⟩) (Kd.R_far (p := ⟨gb826, 0, none⟩) (Kd.R_types HO835.out BK826.out (by decide)) (fun _ hk => hk.2) (.slice Ao22 t830.length co22)) (fun _ hk => hk.2) (.slice Ao24 t833.length co24)) (fun _ hk => hk.2) (.int .i64 t836)) (fun _ hk => hk.1)), BA⟩

/-! ### impl_tileAt_at12: function 78 -/
def impl_tileAt_at12.f (k : Nat) (l0 : List (S54)) (a1 : Int)  : Option (List Int × List Int × Int × Bool) := if 0 ≤ a1 then (if a1 < (l0.length : Int) then ((impl_operands.f k ((rd_T54 l0 a1).f0)).bind fun t841 => (if t841 < 2 then (some (([] : List Int), ([] : List Int), 0, false)) else ((impl_sumTile_at12.f k l0 ((rd_T54 l0 a1).f0) ((rd_T54 l0 a1).f1) ((rd_T54 l0 a1).f2) ((rd_T54 l0 a1).f3)).bind fun bt842 => (some (bt842.1, bt842.2.1, bt842.2.2.1, bt842.2.2.2))))) else (none)) else (none)
theorem impl_tileAt_at12.calls (k : Nat) (A0 : Option Addr) (c0 : Nat) (l0 : List (S54)) (a1 : Int)  (r1 : List Int) (r2 : List Int) (r3 : Int) (r4 : Bool) (w : World) (hr0 : Kd.C k54 w A0 l0.length l0) (hc0 : l0.length ≤ c0) (h : impl_tileAt_at12.f k l0 a1 = some (r1, r2, r3, r4)) :
  Calls Try.prog 78 #[.slice A0 l0.length c0, .int .i64 a1, .int .i64 12] w fun e w' => ∃ v0_ v1_ : Value, e = .returned (.tuple #[.agg #[v0_, v1_, .int .i64 r3], .bool r4]) ∧ Kd.R (Kd.int .i64) 3 w' w.heap.size (fun k_ => some k_ ≠ (v1_ : Value).ownBlock) v0_ r1 ∧ Kd.R (Kd.int .i64) 3 w' w.heap.size (fun k_ => some k_ ≠ (v0_ : Value).ownBlock) v1_ r2 ∧ Below w.heap.size w w' := by
 have hu57 := Try.underlying57
 have hu54 := Try.underlying54
 have hu93 := Try.underlying93
 have HR0 := Aside0.mk hr0
 have HC0 := Aside0.mk hc0
 clear hr0 hc0
 have HB := Aside0.mk (Below.refl w.heap.size w)
 have H := h
 clear h
 unfold impl_tileAt_at12.f at H
 obtain ⟨c4, H⟩ := ifs H
 have c4b0 := decide_eq_true c4
 clear c4
 obtain ⟨c5, H⟩ := ifs H
 have c5b0 := decide_eq_true c5
 clear c5
 obtain ⟨t841, A6, H⟩ := ob H
 (try dsimp only at H)
 by_cases c7 : t841 < 2
 ·rw [if_pos c7] at H
  have c7b0 := decide_eq_true c7
  clear c7
  simp only [Option.some.injEq, Prod.mk.injEq] at H
  obtain ⟨rfl, rfl, rfl, rfl⟩ := H
  go_enter Try.func78, Try.ntmps78
  go_wp2_with (first | ((with_reducible refine gd 6 rfl ?_); refine bx 6 #[.slice none 0 0, .slice none 0 0, .int .i64 0] 57 ?_; intro gb838 hg w8 BK838 GW838 HB hb; have GE838 := GW838; clear hb hg; have p839 : 0 ≤ (a1 : Int) := DT; have q839 : a1 < (l0.length : Int) := DT; obtain ⟨ad839, e839, hx839_0, hx839_1, hx839_2, hx839_3⟩ := at_T54 (Kd.C_below HR0.out HB.out) a1 p839 q839; cases e839; replace p839 := eq_true p839; replace q839 := eq_true q839) | ((with_reducible refine gd 8 rfl ?_); refine bx 8 #[.string (⟨#[]⟩ : ByteArray), .int .i64 0, .int .i64 0, .int .i64 0] 54 ?_; intro gb840 hg w9 BK840 GW840 HB hb; have GE840 := GW840; have NB838_840 := nbl hg (bk BK838.out); have NB840_838 := nbr hg (bk BK838.out); replace BK838 := kb BK838 hb; clear hb hg; have hnb10 := NB840_838.out; have hnc10 := NB838_840.out; obtain ⟨hcz11_0, hcz11_1, hcz11_2, hcz11_3⟩ := bc4 BK840.out; have hfz11 := blk_frozen BK840.out) | ((with_reducible refine gate_callee (f := 100) rfl ?_); refine gK (some 18) Try.func100 #[.string ((rd_T54 l0 a1).f0)] rfl rfl rfl ?_; (with_reducible refine (impl_operands.calls k ((rd_T54 l0 a1).f0) t841 _ A6.out).mono ?_); rintro e w12 ⟨rfl, hb⟩; refine ⟨_, rfl, ?_⟩; replace BK838 := Aside0.mk (blk_below (g := gb838) (o := .cells #[.slice none 0 0, .slice none 0 0, .int .i64 0] 57 (0, 0)) (bq BK838.out) hb); replace BK840 := Aside0.mk (blk_below (g := gb840) (o := .cells #[.string ((rd_T54 l0 a1).f0), .int .i64 ((rd_T54 l0 a1).f1), .int .i64 ((rd_T54 l0 a1).f2), .int .i64 ((rd_T54 l0 a1).f3)] 54 (0, 0)) (bq BK840.out) hb); replace HB := bs hb; (try clear hb); obtain ⟨hcz13_0, hcz13_1, hcz13_2⟩ := bc3 BK838.out; have hfz13 := blk_frozen BK838.out))
  refine bodyPost_ret (results_ct rfl _ _ gb838 57 #[.slice none 0 0, .slice none 0 0, .int .i64 0] (0, 0) _ rfl (bq BK838.out) Try.underlying57 rfl (by kernel_rfl)) rfl ?_
  exact ⟨_, _, EQ, by first | exact Kd.R_nil _ _ _ _ _ | exact Kd.N_nil _ _ _ _ _ | exact Kd.V_nil _ _ _ _ _ | exact Kd.Q_nil _ _ _ _ _ | exact Kd.S_nil _ _ _ _ _, by first | exact Kd.R_nil _ _ _ _ _ | exact Kd.N_nil _ _ _ _ _ | exact Kd.V_nil _ _ _ _ _ | exact Kd.Q_nil _ _ _ _ _ | exact Kd.S_nil _ _ _ _ _, BA⟩
 ·rw [if_neg c7] at H
  have c7b0 := decide_eq_false c7
  clear c7
  replace H := Option.bind_eq_some_iff.mp H
  obtain ⟨⟨t842, t845, t848, t849⟩, A140, H⟩ := H
  (try dsimp only at H)
  have A14 := Aside0.mk A140
  clear A140
  simp only [Option.some.injEq, Prod.mk.injEq] at H
  obtain ⟨rfl, rfl, rfl, rfl⟩ := H
  go_enter Try.func78, Try.ntmps78
  go_wp2_with (first | ((with_reducible refine gd 6 rfl ?_); refine bx 6 #[.slice none 0 0, .slice none 0 0, .int .i64 0] 57 ?_; intro gb838 hg w15 BK838 GW838 HB hb; have GE838 := GW838; clear hb hg; have p839 : 0 ≤ (a1 : Int) := DT; have q839 : a1 < (l0.length : Int) := DT; obtain ⟨ad839, e839, hx839_0, hx839_1, hx839_2, hx839_3⟩ := at_T54 (Kd.C_below HR0.out HB.out) a1 p839 q839; cases e839; replace p839 := eq_true p839; replace q839 := eq_true q839) | ((with_reducible refine gd 8 rfl ?_); refine bx 8 #[.string (⟨#[]⟩ : ByteArray), .int .i64 0, .int .i64 0, .int .i64 0] 54 ?_; intro gb840 hg w16 BK840 GW840 HB hb; have GE840 := GW840; have NB838_840 := nbl hg (bk BK838.out); have NB840_838 := nbr hg (bk BK838.out); replace BK838 := kb BK838 hb; clear hb hg; have hnb17 := NB840_838.out; have hnc17 := NB838_840.out; obtain ⟨hcz18_0, hcz18_1, hcz18_2, hcz18_3⟩ := bc4 BK840.out; have hfz18 := blk_frozen BK840.out) | ((with_reducible refine gate_callee (f := 100) rfl ?_); refine gK (some 18) Try.func100 #[.string ((rd_T54 l0 a1).f0)] rfl rfl rfl ?_; (with_reducible refine (impl_operands.calls k ((rd_T54 l0 a1).f0) t841 _ A6.out).mono ?_); rintro e w19 ⟨rfl, hb⟩; refine ⟨_, rfl, ?_⟩; replace BK838 := Aside0.mk (blk_below (g := gb838) (o := .cells #[.slice none 0 0, .slice none 0 0, .int .i64 0] 57 (0, 0)) (bq BK838.out) hb); replace BK840 := Aside0.mk (blk_below (g := gb840) (o := .cells #[.string ((rd_T54 l0 a1).f0), .int .i64 ((rd_T54 l0 a1).f1), .int .i64 ((rd_T54 l0 a1).f2), .int .i64 ((rd_T54 l0 a1).f3)] 54 (0, 0)) (bq BK840.out) hb); replace HB := bs hb; (try clear hb); obtain ⟨hcz20_0, hcz20_1, hcz20_2, hcz20_3⟩ := bc4 BK840.out; have hfz20 := blk_frozen BK840.out) | ((with_reducible refine gate_callee (f := 103) rfl ?_); refine gK (some 75) Try.func103 #[.slice (some ad839) l0.length c0, .agg #[.string ((rd_T54 l0 a1).f0), .int .i64 ((rd_T54 l0 a1).f1), .int .i64 ((rd_T54 l0 a1).f2), .int .i64 ((rd_T54 l0 a1).f3)], .int .i64 12] rfl rfl rfl ?_; (with_reducible refine (impl_sumTile_at12.calls k _ _ l0 ((rd_T54 l0 a1).f0) ((rd_T54 l0 a1).f1) ((rd_T54 l0 a1).f2) ((rd_T54 l0 a1).f3)  t842 t845 t848 t849 _ ?side1 ?side2 A14.out).mono ?_); (case side1 => exact cb (Kd.C_below HR0.out HB.out)); (case side2 => exact HC0.out); rintro e w21 ⟨v843, v846, rfl, ho0, ho1, hb⟩; refine ⟨_, rfl, ?_⟩; have HO844 := Aside0.mk (Kd.R_lower ho0 (below_size BA)); have HO847 := Aside0.mk (Kd.R_lower ho1 (below_size BA)); replace BK838 := kb BK838 hb; replace BK840 := kb BK840 hb; replace HB := bs hb; (try clear hb); (try clear ho0); (try clear ho1); obtain ⟨Ao22, co22, eo22⟩ := Kd.R_slice HO844.out; subst eo22; obtain ⟨hcz23_0, hcz23_1, hcz23_2⟩ := bc3 BK838.out; have hfz23 := blk_frozen BK838.out; obtain ⟨Ao24, co24, eo24⟩ := Kd.R_slice HO847.out; subst eo24))
  refine bodyPost_ret (results_ct rfl _ _ gb838 57 #[.slice Ao22 t842.length co22, .slice Ao24 t845.length co24, .int .i64 t848] (0, 0) _ rfl (bq BK838.out) Try.underlying57 rfl (by kernel_rfl)) rfl ?_
  exact ⟨_, _, EQ, rb (Kd.R_mono (Kd.R_far (p := ⟨gb838, 2, none⟩) (Kd.R_far (p := ⟨gb838, 1, none⟩) (Kd.R_far (p := ⟨gb838, 0, none⟩) (Kd.R_types HO844.out BK838.out (by decide)) (fun _ hk => hk.2) (.slice Ao22 t842.length co22)) (fun _ hk => hk.2) (.slice Ao24 t845.length co24)) (fun _ hk => hk.2) (.int .i64 t848)) (fun _ hk => hk.1)), rb (Kd.R_mono (Kd.R_far (p := ⟨gb838, 2, none⟩) (Kd.R_far (p := ⟨gb838, 1, none⟩) (Kd.R_far (p := ⟨gb838, 0, none⟩) (Kd.R_types HO847.out BK838.out (by decide)) (fun _ hk => hk.2) (.slice Ao22 t842.length co22)) (fun _ hk => hk.2) (.slice Ao24 t845.length co24)) (fun _ hk => hk.2) (.int .i64 t848)) (fun _ hk => hk.1)), BA⟩

/-! ### impl_tileAt: function 78 -/
def impl_tileAt.f (k : Nat) (l0 : List (S54)) (a1 : Int) (a2 : Int) : Option (List Int × List Int × Int × Bool) := if a2 = 0 then impl_tileAt_at0.f k l0 a1 else if a2 = 1 then impl_tileAt_at1.f k l0 a1 else if a2 = 2 then impl_tileAt_at2.f k l0 a1 else if a2 = 3 then impl_tileAt_at3.f k l0 a1 else if a2 = 4 then impl_tileAt_at4.f k l0 a1 else if a2 = 5 then impl_tileAt_at5.f k l0 a1 else if a2 = 6 then impl_tileAt_at6.f k l0 a1 else if a2 = 7 then impl_tileAt_at7.f k l0 a1 else if a2 = 8 then impl_tileAt_at8.f k l0 a1 else if a2 = 9 then impl_tileAt_at9.f k l0 a1 else if a2 = 10 then impl_tileAt_at10.f k l0 a1 else if a2 = 11 then impl_tileAt_at11.f k l0 a1 else if a2 = 12 then impl_tileAt_at12.f k l0 a1 else none
set_option maxRecDepth 100000 in
theorem impl_tileAt.calls (k : Nat) (A0 : Option Addr) (c0 : Nat) (l0 : List (S54)) (a1 : Int) (a2 : Int)  (r1 : List Int) (r2 : List Int) (r3 : Int) (r4 : Bool) (w : World) (hr0 : Kd.C k54 w A0 l0.length l0) (hc0 : l0.length ≤ c0) (h : impl_tileAt.f k l0 a1 a2 = some (r1, r2, r3, r4)) :
  Calls Try.prog 78 #[.slice A0 l0.length c0, .int .i64 a1, .int .i64 a2] w fun e w' => ∃ v0_ v1_ : Value, e = .returned (.tuple #[.agg #[v0_, v1_, .int .i64 r3], .bool r4]) ∧ Kd.R (Kd.int .i64) 3 w' w.heap.size (fun k_ => some k_ ≠ (v1_ : Value).ownBlock) v0_ r1 ∧ Kd.R (Kd.int .i64) 3 w' w.heap.size (fun k_ => some k_ ≠ (v0_ : Value).ownBlock) v1_ r2 ∧ Below w.heap.size w w' := by
 unfold impl_tileAt.f at h
 by_cases cq_0 : a2 = 0
 ·subst cq_0
  rw [if_pos rfl] at h
  exact impl_tileAt_at0.calls k A0 c0 l0 a1 r1 r2 r3 r4 w hr0 hc0 h
 rw [if_neg cq_0] at h
 by_cases cq_1 : a2 = 1
 ·subst cq_1
  rw [if_pos rfl] at h
  exact impl_tileAt_at1.calls k A0 c0 l0 a1 r1 r2 r3 r4 w hr0 hc0 h
 rw [if_neg cq_1] at h
 by_cases cq_2 : a2 = 2
 ·subst cq_2
  rw [if_pos rfl] at h
  exact impl_tileAt_at2.calls k A0 c0 l0 a1 r1 r2 r3 r4 w hr0 hc0 h
 rw [if_neg cq_2] at h
 by_cases cq_3 : a2 = 3
 ·subst cq_3
  rw [if_pos rfl] at h
  exact impl_tileAt_at3.calls k A0 c0 l0 a1 r1 r2 r3 r4 w hr0 hc0 h
 rw [if_neg cq_3] at h
 by_cases cq_4 : a2 = 4
 ·subst cq_4
  rw [if_pos rfl] at h
  exact impl_tileAt_at4.calls k A0 c0 l0 a1 r1 r2 r3 r4 w hr0 hc0 h
 rw [if_neg cq_4] at h
 by_cases cq_5 : a2 = 5
 ·subst cq_5
  rw [if_pos rfl] at h
  exact impl_tileAt_at5.calls k A0 c0 l0 a1 r1 r2 r3 r4 w hr0 hc0 h
 rw [if_neg cq_5] at h
 by_cases cq_6 : a2 = 6
 ·subst cq_6
  rw [if_pos rfl] at h
  exact impl_tileAt_at6.calls k A0 c0 l0 a1 r1 r2 r3 r4 w hr0 hc0 h
 rw [if_neg cq_6] at h
 by_cases cq_7 : a2 = 7
 ·subst cq_7
  rw [if_pos rfl] at h
  exact impl_tileAt_at7.calls k A0 c0 l0 a1 r1 r2 r3 r4 w hr0 hc0 h
 rw [if_neg cq_7] at h
 by_cases cq_8 : a2 = 8
 ·subst cq_8
  rw [if_pos rfl] at h
  exact impl_tileAt_at8.calls k A0 c0 l0 a1 r1 r2 r3 r4 w hr0 hc0 h
 rw [if_neg cq_8] at h
 by_cases cq_9 : a2 = 9
 ·subst cq_9
  rw [if_pos rfl] at h
  exact impl_tileAt_at9.calls k A0 c0 l0 a1 r1 r2 r3 r4 w hr0 hc0 h
 rw [if_neg cq_9] at h
 by_cases cq_10 : a2 = 10
 ·subst cq_10
  rw [if_pos rfl] at h
  exact impl_tileAt_at10.calls k A0 c0 l0 a1 r1 r2 r3 r4 w hr0 hc0 h
 rw [if_neg cq_10] at h
 by_cases cq_11 : a2 = 11
 ·subst cq_11
  rw [if_pos rfl] at h
  exact impl_tileAt_at11.calls k A0 c0 l0 a1 r1 r2 r3 r4 w hr0 hc0 h
 rw [if_neg cq_11] at h
 by_cases cq_12 : a2 = 12
 ·subst cq_12
  rw [if_pos rfl] at h
  exact impl_tileAt_at12.calls k A0 c0 l0 a1 r1 r2 r3 r4 w hr0 hc0 h
 rw [if_neg cq_12] at h
 exact absurd h (by simp)

/-! ### laws_eqNode: function 52 -/
def laws_eqNode.f (a0_0 : ByteArray) (a0_1 : Int) (a0_2 : Int) (a0_3 : Int) (a1_0 : ByteArray) (a1_1 : Int) (a1_2 : Int) (a1_3 : Int) : Option (Bool) := if a0_0.toList = a1_0.toList then (if a0_1 = a1_1 then (if a0_2 = a1_2 then (if a0_3 = a1_3 then (some true) else (some false)) else (some false)) else (some false)) else (some false)
theorem laws_eqNode.calls (a0_0 : ByteArray) (a0_1 : Int) (a0_2 : Int) (a0_3 : Int) (a1_0 : ByteArray) (a1_1 : Int) (a1_2 : Int) (a1_3 : Int) (r : Bool) (w : World) (h : laws_eqNode.f a0_0 a0_1 a0_2 a0_3 a1_0 a1_1 a1_2 a1_3 = some r) :
  Calls Try.prog 52 #[.agg #[.string a0_0, .int .i64 a0_1, .int .i64 a0_2, .int .i64 a0_3], .agg #[.string a1_0, .int .i64 a1_1, .int .i64 a1_2, .int .i64 a1_3]] w fun e w' => e = .returned (.bool r) ∧ Below w.heap.size w w' := by
 have hu54 := Try.underlying54
 have HB := Aside0.mk (Below.refl w.heap.size w)
 have H := h
 clear h
 unfold laws_eqNode.f at H
 by_cases c3 : a0_0.toList = a1_0.toList
 ·rw [if_pos c3] at H
  have c3b0 := beq_iff_eq.mpr c3
  have c3b1 := bne_eq_false_iff_eq.mpr c3
  clear c3
  by_cases c4 : a0_1 = a1_1
  ·rw [if_pos c4] at H
   have c4b0 := beq_iff_eq.mpr c4
   have c4b1 := bne_eq_false_iff_eq.mpr c4
   clear c4
   by_cases c5 : a0_2 = a1_2
   ·rw [if_pos c5] at H
    have c5b0 := beq_iff_eq.mpr c5
    have c5b1 := bne_eq_false_iff_eq.mpr c5
    clear c5
    by_cases c6 : a0_3 = a1_3
    ·rw [if_pos c6] at H
     have c6b0 := beq_iff_eq.mpr c6
     have c6b1 := bne_eq_false_iff_eq.mpr c6
     clear c6
     obtain rfl := Option.some.inj H
     go_enter Try.func52, Try.ntmps52
     go_wp2_with (first | ((with_reducible refine gd 2 rfl ?_); refine bx 2 #[.string a0_0, .int .i64 a0_1, .int .i64 a0_2, .int .i64 a0_3] 54 ?_; intro gb872 hg w7 BK872 GW872 HB hb; have GE872 := GW872; clear hb hg) | ((with_reducible refine gd 3 rfl ?_); refine bx 3 #[.string a1_0, .int .i64 a1_1, .int .i64 a1_2, .int .i64 a1_3] 54 ?_; intro gb873 hg w8 BK873 GW873 HB hb; have GE873 := GW873; have NB872_873 := nbl hg (bk BK872.out); have NB873_872 := nbr hg (bk BK872.out); replace BK872 := kb BK872 hb; clear hb hg; have hnb9 := NB872_873.out; have hnc9 := NB873_872.out; obtain ⟨hcz10_0, hcz10_1, hcz10_2, hcz10_3⟩ := bc4 BK872.out; have hfz10 := blk_frozen BK872.out; obtain ⟨hcz11_0, hcz11_1, hcz11_2, hcz11_3⟩ := bc4 BK873.out; have hfz11 := blk_frozen BK873.out))
     go_ret
     exact ⟨EQ, BA⟩
    ·rw [if_neg c6] at H
     have c6b0 := beq_eq_false_iff_ne.mpr c6
     have c6b1 := bne_iff_ne.mpr c6
     obtain rfl := Option.some.inj H
     go_enter Try.func52, Try.ntmps52
     go_wp2_with (first | ((with_reducible refine gd 2 rfl ?_); refine bx 2 #[.string a0_0, .int .i64 a0_1, .int .i64 a0_2, .int .i64 a0_3] 54 ?_; intro gb872 hg w12 BK872 GW872 HB hb; have GE872 := GW872; clear hb hg) | ((with_reducible refine gd 3 rfl ?_); refine bx 3 #[.string a1_0, .int .i64 a1_1, .int .i64 a1_2, .int .i64 a1_3] 54 ?_; intro gb873 hg w13 BK873 GW873 HB hb; have GE873 := GW873; have NB872_873 := nbl hg (bk BK872.out); have NB873_872 := nbr hg (bk BK872.out); replace BK872 := kb BK872 hb; clear hb hg; have hnb14 := NB872_873.out; have hnc14 := NB873_872.out; obtain ⟨hcz15_0, hcz15_1, hcz15_2, hcz15_3⟩ := bc4 BK872.out; have hfz15 := blk_frozen BK872.out; obtain ⟨hcz16_0, hcz16_1, hcz16_2, hcz16_3⟩ := bc4 BK873.out; have hfz16 := blk_frozen BK873.out))
     go_ret
     exact ⟨EQ, BA⟩
   ·rw [if_neg c5] at H
    have c5b0 := beq_eq_false_iff_ne.mpr c5
    have c5b1 := bne_iff_ne.mpr c5
    obtain rfl := Option.some.inj H
    go_enter Try.func52, Try.ntmps52
    go_wp2_with (first | ((with_reducible refine gd 2 rfl ?_); refine bx 2 #[.string a0_0, .int .i64 a0_1, .int .i64 a0_2, .int .i64 a0_3] 54 ?_; intro gb872 hg w17 BK872 GW872 HB hb; have GE872 := GW872; clear hb hg) | ((with_reducible refine gd 3 rfl ?_); refine bx 3 #[.string a1_0, .int .i64 a1_1, .int .i64 a1_2, .int .i64 a1_3] 54 ?_; intro gb873 hg w18 BK873 GW873 HB hb; have GE873 := GW873; have NB872_873 := nbl hg (bk BK872.out); have NB873_872 := nbr hg (bk BK872.out); replace BK872 := kb BK872 hb; clear hb hg; have hnb19 := NB872_873.out; have hnc19 := NB873_872.out; obtain ⟨hcz20_0, hcz20_1, hcz20_2, hcz20_3⟩ := bc4 BK872.out; have hfz20 := blk_frozen BK872.out; obtain ⟨hcz21_0, hcz21_1, hcz21_2, hcz21_3⟩ := bc4 BK873.out; have hfz21 := blk_frozen BK873.out))
    go_ret
    exact ⟨EQ, BA⟩
  ·rw [if_neg c4] at H
   have c4b0 := beq_eq_false_iff_ne.mpr c4
   have c4b1 := bne_iff_ne.mpr c4
   obtain rfl := Option.some.inj H
   go_enter Try.func52, Try.ntmps52
   go_wp2_with (first | ((with_reducible refine gd 2 rfl ?_); refine bx 2 #[.string a0_0, .int .i64 a0_1, .int .i64 a0_2, .int .i64 a0_3] 54 ?_; intro gb872 hg w22 BK872 GW872 HB hb; have GE872 := GW872; clear hb hg) | ((with_reducible refine gd 3 rfl ?_); refine bx 3 #[.string a1_0, .int .i64 a1_1, .int .i64 a1_2, .int .i64 a1_3] 54 ?_; intro gb873 hg w23 BK873 GW873 HB hb; have GE873 := GW873; have NB872_873 := nbl hg (bk BK872.out); have NB873_872 := nbr hg (bk BK872.out); replace BK872 := kb BK872 hb; clear hb hg; have hnb24 := NB872_873.out; have hnc24 := NB873_872.out; obtain ⟨hcz25_0, hcz25_1, hcz25_2, hcz25_3⟩ := bc4 BK872.out; have hfz25 := blk_frozen BK872.out; obtain ⟨hcz26_0, hcz26_1, hcz26_2, hcz26_3⟩ := bc4 BK873.out; have hfz26 := blk_frozen BK873.out))
   go_ret
   exact ⟨EQ, BA⟩
 ·rw [if_neg c3] at H
  have c3b0 := beq_eq_false_iff_ne.mpr c3
  have c3b1 := bne_iff_ne.mpr c3
  obtain rfl := Option.some.inj H
  go_enter Try.func52, Try.ntmps52
  go_wp2_with (first | ((with_reducible refine gd 2 rfl ?_); refine bx 2 #[.string a0_0, .int .i64 a0_1, .int .i64 a0_2, .int .i64 a0_3] 54 ?_; intro gb872 hg w27 BK872 GW872 HB hb; have GE872 := GW872; clear hb hg) | ((with_reducible refine gd 3 rfl ?_); refine bx 3 #[.string a1_0, .int .i64 a1_1, .int .i64 a1_2, .int .i64 a1_3] 54 ?_; intro gb873 hg w28 BK873 GW873 HB hb; have GE873 := GW873; have NB872_873 := nbl hg (bk BK872.out); have NB873_872 := nbr hg (bk BK872.out); replace BK872 := kb BK872 hb; clear hb hg; have hnb29 := NB872_873.out; have hnc29 := NB873_872.out; obtain ⟨hcz30_0, hcz30_1, hcz30_2, hcz30_3⟩ := bc4 BK872.out; have hfz30 := blk_frozen BK872.out; obtain ⟨hcz31_0, hcz31_1, hcz31_2, hcz31_3⟩ := bc4 BK873.out; have hfz31 := blk_frozen BK873.out))
  go_ret
  exact ⟨EQ, BA⟩

/-! ### laws_eqNodeS: function 19 -/
def laws_eqNodeS.l0 : Nat → List (S54) → List (S54) → Int → Option (Bool)
 | 0, _, _, _ => none
 | k + 1, x0, x1, x5 => if x5 < (x0.length : Int) then (if 0 ≤ x5 then (if x5 < (x1.length : Int) then ((laws_eqNode.f ((rd_T54 x0 x5).f0) ((rd_T54 x0 x5).f1) ((rd_T54 x0 x5).f2) ((rd_T54 x0 x5).f3) ((rd_T54 x1 x5).f0) ((rd_T54 x1 x5).f1) ((rd_T54 x1 x5).f2) ((rd_T54 x1 x5).f3)).bind fun t876 => (if t876 = true then (laws_eqNodeS.l0 k x0 x1 (wrap64 (x5 + 1))) else (some false))) else (none)) else (none)) else (some true)
def laws_eqNodeS.f (k : Nat) (l0 : List (S54)) (l1 : List (S54)) : Option (Bool) := if (l0.length : Int) = (l1.length : Int) then (laws_eqNodeS.l0 k l0 l1 0) else (some false)
def laws_eqNodeS.T6 : Bool × List (List Nat × List Nat) := (true, [([], []), ([], []), ([0, 1], [0, 1]), ([2], [2]), ([], []), ([], []), ([4, 5], [4, 5]), ([6], [6]), ([3, 7], [3, 7]), ([8], [8])])
def laws_eqNodeS.B6 : List Nat := [0, 0, 3, 7, 0, 0, 48, 112, 255, 511]
theorem laws_eqNodeS.tab6 : rtab .any (opsOf Try.f19 6) = laws_eqNodeS.T6 := by kernel_rfl
theorem laws_eqNodeS.bits6 : waitsOk laws_eqNodeS.T6.2 laws_eqNodeS.B6 = true := by kernel_rfl
theorem laws_eqNodeS.calls (k : Nat) (A0 : Option Addr) (c0 : Nat) (l0 : List (S54)) (A1 : Option Addr) (c1 : Nat) (l1 : List (S54)) (r : Bool) (w : World) (hr0 : Kd.C k54 w A0 l0.length l0) (hc0 : l0.length ≤ c0) (hr1 : Kd.C k54 w A1 l1.length l1) (hc1 : l1.length ≤ c1) (h : laws_eqNodeS.f k l0 l1 = some r) :
  Calls Try.prog 19 #[.slice A0 l0.length c0, .slice A1 l1.length c1] w fun e w' => e = .returned (.bool r) ∧ Below w.heap.size w w' := by
 have hu54 := Try.underlying54
 have HR0 := Aside0.mk hr0
 have HC0 := Aside0.mk hc0
 clear hr0 hc0
 have HR1 := Aside0.mk hr1
 have HC1 := Aside0.mk hc1
 clear hr1 hc1
 have HB := Aside0.mk (Below.refl w.heap.size w)
 have H := h
 clear h
 unfold laws_eqNodeS.f at H
 by_cases c3 : (l0.length : Int) = (l1.length : Int)
 ·rw [if_pos c3] at H
  have c3b0 := beq_iff_eq.mpr c3
  have c3b1 := bne_eq_false_iff_eq.mpr c3
  have c3b2 : (l0.length == l1.length) = true := by first | simpa using c3 | (simp at c3 ⊢; omega)
  clear c3
  have H' := Aside0.mk H
  clear H
  go_enter Try.func19, Try.ntmps19
  go_wp2
  go_loopg [5] k (fun kq v5 w' => ∃ (x5_1 : Int), v5 = .int .i64 x5_1 ∧ Aside0 (laws_eqNodeS.l0 kq l0 l1 x5_1 = some r) ∧ Aside0 (kq ≤ k) ∧ Aside0 (Below w.heap.size w w'))
  case atStart => exact ⟨(0), EQ1, H', ⟨Nat.le_refl _⟩, ⟨BA⟩⟩
  case round =>
   clear H'
   (try clear c1); (try clear c3b0); (try clear c3b1); (try clear c3b2)
   obtain ⟨x5_1, rfl, HA, HK1, HB⟩ := hrel
   cases gk with
   | zero => exact absurd HA.out (by simp [laws_eqNodeS.l0])
   | succ k1 =>
    have H := HA.out
    clear HA
    simp only [laws_eqNodeS.l0] at H
    by_cases c4 : x5_1 < (l0.length : Int)
    ·rw [if_pos c4] at H
     have c4b0 := decide_eq_true c4
     clear c4
     obtain ⟨c5, H⟩ := ifs H
     have c5b0 := decide_eq_true c5
     clear c5
     obtain ⟨c6, H⟩ := ifs H
     have c6b0 := decide_eq_true c6
     clear c6
     obtain ⟨t876, A7, H⟩ := ob H
     (try dsimp only at H)
     by_cases c8 : t876 = true
     ·subst c8
      rw [if_pos rfl] at H
      have H' := Aside0.mk H
      clear H
      try go_wp2
      replace HB := Aside0.mk (below_drew1 HB.out)
      have p874 : 0 ≤ (x5_1 : Int) := DT
      have q874 : x5_1 < (l0.length : Int) := DT
      obtain ⟨ad874, e874, hx874_0, hx874_1, hx874_2, hx874_3⟩ := at_T54 HR0.out x5_1 p874 q874
      have hw874_3 := hx874_3
      have hw874_2 := hx874_2
      have hw874_1 := hx874_1
      have hw874_0 := hx874_0
      cases e874
      replace hx874_0 := (HB.out.cell (World.block_lt_of_cell? w _ hx874_0)).trans hx874_0
      replace hx874_1 := (HB.out.cell (World.block_lt_of_cell? w _ hx874_1)).trans hx874_1
      replace hx874_2 := (HB.out.cell (World.block_lt_of_cell? w _ hx874_2)).trans hx874_2
      replace hx874_3 := (HB.out.cell (World.block_lt_of_cell? w _ hx874_3)).trans hx874_3
      replace p874 := eq_true p874
      replace q874 := eq_true q874
      have p875 : 0 ≤ (x5_1 : Int) := DT
      have q875 : x5_1 < (l1.length : Int) := DT
      obtain ⟨ad875, e875, hx875_0, hx875_1, hx875_2, hx875_3⟩ := at_T54 HR1.out x5_1 p875 q875
      have hw875_3 := hx875_3
      have hw875_2 := hx875_2
      have hw875_1 := hx875_1
      have hw875_0 := hx875_0
      cases e875
      replace hx875_0 := (HB.out.cell (World.block_lt_of_cell? w _ hx875_0)).trans hx875_0
      replace hx875_1 := (HB.out.cell (World.block_lt_of_cell? w _ hx875_1)).trans hx875_1
      replace hx875_2 := (HB.out.cell (World.block_lt_of_cell? w _ hx875_2)).trans hx875_2
      replace hx875_3 := (HB.out.cell (World.block_lt_of_cell? w _ hx875_3)).trans hx875_3
      replace p875 := eq_true p875
      replace q875 := eq_true q875
      refine start_ (n := 10) (S := fun w' => w'.cell? (ad874.add ((x5_1).toNat * 4)) = some (.string ((rd_T54 l0 x5_1).f0)) ∧ w'.cell? ⟨(ad874.add ((x5_1).toNat * 4)).block, (ad874.add ((x5_1).toNat * 4)).off + 1, none⟩ = some (.int .i64 ((rd_T54 l0 x5_1).f1)) ∧ w'.cell? ⟨(ad874.add ((x5_1).toNat * 4)).block, (ad874.add ((x5_1).toNat * 4)).off + 2, none⟩ = some (.int .i64 ((rd_T54 l0 x5_1).f2)) ∧ w'.cell? ⟨(ad874.add ((x5_1).toNat * 4)).block, (ad874.add ((x5_1).toNat * 4)).off + 3, none⟩ = some (.int .i64 ((rd_T54 l0 x5_1).f3)) ∧ w'.cell? (ad875.add ((x5_1).toNat * 4)) = some (.string ((rd_T54 l1 x5_1).f0)) ∧ w'.cell? ⟨(ad875.add ((x5_1).toNat * 4)).block, (ad875.add ((x5_1).toNat * 4)).off + 1, none⟩ = some (.int .i64 ((rd_T54 l1 x5_1).f1)) ∧ w'.cell? ⟨(ad875.add ((x5_1).toNat * 4)).block, (ad875.add ((x5_1).toNat * 4)).off + 2, none⟩ = some (.int .i64 ((rd_T54 l1 x5_1).f2)) ∧ w'.cell? ⟨(ad875.add ((x5_1).toNat * 4)).block, (ad875.add ((x5_1).toNat * 4)).off + 3, none⟩ = some (.int .i64 ((rd_T54 l1 x5_1).f3))) (ds := []) (mk 10 0) (by kernel_rfl) rfl (by kernel_rfl) ⟨((HB.out.cell (World.block_lt_of_cell? w _ hw874_0)).trans hw874_0), ((HB.out.cell (World.block_lt_of_cell? w _ hw874_1)).trans hw874_1), ((HB.out.cell (World.block_lt_of_cell? w _ hw874_2)).trans hw874_2), ((HB.out.cell (World.block_lt_of_cell? w _ hw874_3)).trans hw874_3), ((HB.out.cell (World.block_lt_of_cell? w _ hw875_0)).trans hw875_0), ((HB.out.cell (World.block_lt_of_cell? w _ hw875_1)).trans hw875_1), ((HB.out.cell (World.block_lt_of_cell? w _ hw875_2)).trans hw875_2), ((HB.out.cell (World.block_lt_of_cell? w _ hw875_3)).trans hw875_3)⟩ (fun hHeld => ?_); refine with_tabW laws_eqNodeS.tab6 laws_eqNodeS.bits6 (fun HT_ HW_ => ?_)
      generalize wr.drew = w9 at HB hx874_0 hx874_1 hx874_2 hx874_3 hx875_0 hx875_1 hx875_2 hx875_3 hHeld ⊢
      refine pu 0 17 10 1 rfl rfl ?_
      refine pu 1 18 10 3 rfl rfl ?_
      refine pu 2 19 10 7 rfl rfl ?_
      refine pu 4 21 10 23 rfl rfl ?_
      refine pu 5 22 10 55 rfl rfl ?_
      refine pu 6 23 10 119 rfl rfl ?_
      refine ta 3 20 10 127 rfl rfl ?_
      refine ta 7 24 10 255 rfl rfl ?_
      refine one_ (i := 8) (N := some 25) (mk 10 511) rfl rfl (one_of HT_.out (by kernel_rfl)) (by decide) (fun K hK => ?_)
      refine goes_ Try.func52 (by kernel_rfl) rfl #[.agg #[.string ((rd_T54 l0 x5_1).f0), .int .i64 ((rd_T54 l0 x5_1).f1), .int .i64 ((rd_T54 l0 x5_1).f2), .int .i64 ((rd_T54 l0 x5_1).f3)], .agg #[.string ((rd_T54 l1 x5_1).f0), .int .i64 ((rd_T54 l1 x5_1).f1), .int .i64 ((rd_T54 l1 x5_1).f2), .int .i64 ((rd_T54 l1 x5_1).f3)]] (by rfl) rfl rfl (by (try simp only [List.map_toArray, List.map_cons, List.map_nil]); first | done | rfl | (simp only [List.length_drop, List.length_take]; rfl)) ?_
      with_reducible refine (laws_eqNode.calls ((rd_T54 l0 x5_1).f0) ((rd_T54 l0 x5_1).f1) ((rd_T54 l0 x5_1).f2) ((rd_T54 l0 x5_1).f3) ((rd_T54 l1 x5_1).f0) ((rd_T54 l1 x5_1).f1) ((rd_T54 l1 x5_1).f2) ((rd_T54 l1 x5_1).f3) true _ A7.out).mono ?_
      rintro e w10 ⟨rfl, hb⟩
      refine ⟨_, rfl, ?_⟩
      replace HB := bs hb
      (try clear hb)
      refine hK.out _ _ ⟨((HB.out.cell (World.block_lt_of_cell? w _ hw874_0)).trans hw874_0), ((HB.out.cell (World.block_lt_of_cell? w _ hw874_1)).trans hw874_1), ((HB.out.cell (World.block_lt_of_cell? w _ hw874_2)).trans hw874_2), ((HB.out.cell (World.block_lt_of_cell? w _ hw874_3)).trans hw874_3), ((HB.out.cell (World.block_lt_of_cell? w _ hw875_0)).trans hw875_0), ((HB.out.cell (World.block_lt_of_cell? w _ hw875_1)).trans hw875_1), ((HB.out.cell (World.block_lt_of_cell? w _ hw875_2)).trans hw875_2), ((HB.out.cell (World.block_lt_of_cell? w _ hw875_3)).trans hw875_3)⟩ (fun hHeld => ?_)
      clear hK K
      refine nm 25 ?_
      refine pu 9 26 10 1023 rfl rfl ?_
      refine done_ (done_of HT_.out (by kernel_rfl)) ?_
      try go_wp2
      go_roundg k1
      case measure => have := HK1.out; omega
      case rel => exact ⟨(wrap64 (x5_1 + 1)), EQ1, H', ⟨by have := HK1.out; omega⟩, ⟨BA⟩⟩
     ·replace c8 := Bool.eq_false_iff.mpr c8
      subst c8
      rw [if_neg (show ¬ (false = true) by decide)] at H
      obtain rfl := Option.some.inj H
      try go_wp2
      replace HB := Aside0.mk (below_drew1 HB.out)
      have p874 : 0 ≤ (x5_1 : Int) := DT
      have q874 : x5_1 < (l0.length : Int) := DT
      obtain ⟨ad874, e874, hx874_0, hx874_1, hx874_2, hx874_3⟩ := at_T54 HR0.out x5_1 p874 q874
      have hw874_3 := hx874_3
      have hw874_2 := hx874_2
      have hw874_1 := hx874_1
      have hw874_0 := hx874_0
      cases e874
      replace hx874_0 := (HB.out.cell (World.block_lt_of_cell? w _ hx874_0)).trans hx874_0
      replace hx874_1 := (HB.out.cell (World.block_lt_of_cell? w _ hx874_1)).trans hx874_1
      replace hx874_2 := (HB.out.cell (World.block_lt_of_cell? w _ hx874_2)).trans hx874_2
      replace hx874_3 := (HB.out.cell (World.block_lt_of_cell? w _ hx874_3)).trans hx874_3
      replace p874 := eq_true p874
      replace q874 := eq_true q874
      have p875 : 0 ≤ (x5_1 : Int) := DT
      have q875 : x5_1 < (l1.length : Int) := DT
      obtain ⟨ad875, e875, hx875_0, hx875_1, hx875_2, hx875_3⟩ := at_T54 HR1.out x5_1 p875 q875
      have hw875_3 := hx875_3
      have hw875_2 := hx875_2
      have hw875_1 := hx875_1
      have hw875_0 := hx875_0
      cases e875
      replace hx875_0 := (HB.out.cell (World.block_lt_of_cell? w _ hx875_0)).trans hx875_0
      replace hx875_1 := (HB.out.cell (World.block_lt_of_cell? w _ hx875_1)).trans hx875_1
      replace hx875_2 := (HB.out.cell (World.block_lt_of_cell? w _ hx875_2)).trans hx875_2
      replace hx875_3 := (HB.out.cell (World.block_lt_of_cell? w _ hx875_3)).trans hx875_3
      replace p875 := eq_true p875
      replace q875 := eq_true q875
      refine start_ (n := 10) (S := fun w' => w'.cell? (ad874.add ((x5_1).toNat * 4)) = some (.string ((rd_T54 l0 x5_1).f0)) ∧ w'.cell? ⟨(ad874.add ((x5_1).toNat * 4)).block, (ad874.add ((x5_1).toNat * 4)).off + 1, none⟩ = some (.int .i64 ((rd_T54 l0 x5_1).f1)) ∧ w'.cell? ⟨(ad874.add ((x5_1).toNat * 4)).block, (ad874.add ((x5_1).toNat * 4)).off + 2, none⟩ = some (.int .i64 ((rd_T54 l0 x5_1).f2)) ∧ w'.cell? ⟨(ad874.add ((x5_1).toNat * 4)).block, (ad874.add ((x5_1).toNat * 4)).off + 3, none⟩ = some (.int .i64 ((rd_T54 l0 x5_1).f3)) ∧ w'.cell? (ad875.add ((x5_1).toNat * 4)) = some (.string ((rd_T54 l1 x5_1).f0)) ∧ w'.cell? ⟨(ad875.add ((x5_1).toNat * 4)).block, (ad875.add ((x5_1).toNat * 4)).off + 1, none⟩ = some (.int .i64 ((rd_T54 l1 x5_1).f1)) ∧ w'.cell? ⟨(ad875.add ((x5_1).toNat * 4)).block, (ad875.add ((x5_1).toNat * 4)).off + 2, none⟩ = some (.int .i64 ((rd_T54 l1 x5_1).f2)) ∧ w'.cell? ⟨(ad875.add ((x5_1).toNat * 4)).block, (ad875.add ((x5_1).toNat * 4)).off + 3, none⟩ = some (.int .i64 ((rd_T54 l1 x5_1).f3))) (ds := []) (mk 10 0) (by kernel_rfl) rfl (by kernel_rfl) ⟨((HB.out.cell (World.block_lt_of_cell? w _ hw874_0)).trans hw874_0), ((HB.out.cell (World.block_lt_of_cell? w _ hw874_1)).trans hw874_1), ((HB.out.cell (World.block_lt_of_cell? w _ hw874_2)).trans hw874_2), ((HB.out.cell (World.block_lt_of_cell? w _ hw874_3)).trans hw874_3), ((HB.out.cell (World.block_lt_of_cell? w _ hw875_0)).trans hw875_0), ((HB.out.cell (World.block_lt_of_cell? w _ hw875_1)).trans hw875_1), ((HB.out.cell (World.block_lt_of_cell? w _ hw875_2)).trans hw875_2), ((HB.out.cell (World.block_lt_of_cell? w _ hw875_3)).trans hw875_3)⟩ (fun hHeld => ?_); refine with_tabW laws_eqNodeS.tab6 laws_eqNodeS.bits6 (fun HT_ HW_ => ?_)
      generalize wr.drew = w11 at HB hx874_0 hx874_1 hx874_2 hx874_3 hx875_0 hx875_1 hx875_2 hx875_3 hHeld ⊢
      refine pu 0 17 10 1 rfl rfl ?_
      refine pu 1 18 10 3 rfl rfl ?_
      refine pu 2 19 10 7 rfl rfl ?_
      refine pu 4 21 10 23 rfl rfl ?_
      refine pu 5 22 10 55 rfl rfl ?_
      refine pu 6 23 10 119 rfl rfl ?_
      refine ta 3 20 10 127 rfl rfl ?_
      refine ta 7 24 10 255 rfl rfl ?_
      refine one_ (i := 8) (N := some 25) (mk 10 511) rfl rfl (one_of HT_.out (by kernel_rfl)) (by decide) (fun K hK => ?_)
      refine goes_ Try.func52 (by kernel_rfl) rfl #[.agg #[.string ((rd_T54 l0 x5_1).f0), .int .i64 ((rd_T54 l0 x5_1).f1), .int .i64 ((rd_T54 l0 x5_1).f2), .int .i64 ((rd_T54 l0 x5_1).f3)], .agg #[.string ((rd_T54 l1 x5_1).f0), .int .i64 ((rd_T54 l1 x5_1).f1), .int .i64 ((rd_T54 l1 x5_1).f2), .int .i64 ((rd_T54 l1 x5_1).f3)]] (by rfl) rfl rfl (by (try simp only [List.map_toArray, List.map_cons, List.map_nil]); first | done | rfl | (simp only [List.length_drop, List.length_take]; rfl)) ?_
      with_reducible refine (laws_eqNode.calls ((rd_T54 l0 x5_1).f0) ((rd_T54 l0 x5_1).f1) ((rd_T54 l0 x5_1).f2) ((rd_T54 l0 x5_1).f3) ((rd_T54 l1 x5_1).f0) ((rd_T54 l1 x5_1).f1) ((rd_T54 l1 x5_1).f2) ((rd_T54 l1 x5_1).f3) false _ A7.out).mono ?_
      rintro e w12 ⟨rfl, hb⟩
      refine ⟨_, rfl, ?_⟩
      replace HB := bs hb
      (try clear hb)
      refine hK.out _ _ ⟨((HB.out.cell (World.block_lt_of_cell? w _ hw874_0)).trans hw874_0), ((HB.out.cell (World.block_lt_of_cell? w _ hw874_1)).trans hw874_1), ((HB.out.cell (World.block_lt_of_cell? w _ hw874_2)).trans hw874_2), ((HB.out.cell (World.block_lt_of_cell? w _ hw874_3)).trans hw874_3), ((HB.out.cell (World.block_lt_of_cell? w _ hw875_0)).trans hw875_0), ((HB.out.cell (World.block_lt_of_cell? w _ hw875_1)).trans hw875_1), ((HB.out.cell (World.block_lt_of_cell? w _ hw875_2)).trans hw875_2), ((HB.out.cell (World.block_lt_of_cell? w _ hw875_3)).trans hw875_3)⟩ (fun hHeld => ?_)
      clear hK K
      refine nm 25 ?_
      refine pu 9 26 10 1023 rfl rfl ?_
      refine done_ (done_of HT_.out (by kernel_rfl)) ?_
      try go_wp2
      go_ret
      exact ⟨EQ, BA⟩
    ·rw [if_neg c4] at H
     have c4b0 := decide_eq_false c4
     clear c4
     obtain rfl := Option.some.inj H
     go_wp2
     go_ret
     exact ⟨EQ, BA⟩
 ·rw [if_neg c3] at H
  have c3b0 := beq_eq_false_iff_ne.mpr c3
  have c3b1 := bne_iff_ne.mpr c3
  have c3b2 : (l0.length == l1.length) = false := by first | simpa using c3 | (simp at c3 ⊢; omega)
  obtain rfl := Option.some.inj H
  go_enter Try.func19, Try.ntmps19
  go_wp2
  go_ret
  exact ⟨EQ, BA⟩

end Go.Proofs.Ytlmegefdnkjcbaa.Pa
