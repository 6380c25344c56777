-- Made by this session's program gen.py over the translation.
import Derived.Test.YtlmegefdnkjcbaaPa0
import Derived.Test.YtlmegefdnkjcbaaPa4
import Derived.Test.YtlmegefdnkjcbaaPa5
namespace Go.Proofs.Ytlmegefdnkjcbaa.Pa
open Go.RowKit Go.Proofs.YtlmegefdnkjcbaaW.PrintWords Go.Proofs.YtlmegefdnkjcbaaW.PrintLast Go.Proofs.YtlmegefdnkjcbaaW.PrintMore
attribute [local go_sem] max2_int min2_int max_two min_two max_three min_three max_four min_four   -- for this text's walks alone
set_option linter.unusedVariables false
set_option linter.unusedSimpArgs false
set_option maxHeartbeats 8000000
set_option maxRecDepth 100000

/-! ### impl_constTile_at7: function 102 -/
def impl_constTile_at7.f (k : Nat) (l0 : List (S54)) (a1_0 : ByteArray) (a1_1 : Int) (a1_2 : Int) (a1_3 : Int)  : Option (List Int × List Int × Int × Bool) := if 0 ≤ a1_2 then (if a1_2 < (l0.length : Int) then ((impl_power.f k ((rd_T54 l0 a1_2).f3)).bind fun t515 => ((some (([a1_1] : List Int) : List Int)).bind fun y516 => ((some (([a1_2] : List Int) : List Int)).bind fun y519 => ((slices_Contains_string_string.f k (([(⟨#[109, 117, 108]⟩ : ByteArray)] : List ByteArray)) a1_0).bind fun t522 => (if t522 = true then (if ((rd_T54 l0 a1_2).f0).toList = ([99, 111, 110, 115, 116] : List UInt8) then (some (y516, y519, 1, decide (t515 > 0))) else (some (y516, y519, 1, false))) else (some (y516, y519, 1, false))))))) else (none)) else (none)
def impl_constTile_at7.T1 : Bool × List (List Nat × List Nat) := (true, [([], []), ([0], [0]), ([], []), ([2], [2]), ([], []), ([1, 0, 1], [1]), ([3, 5, 0, 1, 2, 3, 5], [3]), ([4, 6, 0, 1, 2, 3, 4, 5, 6], [4])])
def impl_constTile_at7.B1 : List Nat := [0, 1, 0, 4, 0, 3, 47, 127]
theorem impl_constTile_at7.tab1 : rtab .any (opsOf Try.f102 1) = impl_constTile_at7.T1 := by kernel_rfl
theorem impl_constTile_at7.bits1 : waitsOk impl_constTile_at7.T1.2 impl_constTile_at7.B1 = true := by kernel_rfl
theorem impl_constTile_at7.calls (k : Nat) (A0 : Option Addr) (c0 : Nat) (l0 : List (S54)) (a1_0 : ByteArray) (a1_1 : Int) (a1_2 : Int) (a1_3 : Int)  (r1 : List Int) (r2 : List Int) (r3 : Int) (r4 : Bool) (w : World) (hr0 : Kd.C k54 w A0 l0.length l0) (hc0 : l0.length ≤ c0) (h : impl_constTile_at7.f k l0 a1_0 a1_1 a1_2 a1_3 = some (r1, r2, r3, r4)) :
  Calls Try.prog 102 #[.slice A0 l0.length c0, .agg #[.string a1_0, .int .i64 a1_1, .int .i64 a1_2, .int .i64 a1_3], .int .i64 7] w fun e w' => ∃ v0_ v1_ : Value, e = .returned (.tuple #[.agg #[v0_, v1_, .int .i64 r3], .bool r4]) ∧ Kd.R (Kd.int .i64) 3 w' w.heap.size (fun k_ => some k_ ≠ (v1_ : Value).ownBlock) v0_ r1 ∧ Kd.R (Kd.int .i64) 3 w' w.heap.size (fun k_ => some k_ ≠ (v0_ : Value).ownBlock) v1_ r2 ∧ Below w.heap.size w w' := by
 have hu54 := Try.underlying54
 have hu57 := Try.underlying57
 have HR0 := Aside0.mk hr0
 have HC0 := Aside0.mk hc0
 clear hr0 hc0
 have HB := Aside0.mk (Below.refl w.heap.size w)
 have H := h
 clear h
 unfold impl_constTile_at7.f at H
 obtain ⟨y508, hy508⟩ : ∃ y_ : List ByteArray, y_ = (([(⟨#[97, 100, 100]⟩ : ByteArray), (⟨#[115, 117, 98]⟩ : ByteArray), (⟨#[97, 110, 100]⟩ : ByteArray), (⟨#[120, 111, 114]⟩ : ByteArray)] : List ByteArray)) := ⟨_, rfl⟩
 replace H : (if 0 ≤ a1_2 then (if a1_2 < (l0.length : Int) then ((impl_power.f k ((rd_T54 l0 a1_2).f3)).bind fun t515 => ((some (([a1_1] : List Int) : List Int)).bind fun y516 => ((some (([a1_2] : List Int) : List Int)).bind fun y519 => ((slices_Contains_string_string.f k (([(⟨#[109, 117, 108]⟩ : ByteArray)] : List ByteArray)) a1_0).bind fun t522 => (if t522 = true then (if ((rd_T54 l0 a1_2).f0).toList = ([99, 111, 110, 115, 116] : List UInt8) then (some (y516, y519, 1, decide (t515 > 0))) else (some (y516, y519, 1, false))) else (some (y516, y519, 1, false))))))) else (none)) else (none)) = some (r1, r2, r3, r4) := by first | (rw [hy508]; with_reducible exact H) | (have H2_ := (Option.bind_some _ _).symm.trans H; rw [hy508]; with_reducible exact H2_) | (have H2_ := (Option.bind_some _ _).symm.trans H; with_reducible exact H2_) | with_reducible exact H | (rw [hy508]; exact H) | exact H
 have Ny508 := Aside0.mk hy508
 clear hy508
 obtain ⟨y511, hy511⟩ : ∃ y_ : List ByteArray, y_ = (([(⟨#[109, 117, 108]⟩ : ByteArray)] : List ByteArray)) := ⟨_, rfl⟩
 replace H : (if 0 ≤ a1_2 then (if a1_2 < (l0.length : Int) then ((impl_power.f k ((rd_T54 l0 a1_2).f3)).bind fun t515 => ((some (([a1_1] : List Int) : List Int)).bind fun y516 => ((some (([a1_2] : List Int) : List Int)).bind fun y519 => ((slices_Contains_string_string.f k y511 a1_0).bind fun t522 => (if t522 = true then (if ((rd_T54 l0 a1_2).f0).toList = ([99, 111, 110, 115, 116] : List UInt8) then (some (y516, y519, 1, decide (t515 > 0))) else (some (y516, y519, 1, false))) else (some (y516, y519, 1, false))))))) else (none)) else (none)) = some (r1, r2, r3, r4) := by first | (rw [hy511]; with_reducible exact H) | (have H2_ := (Option.bind_some _ _).symm.trans H; rw [hy511]; with_reducible exact H2_) | (have H2_ := (Option.bind_some _ _).symm.trans H; with_reducible exact H2_) | with_reducible exact H | (rw [hy511]; exact H) | exact H
 have Ny511 := Aside0.mk hy511
 clear hy511
 obtain ⟨c4, H⟩ := ifs H
 have c4b0 := decide_eq_true c4
 clear c4
 obtain ⟨c5, H⟩ := ifs H
 have c5b0 := decide_eq_true c5
 clear c5
 obtain ⟨t515, A6, H⟩ := ob H
 (try dsimp only at H)
 obtain ⟨y516, hy516, H⟩ := lets H
 (try dsimp only at H)
 have Ny516 := Aside0.mk hy516
 clear hy516
 obtain ⟨y519, hy519, H⟩ := lets H
 (try dsimp only at H)
 have Ny519 := Aside0.mk hy519
 clear hy519
 obtain ⟨t522, A7, H⟩ := ob H
 (try dsimp only at H)
 by_cases c8 : t522 = true
 ·subst c8
  rw [if_pos rfl] at H
  by_cases c9 : ((rd_T54 l0 a1_2).f0).toList = ([99, 111, 110, 115, 116] : List UInt8)
  ·rw [if_pos c9] at H
   have c9b0 := beq_iff_eq.mpr c9
   have c9b1 := bne_eq_false_iff_eq.mpr c9
   clear c9
   simp only [Option.some.injEq, Prod.mk.injEq] at H
   obtain ⟨rfl, rfl, rfl, rfl⟩ := H
   go_enter Try.func102, Try.ntmps102
   try go_wp2_with (first | ((with_reducible refine gd 4 rfl ?_); refine bx 4 #[.string a1_0, .int .i64 a1_1, .int .i64 a1_2, .int .i64 a1_3] 54 ?_; intro gb506 hg w10 BK506 GW506 HB hb; have GE506 := GW506; clear hb hg) | ((with_reducible refine gd 6 rfl ?_); refine bx 6 #[.slice none 0 0, .slice none 0 0, .int .i64 0] 57 ?_; intro gb507 hg w11 BK507 GW507 HB hb; have GE507 := GW507; have NB506_507 := nbl hg (bk BK506.out); have NB507_506 := nbr hg (bk BK506.out); replace BK506 := kb BK506 hb; clear hb hg))
   replace BK506 := Aside0.mk (blk_drew BK506.out); replace BK507 := Aside0.mk (blk_drew BK507.out); replace HB := Aside0.mk (below_drew1 HB.out)
   refine start_ (n := 8) (S := C4 gb506 (.string a1_0) (.int .i64 a1_1) (.int .i64 a1_2) (.int .i64 a1_3)) (ds := []) (mk 8 0) (by kernel_rfl) rfl (by kernel_rfl) (bc4 BK506.out) (fun hHeld => ?_); refine with_tabW impl_constTile_at7.tab1 impl_constTile_at7.bits1 (fun HT_ HW_ => ?_)
   generalize w11.drew = w12 at BK506 BK507 HB hHeld ⊢
   refine pu 0 13 8 1 rfl rfl ?_
   refine pu 2 15 8 5 rfl rfl ?_
   refine ta 1 14 8 7 rfl rfl ?_
   refine pu 5 8 8 39 rfl rfl ?_
   refine ta 3 16 8 47 rfl rfl ?_
   refine pu 6 9 8 111 rfl rfl ?_
   refine one_ (i := 4) (N := some 17) (mk 8 127) rfl rfl (one_of HT_.out (by kernel_rfl)) (by decide) (fun K hK => ?_)
   refine lss 17 9 Ny508.out ?_
   intro v509 w13 ho14 hb
   have HO510 := Aside0.mk (Kd.R_lower ho14 (below_size BA)); replace BK506 := kb BK506 hb; replace BK507 := kb BK507 hb; replace HB := bs hb
   clear hb ho14
   refine hK.out _ _ (bc4 BK506.out) (fun hHeld => ?_)
   clear hK K
   refine nm 17 ?_
   refine pu 7 10 8 255 rfl rfl ?_
   refine done_ (done_of HT_.out (by kernel_rfl)) ?_
   try go_wp2_with (first | ((with_reducible refine gate_dst (N := 31) rfl ?_); refine ls 31 9 Ny511.out ?_; intro v512 w15 ho16 hb; have HO513 := Aside0.mk (Kd.R_lower (Kd.R_new' ho16 (Kd.R_lt (rb HO510.out))) (below_size BA)); replace HO510 := Aside0.mk (Kd.R_elder' (rb HO510.out) (Kd.R_base ho16) hb); replace BK506 := kb BK506 hb; replace BK507 := kb BK507 hb; replace HB := bs hb; clear hb ho16; have p514 : 0 ≤ (a1_2 : Int) := DT; have q514 : a1_2 < (l0.length : Int) := DT; obtain ⟨ad514, e514, hx514_0, hx514_1, hx514_2, hx514_3⟩ := at_T54 (Kd.C_below HR0.out HB.out) a1_2 p514 q514; cases e514; replace p514 := eq_true p514; replace q514 := eq_true q514) | (go_at_call 117; (with_reducible refine (impl_power.calls k ((rd_T54 l0 a1_2).f3) t515 _ A6.out).mono ?_); rintro e w' ⟨rfl, ⟨nd, rfl⟩⟩) | ((with_reducible refine gate_dst (N := 64) rfl ?_); refine li 64 3 Ny516.out ?_; intro v517 w17 ho18 hb; replace HO510 := Aside0.mk (Kd.R_below (rb HO510.out) hb); replace HO513 := Aside0.mk (Kd.R_below (rb HO513.out) hb); have HO518 := Aside0.mk (Kd.R_lower ho18 (below_size BA)); replace BK506 := kb BK506 hb; replace BK507 := kb BK507 hb; replace HB := bs hb; clear hb ho18) | ((with_reducible refine gate_dst (N := 66) rfl ?_); refine li 66 3 Ny519.out ?_; intro v520 w19 ho20 hb; replace HO510 := Aside0.mk (Kd.R_below (rb HO510.out) hb); replace HO513 := Aside0.mk (Kd.R_below (rb HO513.out) hb); have HO521 := Aside0.mk (Kd.R_lower (Kd.R_new' ho20 (Kd.R_lt (rb HO518.out))) (below_size BA)); replace HO518 := Aside0.mk (Kd.R_elder' (rb HO518.out) (Kd.R_base ho20) hb); replace BK506 := kb BK506 hb; replace BK507 := kb BK507 hb; replace HB := bs hb; clear hb ho20; obtain ⟨Ao21, co21, eo21⟩ := Kd.R_slice HO521.out; subst eo21; obtain ⟨Ao22, co22, eo22⟩ := Kd.R_slice HO518.out; subst eo22; have hnb23 := NB506_507.out; have hnc23 := NB507_506.out; obtain ⟨hcz24_0, hcz24_1, hcz24_2, hcz24_3⟩ := bc4 BK506.out; have hfz24 := blk_frozen BK506.out; obtain ⟨Ao25, co25, eo25⟩ := Kd.R_slice HO513.out; subst eo25) | ((with_reducible refine gate_callee (f := 115) rfl ?_); refine gK (some 71) Try.func115 #[.slice Ao25 y511.length co25, .string a1_0] rfl rfl rfl ?_; (with_reducible refine (slices_Contains_string_string.calls k _ _ y511 a1_0 true _ ?side1 ?side2 A7.out).mono ?_); (case side1 => exact cb (Kd.R_reads' HO513.out).2.2); (case side2 => exact (Kd.R_reads' HO513.out).2.1); rintro e w' ⟨rfl, ⟨nd, rfl⟩⟩; refine ⟨_, rfl, ?_⟩; have p523 : 0 ≤ (a1_2 : Int) := DT; have q523 : a1_2 < (l0.length : Int) := DT; obtain ⟨ad523, e523, hx523_0, hx523_1, hx523_2, hx523_3⟩ := at_T54 (Kd.C_below HR0.out HB.out) a1_2 p523 q523; obtain rfl : ad514 = ad523 := (by injection e523); replace p523 := eq_true p523; replace q523 := eq_true q523; obtain ⟨hcz26_0, hcz26_1, hcz26_2⟩ := bc3 BK507.out; have hfz26 := blk_frozen BK507.out))
   refine bodyPost_ret (results_ct rfl _ _ gb507 57 #[.slice Ao22 y516.length co22, .slice Ao21 y519.length co21, .int .i64 1] (0, 0) _ rfl (bq BK507.out) Try.underlying57 rfl (by kernel_rfl)) rfl ?_
   try simp only [dsc]
   exact ⟨_, _, EQ, rb (Kd.R_mono (Kd.R_far (p := ⟨gb507, 2, none⟩) (Kd.R_far (p := ⟨gb507, 1, none⟩) (Kd.R_far (p := ⟨gb507, 0, none⟩) (Kd.R_types HO518.out BK507.out (by decide)) (fun _ hk => hk.2) (.slice Ao22 y516.length co22)) (fun _ hk => hk.2) (.slice Ao21 y519.length co21)) (fun _ hk => hk.2) (.int .i64 1)) (fun _ hk => by first | exact hk.1.2 | exact hk.1 | exact hk.2)), rb (Kd.R_mono (Kd.R_far (p := ⟨gb507, 2, none⟩) (Kd.R_far (p := ⟨gb507, 1, none⟩) (Kd.R_far (p := ⟨gb507, 0, none⟩) (Kd.R_types HO521.out BK507.out (by decide)) (fun _ hk => hk.2) (.slice Ao22 y516.length co22)) (fun _ hk => hk.2) (.slice Ao21 y519.length co21)) (fun _ hk => hk.2) (.int .i64 1)) (fun _ hk => by first | exact hk.1.2 | exact hk.1 | exact hk.2)), BA⟩
  ·rw [if_neg c9] at H
   have c9b0 := beq_eq_false_iff_ne.mpr c9
   have c9b1 := bne_iff_ne.mpr c9
   simp only [Option.some.injEq, Prod.mk.injEq] at H
   obtain ⟨rfl, rfl, rfl, rfl⟩ := H
   go_enter Try.func102, Try.ntmps102
   try go_wp2_with (first | ((with_reducible refine gd 4 rfl ?_); refine bx 4 #[.string a1_0, .int .i64 a1_1, .int .i64 a1_2, .int .i64 a1_3] 54 ?_; intro gb506 hg w27 BK506 GW506 HB hb; have GE506 := GW506; clear hb hg) | ((with_reducible refine gd 6 rfl ?_); refine bx 6 #[.slice none 0 0, .slice none 0 0, .int .i64 0] 57 ?_; intro gb507 hg w28 BK507 GW507 HB hb; have GE507 := GW507; have NB506_507 := nbl hg (bk BK506.out); have NB507_506 := nbr hg (bk BK506.out); replace BK506 := kb BK506 hb; clear hb hg))
   replace BK506 := Aside0.mk (blk_drew BK506.out); replace BK507 := Aside0.mk (blk_drew BK507.out); replace HB := Aside0.mk (below_drew1 HB.out)
   refine start_ (n := 8) (S := C4 gb506 (.string a1_0) (.int .i64 a1_1) (.int .i64 a1_2) (.int .i64 a1_3)) (ds := []) (mk 8 0) (by kernel_rfl) rfl (by kernel_rfl) (bc4 BK506.out) (fun hHeld => ?_); refine with_tabW impl_constTile_at7.tab1 impl_constTile_at7.bits1 (fun HT_ HW_ => ?_)
   generalize w28.drew = w29 at BK506 BK507 HB hHeld ⊢
   refine pu 0 13 8 1 rfl rfl ?_
   refine pu 2 15 8 5 rfl rfl ?_
   refine ta 1 14 8 7 rfl rfl ?_
   refine pu 5 8 8 39 rfl rfl ?_
   refine ta 3 16 8 47 rfl rfl ?_
   refine pu 6 9 8 111 rfl rfl ?_
   refine one_ (i := 4) (N := some 17) (mk 8 127) rfl rfl (one_of HT_.out (by kernel_rfl)) (by decide) (fun K hK => ?_)
   refine lss 17 9 Ny508.out ?_
   intro v509 w30 ho31 hb
   have HO510 := Aside0.mk (Kd.R_lower ho31 (below_size BA)); replace BK506 := kb BK506 hb; replace BK507 := kb BK507 hb; replace HB := bs hb
   clear hb ho31
   refine hK.out _ _ (bc4 BK506.out) (fun hHeld => ?_)
   clear hK K
   refine nm 17 ?_
   refine pu 7 10 8 255 rfl rfl ?_
   refine done_ (done_of HT_.out (by kernel_rfl)) ?_
   try go_wp2_with (first | ((with_reducible refine gate_dst (N := 31) rfl ?_); refine ls 31 9 Ny511.out ?_; intro v512 w32 ho33 hb; have HO513 := Aside0.mk (Kd.R_lower (Kd.R_new' ho33 (Kd.R_lt (rb HO510.out))) (below_size BA)); replace HO510 := Aside0.mk (Kd.R_elder' (rb HO510.out) (Kd.R_base ho33) hb); replace BK506 := kb BK506 hb; replace BK507 := kb BK507 hb; replace HB := bs hb; clear hb ho33; have p514 : 0 ≤ (a1_2 : Int) := DT; have q514 : a1_2 < (l0.length : Int) := DT; obtain ⟨ad514, e514, hx514_0, hx514_1, hx514_2, hx514_3⟩ := at_T54 (Kd.C_below HR0.out HB.out) a1_2 p514 q514; cases e514; replace p514 := eq_true p514; replace q514 := eq_true q514) | (go_at_call 117; (with_reducible refine (impl_power.calls k ((rd_T54 l0 a1_2).f3) t515 _ A6.out).mono ?_); rintro e w' ⟨rfl, ⟨nd, rfl⟩⟩) | ((with_reducible refine gate_dst (N := 64) rfl ?_); refine li 64 3 Ny516.out ?_; intro v517 w34 ho35 hb; replace HO510 := Aside0.mk (Kd.R_below (rb HO510.out) hb); replace HO513 := Aside0.mk (Kd.R_below (rb HO513.out) hb); have HO518 := Aside0.mk (Kd.R_lower ho35 (below_size BA)); replace BK506 := kb BK506 hb; replace BK507 := kb BK507 hb; replace HB := bs hb; clear hb ho35) | ((with_reducible refine gate_dst (N := 66) rfl ?_); refine li 66 3 Ny519.out ?_; intro v520 w36 ho37 hb; replace HO510 := Aside0.mk (Kd.R_below (rb HO510.out) hb); replace HO513 := Aside0.mk (Kd.R_below (rb HO513.out) hb); have HO521 := Aside0.mk (Kd.R_lower (Kd.R_new' ho37 (Kd.R_lt (rb HO518.out))) (below_size BA)); replace HO518 := Aside0.mk (Kd.R_elder' (rb HO518.out) (Kd.R_base ho37) hb); replace BK506 := kb BK506 hb; replace BK507 := kb BK507 hb; replace HB := bs hb; clear hb ho37; obtain ⟨Ao38, co38, eo38⟩ := Kd.R_slice HO521.out; subst eo38; obtain ⟨Ao39, co39, eo39⟩ := Kd.R_slice HO518.out; subst eo39; have hnb40 := NB506_507.out; have hnc40 := NB507_506.out; obtain ⟨hcz41_0, hcz41_1, hcz41_2, hcz41_3⟩ := bc4 BK506.out; have hfz41 := blk_frozen BK506.out; obtain ⟨Ao42, co42, eo42⟩ := Kd.R_slice HO513.out; subst eo42) | ((with_reducible refine gate_callee (f := 115) rfl ?_); refine gK (some 71) Try.func115 #[.slice Ao42 y511.length co42, .string a1_0] rfl rfl rfl ?_; (with_reducible refine (slices_Contains_string_string.calls k _ _ y511 a1_0 true _ ?side1 ?side2 A7.out).mono ?_); (case side1 => exact cb (Kd.R_reads' HO513.out).2.2); (case side2 => exact (Kd.R_reads' HO513.out).2.1); rintro e w' ⟨rfl, ⟨nd, rfl⟩⟩; refine ⟨_, rfl, ?_⟩; have p523 : 0 ≤ (a1_2 : Int) := DT; have q523 : a1_2 < (l0.length : Int) := DT; obtain ⟨ad523, e523, hx523_0, hx523_1, hx523_2, hx523_3⟩ := at_T54 (Kd.C_below HR0.out HB.out) a1_2 p523 q523; obtain rfl : ad514 = ad523 := (by injection e523); replace p523 := eq_true p523; replace q523 := eq_true q523; obtain ⟨hcz43_0, hcz43_1, hcz43_2⟩ := bc3 BK507.out; have hfz43 := blk_frozen BK507.out))
   refine bodyPost_ret (results_ct rfl _ _ gb507 57 #[.slice Ao39 y516.length co39, .slice Ao38 y519.length co38, .int .i64 1] (0, 0) _ rfl (bq BK507.out) Try.underlying57 rfl (by kernel_rfl)) rfl ?_
   try simp only [dsc]
   exact ⟨_, _, EQ, rb (Kd.R_mono (Kd.R_far (p := ⟨gb507, 2, none⟩) (Kd.R_far (p := ⟨gb507, 1, none⟩) (Kd.R_far (p := ⟨gb507, 0, none⟩) (Kd.R_types HO518.out BK507.out (by decide)) (fun _ hk => hk.2) (.slice Ao39 y516.length co39)) (fun _ hk => hk.2) (.slice Ao38 y519.length co38)) (fun _ hk => hk.2) (.int .i64 1)) (fun _ hk => by first | exact hk.1.2 | exact hk.1 | exact hk.2)), rb (Kd.R_mono (Kd.R_far (p := ⟨gb507, 2, none⟩) (Kd.R_far (p := ⟨gb507, 1, none⟩) (Kd.R_far (p := ⟨gb507, 0, none⟩) (Kd.R_types HO521.out BK507.out (by decide)) (fun _ hk => hk.2) (.slice Ao39 y516.length co39)) (fun _ hk => hk.2) (.slice Ao38 y519.length co38)) (fun _ hk => hk.2) (.int .i64 1)) (fun _ hk => by first | exact hk.1.2 | exact hk.1 | exact hk.2)), BA⟩
 ·replace c8 := Bool.eq_false_iff.mpr c8
  subst c8
  rw [if_neg (show ¬ (false = true) by decide)] at H
  simp only [Option.some.injEq, Prod.mk.injEq] at H
  obtain ⟨rfl, rfl, rfl, rfl⟩ := H
  go_enter Try.func102, Try.ntmps102
  try go_wp2_with (first | ((with_reducible refine gd 4 rfl ?_); refine bx 4 #[.string a1_0, .int .i64 a1_1, .int .i64 a1_2, .int .i64 a1_3] 54 ?_; intro gb506 hg w44 BK506 GW506 HB hb; have GE506 := GW506; clear hb hg) | ((with_reducible refine gd 6 rfl ?_); refine bx 6 #[.slice none 0 0, .slice none 0 0, .int .i64 0] 57 ?_; intro gb507 hg w45 BK507 GW507 HB hb; have GE507 := GW507; have NB506_507 := nbl hg (bk BK506.out); have NB507_506 := nbr hg (bk BK506.out); replace BK506 := kb BK506 hb; clear hb hg))
  replace BK506 := Aside0.mk (blk_drew BK506.out); replace BK507 := Aside0.mk (blk_drew BK507.out); replace HB := Aside0.mk (below_drew1 HB.out)
  refine start_ (n := 8) (S := C4 gb506 (.string a1_0) (.int .i64 a1_1) (.int .i64 a1_2) (.int .i64 a1_3)) (ds := []) (mk 8 0) (by kernel_rfl) rfl (by kernel_rfl) (bc4 BK506.out) (fun hHeld => ?_); refine with_tabW impl_constTile_at7.tab1 impl_constTile_at7.bits1 (fun HT_ HW_ => ?_)
  generalize w45.drew = w46 at BK506 BK507 HB hHeld ⊢
  refine pu 0 13 8 1 rfl rfl ?_
  refine pu 2 15 8 5 rfl rfl ?_
  refine ta 1 14 8 7 rfl rfl ?_
  refine pu 5 8 8 39 rfl rfl ?_
  refine ta 3 16 8 47 rfl rfl ?_
  refine pu 6 9 8 111 rfl rfl ?_
  refine one_ (i := 4) (N := some 17) (mk 8 127) rfl rfl (one_of HT_.out (by kernel_rfl)) (by decide) (fun K hK => ?_)
  refine lss 17 9 Ny508.out ?_
  intro v509 w47 ho48 hb
  have HO510 := Aside0.mk (Kd.R_lower ho48 (below_size BA)); replace BK506 := kb BK506 hb; replace BK507 := kb BK507 hb; replace HB := bs hb
  clear hb ho48
  refine hK.out _ _ (bc4 BK506.out) (fun hHeld => ?_)
  clear hK K
  refine nm 17 ?_
  refine pu 7 10 8 255 rfl rfl ?_
  refine done_ (done_of HT_.out (by kernel_rfl)) ?_
  try go_wp2_with (first | ((with_reducible refine gate_dst (N := 31) rfl ?_); refine ls 31 9 Ny511.out ?_; intro v512 w49 ho50 hb; have HO513 := Aside0.mk (Kd.R_lower (Kd.R_new' ho50 (Kd.R_lt (rb HO510.out))) (below_size BA)); replace HO510 := Aside0.mk (Kd.R_elder' (rb HO510.out) (Kd.R_base ho50) hb); replace BK506 := kb BK506 hb; replace BK507 := kb BK507 hb; replace HB := bs hb; clear hb ho50; have p514 : 0 ≤ (a1_2 : Int) := DT; have q514 : a1_2 < (l0.length : Int) := DT; obtain ⟨ad514, e514, hx514_0, hx514_1, hx514_2, hx514_3⟩ := at_T54 (Kd.C_below HR0.out HB.out) a1_2 p514 q514; cases e514; replace p514 := eq_true p514; replace q514 := eq_true q514) | (go_at_call 117; (with_reducible refine (impl_power.calls k ((rd_T54 l0 a1_2).f3) t515 _ A6.out).mono ?_); rintro e w' ⟨rfl, ⟨nd, rfl⟩⟩) | ((with_reducible refine gate_dst (N := 64) rfl ?_); refine li 64 3 Ny516.out ?_; intro v517 w51 ho52 hb; replace HO510 := Aside0.mk (Kd.R_below (rb HO510.out) hb); replace HO513 := Aside0.mk (Kd.R_below (rb HO513.out) hb); have HO518 := Aside0.mk (Kd.R_lower ho52 (below_size BA)); replace BK506 := kb BK506 hb; replace BK507 := kb BK507 hb; replace HB := bs hb; clear hb ho52) | ((with_reducible refine gate_dst (N := 66) rfl ?_); refine li 66 3 Ny519.out ?_; intro v520 w53 ho54 hb; replace HO510 := Aside0.mk (Kd.R_below (rb HO510.out) hb); replace HO513 := Aside0.mk (Kd.R_below (rb HO513.out) hb); have HO521 := Aside0.mk (Kd.R_lower (Kd.R_new' ho54 (Kd.R_lt (rb HO518.out))) (below_size BA)); replace HO518 := Aside0.mk (Kd.R_elder' (rb HO518.out) (Kd.R_base ho54) hb); replace BK506 := kb BK506 hb; replace BK507 := kb BK507 hb; replace HB := bs hb; clear hb ho54; obtain ⟨Ao55, co55, eo55⟩ := Kd.R_slice HO521.out; subst eo55; obtain ⟨Ao56, co56, eo56⟩ := Kd.R_slice HO518.out; subst eo56; have hnb57 := NB506_507.out; have hnc57 := NB507_506.out; obtain ⟨hcz58_0, hcz58_1, hcz58_2, hcz58_3⟩ := bc4 BK506.out; have hfz58 := blk_frozen BK506.out; obtain ⟨Ao59, co59, eo59⟩ := Kd.R_slice HO513.out; subst eo59) | ((with_reducible refine gate_callee (f := 115) rfl ?_); refine gK (some 71) Try.func115 #[.slice Ao59 y511.length co59, .string a1_0] rfl rfl rfl ?_; (with_reducible refine (slices_Contains_string_string.calls k _ _ y511 a1_0 false _ ?side1 ?side2 A7.out).mono ?_); (case side1 => exact cb (Kd.R_reads' HO513.out).2.2); (case side2 => exact (Kd.R_reads' HO513.out).2.1); rintro e w' ⟨rfl, ⟨nd, rfl⟩⟩; refine ⟨_, rfl, ?_⟩; obtain ⟨hcz60_0, hcz60_1, hcz60_2⟩ := bc3 BK507.out; have hfz60 := blk_frozen BK507.out))
  refine bodyPost_ret (results_ct rfl _ _ gb507 57 #[.slice Ao56 y516.length co56, .slice Ao55 y519.length co55, .int .i64 1] (0, 0) _ rfl (bq BK507.out) Try.underlying57 rfl (by kernel_rfl)) rfl ?_
  try simp only [dsc]
  exact ⟨_, _, EQ, rb (Kd.R_mono (Kd.R_far (p := ⟨gb507, 2, none⟩) (Kd.R_far (p := ⟨gb507, 1, none⟩) (Kd.R_far (p := ⟨gb507, 0, none⟩) (Kd.R_types HO518.out BK507.out (by decide)) (fun _ hk => hk.2) (.slice Ao56 y516.length co56)) (fun _ hk => hk.2) (.slice Ao55 y519.length co55)) (fun _ hk => hk.2) (.int .i64 1)) (fun _ hk => by first | exact hk.1.2 | exact hk.1 | exact hk.2)), rb (Kd.R_mono (Kd.R_far (p := ⟨gb507, 2, none⟩) (Kd.R_far (p := ⟨gb507, 1, none⟩) (Kd.R_far (p := ⟨gb507, 0, none⟩) (Kd.R_types HO521.out BK507.out (by decide)) (fun _ hk => hk.2) (.slice Ao56 y516.length co56)) (fun _ hk => hk.2) (.slice Ao55 y519.length co55)) (fun _ hk => hk.2) (.int .i64 1)) (fun _ hk => by first | exact hk.1.2 | exact hk.1 | exact hk.2)), BA⟩

/-! ### impl_constTile_at8: function 102 -/
def impl_constTile_at8.f (k : Nat) (l0 : List (S54)) (a1_0 : ByteArray) (a1_1 : Int) (a1_2 : Int) (a1_3 : Int)  : Option (List Int × List Int × Int × Bool) := if 0 ≤ a1_1 then (if a1_1 < (l0.length : Int) then ((impl_power.f k ((rd_T54 l0 a1_1).f3)).bind fun t533 => ((some (([a1_2] : List Int) : List Int)).bind fun y534 => ((some (([a1_1] : List Int) : List Int)).bind fun y537 => ((slices_Contains_string_string.f k (([(⟨#[109, 117, 108]⟩ : ByteArray)] : List ByteArray)) a1_0).bind fun t540 => (if t540 = true then (if ((rd_T54 l0 a1_1).f0).toList = ([99, 111, 110, 115, 116] : List UInt8) then (some (y534, y537, 1, decide (t533 > 0))) else (some (y534, y537, 1, false))) else (some (y534, y537, 1, false))))))) else (none)) else (none)
def impl_constTile_at8.T1 : Bool × List (List Nat × List Nat) := (true, [([], []), ([0], [0]), ([], []), ([2], [2]), ([], []), ([1, 0, 1], [1]), ([3, 5, 0, 1, 2, 3, 5], [3]), ([4, 6, 0, 1, 2, 3, 4, 5, 6], [4])])
def impl_constTile_at8.B1 : List Nat := [0, 1, 0, 4, 0, 3, 47, 127]
theorem impl_constTile_at8.tab1 : rtab .any (opsOf Try.f102 1) = impl_constTile_at8.T1 := by kernel_rfl
theorem impl_constTile_at8.bits1 : waitsOk impl_constTile_at8.T1.2 impl_constTile_at8.B1 = true := by kernel_rfl
def impl_constTile_at8.T10 : Bool × List (List Nat × List Nat) := (true, [([], []), ([0], [0]), ([], []), ([2], [2]), ([], []), ([1, 0, 1], [1]), ([3, 5, 0, 1, 2, 3, 5], [3]), ([4, 6, 0, 1, 2, 3, 4, 5, 6], [4])])
def impl_constTile_at8.B10 : List Nat := [0, 1, 0, 4, 0, 3, 47, 127]
theorem impl_constTile_at8.tab10 : rtab .any (opsOf Try.f102 10) = impl_constTile_at8.T10 := by kernel_rfl
theorem impl_constTile_at8.bits10 : waitsOk impl_constTile_at8.T10.2 impl_constTile_at8.B10 = true := by kernel_rfl
theorem impl_constTile_at8.calls (k : Nat) (A0 : Option Addr) (c0 : Nat) (l0 : List (S54)) (a1_0 : ByteArray) (a1_1 : Int) (a1_2 : Int) (a1_3 : Int)  (r1 : List Int) (r2 : List Int) (r3 : Int) (r4 : Bool) (w : World) (hr0 : Kd.C k54 w A0 l0.length l0) (hc0 : l0.length ≤ c0) (h : impl_constTile_at8.f k l0 a1_0 a1_1 a1_2 a1_3 = some (r1, r2, r3, r4)) :
  Calls Try.prog 102 #[.slice A0 l0.length c0, .agg #[.string a1_0, .int .i64 a1_1, .int .i64 a1_2, .int .i64 a1_3], .int .i64 8] w fun e w' => ∃ v0_ v1_ : Value, e = .returned (.tuple #[.agg #[v0_, v1_, .int .i64 r3], .bool r4]) ∧ Kd.R (Kd.int .i64) 3 w' w.heap.size (fun k_ => some k_ ≠ (v1_ : Value).ownBlock) v0_ r1 ∧ Kd.R (Kd.int .i64) 3 w' w.heap.size (fun k_ => some k_ ≠ (v0_ : Value).ownBlock) v1_ r2 ∧ Below w.heap.size w w' := by
 have hu54 := Try.underlying54
 have hu57 := Try.underlying57
 have HR0 := Aside0.mk hr0
 have HC0 := Aside0.mk hc0
 clear hr0 hc0
 have HB := Aside0.mk (Below.refl w.heap.size w)
 have H := h
 clear h
 unfold impl_constTile_at8.f at H
 obtain ⟨y526, hy526⟩ : ∃ y_ : List ByteArray, y_ = (([(⟨#[97, 100, 100]⟩ : ByteArray), (⟨#[115, 117, 98]⟩ : ByteArray), (⟨#[97, 110, 100]⟩ : ByteArray), (⟨#[120, 111, 114]⟩ : ByteArray)] : List ByteArray)) := ⟨_, rfl⟩
 replace H : (if 0 ≤ a1_1 then (if a1_1 < (l0.length : Int) then ((impl_power.f k ((rd_T54 l0 a1_1).f3)).bind fun t533 => ((some (([a1_2] : List Int) : List Int)).bind fun y534 => ((some (([a1_1] : List Int) : List Int)).bind fun y537 => ((slices_Contains_string_string.f k (([(⟨#[109, 117, 108]⟩ : ByteArray)] : List ByteArray)) a1_0).bind fun t540 => (if t540 = true then (if ((rd_T54 l0 a1_1).f0).toList = ([99, 111, 110, 115, 116] : List UInt8) then (some (y534, y537, 1, decide (t533 > 0))) else (some (y534, y537, 1, false))) else (some (y534, y537, 1, false))))))) else (none)) else (none)) = some (r1, r2, r3, r4) := by first | (rw [hy526]; with_reducible exact H) | (have H2_ := (Option.bind_some _ _).symm.trans H; rw [hy526]; with_reducible exact H2_) | (have H2_ := (Option.bind_some _ _).symm.trans H; with_reducible exact H2_) | with_reducible exact H | (rw [hy526]; exact H) | exact H
 have Ny526 := Aside0.mk hy526
 clear hy526
 obtain ⟨y529, hy529⟩ : ∃ y_ : List ByteArray, y_ = (([(⟨#[109, 117, 108]⟩ : ByteArray)] : List ByteArray)) := ⟨_, rfl⟩
 replace H : (if 0 ≤ a1_1 then (if a1_1 < (l0.length : Int) then ((impl_power.f k ((rd_T54 l0 a1_1).f3)).bind fun t533 => ((some (([a1_2] : List Int) : List Int)).bind fun y534 => ((some (([a1_1] : List Int) : List Int)).bind fun y537 => ((slices_Contains_string_string.f k y529 a1_0).bind fun t540 => (if t540 = true then (if ((rd_T54 l0 a1_1).f0).toList = ([99, 111, 110, 115, 116] : List UInt8) then (some (y534, y537, 1, decide (t533 > 0))) else (some (y534, y537, 1, false))) else (some (y534, y537, 1, false))))))) else (none)) else (none)) = some (r1, r2, r3, r4) := by first | (rw [hy529]; with_reducible exact H) | (have H2_ := (Option.bind_some _ _).symm.trans H; rw [hy529]; with_reducible exact H2_) | (have H2_ := (Option.bind_some _ _).symm.trans H; with_reducible exact H2_) | with_reducible exact H | (rw [hy529]; exact H) | exact H
 have Ny529 := Aside0.mk hy529
 clear hy529
 obtain ⟨c4, H⟩ := ifs H
 have c4b0 := decide_eq_true c4
 clear c4
 obtain ⟨c5, H⟩ := ifs H
 have c5b0 := decide_eq_true c5
 clear c5
 obtain ⟨t533, A6, H⟩ := ob H
 (try dsimp only at H)
 obtain ⟨y534, hy534, H⟩ := lets H
 (try dsimp only at H)
 have Ny534 := Aside0.mk hy534
 clear hy534
 obtain ⟨y537, hy537, H⟩ := lets H
 (try dsimp only at H)
 have Ny537 := Aside0.mk hy537
 clear hy537
 obtain ⟨t540, A7, H⟩ := ob H
 (try dsimp only at H)
 by_cases c8 : t540 = true
 ·subst c8
  rw [if_pos rfl] at H
  by_cases c9 : ((rd_T54 l0 a1_1).f0).toList = ([99, 111, 110, 115, 116] : List UInt8)
  ·rw [if_pos c9] at H
   have c9b0 := beq_iff_eq.mpr c9
   have c9b1 := bne_eq_false_iff_eq.mpr c9
   clear c9
   simp only [Option.some.injEq, Prod.mk.injEq] at H
   obtain ⟨rfl, rfl, rfl, rfl⟩ := H
   go_enter Try.func102, Try.ntmps102
   try go_wp2_with (first | ((with_reducible refine gd 4 rfl ?_); refine bx 4 #[.string a1_0, .int .i64 a1_1, .int .i64 a1_2, .int .i64 a1_3] 54 ?_; intro gb524 hg w10 BK524 GW524 HB hb; have GE524 := GW524; clear hb hg) | ((with_reducible refine gd 6 rfl ?_); refine bx 6 #[.slice none 0 0, .slice none 0 0, .int .i64 0] 57 ?_; intro gb525 hg w11 BK525 GW525 HB hb; have GE525 := GW525; have NB524_525 := nbl hg (bk BK524.out); have NB525_524 := nbr hg (bk BK524.out); replace BK524 := kb BK524 hb; clear hb hg))
   replace BK524 := Aside0.mk (blk_drew BK524.out); replace BK525 := Aside0.mk (blk_drew BK525.out); replace HB := Aside0.mk (below_drew1 HB.out)
   refine start_ (n := 8) (S := C4 gb524 (.string a1_0) (.int .i64 a1_1) (.int .i64 a1_2) (.int .i64 a1_3)) (ds := []) (mk 8 0) (by kernel_rfl) rfl (by kernel_rfl) (bc4 BK524.out) (fun hHeld => ?_); refine with_tabW impl_constTile_at8.tab1 impl_constTile_at8.bits1 (fun HT_ HW_ => ?_)
   generalize w11.drew = w12 at BK524 BK525 HB hHeld ⊢
   refine pu 0 13 8 1 rfl rfl ?_
   refine pu 2 15 8 5 rfl rfl ?_
   refine ta 1 14 8 7 rfl rfl ?_
   refine pu 5 8 8 39 rfl rfl ?_
   refine ta 3 16 8 47 rfl rfl ?_
   refine pu 6 9 8 111 rfl rfl ?_
   refine one_ (i := 4) (N := some 17) (mk 8 127) rfl rfl (one_of HT_.out (by kernel_rfl)) (by decide) (fun K hK => ?_)
   refine lss 17 9 Ny526.out ?_
   intro v527 w13 ho14 hb
   have HO528 := Aside0.mk (Kd.R_lower ho14 (below_size BA)); replace BK524 := kb BK524 hb; replace BK525 := kb BK525 hb; replace HB := bs hb
   clear hb ho14
   refine hK.out _ _ (bc4 BK524.out) (fun hHeld => ?_)
   clear hK K
   refine nm 17 ?_
   refine pu 7 10 8 255 rfl rfl ?_
   refine done_ (done_of HT_.out (by kernel_rfl)) ?_
   try go_wp2
   replace HO528 := Aside0.mk (Kd.R_drew HO528.out); replace BK524 := Aside0.mk (blk_drew BK524.out); replace BK525 := Aside0.mk (blk_drew BK525.out); replace HB := Aside0.mk (below_drew1 HB.out)
   refine start_ (n := 8) (S := C4 gb524 (.string a1_0) (.int .i64 a1_1) (.int .i64 a1_2) (.int .i64 a1_3)) (ds := []) (mk 8 0) (by kernel_rfl) rfl (by kernel_rfl) (bc4 BK524.out) (fun hHeld => ?_); refine with_tabW impl_constTile_at8.tab10 impl_constTile_at8.bits10 (fun HT_ HW_ => ?_)
   generalize w13.drew = w15 at HO528 BK524 BK525 HB hHeld ⊢
   refine pu 0 34 8 1 rfl rfl ?_
   refine pu 2 36 8 5 rfl rfl ?_
   refine ta 1 35 8 7 rfl rfl ?_
   refine pu 5 8 8 39 rfl rfl ?_
   refine ta 3 37 8 47 rfl rfl ?_
   refine pu 6 9 8 111 rfl rfl ?_
   refine one_ (i := 4) (N := some 38) (mk 8 127) rfl rfl (one_of HT_.out (by kernel_rfl)) (by decide) (fun K hK => ?_)
   refine lss 38 9 Ny529.out ?_
   intro v530 w16 ho17 hb
   have HO531 := Aside0.mk (Kd.R_lower (Kd.R_new' ho17 (Kd.R_lt (rb HO528.out))) (below_size BA)); replace HO528 := Aside0.mk (Kd.R_elder' (rb HO528.out) (Kd.R_base ho17) hb); replace BK524 := kb BK524 hb; replace BK525 := kb BK525 hb; replace HB := bs hb
   clear hb ho17
   refine hK.out _ _ (bc4 BK524.out) (fun hHeld => ?_)
   clear hK K
   refine nm 38 ?_
   refine pu 7 10 8 255 rfl rfl ?_
   refine done_ (done_of HT_.out (by kernel_rfl)) ?_
   have p532 : 0 ≤ (a1_1 : Int) := DT
   have q532 : a1_1 < (l0.length : Int) := DT
   obtain ⟨ad532, e532, hx532_0, hx532_1, hx532_2, hx532_3⟩ := at_T54 (Kd.C_below HR0.out HB.out) a1_1 p532 q532
   cases e532
   replace p532 := eq_true p532
   replace q532 := eq_true q532
   try go_wp2_with (first | (go_at_call 117; (with_reducible refine (impl_power.calls k ((rd_T54 l0 a1_1).f3) t533 _ A6.out).mono ?_); rintro e w' ⟨rfl, ⟨nd, rfl⟩⟩) | ((with_reducible refine gate_dst (N := 64) rfl ?_); refine li 64 3 Ny534.out ?_; intro v535 w18 ho19 hb; replace HO528 := Aside0.mk (Kd.R_below (rb HO528.out) hb); replace HO531 := Aside0.mk (Kd.R_below (rb HO531.out) hb); have HO536 := Aside0.mk (Kd.R_lower ho19 (below_size BA)); replace BK524 := kb BK524 hb; replace BK525 := kb BK525 hb; replace HB := bs hb; clear hb ho19) | ((with_reducible refine gate_dst (N := 66) rfl ?_); refine li 66 3 Ny537.out ?_; intro v538 w20 ho21 hb; replace HO528 := Aside0.mk (Kd.R_below (rb HO528.out) hb); replace HO531 := Aside0.mk (Kd.R_below (rb HO531.out) hb); have HO539 := Aside0.mk (Kd.R_lower (Kd.R_new' ho21 (Kd.R_lt (rb HO536.out))) (below_size BA)); replace HO536 := Aside0.mk (Kd.R_elder' (rb HO536.out) (Kd.R_base ho21) hb); replace BK524 := kb BK524 hb; replace BK525 := kb BK525 hb; replace HB := bs hb; clear hb ho21; obtain ⟨Ao22, co22, eo22⟩ := Kd.R_slice HO539.out; subst eo22; obtain ⟨Ao23, co23, eo23⟩ := Kd.R_slice HO536.out; subst eo23; have hnb24 := NB524_525.out; have hnc24 := NB525_524.out; obtain ⟨hcz25_0, hcz25_1, hcz25_2, hcz25_3⟩ := bc4 BK524.out; have hfz25 := blk_frozen BK524.out; obtain ⟨Ao26, co26, eo26⟩ := Kd.R_slice HO531.out; subst eo26) | ((with_reducible refine gate_callee (f := 115) rfl ?_); refine gK (some 71) Try.func115 #[.slice Ao26 y529.length co26, .string a1_0] rfl rfl rfl ?_; (with_reducible refine (slices_Contains_string_string.calls k _ _ y529 a1_0 true _ ?side1 ?side2 A7.out).mono ?_); (case side1 => exact cb (Kd.R_reads' HO531.out).2.2); (case side2 => exact (Kd.R_reads' HO531.out).2.1); rintro e w' ⟨rfl, ⟨nd, rfl⟩⟩; refine ⟨_, rfl, ?_⟩; have p541 : 0 ≤ (a1_1 : Int) := DT; have q541 : a1_1 < (l0.length : Int) := DT; obtain ⟨ad541, e541, hx541_0, hx541_1, hx541_2, hx541_3⟩ := at_T54 (Kd.C_below HR0.out HB.out) a1_1 p541 q541; obtain rfl : ad532 = ad541 := (by injection e541); replace p541 := eq_true p541; replace q541 := eq_true q541; obtain ⟨hcz27_0, hcz27_1, hcz27_2⟩ := bc3 BK525.out; have hfz27 := blk_frozen BK525.out))
   refine bodyPost_ret (results_ct rfl _ _ gb525 57 #[.slice Ao23 y534.length co23, .slice Ao22 y537.length co22, .int .i64 1] (0, 0) _ rfl (bq BK525.out) Try.underlying57 rfl (by kernel_rfl)) rfl ?_
   try simp only [dsc]
   exact ⟨_, _, EQ, rb (Kd.R_mono (Kd.R_far (p := ⟨gb525, 2, none⟩) (Kd.R_far (p := ⟨gb525, 1, none⟩) (Kd.R_far (p := ⟨gb525, 0, none⟩) (Kd.R_types HO536.out BK525.out (by decide)) (fun _ hk => hk.2) (.slice Ao23 y534.length co23)) (fun _ hk => hk.2) (.slice Ao22 y537.length co22)) (fun _ hk => hk.2) (.int .i64 1)) (fun _ hk => by first | exact hk.1.2 | exact hk.1 | exact hk.2)), rb (Kd.R_mono (Kd.R_far (p := ⟨gb525, 2, none⟩) (Kd.R_far (p := ⟨gb525, 1, none⟩) (Kd.R_far (p := ⟨gb525, 0, none⟩) (Kd.R_types HO539.out BK525.out (by decide)) (fun _ hk => hk.2) (.slice Ao23 y534.length co23)) (fun _ hk => hk.2) (.slice Ao22 y537.length co22)) (fun _ hk => hk.2) (.int .i64 1)) (fun _ hk => by first | exact hk.1.2 | exact hk.1 | exact hk.2)), BA⟩
  ·rw [if_neg c9] at H
   have c9b0 := beq_eq_false_iff_ne.mpr c9
   have c9b1 := bne_iff_ne.mpr c9
   simp only [Option.some.injEq, Prod.mk.injEq] at H
   obtain ⟨rfl, rfl, rfl, rfl⟩ := H
   go_enter Try.func102, Try.ntmps102
   try go_wp2_with (first | ((with_reducible refine gd 4 rfl ?_); refine bx 4 #[.string a1_0, .int .i64 a1_1, .int .i64 a1_2, .int .i64 a1_3] 54 ?_; intro gb524 hg w28 BK524 GW524 HB hb; have GE524 := GW524; clear hb hg) | ((with_reducible refine gd 6 rfl ?_); refine bx 6 #[.slice none 0 0, .slice none 0 0, .int .i64 0] 57 ?_; intro gb525 hg w29 BK525 GW525 HB hb; have GE525 := GW525; have NB524_525 := nbl hg (bk BK524.out); have NB525_524 := nbr hg (bk BK524.out); replace BK524 := kb BK524 hb; clear hb hg))
   replace BK524 := Aside0.mk (blk_drew BK524.out); replace BK525 := Aside0.mk (blk_drew BK525.out); replace HB := Aside0.mk (below_drew1 HB.out)
   refine start_ (n := 8) (S := C4 gb524 (.string a1_0) (.int .i64 a1_1) (.int .i64 a1_2) (.int .i64 a1_3)) (ds := []) (mk 8 0) (by kernel_rfl) rfl (by kernel_rfl) (bc4 BK524.out) (fun hHeld => ?_); refine with_tabW impl_constTile_at8.tab1 impl_constTile_at8.bits1 (fun HT_ HW_ => ?_)
   generalize w29.drew = w30 at BK524 BK525 HB hHeld ⊢
   refine pu 0 13 8 1 rfl rfl ?_
   refine pu 2 15 8 5 rfl rfl ?_
   refine ta 1 14 8 7 rfl rfl ?_
   refine pu 5 8 8 39 rfl rfl ?_
   refine ta 3 16 8 47 rfl rfl ?_
   refine pu 6 9 8 111 rfl rfl ?_
   refine one_ (i := 4) (N := some 17) (mk 8 127) rfl rfl (one_of HT_.out (by kernel_rfl)) (by decide) (fun K hK => ?_)
   refine lss 17 9 Ny526.out ?_
   intro v527 w31 ho32 hb
   have HO528 := Aside0.mk (Kd.R_lower ho32 (below_size BA)); replace BK524 := kb BK524 hb; replace BK525 := kb BK525 hb; replace HB := bs hb
   clear hb ho32
   refine hK.out _ _ (bc4 BK524.out) (fun hHeld => ?_)
   clear hK K
   refine nm 17 ?_
   refine pu 7 10 8 255 rfl rfl ?_
   refine done_ (done_of HT_.out (by kernel_rfl)) ?_
   try go_wp2
   replace HO528 := Aside0.mk (Kd.R_drew HO528.out); replace BK524 := Aside0.mk (blk_drew BK524.out); replace BK525 := Aside0.mk (blk_drew BK525.out); replace HB := Aside0.mk (below_drew1 HB.out)
   refine start_ (n := 8) (S := C4 gb524 (.string a1_0) (.int .i64 a1_1) (.int .i64 a1_2) (.int .i64 a1_3)) (ds := []) (mk 8 0) (by kernel_rfl) rfl (by kernel_rfl) (bc4 BK524.out) (fun hHeld => ?_); refine with_tabW impl_constTile_at8.tab10 impl_constTile_at8.bits10 (fun HT_ HW_ => ?_)
   generalize w31.drew = w33 at HO528 BK524 BK525 HB hHeld ⊢
   refine pu 0 34 8 1 rfl rfl ?_
   refine pu 2 36 8 5 rfl rfl ?_
   refine ta 1 35 8 7 rfl rfl ?_
   refine pu 5 8 8 39 rfl rfl ?_
   refine ta 3 37 8 47 rfl rfl ?_
   refine pu 6 9 8 111 rfl rfl ?_
   refine one_ (i := 4) (N := some 38) (mk 8 127) rfl rfl (one_of HT_.out (by kernel_rfl)) (by decide) (fun K hK => ?_)
   refine lss 38 9 Ny529.out ?_
   intro v530 w34 ho35 hb
   have HO531 := Aside0.mk (Kd.R_lower (Kd.R_new' ho35 (Kd.R_lt (rb HO528.out))) (below_size BA)); replace HO528 := Aside0.mk (Kd.R_elder' (rb HO528.out) (Kd.R_base ho35) hb); replace BK524 := kb BK524 hb; replace BK525 := kb BK525 hb; replace HB := bs hb
   clear hb ho35
   refine hK.out _ _ (bc4 BK524.out) (fun hHeld => ?_)
   clear hK K
   refine nm 38 ?_
   refine pu 7 10 8 255 rfl rfl ?_
   refine done_ (done_of HT_.out (by kernel_rfl)) ?_
   have p532 : 0 ≤ (a1_1 : Int) := DT
   have q532 : a1_1 < (l0.length : Int) := DT
   obtain ⟨ad532, e532, hx532_0, hx532_1, hx532_2, hx532_3⟩ := at_T54 (Kd.C_below HR0.out HB.out) a1_1 p532 q532
   cases e532
   replace p532 := eq_true p532
   replace q532 := eq_true q532
   try go_wp2_with (first | (go_at_call 117; (with_reducible refine (impl_power.calls k ((rd_T54 l0 a1_1).f3) t533 _ A6.out).mono ?_); rintro e w' ⟨rfl, ⟨nd, rfl⟩⟩) | ((with_reducible refine gate_dst (N := 64) rfl ?_); refine li 64 3 Ny534.out ?_; intro v535 w36 ho37 hb; replace HO528 := Aside0.mk (Kd.R_below (rb HO528.out) hb); replace HO531 := Aside0.mk (Kd.R_below (rb HO531.out) hb); have HO536 := Aside0.mk (Kd.R_lower ho37 (below_size BA)); replace BK524 := kb BK524 hb; replace BK525 := kb BK525 hb; replace HB := bs hb; clear hb ho37) | ((with_reducible refine gate_dst (N := 66) rfl ?_); refine li 66 3 Ny537.out ?_; intro v538 w38 ho39 hb; replace HO528 := Aside0.mk (Kd.R_below (rb HO528.out) hb); replace HO531 := Aside0.mk (Kd.R_below (rb HO531.out) hb); have HO539 := Aside0.mk (Kd.R_lower (Kd.R_new' ho39 (Kd.R_lt (rb HO536.out))) (below_size BA)); replace HO536 := Aside0.mk (Kd.R_elder' (rb HO536.out) (Kd.R_base ho39) hb); replace BK524 := kb BK524 hb; replace BK525 := kb BK525 hb; replace HB := bs hb; clear hb ho39; obtain ⟨Ao40, co40, eo40⟩ := Kd.R_slice HO539.out; subst eo40; obtain ⟨Ao41, co41, eo41⟩ := Kd.R_slice HO536.out; subst eo41; have hnb42 := NB524_525.out; have hnc42 := NB525_524.out; obtain ⟨hcz43_0, hcz43_1, hcz43_2, hcz43_3⟩ := bc4 BK524.out; have hfz43 := blk_frozen BK524.out; obtain ⟨Ao44, co44, eo44⟩ := Kd.R_slice HO531.out; subst eo44) | ((with_reducible refine gate_callee (f := 115) rfl ?_); refine gK (some 71) Try.func115 #[.slice Ao44 y529.length co44, .string a1_0] rfl rfl rfl ?_; (with_reducible refine (slices_Contains_string_string.calls k _ _ y529 a1_0 true _ ?side1 ?side2 A7.out).mono ?_); (case side1 => exact cb (Kd.R_reads' HO531.out).2.2); (case side2 => exact (Kd.R_reads' HO531.out).2.1); rintro e w' ⟨rfl, ⟨nd, rfl⟩⟩; refine ⟨_, rfl, ?_⟩; have p541 : 0 ≤ (a1_1 : Int) := DT; have q541 : a1_1 < (l0.length : Int) := DT; obtain ⟨ad541, e541, hx541_0, hx541_1, hx541_2, hx541_3⟩ := at_T54 (Kd.C_below HR0.out HB.out) a1_1 p541 q541; obtain rfl : ad532 = ad541 := (by injection e541); replace p541 := eq_true p541; replace q541 := eq_true q541; obtain ⟨hcz45_0, hcz45_1, hcz45_2⟩ := bc3 BK525.out; have hfz45 := blk_frozen BK525.out))
   refine bodyPost_ret (results_ct rfl _ _ gb525 57 #[.slice Ao41 y534.length co41, .slice Ao40 y537.length co40, .int .i64 1] (0, 0) _ rfl (bq BK525.out) Try.underlying57 rfl (by kernel_rfl)) rfl ?_
   try simp only [dsc]
   exact ⟨_, _, EQ, rb (Kd.R_mono (Kd.R_far (p := ⟨gb525, 2, none⟩) (Kd.R_far (p := ⟨gb525, 1, none⟩) (Kd.R_far (p := ⟨gb525, 0, none⟩) (Kd.R_types HO536.out BK525.out (by decide)) (fun _ hk => hk.2) (.slice Ao41 y534.length co41)) (fun _ hk => hk.2) (.slice Ao40 y537.length co40)) (fun _ hk => hk.2) (.int .i64 1)) (fun _ hk => by first | exact hk.1.2 | exact hk.1 | exact hk.2)), rb (Kd.R_mono (Kd.R_far (p := ⟨gb525, 2, none⟩) (Kd.R_far (p := ⟨gb525, 1, none⟩) (Kd.R_far (p := ⟨gb525, 0, none⟩) (Kd.R_types HO539.out BK525.out (by decide)) (fun _ hk => hk.2) (.slice Ao41 y534.length co41)) (fun _ hk => hk.2) (.slice Ao40 y537.length co40)) (fun _ hk => hk.2) (.int .i64 1)) (fun _ hk => by first | exact hk.1.2 | exact hk.1 | exact hk.2)), BA⟩
 ·replace c8 := Bool.eq_false_iff.mpr c8
  subst c8
  rw [if_neg (show ¬ (false = true) by decide)] at H
  simp only [Option.some.injEq, Prod.mk.injEq] at H
  obtain ⟨rfl, rfl, rfl, rfl⟩ := H
  go_enter Try.func102, Try.ntmps102
  try go_wp2_with (first | ((with_reducible refine gd 4 rfl ?_); refine bx 4 #[.string a1_0, .int .i64 a1_1, .int .i64 a1_2, .int .i64 a1_3] 54 ?_; intro gb524 hg w46 BK524 GW524 HB hb; have GE524 := GW524; clear hb hg) | ((with_reducible refine gd 6 rfl ?_); refine bx 6 #[.slice none 0 0, .slice none 0 0, .int .i64 0] 57 ?_; intro gb525 hg w47 BK525 GW525 HB hb; have GE525 := GW525; have NB524_525 := nbl hg (bk BK524.out); have NB525_524 := nbr hg (bk BK524.out); replace BK524 := kb BK524 hb; clear hb hg))
  replace BK524 := Aside0.mk (blk_drew BK524.out); replace BK525 := Aside0.mk (blk_drew BK525.out); replace HB := Aside0.mk (below_drew1 HB.out)
  refine start_ (n := 8) (S := C4 gb524 (.string a1_0) (.int .i64 a1_1) (.int .i64 a1_2) (.int .i64 a1_3)) (ds := []) (mk 8 0) (by kernel_rfl) rfl (by kernel_rfl) (bc4 BK524.out) (fun hHeld => ?_); refine with_tabW impl_constTile_at8.tab1 impl_constTile_at8.bits1 (fun HT_ HW_ => ?_)
  generalize w47.drew = w48 at BK524 BK525 HB hHeld ⊢
  refine pu 0 13 8 1 rfl rfl ?_
  refine pu 2 15 8 5 rfl rfl ?_
  refine ta 1 14 8 7 rfl rfl ?_
  refine pu 5 8 8 39 rfl rfl ?_
  refine ta 3 16 8 47 rfl rfl ?_
  refine pu 6 9 8 111 rfl rfl ?_
  refine one_ (i := 4) (N := some 17) (mk 8 127) rfl rfl (one_of HT_.out (by kernel_rfl)) (by decide) (fun K hK => ?_)
  refine lss 17 9 Ny526.out ?_
  intro v527 w49 ho50 hb
  have HO528 := Aside0.mk (Kd.R_lower ho50 (below_size BA)); replace BK524 := kb BK524 hb; replace BK525 := kb BK525 hb; replace HB := bs hb
  clear hb ho50
  refine hK.out _ _ (bc4 BK524.out) (fun hHeld => ?_)
  clear hK K
  refine nm 17 ?_
  refine pu 7 10 8 255 rfl rfl ?_
  refine done_ (done_of HT_.out (by kernel_rfl)) ?_
  try go_wp2
  replace HO528 := Aside0.mk (Kd.R_drew HO528.out); replace BK524 := Aside0.mk (blk_drew BK524.out); replace BK525 := Aside0.mk (blk_drew BK525.out); replace HB := Aside0.mk (below_drew1 HB.out)
  refine start_ (n := 8) (S := C4 gb524 (.string a1_0) (.int .i64 a1_1) (.int .i64 a1_2) (.int .i64 a1_3)) (ds := []) (mk 8 0) (by kernel_rfl) rfl (by kernel_rfl) (bc4 BK524.out) (fun hHeld => ?_); refine with_tabW impl_constTile_at8.tab10 impl_constTile_at8.bits10 (fun HT_ HW_ => ?_)
  generalize w49.drew = w51 at HO528 BK524 BK525 HB hHeld ⊢
  refine pu 0 34 8 1 rfl rfl ?_
  refine pu 2 36 8 5 rfl rfl ?_
  refine ta 1 35 8 7 rfl rfl ?_
  refine pu 5 8 8 39 rfl rfl ?_
  refine ta 3 37 8 47 rfl rfl ?_
  refine pu 6 9 8 111 rfl rfl ?_
  refine one_ (i := 4) (N := some 38) (mk 8 127) rfl rfl (one_of HT_.out (by kernel_rfl)) (by decide) (fun K hK => ?_)
  refine lss 38 9 Ny529.out ?_
  intro v530 w52 ho53 hb
  have HO531 := Aside0.mk (Kd.R_lower (Kd.R_new' ho53 (Kd.R_lt (rb HO528.out))) (below_size BA)); replace HO528 := Aside0.mk (Kd.R_elder' (rb HO528.out) (Kd.R_base ho53) hb); replace BK524 := kb BK524 hb; replace BK525 := kb BK525 hb; replace HB := bs hb
  clear hb ho53
  refine hK.out _ _ (bc4 BK524.out) (fun hHeld => ?_)
  clear hK K
  refine nm 38 ?_
  refine pu 7 10 8 255 rfl rfl ?_
  refine done_ (done_of HT_.out (by kernel_rfl)) ?_
  have p532 : 0 ≤ (a1_1 : Int) := DT
  have q532 : a1_1 < (l0.length : Int) := DT
  obtain ⟨ad532, e532, hx532_0, hx532_1, hx532_2, hx532_3⟩ := at_T54 (Kd.C_below HR0.out HB.out) a1_1 p532 q532
  cases e532
  replace p532 := eq_true p532
  replace q532 := eq_true q532
  try go_wp2_with (first | (go_at_call 117; (with_reducible refine (impl_power.calls k ((rd_T54 l0 a1_1).f3) t533 _ A6.out).mono ?_); rintro e w' ⟨rfl, ⟨nd, rfl⟩⟩) | ((with_reducible refine gate_dst (N := 64) rfl ?_); refine li 64 3 Ny534.out ?_; intro v535 w54 ho55 hb; replace HO528 := Aside0.mk (Kd.R_below (rb HO528.out) hb); replace HO531 := Aside0.mk (Kd.R_below (rb HO531.out) hb); have HO536 := Aside0.mk (Kd.R_lower ho55 (below_size BA)); replace BK524 := kb BK524 hb; replace BK525 := kb BK525 hb; replace HB := bs hb; clear hb ho55) | ((with_reducible refine gate_dst (N := 66) rfl ?_); refine li 66 3 Ny537.out ?_; intro v538 w56 ho57 hb; replace HO528 := Aside0.mk (Kd.R_below (rb HO528.out) hb); replace HO531 := Aside0.mk (Kd.R_below (rb HO531.out) hb); have HO539 := Aside0.mk (Kd.R_lower (Kd.R_new' ho57 (Kd.R_lt (rb HO536.out))) (below_size BA)); replace HO536 := Aside0.mk (Kd.R_elder' (rb HO536.out) (Kd.R_base ho57) hb); replace BK524 := kb BK524 hb; replace BK525 := kb BK525 hb; replace HB := bs hb; clear hb ho57; obtain ⟨Ao58, co58, eo58⟩ := Kd.R_slice HO539.out; subst eo58; obtain ⟨Ao59, co59, eo59⟩ := Kd.R_slice HO536.out; subst eo59; have hnb60 := NB524_525.out; have hnc60 := NB525_524.out; obtain ⟨hcz61_0, hcz61_1, hcz61_2, hcz61_3⟩ := bc4 BK524.out; have hfz61 := blk_frozen BK524.out; obtain ⟨Ao62, co62, eo62⟩ := Kd.R_slice HO531.out; subst eo62) | ((with_reducible refine gate_callee (f := 115) rfl ?_); refine gK (some 71) Try.func115 #[.slice Ao62 y529.length co62, .string a1_0] rfl rfl rfl ?_; (with_reducible refine (slices_Contains_string_string.calls k _ _ y529 a1_0 false _ ?side1 ?side2 A7.out).mono ?_); (case side1 => exact cb (Kd.R_reads' HO531.out).2.2); (case side2 => exact (Kd.R_reads' HO531.out).2.1); rintro e w' ⟨rfl, ⟨nd, rfl⟩⟩; refine ⟨_, rfl, ?_⟩; obtain ⟨hcz63_0, hcz63_1, hcz63_2⟩ := bc3 BK525.out; have hfz63 := blk_frozen BK525.out))
  refine bodyPost_ret (results_ct rfl _ _ gb525 57 #[.slice Ao59 y534.length co59, .slice Ao58 y537.length co58, .int .i64 1] (0, 0) _ rfl (bq BK525.out) Try.underlying57 rfl (by kernel_rfl)) rfl ?_
  try simp only [dsc]
  exact ⟨_, _, EQ, rb (Kd.R_mono (Kd.R_far (p := ⟨gb525, 2, none⟩) (Kd.R_far (p := ⟨gb525, 1, none⟩) (Kd.R_far (p := ⟨gb525, 0, none⟩) (Kd.R_types HO536.out BK525.out (by decide)) (fun _ hk => hk.2) (.slice Ao59 y534.length co59)) (fun _ hk => hk.2) (.slice Ao58 y537.length co58)) (fun _ hk => hk.2) (.int .i64 1)) (fun _ hk => by first | exact hk.1.2 | exact hk.1 | exact hk.2)), rb (Kd.R_mono (Kd.R_far (p := ⟨gb525, 2, none⟩) (Kd.R_far (p := ⟨gb525, 1, none⟩) (Kd.R_far (p := ⟨gb525, 0, none⟩) (Kd.R_types HO539.out BK525.out (by decide)) (fun _ hk => hk.2) (.slice Ao59 y534.length co59)) (fun _ hk => hk.2) (.slice Ao58 y537.length co58)) (fun _ hk => hk.2) (.int .i64 1)) (fun _ hk => by first | exact hk.1.2 | exact hk.1 | exact hk.2)), BA⟩

/-! ### cmp_isNaN_int: function 145 -/
def cmp_isNaN_int.f (a0 : Int) : Option (Bool) := some (a0 != a0)
theorem cmp_isNaN_int.calls (a0 : Int) (r : Bool) (w : World) (h : cmp_isNaN_int.f a0 = some r) :
  Calls Try.prog 145 #[.int .i64 a0] w fun e w' => e = .returned (.bool r) ∧ Drawn0 w w' := by
 have H := h
 clear h
 unfold cmp_isNaN_int.f at H
 obtain rfl := Option.some.inj H
 go_enter Try.func145, Try.ntmps145
 go_wp2
 go_ret
 exact ⟨EQ1, DA⟩

/-! ### cmp_Less_int: function 135 -/
def cmp_Less_int.f (a0 : Int) (a1 : Int) : Option (Bool) := (cmp_isNaN_int.f a0).bind fun t542 => (if t542 = true then ((cmp_isNaN_int.f a1).bind fun t543 => (if t543 = true then (some (decide (a0 < a1))) else (some true))) else (some (decide (a0 < a1))))
theorem cmp_Less_int.calls (a0 : Int) (a1 : Int) (r : Bool) (w : World) (h : cmp_Less_int.f a0 a1 = some r) :
  Calls Try.prog 135 #[.int .i64 a0, .int .i64 a1] w fun e w' => e = .returned (.bool r) ∧ Drawn0 w w' := by
 have H := h
 clear h
 unfold cmp_Less_int.f at H
 obtain ⟨t542, A3, H⟩ := ob H
 (try dsimp only at H)
 by_cases c4 : t542 = true
 ·subst c4
  rw [if_pos rfl] at H
  obtain ⟨t543, A5, H⟩ := ob H
  (try dsimp only at H)
  by_cases c6 : t543 = true
  ·subst c6
   rw [if_pos rfl] at H
   obtain rfl := Option.some.inj H
   go_enter Try.func135, Try.ntmps135
   go_wp2_with (first | ((with_reducible refine gate_callee (f := 145) rfl ?_); refine gK (some 6) Try.func145 #[.int .i64 a0] rfl rfl rfl ?_; (with_reducible refine (cmp_isNaN_int.calls a0 true _ A3.out).mono ?_); rintro e w' ⟨rfl, ⟨nd, rfl⟩⟩; refine ⟨_, rfl, ?_⟩) | (go_at_call 145; (with_reducible refine (cmp_isNaN_int.calls a1 true _ A5.out).mono ?_); rintro e w' ⟨rfl, ⟨nd, rfl⟩⟩))
   go_ret
   exact ⟨EQ1, DA⟩
  ·replace c6 := Bool.eq_false_iff.mpr c6
   subst c6
   rw [if_neg (show ¬ (false = true) by decide)] at H
   obtain rfl := Option.some.inj H
   go_enter Try.func135, Try.ntmps135
   go_wp2_with (first | ((with_reducible refine gate_callee (f := 145) rfl ?_); refine gK (some 6) Try.func145 #[.int .i64 a0] rfl rfl rfl ?_; (with_reducible refine (cmp_isNaN_int.calls a0 true _ A3.out).mono ?_); rintro e w' ⟨rfl, ⟨nd, rfl⟩⟩; refine ⟨_, rfl, ?_⟩) | (go_at_call 145; (with_reducible refine (cmp_isNaN_int.calls a1 false _ A5.out).mono ?_); rintro e w' ⟨rfl, ⟨nd, rfl⟩⟩))
   go_ret
   exact ⟨EQ1, DA⟩
 ·replace c4 := Bool.eq_false_iff.mpr c4
  subst c4
  rw [if_neg (show ¬ (false = true) by decide)] at H
  obtain rfl := Option.some.inj H
  go_enter Try.func135, Try.ntmps135
  go_wp2_with (first | ((with_reducible refine gate_callee (f := 145) rfl ?_); refine gK (some 6) Try.func145 #[.int .i64 a0] rfl rfl rfl ?_; (with_reducible refine (cmp_isNaN_int.calls a0 false _ A3.out).mono ?_); rintro e w' ⟨rfl, ⟨nd, rfl⟩⟩; refine ⟨_, rfl, ?_⟩))
  go_ret
  exact ⟨EQ1, DA⟩

/-! ### slices_insertionSortOrdered_int: function 129 -/
mutual
def slices_insertionSortOrdered_int.l0 : Nat → List Int → Int → Int → Int → Option (List Int)
 | 0, _, _, _, _ => none
 | k + 1, x0, x1, x2, x6 => if x6 < x2 then (slices_insertionSortOrdered_int.l1 k x0 x1 x2 x6 x6) else (some x0)
def slices_insertionSortOrdered_int.l1 : Nat → List Int → Int → Int → Int → Int → Option (List Int)
 | 0, _, _, _, _, _ => none
 | k + 1, x0, x1, x2, x6, x7 => if x7 > x1 then (if 0 ≤ x7 then (if x7 < (x0.length : Int) then (if 0 ≤ (wrap64 (x7 - 1)) then (if (wrap64 (x7 - 1)) < (x0.length : Int) then ((cmp_Less_int.f (rd x0 x7) (rd x0 (wrap64 (x7 - 1)))).bind fun t546 => (if t546 = true then (slices_insertionSortOrdered_int.l1 k ((x0.set (x7 : Int).toNat (rd x0 (wrap64 (x7 - 1)))).set ((wrap64 (x7 - 1)) : Int).toNat (rd x0 x7)) x1 x2 x6 (wrap64 (x7 - 1))) else (slices_insertionSortOrdered_int.l0 k x0 x1 x2 (wrap64 (x6 + 1))))) else (none)) else (none)) else (none)) else (none)) else (slices_insertionSortOrdered_int.l0 k x0 x1 x2 (wrap64 (x6 + 1)))
end
def slices_insertionSortOrdered_int.f (k : Nat) (l0 : List Int) (a1 : Int) (a2 : Int) : Option (List Int) := slices_insertionSortOrdered_int.l0 k l0 a1 a2 (wrap64 (a1 + 1))
def slices_insertionSortOrdered_int.T4 : Bool × List (List Nat × List Nat) := (true, [([], []), ([], []), ([0, 1], [0, 1]), ([2], [2]), ([3], [3]), ([3], [3]), ([4, 5, 3], [3, 4, 5]), ([6, 3], [3, 6]), ([3], [3]), ([3], [3]), ([9, 3], [3, 9]), ([8, 10, 3], [3, 8, 10]), ([11, 3], [3, 11]), ([7, 12, 3, 3], [3, 7, 12]), ([3, 13], [3, 13])])
def slices_insertionSortOrdered_int.B4 : List Nat := [0, 0, 3, 7, 15, 15, 63, 127, 15, 15, 527, 1807, 3855, 8191, 16383]
theorem slices_insertionSortOrdered_int.tab4 : rtab .any (opsOf Try.f129 4) = slices_insertionSortOrdered_int.T4 := by kernel_rfl
theorem slices_insertionSortOrdered_int.bits4 : waitsOk slices_insertionSortOrdered_int.T4.2 slices_insertionSortOrdered_int.B4 = true := by kernel_rfl
def slices_insertionSortOrdered_int.T6 : Bool × List (List Nat × List Nat) := (true, [([], []), ([], []), ([], []), ([], []), ([3], [3]), ([], []), ([], []), ([6], [6]), ([5, 7], [5, 7]), ([8], [8]), ([], []), ([], []), ([10, 11], [10, 11]), ([12], [12]), ([0, 1, 0, 1, 5, 6, 7, 8, 9, 13], [0, 1]), ([14, 9, 0, 1, 5, 6, 7, 8, 9, 13], [9, 14]), ([2, 4, 0, 1, 2, 3, 4, 5, 6, 7, 8, 9, 10, 11, 12, 13, 14, 15], [2, 4]), ([16, 13, 15, 0, 1, 2, 3, 4, 5, 6, 7, 8, 9, 10, 11, 12, 13, 14, 15], [13, 16])])
def slices_insertionSortOrdered_int.B6 : List Nat := [0, 0, 0, 0, 8, 0, 0, 64, 224, 480, 0, 0, 3072, 7168, 16355, 32739, 65535, 131071]
theorem slices_insertionSortOrdered_int.tab6 : rtab .any (opsOf Try.f129 6) = slices_insertionSortOrdered_int.T6 := by kernel_rfl
theorem slices_insertionSortOrdered_int.bits6 : waitsOk slices_insertionSortOrdered_int.T6.2 slices_insertionSortOrdered_int.B6 = true := by kernel_rfl
theorem slices_insertionSortOrdered_int.calls (k : Nat) (P0_ : Nat → Prop) (u9000_ : Value) (l0 : List Int) (a1 : Int) (a2 : Int) (r : List Int) (w0 w : World) (hB : Below w0.heap.size w0 w) (ho0 : Kd.R (Kd.int .i64) 3 w w0.heap.size P0_ u9000_ l0) (h : slices_insertionSortOrdered_int.f k l0 a1 a2 = some r) :
  Calls Try.prog 129 #[u9000_, .int .i64 a1, .int .i64 a2] w fun e w' => e = .returned (.tuple #[]) ∧ Kd.R (Kd.int .i64) 3 w' w0.heap.size (fun k_ => (P0_ k_ ∨ w.heap.size ≤ k_)) u9000_ r ∧ Below w0.heap.size w0 w' ∧ Kept w w' (fun k_ => P0_ k_) := by
 have HO0 := Aside0.mk (show Kd.R (Kd.int .i64) 3 w w0.heap.size (fun k_ => (P0_ k_ ∨ w.heap.size ≤ k_)) u9000_ l0 from Kd.R_mono ho0 (fun k_ hk => (.inl hk)))
 have HK := Aside0.mk (Kept.refl w (fun k_ => P0_ k_))
 have HW0 := Aside0.mk hB.size
 have HB := Aside0.mk hB
 clear hB
 have H := h
 clear h
 unfold slices_insertionSortOrdered_int.f at H
 have H' := Aside0.mk H
 clear H
 go_enter Try.func129, Try.ntmps129
 go_wp2
 go_loopg [6] k (fun kq v6 w' => ∃ (x0_1 : List Int) (x6_1 : Int), v6 = .int .i64 x6_1 ∧ Aside0 (slices_insertionSortOrdered_int.l0 kq x0_1 a1 a2 x6_1 = some r) ∧ Aside0 (kq ≤ k) ∧ Aside0 (Kd.R (Kd.int .i64) 3 w' w0.heap.size (fun k_ => (P0_ k_ ∨ w.heap.size ≤ k_)) u9000_ x0_1) ∧ Aside0 (Kept w w' (fun k_ => P0_ k_)) ∧ Aside0 (Below w0.heap.size w0 w'))
 case atStart => exact ⟨(l0), (wrap64 (a1 + 1)), EQ1, H', ⟨Nat.le_refl _⟩, ⟨rb HO0.out⟩, ⟨by repeat (first | (with_reducible first | exact HK.out | apply Kept.alloc | apply Kept.drewN | apply Kept.drew) | exact HK.out)⟩, ⟨BA⟩⟩
 case round =>
  clear H'
  obtain ⟨x0_1, x6_1, rfl, HA, HK1, HO_0, HK, HB⟩ := hrel
  cases gk with
  | zero => exact absurd HA.out (by simp [slices_insertionSortOrdered_int.l0])
  | succ k1 =>
   have H := HA.out
   clear HA
   simp only [slices_insertionSortOrdered_int.l0] at H
   by_cases c4 : x6_1 < a2
   ·rw [if_pos c4] at H
    have c4b0 := decide_eq_true c4
    clear c4
    have H' := Aside0.mk H
    clear H
    go_wp2
    go_loopg [7] k1 (fun kq v7 w' => ∃ (x0_2 : List Int) (x7_2 : Int), v7 = .int .i64 x7_2 ∧ Aside0 (slices_insertionSortOrdered_int.l1 kq x0_2 a1 a2 x6_1 x7_2 = some r) ∧ Aside0 (kq ≤ k1) ∧ Aside0 (Kd.R (Kd.int .i64) 3 w' w0.heap.size (fun k_ => (P0_ k_ ∨ w.heap.size ≤ k_)) u9000_ x0_2) ∧ Aside0 (Kept w w' (fun k_ => P0_ k_)) ∧ Aside0 (Below w0.heap.size w0 w'))
    case atStart => exact ⟨(x0_1), (x6_1), EQ1, H', ⟨Nat.le_refl _⟩, ⟨rb HO_0.out⟩, ⟨by repeat (first | (with_reducible first | exact HK.out | apply Kept.alloc | apply Kept.drewN | apply Kept.drew) | exact HK.out)⟩, ⟨BA⟩⟩
    case round =>
     clear H'
     (try clear c4b0)
     obtain ⟨x0_2, x7_2, rfl, HA, HK2, HO_0, HK, HB⟩ := hrel
     cases gk with
     | zero => exact absurd HA.out (by simp [slices_insertionSortOrdered_int.l1])
     | succ k2 =>
      have H := HA.out
      clear HA
      simp only [slices_insertionSortOrdered_int.l1] at H
      by_cases c5 : x7_2 > a1
      ·rw [if_pos c5] at H
       have c5b0 := decide_eq_true c5
       clear c5
       obtain ⟨c6, H⟩ := ifs H
       have c6b0 := decide_eq_true c6
       clear c6
       obtain ⟨c7, H⟩ := ifs H
       have c7b0 := decide_eq_true c7
       clear c7
       obtain ⟨ji8, hji8⟩ : ∃ j_ : Int, (wrap64 (x7_2 - 1)) = j_ := ⟨_, rfl⟩
       replace H : (if 0 ≤ (ji8) then (if (ji8) < (x0_2.length : Int) then ((cmp_Less_int.f (rd x0_2 x7_2) (rd x0_2 (ji8))).bind fun t546 => (if t546 = true then (slices_insertionSortOrdered_int.l1 k2 ((x0_2.set (x7_2 : Int).toNat (rd x0_2 (ji8))).set ((ji8) : Int).toNat (rd x0_2 x7_2)) a1 a2 x6_1 ji8) else (slices_insertionSortOrdered_int.l0 k2 x0_2 a1 a2 (wrap64 (x6_1 + 1))))) else (none)) else (none)) = some r := by first | (rw [hji8] at H; exact H) | (simp only [hji8] at H ⊢; exact H)
       have hji8w : (IntKind.i64.wrap (x7_2 - 1)) = ji8 := (i64_w _).trans hji8
       obtain ⟨c9, H⟩ := ifs H
       have c9b0 := decide_eq_true c9
       clear c9
       obtain ⟨c10, H⟩ := ifs H
       have c10b0 := decide_eq_true c10
       clear c10
       obtain ⟨t546, A11, H⟩ := ob H
       (try dsimp only at H)
       by_cases c12 : t546 = true
       ·subst c12
        rw [if_pos rfl] at H
        obtain ⟨y549, hy549⟩ : ∃ y_ : List Int, y_ = (x0_2.set (x7_2 : Int).toNat (rd x0_2 (ji8))) := ⟨_, rfl⟩
        replace H : (slices_insertionSortOrdered_int.l1 k2 (y549.set ((ji8) : Int).toNat (rd x0_2 x7_2)) a1 a2 x6_1 ji8) = some r := by first | (rw [hy549]; with_reducible exact H) | (have H2_ := (Option.bind_some _ _).symm.trans H; rw [hy549]; with_reducible exact H2_) | (have H2_ := (Option.bind_some _ _).symm.trans H; with_reducible exact H2_) | with_reducible exact H | (rw [hy549]; exact H) | exact H
        have Ny549 := Aside0.mk hy549
        clear hy549
        obtain ⟨y550, hy550⟩ : ∃ y_ : List Int, y_ = (y549.set ((ji8) : Int).toNat (rd x0_2 x7_2)) := ⟨_, rfl⟩
        replace H : (slices_insertionSortOrdered_int.l1 k2 y550 a1 a2 x6_1 ji8) = some r := by first | (rw [hy550]; with_reducible exact H) | (have H2_ := (Option.bind_some _ _).symm.trans H; rw [hy550]; with_reducible exact H2_) | (have H2_ := (Option.bind_some _ _).symm.trans H; with_reducible exact H2_) | with_reducible exact H | (rw [hy550]; exact H) | exact H
        have Ny550 := Aside0.mk hy550
        clear hy550
        have H' := Aside0.mk H
        clear H
        try go_wp2
        replace HO_0 := Aside0.mk (Kd.R_drew HO_0.out); replace HK := Aside0.mk (Kept.drew HK.out); replace HB := Aside0.mk (below_drew1 HB.out)
        obtain ⟨Ao16, co16, eo16⟩ := Kd.R_slice HO_0.out
        (first | subst eo16 | (injection eo16 with f1_ f2_ f3_; have f4_ := f1_.symm; have f5_ := f3_.symm; clear f1_ f2_ f3_; subst f4_; subst f5_))
        have p544 : 0 ≤ (x7_2 : Int) := DT
        have q544 : x7_2 < (x0_2.length : Int) := DT
        obtain ⟨ad544, e544, hx544_0⟩ := Kd.at_int (Kd.R_reads' HO_0.out).2.2 x7_2 p544 q544
        cases e544
        replace p544 := eq_true p544
        replace q544 := eq_true q544
        have p545 : 0 ≤ ((ji8) : Int) := DT
        have q545 : (ji8) < (x0_2.length : Int) := DT
        obtain ⟨ad545, e545, hx545_0⟩ := Kd.at_int (Kd.R_reads' HO_0.out).2.2 (ji8) p545 q545
        obtain rfl : ad544 = ad545 := (by injection e545)
        replace p545 := eq_true p545
        replace q545 := eq_true q545
        refine start_ (n := 15) (S := fun w' => w'.cell? (ad544.add (x7_2).toNat) = some (.int .i64 (rd x0_2 x7_2)) ∧ w'.cell? (ad544.add ((ji8)).toNat) = some (.int .i64 (rd x0_2 (ji8)))) (ds := []) (mk 15 0) (by kernel_rfl) rfl (by kernel_rfl) ⟨hx544_0, hx545_0⟩ (fun hHeld => ?_); refine with_tabW slices_insertionSortOrdered_int.tab4 slices_insertionSortOrdered_int.bits4 (fun HT_ HW_ => ?_)
        generalize wr.drew = w15 at HO_0 HK HB hx544_0 hx545_0 hHeld ⊢
        refine pu 0 16 15 1 rfl rfl ?_
        refine pu 1 17 15 3 rfl rfl ?_
        refine pu 2 18 15 7 rfl rfl ?_
        refine pu 3 19 15 15 rfl rfl ?_
        refine pu 4 20 15 31 rfl rfl ?_
        refine pu 5 21 15 63 rfl rfl ?_
        refine pu 6 22 15 127 rfl rfl ?_
        refine pu 8 24 15 383 rfl rfl ?_
        refine pu 9 25 15 895 rfl rfl ?_
        refine pu 10 26 15 1919 rfl rfl ?_
        refine pu 11 27 15 3967 rfl rfl ?_
        refine ta 7 23 15 4095 rfl rfl ?_
        refine ta 12 28 15 8191 rfl rfl ?_
        refine one_ (i := 13) (N := some 29) (mk 15 16383) rfl rfl (one_of HT_.out (by kernel_rfl)) (by decide) (fun K hK => ?_)
        refine goes_ Try.func135 (by kernel_rfl) rfl #[.int .i64 (rd x0_2 x7_2), .int .i64 (rd x0_2 (ji8))] (by rfl) rfl rfl (by (try simp only [List.map_toArray, List.map_cons, List.map_nil]); first | done | (simp only [hji8]; rfl) | rfl | (simp only [List.length_drop, List.length_take]; rfl)) ?_
        with_reducible refine (cmp_Less_int.calls (rd x0_2 x7_2) (rd x0_2 (ji8)) true _ A11.out).mono ?_
        rintro e w' ⟨rfl, ⟨nd, rfl⟩⟩
        refine ⟨_, rfl, ?_⟩
        refine hK.out _ _ ⟨hHeld.1, hHeld.2⟩ (fun hHeld => ?_)
        clear hK K
        refine nm 29 ?_
        refine pu 14 30 15 32767 rfl rfl ?_
        refine done_ (done_of HT_.out (by kernel_rfl)) ?_
        try go_wp2
        (try (rw [drewN_self w15]; generalize hq_ : World.drewN w15 _ = w15; have n0_ : Aside0 (Kd.R (Kd.int .i64) 3 w15 w0.heap.size (fun k_ => (P0_ k_ ∨ w.heap.size ≤ k_)) (.slice (some ad544) x0_2.length co16) x0_2) := ⟨by rw [← hq_]; exact (rb HO_0.out)⟩; have n1_ : Aside0 (Kept w w15 (fun k_ => P0_ k_)) := ⟨by rw [← hq_]; exact (by repeat (first | (with_reducible first | exact HK.out | apply Kept.alloc | apply Kept.drewN | apply Kept.drew) | exact HK.out))⟩; have n2_ : Aside0 (Below w0.heap.size w0 w15) := ⟨by rw [← hq_]; exact BA⟩; clear HO_0 HK HB hq_; have HO_0 := n0_; have HK := n1_; have HB := n2_; clear n0_ n1_ n2_))
        replace HO_0 := Aside0.mk (Kd.R_drew HO_0.out); replace HK := Aside0.mk (Kept.drew HK.out); replace HB := Aside0.mk (below_drew1 HB.out)
        have p547 : 0 ≤ ((ji8) : Int) := DT
        have q547 : (ji8) < (x0_2.length : Int) := DT
        obtain ⟨ad547, e547, hx547_0⟩ := Kd.at_int (Kd.R_reads' HO_0.out).2.2 (ji8) p547 q547
        obtain rfl : ad544 = ad547 := (by injection e547)
        replace p547 := eq_true p547
        replace q547 := eq_true q547
        have p548 : 0 ≤ (x7_2 : Int) := DT
        have q548 : x7_2 < (x0_2.length : Int) := DT
        obtain ⟨ad548, e548, hx548_0⟩ := Kd.at_int (Kd.R_reads' HO_0.out).2.2 x7_2 p548 q548
        obtain rfl : ad544 = ad548 := (by injection e548)
        replace p548 := eq_true p548
        replace q548 := eq_true q548
        have p13 : 0 ≤ (x7_2 : Int) := DT
        have q13 : (x7_2 : Int) < ((x0_2.length : Int) : Int) := DT
        obtain ⟨go13, co13, eo13, gb13, gl13, cl13, HG13⟩ := Kd.R_form HO_0.out (by omega)
        (first | cases eo13 | (injection eo13 with ea_ en_ ec_; (first | subst ea_ | (injection ea_ with ea_; subst ea_)); subst ec_; clear en_))
        have GB13 := Aside0.mk gb13
        have GG13 := Aside0.mk HG13
        clear gb13 gl13 HG13
        have HMgo13 := Aside0.mk (show (P0_ go13 ∨ w.heap.size ≤ go13) from (HO_0.out.1 _ rfl))
        (first | simp only [add_plain] at hx544_0 | skip)
        (first | simp only [add_plain] at hx545_0 | skip)
        (first | simp only [add_plain] at hx547_0 | skip)
        (first | simp only [add_plain] at hx548_0 | skip)
        obtain ⟨hx13_0, hf13_0⟩ := Kd.R_celln 0 HO_0.out (x7_2 : Int) p13 q13
        replace p13 := eq_true p13
        replace q13 := eq_true q13
        have HP18 := Kd.R_putn HO_0.out (x7_2 : Int) (rd x0_2 (ji8))
        rw [← Ny549.out] at HP18
        have HQ18 := Aside0.mk HP18
        clear HP18
        have p14 : 0 ≤ ((ji8) : Int) := DT
        have q14 : ((ji8) : Int) < ((x0_2.length : Int) : Int) := DT
        obtain ⟨hx14_0, hf14_0⟩ := Kd.R_celln 0 HQ18.out ((ji8) : Int) p14 q14
        replace p14 := eq_true p14
        replace q14 := eq_true q14
        have HP19 := Kd.R_putn HQ18.out ((ji8) : Int) (rd x0_2 x7_2)
        rw [← Ny550.out] at HP19
        have HQ19 := Aside0.mk HP19
        clear HP19
        refine start_ (n := 18) (S := fun w' => w'.cell? ⟨go13, ((ji8)).toNat, none⟩ = some (.int .i64 (rd x0_2 (ji8))) ∧ w'.cell? ⟨go13, (x7_2).toNat, none⟩ = some (.int .i64 (rd x0_2 x7_2))) (ds := [15, 17]) (mk 18 0) (by kernel_rfl) rfl (by kernel_rfl) ⟨hx547_0, hx548_0⟩ (fun hHeld => ?_); refine with_tabW slices_insertionSortOrdered_int.tab6 slices_insertionSortOrdered_int.bits6 (fun HT_ HW_ => ?_)
        generalize w15.drew = w17 at HO_0 HK HB GG13 HQ18 HQ19 hf13_0 hf14_0 hx13_0 hx14_0 hx544_0 hx545_0 hx547_0 hx548_0 hHeld ⊢
        refine pu 0 33 18 1 rfl rfl ?_
        refine pu 1 34 18 3 rfl rfl ?_
        refine pu 2 35 18 7 rfl rfl ?_
        refine pu 3 36 18 15 rfl rfl ?_
        refine pu 4 37 18 31 rfl rfl ?_
        refine pu 5 38 18 63 rfl rfl ?_
        refine pu 6 39 18 127 rfl rfl ?_
        refine pu 7 40 18 255 rfl rfl ?_
        refine pu 8 41 18 511 rfl rfl ?_
        refine pu 10 43 18 1535 rfl rfl ?_
        refine pu 11 44 18 3583 rfl rfl ?_
        refine pu 12 45 18 7679 rfl rfl ?_
        refine ta 9 42 18 8191 rfl rfl ?_
        refine ta 13 46 18 16383 rfl rfl ?_
        refine pu 14 47 18 32767 rfl rfl ?_
        refine last_ (i := 15) (N := none) (mk 18 65535) rfl rfl (one_of HT_.out (by kernel_rfl)) (by decide) (fun K hK => ?_)
        refine skip_ (w1 := ?_) (by rfl) rfl ?_ ?_
        rotate_left
        ·go_simp
         rfl
        refine hK.out _ _ ?_
        clear hK K
        refine pu 16 48 18 131071 rfl rfl ?_
        refine last_ (i := 17) (N := none) (mk 18 262143) rfl rfl (one_of HT_.out (by kernel_rfl)) (by decide) (fun K hK => ?_)
        refine skip_ (w1 := ?_) (by rfl) rfl ?_ ?_
        rotate_left
        ·go_simp
         rfl
        refine hK.out _ _ ?_
        clear hK K
        refine done_ (done_of HT_.out (by kernel_rfl)) ?_
        try go_wp2
        go_roundg k2
        case measure => have := HK1.out; have := HK2.out; omega
        case rel => exact ⟨(y550), (ji8), (by first | rfl | (simp; done) | (simp only [← hji8] <;> (first | rfl | simp)) | (simp [*]; done)), H', ⟨by have := HK1.out; have := HK2.out; omega⟩, ⟨rb HQ19.out⟩, ⟨by repeat (first | (with_reducible first | exact HK.out | apply Kept.alloc | apply Kept.drewN | apply Kept.drew | refine Kept.setCell ?_ HMgo13.out _ | refine Kept.setCell ?_ HMgo13.out _) | exact HK.out)⟩, ⟨by repeat (first | (with_reducible first | exact HB.out | apply below_alloc | apply pw_below_drewN | apply below_drew1 | refine below_set ?_ GB13.out | refine below_set ?_ GB13.out) | exact HB.out)⟩⟩
       ·replace c12 := Bool.eq_false_iff.mpr c12
        subst c12
        rw [if_neg (show ¬ (false = true) by decide)] at H
        have H' := Aside0.mk H
        clear H
        try go_wp2
        replace HO_0 := Aside0.mk (Kd.R_drew HO_0.out); replace HK := Aside0.mk (Kept.drew HK.out); replace HB := Aside0.mk (below_drew1 HB.out)
        obtain ⟨Ao21, co21, eo21⟩ := Kd.R_slice HO_0.out
        (first | subst eo21 | (injection eo21 with f1_ f2_ f3_; have f4_ := f1_.symm; have f5_ := f3_.symm; clear f1_ f2_ f3_; subst f4_; subst f5_))
        have p544 : 0 ≤ (x7_2 : Int) := DT
        have q544 : x7_2 < (x0_2.length : Int) := DT
        obtain ⟨ad544, e544, hx544_0⟩ := Kd.at_int (Kd.R_reads' HO_0.out).2.2 x7_2 p544 q544
        cases e544
        replace p544 := eq_true p544
        replace q544 := eq_true q544
        have p545 : 0 ≤ ((ji8) : Int) := DT
        have q545 : (ji8) < (x0_2.length : Int) := DT
        obtain ⟨ad545, e545, hx545_0⟩ := Kd.at_int (Kd.R_reads' HO_0.out).2.2 (ji8) p545 q545
        obtain rfl : ad544 = ad545 := (by injection e545)
        replace p545 := eq_true p545
        replace q545 := eq_true q545
        refine start_ (n := 15) (S := fun w' => w'.cell? (ad544.add (x7_2).toNat) = some (.int .i64 (rd x0_2 x7_2)) ∧ w'.cell? (ad544.add ((ji8)).toNat) = some (.int .i64 (rd x0_2 (ji8)))) (ds := []) (mk 15 0) (by kernel_rfl) rfl (by kernel_rfl) ⟨hx544_0, hx545_0⟩ (fun hHeld => ?_); refine with_tabW slices_insertionSortOrdered_int.tab4 slices_insertionSortOrdered_int.bits4 (fun HT_ HW_ => ?_)
        generalize wr.drew = w20 at HO_0 HK HB hx544_0 hx545_0 hHeld ⊢
        refine pu 0 16 15 1 rfl rfl ?_
        refine pu 1 17 15 3 rfl rfl ?_
        refine pu 2 18 15 7 rfl rfl ?_
        refine pu 3 19 15 15 rfl rfl ?_
        refine pu 4 20 15 31 rfl rfl ?_
        refine pu 5 21 15 63 rfl rfl ?_
        refine pu 6 22 15 127 rfl rfl ?_
        refine pu 8 24 15 383 rfl rfl ?_
        refine pu 9 25 15 895 rfl rfl ?_
        refine pu 10 26 15 1919 rfl rfl ?_
        refine pu 11 27 15 3967 rfl rfl ?_
        refine ta 7 23 15 4095 rfl rfl ?_
        refine ta 12 28 15 8191 rfl rfl ?_
        refine one_ (i := 13) (N := some 29) (mk 15 16383) rfl rfl (one_of HT_.out (by kernel_rfl)) (by decide) (fun K hK => ?_)
        refine goes_ Try.func135 (by kernel_rfl) rfl #[.int .i64 (rd x0_2 x7_2), .int .i64 (rd x0_2 (ji8))] (by rfl) rfl rfl (by (try simp only [List.map_toArray, List.map_cons, List.map_nil]); first | done | (simp only [hji8]; rfl) | rfl | (simp only [List.length_drop, List.length_take]; rfl)) ?_
        with_reducible refine (cmp_Less_int.calls (rd x0_2 x7_2) (rd x0_2 (ji8)) false _ A11.out).mono ?_
        rintro e w' ⟨rfl, ⟨nd, rfl⟩⟩
        refine ⟨_, rfl, ?_⟩
        refine hK.out _ _ ⟨hHeld.1, hHeld.2⟩ (fun hHeld => ?_)
        clear hK K
        refine nm 29 ?_
        refine pu 14 30 15 32767 rfl rfl ?_
        refine done_ (done_of HT_.out (by kernel_rfl)) ?_
        try go_wp2
        go_roundg k2
        case measure => have := HK1.out; have := HK2.out; omega
        case rel => exact ⟨(x0_2), (wrap64 (x6_1 + 1)), EQ1, H', ⟨by have := HK1.out; have := HK2.out; omega⟩, ⟨rb HO_0.out⟩, ⟨by repeat (first | (with_reducible first | exact HK.out | apply Kept.alloc | apply Kept.drewN | apply Kept.drew) | exact HK.out)⟩, ⟨BA⟩⟩
      ·rw [if_neg c5] at H
       have c5b0 := decide_eq_false c5
       clear c5
       have H' := Aside0.mk H
       clear H
       try go_wp2
       replace HO_0 := Aside0.mk (Kd.R_drew HO_0.out); replace HK := Aside0.mk (Kept.drew HK.out); replace HB := Aside0.mk (below_drew1 HB.out)
       refine start_ (n := 15) (S := fun w' => True) (ds := []) (mk 15 0) (by kernel_rfl) rfl (by kernel_rfl) trivial (fun hHeld => ?_); refine with_tabW slices_insertionSortOrdered_int.tab4 slices_insertionSortOrdered_int.bits4 (fun HT_ HW_ => ?_)
       generalize wr.drew = w22 at HO_0 HK HB hHeld ⊢
       refine pu 0 16 15 1 rfl rfl ?_
       refine pu 1 17 15 3 rfl rfl ?_
       refine pu 2 18 15 7 rfl rfl ?_
       refine pu 3 19 15 15 rfl rfl ?_
       refine pos [(4, some 20), (5, some 21), (6, some 22), (7, some 23), (8, some 24), (9, some 25), (10, some 26), (11, some 27), (12, some 28), (13, some 29)] 15 16383 1 ?_
       refine pu 14 30 15 32767 rfl rfl ?_
       refine done_ (done_of HT_.out (by kernel_rfl)) ?_
       try go_wp2
       go_roundg k2
       case measure => have := HK1.out; have := HK2.out; omega
       case rel => exact ⟨(x0_2), (wrap64 (x6_1 + 1)), EQ1, H', ⟨by have := HK1.out; have := HK2.out; omega⟩, ⟨rb HO_0.out⟩, ⟨by repeat (first | (with_reducible first | exact HK.out | apply Kept.alloc | apply Kept.drewN | apply Kept.drew) | exact HK.out)⟩, ⟨BA⟩⟩
   ·rw [if_neg c4] at H
    have c4b0 := decide_eq_false c4
    clear c4
    obtain rfl := Option.some.inj H
    go_wp2
    first | go_end0 | ((try simp only [Exit.inBlock, Exit.then]); refine bodyPost_ret (results_none rfl _ _ _) rfl ?_)
    exact ⟨EQ, rb HO_0.out, BA, by repeat (first | (with_reducible first | exact HK.out | apply Kept.alloc | apply Kept.drewN | apply Kept.drew) | exact HK.out)⟩

/-! ### bits_Len64: function 139 -/
def bits_Len64.f (a0 : Int) : Option (Int) := if a0 ≥ 4294967296 then (none) else (if a0 ≥ 65536 then (none) else (if a0 ≥ 256 then (none) else (if 0 ≤ ((a0) % 256) then (if ((a0) % 256) < 256 then (some (wrap64 (0 + (wrap64 (bt (⟨#[0, 1, 2, 2, 3, 3, 3, 3, 4, 4, 4, 4, 4, 4, 4, 4, 5, 5, 5, 5, 5, 5, 5, 5, 5, 5, 5, 5, 5, 5, 5, 5, 6, 6, 6, 6, 6, 6, 6, 6, 6, 6, 6, 6, 6, 6, 6, 6, 6, 6, 6, 6, 6, 6, 6, 6, 6, 6, 6, 6, 6, 6, 6, 6, 7, 7, 7, 7, 7, 7, 7, 7, 7, 7, 7, 7, 7, 7, 7, 7, 7, 7, 7, 7, 7, 7, 7, 7, 7, 7, 7, 7, 7, 7, 7, 7, 7, 7, 7, 7, 7, 7, 7, 7, 7, 7, 7, 7, 7, 7, 7, 7, 7, 7, 7, 7, 7, 7, 7, 7, 7, 7, 7, 7, 7, 7, 7, 7, 8, 8, 8, 8, 8, 8, 8, 8, 8, 8, 8, 8, 8, 8, 8, 8, 8, 8, 8, 8, 8, 8, 8, 8, 8, 8, 8, 8, 8, 8, 8, 8, 8, 8, 8, 8, 8, 8, 8, 8, 8, 8, 8, 8, 8, 8, 8, 8, 8, 8, 8, 8, 8, 8, 8, 8, 8, 8, 8, 8, 8, 8, 8, 8, 8, 8, 8, 8, 8, 8, 8, 8, 8, 8, 8, 8, 8, 8, 8, 8, 8, 8, 8, 8, 8, 8, 8, 8, 8, 8, 8, 8, 8, 8, 8, 8, 8, 8, 8, 8, 8, 8, 8, 8, 8, 8, 8, 8, 8, 8, 8, 8, 8, 8, 8, 8, 8, 8, 8, 8, 8, 8, 8, 8, 8, 8, 8, 8]⟩ : ByteArray) ((a0) % 256)))))) else (none)) else (none))))
theorem bits_Len64.calls (a0 : Int) (r : Int) (w : World) (h : bits_Len64.f a0 = some r) :
  Calls Try.prog 139 #[.int .u64 a0] w fun e w' => e = .returned (.int .i64 r) ∧ Drawn0 w w' := by
 have H := h
 clear h
 unfold bits_Len64.f at H
 obtain ⟨c2, H⟩ := ifn H
 have c2b0 := decide_eq_false c2
 clear c2
 obtain ⟨c3, H⟩ := ifn H
 have c3b0 := decide_eq_false c3
 clear c3
 obtain ⟨c4, H⟩ := ifn H
 have c4b0 := decide_eq_false c4
 clear c4
 obtain ⟨ji5, hji5⟩ : ∃ j_ : Int, ((a0) % 256) = j_ := ⟨_, rfl⟩
 replace H : (if 0 ≤ (ji5) then (if (ji5) < 256 then (some (wrap64 (0 + (wrap64 (bt (⟨#[0, 1, 2, 2, 3, 3, 3, 3, 4, 4, 4, 4, 4, 4, 4, 4, 5, 5, 5, 5, 5, 5, 5, 5, 5, 5, 5, 5, 5, 5, 5, 5, 6, 6, 6, 6, 6, 6, 6, 6, 6, 6, 6, 6, 6, 6, 6, 6, 6, 6, 6, 6, 6, 6, 6, 6, 6, 6, 6, 6, 6, 6, 6, 6, 7, 7, 7, 7, 7, 7, 7, 7, 7, 7, 7, 7, 7, 7, 7, 7, 7, 7, 7, 7, 7, 7, 7, 7, 7, 7, 7, 7, 7, 7, 7, 7, 7, 7, 7, 7, 7, 7, 7, 7, 7, 7, 7, 7, 7, 7, 7, 7, 7, 7, 7, 7, 7, 7, 7, 7, 7, 7, 7, 7, 7, 7, 7, 7, 8, 8, 8, 8, 8, 8, 8, 8, 8, 8, 8, 8, 8, 8, 8, 8, 8, 8, 8, 8, 8, 8, 8, 8, 8, 8, 8, 8, 8, 8, 8, 8, 8, 8, 8, 8, 8, 8, 8, 8, 8, 8, 8, 8, 8, 8, 8, 8, 8, 8, 8, 8, 8, 8, 8, 8, 8, 8, 8, 8, 8, 8, 8, 8, 8, 8, 8, 8, 8, 8, 8, 8, 8, 8, 8, 8, 8, 8, 8, 8, 8, 8, 8, 8, 8, 8, 8, 8, 8, 8, 8, 8, 8, 8, 8, 8, 8, 8, 8, 8, 8, 8, 8, 8, 8, 8, 8, 8, 8, 8, 8, 8, 8, 8, 8, 8, 8, 8, 8, 8, 8, 8, 8, 8, 8, 8, 8, 8]⟩ : ByteArray) (ji5)))))) else (none)) else (none)) = some r := by first | (rw [hji5] at H; exact H) | (simp only [hji5] at H ⊢; exact H)
 obtain ⟨c6, H⟩ := ifs H
 have c6b0 := decide_eq_true c6
 clear c6
 obtain ⟨c7, H⟩ := ifs H
 have c7b0 := decide_eq_true c7
 clear c7
 obtain rfl := Option.some.inj H
 have p8 : 0 ≤ ((ji5) : Int) := DT
 have q8 : (ji5) < (256 : Int) := DT
 have hx8 := bt_at (⟨#[0, 1, 2, 2, 3, 3, 3, 3, 4, 4, 4, 4, 4, 4, 4, 4, 5, 5, 5, 5, 5, 5, 5, 5, 5, 5, 5, 5, 5, 5, 5, 5, 6, 6, 6, 6, 6, 6, 6, 6, 6, 6, 6, 6, 6, 6, 6, 6, 6, 6, 6, 6, 6, 6, 6, 6, 6, 6, 6, 6, 6, 6, 6, 6, 7, 7, 7, 7, 7, 7, 7, 7, 7, 7, 7, 7, 7, 7, 7, 7, 7, 7, 7, 7, 7, 7, 7, 7, 7, 7, 7, 7, 7, 7, 7, 7, 7, 7, 7, 7, 7, 7, 7, 7, 7, 7, 7, 7, 7, 7, 7, 7, 7, 7, 7, 7, 7, 7, 7, 7, 7, 7, 7, 7, 7, 7, 7, 7, 8, 8, 8, 8, 8, 8, 8, 8, 8, 8, 8, 8, 8, 8, 8, 8, 8, 8, 8, 8, 8, 8, 8, 8, 8, 8, 8, 8, 8, 8, 8, 8, 8, 8, 8, 8, 8, 8, 8, 8, 8, 8, 8, 8, 8, 8, 8, 8, 8, 8, 8, 8, 8, 8, 8, 8, 8, 8, 8, 8, 8, 8, 8, 8, 8, 8, 8, 8, 8, 8, 8, 8, 8, 8, 8, 8, 8, 8, 8, 8, 8, 8, 8, 8, 8, 8, 8, 8, 8, 8, 8, 8, 8, 8, 8, 8, 8, 8, 8, 8, 8, 8, 8, 8, 8, 8, 8, 8, 8, 8, 8, 8, 8, 8, 8, 8, 8, 8, 8, 8, 8, 8, 8, 8, 8, 8, 8, 8]⟩ : ByteArray) (ji5)
 replace p8 := eq_true p8
 replace q8 := eq_true q8
 go_enter Try.func139, Try.ntmps139
 go_wp2
 go_ret
 exact ⟨by first | rfl | (simp; done) | (simp only [← hji5] <;> (first | rfl | simp)) | (simp [*]; done), DA⟩

/-! ### bits_Len: function 126 -/
def bits_Len.f (a0 : Int) : Option (Int) := (bits_Len64.f a0).bind fun t574 => (some t574)
theorem bits_Len.calls (a0 : Int) (r : Int) (w : World) (h : bits_Len.f a0 = some r) :
  Calls Try.prog 126 #[.int .u64 a0] w fun e w' => e = .returned (.int .i64 r) ∧ Drawn0 w w' := by
 have H := h
 clear h
 unfold bits_Len.f at H
 obtain ⟨t574, A2, H⟩ := ob H
 (try dsimp only at H)
 obtain rfl := Option.some.inj H
 go_enter Try.func126, Try.ntmps126
 go_wp2_with (first | ((with_reducible refine gate_callee (f := 139) rfl ?_); refine gK (some 7) Try.func139 #[.int .u64 a0] rfl rfl rfl ?_; (with_reducible refine (bits_Len64.calls a0 t574 _ A2.out).mono ?_); rintro e w' ⟨rfl, ⟨nd, rfl⟩⟩; refine ⟨_, rfl, ?_⟩))
 go_ret
 exact ⟨EQ1, DA⟩

/-! ### slices_pdqsortOrdered_int: function 125 -/
mutual
def slices_pdqsortOrdered_int.l0 : Nat → List Int → Int → Int → Option (List Int)
 | 0, _, _, _ => none
 | k + 1, x0, x1, x2 => if (wrap64 (x2 - x1)) ≤ 12 then ((slices_insertionSortOrdered_int.f k x0 x1 x2).bind fun t651 => (some t651)) else (none)
def slices_pdqsortOrdered_int.f : Nat → List Int → Int → Int → Int → Option (List Int)
 | 0, _, _, _, _ => none
 | k + 1, l0, a1, a2, a3 => slices_pdqsortOrdered_int.l0 k l0 a1 a2
end
theorem slices_pdqsortOrdered_int.calls (k : Nat) : ∀ (P0_ : Nat → Prop) (u9000_ : Value) (l0 : List Int) (a1 : Int) (a2 : Int) (a3 : Int) (r : List Int) (w0 w : World) (hB : Below w0.heap.size w0 w) (ho0 : Kd.R (Kd.int .i64) 3 w w0.heap.size P0_ u9000_ l0) (h : slices_pdqsortOrdered_int.f k l0 a1 a2 a3 = some r),
  Calls Try.prog 125 #[u9000_, .int .i64 a1, .int .i64 a2, .int .i64 a3] w fun e w' => e = .returned (.tuple #[]) ∧ Kd.R (Kd.int .i64) 3 w' w0.heap.size (fun k_ => (P0_ k_ ∨ w.heap.size ≤ k_)) u9000_ r ∧ Below w0.heap.size w0 w' ∧ Kept w w' (fun k_ => P0_ k_) := by
 induction k using Nat.strongRecOn with
 | _ k ih =>
 intro P0_ u9000_ l0 a1 a2 a3 r w0 w hB ho0 h
 cases k with
 | zero => exact absurd h (by simp [slices_pdqsortOrdered_int.f])
 | succ k =>
 simp only [slices_pdqsortOrdered_int.f] at h
 have HO0 := Aside0.mk (show Kd.R (Kd.int .i64) 3 w w0.heap.size (fun k_ => (P0_ k_ ∨ w.heap.size ≤ k_)) u9000_ l0 from Kd.R_mono ho0 (fun k_ hk => (.inl hk)))
 have HK := Aside0.mk (Kept.refl w (fun k_ => P0_ k_))
 have HW0 := Aside0.mk hB.size
 have HB := Aside0.mk hB
 clear hB
 have H := h
 clear h
 have H' := Aside0.mk H
 clear H
 go_enter Try.func125, Try.ntmps125
 go_wp2
 repeat (go_quiet (fail); try go_wp2)
 go_loopg [1, 2] k (fun kq v1 v2 w' => ∃ (x0_1 : List Int) (x1_1 : Int) (x2_1 : Int), v1 = .int .i64 x1_1 ∧ v2 = .int .i64 x2_1 ∧ Aside0 (slices_pdqsortOrdered_int.l0 kq x0_1 x1_1 x2_1 = some r) ∧ Aside0 (kq ≤ k) ∧ Aside0 (Kd.R (Kd.int .i64) 3 w' w0.heap.size (fun k_ => (P0_ k_ ∨ w.heap.size ≤ k_)) u9000_ x0_1) ∧ Aside0 (Kept w w' (fun k_ => P0_ k_)) ∧ Aside0 (Below w0.heap.size w0 w'))
 case atStart => exact ⟨(l0), (a1), (a2), EQ1, EQ1, H', ⟨Nat.le_refl _⟩, ⟨rb HO0.out⟩, ⟨by repeat (first | (with_reducible first | exact HK.out | apply Kept.alloc | apply Kept.drewN | apply Kept.drew) | exact HK.out)⟩, ⟨BA⟩⟩
 case round =>
  clear H'
  obtain ⟨x0_1, x1_1, x2_1, rfl, rfl, HA, HK1, HO_0, HK, HB⟩ := hrel
  cases gk with
  | zero => exact absurd HA.out (by simp [slices_pdqsortOrdered_int.l0])
  | succ k1 =>
   have H := HA.out
   clear HA
   simp only [slices_pdqsortOrdered_int.l0] at H
   obtain ⟨c5, H⟩ := ifs H
   have c5b0 := decide_eq_true c5
   clear c5
   obtain ⟨t651, A6, H⟩ := ob H
   (try dsimp only at H)
   obtain rfl := Option.some.inj H
   obtain ⟨Ao7, co7, eo7⟩ := Kd.R_slice HO_0.out
   subst eo7
   go_wp2_with (first | (go_at_call 129; (with_reducible refine (slices_insertionSortOrdered_int.calls k1 (fun k_ => some k_ = (.slice Ao7 x0_1.length co7 : Value).ownBlock) (.slice Ao7 x0_1.length co7) x0_1 x1_1 x2_1 t651 w0 _ ?side1 ?side2 A6.out).mono ?_); (case side1 => repeat (first | (with_reducible first | exact HB.out | apply below_alloc | apply pw_below_drewN | apply below_drew1) | exact HB.out)); (case side2 => exact Kd.R_tight rfl HO_0.out); rintro e w8 ⟨rfl, hy0, hb, hkp⟩; replace HK := Aside0.mk (Kept.then_ (S := (fun k_ => P0_ k_)) (by repeat (first | (with_reducible first | exact HK.out | apply Kept.alloc | apply Kept.drewN | apply Kept.drew) | exact HK.out)) hkp (fun k_ hs_ => (fun e_ => (HO_0.out.1 k_ e_.symm)) hs_)); replace HO_0 := Aside0.mk (Kd.R_reok rfl hy0 (fun k_ e_ => HO_0.out.1 k_ e_)); replace HB := Aside0.mk (hb); (try clear hb); (try clear hkp); (try clear hy0)))
   repeat (go_quiet (first | (go_at_call 129; (with_reducible refine (slices_insertionSortOrdered_int.calls k1 (fun k_ => some k_ = (.slice Ao7 x0_1.length co7 : Value).ownBlock) (.slice Ao7 x0_1.length co7) x0_1 x1_1 x2_1 t651 w0 _ ?side1 ?side2 A6.out).mono ?_); (case side1 => repeat (first | (with_reducible first | exact HB.out | apply below_alloc | apply pw_below_drewN | apply below_drew1) | exact HB.out)); (case side2 => exact Kd.R_tight rfl HO_0.out); rintro e w8 ⟨rfl, hy0, hb, hkp⟩; replace HK := Aside0.mk (Kept.then_ (S := (fun k_ => P0_ k_)) (by repeat (first | (with_reducible first | exact HK.out | apply Kept.alloc | apply Kept.drewN | apply Kept.drew) | exact HK.out)) hkp (fun k_ hs_ => (fun e_ => (HO_0.out.1 k_ e_.symm)) hs_)); replace HO_0 := Aside0.mk (Kd.R_reok rfl hy0 (fun k_ e_ => HO_0.out.1 k_ e_)); replace HB := Aside0.mk (hb); (try clear hb); (try clear hkp); (try clear hy0))); try go_wp2_with (first | (go_at_call 129; (with_reducible refine (slices_insertionSortOrdered_int.calls k1 (fun k_ => some k_ = (.slice Ao7 x0_1.length co7 : Value).ownBlock) (.slice Ao7 x0_1.length co7) x0_1 x1_1 x2_1 t651 w0 _ ?side1 ?side2 A6.out).mono ?_); (case side1 => repeat (first | (with_reducible first | exact HB.out | apply below_alloc | apply pw_below_drewN | apply below_drew1) | exact HB.out)); (case side2 => exact Kd.R_tight rfl HO_0.out); rintro e w8 ⟨rfl, hy0, hb, hkp⟩; replace HK := Aside0.mk (Kept.then_ (S := (fun k_ => P0_ k_)) (by repeat (first | (with_reducible first | exact HK.out | apply Kept.alloc | apply Kept.drewN | apply Kept.drew) | exact HK.out)) hkp (fun k_ hs_ => (fun e_ => (HO_0.out.1 k_ e_.symm)) hs_)); replace HO_0 := Aside0.mk (Kd.R_reok rfl hy0 (fun k_ e_ => HO_0.out.1 k_ e_)); replace HB := Aside0.mk (hb); (try clear hb); (try clear hkp); (try clear hy0))))
   first | go_end0 | ((try simp only [Exit.inBlock, Exit.then]); refine bodyPost_ret (results_none rfl _ _ _) rfl ?_)
   exact ⟨EQ, rb HO_0.out, BA, by repeat (first | (with_reducible first | exact HK.out | apply Kept.alloc | apply Kept.drewN | apply Kept.drew) | exact HK.out)⟩

/-! ### slices_Sort_int_int: function 118 -/
def slices_Sort_int_int.f (k : Nat) (l0 : List Int) : Option (List Int) := (bits_Len.f (IntKind.u64.wrap ((l0.length : Int)))).bind fun t652 => ((slices_pdqsortOrdered_int.f k l0 0 (l0.length : Int) t652).bind fun t653 => (some t653))
theorem slices_Sort_int_int.calls (k : Nat) (P0_ : Nat → Prop) (u9000_ : Value) (l0 : List Int) (r : List Int) (w0 w : World) (hB : Below w0.heap.size w0 w) (ho0 : Kd.R (Kd.int .i64) 3 w w0.heap.size P0_ u9000_ l0) (h : slices_Sort_int_int.f k l0 = some r) :
  Calls Try.prog 118 #[u9000_] w fun e w' => e = .returned (.tuple #[]) ∧ Kd.R (Kd.int .i64) 3 w' w0.heap.size (fun k_ => (P0_ k_ ∨ w.heap.size ≤ k_)) u9000_ r ∧ Below w0.heap.size w0 w' ∧ Kept w w' (fun k_ => P0_ k_) := by
 have HO0 := Aside0.mk (show Kd.R (Kd.int .i64) 3 w w0.heap.size (fun k_ => (P0_ k_ ∨ w.heap.size ≤ k_)) u9000_ l0 from Kd.R_mono ho0 (fun k_ hk => (.inl hk)))
 have HK := Aside0.mk (Kept.refl w (fun k_ => P0_ k_))
 have HW0 := Aside0.mk hB.size
 have HB := Aside0.mk hB
 clear hB
 have H := h
 clear h
 unfold slices_Sort_int_int.f at H
 obtain ⟨t652, A2, H⟩ := ob H
 (try dsimp only at H)
 obtain ⟨t653, A3, H⟩ := ob H
 (try dsimp only at H)
 obtain rfl := Option.some.inj H
 obtain ⟨Ao4, co4, eo4⟩ := Kd.R_slice HO0.out
 subst eo4
 go_enter Try.func118, Try.ntmps118
 go_wp2_with (first | ((with_reducible refine gate_callee (f := 126) rfl ?_); refine gK (some 9) Try.func126 #[.int .u64 (IntKind.u64.wrap ((l0.length : Int)))] rfl rfl rfl ?_; (with_reducible refine (bits_Len.calls (IntKind.u64.wrap ((l0.length : Int))) t652 _ A2.out).mono ?_); rintro e w' ⟨rfl, ⟨nd, rfl⟩⟩; refine ⟨_, rfl, ?_⟩) | ((with_reducible refine gate_callee (f := 125) rfl ?_); refine gK (some 10) Try.func125 #[.slice Ao4 l0.length co4, .int .i64 0, .int .i64 (l0.length : Int), .int .i64 t652] rfl rfl rfl ?_; (with_reducible refine (slices_pdqsortOrdered_int.calls k (fun k_ => some k_ = (.slice Ao4 l0.length co4 : Value).ownBlock) (.slice Ao4 l0.length co4) l0 0 (l0.length : Int) t652 t653 w0 _ ?side1 ?side2 A3.out).mono ?_); (case side1 => repeat (first | (with_reducible first | exact HB.out | apply below_alloc | apply pw_below_drewN | apply below_drew1) | exact HB.out)); (case side2 => exact Kd.R_tight rfl HO0.out); rintro e w5 ⟨rfl, hy0, hb, hkp⟩; refine ⟨_, rfl, ?_⟩; replace HK := Aside0.mk (Kept.then_ (S := (fun k_ => P0_ k_)) (by repeat (first | (with_reducible first | exact HK.out | apply Kept.alloc | apply Kept.drewN | apply Kept.drew) | exact HK.out)) hkp (fun k_ hs_ => (fun e_ => (HO0.out.1 k_ e_.symm)) hs_)); replace HO0 := Aside0.mk (Kd.R_reok rfl hy0 (fun k_ e_ => HO0.out.1 k_ e_)); replace HB := Aside0.mk (hb); (try clear hb); (try clear hkp); (try clear hy0)))
 first | go_end0 | ((try simp only [Exit.inBlock, Exit.then]); refine bodyPost_ret (results_none rfl _ _ _) rfl ?_)
 exact ⟨EQ, rb HO0.out, BA, by repeat (first | (with_reducible first | exact HK.out | apply Kept.alloc | apply Kept.drewN | apply Kept.drew) | exact HK.out)⟩

end Go.Proofs.Ytlmegefdnkjcbaa.Pa
