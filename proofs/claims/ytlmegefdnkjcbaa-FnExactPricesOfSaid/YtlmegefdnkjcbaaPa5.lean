-- Made by this session's program gen.py over the translation.
import Derived.Test.YtlmegefdnkjcbaaPa0
import Derived.Test.YtlmegefdnkjcbaaPa4
namespace Go.Proofs.Ytlmegefdnkjcbaa.Pa
open Go.RowKit Go.Proofs.YtlmegefdnkjcbaaW.PrintWords Go.Proofs.YtlmegefdnkjcbaaW.PrintLast Go.Proofs.YtlmegefdnkjcbaaW.PrintMore
attribute [local go_sem] max2_int min2_int max_two min_two max_three min_three max_four min_four   -- for this text's walks alone
set_option linter.unusedVariables false
set_option linter.unusedSimpArgs false
set_option maxHeartbeats 8000000
set_option maxRecDepth 100000

/-! ### impl_isTree: function 58 -/
def impl_isTree.f (k : Nat) (l0 : List (S54)) : Option (Bool) := (impl_IsExpr.f k l0).bind fun t444 => (if t444 = true then ((impl_uses.f k l0).bind fun t445 => ((slices_ContainsFunc_int_int__impl_isTree_1.f k t445).bind fun t448 => (some (!t448)))) else (some false))
theorem impl_isTree.calls (k : Nat) (A0 : Option Addr) (c0 : Nat) (l0 : List (S54)) (r : Bool) (w : World) (hr0 : Kd.C k54 w A0 l0.length l0) (hc0 : l0.length ≤ c0) (h : impl_isTree.f k l0 = some r) :
  Calls Try.prog 58 #[.slice A0 l0.length c0] w fun e w' => e = .returned (.bool r) ∧ Below w.heap.size w w' := by
 have HR0 := Aside0.mk hr0
 have HC0 := Aside0.mk hc0
 clear hr0 hc0
 have HB := Aside0.mk (Below.refl w.heap.size w)
 have H := h
 clear h
 unfold impl_isTree.f at H
 obtain ⟨t444, A2, H⟩ := ob H
 (try dsimp only at H)
 by_cases c3 : t444 = true
 ·subst c3
  rw [if_pos rfl] at H
  obtain ⟨t445, A4, H⟩ := ob H
  (try dsimp only at H)
  obtain ⟨t448, A5, H⟩ := ob H
  (try dsimp only at H)
  obtain rfl := Option.some.inj H
  go_enter Try.func58, Try.ntmps58
  go_wp2_with (first | ((with_reducible refine gate_callee (f := 87) rfl ?_); refine gK (some 4) Try.func87 #[.slice A0 l0.length c0] rfl rfl rfl ?_; (with_reducible refine (impl_IsExpr.calls k _ _ l0 true _ ?side1 ?side2 A2.out).mono ?_); (case side1 => exact cb HR0.out); (case side2 => exact HC0.out); rintro e w6 ⟨rfl, hb⟩; refine ⟨_, rfl, ?_⟩; replace HB := bs hb; (try clear hb)) | (go_at_call 89; (with_reducible refine (impl_uses.calls k _ _ l0 t445 _ ?side1 ?side2 A4.out).mono ?_); (case side1 => exact cb (Kd.C_below HR0.out HB.out)); (case side2 => exact HC0.out); rintro e w7 ⟨v446, rfl, ho0, hb⟩; have HO447 := Aside0.mk (Kd.R_lower ho0 (below_size BA)); replace HB := bs hb; (try clear hb); (try clear ho0); obtain ⟨Ao8, co8, eo8⟩ := Kd.R_slice HO447.out; subst eo8) | (go_at_call 88; (with_reducible refine (slices_ContainsFunc_int_int__impl_isTree_1.calls k _ _ t445  t448 _ ?side1 ?side2 A5.out).mono ?_); (case side1 => exact cb (Kd.R_reads' HO447.out).2.2); (case side2 => exact (Kd.R_reads' HO447.out).2.1); rintro e w' ⟨rfl, ⟨nd, rfl⟩⟩))
  go_ret
  exact ⟨EQ, BA⟩
 ·replace c3 := Bool.eq_false_iff.mpr c3
  subst c3
  rw [if_neg (show ¬ (false = true) by decide)] at H
  obtain rfl := Option.some.inj H
  go_enter Try.func58, Try.ntmps58
  go_wp2_with (first | ((with_reducible refine gate_callee (f := 87) rfl ?_); refine gK (some 4) Try.func87 #[.slice A0 l0.length c0] rfl rfl rfl ?_; (with_reducible refine (impl_IsExpr.calls k _ _ l0 false _ ?side1 ?side2 A2.out).mono ?_); (case side1 => exact cb HR0.out); (case side2 => exact HC0.out); rintro e w9 ⟨rfl, hb⟩; refine ⟨_, rfl, ?_⟩; replace HB := bs hb; (try clear hb)))
  go_ret
  exact ⟨EQ, BA⟩

/-! ### impl_formOf: function 101 -/
def impl_formOf.f (a0 : ByteArray) : Option (Bool × Bool × Int × Int × Int × ByteArray × Bool) :=
 if a0.toList = ([110, 111, 116] : List UInt8) then some (true, false, 1, 0, 1, (⟨#[110, 111, 116]⟩ : ByteArray), true) else
 if a0.toList = ([110, 101, 103] : List UInt8) then some (true, false, 1, 0, 1, (⟨#[110, 101, 103]⟩ : ByteArray), true) else
 if a0.toList = ([97, 100, 100] : List UInt8) then some (true, true, 1, 0, 1, (⟨#[97, 100, 100]⟩ : ByteArray), true) else
 if a0.toList = ([115, 117, 98] : List UInt8) then some (true, true, 1, 0, 1, (⟨#[115, 117, 98]⟩ : ByteArray), true) else
 if a0.toList = ([109, 117, 108] : List UInt8) then some (true, true, 1, 0, 4, (⟨#[109, 117, 108]⟩ : ByteArray), true) else
 if a0.toList = ([97, 110, 100] : List UInt8) then some (true, true, 1, 0, 1, (⟨#[97, 110, 100]⟩ : ByteArray), true) else
 if a0.toList = ([111, 114] : List UInt8) then some (true, true, 1, 0, 1, (⟨#[111, 114]⟩ : ByteArray), true) else
 if a0.toList = ([120, 111, 114] : List UInt8) then some (true, true, 1, 0, 1, (⟨#[120, 111, 114]⟩ : ByteArray), true) else
 if a0.toList = ([115, 104, 108] : List UInt8) then some (true, true, 1, 0, 2, (⟨#[115, 104, 108]⟩ : ByteArray), true) else
 if a0.toList = ([115, 104, 114] : List UInt8) then some (true, true, 1, 0, 2, (⟨#[115, 104, 114]⟩ : ByteArray), true) else
 if a0.toList = ([108, 101, 115, 115] : List UInt8) then some (true, true, 1, 0, 1, (⟨#[108, 101, 115, 115]⟩ : ByteArray), true) else
 if a0.toList = ([101, 113] : List UInt8) then some (true, true, 1, 0, 1, (⟨#[101, 113]⟩ : ByteArray), true) else
 none
theorem bytes_of {s t : ByteArray} (h : s.toList = t.data.toList) : s = t := Go.WideShapes.bytes_inj ((ByteArray.toList_eq s).symm.trans h)
theorem gv_bcell {W w1 : World} (hb : Below W.heap.size W w1) : (∀ b o, b < W.heap.size → w1.cell? ⟨b, o, none⟩ = W.cell? ⟨b, o, none⟩) ∧ (∀ b o, b < W.heap.size → w1.frozen? ⟨b, o, none⟩ = W.frozen? ⟨b, o, none⟩) :=
 ⟨fun b o h => hb.cell (p := ⟨b, o, none⟩) h, fun b o h => hb.frozen (p := ⟨b, o, none⟩) h⟩
/-- the ops with two operands, as the program lists them -/
def binL : List ByteArray := [(⟨#[97, 100, 100]⟩ : ByteArray), (⟨#[115, 117, 98]⟩ : ByteArray), (⟨#[109, 117, 108]⟩ : ByteArray), (⟨#[97, 110, 100]⟩ : ByteArray), (⟨#[111, 114]⟩ : ByteArray), (⟨#[120, 111, 114]⟩ : ByteArray), (⟨#[115, 104, 108]⟩ : ByteArray), (⟨#[115, 104, 114]⟩ : ByteArray), (⟨#[108, 101, 115, 115]⟩ : ByteArray), (⟨#[101, 113]⟩ : ByteArray)]
theorem binary_f : impl_binary.f = some binL := rfl
def isBin (s : ByteArray) : Bool := binL.any fun x => s.toList == x.toList
theorem gv_wrap {x : Int} (h0 : -9223372036854775808 ≤ x) (h1 : x ≤ 9223372036854775807) : wrap64 x = x := by unfold wrap64; omega
theorem gv_index (l : List ByteArray) (s : ByteArray) (hl : l.length ≤ 9223372036854775000) : ∀ (d : Nat) (i : Nat), i + d = l.length →
  ∃ r : Int, Ev (fun k => slices_Index_string_string.l0 k l s (l.length : Int) (i : Int)) r ∧ (0 ≤ r ↔ (l.drop i).any (fun x => s.toList == x.toList) = true) := by
 intro d
 induction d with
 | zero =>
  intro i h
  refine ⟨-1, Ev.step (fun k => by rw [slices_Index_string_string.l0]) (Ev.congr (fun k => if_neg (by omega)) (Ev.now _)), ?_⟩
  rw [List.drop_eq_nil_of_le (by omega)]; simp
 | succ d ih =>
  intro i h
  have hd : l.drop i = l[i] :: l.drop (i + 1) := List.drop_eq_getElem_cons (by omega)
  have hr : rdOf ByteArray.empty l (i : Int) = l[i] := by unfold rdOf; simp [List.getD_eq_getElem?_getD, List.getElem?_eq_getElem (show i < l.length by omega)]
  by_cases c : s.toList = l[i].toList
  ·refine ⟨i, Ev.step (fun k => by rw [slices_Index_string_string.l0, if_pos (by omega), if_pos (by omega), if_pos (by omega), if_pos (by rw [hr]; exact c)]) (Ev.now _), ?_⟩
   rw [hd, List.any_cons]; simp [c]
  ·obtain ⟨r, hev, hiff⟩ := ih (i + 1) (by omega)
   refine ⟨r, Ev.step (fun k => by rw [slices_Index_string_string.l0, if_pos (by omega), if_pos (by omega), if_pos (by omega), if_neg (by rw [hr]; exact c), gv_wrap (by omega) (by omega)]; rfl) hev, ?_⟩
   rw [hd, hiff, List.any_cons]; simp [c]
theorem gv_contains (l : List ByteArray) (s : ByteArray) (hl : l.length ≤ 9223372036854775000) : Ev (fun k => slices_Contains_string_string.f k l s) (l.any (fun x => s.toList == x.toList)) := by
 obtain ⟨r, hev, hiff⟩ := gv_index l s hl l.length 0 (by omega)
 obtain ⟨K, hev⟩ := hev
 refine ⟨K, fun k hk => ?_⟩
 unfold slices_Contains_string_string.f slices_Index_string_string.f
 rw [show ((0 : Nat) : Int) = 0 from rfl] at hev
 show (slices_Index_string_string.l0 k l s (l.length : Int) 0).bind _ = _
 rw [show slices_Index_string_string.l0 k l s (l.length : Int) 0 = some r from hev k hk, Option.bind_some, Option.some.injEq, Bool.eq_iff_iff, decide_eq_true_iff]
 exact hiff
theorem isBin_ev (s : ByteArray) : ∃ k, slices_Contains_string_string.f k binL s = some (isBin s) := (gv_contains binL s (by decide)).rounds
theorem binary_calls (w : World) : Calls Try.prog 116 #[] w fun e w' => ∃ A c, e = .returned (.slice A 10 c) ∧ 10 ≤ c ∧ Kd.C Kd.string w' A 10 binL ∧ Below w.heap.size w w' :=
 (impl_binary.calls binL w binary_f).mono fun e w' h => by
  obtain ⟨v, he, ho, hb⟩ := h
  obtain ⟨A, c, rfl, hl, hr⟩ := Kd.R_reads ho
  exact ⟨A, c, he, hl, hr, hb⟩
theorem has_calls (A : Option Addr) (c : Nat) (s : ByteArray) (w : World) (hc : 10 ≤ c) (hr : Kd.C Kd.string w A 10 binL) : Calls Try.prog 115 #[.slice A 10 c, .string s] w fun e w' => e = .returned (.bool (isBin s)) ∧ Drawn0 w w' := by
 obtain ⟨k, hk⟩ := isBin_ev s
 exact slices_Contains_string_string.calls k A c binL s (isBin s) w hr hc hk
set_option maxHeartbeats 4000000 in
set_option maxRecDepth 100000 in
theorem formOf_bin (a0 : ByteArray) (w : World) (h0 : (a0.toList == ([115, 101, 116] : List UInt8)) = false) (h1 : (a0.toList == ([109, 111, 118] : List UInt8)) = false) (h2 : (a0.toList == ([110, 111, 116] : List UInt8)) = false) (h3 : (a0.toList == ([110, 101, 103] : List UInt8)) = false) (h4 : (a0.toList == ([115, 104, 108] : List UInt8)) = false) (h5 : (a0.toList == ([115, 104, 114] : List UInt8)) = false) (h6 : (a0.toList == ([109, 117, 108] : List UInt8)) = false) (hB : isBin a0 = true) : Calls Try.prog 101 #[.string a0] w fun e w' => e = .returned (.tuple #[.agg #[.bool true, .bool true, .int .i64 1, .int .i64 0, .int .i64 1, .string a0], .bool true]) ∧ Below w.heap.size w w' := by
 have hu := Try.underlying93
 go_enter Try.func101, Try.ntmps101
 go_wp2_with (first | (go_at_call 116; refine (binary_calls _).mono ?_; rintro e w1 ⟨A, c, rfl, hc, hr, hb⟩; obtain ⟨hc1, hf1⟩ := gv_bcell hb) | (go_at_call 115; refine (has_calls _ _ _ _ (by assumption) (by assumption)).mono ?_; rintro e w2 ⟨rfl, ⟨n, rfl⟩⟩))
 have B0 : w1.heap[w.heap.size]? = some (.cells #[.bool false, .bool false, .int .i64 0, .int .i64 0, .int .i64 0, .string (⟨#[]⟩ : ByteArray)] 93 (0, 0)) := blk_below (blk_alloc (blk_new w _) _) hb
 refine bodyPost_ret (v := .tuple #[.agg #[.bool true, .bool true, .int .i64 1, .int .i64 0, .int .i64 1, .string a0], .bool true]) ?_ rfl ⟨rfl, ?_⟩
 ·refine (results_ct (p := 2) (u := 3) (ty := 93) rfl _ _ w.heap.size 93 #[.bool true, .bool true, .int .i64 1, .int .i64 0, .int .i64 1, .string a0] (0, 0) _ rfl ?_ Try.underlying93 rfl (by kernel_rfl))
  with_reducible refine blk_put (cs := #[.bool true, .bool true, .int .i64 1, .int .i64 0, .int .i64 1, .string (⟨#[]⟩ : ByteArray)]) ?_ 5 _ rfl
  with_reducible refine blk_put (cs := #[.bool true, .bool true, .int .i64 1, .int .i64 0, .int .i64 0, .string (⟨#[]⟩ : ByteArray)]) ?_ 4 _ rfl
  with_reducible refine blk_put (cs := #[.bool true, .bool true, .int .i64 1, .int .i64 0, .int .i64 0, .string (⟨#[]⟩ : ByteArray)]) ?_ 3 _ rfl
  with_reducible refine blk_put (cs := #[.bool true, .bool true, .int .i64 0, .int .i64 0, .int .i64 0, .string (⟨#[]⟩ : ByteArray)]) ?_ 2 _ rfl
  with_reducible refine blk_put (cs := #[.bool true, .bool false, .int .i64 0, .int .i64 0, .int .i64 0, .string (⟨#[]⟩ : ByteArray)]) ?_ 1 _ rfl
  with_reducible refine blk_put (cs := #[.bool false, .bool false, .int .i64 0, .int .i64 0, .int .i64 0, .string (⟨#[]⟩ : ByteArray)]) ?_ 0 _ rfl
  repeat (with_reducible refine blk_far ?_ (by simp) _)
  with_reducible exact blk_drewN B0 _
 repeat (refine below_set ?_ (by omega))
 refine pw_below_drewN ?_ _
 exact below_then (((Below.refl _ _).alloc (Nat.le_refl _) _).alloc (by simp) _) (by simp; omega) hb
set_option maxHeartbeats 4000000 in
set_option maxRecDepth 100000 in
theorem formOf_not (w : World) : Calls Try.prog 101 #[.string (⟨#[110, 111, 116]⟩ : ByteArray)] w fun e w' => e = .returned (.tuple #[.agg #[.bool true, .bool false, .int .i64 1, .int .i64 0, .int .i64 1, .string (⟨#[110, 111, 116]⟩ : ByteArray)], .bool true]) ∧ Below w.heap.size w w' := by
 have hu := Try.underlying93
 go_enter Try.func101, Try.ntmps101
 go_wp2
 refine bodyPost_ret (v := .tuple #[.agg #[.bool true, .bool false, .int .i64 1, .int .i64 0, .int .i64 1, .string (⟨#[110, 111, 116]⟩ : ByteArray)], .bool true]) ?_ rfl ⟨rfl, ?_⟩
 ·refine (results_ct (p := 2) (u := 3) (ty := 93) rfl _ _ w.heap.size 93 #[.bool true, .bool false, .int .i64 1, .int .i64 0, .int .i64 1, .string (⟨#[110, 111, 116]⟩ : ByteArray)] (0, 0) _ rfl ?_ Try.underlying93 rfl (by kernel_rfl))
  exact blk_alloc (blk_new w _) _
 exact ((Below.refl _ _).alloc (Nat.le_refl _) _).alloc (by simp) _
set_option maxHeartbeats 4000000 in
set_option maxRecDepth 100000 in
theorem formOf_neg (w : World) : Calls Try.prog 101 #[.string (⟨#[110, 101, 103]⟩ : ByteArray)] w fun e w' => e = .returned (.tuple #[.agg #[.bool true, .bool false, .int .i64 1, .int .i64 0, .int .i64 1, .string (⟨#[110, 101, 103]⟩ : ByteArray)], .bool true]) ∧ Below w.heap.size w w' := by
 have hu := Try.underlying93
 go_enter Try.func101, Try.ntmps101
 go_wp2
 refine bodyPost_ret (v := .tuple #[.agg #[.bool true, .bool false, .int .i64 1, .int .i64 0, .int .i64 1, .string (⟨#[110, 101, 103]⟩ : ByteArray)], .bool true]) ?_ rfl ⟨rfl, ?_⟩
 ·refine (results_ct (p := 2) (u := 3) (ty := 93) rfl _ _ w.heap.size 93 #[.bool true, .bool false, .int .i64 1, .int .i64 0, .int .i64 1, .string (⟨#[110, 101, 103]⟩ : ByteArray)] (0, 0) _ rfl ?_ Try.underlying93 rfl (by kernel_rfl))
  exact blk_alloc (blk_new w _) _
 exact ((Below.refl _ _).alloc (Nat.le_refl _) _).alloc (by simp) _
set_option maxHeartbeats 4000000 in
set_option maxRecDepth 100000 in
theorem formOf_mul (w : World) : Calls Try.prog 101 #[.string (⟨#[109, 117, 108]⟩ : ByteArray)] w fun e w' => e = .returned (.tuple #[.agg #[.bool true, .bool true, .int .i64 1, .int .i64 0, .int .i64 4, .string (⟨#[109, 117, 108]⟩ : ByteArray)], .bool true]) ∧ Below w.heap.size w w' := by
 have hB : isBin (⟨#[109, 117, 108]⟩ : ByteArray) = true := by unfold isBin binL; simp [ByteArray.toList_eq]
 have hu := Try.underlying93
 go_enter Try.func101, Try.ntmps101
 go_wp2_with (first | (go_at_call 116; refine (binary_calls _).mono ?_; rintro e w1 ⟨A, c, rfl, hc, hr, hb⟩; obtain ⟨hc1, hf1⟩ := gv_bcell hb) | (go_at_call 115; refine (has_calls _ _ _ _ (by assumption) (by assumption)).mono ?_; rintro e w2 ⟨rfl, ⟨n, rfl⟩⟩))
 have B0 : w1.heap[w.heap.size]? = some (.cells #[.bool false, .bool false, .int .i64 0, .int .i64 0, .int .i64 0, .string (⟨#[]⟩ : ByteArray)] 93 (0, 0)) := blk_below (blk_alloc (blk_new w _) _) hb
 refine bodyPost_ret (v := .tuple #[.agg #[.bool true, .bool true, .int .i64 1, .int .i64 0, .int .i64 4, .string (⟨#[109, 117, 108]⟩ : ByteArray)], .bool true]) ?_ rfl ⟨rfl, ?_⟩
 ·refine (results_ct (p := 2) (u := 3) (ty := 93) rfl _ _ w.heap.size 93 #[.bool true, .bool true, .int .i64 1, .int .i64 0, .int .i64 4, .string (⟨#[109, 117, 108]⟩ : ByteArray)] (0, 0) _ rfl ?_ Try.underlying93 rfl (by kernel_rfl))
  with_reducible refine blk_put (cs := #[.bool true, .bool true, .int .i64 1, .int .i64 0, .int .i64 4, .string (⟨#[]⟩ : ByteArray)]) ?_ 5 _ rfl
  with_reducible refine blk_put (cs := #[.bool true, .bool true, .int .i64 1, .int .i64 0, .int .i64 0, .string (⟨#[]⟩ : ByteArray)]) ?_ 4 _ rfl
  with_reducible refine blk_put (cs := #[.bool true, .bool true, .int .i64 1, .int .i64 0, .int .i64 0, .string (⟨#[]⟩ : ByteArray)]) ?_ 3 _ rfl
  with_reducible refine blk_put (cs := #[.bool true, .bool true, .int .i64 0, .int .i64 0, .int .i64 0, .string (⟨#[]⟩ : ByteArray)]) ?_ 2 _ rfl
  with_reducible refine blk_put (cs := #[.bool true, .bool false, .int .i64 0, .int .i64 0, .int .i64 0, .string (⟨#[]⟩ : ByteArray)]) ?_ 1 _ rfl
  with_reducible refine blk_put (cs := #[.bool false, .bool false, .int .i64 0, .int .i64 0, .int .i64 0, .string (⟨#[]⟩ : ByteArray)]) ?_ 0 _ rfl
  repeat (with_reducible refine blk_far ?_ (by simp) _)
  with_reducible exact blk_drewN B0 _
 repeat (refine below_set ?_ (by omega))
 refine pw_below_drewN ?_ _
 exact below_then (((Below.refl _ _).alloc (Nat.le_refl _) _).alloc (by simp) _) (by simp; omega) hb
set_option maxHeartbeats 4000000 in
set_option maxRecDepth 100000 in
theorem formOf_shl (w : World) : Calls Try.prog 101 #[.string (⟨#[115, 104, 108]⟩ : ByteArray)] w fun e w' => e = .returned (.tuple #[.agg #[.bool true, .bool true, .int .i64 1, .int .i64 0, .int .i64 2, .string (⟨#[115, 104, 108]⟩ : ByteArray)], .bool true]) ∧ Below w.heap.size w w' := by
 have hB : isBin (⟨#[115, 104, 108]⟩ : ByteArray) = true := by unfold isBin binL; simp [ByteArray.toList_eq]
 have hu := Try.underlying93
 go_enter Try.func101, Try.ntmps101
 go_wp2_with (first | (go_at_call 116; refine (binary_calls _).mono ?_; rintro e w1 ⟨A, c, rfl, hc, hr, hb⟩; obtain ⟨hc1, hf1⟩ := gv_bcell hb) | (go_at_call 115; refine (has_calls _ _ _ _ (by assumption) (by assumption)).mono ?_; rintro e w2 ⟨rfl, ⟨n, rfl⟩⟩))
 have B0 : w1.heap[w.heap.size]? = some (.cells #[.bool false, .bool false, .int .i64 0, .int .i64 0, .int .i64 0, .string (⟨#[]⟩ : ByteArray)] 93 (0, 0)) := blk_below (blk_alloc (blk_new w _) _) hb
 refine bodyPost_ret (v := .tuple #[.agg #[.bool true, .bool true, .int .i64 1, .int .i64 0, .int .i64 2, .string (⟨#[115, 104, 108]⟩ : ByteArray)], .bool true]) ?_ rfl ⟨rfl, ?_⟩
 ·refine (results_ct (p := 2) (u := 3) (ty := 93) rfl _ _ w.heap.size 93 #[.bool true, .bool true, .int .i64 1, .int .i64 0, .int .i64 2, .string (⟨#[115, 104, 108]⟩ : ByteArray)] (0, 0) _ rfl ?_ Try.underlying93 rfl (by kernel_rfl))
  with_reducible refine blk_put (cs := #[.bool true, .bool true, .int .i64 1, .int .i64 0, .int .i64 2, .string (⟨#[]⟩ : ByteArray)]) ?_ 5 _ rfl
  with_reducible refine blk_put (cs := #[.bool true, .bool true, .int .i64 1, .int .i64 0, .int .i64 0, .string (⟨#[]⟩ : ByteArray)]) ?_ 4 _ rfl
  with_reducible refine blk_put (cs := #[.bool true, .bool true, .int .i64 1, .int .i64 0, .int .i64 0, .string (⟨#[]⟩ : ByteArray)]) ?_ 3 _ rfl
  with_reducible refine blk_put (cs := #[.bool true, .bool true, .int .i64 0, .int .i64 0, .int .i64 0, .string (⟨#[]⟩ : ByteArray)]) ?_ 2 _ rfl
  with_reducible refine blk_put (cs := #[.bool true, .bool false, .int .i64 0, .int .i64 0, .int .i64 0, .string (⟨#[]⟩ : ByteArray)]) ?_ 1 _ rfl
  with_reducible refine blk_put (cs := #[.bool false, .bool false, .int .i64 0, .int .i64 0, .int .i64 0, .string (⟨#[]⟩ : ByteArray)]) ?_ 0 _ rfl
  repeat (with_reducible refine blk_far ?_ (by simp) _)
  with_reducible exact blk_drewN B0 _
 repeat (refine below_set ?_ (by omega))
 refine pw_below_drewN ?_ _
 exact below_then (((Below.refl _ _).alloc (Nat.le_refl _) _).alloc (by simp) _) (by simp; omega) hb
set_option maxHeartbeats 4000000 in
set_option maxRecDepth 100000 in
theorem formOf_shr (w : World) : Calls Try.prog 101 #[.string (⟨#[115, 104, 114]⟩ : ByteArray)] w fun e w' => e = .returned (.tuple #[.agg #[.bool true, .bool true, .int .i64 1, .int .i64 0, .int .i64 2, .string (⟨#[115, 104, 114]⟩ : ByteArray)], .bool true]) ∧ Below w.heap.size w w' := by
 have hB : isBin (⟨#[115, 104, 114]⟩ : ByteArray) = true := by unfold isBin binL; simp [ByteArray.toList_eq]
 have hu := Try.underlying93
 go_enter Try.func101, Try.ntmps101
 go_wp2_with (first | (go_at_call 116; refine (binary_calls _).mono ?_; rintro e w1 ⟨A, c, rfl, hc, hr, hb⟩; obtain ⟨hc1, hf1⟩ := gv_bcell hb) | (go_at_call 115; refine (has_calls _ _ _ _ (by assumption) (by assumption)).mono ?_; rintro e w2 ⟨rfl, ⟨n, rfl⟩⟩))
 have B0 : w1.heap[w.heap.size]? = some (.cells #[.bool false, .bool false, .int .i64 0, .int .i64 0, .int .i64 0, .string (⟨#[]⟩ : ByteArray)] 93 (0, 0)) := blk_below (blk_alloc (blk_new w _) _) hb
 refine bodyPost_ret (v := .tuple #[.agg #[.bool true, .bool true, .int .i64 1, .int .i64 0, .int .i64 2, .string (⟨#[115, 104, 114]⟩ : ByteArray)], .bool true]) ?_ rfl ⟨rfl, ?_⟩
 ·refine (results_ct (p := 2) (u := 3) (ty := 93) rfl _ _ w.heap.size 93 #[.bool true, .bool true, .int .i64 1, .int .i64 0, .int .i64 2, .string (⟨#[115, 104, 114]⟩ : ByteArray)] (0, 0) _ rfl ?_ Try.underlying93 rfl (by kernel_rfl))
  with_reducible refine blk_put (cs := #[.bool true, .bool true, .int .i64 1, .int .i64 0, .int .i64 2, .string (⟨#[]⟩ : ByteArray)]) ?_ 5 _ rfl
  with_reducible refine blk_put (cs := #[.bool true, .bool true, .int .i64 1, .int .i64 0, .int .i64 0, .string (⟨#[]⟩ : ByteArray)]) ?_ 4 _ rfl
  with_reducible refine blk_put (cs := #[.bool true, .bool true, .int .i64 1, .int .i64 0, .int .i64 0, .string (⟨#[]⟩ : ByteArray)]) ?_ 3 _ rfl
  with_reducible refine blk_put (cs := #[.bool true, .bool true, .int .i64 0, .int .i64 0, .int .i64 0, .string (⟨#[]⟩ : ByteArray)]) ?_ 2 _ rfl
  with_reducible refine blk_put (cs := #[.bool true, .bool false, .int .i64 0, .int .i64 0, .int .i64 0, .string (⟨#[]⟩ : ByteArray)]) ?_ 1 _ rfl
  with_reducible refine blk_put (cs := #[.bool false, .bool false, .int .i64 0, .int .i64 0, .int .i64 0, .string (⟨#[]⟩ : ByteArray)]) ?_ 0 _ rfl
  repeat (with_reducible refine blk_far ?_ (by simp) _)
  with_reducible exact blk_drewN B0 _
 repeat (refine below_set ?_ (by omega))
 refine pw_below_drewN ?_ _
 exact below_then (((Below.refl _ _).alloc (Nat.le_refl _) _).alloc (by simp) _) (by simp; omega) hb
theorem formOf_one {t : ByteArray} (w : World) (h : t = (⟨#[97, 100, 100]⟩ : ByteArray) ∨ t = (⟨#[115, 117, 98]⟩ : ByteArray) ∨ t = (⟨#[97, 110, 100]⟩ : ByteArray) ∨ t = (⟨#[111, 114]⟩ : ByteArray) ∨ t = (⟨#[120, 111, 114]⟩ : ByteArray) ∨ t = (⟨#[108, 101, 115, 115]⟩ : ByteArray) ∨ t = (⟨#[101, 113]⟩ : ByteArray)) : Calls Try.prog 101 #[.string t] w fun e w' => e = .returned (.tuple #[.agg #[.bool true, .bool true, .int .i64 1, .int .i64 0, .int .i64 1, .string t], .bool true]) ∧ Below w.heap.size w w' := by
 rcases h with rfl | rfl | rfl | rfl | rfl | rfl | rfl <;> exact formOf_bin _ w (by simp [ByteArray.toList_eq]) (by simp [ByteArray.toList_eq]) (by simp [ByteArray.toList_eq]) (by simp [ByteArray.toList_eq]) (by simp [ByteArray.toList_eq]) (by simp [ByteArray.toList_eq]) (by simp [ByteArray.toList_eq]) (by unfold isBin binL; simp [ByteArray.toList_eq])
theorem impl_formOf.calls (a0 : ByteArray) (r1 : Bool) (r2 : Bool) (r3 : Int) (r4 : Int) (r5 : Int) (r6 : ByteArray) (r7 : Bool) (w : World) (h : impl_formOf.f a0 = some (r1, r2, r3, r4, r5, r6, r7)) :
  Calls Try.prog 101 #[.string a0] w fun e w' => e = .returned (.tuple #[.agg #[.bool r1, .bool r2, .int .i64 r3, .int .i64 r4, .int .i64 r5, .string r6], .bool r7]) ∧ Below w.heap.size w w' := by
 unfold impl_formOf.f at h
 by_cases c0 : a0.toList = ([110, 111, 116] : List UInt8)
 ·rw [if_pos c0] at h
  simp only [Option.some.injEq, Prod.mk.injEq] at h
  obtain ⟨rfl, rfl, rfl, rfl, rfl, rfl, rfl⟩ := h
  obtain rfl := bytes_of (t := (⟨#[110, 111, 116]⟩ : ByteArray)) c0
  exact formOf_not w
 rw [if_neg c0] at h
 by_cases c1 : a0.toList = ([110, 101, 103] : List UInt8)
 ·rw [if_pos c1] at h
  simp only [Option.some.injEq, Prod.mk.injEq] at h
  obtain ⟨rfl, rfl, rfl, rfl, rfl, rfl, rfl⟩ := h
  obtain rfl := bytes_of (t := (⟨#[110, 101, 103]⟩ : ByteArray)) c1
  exact formOf_neg w
 rw [if_neg c1] at h
 by_cases c2 : a0.toList = ([97, 100, 100] : List UInt8)
 ·rw [if_pos c2] at h
  simp only [Option.some.injEq, Prod.mk.injEq] at h
  obtain ⟨rfl, rfl, rfl, rfl, rfl, rfl, rfl⟩ := h
  obtain rfl := bytes_of (t := (⟨#[97, 100, 100]⟩ : ByteArray)) c2
  exact formOf_one w (by simp)
 rw [if_neg c2] at h
 by_cases c3 : a0.toList = ([115, 117, 98] : List UInt8)
 ·rw [if_pos c3] at h
  simp only [Option.some.injEq, Prod.mk.injEq] at h
  obtain ⟨rfl, rfl, rfl, rfl, rfl, rfl, rfl⟩ := h
  obtain rfl := bytes_of (t := (⟨#[115, 117, 98]⟩ : ByteArray)) c3
  exact formOf_one w (by simp)
 rw [if_neg c3] at h
 by_cases c4 : a0.toList = ([109, 117, 108] : List UInt8)
 ·rw [if_pos c4] at h
  simp only [Option.some.injEq, Prod.mk.injEq] at h
  obtain ⟨rfl, rfl, rfl, rfl, rfl, rfl, rfl⟩ := h
  obtain rfl := bytes_of (t := (⟨#[109, 117, 108]⟩ : ByteArray)) c4
  exact formOf_mul w
 rw [if_neg c4] at h
 by_cases c5 : a0.toList = ([97, 110, 100] : List UInt8)
 ·rw [if_pos c5] at h
  simp only [Option.some.injEq, Prod.mk.injEq] at h
  obtain ⟨rfl, rfl, rfl, rfl, rfl, rfl, rfl⟩ := h
  obtain rfl := bytes_of (t := (⟨#[97, 110, 100]⟩ : ByteArray)) c5
  exact formOf_one w (by simp)
 rw [if_neg c5] at h
 by_cases c6 : a0.toList = ([111, 114] : List UInt8)
 ·rw [if_pos c6] at h
  simp only [Option.some.injEq, Prod.mk.injEq] at h
  obtain ⟨rfl, rfl, rfl, rfl, rfl, rfl, rfl⟩ := h
  obtain rfl := bytes_of (t := (⟨#[111, 114]⟩ : ByteArray)) c6
  exact formOf_one w (by simp)
 rw [if_neg c6] at h
 by_cases c7 : a0.toList = ([120, 111, 114] : List UInt8)
 ·rw [if_pos c7] at h
  simp only [Option.some.injEq, Prod.mk.injEq] at h
  obtain ⟨rfl, rfl, rfl, rfl, rfl, rfl, rfl⟩ := h
  obtain rfl := bytes_of (t := (⟨#[120, 111, 114]⟩ : ByteArray)) c7
  exact formOf_one w (by simp)
 rw [if_neg c7] at h
 by_cases c8 : a0.toList = ([115, 104, 108] : List UInt8)
 ·rw [if_pos c8] at h
  simp only [Option.some.injEq, Prod.mk.injEq] at h
  obtain ⟨rfl, rfl, rfl, rfl, rfl, rfl, rfl⟩ := h
  obtain rfl := bytes_of (t := (⟨#[115, 104, 108]⟩ : ByteArray)) c8
  exact formOf_shl w
 rw [if_neg c8] at h
 by_cases c9 : a0.toList = ([115, 104, 114] : List UInt8)
 ·rw [if_pos c9] at h
  simp only [Option.some.injEq, Prod.mk.injEq] at h
  obtain ⟨rfl, rfl, rfl, rfl, rfl, rfl, rfl⟩ := h
  obtain rfl := bytes_of (t := (⟨#[115, 104, 114]⟩ : ByteArray)) c9
  exact formOf_shr w
 rw [if_neg c9] at h
 by_cases c10 : a0.toList = ([108, 101, 115, 115] : List UInt8)
 ·rw [if_pos c10] at h
  simp only [Option.some.injEq, Prod.mk.injEq] at h
  obtain ⟨rfl, rfl, rfl, rfl, rfl, rfl, rfl⟩ := h
  obtain rfl := bytes_of (t := (⟨#[108, 101, 115, 115]⟩ : ByteArray)) c10
  exact formOf_one w (by simp)
 rw [if_neg c10] at h
 by_cases c11 : a0.toList = ([101, 113] : List UInt8)
 ·rw [if_pos c11] at h
  simp only [Option.some.injEq, Prod.mk.injEq] at h
  obtain ⟨rfl, rfl, rfl, rfl, rfl, rfl, rfl⟩ := h
  obtain rfl := bytes_of (t := (⟨#[101, 113]⟩ : ByteArray)) c11
  exact formOf_one w (by simp)
 rw [if_neg c11] at h
 exact absurd h (by simp)

/-! ### impl_power: function 117 -/
def impl_power.l0 : Nat → Int → Int → Option (Int)
 | 0, _, _ => none
 | k + 1, x0, x3 => if x3 < 6 then (if 0 ≤ x3 then (if x0 = (shl .i64 1 x3) then (some x3) else (impl_power.l0 k x0 (wrap64 (x3 + 1)))) else (none)) else (some 0)
def impl_power.f (k : Nat) (a0 : Int) : Option (Int) := impl_power.l0 k a0 1
theorem impl_power.calls (k : Nat) (a0 : Int) (r : Int) (w : World) (h : impl_power.f k a0 = some r) :
  Calls Try.prog 117 #[.int .i64 a0] w fun e w' => e = .returned (.int .i64 r) ∧ Drawn0 w w' := by
 have H := h
 clear h
 unfold impl_power.f at H
 have H' := Aside0.mk H
 clear H
 go_enter Try.func117, Try.ntmps117
 go_wp2
 go_loopg [3] k (fun kq v3 w' => ∃ (x3_1 : Int), v3 = .int .i64 x3_1 ∧ Aside0 (impl_power.l0 kq a0 x3_1 = some r) ∧ Aside0 (kq ≤ k) ∧ Drawn0 w w')
 case atStart => exact ⟨(1), EQ1, H', ⟨Nat.le_refl _⟩, DA⟩
 case round =>
  clear H'
  obtain ⟨x3_1, rfl, HA, HK1, ⟨m1, rfl⟩⟩ := hrel
  cases gk with
  | zero => exact absurd HA.out (by simp [impl_power.l0])
  | succ k1 =>
   have H := HA.out
   clear HA
   simp only [impl_power.l0] at H
   by_cases c2 : x3_1 < 6
   ·rw [if_pos c2] at H
    have c2b0 := decide_eq_true c2
    clear c2
    obtain ⟨c3, H⟩ := ifs H
    have c3b0 := eq_true c3
    have c3b1 := decide_eq_true c3
    clear c3
    obtain ⟨ji4, hji4⟩ : ∃ j_ : Int, (shl .i64 1 x3_1) = j_ := ⟨_, rfl⟩
    replace H : (if a0 = (ji4) then (some x3_1) else (impl_power.l0 k1 a0 (wrap64 (x3_1 + 1)))) = some r := by first | (rw [hji4] at H; exact H) | (simp only [hji4] at H ⊢; exact H)
    have hji4_ : (IntKind.i64.wrap (1 * 2 ^ min x3_1.toNat 64)) = ji4 := hji4
    have hji4z : x3_1 ≤ 64 → (IntKind.i64.wrap (1 * 2 ^ x3_1.toNat)) = ji4 := shl_small hji4
    have hji4u : (IntKind.i64.wrap (2 ^ min x3_1.toNat 64)) = ji4 := by have h_ := hji4_; rw [Int.one_mul] at h_; exact h_
    have hji4v : x3_1 ≤ 64 → (IntKind.i64.wrap (2 ^ x3_1.toNat)) = ji4 := fun hle_ => by have h_ := hji4z hle_; rw [Int.one_mul] at h_; exact h_
    have hji4y : (wrap64 (1 * 2 ^ min x3_1.toNat 64)) = ji4 := (i64_w _).symm.trans hji4_
    have hji4x : x3_1 ≤ 64 → (wrap64 (1 * 2 ^ x3_1.toNat)) = ji4 := fun h_ => (i64_w _).symm.trans (hji4z h_)
    by_cases c5 : a0 = (ji4)
    ·rw [if_pos c5] at H
     have c5b0 := beq_iff_eq.mpr c5
     have c5b1 := bne_eq_false_iff_eq.mpr c5
     clear c5
     obtain rfl := Option.some.inj H
     go_wp2
     go_ret
     exact ⟨by first | rfl | (simp; done) | (simp only [← hji4] <;> (first | rfl | simp)) | (simp [*]; done), DA⟩
    ·rw [if_neg c5] at H
     have c5b0 := beq_eq_false_iff_ne.mpr c5
     have c5b1 := bne_iff_ne.mpr c5
     have H' := Aside0.mk H
     clear H
     go_wp2
     go_roundg k1
     case measure => have := HK1.out; omega
     case rel => exact ⟨(wrap64 (x3_1 + 1)), EQ1, H', ⟨by have := HK1.out; omega⟩, DA⟩
   ·rw [if_neg c2] at H
    have c2b0 := decide_eq_false c2
    clear c2
    obtain rfl := Option.some.inj H
    go_wp2
    go_ret
    exact ⟨EQ1, DA⟩

/-! ### impl_constTile_at4: function 102 -/
def impl_constTile_at4.f (k : Nat) (l0 : List (S54)) (a1_0 : ByteArray) (a1_1 : Int) (a1_2 : Int) (a1_3 : Int)  : Option (List Int × List Int × Int × Bool) := if 0 ≤ a1_2 then (if a1_2 < (l0.length : Int) then ((some (([a1_1] : List Int) : List Int)).bind fun y455 => ((some (([a1_2] : List Int) : List Int)).bind fun y458 => ((slices_Contains_string_string.f k (([(⟨#[97, 100, 100]⟩ : ByteArray), (⟨#[115, 117, 98]⟩ : ByteArray), (⟨#[97, 110, 100]⟩ : ByteArray), (⟨#[120, 111, 114]⟩ : ByteArray)] : List ByteArray)) a1_0).bind fun t461 => (if t461 = true then (if ((rd_T54 l0 a1_2).f0).toList = ([99, 111, 110, 115, 116] : List UInt8) then (some (y455, y458, 1, true)) else (some (y455, y458, 1, false))) else (some (y455, y458, 1, false)))))) else (none)) else (none)
def impl_constTile_at4.T1 : Bool × List (List Nat × List Nat) := (true, [([], []), ([0], [0]), ([], []), ([2], [2]), ([], []), ([1, 0, 1], [1]), ([3, 5, 0, 1, 2, 3, 5], [3]), ([4, 6, 0, 1, 2, 3, 4, 5, 6], [4])])
def impl_constTile_at4.B1 : List Nat := [0, 1, 0, 4, 0, 3, 47, 127]
theorem dsc (w : World) (n : Nat) (p : Addr) (v : Value) : (w.drewN n).setCell p v = (w.setCell p v).drewN n := rfl
theorem impl_constTile_at4.tab1 : rtab .any (opsOf Try.f102 1) = impl_constTile_at4.T1 := by kernel_rfl
theorem impl_constTile_at4.bits1 : waitsOk impl_constTile_at4.T1.2 impl_constTile_at4.B1 = true := by kernel_rfl
theorem impl_constTile_at4.calls (k : Nat) (A0 : Option Addr) (c0 : Nat) (l0 : List (S54)) (a1_0 : ByteArray) (a1_1 : Int) (a1_2 : Int) (a1_3 : Int)  (r1 : List Int) (r2 : List Int) (r3 : Int) (r4 : Bool) (w : World) (hr0 : Kd.C k54 w A0 l0.length l0) (hc0 : l0.length ≤ c0) (h : impl_constTile_at4.f k l0 a1_0 a1_1 a1_2 a1_3 = some (r1, r2, r3, r4)) :
  Calls Try.prog 102 #[.slice A0 l0.length c0, .agg #[.string a1_0, .int .i64 a1_1, .int .i64 a1_2, .int .i64 a1_3], .int .i64 4] w fun e w' => ∃ v0_ v1_ : Value, e = .returned (.tuple #[.agg #[v0_, v1_, .int .i64 r3], .bool r4]) ∧ Kd.R (Kd.int .i64) 3 w' w.heap.size (fun k_ => some k_ ≠ (v1_ : Value).ownBlock) v0_ r1 ∧ Kd.R (Kd.int .i64) 3 w' w.heap.size (fun k_ => some k_ ≠ (v0_ : Value).ownBlock) v1_ r2 ∧ Below w.heap.size w w' := by
 have hu54 := Try.underlying54
 have hu57 := Try.underlying57
 have HR0 := Aside0.mk hr0
 have HC0 := Aside0.mk hc0
 clear hr0 hc0
 have HB := Aside0.mk (Below.refl w.heap.size w)
 have H := h
 clear h
 unfold impl_constTile_at4.f at H
 obtain ⟨y451, hy451⟩ : ∃ y_ : List ByteArray, y_ = (([(⟨#[97, 100, 100]⟩ : ByteArray), (⟨#[115, 117, 98]⟩ : ByteArray), (⟨#[97, 110, 100]⟩ : ByteArray), (⟨#[120, 111, 114]⟩ : ByteArray)] : List ByteArray)) := ⟨_, rfl⟩
 replace H : (if 0 ≤ a1_2 then (if a1_2 < (l0.length : Int) then ((some (([a1_1] : List Int) : List Int)).bind fun y455 => ((some (([a1_2] : List Int) : List Int)).bind fun y458 => ((slices_Contains_string_string.f k y451 a1_0).bind fun t461 => (if t461 = true then (if ((rd_T54 l0 a1_2).f0).toList = ([99, 111, 110, 115, 116] : List UInt8) then (some (y455, y458, 1, true)) else (some (y455, y458, 1, false))) else (some (y455, y458, 1, false)))))) else (none)) else (none)) = some (r1, r2, r3, r4) := by first | (rw [hy451]; with_reducible exact H) | (have H2_ := (Option.bind_some _ _).symm.trans H; rw [hy451]; with_reducible exact H2_) | (have H2_ := (Option.bind_some _ _).symm.trans H; with_reducible exact H2_) | with_reducible exact H | (rw [hy451]; exact H) | exact H
 have Ny451 := Aside0.mk hy451
 clear hy451
 obtain ⟨c4, H⟩ := ifs H
 have c4b0 := decide_eq_true c4
 clear c4
 obtain ⟨c5, H⟩ := ifs H
 have c5b0 := decide_eq_true c5
 clear c5
 obtain ⟨y455, hy455, H⟩ := lets H
 (try dsimp only at H)
 have Ny455 := Aside0.mk hy455
 clear hy455
 obtain ⟨y458, hy458, H⟩ := lets H
 (try dsimp only at H)
 have Ny458 := Aside0.mk hy458
 clear hy458
 obtain ⟨t461, A6, H⟩ := ob H
 (try dsimp only at H)
 by_cases c7 : t461 = true
 ·subst c7
  rw [if_pos rfl] at H
  by_cases c8 : ((rd_T54 l0 a1_2).f0).toList = ([99, 111, 110, 115, 116] : List UInt8)
  ·rw [if_pos c8] at H
   have c8b0 := beq_iff_eq.mpr c8
   have c8b1 := bne_eq_false_iff_eq.mpr c8
   clear c8
   simp only [Option.some.injEq, Prod.mk.injEq] at H
   obtain ⟨rfl, rfl, rfl, rfl⟩ := H
   go_enter Try.func102, Try.ntmps102
   try go_wp2_with (first | ((with_reducible refine gd 4 rfl ?_); refine bx 4 #[.string a1_0, .int .i64 a1_1, .int .i64 a1_2, .int .i64 a1_3] 54 ?_; intro gb449 hg w9 BK449 GW449 HB hb; have GE449 := GW449; clear hb hg) | ((with_reducible refine gd 6 rfl ?_); refine bx 6 #[.slice none 0 0, .slice none 0 0, .int .i64 0] 57 ?_; intro gb450 hg w10 BK450 GW450 HB hb; have GE450 := GW450; have NB449_450 := nbl hg (bk BK449.out); have NB450_449 := nbr hg (bk BK449.out); replace BK449 := kb BK449 hb; clear hb hg))
   replace BK449 := Aside0.mk (blk_drew BK449.out); replace BK450 := Aside0.mk (blk_drew BK450.out); replace HB := Aside0.mk (below_drew1 HB.out)
   refine start_ (n := 8) (S := C4 gb449 (.string a1_0) (.int .i64 a1_1) (.int .i64 a1_2) (.int .i64 a1_3)) (ds := []) (mk 8 0) (by kernel_rfl) rfl (by kernel_rfl) (bc4 BK449.out) (fun hHeld => ?_); refine with_tabW impl_constTile_at4.tab1 impl_constTile_at4.bits1 (fun HT_ HW_ => ?_)
   generalize w10.drew = w11 at BK449 BK450 HB hHeld ⊢
   refine pu 0 13 8 1 rfl rfl ?_
   refine pu 2 15 8 5 rfl rfl ?_
   refine ta 1 14 8 7 rfl rfl ?_
   refine pu 5 8 8 39 rfl rfl ?_
   refine ta 3 16 8 47 rfl rfl ?_
   refine pu 6 9 8 111 rfl rfl ?_
   refine one_ (i := 4) (N := some 17) (mk 8 127) rfl rfl (one_of HT_.out (by kernel_rfl)) (by decide) (fun K hK => ?_)
   refine lss 17 9 Ny451.out ?_
   intro v452 w12 ho13 hb
   have HO453 := Aside0.mk (Kd.R_lower ho13 (below_size BA)); replace BK449 := kb BK449 hb; replace BK450 := kb BK450 hb; replace HB := bs hb
   clear hb ho13
   refine hK.out _ _ (bc4 BK449.out) (fun hHeld => ?_)
   clear hK K
   refine nm 17 ?_
   refine pu 7 10 8 255 rfl rfl ?_
   refine done_ (done_of HT_.out (by kernel_rfl)) ?_
   have p454 : 0 ≤ (a1_2 : Int) := DT
   have q454 : a1_2 < (l0.length : Int) := DT
   obtain ⟨ad454, e454, hx454_0, hx454_1, hx454_2, hx454_3⟩ := at_T54 (Kd.C_below HR0.out HB.out) a1_2 p454 q454
   cases e454
   replace p454 := eq_true p454
   replace q454 := eq_true q454
   try go_wp2_with (first | ((with_reducible refine gate_dst (N := 64) rfl ?_); refine li 64 3 Ny455.out ?_; intro v456 w14 ho15 hb; replace HO453 := Aside0.mk (Kd.R_below (rb HO453.out) hb); have HO457 := Aside0.mk (Kd.R_lower ho15 (below_size BA)); replace BK449 := kb BK449 hb; replace BK450 := kb BK450 hb; replace HB := bs hb; clear hb ho15) | ((with_reducible refine gate_dst (N := 66) rfl ?_); refine li 66 3 Ny458.out ?_; intro v459 w16 ho17 hb; replace HO453 := Aside0.mk (Kd.R_below (rb HO453.out) hb); have HO460 := Aside0.mk (Kd.R_lower (Kd.R_new' ho17 (Kd.R_lt (rb HO457.out))) (below_size BA)); replace HO457 := Aside0.mk (Kd.R_elder' (rb HO457.out) (Kd.R_base ho17) hb); replace BK449 := kb BK449 hb; replace BK450 := kb BK450 hb; replace HB := bs hb; clear hb ho17; obtain ⟨Ao18, co18, eo18⟩ := Kd.R_slice HO460.out; subst eo18; obtain ⟨Ao19, co19, eo19⟩ := Kd.R_slice HO457.out; subst eo19; have hnb20 := NB449_450.out; have hnc20 := NB450_449.out; obtain ⟨hcz21_0, hcz21_1, hcz21_2, hcz21_3⟩ := bc4 BK449.out; have hfz21 := blk_frozen BK449.out; obtain ⟨Ao22, co22, eo22⟩ := Kd.R_slice HO453.out; subst eo22) | ((with_reducible refine gate_callee (f := 115) rfl ?_); refine gK (some 71) Try.func115 #[.slice Ao22 y451.length co22, .string a1_0] rfl rfl rfl ?_; (with_reducible refine (slices_Contains_string_string.calls k _ _ y451 a1_0 true _ ?side1 ?side2 A6.out).mono ?_); (case side1 => exact cb (Kd.R_reads' HO453.out).2.2); (case side2 => exact (Kd.R_reads' HO453.out).2.1); rintro e w' ⟨rfl, ⟨nd, rfl⟩⟩; refine ⟨_, rfl, ?_⟩; have p462 : 0 ≤ (a1_2 : Int) := DT; have q462 : a1_2 < (l0.length : Int) := DT; obtain ⟨ad462, e462, hx462_0, hx462_1, hx462_2, hx462_3⟩ := at_T54 (Kd.C_below HR0.out HB.out) a1_2 p462 q462; obtain rfl : ad454 = ad462 := (by injection e462); replace p462 := eq_true p462; replace q462 := eq_true q462; obtain ⟨hcz23_0, hcz23_1, hcz23_2⟩ := bc3 BK450.out; have hfz23 := blk_frozen BK450.out))
   refine bodyPost_ret (results_ct rfl _ _ gb450 57 #[.slice Ao19 y455.length co19, .slice Ao18 y458.length co18, .int .i64 1] (0, 0) _ rfl (bq BK450.out) Try.underlying57 rfl (by kernel_rfl)) rfl ?_
   try simp only [dsc]
   exact ⟨_, _, EQ, rb (Kd.R_mono (Kd.R_far (p := ⟨gb450, 2, none⟩) (Kd.R_far (p := ⟨gb450, 1, none⟩) (Kd.R_far (p := ⟨gb450, 0, none⟩) (Kd.R_types HO457.out BK450.out (by decide)) (fun _ hk => hk.2) (.slice Ao19 y455.length co19)) (fun _ hk => hk.2) (.slice Ao18 y458.length co18)) (fun _ hk => hk.2) (.int .i64 1)) (fun _ hk => by first | exact hk.1.2 | exact hk.1 | exact hk.2)), rb (Kd.R_mono (Kd.R_far (p := ⟨gb450, 2, none⟩) (Kd.R_far (p := ⟨gb450, 1, none⟩) (Kd.R_far (p := ⟨gb450, 0, none⟩) (Kd.R_types HO460.out BK450.out (by decide)) (fun _ hk => hk.2) (.slice Ao19 y455.length co19)) (fun _ hk => hk.2) (.slice Ao18 y458.length co18)) (fun _ hk => hk.2) (.int .i64 1)) (fun _ hk => by first | exact hk.1.2 | exact hk.1 | exact hk.2)), BA⟩
  ·rw [if_neg c8] at H
   have c8b0 := beq_eq_false_iff_ne.mpr c8
   have c8b1 := bne_iff_ne.mpr c8
   simp only [Option.some.injEq, Prod.mk.injEq] at H
   obtain ⟨rfl, rfl, rfl, rfl⟩ := H
   go_enter Try.func102, Try.ntmps102
   try go_wp2_with (first | ((with_reducible refine gd 4 rfl ?_); refine bx 4 #[.string a1_0, .int .i64 a1_1, .int .i64 a1_2, .int .i64 a1_3] 54 ?_; intro gb449 hg w24 BK449 GW449 HB hb; have GE449 := GW449; clear hb hg) | ((with_reducible refine gd 6 rfl ?_); refine bx 6 #[.slice none 0 0, .slice none 0 0, .int .i64 0] 57 ?_; intro gb450 hg w25 BK450 GW450 HB hb; have GE450 := GW450; have NB449_450 := nbl hg (bk BK449.out); have NB450_449 := nbr hg (bk BK449.out); replace BK449 := kb BK449 hb; clear hb hg))
   replace BK449 := Aside0.mk (blk_drew BK449.out); replace BK450 := Aside0.mk (blk_drew BK450.out); replace HB := Aside0.mk (below_drew1 HB.out)
   refine start_ (n := 8) (S := C4 gb449 (.string a1_0) (.int .i64 a1_1) (.int .i64 a1_2) (.int .i64 a1_3)) (ds := []) (mk 8 0) (by kernel_rfl) rfl (by kernel_rfl) (bc4 BK449.out) (fun hHeld => ?_); refine with_tabW impl_constTile_at4.tab1 impl_constTile_at4.bits1 (fun HT_ HW_ => ?_)
   generalize w25.drew = w26 at BK449 BK450 HB hHeld ⊢
   refine pu 0 13 8 1 rfl rfl ?_
   refine pu 2 15 8 5 rfl rfl ?_
   refine ta 1 14 8 7 rfl rfl ?_
   refine pu 5 8 8 39 rfl rfl ?_
   refine ta 3 16 8 47 rfl rfl ?_
   refine pu 6 9 8 111 rfl rfl ?_
   refine one_ (i := 4) (N := some 17) (mk 8 127) rfl rfl (one_of HT_.out (by kernel_rfl)) (by decide) (fun K hK => ?_)
   refine lss 17 9 Ny451.out ?_
   intro v452 w27 ho28 hb
   have HO453 := Aside0.mk (Kd.R_lower ho28 (below_size BA)); replace BK449 := kb BK449 hb; replace BK450 := kb BK450 hb; replace HB := bs hb
   clear hb ho28
   refine hK.out _ _ (bc4 BK449.out) (fun hHeld => ?_)
   clear hK K
   refine nm 17 ?_
   refine pu 7 10 8 255 rfl rfl ?_
   refine done_ (done_of HT_.out (by kernel_rfl)) ?_
   have p454 : 0 ≤ (a1_2 : Int) := DT
   have q454 : a1_2 < (l0.length : Int) := DT
   obtain ⟨ad454, e454, hx454_0, hx454_1, hx454_2, hx454_3⟩ := at_T54 (Kd.C_below HR0.out HB.out) a1_2 p454 q454
   cases e454
   replace p454 := eq_true p454
   replace q454 := eq_true q454
   try go_wp2_with (first | ((with_reducible refine gate_dst (N := 64) rfl ?_); refine li 64 3 Ny455.out ?_; intro v456 w29 ho30 hb; replace HO453 := Aside0.mk (Kd.R_below (rb HO453.out) hb); have HO457 := Aside0.mk (Kd.R_lower ho30 (below_size BA)); replace BK449 := kb BK449 hb; replace BK450 := kb BK450 hb; replace HB := bs hb; clear hb ho30) | ((with_reducible refine gate_dst (N := 66) rfl ?_); refine li 66 3 Ny458.out ?_; intro v459 w31 ho32 hb; replace HO453 := Aside0.mk (Kd.R_below (rb HO453.out) hb); have HO460 := Aside0.mk (Kd.R_lower (Kd.R_new' ho32 (Kd.R_lt (rb HO457.out))) (below_size BA)); replace HO457 := Aside0.mk (Kd.R_elder' (rb HO457.out) (Kd.R_base ho32) hb); replace BK449 := kb BK449 hb; replace BK450 := kb BK450 hb; replace HB := bs hb; clear hb ho32; obtain ⟨Ao33, co33, eo33⟩ := Kd.R_slice HO460.out; subst eo33; obtain ⟨Ao34, co34, eo34⟩ := Kd.R_slice HO457.out; subst eo34; have hnb35 := NB449_450.out; have hnc35 := NB450_449.out; obtain ⟨hcz36_0, hcz36_1, hcz36_2, hcz36_3⟩ := bc4 BK449.out; have hfz36 := blk_frozen BK449.out; obtain ⟨Ao37, co37, eo37⟩ := Kd.R_slice HO453.out; subst eo37) | ((with_reducible refine gate_callee (f := 115) rfl ?_); refine gK (some 71) Try.func115 #[.slice Ao37 y451.length co37, .string a1_0] rfl rfl rfl ?_; (with_reducible refine (slices_Contains_string_string.calls k _ _ y451 a1_0 true _ ?side1 ?side2 A6.out).mono ?_); (case side1 => exact cb (Kd.R_reads' HO453.out).2.2); (case side2 => exact (Kd.R_reads' HO453.out).2.1); rintro e w' ⟨rfl, ⟨nd, rfl⟩⟩; refine ⟨_, rfl, ?_⟩; have p462 : 0 ≤ (a1_2 : Int) := DT; have q462 : a1_2 < (l0.length : Int) := DT; obtain ⟨ad462, e462, hx462_0, hx462_1, hx462_2, hx462_3⟩ := at_T54 (Kd.C_below HR0.out HB.out) a1_2 p462 q462; obtain rfl : ad454 = ad462 := (by injection e462); replace p462 := eq_true p462; replace q462 := eq_true q462; obtain ⟨hcz38_0, hcz38_1, hcz38_2⟩ := bc3 BK450.out; have hfz38 := blk_frozen BK450.out))
   refine bodyPost_ret (results_ct rfl _ _ gb450 57 #[.slice Ao34 y455.length co34, .slice Ao33 y458.length co33, .int .i64 1] (0, 0) _ rfl (bq BK450.out) Try.underlying57 rfl (by kernel_rfl)) rfl ?_
   try simp only [dsc]
   exact ⟨_, _, EQ, rb (Kd.R_mono (Kd.R_far (p := ⟨gb450, 2, none⟩) (Kd.R_far (p := ⟨gb450, 1, none⟩) (Kd.R_far (p := ⟨gb450, 0, none⟩) (Kd.R_types HO457.out BK450.out (by decide)) (fun _ hk => hk.2) (.slice Ao34 y455.length co34)) (fun _ hk => hk.2) (.slice Ao33 y458.length co33)) (fun _ hk => hk.2) (.int .i64 1)) (fun _ hk => by first | exact hk.1.2 | exact hk.1 | exact hk.2)), rb (Kd.R_mono (Kd.R_far (p := ⟨gb450, 2, none⟩) (Kd.R_far (p := ⟨gb450, 1, none⟩) (Kd.R_far (p := ⟨gb450, 0, none⟩) (Kd.R_types HO460.out BK450.out (by decide)) (fun _ hk => hk.2) (.slice Ao34 y455.length co34)) (fun _ hk => hk.2) (.slice Ao33 y458.length co33)) (fun _ hk => hk.2) (.int .i64 1)) (fun _ hk => by first | exact hk.1.2 | exact hk.1 | exact hk.2)), BA⟩
 ·replace c7 := Bool.eq_false_iff.mpr c7
  subst c7
  rw [if_neg (show ¬ (false = true) by decide)] at H
  simp only [Option.some.injEq, Prod.mk.injEq] at H
  obtain ⟨rfl, rfl, rfl, rfl⟩ := H
  go_enter Try.func102, Try.ntmps102
  try go_wp2_with (first | ((with_reducible refine gd 4 rfl ?_); refine bx 4 #[.string a1_0, .int .i64 a1_1, .int .i64 a1_2, .int .i64 a1_3] 54 ?_; intro gb449 hg w39 BK449 GW449 HB hb; have GE449 := GW449; clear hb hg) | ((with_reducible refine gd 6 rfl ?_); refine bx 6 #[.slice none 0 0, .slice none 0 0, .int .i64 0] 57 ?_; intro gb450 hg w40 BK450 GW450 HB hb; have GE450 := GW450; have NB449_450 := nbl hg (bk BK449.out); have NB450_449 := nbr hg (bk BK449.out); replace BK449 := kb BK449 hb; clear hb hg))
  replace BK449 := Aside0.mk (blk_drew BK449.out); replace BK450 := Aside0.mk (blk_drew BK450.out); replace HB := Aside0.mk (below_drew1 HB.out)
  refine start_ (n := 8) (S := C4 gb449 (.string a1_0) (.int .i64 a1_1) (.int .i64 a1_2) (.int .i64 a1_3)) (ds := []) (mk 8 0) (by kernel_rfl) rfl (by kernel_rfl) (bc4 BK449.out) (fun hHeld => ?_); refine with_tabW impl_constTile_at4.tab1 impl_constTile_at4.bits1 (fun HT_ HW_ => ?_)
  generalize w40.drew = w41 at BK449 BK450 HB hHeld ⊢
  refine pu 0 13 8 1 rfl rfl ?_
  refine pu 2 15 8 5 rfl rfl ?_
  refine ta 1 14 8 7 rfl rfl ?_
  refine pu 5 8 8 39 rfl rfl ?_
  refine ta 3 16 8 47 rfl rfl ?_
  refine pu 6 9 8 111 rfl rfl ?_
  refine one_ (i := 4) (N := some 17) (mk 8 127) rfl rfl (one_of HT_.out (by kernel_rfl)) (by decide) (fun K hK => ?_)
  refine lss 17 9 Ny451.out ?_
  intro v452 w42 ho43 hb
  have HO453 := Aside0.mk (Kd.R_lower ho43 (below_size BA)); replace BK449 := kb BK449 hb; replace BK450 := kb BK450 hb; replace HB := bs hb
  clear hb ho43
  refine hK.out _ _ (bc4 BK449.out) (fun hHeld => ?_)
  clear hK K
  refine nm 17 ?_
  refine pu 7 10 8 255 rfl rfl ?_
  refine done_ (done_of HT_.out (by kernel_rfl)) ?_
  have p454 : 0 ≤ (a1_2 : Int) := DT
  have q454 : a1_2 < (l0.length : Int) := DT
  obtain ⟨ad454, e454, hx454_0, hx454_1, hx454_2, hx454_3⟩ := at_T54 (Kd.C_below HR0.out HB.out) a1_2 p454 q454
  cases e454
  replace p454 := eq_true p454
  replace q454 := eq_true q454
  try go_wp2_with (first | ((with_reducible refine gate_dst (N := 64) rfl ?_); refine li 64 3 Ny455.out ?_; intro v456 w44 ho45 hb; replace HO453 := Aside0.mk (Kd.R_below (rb HO453.out) hb); have HO457 := Aside0.mk (Kd.R_lower ho45 (below_size BA)); replace BK449 := kb BK449 hb; replace BK450 := kb BK450 hb; replace HB := bs hb; clear hb ho45) | ((with_reducible refine gate_dst (N := 66) rfl ?_); refine li 66 3 Ny458.out ?_; intro v459 w46 ho47 hb; replace HO453 := Aside0.mk (Kd.R_below (rb HO453.out) hb); have HO460 := Aside0.mk (Kd.R_lower (Kd.R_new' ho47 (Kd.R_lt (rb HO457.out))) (below_size BA)); replace HO457 := Aside0.mk (Kd.R_elder' (rb HO457.out) (Kd.R_base ho47) hb); replace BK449 := kb BK449 hb; replace BK450 := kb BK450 hb; replace HB := bs hb; clear hb ho47; obtain ⟨Ao48, co48, eo48⟩ := Kd.R_slice HO460.out; subst eo48; obtain ⟨Ao49, co49, eo49⟩ := Kd.R_slice HO457.out; subst eo49; have hnb50 := NB449_450.out; have hnc50 := NB450_449.out; obtain ⟨hcz51_0, hcz51_1, hcz51_2, hcz51_3⟩ := bc4 BK449.out; have hfz51 := blk_frozen BK449.out; obtain ⟨Ao52, co52, eo52⟩ := Kd.R_slice HO453.out; subst eo52) | ((with_reducible refine gate_callee (f := 115) rfl ?_); refine gK (some 71) Try.func115 #[.slice Ao52 y451.length co52, .string a1_0] rfl rfl rfl ?_; (with_reducible refine (slices_Contains_string_string.calls k _ _ y451 a1_0 false _ ?side1 ?side2 A6.out).mono ?_); (case side1 => exact cb (Kd.R_reads' HO453.out).2.2); (case side2 => exact (Kd.R_reads' HO453.out).2.1); rintro e w' ⟨rfl, ⟨nd, rfl⟩⟩; refine ⟨_, rfl, ?_⟩; obtain ⟨hcz53_0, hcz53_1, hcz53_2⟩ := bc3 BK450.out; have hfz53 := blk_frozen BK450.out))
  refine bodyPost_ret (results_ct rfl _ _ gb450 57 #[.slice Ao49 y455.length co49, .slice Ao48 y458.length co48, .int .i64 1] (0, 0) _ rfl (bq BK450.out) Try.underlying57 rfl (by kernel_rfl)) rfl ?_
  try simp only [dsc]
  exact ⟨_, _, EQ, rb (Kd.R_mono (Kd.R_far (p := ⟨gb450, 2, none⟩) (Kd.R_far (p := ⟨gb450, 1, none⟩) (Kd.R_far (p := ⟨gb450, 0, none⟩) (Kd.R_types HO457.out BK450.out (by decide)) (fun _ hk => hk.2) (.slice Ao49 y455.length co49)) (fun _ hk => hk.2) (.slice Ao48 y458.length co48)) (fun _ hk => hk.2) (.int .i64 1)) (fun _ hk => by first | exact hk.1.2 | exact hk.1 | exact hk.2)), rb (Kd.R_mono (Kd.R_far (p := ⟨gb450, 2, none⟩) (Kd.R_far (p := ⟨gb450, 1, none⟩) (Kd.R_far (p := ⟨gb450, 0, none⟩) (Kd.R_types HO460.out BK450.out (by decide)) (fun _ hk => hk.2) (.slice Ao49 y455.length co49)) (fun _ hk => hk.2) (.slice Ao48 y458.length co48)) (fun _ hk => hk.2) (.int .i64 1)) (fun _ hk => by first | exact hk.1.2 | exact hk.1 | exact hk.2)), BA⟩

/-! ### impl_constTile_at5: function 102 -/
def impl_constTile_at5.f (k : Nat) (l0 : List (S54)) (a1_0 : ByteArray) (a1_1 : Int) (a1_2 : Int) (a1_3 : Int)  : Option (List Int × List Int × Int × Bool) := if 0 ≤ a1_1 then (if a1_1 < (l0.length : Int) then ((some (([a1_2] : List Int) : List Int)).bind fun y472 => ((some (([a1_1] : List Int) : List Int)).bind fun y475 => ((slices_Contains_string_string.f k (([(⟨#[97, 100, 100]⟩ : ByteArray), (⟨#[97, 110, 100]⟩ : ByteArray), (⟨#[120, 111, 114]⟩ : ByteArray)] : List ByteArray)) a1_0).bind fun t478 => (if t478 = true then (if ((rd_T54 l0 a1_1).f0).toList = ([99, 111, 110, 115, 116] : List UInt8) then (some (y472, y475, 1, true)) else (some (y472, y475, 1, false))) else (some (y472, y475, 1, false)))))) else (none)) else (none)
def impl_constTile_at5.T1 : Bool × List (List Nat × List Nat) := (true, [([], []), ([0], [0]), ([], []), ([2], [2]), ([], []), ([1, 0, 1], [1]), ([3, 5, 0, 1, 2, 3, 5], [3]), ([4, 6, 0, 1, 2, 3, 4, 5, 6], [4])])
def impl_constTile_at5.B1 : List Nat := [0, 1, 0, 4, 0, 3, 47, 127]
theorem impl_constTile_at5.tab1 : rtab .any (opsOf Try.f102 1) = impl_constTile_at5.T1 := by kernel_rfl
theorem impl_constTile_at5.bits1 : waitsOk impl_constTile_at5.T1.2 impl_constTile_at5.B1 = true := by kernel_rfl
def impl_constTile_at5.T4 : Bool × List (List Nat × List Nat) := (true, [([], []), ([0], [0]), ([], []), ([2], [2]), ([], []), ([1, 0, 1], [1]), ([3, 5, 0, 1, 2, 3, 5], [3]), ([4, 6, 0, 1, 2, 3, 4, 5, 6], [4])])
def impl_constTile_at5.B4 : List Nat := [0, 1, 0, 4, 0, 3, 47, 127]
theorem impl_constTile_at5.tab4 : rtab .any (opsOf Try.f102 4) = impl_constTile_at5.T4 := by kernel_rfl
theorem impl_constTile_at5.bits4 : waitsOk impl_constTile_at5.T4.2 impl_constTile_at5.B4 = true := by kernel_rfl
theorem impl_constTile_at5.calls (k : Nat) (A0 : Option Addr) (c0 : Nat) (l0 : List (S54)) (a1_0 : ByteArray) (a1_1 : Int) (a1_2 : Int) (a1_3 : Int)  (r1 : List Int) (r2 : List Int) (r3 : Int) (r4 : Bool) (w : World) (hr0 : Kd.C k54 w A0 l0.length l0) (hc0 : l0.length ≤ c0) (h : impl_constTile_at5.f k l0 a1_0 a1_1 a1_2 a1_3 = some (r1, r2, r3, r4)) :
  Calls Try.prog 102 #[.slice A0 l0.length c0, .agg #[.string a1_0, .int .i64 a1_1, .int .i64 a1_2, .int .i64 a1_3], .int .i64 5] w fun e w' => ∃ v0_ v1_ : Value, e = .returned (.tuple #[.agg #[v0_, v1_, .int .i64 r3], .bool r4]) ∧ Kd.R (Kd.int .i64) 3 w' w.heap.size (fun k_ => some k_ ≠ (v1_ : Value).ownBlock) v0_ r1 ∧ Kd.R (Kd.int .i64) 3 w' w.heap.size (fun k_ => some k_ ≠ (v0_ : Value).ownBlock) v1_ r2 ∧ Below w.heap.size w w' := by
 have hu54 := Try.underlying54
 have hu57 := Try.underlying57
 have HR0 := Aside0.mk hr0
 have HC0 := Aside0.mk hc0
 clear hr0 hc0
 have HB := Aside0.mk (Below.refl w.heap.size w)
 have H := h
 clear h
 unfold impl_constTile_at5.f at H
 obtain ⟨y465, hy465⟩ : ∃ y_ : List ByteArray, y_ = (([(⟨#[97, 100, 100]⟩ : ByteArray), (⟨#[115, 117, 98]⟩ : ByteArray), (⟨#[97, 110, 100]⟩ : ByteArray), (⟨#[120, 111, 114]⟩ : ByteArray)] : List ByteArray)) := ⟨_, rfl⟩
 replace H : (if 0 ≤ a1_1 then (if a1_1 < (l0.length : Int) then ((some (([a1_2] : List Int) : List Int)).bind fun y472 => ((some (([a1_1] : List Int) : List Int)).bind fun y475 => ((slices_Contains_string_string.f k (([(⟨#[97, 100, 100]⟩ : ByteArray), (⟨#[97, 110, 100]⟩ : ByteArray), (⟨#[120, 111, 114]⟩ : ByteArray)] : List ByteArray)) a1_0).bind fun t478 => (if t478 = true then (if ((rd_T54 l0 a1_1).f0).toList = ([99, 111, 110, 115, 116] : List UInt8) then (some (y472, y475, 1, true)) else (some (y472, y475, 1, false))) else (some (y472, y475, 1, false)))))) else (none)) else (none)) = some (r1, r2, r3, r4) := by first | (rw [hy465]; with_reducible exact H) | (have H2_ := (Option.bind_some _ _).symm.trans H; rw [hy465]; with_reducible exact H2_) | (have H2_ := (Option.bind_some _ _).symm.trans H; with_reducible exact H2_) | with_reducible exact H | (rw [hy465]; exact H) | exact H
 have Ny465 := Aside0.mk hy465
 clear hy465
 obtain ⟨y468, hy468⟩ : ∃ y_ : List ByteArray, y_ = (([(⟨#[97, 100, 100]⟩ : ByteArray), (⟨#[97, 110, 100]⟩ : ByteArray), (⟨#[120, 111, 114]⟩ : ByteArray)] : List ByteArray)) := ⟨_, rfl⟩
 replace H : (if 0 ≤ a1_1 then (if a1_1 < (l0.length : Int) then ((some (([a1_2] : List Int) : List Int)).bind fun y472 => ((some (([a1_1] : List Int) : List Int)).bind fun y475 => ((slices_Contains_string_string.f k y468 a1_0).bind fun t478 => (if t478 = true then (if ((rd_T54 l0 a1_1).f0).toList = ([99, 111, 110, 115, 116] : List UInt8) then (some (y472, y475, 1, true)) else (some (y472, y475, 1, false))) else (some (y472, y475, 1, false)))))) else (none)) else (none)) = some (r1, r2, r3, r4) := by first | (rw [hy468]; with_reducible exact H) | (have H2_ := (Option.bind_some _ _).symm.trans H; rw [hy468]; with_reducible exact H2_) | (have H2_ := (Option.bind_some _ _).symm.trans H; with_reducible exact H2_) | with_reducible exact H | (rw [hy468]; exact H) | exact H
 have Ny468 := Aside0.mk hy468
 clear hy468
 obtain ⟨c4, H⟩ := ifs H
 have c4b0 := decide_eq_true c4
 clear c4
 obtain ⟨c5, H⟩ := ifs H
 have c5b0 := decide_eq_true c5
 clear c5
 obtain ⟨y472, hy472, H⟩ := lets H
 (try dsimp only at H)
 have Ny472 := Aside0.mk hy472
 clear hy472
 obtain ⟨y475, hy475, H⟩ := lets H
 (try dsimp only at H)
 have Ny475 := Aside0.mk hy475
 clear hy475
 obtain ⟨t478, A6, H⟩ := ob H
 (try dsimp only at H)
 by_cases c7 : t478 = true
 ·subst c7
  rw [if_pos rfl] at H
  by_cases c8 : ((rd_T54 l0 a1_1).f0).toList = ([99, 111, 110, 115, 116] : List UInt8)
  ·rw [if_pos c8] at H
   have c8b0 := beq_iff_eq.mpr c8
   have c8b1 := bne_eq_false_iff_eq.mpr c8
   clear c8
   simp only [Option.some.injEq, Prod.mk.injEq] at H
   obtain ⟨rfl, rfl, rfl, rfl⟩ := H
   go_enter Try.func102, Try.ntmps102
   try go_wp2_with (first | ((with_reducible refine gd 4 rfl ?_); refine bx 4 #[.string a1_0, .int .i64 a1_1, .int .i64 a1_2, .int .i64 a1_3] 54 ?_; intro gb463 hg w9 BK463 GW463 HB hb; have GE463 := GW463; clear hb hg) | ((with_reducible refine gd 6 rfl ?_); refine bx 6 #[.slice none 0 0, .slice none 0 0, .int .i64 0] 57 ?_; intro gb464 hg w10 BK464 GW464 HB hb; have GE464 := GW464; have NB463_464 := nbl hg (bk BK463.out); have NB464_463 := nbr hg (bk BK463.out); replace BK463 := kb BK463 hb; clear hb hg))
   replace BK463 := Aside0.mk (blk_drew BK463.out); replace BK464 := Aside0.mk (blk_drew BK464.out); replace HB := Aside0.mk (below_drew1 HB.out)
   refine start_ (n := 8) (S := C4 gb463 (.string a1_0) (.int .i64 a1_1) (.int .i64 a1_2) (.int .i64 a1_3)) (ds := []) (mk 8 0) (by kernel_rfl) rfl (by kernel_rfl) (bc4 BK463.out) (fun hHeld => ?_); refine with_tabW impl_constTile_at5.tab1 impl_constTile_at5.bits1 (fun HT_ HW_ => ?_)
   generalize w10.drew = w11 at BK463 BK464 HB hHeld ⊢
   refine pu 0 13 8 1 rfl rfl ?_
   refine pu 2 15 8 5 rfl rfl ?_
   refine ta 1 14 8 7 rfl rfl ?_
   refine pu 5 8 8 39 rfl rfl ?_
   refine ta 3 16 8 47 rfl rfl ?_
   refine pu 6 9 8 111 rfl rfl ?_
   refine one_ (i := 4) (N := some 17) (mk 8 127) rfl rfl (one_of HT_.out (by kernel_rfl)) (by decide) (fun K hK => ?_)
   refine lss 17 9 Ny465.out ?_
   intro v466 w12 ho13 hb
   have HO467 := Aside0.mk (Kd.R_lower ho13 (below_size BA)); replace BK463 := kb BK463 hb; replace BK464 := kb BK464 hb; replace HB := bs hb
   clear hb ho13
   refine hK.out _ _ (bc4 BK463.out) (fun hHeld => ?_)
   clear hK K
   refine nm 17 ?_
   refine pu 7 10 8 255 rfl rfl ?_
   refine done_ (done_of HT_.out (by kernel_rfl)) ?_
   try go_wp2
   replace HO467 := Aside0.mk (Kd.R_drew HO467.out); replace BK463 := Aside0.mk (blk_drew BK463.out); replace BK464 := Aside0.mk (blk_drew BK464.out); replace HB := Aside0.mk (below_drew1 HB.out)
   refine start_ (n := 8) (S := C4 gb463 (.string a1_0) (.int .i64 a1_1) (.int .i64 a1_2) (.int .i64 a1_3)) (ds := []) (mk 8 0) (by kernel_rfl) rfl (by kernel_rfl) (bc4 BK463.out) (fun hHeld => ?_); refine with_tabW impl_constTile_at5.tab4 impl_constTile_at5.bits4 (fun HT_ HW_ => ?_)
   generalize w12.drew = w14 at HO467 BK463 BK464 HB hHeld ⊢
   refine pu 0 21 8 1 rfl rfl ?_
   refine pu 2 23 8 5 rfl rfl ?_
   refine ta 1 22 8 7 rfl rfl ?_
   refine pu 5 8 8 39 rfl rfl ?_
   refine ta 3 24 8 47 rfl rfl ?_
   refine pu 6 9 8 111 rfl rfl ?_
   refine one_ (i := 4) (N := some 25) (mk 8 127) rfl rfl (one_of HT_.out (by kernel_rfl)) (by decide) (fun K hK => ?_)
   refine lss 25 9 Ny468.out ?_
   intro v469 w15 ho16 hb
   have HO470 := Aside0.mk (Kd.R_lower (Kd.R_new' ho16 (Kd.R_lt (rb HO467.out))) (below_size BA)); replace HO467 := Aside0.mk (Kd.R_elder' (rb HO467.out) (Kd.R_base ho16) hb); replace BK463 := kb BK463 hb; replace BK464 := kb BK464 hb; replace HB := bs hb
   clear hb ho16
   refine hK.out _ _ (bc4 BK463.out) (fun hHeld => ?_)
   clear hK K
   refine nm 25 ?_
   refine pu 7 10 8 255 rfl rfl ?_
   refine done_ (done_of HT_.out (by kernel_rfl)) ?_
   have p471 : 0 ≤ (a1_1 : Int) := DT
   have q471 : a1_1 < (l0.length : Int) := DT
   obtain ⟨ad471, e471, hx471_0, hx471_1, hx471_2, hx471_3⟩ := at_T54 (Kd.C_below HR0.out HB.out) a1_1 p471 q471
   cases e471
   replace p471 := eq_true p471
   replace q471 := eq_true q471
   try go_wp2_with (first | ((with_reducible refine gate_dst (N := 64) rfl ?_); refine li 64 3 Ny472.out ?_; intro v473 w17 ho18 hb; replace HO467 := Aside0.mk (Kd.R_below (rb HO467.out) hb); replace HO470 := Aside0.mk (Kd.R_below (rb HO470.out) hb); have HO474 := Aside0.mk (Kd.R_lower ho18 (below_size BA)); replace BK463 := kb BK463 hb; replace BK464 := kb BK464 hb; replace HB := bs hb; clear hb ho18) | ((with_reducible refine gate_dst (N := 66) rfl ?_); refine li 66 3 Ny475.out ?_; intro v476 w19 ho20 hb; replace HO467 := Aside0.mk (Kd.R_below (rb HO467.out) hb); replace HO470 := Aside0.mk (Kd.R_below (rb HO470.out) hb); have HO477 := Aside0.mk (Kd.R_lower (Kd.R_new' ho20 (Kd.R_lt (rb HO474.out))) (below_size BA)); replace HO474 := Aside0.mk (Kd.R_elder' (rb HO474.out) (Kd.R_base ho20) hb); replace BK463 := kb BK463 hb; replace BK464 := kb BK464 hb; replace HB := bs hb; clear hb ho20; obtain ⟨Ao21, co21, eo21⟩ := Kd.R_slice HO477.out; subst eo21; obtain ⟨Ao22, co22, eo22⟩ := Kd.R_slice HO474.out; subst eo22; have hnb23 := NB463_464.out; have hnc23 := NB464_463.out; obtain ⟨hcz24_0, hcz24_1, hcz24_2, hcz24_3⟩ := bc4 BK463.out; have hfz24 := blk_frozen BK463.out; obtain ⟨Ao25, co25, eo25⟩ := Kd.R_slice HO470.out; subst eo25) | ((with_reducible refine gate_callee (f := 115) rfl ?_); refine gK (some 71) Try.func115 #[.slice Ao25 y468.length co25, .string a1_0] rfl rfl rfl ?_; (with_reducible refine (slices_Contains_string_string.calls k _ _ y468 a1_0 true _ ?side1 ?side2 A6.out).mono ?_); (case side1 => exact cb (Kd.R_reads' HO470.out).2.2); (case side2 => exact (Kd.R_reads' HO470.out).2.1); rintro e w' ⟨rfl, ⟨nd, rfl⟩⟩; refine ⟨_, rfl, ?_⟩; have p479 : 0 ≤ (a1_1 : Int) := DT; have q479 : a1_1 < (l0.length : Int) := DT; obtain ⟨ad479, e479, hx479_0, hx479_1, hx479_2, hx479_3⟩ := at_T54 (Kd.C_below HR0.out HB.out) a1_1 p479 q479; obtain rfl : ad471 = ad479 := (by injection e479); replace p479 := eq_true p479; replace q479 := eq_true q479; obtain ⟨hcz26_0, hcz26_1, hcz26_2⟩ := bc3 BK464.out; have hfz26 := blk_frozen BK464.out))
   refine bodyPost_ret (results_ct rfl _ _ gb464 57 #[.slice Ao22 y472.length co22, .slice Ao21 y475.length co21, .int .i64 1] (0, 0) _ rfl (bq BK464.out) Try.underlying57 rfl (by kernel_rfl)) rfl ?_
   try simp only [dsc]
   exact ⟨_, _, EQ, rb (Kd.R_mono (Kd.R_far (p := ⟨gb464, 2, none⟩) (Kd.R_far (p := ⟨gb464, 1, none⟩) (Kd.R_far (p := ⟨gb464, 0, none⟩) (Kd.R_types HO474.out BK464.out (by decide)) (fun _ hk => hk.2) (.slice Ao22 y472.length co22)) (fun _ hk => hk.2) (.slice Ao21 y475.length co21)) (fun _ hk => hk.2) (.int .i64 1)) (fun _ hk => by first | exact hk.1.2 | exact hk.1 | exact hk.2)), rb (Kd.R_mono (Kd.R_far (p := ⟨gb464, 2, none⟩) (Kd.R_far (p := ⟨gb464, 1, none⟩) (Kd.R_far (p := ⟨gb464, 0, none⟩) (Kd.R_types HO477.out BK464.out (by decide)) (fun _ hk => hk.2) (.slice Ao22 y472.length co22)) (fun _ hk => hk.2) (.slice Ao21 y475.length co21)) (fun _ hk => hk.2) (.int .i64 1)) (fun _ hk => by first | exact hk.1.2 | exact hk.1 | exact hk.2)), BA⟩
  ·rw [if_neg c8] at H
   have c8b0 := beq_eq_false_iff_ne.mpr c8
   have c8b1 := bne_iff_ne.mpr c8
   simp only [Option.some.injEq, Prod.mk.injEq] at H
   obtain ⟨rfl, rfl, rfl, rfl⟩ := H
   go_enter Try.func102, Try.ntmps102
   try go_wp2_with (first | ((with_reducible refine gd 4 rfl ?_); refine bx 4 #[.string a1_0, .int .i64 a1_1, .int .i64 a1_2, .int .i64 a1_3] 54 ?_; intro gb463 hg w27 BK463 GW463 HB hb; have GE463 := GW463; clear hb hg) | ((with_reducible refine gd 6 rfl ?_); refine bx 6 #[.slice none 0 0, .slice none 0 0, .int .i64 0] 57 ?_; intro gb464 hg w28 BK464 GW464 HB hb; have GE464 := GW464; have NB463_464 := nbl hg (bk BK463.out); have NB464_463 := nbr hg (bk BK463.out); replace BK463 := kb BK463 hb; clear hb hg))
   replace BK463 := Aside0.mk (blk_drew BK463.out); replace BK464 := Aside0.mk (blk_drew BK464.out); replace HB := Aside0.mk (below_drew1 HB.out)
   refine start_ (n := 8) (S := C4 gb463 (.string a1_0) (.int .i64 a1_1) (.int .i64 a1_2) (.int .i64 a1_3)) (ds := []) (mk 8 0) (by kernel_rfl) rfl (by kernel_rfl) (bc4 BK463.out) (fun hHeld => ?_); refine with_tabW impl_constTile_at5.tab1 impl_constTile_at5.bits1 (fun HT_ HW_ => ?_)
   generalize w28.drew = w29 at BK463 BK464 HB hHeld ⊢
   refine pu 0 13 8 1 rfl rfl ?_
   refine pu 2 15 8 5 rfl rfl ?_
   refine ta 1 14 8 7 rfl rfl ?_
   refine pu 5 8 8 39 rfl rfl ?_
   refine ta 3 16 8 47 rfl rfl ?_
   refine pu 6 9 8 111 rfl rfl ?_
   refine one_ (i := 4) (N := some 17) (mk 8 127) rfl rfl (one_of HT_.out (by kernel_rfl)) (by decide) (fun K hK => ?_)
   refine lss 17 9 Ny465.out ?_
   intro v466 w30 ho31 hb
   have HO467 := Aside0.mk (Kd.R_lower ho31 (below_size BA)); replace BK463 := kb BK463 hb; replace BK464 := kb BK464 hb; replace HB := bs hb
   clear hb ho31
   refine hK.out _ _ (bc4 BK463.out) (fun hHeld => ?_)
   clear hK K
   refine nm 17 ?_
   refine pu 7 10 8 255 rfl rfl ?_
   refine done_ (done_of HT_.out (by kernel_rfl)) ?_
   try go_wp2
   replace HO467 := Aside0.mk (Kd.R_drew HO467.out); replace BK463 := Aside0.mk (blk_drew BK463.out); replace BK464 := Aside0.mk (blk_drew BK464.out); replace HB := Aside0.mk (below_drew1 HB.out)
   refine start_ (n := 8) (S := C4 gb463 (.string a1_0) (.int .i64 a1_1) (.int .i64 a1_2) (.int .i64 a1_3)) (ds := []) (mk 8 0) (by kernel_rfl) rfl (by kernel_rfl) (bc4 BK463.out) (fun hHeld => ?_); refine with_tabW impl_constTile_at5.tab4 impl_constTile_at5.bits4 (fun HT_ HW_ => ?_)
   generalize w30.drew = w32 at HO467 BK463 BK464 HB hHeld ⊢
   refine pu 0 21 8 1 rfl rfl ?_
   refine pu 2 23 8 5 rfl rfl ?_
   refine ta 1 22 8 7 rfl rfl ?_
   refine pu 5 8 8 39 rfl rfl ?_
   refine ta 3 24 8 47 rfl rfl ?_
   refine pu 6 9 8 111 rfl rfl ?_
   refine one_ (i := 4) (N := some 25) (mk 8 127) rfl rfl (one_of HT_.out (by kernel_rfl)) (by decide) (fun K hK => ?_)
   refine lss 25 9 Ny468.out ?_
   intro v469 w33 ho34 hb
   have HO470 := Aside0.mk (Kd.R_lower (Kd.R_new' ho34 (Kd.R_lt (rb HO467.out))) (below_size BA)); replace HO467 := Aside0.mk (Kd.R_elder' (rb HO467.out) (Kd.R_base ho34) hb); replace BK463 := kb BK463 hb; replace BK464 := kb BK464 hb; replace HB := bs hb
   clear hb ho34
   refine hK.out _ _ (bc4 BK463.out) (fun hHeld => ?_)
   clear hK K
   refine nm 25 ?_
   refine pu 7 10 8 255 rfl rfl ?_
   refine done_ (done_of HT_.out (by kernel_rfl)) ?_
   have p471 : 0 ≤ (a1_1 : Int) := DT
   have q471 : a1_1 < (l0.length : Int) := DT
   obtain ⟨ad471, e471, hx471_0, hx471_1, hx471_2, hx471_3⟩ := at_T54 (Kd.C_below HR0.out HB.out) a1_1 p471 q471
   cases e471
   replace p471 := eq_true p471
   replace q471 := eq_true q471
   try go_wp2_with (first | ((with_reducible refine gate_dst (N := 64) rfl ?_); refine li 64 3 Ny472.out ?_; intro v473 w35 ho36 hb; replace HO467 := Aside0.mk (Kd.R_below (rb HO467.out) hb); replace HO470 := Aside0.mk (Kd.R_below (rb HO470.out) hb); have HO474 := Aside0.mk (Kd.R_lower ho36 (below_size BA)); replace BK463 := kb BK463 hb; replace BK464 := kb BK464 hb; replace HB := bs hb; clear hb ho36) | ((with_reducible refine gate_dst (N := 66) rfl ?_); refine li 66 3 Ny475.out ?_; intro v476 w37 ho38 hb; replace HO467 := Aside0.mk (Kd.R_below (rb HO467.out) hb); replace HO470 := Aside0.mk (Kd.R_below (rb HO470.out) hb); have HO477 := Aside0.mk (Kd.R_lower (Kd.R_new' ho38 (Kd.R_lt (rb HO474.out))) (below_size BA)); replace HO474 := Aside0.mk (Kd.R_elder' (rb HO474.out) (Kd.R_base ho38) hb); replace BK463 := kb BK463 hb; replace BK464 := kb BK464 hb; replace HB := bs hb; clear hb ho38; obtain ⟨Ao39, co39, eo39⟩ := Kd.R_slice HO477.out; subst eo39; obtain ⟨Ao40, co40, eo40⟩ := Kd.R_slice HO474.out; subst eo40; have hnb41 := NB463_464.out; have hnc41 := NB464_463.out; obtain ⟨hcz42_0, hcz42_1, hcz42_2, hcz42_3⟩ := bc4 BK463.out; have hfz42 := blk_frozen BK463.out; obtain ⟨Ao43, co43, eo43⟩ := Kd.R_slice HO470.out; subst eo43) | ((with_reducible refine gate_callee (f := 115) rfl ?_); refine gK (some 71) Try.func115 #[.slice Ao43 y468.length co43, .string a1_0] rfl rfl rfl ?_; (with_reducible refine (slices_Contains_string_string.calls k _ _ y468 a1_0 true _ ?side1 ?side2 A6.out).mono ?_); (case side1 => exact cb (Kd.R_reads' HO470.out).2.2); (case side2 => exact (Kd.R_reads' HO470.out).2.1); rintro e w' ⟨rfl, ⟨nd, rfl⟩⟩; refine ⟨_, rfl, ?_⟩; have p479 : 0 ≤ (a1_1 : Int) := DT; have q479 : a1_1 < (l0.length : Int) := DT; obtain ⟨ad479, e479, hx479_0, hx479_1, hx479_2, hx479_3⟩ := at_T54 (Kd.C_below HR0.out HB.out) a1_1 p479 q479; obtain rfl : ad471 = ad479 := (by injection e479); replace p479 := eq_true p479; replace q479 := eq_true q479; obtain ⟨hcz44_0, hcz44_1, hcz44_2⟩ := bc3 BK464.out; have hfz44 := blk_frozen BK464.out))
   refine bodyPost_ret (results_ct rfl _ _ gb464 57 #[.slice Ao40 y472.length co40, .slice Ao39 y475.length co39, .int .i64 1] (0, 0) _ rfl (bq BK464.out) Try.underlying57 rfl (by kernel_rfl)) rfl ?_
   try simp only [dsc]
   exact ⟨_, _, EQ, rb (Kd.R_mono (Kd.R_far (p := ⟨gb464, 2, none⟩) (Kd.R_far (p := ⟨gb464, 1, none⟩) (Kd.R_far (p := ⟨gb464, 0, none⟩) (Kd.R_types HO474.out BK464.out (by decide)) (fun _ hk => hk.2) (.slice Ao40 y472.length co40)) (fun _ hk => hk.2) (.slice Ao39 y475.length co39)) (fun _ hk => hk.2) (.int .i64 1)) (fun _ hk => by first | exact hk.1.2 | exact hk.1 | exact hk.2)), rb (Kd.R_mono (Kd.R_far (p := ⟨gb464, 2, none⟩) (Kd.R_far (p := ⟨gb464, 1, none⟩) (Kd.R_far (p := ⟨gb464, 0, none⟩) (Kd.R_types HO477.out BK464.out (by decide)) (fun _ hk => hk.2) (.slice Ao40 y472.length co40)) (fun _ hk => hk.2) (.slice Ao39 y475.length co39)) (fun _ hk => hk.2) (.int .i64 1)) (fun _ hk => by first | exact hk.1.2 | exact hk.1 | exact hk.2)), BA⟩
 ·replace c7 := Bool.eq_false_iff.mpr c7
  subst c7
  rw [if_neg (show ¬ (false = true) by decide)] at H
  simp only [Option.some.injEq, Prod.mk.injEq] at H
  obtain ⟨rfl, rfl, rfl, rfl⟩ := H
  go_enter Try.func102, Try.ntmps102
  try go_wp2_with (first | ((with_reducible refine gd 4 rfl ?_); refine bx 4 #[.string a1_0, .int .i64 a1_1, .int .i64 a1_2, .int .i64 a1_3] 54 ?_; intro gb463 hg w45 BK463 GW463 HB hb; have GE463 := GW463; clear hb hg) | ((with_reducible refine gd 6 rfl ?_); refine bx 6 #[.slice none 0 0, .slice none 0 0, .int .i64 0] 57 ?_; intro gb464 hg w46 BK464 GW464 HB hb; have GE464 := GW464; have NB463_464 := nbl hg (bk BK463.out); have NB464_463 := nbr hg (bk BK463.out); replace BK463 := kb BK463 hb; clear hb hg))
  replace BK463 := Aside0.mk (blk_drew BK463.out); replace BK464 := Aside0.mk (blk_drew BK464.out); replace HB := Aside0.mk (below_drew1 HB.out)
  refine start_ (n := 8) (S := C4 gb463 (.string a1_0) (.int .i64 a1_1) (.int .i64 a1_2) (.int .i64 a1_3)) (ds := []) (mk 8 0) (by kernel_rfl) rfl (by kernel_rfl) (bc4 BK463.out) (fun hHeld => ?_); refine with_tabW impl_constTile_at5.tab1 impl_constTile_at5.bits1 (fun HT_ HW_ => ?_)
  generalize w46.drew = w47 at BK463 BK464 HB hHeld ⊢
  refine pu 0 13 8 1 rfl rfl ?_
  refine pu 2 15 8 5 rfl rfl ?_
  refine ta 1 14 8 7 rfl rfl ?_
  refine pu 5 8 8 39 rfl rfl ?_
  refine ta 3 16 8 47 rfl rfl ?_
  refine pu 6 9 8 111 rfl rfl ?_
  refine one_ (i := 4) (N := some 17) (mk 8 127) rfl rfl (one_of HT_.out (by kernel_rfl)) (by decide) (fun K hK => ?_)
  refine lss 17 9 Ny465.out ?_
  intro v466 w48 ho49 hb
  have HO467 := Aside0.mk (Kd.R_lower ho49 (below_size BA)); replace BK463 := kb BK463 hb; replace BK464 := kb BK464 hb; replace HB := bs hb
  clear hb ho49
  refine hK.out _ _ (bc4 BK463.out) (fun hHeld => ?_)
  clear hK K
  refine nm 17 ?_
  refine pu 7 10 8 255 rfl rfl ?_
  refine done_ (done_of HT_.out (by kernel_rfl)) ?_
  try go_wp2
  replace HO467 := Aside0.mk (Kd.R_drew HO467.out); replace BK463 := Aside0.mk (blk_drew BK463.out); replace BK464 := Aside0.mk (blk_drew BK464.out); replace HB := Aside0.mk (below_drew1 HB.out)
  refine start_ (n := 8) (S := C4 gb463 (.string a1_0) (.int .i64 a1_1) (.int .i64 a1_2) (.int .i64 a1_3)) (ds := []) (mk 8 0) (by kernel_rfl) rfl (by kernel_rfl) (bc4 BK463.out) (fun hHeld => ?_); refine with_tabW impl_constTile_at5.tab4 impl_constTile_at5.bits4 (fun HT_ HW_ => ?_)
  generalize w48.drew = w50 at HO467 BK463 BK464 HB hHeld ⊢
  refine pu 0 21 8 1 rfl rfl ?_
  refine pu 2 23 8 5 rfl rfl ?_
  refine ta 1 22 8 7 rfl rfl ?_
  refine pu 5 8 8 39 rfl rfl ?_
  refine ta 3 24 8 47 rfl rfl ?_
  refine pu 6 9 8 111 rfl rfl ?_
  refine one_ (i := 4) (N := some 25) (mk 8 127) rfl rfl (one_of HT_.out (by kernel_rfl)) (by decide) (fun K hK => ?_)
  refine lss 25 9 Ny468.out ?_
  intro v469 w51 ho52 hb
  have HO470 := Aside0.mk (Kd.R_lower (Kd.R_new' ho52 (Kd.R_lt (rb HO467.out))) (below_size BA)); replace HO467 := Aside0.mk (Kd.R_elder' (rb HO467.out) (Kd.R_base ho52) hb); replace BK463 := kb BK463 hb; replace BK464 := kb BK464 hb; replace HB := bs hb
  clear hb ho52
  refine hK.out _ _ (bc4 BK463.out) (fun hHeld => ?_)
  clear hK K
  refine nm 25 ?_
  refine pu 7 10 8 255 rfl rfl ?_
  refine done_ (done_of HT_.out (by kernel_rfl)) ?_
  have p471 : 0 ≤ (a1_1 : Int) := DT
  have q471 : a1_1 < (l0.length : Int) := DT
  obtain ⟨ad471, e471, hx471_0, hx471_1, hx471_2, hx471_3⟩ := at_T54 (Kd.C_below HR0.out HB.out) a1_1 p471 q471
  cases e471
  replace p471 := eq_true p471
  replace q471 := eq_true q471
  try go_wp2_with (first | ((with_reducible refine gate_dst (N := 64) rfl ?_); refine li 64 3 Ny472.out ?_; intro v473 w53 ho54 hb; replace HO467 := Aside0.mk (Kd.R_below (rb HO467.out) hb); replace HO470 := Aside0.mk (Kd.R_below (rb HO470.out) hb); have HO474 := Aside0.mk (Kd.R_lower ho54 (below_size BA)); replace BK463 := kb BK463 hb; replace BK464 := kb BK464 hb; replace HB := bs hb; clear hb ho54) | ((with_reducible refine gate_dst (N := 66) rfl ?_); refine li 66 3 Ny475.out ?_; intro v476 w55 ho56 hb; replace HO467 := Aside0.mk (Kd.R_below (rb HO467.out) hb); replace HO470 := Aside0.mk (Kd.R_below (rb HO470.out) hb); have HO477 := Aside0.mk (Kd.R_lower (Kd.R_new' ho56 (Kd.R_lt (rb HO474.out))) (below_size BA)); replace HO474 := Aside0.mk (Kd.R_elder' (rb HO474.out) (Kd.R_base ho56) hb); replace BK463 := kb BK463 hb; replace BK464 := kb BK464 hb; replace HB := bs hb; clear hb ho56; obtain ⟨Ao57, co57, eo57⟩ := Kd.R_slice HO477.out; subst eo57; obtain ⟨Ao58, co58, eo58⟩ := Kd.R_slice HO474.out; subst eo58; have hnb59 := NB463_464.out; have hnc59 := NB464_463.out; obtain ⟨hcz60_0, hcz60_1, hcz60_2, hcz60_3⟩ := bc4 BK463.out; have hfz60 := blk_frozen BK463.out; obtain ⟨Ao61, co61, eo61⟩ := Kd.R_slice HO470.out; subst eo61) | ((with_reducible refine gate_callee (f := 115) rfl ?_); refine gK (some 71) Try.func115 #[.slice Ao61 y468.length co61, .string a1_0] rfl rfl rfl ?_; (with_reducible refine (slices_Contains_string_string.calls k _ _ y468 a1_0 false _ ?side1 ?side2 A6.out).mono ?_); (case side1 => exact cb (Kd.R_reads' HO470.out).2.2); (case side2 => exact (Kd.R_reads' HO470.out).2.1); rintro e w' ⟨rfl, ⟨nd, rfl⟩⟩; refine ⟨_, rfl, ?_⟩; obtain ⟨hcz62_0, hcz62_1, hcz62_2⟩ := bc3 BK464.out; have hfz62 := blk_frozen BK464.out))
  refine bodyPost_ret (results_ct rfl _ _ gb464 57 #[.slice Ao58 y472.length co58, .slice Ao57 y475.length co57, .int .i64 1] (0, 0) _ rfl (bq BK464.out) Try.underlying57 rfl (by kernel_rfl)) rfl ?_
  try simp only [dsc]
  exact ⟨_, _, EQ, rb (Kd.R_mono (Kd.R_far (p := ⟨gb464, 2, none⟩) (Kd.R_far (p := ⟨gb464, 1, none⟩) (Kd.R_far (p := ⟨gb464, 0, none⟩) (Kd.R_types HO474.out BK464.out (by decide)) (fun _ hk => hk.2) (.slice Ao58 y472.length co58)) (fun _ hk => hk.2) (.slice Ao57 y475.length co57)) (fun _ hk => hk.2) (.int .i64 1)) (fun _ hk => by first | exact hk.1.2 | exact hk.1 | exact hk.2)), rb (Kd.R_mono (Kd.R_far (p := ⟨gb464, 2, none⟩) (Kd.R_far (p := ⟨gb464, 1, none⟩) (Kd.R_far (p := ⟨gb464, 0, none⟩) (Kd.R_types HO477.out BK464.out (by decide)) (fun _ hk => hk.2) (.slice Ao58 y472.length co58)) (fun _ hk => hk.2) (.slice Ao57 y475.length co57)) (fun _ hk => hk.2) (.int .i64 1)) (fun _ hk => by first | exact hk.1.2 | exact hk.1 | exact hk.2)), BA⟩

/-! ### impl_constTile_at6: function 102 -/
def impl_constTile_at6.f (k : Nat) (l0 : List (S54)) (a1_0 : ByteArray) (a1_1 : Int) (a1_2 : Int) (a1_3 : Int)  : Option (List Int × List Int × Int × Bool) := (some (([(⟨#[115, 104, 108]⟩ : ByteArray), (⟨#[115, 104, 114]⟩ : ByteArray)] : List ByteArray) : List ByteArray)).bind fun y485 => (if 0 ≤ a1_2 then (if a1_2 < (l0.length : Int) then ((impl_within.f ((rd_T54 l0 a1_2).f3) 1 5).bind fun t489 => (if t489 = true then ((some (([a1_1] : List Int) : List Int)).bind fun y490 => ((some (([a1_2] : List Int) : List Int)).bind fun y493 => ((slices_Contains_string_string.f k y485 a1_0).bind fun t496 => (if t496 = true then (if ((rd_T54 l0 a1_2).f0).toList = ([99, 111, 110, 115, 116] : List UInt8) then (some (y490, y493, 1, true)) else (some (y490, y493, 1, false))) else (some (y490, y493, 1, false)))))) else ((some (([a1_1] : List Int) : List Int)).bind fun y498 => ((some (([a1_2] : List Int) : List Int)).bind fun y501 => ((slices_Contains_string_string.f k y485 a1_0).bind fun t504 => (if t504 = true then (if ((rd_T54 l0 a1_2).f0).toList = ([99, 111, 110, 115, 116] : List UInt8) then (some (y498, y501, 1, false)) else (some (y498, y501, 1, false))) else (some (y498, y501, 1, false)))))))) else (none)) else (none))
def impl_constTile_at6.T1 : Bool × List (List Nat × List Nat) := (true, [([], []), ([0], [0]), ([], []), ([2], [2]), ([], []), ([1, 0, 1], [1]), ([3, 5, 0, 1, 2, 3, 5], [3]), ([4, 6, 0, 1, 2, 3, 4, 5, 6], [4])])
def impl_constTile_at6.B1 : List Nat := [0, 1, 0, 4, 0, 3, 47, 127]
theorem impl_constTile_at6.tab1 : rtab .any (opsOf Try.f102 1) = impl_constTile_at6.T1 := by kernel_rfl
theorem impl_constTile_at6.bits1 : waitsOk impl_constTile_at6.T1.2 impl_constTile_at6.B1 = true := by kernel_rfl
theorem impl_constTile_at6.calls (k : Nat) (A0 : Option Addr) (c0 : Nat) (l0 : List (S54)) (a1_0 : ByteArray) (a1_1 : Int) (a1_2 : Int) (a1_3 : Int)  (r1 : List Int) (r2 : List Int) (r3 : Int) (r4 : Bool) (w : World) (hr0 : Kd.C k54 w A0 l0.length l0) (hc0 : l0.length ≤ c0) (h : impl_constTile_at6.f k l0 a1_0 a1_1 a1_2 a1_3 = some (r1, r2, r3, r4)) :
  Calls Try.prog 102 #[.slice A0 l0.length c0, .agg #[.string a1_0, .int .i64 a1_1, .int .i64 a1_2, .int .i64 a1_3], .int .i64 6] w fun e w' => ∃ v0_ v1_ : Value, e = .returned (.tuple #[.agg #[v0_, v1_, .int .i64 r3], .bool r4]) ∧ Kd.R (Kd.int .i64) 3 w' w.heap.size (fun k_ => some k_ ≠ (v1_ : Value).ownBlock) v0_ r1 ∧ Kd.R (Kd.int .i64) 3 w' w.heap.size (fun k_ => some k_ ≠ (v0_ : Value).ownBlock) v1_ r2 ∧ Below w.heap.size w w' := by
 have hu54 := Try.underlying54
 have hu57 := Try.underlying57
 have HR0 := Aside0.mk hr0
 have HC0 := Aside0.mk hc0
 clear hr0 hc0
 have HB := Aside0.mk (Below.refl w.heap.size w)
 have H := h
 clear h
 unfold impl_constTile_at6.f at H
 obtain ⟨y482, hy482⟩ : ∃ y_ : List ByteArray, y_ = (([(⟨#[97, 100, 100]⟩ : ByteArray), (⟨#[115, 117, 98]⟩ : ByteArray), (⟨#[97, 110, 100]⟩ : ByteArray), (⟨#[120, 111, 114]⟩ : ByteArray)] : List ByteArray)) := ⟨_, rfl⟩
 replace H : ((some (([(⟨#[115, 104, 108]⟩ : ByteArray), (⟨#[115, 104, 114]⟩ : ByteArray)] : List ByteArray) : List ByteArray)).bind fun y485 => (if 0 ≤ a1_2 then (if a1_2 < (l0.length : Int) then ((impl_within.f ((rd_T54 l0 a1_2).f3) 1 5).bind fun t489 => (if t489 = true then ((some (([a1_1] : List Int) : List Int)).bind fun y490 => ((some (([a1_2] : List Int) : List Int)).bind fun y493 => ((slices_Contains_string_string.f k y485 a1_0).bind fun t496 => (if t496 = true then (if ((rd_T54 l0 a1_2).f0).toList = ([99, 111, 110, 115, 116] : List UInt8) then (some (y490, y493, 1, true)) else (some (y490, y493, 1, false))) else (some (y490, y493, 1, false)))))) else ((some (([a1_1] : List Int) : List Int)).bind fun y498 => ((some (([a1_2] : List Int) : List Int)).bind fun y501 => ((slices_Contains_string_string.f k y485 a1_0).bind fun t504 => (if t504 = true then (if ((rd_T54 l0 a1_2).f0).toList = ([99, 111, 110, 115, 116] : List UInt8) then (some (y498, y501, 1, false)) else (some (y498, y501, 1, false))) else (some (y498, y501, 1, false)))))))) else (none)) else (none))) = some (r1, r2, r3, r4) := by first | (rw [hy482]; with_reducible exact H) | (have H2_ := (Option.bind_some _ _).symm.trans H; rw [hy482]; with_reducible exact H2_) | (have H2_ := (Option.bind_some _ _).symm.trans H; with_reducible exact H2_) | with_reducible exact H | (rw [hy482]; exact H) | exact H
 have Ny482 := Aside0.mk hy482
 clear hy482
 obtain ⟨y485, hy485, H⟩ := lets H
 (try dsimp only at H)
 have Ny485 := Aside0.mk hy485
 clear hy485
 obtain ⟨c4, H⟩ := ifs H
 have c4b0 := decide_eq_true c4
 clear c4
 obtain ⟨c5, H⟩ := ifs H
 have c5b0 := decide_eq_true c5
 clear c5
 obtain ⟨t489, A6, H⟩ := ob H
 (try dsimp only at H)
 by_cases c7 : t489 = true
 ·subst c7
  rw [if_pos rfl] at H
  obtain ⟨y490, hy490, H⟩ := lets H
  (try dsimp only at H)
  have Ny490 := Aside0.mk hy490
  clear hy490
  obtain ⟨y493, hy493, H⟩ := lets H
  (try dsimp only at H)
  have Ny493 := Aside0.mk hy493
  clear hy493
  obtain ⟨t496, A8, H⟩ := ob H
  (try dsimp only at H)
  by_cases c9 : t496 = true
  ·subst c9
   rw [if_pos rfl] at H
   by_cases c10 : ((rd_T54 l0 a1_2).f0).toList = ([99, 111, 110, 115, 116] : List UInt8)
   ·rw [if_pos c10] at H
    have c10b0 := beq_iff_eq.mpr c10
    have c10b1 := bne_eq_false_iff_eq.mpr c10
    clear c10
    simp only [Option.some.injEq, Prod.mk.injEq] at H
    obtain ⟨rfl, rfl, rfl, rfl⟩ := H
    go_enter Try.func102, Try.ntmps102
    try go_wp2_with (first | ((with_reducible refine gd 4 rfl ?_); refine bx 4 #[.string a1_0, .int .i64 a1_1, .int .i64 a1_2, .int .i64 a1_3] 54 ?_; intro gb480 hg w11 BK480 GW480 HB hb; have GE480 := GW480; clear hb hg) | ((with_reducible refine gd 6 rfl ?_); refine bx 6 #[.slice none 0 0, .slice none 0 0, .int .i64 0] 57 ?_; intro gb481 hg w12 BK481 GW481 HB hb; have GE481 := GW481; have NB480_481 := nbl hg (bk BK480.out); have NB481_480 := nbr hg (bk BK480.out); replace BK480 := kb BK480 hb; clear hb hg))
    replace BK480 := Aside0.mk (blk_drew BK480.out); replace BK481 := Aside0.mk (blk_drew BK481.out); replace HB := Aside0.mk (below_drew1 HB.out)
    refine start_ (n := 8) (S := C4 gb480 (.string a1_0) (.int .i64 a1_1) (.int .i64 a1_2) (.int .i64 a1_3)) (ds := []) (mk 8 0) (by kernel_rfl) rfl (by kernel_rfl) (bc4 BK480.out) (fun hHeld => ?_); refine with_tabW impl_constTile_at6.tab1 impl_constTile_at6.bits1 (fun HT_ HW_ => ?_)
    generalize w12.drew = w13 at BK480 BK481 HB hHeld ⊢
    refine pu 0 13 8 1 rfl rfl ?_
    refine pu 2 15 8 5 rfl rfl ?_
    refine ta 1 14 8 7 rfl rfl ?_
    refine pu 5 8 8 39 rfl rfl ?_
    refine ta 3 16 8 47 rfl rfl ?_
    refine pu 6 9 8 111 rfl rfl ?_
    refine one_ (i := 4) (N := some 17) (mk 8 127) rfl rfl (one_of HT_.out (by kernel_rfl)) (by decide) (fun K hK => ?_)
    refine lss 17 9 Ny482.out ?_
    intro v483 w14 ho15 hb
    have HO484 := Aside0.mk (Kd.R_lower ho15 (below_size BA)); replace BK480 := kb BK480 hb; replace BK481 := kb BK481 hb; replace HB := bs hb
    clear hb ho15
    refine hK.out _ _ (bc4 BK480.out) (fun hHeld => ?_)
    clear hK K
    refine nm 17 ?_
    refine pu 7 10 8 255 rfl rfl ?_
    refine done_ (done_of HT_.out (by kernel_rfl)) ?_
    try go_wp2_with (first | ((with_reducible refine gate_dst (N := 28) rfl ?_); refine ls 28 9 Ny485.out ?_; intro v486 w16 ho17 hb; have HO487 := Aside0.mk (Kd.R_lower (Kd.R_new' ho17 (Kd.R_lt (rb HO484.out))) (below_size BA)); replace HO484 := Aside0.mk (Kd.R_elder' (rb HO484.out) (Kd.R_base ho17) hb); replace BK480 := kb BK480 hb; replace BK481 := kb BK481 hb; replace HB := bs hb; clear hb ho17; have p488 : 0 ≤ (a1_2 : Int) := DT; have q488 : a1_2 < (l0.length : Int) := DT; obtain ⟨ad488, e488, hx488_0, hx488_1, hx488_2, hx488_3⟩ := at_T54 (Kd.C_below HR0.out HB.out) a1_2 p488 q488; cases e488; replace p488 := eq_true p488; replace q488 := eq_true q488) | (go_at_call 59; (with_reducible refine (impl_within.calls ((rd_T54 l0 a1_2).f3) 1 5 true _ A6.out).mono ?_); rintro e w' ⟨rfl, ⟨nd, rfl⟩⟩) | ((with_reducible refine gate_dst (N := 64) rfl ?_); refine li 64 3 Ny490.out ?_; intro v491 w18 ho19 hb; replace HO484 := Aside0.mk (Kd.R_below (rb HO484.out) hb); replace HO487 := Aside0.mk (Kd.R_below (rb HO487.out) hb); have HO492 := Aside0.mk (Kd.R_lower ho19 (below_size BA)); replace BK480 := kb BK480 hb; replace BK481 := kb BK481 hb; replace HB := bs hb; clear hb ho19) | ((with_reducible refine gate_dst (N := 66) rfl ?_); refine li 66 3 Ny493.out ?_; intro v494 w20 ho21 hb; replace HO484 := Aside0.mk (Kd.R_below (rb HO484.out) hb); replace HO487 := Aside0.mk (Kd.R_below (rb HO487.out) hb); have HO495 := Aside0.mk (Kd.R_lower (Kd.R_new' ho21 (Kd.R_lt (rb HO492.out))) (below_size BA)); replace HO492 := Aside0.mk (Kd.R_elder' (rb HO492.out) (Kd.R_base ho21) hb); replace BK480 := kb BK480 hb; replace BK481 := kb BK481 hb; replace HB := bs hb; clear hb ho21; obtain ⟨Ao22, co22, eo22⟩ := Kd.R_slice HO495.out; subst eo22; obtain ⟨Ao23, co23, eo23⟩ := Kd.R_slice HO492.out; subst eo23; have hnb24 := NB480_481.out; have hnc24 := NB481_480.out; obtain ⟨hcz25_0, hcz25_1, hcz25_2, hcz25_3⟩ := bc4 BK480.out; have hfz25 := blk_frozen BK480.out; obtain ⟨Ao26, co26, eo26⟩ := Kd.R_slice HO487.out; subst eo26) | ((with_reducible refine gate_callee (f := 115) rfl ?_); refine gK (some 71) Try.func115 #[.slice Ao26 y485.length co26, .string a1_0] rfl rfl rfl ?_; (with_reducible refine (slices_Contains_string_string.calls k _ _ y485 a1_0 true _ ?side1 ?side2 A8.out).mono ?_); (case side1 => exact cb (Kd.R_reads' HO487.out).2.2); (case side2 => exact (Kd.R_reads' HO487.out).2.1); rintro e w' ⟨rfl, ⟨nd, rfl⟩⟩; refine ⟨_, rfl, ?_⟩; have p497 : 0 ≤ (a1_2 : Int) := DT; have q497 : a1_2 < (l0.length : Int) := DT; obtain ⟨ad497, e497, hx497_0, hx497_1, hx497_2, hx497_3⟩ := at_T54 (Kd.C_below HR0.out HB.out) a1_2 p497 q497; obtain rfl : ad488 = ad497 := (by injection e497); replace p497 := eq_true p497; replace q497 := eq_true q497; obtain ⟨hcz27_0, hcz27_1, hcz27_2⟩ := bc3 BK481.out; have hfz27 := blk_frozen BK481.out))
    refine bodyPost_ret (results_ct rfl _ _ gb481 57 #[.slice Ao23 y490.length co23, .slice Ao22 y493.length co22, .int .i64 1] (0, 0) _ rfl (bq BK481.out) Try.underlying57 rfl (by kernel_rfl)) rfl ?_
    try simp only [dsc]
    exact ⟨_, _, EQ, rb (Kd.R_mono (Kd.R_far (p := ⟨gb481, 2, none⟩) (Kd.R_far (p := ⟨gb481, 1, none⟩) (Kd.R_far (p := ⟨gb481, 0, none⟩) (Kd.R_types HO492.out BK481.out (by decide)) (fun _ hk => hk.2) (.slice Ao23 y490.length co23)) (fun _ hk => hk.2) (.slice Ao22 y493.length co22)) (fun _ hk => hk.2) (.int .i64 1)) (fun _ hk => by first | exact hk.1.2 | exact hk.1 | exact hk.2)), rb (Kd.R_mono (Kd.R_far (p := ⟨gb481, 2, none⟩) (Kd.R_far (p := ⟨gb481, 1, none⟩) (Kd.R_far (p := ⟨gb481, 0, none⟩) (Kd.R_types HO495.out BK481.out (by decide)) (fun _ hk => hk.2) (.slice Ao23 y490.length co23)) (fun _ hk => hk.2) (.slice Ao22 y493.length co22)) (fun _ hk => hk.2) (.int .i64 1)) (fun _ hk => by first | exact hk.1.2 | exact hk.1 | exact hk.2)), BA⟩
   ·rw [if_neg c10] at H
    have c10b0 := beq_eq_false_iff_ne.mpr c10
    have c10b1 := bne_iff_ne.mpr c10
    simp only [Option.some.injEq, Prod.mk.injEq] at H
    obtain ⟨rfl, rfl, rfl, rfl⟩ := H
    go_enter Try.func102, Try.ntmps102
    try go_wp2_with (first | ((with_reducible refine gd 4 rfl ?_); refine bx 4 #[.string a1_0, .int .i64 a1_1, .int .i64 a1_2, .int .i64 a1_3] 54 ?_; intro gb480 hg w28 BK480 GW480 HB hb; have GE480 := GW480; clear hb hg) | ((with_reducible refine gd 6 rfl ?_); refine bx 6 #[.slice none 0 0, .slice none 0 0, .int .i64 0] 57 ?_; intro gb481 hg w29 BK481 GW481 HB hb; have GE481 := GW481; have NB480_481 := nbl hg (bk BK480.out); have NB481_480 := nbr hg (bk BK480.out); replace BK480 := kb BK480 hb; clear hb hg))
    replace BK480 := Aside0.mk (blk_drew BK480.out); replace BK481 := Aside0.mk (blk_drew BK481.out); replace HB := Aside0.mk (below_drew1 HB.out)
    refine start_ (n := 8) (S := C4 gb480 (.string a1_0) (.int .i64 a1_1) (.int .i64 a1_2) (.int .i64 a1_3)) (ds := []) (mk 8 0) (by kernel_rfl) rfl (by kernel_rfl) (bc4 BK480.out) (fun hHeld => ?_); refine with_tabW impl_constTile_at6.tab1 impl_constTile_at6.bits1 (fun HT_ HW_ => ?_)
    generalize w29.drew = w30 at BK480 BK481 HB hHeld ⊢
    refine pu 0 13 8 1 rfl rfl ?_
    refine pu 2 15 8 5 rfl rfl ?_
    refine ta 1 14 8 7 rfl rfl ?_
    refine pu 5 8 8 39 rfl rfl ?_
    refine ta 3 16 8 47 rfl rfl ?_
    refine pu 6 9 8 111 rfl rfl ?_
    refine one_ (i := 4) (N := some 17) (mk 8 127) rfl rfl (one_of HT_.out (by kernel_rfl)) (by decide) (fun K hK => ?_)
    refine lss 17 9 Ny482.out ?_
    intro v483 w31 ho32 hb
    have HO484 := Aside0.mk (Kd.R_lower ho32 (below_size BA)); replace BK480 := kb BK480 hb; replace BK481 := kb BK481 hb; replace HB := bs hb
    clear hb ho32
    refine hK.out _ _ (bc4 BK480.out) (fun hHeld => ?_)
    clear hK K
    refine nm 17 ?_
    refine pu 7 10 8 255 rfl rfl ?_
    refine done_ (done_of HT_.out (by kernel_rfl)) ?_
    try go_wp2_with (first | ((with_reducible refine gate_dst (N := 28) rfl ?_); refine ls 28 9 Ny485.out ?_; intro v486 w33 ho34 hb; have HO487 := Aside0.mk (Kd.R_lower (Kd.R_new' ho34 (Kd.R_lt (rb HO484.out))) (below_size BA)); replace HO484 := Aside0.mk (Kd.R_elder' (rb HO484.out) (Kd.R_base ho34) hb); replace BK480 := kb BK480 hb; replace BK481 := kb BK481 hb; replace HB := bs hb; clear hb ho34; have p488 : 0 ≤ (a1_2 : Int) := DT; have q488 : a1_2 < (l0.length : Int) := DT; obtain ⟨ad488, e488, hx488_0, hx488_1, hx488_2, hx488_3⟩ := at_T54 (Kd.C_below HR0.out HB.out) a1_2 p488 q488; cases e488; replace p488 := eq_true p488; replace q488 := eq_true q488) | (go_at_call 59; (with_reducible refine (impl_within.calls ((rd_T54 l0 a1_2).f3) 1 5 true _ A6.out).mono ?_); rintro e w' ⟨rfl, ⟨nd, rfl⟩⟩) | ((with_reducible refine gate_dst (N := 64) rfl ?_); refine li 64 3 Ny490.out ?_; intro v491 w35 ho36 hb; replace HO484 := Aside0.mk (Kd.R_below (rb HO484.out) hb); replace HO487 := Aside0.mk (Kd.R_below (rb HO487.out) hb); have HO492 := Aside0.mk (Kd.R_lower ho36 (below_size BA)); replace BK480 := kb BK480 hb; replace BK481 := kb BK481 hb; replace HB := bs hb; clear hb ho36) | ((with_reducible refine gate_dst (N := 66) rfl ?_); refine li 66 3 Ny493.out ?_; intro v494 w37 ho38 hb; replace HO484 := Aside0.mk (Kd.R_below (rb HO484.out) hb); replace HO487 := Aside0.mk (Kd.R_below (rb HO487.out) hb); have HO495 := Aside0.mk (Kd.R_lower (Kd.R_new' ho38 (Kd.R_lt (rb HO492.out))) (below_size BA)); replace HO492 := Aside0.mk (Kd.R_elder' (rb HO492.out) (Kd.R_base ho38) hb); replace BK480 := kb BK480 hb; replace BK481 := kb BK481 hb; replace HB := bs hb; clear hb ho38; obtain ⟨Ao39, co39, eo39⟩ := Kd.R_slice HO495.out; subst eo39; obtain ⟨Ao40, co40, eo40⟩ := Kd.R_slice HO492.out; subst eo40; have hnb41 := NB480_481.out; have hnc41 := NB481_480.out; obtain ⟨hcz42_0, hcz42_1, hcz42_2, hcz42_3⟩ := bc4 BK480.out; have hfz42 := blk_frozen BK480.out; obtain ⟨Ao43, co43, eo43⟩ := Kd.R_slice HO487.out; subst eo43) | ((with_reducible refine gate_callee (f := 115) rfl ?_); refine gK (some 71) Try.func115 #[.slice Ao43 y485.length co43, .string a1_0] rfl rfl rfl ?_; (with_reducible refine (slices_Contains_string_string.calls k _ _ y485 a1_0 true _ ?side1 ?side2 A8.out).mono ?_); (case side1 => exact cb (Kd.R_reads' HO487.out).2.2); (case side2 => exact (Kd.R_reads' HO487.out).2.1); rintro e w' ⟨rfl, ⟨nd, rfl⟩⟩; refine ⟨_, rfl, ?_⟩; have p497 : 0 ≤ (a1_2 : Int) := DT; have q497 : a1_2 < (l0.length : Int) := DT; obtain ⟨ad497, e497, hx497_0, hx497_1, hx497_2, hx497_3⟩ := at_T54 (Kd.C_below HR0.out HB.out) a1_2 p497 q497; obtain rfl : ad488 = ad497 := (by injection e497); replace p497 := eq_true p497; replace q497 := eq_true q497; obtain ⟨hcz44_0, hcz44_1, hcz44_2⟩ := bc3 BK481.out; have hfz44 := blk_frozen BK481.out))
    refine bodyPost_ret (results_ct rfl _ _ gb481 57 #[.slice Ao40 y490.length co40, .slice Ao39 y493.length co39, .int .i64 1] (0, 0) _ rfl (bq BK481.out) Try.underlying57 rfl (by kernel_rfl)) rfl ?_
    try simp only [dsc]
    exact ⟨_, _, EQ, rb (Kd.R_mono (Kd.R_far (p := ⟨gb481, 2, none⟩) (Kd.R_far (p := ⟨gb481, 1, none⟩) (Kd.R_far (p := ⟨gb481, 0, none⟩) (Kd.R_types HO492.out BK481.out (by decide)) (fun _ hk => hk.2) (.slice Ao40 y490.length co40)) (fun _ hk => hk.2) (.slice Ao39 y493.length co39)) (fun _ hk => hk.2) (.int .i64 1)) (fun _ hk => by first | exact hk.1.2 | exact hk.1 | exact hk.2)), rb (Kd.R_mono (Kd.R_far (p := ⟨gb481, 2, none⟩) (Kd.R_far (p := ⟨gb481, 1, none⟩) (Kd.R_far (p := ⟨gb481, 0, none⟩) (Kd.R_types HO495.out BK481.out (by decide)) (fun _ hk => hk.2) (.slice Ao40 y490.length co40)) (fun _ hk => hk.2) (.slice Ao39 y493.length co39)) (fun _ hk => hk.2) (.int .i64 1)) (fun _ hk => by first | exact hk.1.2 | exact hk.1 | exact hk.2)), BA⟩
  ·replace c9 := Bool.eq_false_iff.mpr c9
   subst c9
   rw [if_neg (show ¬ (false = true) by decide)] at H
   simp only [Option.some.injEq, Prod.mk.injEq] at H
   obtain ⟨rfl, rfl, rfl, rfl⟩ := H
   go_enter Try.func102, Try.ntmps102
   try go_wp2_with (first | ((with_reducible refine gd 4 rfl ?_); refine bx 4 #[.string a1_0, .int .i64 a1_1, .int .i64 a1_2, .int .i64 a1_3] 54 ?_; intro gb480 hg w45 BK480 GW480 HB hb; have GE480 := GW480; clear hb hg) | ((with_reducible refine gd 6 rfl ?_); refine bx 6 #[.slice none 0 0, .slice none 0 0, .int .i64 0] 57 ?_; intro gb481 hg w46 BK481 GW481 HB hb; have GE481 := GW481; have NB480_481 := nbl hg (bk BK480.out); have NB481_480 := nbr hg (bk BK480.out); replace BK480 := kb BK480 hb; clear hb hg))
   replace BK480 := Aside0.mk (blk_drew BK480.out); replace BK481 := Aside0.mk (blk_drew BK481.out); replace HB := Aside0.mk (below_drew1 HB.out)
   refine start_ (n := 8) (S := C4 gb480 (.string a1_0) (.int .i64 a1_1) (.int .i64 a1_2) (.int .i64 a1_3)) (ds := []) (mk 8 0) (by kernel_rfl) rfl (by kernel_rfl) (bc4 BK480.out) (fun hHeld => ?_); refine with_tabW impl_constTile_at6.tab1 impl_constTile_at6.bits1 (fun HT_ HW_ => ?_)
   generalize w46.drew = w47 at BK480 BK481 HB hHeld ⊢
   refine pu 0 13 8 1 rfl rfl ?_
   refine pu 2 15 8 5 rfl rfl ?_
   refine ta 1 14 8 7 rfl rfl ?_
   refine pu 5 8 8 39 rfl rfl ?_
   refine ta 3 16 8 47 rfl rfl ?_
   refine pu 6 9 8 111 rfl rfl ?_
   refine one_ (i := 4) (N := some 17) (mk 8 127) rfl rfl (one_of HT_.out (by kernel_rfl)) (by decide) (fun K hK => ?_)
   refine lss 17 9 Ny482.out ?_
   intro v483 w48 ho49 hb
   have HO484 := Aside0.mk (Kd.R_lower ho49 (below_size BA)); replace BK480 := kb BK480 hb; replace BK481 := kb BK481 hb; replace HB := bs hb
   clear hb ho49
   refine hK.out _ _ (bc4 BK480.out) (fun hHeld => ?_)
   clear hK K
   refine nm 17 ?_
   refine pu 7 10 8 255 rfl rfl ?_
   refine done_ (done_of HT_.out (by kernel_rfl)) ?_
   try go_wp2_with (first | ((with_reducible refine gate_dst (N := 28) rfl ?_); refine ls 28 9 Ny485.out ?_; intro v486 w50 ho51 hb; have HO487 := Aside0.mk (Kd.R_lower (Kd.R_new' ho51 (Kd.R_lt (rb HO484.out))) (below_size BA)); replace HO484 := Aside0.mk (Kd.R_elder' (rb HO484.out) (Kd.R_base ho51) hb); replace BK480 := kb BK480 hb; replace BK481 := kb BK481 hb; replace HB := bs hb; clear hb ho51; have p488 : 0 ≤ (a1_2 : Int) := DT; have q488 : a1_2 < (l0.length : Int) := DT; obtain ⟨ad488, e488, hx488_0, hx488_1, hx488_2, hx488_3⟩ := at_T54 (Kd.C_below HR0.out HB.out) a1_2 p488 q488; cases e488; replace p488 := eq_true p488; replace q488 := eq_true q488) | (go_at_call 59; (with_reducible refine (impl_within.calls ((rd_T54 l0 a1_2).f3) 1 5 true _ A6.out).mono ?_); rintro e w' ⟨rfl, ⟨nd, rfl⟩⟩) | ((with_reducible refine gate_dst (N := 64) rfl ?_); refine li 64 3 Ny490.out ?_; intro v491 w52 ho53 hb; replace HO484 := Aside0.mk (Kd.R_below (rb HO484.out) hb); replace HO487 := Aside0.mk (Kd.R_below (rb HO487.out) hb); have HO492 := Aside0.mk (Kd.R_lower ho53 (below_size BA)); replace BK480 := kb BK480 hb; replace BK481 := kb BK481 hb; replace HB := bs hb; clear hb ho53) | ((with_reducible refine gate_dst (N := 66) rfl ?_); refine li 66 3 Ny493.out ?_; intro v494 w54 ho55 hb; replace HO484 := Aside0.mk (Kd.R_below (rb HO484.out) hb); replace HO487 := Aside0.mk (Kd.R_below (rb HO487.out) hb); have HO495 := Aside0.mk (Kd.R_lower (Kd.R_new' ho55 (Kd.R_lt (rb HO492.out))) (below_size BA)); replace HO492 := Aside0.mk (Kd.R_elder' (rb HO492.out) (Kd.R_base ho55) hb); replace BK480 := kb BK480 hb; replace BK481 := kb BK481 hb; replace HB := bs hb; clear hb ho55; obtain ⟨Ao56, co56, eo56⟩ := Kd.R_slice HO495.out; subst eo56; obtain ⟨Ao57, co57, eo57⟩ := Kd.R_slice HO492.out; subst eo57; have hnb58 := NB480_481.out; have hnc58 := NB481_480.out; obtain ⟨hcz59_0, hcz59_1, hcz59_2, hcz59_3⟩ := bc4 BK480.out; have hfz59 := blk_frozen BK480.out; obtain ⟨Ao60, co60, eo60⟩ := Kd.R_slice HO487.out; subst eo60) | ((with_reducible refine gate_callee (f := 115) rfl ?_); refine gK (some 71) Try.func115 #[.slice Ao60 y485.length co60, .string a1_0] rfl rfl rfl ?_; (with_reducible refine (slices_Contains_string_string.calls k _ _ y485 a1_0 false _ ?side1 ?side2 A8.out).mono ?_); (case side1 => exact cb (Kd.R_reads' HO487.out).2.2); (case side2 => exact (Kd.R_reads' HO487.out).2.1); rintro e w' ⟨rfl, ⟨nd, rfl⟩⟩; refine ⟨_, rfl, ?_⟩; obtain ⟨hcz61_0, hcz61_1, hcz61_2⟩ := bc3 BK481.out; have hfz61 := blk_frozen BK481.out))
   refine bodyPost_ret (results_ct rfl _ _ gb481 57 #[.slice Ao57 y490.length co57, .slice Ao56 y493.length co56, .int .i64 1] (0, 0) _ rfl (bq BK481.out) Try.underlying57 rfl (by kernel_rfl)) rfl ?_
   try simp only [dsc]
   exact ⟨_, _, EQ, rb (Kd.R_mono (Kd.R_far (p := ⟨gb481, 2, none⟩) (Kd.R_far (p := ⟨gb481, 1, none⟩) (Kd.R_far (p := ⟨gb481, 0, none⟩) (Kd.R_types HO492.out BK481.out (by decide)) (fun _ hk => hk.2) (.slice Ao57 y490.length co57)) (fun _ hk => hk.2) (.slice Ao56 y493.length co56)) (fun _ hk => hk.2) (.int .i64 1)) (fun _ hk => by first | exact hk.1.2 | exact hk.1 | exact hk.2)), rb (Kd.R_mono (Kd.R_far (p := ⟨gb481, 2, none⟩) (Kd.R_far (p := ⟨gb481, 1, none⟩) (Kd.R_far (p := ⟨gb481, 0, none⟩) (Kd.R_types HO495.out BK481.out (by decide)) (fun _ hk => hk.2) (.slice Ao57 y490.length co57)) (fun _ hk => hk.2) (.slice Ao56 y493.length co56)) (fun _ hk => hk.2) (.int .i64 1)) (fun _ hk => by first | exact hk.1.2 | exact hk.1 | exact hk.2)), BA⟩
 ·replace c7 := Bool.eq_false_iff.mpr c7
  subst c7
  rw [if_neg (show ¬ (false = true) by decide)] at H
  obtain ⟨y498, hy498, H⟩ := lets H
  (try dsimp only at H)
  have Ny498 := Aside0.mk hy498
  clear hy498
  obtain ⟨y501, hy501, H⟩ := lets H
  (try dsimp only at H)
  have Ny501 := Aside0.mk hy501
  clear hy501
  obtain ⟨t504, A62, H⟩ := ob H
  (try dsimp only at H)
  by_cases c63 : t504 = true
  ·subst c63
   rw [if_pos rfl] at H
   by_cases c64 : ((rd_T54 l0 a1_2).f0).toList = ([99, 111, 110, 115, 116] : List UInt8)
   ·rw [if_pos c64] at H
    have c64b0 := beq_iff_eq.mpr c64
    have c64b1 := bne_eq_false_iff_eq.mpr c64
    clear c64
    simp only [Option.some.injEq, Prod.mk.injEq] at H
    obtain ⟨rfl, rfl, rfl, rfl⟩ := H
    go_enter Try.func102, Try.ntmps102
    try go_wp2_with (first | ((with_reducible refine gd 4 rfl ?_); refine bx 4 #[.string a1_0, .int .i64 a1_1, .int .i64 a1_2, .int .i64 a1_3] 54 ?_; intro gb480 hg w65 BK480 GW480 HB hb; have GE480 := GW480; clear hb hg) | ((with_reducible refine gd 6 rfl ?_); refine bx 6 #[.slice none 0 0, .slice none 0 0, .int .i64 0] 57 ?_; intro gb481 hg w66 BK481 GW481 HB hb; have GE481 := GW481; have NB480_481 := nbl hg (bk BK480.out); have NB481_480 := nbr hg (bk BK480.out); replace BK480 := kb BK480 hb; clear hb hg))
    replace BK480 := Aside0.mk (blk_drew BK480.out); replace BK481 := Aside0.mk (blk_drew BK481.out); replace HB := Aside0.mk (below_drew1 HB.out)
    refine start_ (n := 8) (S := C4 gb480 (.string a1_0) (.int .i64 a1_1) (.int .i64 a1_2) (.int .i64 a1_3)) (ds := []) (mk 8 0) (by kernel_rfl) rfl (by kernel_rfl) (bc4 BK480.out) (fun hHeld => ?_); refine with_tabW impl_constTile_at6.tab1 impl_constTile_at6.bits1 (fun HT_ HW_ => ?_)
    generalize w66.drew = w67 at BK480 BK481 HB hHeld ⊢
    refine pu 0 13 8 1 rfl rfl ?_
    refine pu 2 15 8 5 rfl rfl ?_
    refine ta 1 14 8 7 rfl rfl ?_
    refine pu 5 8 8 39 rfl rfl ?_
    refine ta 3 16 8 47 rfl rfl ?_
    refine pu 6 9 8 111 rfl rfl ?_
    refine one_ (i := 4) (N := some 17) (mk 8 127) rfl rfl (one_of HT_.out (by kernel_rfl)) (by decide) (fun K hK => ?_)
    refine lss 17 9 Ny482.out ?_
    intro v483 w68 ho69 hb
    have HO484 := Aside0.mk (Kd.R_lower ho69 (below_size BA)); replace BK480 := kb BK480 hb; replace BK481 := kb BK481 hb; replace HB := bs hb
    clear hb ho69
    refine hK.out _ _ (bc4 BK480.out) (fun hHeld => ?_)
    clear hK K
    refine nm 17 ?_
    refine pu 7 10 8 255 rfl rfl ?_
    refine done_ (done_of HT_.out (by kernel_rfl)) ?_
    try go_wp2_with (first | ((with_reducible refine gate_dst (N := 28) rfl ?_); refine ls 28 9 Ny485.out ?_; intro v486 w70 ho71 hb; have HO487 := Aside0.mk (Kd.R_lower (Kd.R_new' ho71 (Kd.R_lt (rb HO484.out))) (below_size BA)); replace HO484 := Aside0.mk (Kd.R_elder' (rb HO484.out) (Kd.R_base ho71) hb); replace BK480 := kb BK480 hb; replace BK481 := kb BK481 hb; replace HB := bs hb; clear hb ho71; have p488 : 0 ≤ (a1_2 : Int) := DT; have q488 : a1_2 < (l0.length : Int) := DT; obtain ⟨ad488, e488, hx488_0, hx488_1, hx488_2, hx488_3⟩ := at_T54 (Kd.C_below HR0.out HB.out) a1_2 p488 q488; cases e488; replace p488 := eq_true p488; replace q488 := eq_true q488) | (go_at_call 59; (with_reducible refine (impl_within.calls ((rd_T54 l0 a1_2).f3) 1 5 false _ A6.out).mono ?_); rintro e w' ⟨rfl, ⟨nd, rfl⟩⟩) | ((with_reducible refine gate_dst (N := 64) rfl ?_); refine li 64 3 Ny498.out ?_; intro v499 w72 ho73 hb; replace HO484 := Aside0.mk (Kd.R_below (rb HO484.out) hb); replace HO487 := Aside0.mk (Kd.R_below (rb HO487.out) hb); have HO500 := Aside0.mk (Kd.R_lower ho73 (below_size BA)); replace BK480 := kb BK480 hb; replace BK481 := kb BK481 hb; replace HB := bs hb; clear hb ho73) | ((with_reducible refine gate_dst (N := 66) rfl ?_); refine li 66 3 Ny501.out ?_; intro v502 w74 ho75 hb; replace HO484 := Aside0.mk (Kd.R_below (rb HO484.out) hb); replace HO487 := Aside0.mk (Kd.R_below (rb HO487.out) hb); have HO503 := Aside0.mk (Kd.R_lower (Kd.R_new' ho75 (Kd.R_lt (rb HO500.out))) (below_size BA)); replace HO500 := Aside0.mk (Kd.R_elder' (rb HO500.out) (Kd.R_base ho75) hb); replace BK480 := kb BK480 hb; replace BK481 := kb BK481 hb; replace HB := bs hb; clear hb ho75; obtain ⟨Ao76, co76, eo76⟩ := Kd.R_slice HO503.out; subst eo76; obtain ⟨Ao77, co77, eo77⟩ := Kd.R_slice HO500.out; subst eo77; have hnb78 := NB480_481.out; have hnc78 := NB481_480.out; obtain ⟨hcz79_0, hcz79_1, hcz79_2, hcz79_3⟩ := bc4 BK480.out; have hfz79 := blk_frozen BK480.out; obtain ⟨Ao80, co80, eo80⟩ := Kd.R_slice HO487.out; subst eo80) | ((with_reducible refine gate_callee (f := 115) rfl ?_); refine gK (some 71) Try.func115 #[.slice Ao80 y485.length co80, .string a1_0] rfl rfl rfl ?_; (with_reducible refine (slices_Contains_string_string.calls k _ _ y485 a1_0 true _ ?side1 ?side2 A62.out).mono ?_); (case side1 => exact cb (Kd.R_reads' HO487.out).2.2); (case side2 => exact (Kd.R_reads' HO487.out).2.1); rintro e w' ⟨rfl, ⟨nd, rfl⟩⟩; refine ⟨_, rfl, ?_⟩; have p505 : 0 ≤ (a1_2 : Int) := DT; have q505 : a1_2 < (l0.length : Int) := DT; obtain ⟨ad505, e505, hx505_0, hx505_1, hx505_2, hx505_3⟩ := at_T54 (Kd.C_below HR0.out HB.out) a1_2 p505 q505; obtain rfl : ad488 = ad505 := (by injection e505); replace p505 := eq_true p505; replace q505 := eq_true q505; obtain ⟨hcz81_0, hcz81_1, hcz81_2⟩ := bc3 BK481.out; have hfz81 := blk_frozen BK481.out))
    refine bodyPost_ret (results_ct rfl _ _ gb481 57 #[.slice Ao77 y498.length co77, .slice Ao76 y501.length co76, .int .i64 1] (0, 0) _ rfl (bq BK481.out) Try.underlying57 rfl (by kernel_rfl)) rfl ?_
    try simp only [dsc]
    exact ⟨_, _, EQ, rb (Kd.R_mono (Kd.R_far (p := ⟨gb481, 2, none⟩) (Kd.R_far (p := ⟨gb481, 1, none⟩) (Kd.R_far (p := ⟨gb481, 0, none⟩) (Kd.R_types HO500.out BK481.out (by decide)) (fun _ hk => hk.2) (.slice Ao77 y498.length co77)) (fun _ hk => hk.2) (.slice Ao76 y501.length co76)) (fun _ hk => hk.2) (.int .i64 1)) (fun _ hk => by first | exact hk.1.2 | exact hk.1 | exact hk.2)), rb (Kd.R_mono (Kd.R_far (p := ⟨gb481, 2, none⟩) (Kd.R_far (p := ⟨gb481, 1, none⟩) (Kd.R_far (p := ⟨gb481, 0, none⟩) (Kd.R_types HO503.out BK481.out (by decide)) (fun _ hk => hk.2) (.slice Ao77 y498.length co77)) (fun _ hk => hk.2) (.slice Ao76 y501.length co76)) (fun _ hk => hk.2) (.int .i64 1)) (fun _ hk => by first | exact hk.1.2 | exact hk.1 | exact hk.2)), BA⟩
   ·rw [if_neg c64] at H
    have c64b0 := beq_eq_false_iff_ne.mpr c64
    have c64b1 := bne_iff_ne.mpr c64
    simp only [Option.some.injEq, Prod.mk.injEq] at H
    obtain ⟨rfl, rfl, rfl, rfl⟩ := H
    go_enter Try.func102, Try.ntmps102
    try go_wp2_with (first | ((with_reducible refine gd 4 rfl ?_); refine bx 4 #[.string a1_0, .int .i64 a1_1, .int .i64 a1_2, .int .i64 a1_3] 54 ?_; intro gb480 hg w82 BK480 GW480 HB hb; have GE480 := GW480; clear hb hg) | ((with_reducible refine gd 6 rfl ?_); refine bx 6 #[.slice none 0 0, .slice none 0 0, .int .i64 0] 57 ?_; intro gb481 hg w83 BK481 GW481 HB hb; have GE481 := GW481; have NB480_481 := nbl hg (bk BK480.out); have NB481_480 := nbr hg (bk BK480.out); replace BK480 := kb BK480 hb; clear hb hg))
    replace BK480 := Aside0.mk (blk_drew BK480.out); replace BK481 := Aside0.mk (blk_drew BK481.out); replace HB := Aside0.mk (below_drew1 HB.out)
    refine start_ (n := 8) (S := C4 gb480 (.string a1_0) (.int .i64 a1_1) (.int .i64 a1_2) (.int .i64 a1_3)) (ds := []) (mk 8 0) (by kernel_rfl) rfl (by kernel_rfl) (bc4 BK480.out) (fun hHeld => ?_); refine with_tabW impl_constTile_at6.tab1 impl_constTile_at6.bits1 (fun HT_ HW_ => ?_)
    generalize w83.drew = w84 at BK480 BK481 HB hHeld ⊢
    refine pu 0 13 8 1 rfl rfl ?_
    refine pu 2 15 8 5 rfl rfl ?_
    refine ta 1 14 8 7 rfl rfl ?_
    refine pu 5 8 8 39 rfl rfl ?_
    refine ta 3 16 8 47 rfl rfl ?_
    refine pu 6 9 8 111 rfl rfl ?_
    refine one_ (i := 4) (N := some 17) (mk 8 127) rfl rfl (one_of HT_.out (by kernel_rfl)) (by decide) (fun K hK => ?_)
    refine lss 17 9 Ny482.out ?_
    intro v483 w85 ho86 hb
    have HO484 := Aside0.mk (Kd.R_lower ho86 (below_size BA)); replace BK480 := kb BK480 hb; replace BK481 := kb BK481 hb; replace HB := bs hb
    clear hb ho86
    refine hK.out _ _ (bc4 BK480.out) (fun hHeld => ?_)
    clear hK K
    refine nm 17 ?_
    refine pu 7 10 8 255 rfl rfl ?_
    refine done_ (done_of HT_.out (by kernel_rfl)) ?_
    try go_wp2_with (first | ((with_reducible refine gate_dst (N := 28) rfl ?_); refine ls 28 9 Ny485.out ?_; intro v486 w87 ho88 hb; have HO487 := Aside0.mk (Kd.R_lower (Kd.R_new' ho88 (Kd.R_lt (rb HO484.out))) (below_size BA)); replace HO484 := Aside0.mk (Kd.R_elder' (rb HO484.out) (Kd.R_base ho88) hb); replace BK480 := kb BK480 hb; replace BK481 := kb BK481 hb; replace HB := bs hb; clear hb ho88; have p488 : 0 ≤ (a1_2 : Int) := DT; have q488 : a1_2 < (l0.length : Int) := DT; obtain ⟨ad488, e488, hx488_0, hx488_1, hx488_2, hx488_3⟩ := at_T54 (Kd.C_below HR0.out HB.out) a1_2 p488 q488; cases e488; replace p488 := eq_true p488; replace q488 := eq_true q488) | (go_at_call 59; (with_reducible refine (impl_within.calls ((rd_T54 l0 a1_2).f3) 1 5 false _ A6.out).mono ?_); rintro e w' ⟨rfl, ⟨nd, rfl⟩⟩) | ((with_reducible refine gate_dst (N := 64) rfl ?_); refine li 64 3 Ny498.out ?_; intro v499 w89 ho90 hb; replace HO484 := Aside0.mk (Kd.R_below (rb HO484.out) hb); replace HO487 := Aside0.mk (Kd.R_below (rb HO487.out) hb); have HO500 := Aside0.mk (Kd.R_lower ho90 (below_size BA)); replace BK480 := kb BK480 hb; replace BK481 := kb BK481 hb; replace HB := bs hb; clear hb ho90) | ((with_reducible refine gate_dst (N := 66) rfl ?_); refine li 66 3 Ny501.out ?_; intro v502 w91 ho92 hb; replace HO484 := Aside0.mk (Kd.R_below (rb HO484.out) hb); replace HO487 := Aside0.mk (Kd.R_below (rb HO487.out) hb); have HO503 := Aside0.mk (Kd.R_lower (Kd.R_new' ho92 (Kd.R_lt (rb HO500.out))) (below_size BA)); replace HO500 := Aside0.mk (Kd.R_elder' (rb HO500.out) (Kd.R_base ho92) hb); replace BK480 := kb BK480 hb; replace BK481 := kb BK481 hb; replace HB := bs hb; clear hb ho92; obtain ⟨Ao93, co93, eo93⟩ := Kd.R_slice HO503.out; subst eo93; obtain ⟨Ao94, co94, eo94⟩ := Kd.R_slice HO500.out; subst eo94; have hnb95 := NB480_481.out; have hnc95 := NB481_480.out; obtain ⟨hcz96_0, hcz96_1, hcz96_2, hcz96_3⟩ := bc4 BK480.out; have hfz96 := blk_frozen BK480.out; obtain ⟨Ao97, co97, eo97⟩ := Kd.R_slice HO487.out; subst eo97) | ((with_reducible refine gate_callee (f := 115) rfl ?_); refine gK (some 71) Try.func115 #[.slice Ao97 y485.length co97, .string a1_0] rfl rfl rfl ?_; (with_reducible refine (slices_Contains_string_string.calls k _ _ y485 a1_0 true _ ?side1 ?side2 A62.out).mono ?_); (case side1 => exact cb (Kd.R_reads' HO487.out).2.2); (case side2 => exact (Kd.R_reads' HO487.out).2.1); rintro e w' ⟨rfl, ⟨nd, rfl⟩⟩; refine ⟨_, rfl, ?_⟩; have p505 : 0 ≤ (a1_2 : Int) := DT; have q505 : a1_2 < (l0.length : Int) := DT; obtain ⟨ad505, e505, hx505_0, hx505_1, hx505_2, hx505_3⟩ := at_T54 (Kd.C_below HR0.out HB.out) a1_2 p505 q505; obtain rfl : ad488 = ad505 := (by injection e505); replace p505 := eq_true p505; replace q505 := eq_true q505; obtain ⟨hcz98_0, hcz98_1, hcz98_2⟩ := bc3 BK481.out; have hfz98 := blk_frozen BK481.out))
    refine bodyPost_ret (results_ct rfl _ _ gb481 57 #[.slice Ao94 y498.length co94, .slice Ao93 y501.length co93, .int .i64 1] (0, 0) _ rfl (bq BK481.out) Try.underlying57 rfl (by kernel_rfl)) rfl ?_
    try simp only [dsc]
    exact ⟨_, _, EQ, rb (Kd.R_mono (Kd.R_far (p := ⟨gb481, 2, none⟩) (Kd.R_far (p := ⟨gb481, 1, none⟩) (Kd.R_far (p := ⟨gb481, 0, none⟩) (Kd.R_types HO500.out BK481.out (by decide)) (fun _ hk => hk.2) (.slice Ao94 y498.length co94)) (fun _ hk => hk.2) (.slice Ao93 y501.length co93)) (fun _ hk => hk.2) (.int .i64 1)) (fun _ hk => by first | exact hk.1.2 | exact hk.1 | exact hk.2)), rb (Kd.R_mono (Kd.R_far (p := ⟨gb481, 2, none⟩) (Kd.R_far (p := ⟨gb481, 1, none⟩) (Kd.R_far (p := ⟨gb481, 0, none⟩) (Kd.R_types HO503.out BK481.out (by decide)) (fun _ hk => hk.2) (.slice Ao94 y498.length co94)) (fun _ hk => hk.2) (.slice Ao93 y501.length co93)) (fun _ hk => hk.2) (.int .i64 1)) (fun _ hk => by first | exact hk.1.2 | exact hk.1 | exact hk.2)), BA⟩
  ·replace c63 := Bool.eq_false_iff.mpr c63
   subst c63
   rw [if_neg (show ¬ (false = true) by decide)] at H
   simp only [Option.some.injEq, Prod.mk.injEq] at H
   obtain ⟨rfl, rfl, rfl, rfl⟩ := H
   go_enter Try.func102, Try.ntmps102
   try go_wp2_with (first | ((with_reducible refine gd 4 rfl ?_); refine bx 4 #[.string a1_0, .int .i64 a1_1, .int .i64 a1_2, .int .i64 a1_3] 54 ?_; intro gb480 hg w99 BK480 GW480 HB hb; have GE480 := GW480; clear hb hg) | ((with_reducible refine gd 6 rfl ?_); refine bx 6 #[.slice none 0 0, .slice none 0 0, .int .i64 0] 57 ?_; intro gb481 hg w100 BK481 GW481 HB hb; have GE481 := GW481; have NB480_481 := nbl hg (bk BK480.out); have NB481_480 := nbr hg (bk BK480.out); replace BK480 := kb BK480 hb; clear hb hg))
   replace BK480 := Aside0.mk (blk_drew BK480.out); replace BK481 := Aside0.mk (blk_drew BK481.out); replace HB := Aside0.mk (below_drew1 HB.out)
   refine start_ (n := 8) (S := C4 gb480 (.string a1_0) (.int .i64 a1_1) (.int .i64 a1_2) (.int .i64 a1_3)) (ds := []) (mk 8 0) (by kernel_rfl) rfl (by kernel_rfl) (bc4 BK480.out) (fun hHeld => ?_); refine with_tabW impl_constTile_at6.tab1 impl_constTile_at6.bits1 (fun HT_ HW_ => ?_)
   generalize w100.drew = w101 at BK480 BK481 HB hHeld ⊢
   refine pu 0 13 8 1 rfl rfl ?_
   refine pu 2 15 8 5 rfl rfl ?_
   refine ta 1 14 8 7 rfl rfl ?_
   refine pu 5 8 8 39 rfl rfl ?_
   refine ta 3 16 8 47 rfl rfl ?_
   refine pu 6 9 8 111 rfl rfl ?_
   refine one_ (i := 4) (N := some 17) (mk 8 127) rfl rfl (one_of HT_.out (by kernel_rfl)) (by decide) (fun K hK => ?_)
   refine lss 17 9 Ny482.out ?_
   intro v483 w102 ho103 hb
   have HO484 := Aside0.mk (Kd.R_lower ho103 (below_size BA)); replace BK480 := kb BK480 hb; replace BK481 := kb BK481 hb; replace HB := bs hb
   clear hb ho103
   refine hK.out _ _ (bc4 BK480.out) (fun hHeld => ?_)
   clear hK K
   refine nm 17 ?_
   refine pu 7 10 8 255 rfl rfl ?_
   refine done_ (done_of HT_.out (by kernel_rfl)) ?_
   try go_wp2_with (first | ((with_reducible refine gate_dst (N := 28) rfl ?_); refine ls 28 9 Ny485.out ?_; intro v486 w104 ho105 hb; have HO487 := Aside0.mk (Kd.R_lower (Kd.R_new' ho105 (Kd.R_lt (rb HO484.out))) (below_size BA)); replace HO484 := Aside0.mk (Kd.R_elder' (rb HO484.out) (Kd.R_base ho105) hb); replace BK480 := kb BK480 hb; replace BK481 := kb BK481 hb; replace HB := bs hb; clear hb ho105; have p488 : 0 ≤ (a1_2 : Int) := DT; have q488 : a1_2 < (l0.length : Int) := DT; obtain ⟨ad488, e488, hx488_0, hx488_1, hx488_2, hx488_3⟩ := at_T54 (Kd.C_below HR0.out HB.out) a1_2 p488 q488; cases e488; replace p488 := eq_true p488; replace q488 := eq_true q488) | (go_at_call 59; (with_reducible refine (impl_within.calls ((rd_T54 l0 a1_2).f3) 1 5 false _ A6.out).mono ?_); rintro e w' ⟨rfl, ⟨nd, rfl⟩⟩) | ((with_reducible refine gate_dst (N := 64) rfl ?_); refine li 64 3 Ny498.out ?_; intro v499 w106 ho107 hb; replace HO484 := Aside0.mk (Kd.R_below (rb HO484.out) hb); replace HO487 := Aside0.mk (Kd.R_below (rb HO487.out) hb); have HO500 := Aside0.mk (Kd.R_lower ho107 (below_size BA)); replace BK480 := kb BK480 hb; replace BK481 := kb BK481 hb; replace HB := bs hb; clear hb ho107) | ((with_reducible refine gate_dst (N := 66) rfl ?_); refine li 66 3 Ny501.out ?_; intro v502 w108 ho109 hb; replace HO484 := Aside0.mk (Kd.R_below (rb HO484.out) hb); replace HO487 := Aside0.mk (Kd.R_below (rb HO487.out) hb); have HO503 := Aside0.mk (Kd.R_lower (Kd.R_new' ho109 (Kd.R_lt (rb HO500.out))) (below_size BA)); replace HO500 := Aside0.mk (Kd.R_elder' (rb HO500.out) (Kd.R_base ho109) hb); replace BK480 := kb BK480 hb; replace BK481 := kb BK481 hb; replace HB := bs hb; clear hb ho109; obtain ⟨Ao110, co110, eo110⟩ := Kd.R_slice HO503.out; subst eo110; obtain ⟨Ao111, co111, eo111⟩ := Kd.R_slice HO500.out; subst eo111; have hnb112 := NB480_481.out; have hnc112 := NB481_480.out; obtain ⟨hcz113_0, hcz113_1, hcz113_2, hcz113_3⟩ := bc4 BK480.out; have hfz113 := blk_frozen BK480.out; obtain ⟨Ao114, co114, eo114⟩ := Kd.R_slice HO487.out; subst eo114) | ((with_reducible refine gate_callee (f := 115) rfl ?_); refine gK (some 71) Try.func115 #[.slice Ao114 y485.length co114, .string a1_0] rfl rfl rfl ?_; (with_reducible refine (slices_Contains_string_string.calls k _ _ y485 a1_0 false _ ?side1 ?side2 A62.out).mono ?_); (case side1 => exact cb (Kd.R_reads' HO487.out).2.2); (case side2 => exact (Kd.R_reads' HO487.out).2.1); rintro e w' ⟨rfl, ⟨nd, rfl⟩⟩; refine ⟨_, rfl, ?_⟩; obtain ⟨hcz115_0, hcz115_1, hcz115_2⟩ := bc3 BK481.out; have hfz115 := blk_frozen BK481.out))
   refine bodyPost_ret (results_ct rfl _ _ gb481 57 #[.slice Ao111 y498.length co111, .slice Ao110 y501.length co110, .int .i64 1] (0, 0) _ rfl (bq BK481.out) Try.underlying57 rfl (by kernel_rfl)) rfl ?_
   try simp only [dsc]
   exact ⟨_, _, EQ, rb (Kd.R_mono (Kd.R_far (p := ⟨gb481, 2, none⟩) (Kd.R_far (p := ⟨gb481, 1, none⟩) (Kd.R_far (p := ⟨gb481, 0, none⟩) (Kd.R_types HO500.out BK481.out (by decide)) (fun _ hk => hk.2) (.slice Ao111 y498.length co111)) (fun _ hk => hk.2) (.slice Ao110 y501.length co110)) (fun _ hk => hk.2) (.int .i64 1)) (fun _ hk => by first | exact hk.1.2 | exact hk.1 | exact hk.2)), rb (Kd.R_mono (Kd.R_far (p := ⟨gb481, 2, none⟩) (Kd.R_far (p := ⟨gb481, 1, none⟩) (Kd.R_far (p := ⟨gb481, 0, none⟩) (Kd.R_types HO503.out BK481.out (by decide)) (fun _ hk => hk.2) (.slice Ao111 y498.length co111)) (fun _ hk => hk.2) (.slice Ao110 y501.length co110)) (fun _ hk => hk.2) (.int .i64 1)) (fun _ hk => by first | exact hk.1.2 | exact hk.1 | exact hk.2)), BA⟩

end Go.Proofs.Ytlmegefdnkjcbaa.Pa
