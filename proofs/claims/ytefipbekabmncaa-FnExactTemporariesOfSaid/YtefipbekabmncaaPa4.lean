-- Made by this session's program gen.py over the translation.
import Derived.Test.YtefipbekabmncaaPa0
import Derived.Test.YtefipbekabmncaaPa2
namespace Go.Proofs.Ytefipbekabmncaa.Pa
open Go.RowKit Go.Proofs.YtefipbekabmncaaW.PrintWords Go.Proofs.YtefipbekabmncaaW.PrintLast Go.Proofs.YtefipbekabmncaaW.PrintMore
attribute [local go_sem] max2_int min2_int max_two min_two max_three min_three max_four min_four   -- for this text's walks alone
set_option linter.unusedVariables false
set_option linter.unusedSimpArgs false

/-! ### impl_binary: function 118 -/
def impl_binary.f  : Option (List ByteArray) := some (([(⟨#[97, 100, 100]⟩ : ByteArray), (⟨#[115, 117, 98]⟩ : ByteArray), (⟨#[109, 117, 108]⟩ : ByteArray), (⟨#[97, 110, 100]⟩ : ByteArray), (⟨#[111, 114]⟩ : ByteArray), (⟨#[120, 111, 114]⟩ : ByteArray), (⟨#[115, 104, 108]⟩ : ByteArray), (⟨#[115, 104, 114]⟩ : ByteArray), (⟨#[108, 101, 115, 115]⟩ : ByteArray), (⟨#[101, 113]⟩ : ByteArray)] : List ByteArray))
set_option maxHeartbeats 8000000 in
set_option maxRecDepth 100000 in
theorem impl_binary.calls  (r : List ByteArray) (w : World) (h : impl_binary.f  = some r) :
    Calls Try.prog 118 #[] w fun e w' => ∃ v0_ : Value, e = .returned (v0_) ∧ Kd.R Kd.string 9 w' w.heap.size (fun _ => True) v0_ r ∧ Below w.heap.size w w' := by
  have HB := Aside0.mk (Below.refl w.heap.size w)
  have H : (some (([(⟨#[97, 100, 100]⟩ : ByteArray), (⟨#[115, 117, 98]⟩ : ByteArray), (⟨#[109, 117, 108]⟩ : ByteArray), (⟨#[97, 110, 100]⟩ : ByteArray), (⟨#[111, 114]⟩ : ByteArray), (⟨#[120, 111, 114]⟩ : ByteArray), (⟨#[115, 104, 108]⟩ : ByteArray), (⟨#[115, 104, 114]⟩ : ByteArray), (⟨#[108, 101, 115, 115]⟩ : ByteArray), (⟨#[101, 113]⟩ : ByteArray)] : List ByteArray))) = some r := h
  clear h
  obtain ⟨y204, hy204⟩ : ∃ y_ : List ByteArray, y_ = (([(⟨#[97, 100, 100]⟩ : ByteArray), (⟨#[115, 117, 98]⟩ : ByteArray), (⟨#[109, 117, 108]⟩ : ByteArray), (⟨#[97, 110, 100]⟩ : ByteArray), (⟨#[111, 114]⟩ : ByteArray), (⟨#[120, 111, 114]⟩ : ByteArray), (⟨#[115, 104, 108]⟩ : ByteArray), (⟨#[115, 104, 114]⟩ : ByteArray), (⟨#[108, 101, 115, 115]⟩ : ByteArray), (⟨#[101, 113]⟩ : ByteArray)] : List ByteArray)) := ⟨_, rfl⟩
  replace H : (some y204) = some r := by first | (rw [hy204]; with_reducible exact H) | (have H2_ := (Option.bind_some _ _).symm.trans H; rw [hy204]; with_reducible exact H2_) | (have H2_ := (Option.bind_some _ _).symm.trans H; with_reducible exact H2_) | with_reducible exact H | (rw [hy204]; exact H) | exact H
  have Ny204 := Aside0.mk hy204
  clear hy204
  obtain rfl := Option.some.inj H
  go_enter Try.func118, Try.ntmps118
  go_wp2_with (first | ((with_reducible refine gate_dst (N := 1) rfl ?_); refine Kd.R_lit Kd.string _ 9 ?hg (N := 1) ?hd (xs := ([(⟨#[97, 100, 100]⟩ : ByteArray), (⟨#[115, 117, 98]⟩ : ByteArray), (⟨#[109, 117, 108]⟩ : ByteArray), (⟨#[97, 110, 100]⟩ : ByteArray), (⟨#[111, 114]⟩ : ByteArray), (⟨#[120, 111, 114]⟩ : ByteArray), (⟨#[115, 104, 108]⟩ : ByteArray), (⟨#[115, 104, 114]⟩ : ByteArray), (⟨#[108, 101, 115, 115]⟩ : ByteArray), (⟨#[101, 113]⟩ : ByteArray)] : List ByteArray)) (inner := [.string (⟨#[97, 100, 100]⟩ : ByteArray), .string (⟨#[115, 117, 98]⟩ : ByteArray), .string (⟨#[109, 117, 108]⟩ : ByteArray), .string (⟨#[97, 110, 100]⟩ : ByteArray), .string (⟨#[111, 114]⟩ : ByteArray), .string (⟨#[120, 111, 114]⟩ : ByteArray), .string (⟨#[115, 104, 108]⟩ : ByteArray), .string (⟨#[115, 104, 114]⟩ : ByteArray), .string (⟨#[108, 101, 115, 115]⟩ : ByteArray), .string (⟨#[101, 113]⟩ : ByteArray)]) (ok := fun _ => True) (okp := fun _ => True) ?hr ?hp (fun _ hk => hk) trivial (Below.refl _ _) (Nat.le_refl _) (by simp) ?_; (case hd => rfl); (case hg => rfl); (case hr => first | (go_simp; done) | (go_simp; rfl)); (case hp => exact (Reps.one (show Kd.M Kd.string _ _ _ (⟨#[97, 100, 100]⟩ : ByteArray) [.string (⟨#[97, 100, 100]⟩ : ByteArray)] from rfl) (Reps.one (show Kd.M Kd.string _ _ _ (⟨#[115, 117, 98]⟩ : ByteArray) [.string (⟨#[115, 117, 98]⟩ : ByteArray)] from rfl) (Reps.one (show Kd.M Kd.string _ _ _ (⟨#[109, 117, 108]⟩ : ByteArray) [.string (⟨#[109, 117, 108]⟩ : ByteArray)] from rfl) (Reps.one (show Kd.M Kd.string _ _ _ (⟨#[97, 110, 100]⟩ : ByteArray) [.string (⟨#[97, 110, 100]⟩ : ByteArray)] from rfl) (Reps.one (show Kd.M Kd.string _ _ _ (⟨#[111, 114]⟩ : ByteArray) [.string (⟨#[111, 114]⟩ : ByteArray)] from rfl) (Reps.one (show Kd.M Kd.string _ _ _ (⟨#[120, 111, 114]⟩ : ByteArray) [.string (⟨#[120, 111, 114]⟩ : ByteArray)] from rfl) (Reps.one (show Kd.M Kd.string _ _ _ (⟨#[115, 104, 108]⟩ : ByteArray) [.string (⟨#[115, 104, 108]⟩ : ByteArray)] from rfl) (Reps.one (show Kd.M Kd.string _ _ _ (⟨#[115, 104, 114]⟩ : ByteArray) [.string (⟨#[115, 104, 114]⟩ : ByteArray)] from rfl) (Reps.one (show Kd.M Kd.string _ _ _ (⟨#[108, 101, 115, 115]⟩ : ByteArray) [.string (⟨#[108, 101, 115, 115]⟩ : ByteArray)] from rfl) (Reps.one (show Kd.M Kd.string _ _ _ (⟨#[101, 113]⟩ : ByteArray) [.string (⟨#[101, 113]⟩ : ByteArray)] from rfl) (Reps.none _ _)))))))))))); intro v205 w1 ho2 hb hg_ hnew_; clear hg_ hnew_; (first | rw [← Ny204.out] at ho2 | (simp only [Int.reduceToNat] at ho2; rw [← Ny204.out] at ho2)); have HO206 := Aside0.mk (Kd.R_lower ho2 (below_size BA)); replace HB := Aside0.mk (below_step BA hb); clear hb ho2))
  go_ret
  exact ⟨_, EQ, by (with_reducible repeat (first | apply Kd.R_alloc | apply Kd.R_drewN | apply Kd.R_drew)); exact HO206.out, BA⟩

/-! ### impl_formOf: function 76 -/
def impl_formOf.f (a0 : ByteArray) : Option (Bool × Bool × Int × Int × Int × ByteArray × Bool) :=
  if a0.toList = ([115, 101, 116] : List UInt8) then some (false, false, 0, 63, 1, (⟨#[115, 101, 116]⟩ : ByteArray), true) else
  if a0.toList = ([109, 111, 118] : List UInt8) then some (true, false, 1, 0, 1, (⟨#[109, 111, 118]⟩ : ByteArray), true) else
  if a0.toList = ([110, 111, 116] : List UInt8) then some (true, false, 1, 0, 1, (⟨#[110, 111, 116]⟩ : ByteArray), true) else
  if a0.toList = ([110, 101, 103] : List UInt8) then some (true, false, 1, 0, 1, (⟨#[110, 101, 103]⟩ : ByteArray), true) else
  if a0.toList = ([97, 100, 100] : List UInt8) then some (true, true, 1, 0, 1, (⟨#[97, 100, 100]⟩ : ByteArray), true) else
  if a0.toList = ([115, 117, 98] : List UInt8) then some (true, true, 1, 0, 1, (⟨#[115, 117, 98]⟩ : ByteArray), true) else
  if a0.toList = ([109, 117, 108] : List UInt8) then some (true, true, 1, 0, 4, (⟨#[109, 117, 108]⟩ : ByteArray), true) else
  if a0.toList = ([97, 110, 100] : List UInt8) then some (true, true, 1, 0, 1, (⟨#[97, 110, 100]⟩ : ByteArray), true) else
  if a0.toList = ([111, 114] : List UInt8) then some (true, true, 1, 0, 1, (⟨#[111, 114]⟩ : ByteArray), true) else
  if a0.toList = ([120, 111, 114] : List UInt8) then some (true, true, 1, 0, 1, (⟨#[120, 111, 114]⟩ : ByteArray), true) else
  if a0.toList = ([115, 104, 108] : List UInt8) then some (true, true, 1, 0, 2, (⟨#[115, 104, 108]⟩ : ByteArray), true) else
  if a0.toList = ([115, 104, 114] : List UInt8) then some (true, true, 1, 0, 2, (⟨#[115, 104, 114]⟩ : ByteArray), true) else
  if a0.toList = ([108, 101, 115, 115] : List UInt8) then some (true, true, 1, 0, 1, (⟨#[108, 101, 115, 115]⟩ : ByteArray), true) else
  if a0.toList = ([101, 113] : List UInt8) then some (true, true, 1, 0, 1, (⟨#[101, 113]⟩ : ByteArray), true) else
  if a0.toList = ([97, 100, 100, 105] : List UInt8) then some (true, false, 0, 63, 1, (⟨#[97, 100, 100]⟩ : ByteArray), true) else
  if a0.toList = ([97, 110, 100, 105] : List UInt8) then some (true, false, 0, 63, 1, (⟨#[97, 110, 100]⟩ : ByteArray), true) else
  if a0.toList = ([120, 111, 114, 105] : List UInt8) then some (true, false, 0, 63, 1, (⟨#[120, 111, 114]⟩ : ByteArray), true) else
  if a0.toList = ([115, 104, 108, 105] : List UInt8) then some (true, false, 1, 5, 1, (⟨#[115, 104, 108]⟩ : ByteArray), true) else
  if a0.toList = ([115, 104, 114, 105] : List UInt8) then some (true, false, 1, 5, 1, (⟨#[115, 104, 114]⟩ : ByteArray), true) else
  if a0.toList = ([108, 101, 97] : List UInt8) then some (true, true, 1, 3, 1, (⟨#[108, 101, 97]⟩ : ByteArray), true) else
  some (false, false, 0, 0, 0, (⟨#[]⟩ : ByteArray), false)
theorem bytes_of {s t : ByteArray} (h : s.toList = t.data.toList) : s = t := Go.WideShapes.bytes_inj ((ByteArray.toList_eq s).symm.trans h)
theorem gv_bcell {W w1 : World} (hb : Below W.heap.size W w1) : (∀ b o, b < W.heap.size → w1.cell? ⟨b, o, none⟩ = W.cell? ⟨b, o, none⟩) ∧ (∀ b o, b < W.heap.size → w1.frozen? ⟨b, o, none⟩ = W.frozen? ⟨b, o, none⟩) :=
  ⟨fun b o h => hb.cell (p := ⟨b, o, none⟩) h, fun b o h => hb.frozen (p := ⟨b, o, none⟩) h⟩
/-- the ops with two operands, as the program lists them -/
def binL : List ByteArray := [(⟨#[97, 100, 100]⟩ : ByteArray), (⟨#[115, 117, 98]⟩ : ByteArray), (⟨#[109, 117, 108]⟩ : ByteArray), (⟨#[97, 110, 100]⟩ : ByteArray), (⟨#[111, 114]⟩ : ByteArray), (⟨#[120, 111, 114]⟩ : ByteArray), (⟨#[115, 104, 108]⟩ : ByteArray), (⟨#[115, 104, 114]⟩ : ByteArray), (⟨#[108, 101, 115, 115]⟩ : ByteArray), (⟨#[101, 113]⟩ : ByteArray)]
theorem binary_f : impl_binary.f = some binL := rfl
def isBin (s : ByteArray) : Bool := binL.any fun x => s.toList == x.toList
theorem gv_wrap {x : Int} (h0 : -9223372036854775808 ≤ x) (h1 : x ≤ 9223372036854775807) : wrap64 x = x := by unfold wrap64; omega
theorem gv_index (l : List ByteArray) (s : ByteArray) (hl : l.length ≤ 9223372036854775000) : ∀ (d : Nat) (i : Nat), i + d = l.length →
    ∃ r : Int, Ev (fun k => slices_Index_string_string.l0 k l s (l.length : Int) (i : Int)) r ∧ (0 ≤ r ↔ (l.drop i).any (fun x => s.toList == x.toList) = true) := by
  intro d
  induction d with
  | zero =>
    intro i h
    refine ⟨-1, Ev.step (fun k => by rw [slices_Index_string_string.l0]) (Ev.congr (fun k => if_neg (by omega)) (Ev.now _)), ?_⟩
    rw [List.drop_eq_nil_of_le (by omega)]; simp
  | succ d ih =>
    intro i h
    have hd : l.drop i = l[i] :: l.drop (i + 1) := List.drop_eq_getElem_cons (by omega)
    have hr : rdOf ByteArray.empty l (i : Int) = l[i] := by unfold rdOf; simp [List.getD_eq_getElem?_getD, List.getElem?_eq_getElem (show i < l.length by omega)]
    by_cases c : s.toList = l[i].toList
    · refine ⟨i, Ev.step (fun k => by rw [slices_Index_string_string.l0, if_pos (by omega), if_pos (by omega), if_pos (by omega), if_pos (by rw [hr]; exact c)]) (Ev.now _), ?_⟩
      rw [hd, List.any_cons]; simp [c]
    · obtain ⟨r, hev, hiff⟩ := ih (i + 1) (by omega)
      refine ⟨r, Ev.step (fun k => by rw [slices_Index_string_string.l0, if_pos (by omega), if_pos (by omega), if_pos (by omega), if_neg (by rw [hr]; exact c), gv_wrap (by omega) (by omega)]; rfl) hev, ?_⟩
      rw [hd, hiff, List.any_cons]; simp [c]
theorem gv_contains (l : List ByteArray) (s : ByteArray) (hl : l.length ≤ 9223372036854775000) : Ev (fun k => slices_Contains_string_string.f k l s) (l.any (fun x => s.toList == x.toList)) := by
  obtain ⟨r, hev, hiff⟩ := gv_index l s hl l.length 0 (by omega)
  obtain ⟨K, hev⟩ := hev
  refine ⟨K, fun k hk => ?_⟩
  unfold slices_Contains_string_string.f slices_Index_string_string.f
  rw [show ((0 : Nat) : Int) = 0 from rfl] at hev
  show (slices_Index_string_string.l0 k l s (l.length : Int) 0).bind _ = _
  rw [show slices_Index_string_string.l0 k l s (l.length : Int) 0 = some r from hev k hk, Option.bind_some, Option.some.injEq, Bool.eq_iff_iff, decide_eq_true_iff]
  exact hiff
theorem isBin_ev (s : ByteArray) : ∃ k, slices_Contains_string_string.f k binL s = some (isBin s) := (gv_contains binL s (by decide)).rounds
theorem binary_calls (w : World) : Calls Try.prog 118 #[] w fun e w' => ∃ A c, e = .returned (.slice A 10 c) ∧ 10 ≤ c ∧ Kd.C Kd.string w' A 10 binL ∧ Below w.heap.size w w' :=
  (impl_binary.calls binL w binary_f).mono fun e w' h => by
    obtain ⟨v, he, ho, hb⟩ := h
    obtain ⟨A, c, rfl, hl, hr⟩ := Kd.R_reads ho
    exact ⟨A, c, he, hl, hr, hb⟩
theorem has_calls (A : Option Addr) (c : Nat) (s : ByteArray) (w : World) (hc : 10 ≤ c) (hr : Kd.C Kd.string w A 10 binL) : Calls Try.prog 109 #[.slice A 10 c, .string s] w fun e w' => e = .returned (.bool (isBin s)) ∧ Drawn0 w w' := by
  obtain ⟨k, hk⟩ := isBin_ev s
  exact slices_Contains_string_string.calls k A c binL s (isBin s) w hr hc hk
set_option maxHeartbeats 4000000 in
set_option maxRecDepth 100000 in
theorem formOf_set (w : World) : Calls Try.prog 76 #[.string (⟨#[115, 101, 116]⟩ : ByteArray)] w fun e w' => e = .returned (.tuple #[.agg #[.bool false, .bool false, .int .i64 0, .int .i64 63, .int .i64 1, .string (⟨#[115, 101, 116]⟩ : ByteArray)], .bool true]) ∧ Below w.heap.size w w' := by
  have hu := Try.underlying94
  go_enter Try.func76, Try.ntmps76
  go_wp2
  refine bodyPost_ret (v := .tuple #[.agg #[.bool false, .bool false, .int .i64 0, .int .i64 63, .int .i64 1, .string (⟨#[115, 101, 116]⟩ : ByteArray)], .bool true]) ?_ rfl ⟨rfl, ?_⟩
  · refine (results_ct (p := 2) (u := 3) (ty := 94) rfl _ _ w.heap.size 94 #[.bool false, .bool false, .int .i64 0, .int .i64 63, .int .i64 1, .string (⟨#[115, 101, 116]⟩ : ByteArray)] (0, 0) _ rfl ?_ Try.underlying94 rfl (by kernel_rfl))
    exact blk_alloc (blk_new w _) _
  exact ((Below.refl _ _).alloc (Nat.le_refl _) _).alloc (by simp) _
set_option maxHeartbeats 4000000 in
set_option maxRecDepth 100000 in
theorem formOf_mov (w : World) : Calls Try.prog 76 #[.string (⟨#[109, 111, 118]⟩ : ByteArray)] w fun e w' => e = .returned (.tuple #[.agg #[.bool true, .bool false, .int .i64 1, .int .i64 0, .int .i64 1, .string (⟨#[109, 111, 118]⟩ : ByteArray)], .bool true]) ∧ Below w.heap.size w w' := by
  have hu := Try.underlying94
  go_enter Try.func76, Try.ntmps76
  go_wp2
  refine bodyPost_ret (v := .tuple #[.agg #[.bool true, .bool false, .int .i64 1, .int .i64 0, .int .i64 1, .string (⟨#[109, 111, 118]⟩ : ByteArray)], .bool true]) ?_ rfl ⟨rfl, ?_⟩
  · refine (results_ct (p := 2) (u := 3) (ty := 94) rfl _ _ w.heap.size 94 #[.bool true, .bool false, .int .i64 1, .int .i64 0, .int .i64 1, .string (⟨#[109, 111, 118]⟩ : ByteArray)] (0, 0) _ rfl ?_ Try.underlying94 rfl (by kernel_rfl))
    exact blk_alloc (blk_new w _) _
  exact ((Below.refl _ _).alloc (Nat.le_refl _) _).alloc (by simp) _
set_option maxHeartbeats 4000000 in
set_option maxRecDepth 100000 in
theorem formOf_not (w : World) : Calls Try.prog 76 #[.string (⟨#[110, 111, 116]⟩ : ByteArray)] w fun e w' => e = .returned (.tuple #[.agg #[.bool true, .bool false, .int .i64 1, .int .i64 0, .int .i64 1, .string (⟨#[110, 111, 116]⟩ : ByteArray)], .bool true]) ∧ Below w.heap.size w w' := by
  have hu := Try.underlying94
  go_enter Try.func76, Try.ntmps76
  go_wp2
  refine bodyPost_ret (v := .tuple #[.agg #[.bool true, .bool false, .int .i64 1, .int .i64 0, .int .i64 1, .string (⟨#[110, 111, 116]⟩ : ByteArray)], .bool true]) ?_ rfl ⟨rfl, ?_⟩
  · refine (results_ct (p := 2) (u := 3) (ty := 94) rfl _ _ w.heap.size 94 #[.bool true, .bool false, .int .i64 1, .int .i64 0, .int .i64 1, .string (⟨#[110, 111, 116]⟩ : ByteArray)] (0, 0) _ rfl ?_ Try.underlying94 rfl (by kernel_rfl))
    exact blk_alloc (blk_new w _) _
  exact ((Below.refl _ _).alloc (Nat.le_refl _) _).alloc (by simp) _
set_option maxHeartbeats 4000000 in
set_option maxRecDepth 100000 in
theorem formOf_neg (w : World) : Calls Try.prog 76 #[.string (⟨#[110, 101, 103]⟩ : ByteArray)] w fun e w' => e = .returned (.tuple #[.agg #[.bool true, .bool false, .int .i64 1, .int .i64 0, .int .i64 1, .string (⟨#[110, 101, 103]⟩ : ByteArray)], .bool true]) ∧ Below w.heap.size w w' := by
  have hu := Try.underlying94
  go_enter Try.func76, Try.ntmps76
  go_wp2
  refine bodyPost_ret (v := .tuple #[.agg #[.bool true, .bool false, .int .i64 1, .int .i64 0, .int .i64 1, .string (⟨#[110, 101, 103]⟩ : ByteArray)], .bool true]) ?_ rfl ⟨rfl, ?_⟩
  · refine (results_ct (p := 2) (u := 3) (ty := 94) rfl _ _ w.heap.size 94 #[.bool true, .bool false, .int .i64 1, .int .i64 0, .int .i64 1, .string (⟨#[110, 101, 103]⟩ : ByteArray)] (0, 0) _ rfl ?_ Try.underlying94 rfl (by kernel_rfl))
    exact blk_alloc (blk_new w _) _
  exact ((Below.refl _ _).alloc (Nat.le_refl _) _).alloc (by simp) _
set_option maxHeartbeats 4000000 in
set_option maxRecDepth 100000 in
theorem formOf_add (w : World) : Calls Try.prog 76 #[.string (⟨#[97, 100, 100]⟩ : ByteArray)] w fun e w' => e = .returned (.tuple #[.agg #[.bool true, .bool true, .int .i64 1, .int .i64 0, .int .i64 1, .string (⟨#[97, 100, 100]⟩ : ByteArray)], .bool true]) ∧ Below w.heap.size w w' := by
  have hB : isBin (⟨#[97, 100, 100]⟩ : ByteArray) = true := by unfold isBin binL; simp [ByteArray.toList_eq]
  have hu := Try.underlying94
  go_enter Try.func76, Try.ntmps76
  go_wp2_with (first | (go_at_call 118; refine (binary_calls _).mono ?_; rintro e w1 ⟨A, c, rfl, hc, hr, hb⟩; obtain ⟨hc1, hf1⟩ := gv_bcell hb) | (go_at_call 109; refine (has_calls _ _ _ _ (by assumption) (by assumption)).mono ?_; rintro e w2 ⟨rfl, ⟨n, rfl⟩⟩))
  have B0 : w1.heap[w.heap.size]? = some (.cells #[.bool false, .bool false, .int .i64 0, .int .i64 0, .int .i64 0, .string (⟨#[]⟩ : ByteArray)] 94 (0, 0)) := blk_below (blk_alloc (blk_new w _) _) hb
  refine bodyPost_ret (v := .tuple #[.agg #[.bool true, .bool true, .int .i64 1, .int .i64 0, .int .i64 1, .string (⟨#[97, 100, 100]⟩ : ByteArray)], .bool true]) ?_ rfl ⟨rfl, ?_⟩
  · refine (results_ct (p := 2) (u := 3) (ty := 94) rfl _ _ w.heap.size 94 #[.bool true, .bool true, .int .i64 1, .int .i64 0, .int .i64 1, .string (⟨#[97, 100, 100]⟩ : ByteArray)] (0, 0) _ rfl ?_ Try.underlying94 rfl (by kernel_rfl))
    with_reducible refine blk_put (cs := #[.bool true, .bool true, .int .i64 1, .int .i64 0, .int .i64 1, .string (⟨#[]⟩ : ByteArray)]) ?_ 5 _ rfl
    with_reducible refine blk_put (cs := #[.bool true, .bool true, .int .i64 1, .int .i64 0, .int .i64 0, .string (⟨#[]⟩ : ByteArray)]) ?_ 4 _ rfl
    with_reducible refine blk_put (cs := #[.bool true, .bool true, .int .i64 1, .int .i64 0, .int .i64 0, .string (⟨#[]⟩ : ByteArray)]) ?_ 3 _ rfl
    with_reducible refine blk_put (cs := #[.bool true, .bool true, .int .i64 0, .int .i64 0, .int .i64 0, .string (⟨#[]⟩ : ByteArray)]) ?_ 2 _ rfl
    with_reducible refine blk_put (cs := #[.bool true, .bool false, .int .i64 0, .int .i64 0, .int .i64 0, .string (⟨#[]⟩ : ByteArray)]) ?_ 1 _ rfl
    with_reducible refine blk_put (cs := #[.bool false, .bool false, .int .i64 0, .int .i64 0, .int .i64 0, .string (⟨#[]⟩ : ByteArray)]) ?_ 0 _ rfl
    repeat (with_reducible refine blk_far ?_ (by simp) _)
    with_reducible exact blk_drewN B0 _
  repeat (refine below_set ?_ (by omega))
  refine pw_below_drewN ?_ _
  exact below_then (((Below.refl _ _).alloc (Nat.le_refl _) _).alloc (by simp) _) (by simp; omega) hb
set_option maxHeartbeats 4000000 in
set_option maxRecDepth 100000 in
theorem formOf_sub (w : World) : Calls Try.prog 76 #[.string (⟨#[115, 117, 98]⟩ : ByteArray)] w fun e w' => e = .returned (.tuple #[.agg #[.bool true, .bool true, .int .i64 1, .int .i64 0, .int .i64 1, .string (⟨#[115, 117, 98]⟩ : ByteArray)], .bool true]) ∧ Below w.heap.size w w' := by
  have hB : isBin (⟨#[115, 117, 98]⟩ : ByteArray) = true := by unfold isBin binL; simp [ByteArray.toList_eq]
  have hu := Try.underlying94
  go_enter Try.func76, Try.ntmps76
  go_wp2_with (first | (go_at_call 118; refine (binary_calls _).mono ?_; rintro e w1 ⟨A, c, rfl, hc, hr, hb⟩; obtain ⟨hc1, hf1⟩ := gv_bcell hb) | (go_at_call 109; refine (has_calls _ _ _ _ (by assumption) (by assumption)).mono ?_; rintro e w2 ⟨rfl, ⟨n, rfl⟩⟩))
  have B0 : w1.heap[w.heap.size]? = some (.cells #[.bool false, .bool false, .int .i64 0, .int .i64 0, .int .i64 0, .string (⟨#[]⟩ : ByteArray)] 94 (0, 0)) := blk_below (blk_alloc (blk_new w _) _) hb
  refine bodyPost_ret (v := .tuple #[.agg #[.bool true, .bool true, .int .i64 1, .int .i64 0, .int .i64 1, .string (⟨#[115, 117, 98]⟩ : ByteArray)], .bool true]) ?_ rfl ⟨rfl, ?_⟩
  · refine (results_ct (p := 2) (u := 3) (ty := 94) rfl _ _ w.heap.size 94 #[.bool true, .bool true, .int .i64 1, .int .i64 0, .int .i64 1, .string (⟨#[115, 117, 98]⟩ : ByteArray)] (0, 0) _ rfl ?_ Try.underlying94 rfl (by kernel_rfl))
    with_reducible refine blk_put (cs := #[.bool true, .bool true, .int .i64 1, .int .i64 0, .int .i64 1, .string (⟨#[]⟩ : ByteArray)]) ?_ 5 _ rfl
    with_reducible refine blk_put (cs := #[.bool true, .bool true, .int .i64 1, .int .i64 0, .int .i64 0, .string (⟨#[]⟩ : ByteArray)]) ?_ 4 _ rfl
    with_reducible refine blk_put (cs := #[.bool true, .bool true, .int .i64 1, .int .i64 0, .int .i64 0, .string (⟨#[]⟩ : ByteArray)]) ?_ 3 _ rfl
    with_reducible refine blk_put (cs := #[.bool true, .bool true, .int .i64 0, .int .i64 0, .int .i64 0, .string (⟨#[]⟩ : ByteArray)]) ?_ 2 _ rfl
    with_reducible refine blk_put (cs := #[.bool true, .bool false, .int .i64 0, .int .i64 0, .int .i64 0, .string (⟨#[]⟩ : ByteArray)]) ?_ 1 _ rfl
    with_reducible refine blk_put (cs := #[.bool false, .bool false, .int .i64 0, .int .i64 0, .int .i64 0, .string (⟨#[]⟩ : ByteArray)]) ?_ 0 _ rfl
    repeat (with_reducible refine blk_far ?_ (by simp) _)
    with_reducible exact blk_drewN B0 _
  repeat (refine below_set ?_ (by omega))
  refine pw_below_drewN ?_ _
  exact below_then (((Below.refl _ _).alloc (Nat.le_refl _) _).alloc (by simp) _) (by simp; omega) hb
set_option maxHeartbeats 4000000 in
set_option maxRecDepth 100000 in
theorem formOf_mul (w : World) : Calls Try.prog 76 #[.string (⟨#[109, 117, 108]⟩ : ByteArray)] w fun e w' => e = .returned (.tuple #[.agg #[.bool true, .bool true, .int .i64 1, .int .i64 0, .int .i64 4, .string (⟨#[109, 117, 108]⟩ : ByteArray)], .bool true]) ∧ Below w.heap.size w w' := by
  have hB : isBin (⟨#[109, 117, 108]⟩ : ByteArray) = true := by unfold isBin binL; simp [ByteArray.toList_eq]
  have hu := Try.underlying94
  go_enter Try.func76, Try.ntmps76
  go_wp2_with (first | (go_at_call 118; refine (binary_calls _).mono ?_; rintro e w1 ⟨A, c, rfl, hc, hr, hb⟩; obtain ⟨hc1, hf1⟩ := gv_bcell hb) | (go_at_call 109; refine (has_calls _ _ _ _ (by assumption) (by assumption)).mono ?_; rintro e w2 ⟨rfl, ⟨n, rfl⟩⟩))
  have B0 : w1.heap[w.heap.size]? = some (.cells #[.bool false, .bool false, .int .i64 0, .int .i64 0, .int .i64 0, .string (⟨#[]⟩ : ByteArray)] 94 (0, 0)) := blk_below (blk_alloc (blk_new w _) _) hb
  refine bodyPost_ret (v := .tuple #[.agg #[.bool true, .bool true, .int .i64 1, .int .i64 0, .int .i64 4, .string (⟨#[109, 117, 108]⟩ : ByteArray)], .bool true]) ?_ rfl ⟨rfl, ?_⟩
  · refine (results_ct (p := 2) (u := 3) (ty := 94) rfl _ _ w.heap.size 94 #[.bool true, .bool true, .int .i64 1, .int .i64 0, .int .i64 4, .string (⟨#[109, 117, 108]⟩ : ByteArray)] (0, 0) _ rfl ?_ Try.underlying94 rfl (by kernel_rfl))
    with_reducible refine blk_put (cs := #[.bool true, .bool true, .int .i64 1, .int .i64 0, .int .i64 4, .string (⟨#[]⟩ : ByteArray)]) ?_ 5 _ rfl
    with_reducible refine blk_put (cs := #[.bool true, .bool true, .int .i64 1, .int .i64 0, .int .i64 0, .string (⟨#[]⟩ : ByteArray)]) ?_ 4 _ rfl
    with_reducible refine blk_put (cs := #[.bool true, .bool true, .int .i64 1, .int .i64 0, .int .i64 0, .string (⟨#[]⟩ : ByteArray)]) ?_ 3 _ rfl
    with_reducible refine blk_put (cs := #[.bool true, .bool true, .int .i64 0, .int .i64 0, .int .i64 0, .string (⟨#[]⟩ : ByteArray)]) ?_ 2 _ rfl
    with_reducible refine blk_put (cs := #[.bool true, .bool false, .int .i64 0, .int .i64 0, .int .i64 0, .string (⟨#[]⟩ : ByteArray)]) ?_ 1 _ rfl
    with_reducible refine blk_put (cs := #[.bool false, .bool false, .int .i64 0, .int .i64 0, .int .i64 0, .string (⟨#[]⟩ : ByteArray)]) ?_ 0 _ rfl
    repeat (with_reducible refine blk_far ?_ (by simp) _)
    with_reducible exact blk_drewN B0 _
  repeat (refine below_set ?_ (by omega))
  refine pw_below_drewN ?_ _
  exact below_then (((Below.refl _ _).alloc (Nat.le_refl _) _).alloc (by simp) _) (by simp; omega) hb
set_option maxHeartbeats 4000000 in
set_option maxRecDepth 100000 in
theorem formOf_and (w : World) : Calls Try.prog 76 #[.string (⟨#[97, 110, 100]⟩ : ByteArray)] w fun e w' => e = .returned (.tuple #[.agg #[.bool true, .bool true, .int .i64 1, .int .i64 0, .int .i64 1, .string (⟨#[97, 110, 100]⟩ : ByteArray)], .bool true]) ∧ Below w.heap.size w w' := by
  have hB : isBin (⟨#[97, 110, 100]⟩ : ByteArray) = true := by unfold isBin binL; simp [ByteArray.toList_eq]
  have hu := Try.underlying94
  go_enter Try.func76, Try.ntmps76
  go_wp2_with (first | (go_at_call 118; refine (binary_calls _).mono ?_; rintro e w1 ⟨A, c, rfl, hc, hr, hb⟩; obtain ⟨hc1, hf1⟩ := gv_bcell hb) | (go_at_call 109; refine (has_calls _ _ _ _ (by assumption) (by assumption)).mono ?_; rintro e w2 ⟨rfl, ⟨n, rfl⟩⟩))
  have B0 : w1.heap[w.heap.size]? = some (.cells #[.bool false, .bool false, .int .i64 0, .int .i64 0, .int .i64 0, .string (⟨#[]⟩ : ByteArray)] 94 (0, 0)) := blk_below (blk_alloc (blk_new w _) _) hb
  refine bodyPost_ret (v := .tuple #[.agg #[.bool true, .bool true, .int .i64 1, .int .i64 0, .int .i64 1, .string (⟨#[97, 110, 100]⟩ : ByteArray)], .bool true]) ?_ rfl ⟨rfl, ?_⟩
  · refine (results_ct (p := 2) (u := 3) (ty := 94) rfl _ _ w.heap.size 94 #[.bool true, .bool true, .int .i64 1, .int .i64 0, .int .i64 1, .string (⟨#[97, 110, 100]⟩ : ByteArray)] (0, 0) _ rfl ?_ Try.underlying94 rfl (by kernel_rfl))
    with_reducible refine blk_put (cs := #[.bool true, .bool true, .int .i64 1, .int .i64 0, .int .i64 1, .string (⟨#[]⟩ : ByteArray)]) ?_ 5 _ rfl
    with_reducible refine blk_put (cs := #[.bool true, .bool true, .int .i64 1, .int .i64 0, .int .i64 0, .string (⟨#[]⟩ : ByteArray)]) ?_ 4 _ rfl
    with_reducible refine blk_put (cs := #[.bool true, .bool true, .int .i64 1, .int .i64 0, .int .i64 0, .string (⟨#[]⟩ : ByteArray)]) ?_ 3 _ rfl
    with_reducible refine blk_put (cs := #[.bool true, .bool true, .int .i64 0, .int .i64 0, .int .i64 0, .string (⟨#[]⟩ : ByteArray)]) ?_ 2 _ rfl
    with_reducible refine blk_put (cs := #[.bool true, .bool false, .int .i64 0, .int .i64 0, .int .i64 0, .string (⟨#[]⟩ : ByteArray)]) ?_ 1 _ rfl
    with_reducible refine blk_put (cs := #[.bool false, .bool false, .int .i64 0, .int .i64 0, .int .i64 0, .string (⟨#[]⟩ : ByteArray)]) ?_ 0 _ rfl
    repeat (with_reducible refine blk_far ?_ (by simp) _)
    with_reducible exact blk_drewN B0 _
  repeat (refine below_set ?_ (by omega))
  refine pw_below_drewN ?_ _
  exact below_then (((Below.refl _ _).alloc (Nat.le_refl _) _).alloc (by simp) _) (by simp; omega) hb
set_option maxHeartbeats 4000000 in
set_option maxRecDepth 100000 in
theorem formOf_or (w : World) : Calls Try.prog 76 #[.string (⟨#[111, 114]⟩ : ByteArray)] w fun e w' => e = .returned (.tuple #[.agg #[.bool true, .bool true, .int .i64 1, .int .i64 0, .int .i64 1, .string (⟨#[111, 114]⟩ : ByteArray)], .bool true]) ∧ Below w.heap.size w w' := by
  have hB : isBin (⟨#[111, 114]⟩ : ByteArray) = true := by unfold isBin binL; simp [ByteArray.toList_eq]
  have hu := Try.underlying94
  go_enter Try.func76, Try.ntmps76
  go_wp2_with (first | (go_at_call 118; refine (binary_calls _).mono ?_; rintro e w1 ⟨A, c, rfl, hc, hr, hb⟩; obtain ⟨hc1, hf1⟩ := gv_bcell hb) | (go_at_call 109; refine (has_calls _ _ _ _ (by assumption) (by assumption)).mono ?_; rintro e w2 ⟨rfl, ⟨n, rfl⟩⟩))
  have B0 : w1.heap[w.heap.size]? = some (.cells #[.bool false, .bool false, .int .i64 0, .int .i64 0, .int .i64 0, .string (⟨#[]⟩ : ByteArray)] 94 (0, 0)) := blk_below (blk_alloc (blk_new w _) _) hb
  refine bodyPost_ret (v := .tuple #[.agg #[.bool true, .bool true, .int .i64 1, .int .i64 0, .int .i64 1, .string (⟨#[111, 114]⟩ : ByteArray)], .bool true]) ?_ rfl ⟨rfl, ?_⟩
  · refine (results_ct (p := 2) (u := 3) (ty := 94) rfl _ _ w.heap.size 94 #[.bool true, .bool true, .int .i64 1, .int .i64 0, .int .i64 1, .string (⟨#[111, 114]⟩ : ByteArray)] (0, 0) _ rfl ?_ Try.underlying94 rfl (by kernel_rfl))
    with_reducible refine blk_put (cs := #[.bool true, .bool true, .int .i64 1, .int .i64 0, .int .i64 1, .string (⟨#[]⟩ : ByteArray)]) ?_ 5 _ rfl
    with_reducible refine blk_put (cs := #[.bool true, .bool true, .int .i64 1, .int .i64 0, .int .i64 0, .string (⟨#[]⟩ : ByteArray)]) ?_ 4 _ rfl
    with_reducible refine blk_put (cs := #[.bool true, .bool true, .int .i64 1, .int .i64 0, .int .i64 0, .string (⟨#[]⟩ : ByteArray)]) ?_ 3 _ rfl
    with_reducible refine blk_put (cs := #[.bool true, .bool true, .int .i64 0, .int .i64 0, .int .i64 0, .string (⟨#[]⟩ : ByteArray)]) ?_ 2 _ rfl
    with_reducible refine blk_put (cs := #[.bool true, .bool false, .int .i64 0, .int .i64 0, .int .i64 0, .string (⟨#[]⟩ : ByteArray)]) ?_ 1 _ rfl
    with_reducible refine blk_put (cs := #[.bool false, .bool false, .int .i64 0, .int .i64 0, .int .i64 0, .string (⟨#[]⟩ : ByteArray)]) ?_ 0 _ rfl
    repeat (with_reducible refine blk_far ?_ (by simp) _)
    with_reducible exact blk_drewN B0 _
  repeat (refine below_set ?_ (by omega))
  refine pw_below_drewN ?_ _
  exact below_then (((Below.refl _ _).alloc (Nat.le_refl _) _).alloc (by simp) _) (by simp; omega) hb
set_option maxHeartbeats 4000000 in
set_option maxRecDepth 100000 in
theorem formOf_xor (w : World) : Calls Try.prog 76 #[.string (⟨#[120, 111, 114]⟩ : ByteArray)] w fun e w' => e = .returned (.tuple #[.agg #[.bool true, .bool true, .int .i64 1, .int .i64 0, .int .i64 1, .string (⟨#[120, 111, 114]⟩ : ByteArray)], .bool true]) ∧ Below w.heap.size w w' := by
  have hB : isBin (⟨#[120, 111, 114]⟩ : ByteArray) = true := by unfold isBin binL; simp [ByteArray.toList_eq]
  have hu := Try.underlying94
  go_enter Try.func76, Try.ntmps76
  go_wp2_with (first | (go_at_call 118; refine (binary_calls _).mono ?_; rintro e w1 ⟨A, c, rfl, hc, hr, hb⟩; obtain ⟨hc1, hf1⟩ := gv_bcell hb) | (go_at_call 109; refine (has_calls _ _ _ _ (by assumption) (by assumption)).mono ?_; rintro e w2 ⟨rfl, ⟨n, rfl⟩⟩))
  have B0 : w1.heap[w.heap.size]? = some (.cells #[.bool false, .bool false, .int .i64 0, .int .i64 0, .int .i64 0, .string (⟨#[]⟩ : ByteArray)] 94 (0, 0)) := blk_below (blk_alloc (blk_new w _) _) hb
  refine bodyPost_ret (v := .tuple #[.agg #[.bool true, .bool true, .int .i64 1, .int .i64 0, .int .i64 1, .string (⟨#[120, 111, 114]⟩ : ByteArray)], .bool true]) ?_ rfl ⟨rfl, ?_⟩
  · refine (results_ct (p := 2) (u := 3) (ty := 94) rfl _ _ w.heap.size 94 #[.bool true, .bool true, .int .i64 1, .int .i64 0, .int .i64 1, .string (⟨#[120, 111, 114]⟩ : ByteArray)] (0, 0) _ rfl ?_ Try.underlying94 rfl (by kernel_rfl))
    with_reducible refine blk_put (cs := #[.bool true, .bool true, .int .i64 1, .int .i64 0, .int .i64 1, .string (⟨#[]⟩ : ByteArray)]) ?_ 5 _ rfl
    with_reducible refine blk_put (cs := #[.bool true, .bool true, .int .i64 1, .int .i64 0, .int .i64 0, .string (⟨#[]⟩ : ByteArray)]) ?_ 4 _ rfl
    with_reducible refine blk_put (cs := #[.bool true, .bool true, .int .i64 1, .int .i64 0, .int .i64 0, .string (⟨#[]⟩ : ByteArray)]) ?_ 3 _ rfl
    with_reducible refine blk_put (cs := #[.bool true, .bool true, .int .i64 0, .int .i64 0, .int .i64 0, .string (⟨#[]⟩ : ByteArray)]) ?_ 2 _ rfl
    with_reducible refine blk_put (cs := #[.bool true, .bool false, .int .i64 0, .int .i64 0, .int .i64 0, .string (⟨#[]⟩ : ByteArray)]) ?_ 1 _ rfl
    with_reducible refine blk_put (cs := #[.bool false, .bool false, .int .i64 0, .int .i64 0, .int .i64 0, .string (⟨#[]⟩ : ByteArray)]) ?_ 0 _ rfl
    repeat (with_reducible refine blk_far ?_ (by simp) _)
    with_reducible exact blk_drewN B0 _
  repeat (refine below_set ?_ (by omega))
  refine pw_below_drewN ?_ _
  exact below_then (((Below.refl _ _).alloc (Nat.le_refl _) _).alloc (by simp) _) (by simp; omega) hb
set_option maxHeartbeats 4000000 in
set_option maxRecDepth 100000 in
theorem formOf_shl (w : World) : Calls Try.prog 76 #[.string (⟨#[115, 104, 108]⟩ : ByteArray)] w fun e w' => e = .returned (.tuple #[.agg #[.bool true, .bool true, .int .i64 1, .int .i64 0, .int .i64 2, .string (⟨#[115, 104, 108]⟩ : ByteArray)], .bool true]) ∧ Below w.heap.size w w' := by
  have hB : isBin (⟨#[115, 104, 108]⟩ : ByteArray) = true := by unfold isBin binL; simp [ByteArray.toList_eq]
  have hu := Try.underlying94
  go_enter Try.func76, Try.ntmps76
  go_wp2_with (first | (go_at_call 118; refine (binary_calls _).mono ?_; rintro e w1 ⟨A, c, rfl, hc, hr, hb⟩; obtain ⟨hc1, hf1⟩ := gv_bcell hb) | (go_at_call 109; refine (has_calls _ _ _ _ (by assumption) (by assumption)).mono ?_; rintro e w2 ⟨rfl, ⟨n, rfl⟩⟩))
  have B0 : w1.heap[w.heap.size]? = some (.cells #[.bool false, .bool false, .int .i64 0, .int .i64 0, .int .i64 0, .string (⟨#[]⟩ : ByteArray)] 94 (0, 0)) := blk_below (blk_alloc (blk_new w _) _) hb
  refine bodyPost_ret (v := .tuple #[.agg #[.bool true, .bool true, .int .i64 1, .int .i64 0, .int .i64 2, .string (⟨#[115, 104, 108]⟩ : ByteArray)], .bool true]) ?_ rfl ⟨rfl, ?_⟩
  · refine (results_ct (p := 2) (u := 3) (ty := 94) rfl _ _ w.heap.size 94 #[.bool true, .bool true, .int .i64 1, .int .i64 0, .int .i64 2, .string (⟨#[115, 104, 108]⟩ : ByteArray)] (0, 0) _ rfl ?_ Try.underlying94 rfl (by kernel_rfl))
    with_reducible refine blk_put (cs := #[.bool true, .bool true, .int .i64 1, .int .i64 0, .int .i64 2, .string (⟨#[]⟩ : ByteArray)]) ?_ 5 _ rfl
    with_reducible refine blk_put (cs := #[.bool true, .bool true, .int .i64 1, .int .i64 0, .int .i64 0, .string (⟨#[]⟩ : ByteArray)]) ?_ 4 _ rfl
    with_reducible refine blk_put (cs := #[.bool true, .bool true, .int .i64 1, .int .i64 0, .int .i64 0, .string (⟨#[]⟩ : ByteArray)]) ?_ 3 _ rfl
    with_reducible refine blk_put (cs := #[.bool true, .bool true, .int .i64 0, .int .i64 0, .int .i64 0, .string (⟨#[]⟩ : ByteArray)]) ?_ 2 _ rfl
    with_reducible refine blk_put (cs := #[.bool true, .bool false, .int .i64 0, .int .i64 0, .int .i64 0, .string (⟨#[]⟩ : ByteArray)]) ?_ 1 _ rfl
    with_reducible refine blk_put (cs := #[.bool false, .bool false, .int .i64 0, .int .i64 0, .int .i64 0, .string (⟨#[]⟩ : ByteArray)]) ?_ 0 _ rfl
    repeat (with_reducible refine blk_far ?_ (by simp) _)
    with_reducible exact blk_drewN B0 _
  repeat (refine below_set ?_ (by omega))
  refine pw_below_drewN ?_ _
  exact below_then (((Below.refl _ _).alloc (Nat.le_refl _) _).alloc (by simp) _) (by simp; omega) hb
set_option maxHeartbeats 4000000 in
set_option maxRecDepth 100000 in
theorem formOf_shr (w : World) : Calls Try.prog 76 #[.string (⟨#[115, 104, 114]⟩ : ByteArray)] w fun e w' => e = .returned (.tuple #[.agg #[.bool true, .bool true, .int .i64 1, .int .i64 0, .int .i64 2, .string (⟨#[115, 104, 114]⟩ : ByteArray)], .bool true]) ∧ Below w.heap.size w w' := by
  have hB : isBin (⟨#[115, 104, 114]⟩ : ByteArray) = true := by unfold isBin binL; simp [ByteArray.toList_eq]
  have hu := Try.underlying94
  go_enter Try.func76, Try.ntmps76
  go_wp2_with (first | (go_at_call 118; refine (binary_calls _).mono ?_; rintro e w1 ⟨A, c, rfl, hc, hr, hb⟩; obtain ⟨hc1, hf1⟩ := gv_bcell hb) | (go_at_call 109; refine (has_calls _ _ _ _ (by assumption) (by assumption)).mono ?_; rintro e w2 ⟨rfl, ⟨n, rfl⟩⟩))
  have B0 : w1.heap[w.heap.size]? = some (.cells #[.bool false, .bool false, .int .i64 0, .int .i64 0, .int .i64 0, .string (⟨#[]⟩ : ByteArray)] 94 (0, 0)) := blk_below (blk_alloc (blk_new w _) _) hb
  refine bodyPost_ret (v := .tuple #[.agg #[.bool true, .bool true, .int .i64 1, .int .i64 0, .int .i64 2, .string (⟨#[115, 104, 114]⟩ : ByteArray)], .bool true]) ?_ rfl ⟨rfl, ?_⟩
  · refine (results_ct (p := 2) (u := 3) (ty := 94) rfl _ _ w.heap.size 94 #[.bool true, .bool true, .int .i64 1, .int .i64 0, .int .i64 2, .string (⟨#[115, 104, 114]⟩ : ByteArray)] (0, 0) _ rfl ?_ Try.underlying94 rfl (by kernel_rfl))
    with_reducible refine blk_put (cs := #[.bool true, .bool true, .int .i64 1, .int .i64 0, .int .i64 2, .string (⟨#[]⟩ : ByteArray)]) ?_ 5 _ rfl
    with_reducible refine blk_put (cs := #[.bool true, .bool true, .int .i64 1, .int .i64 0, .int .i64 0, .string (⟨#[]⟩ : ByteArray)]) ?_ 4 _ rfl
    with_reducible refine blk_put (cs := #[.bool true, .bool true, .int .i64 1, .int .i64 0, .int .i64 0, .string (⟨#[]⟩ : ByteArray)]) ?_ 3 _ rfl
    with_reducible refine blk_put (cs := #[.bool true, .bool true, .int .i64 0, .int .i64 0, .int .i64 0, .string (⟨#[]⟩ : ByteArray)]) ?_ 2 _ rfl
    with_reducible refine blk_put (cs := #[.bool true, .bool false, .int .i64 0, .int .i64 0, .int .i64 0, .string (⟨#[]⟩ : ByteArray)]) ?_ 1 _ rfl
    with_reducible refine blk_put (cs := #[.bool false, .bool false, .int .i64 0, .int .i64 0, .int .i64 0, .string (⟨#[]⟩ : ByteArray)]) ?_ 0 _ rfl
    repeat (with_reducible refine blk_far ?_ (by simp) _)
    with_reducible exact blk_drewN B0 _
  repeat (refine below_set ?_ (by omega))
  refine pw_below_drewN ?_ _
  exact below_then (((Below.refl _ _).alloc (Nat.le_refl _) _).alloc (by simp) _) (by simp; omega) hb
set_option maxHeartbeats 4000000 in
set_option maxRecDepth 100000 in
theorem formOf_less (w : World) : Calls Try.prog 76 #[.string (⟨#[108, 101, 115, 115]⟩ : ByteArray)] w fun e w' => e = .returned (.tuple #[.agg #[.bool true, .bool true, .int .i64 1, .int .i64 0, .int .i64 1, .string (⟨#[108, 101, 115, 115]⟩ : ByteArray)], .bool true]) ∧ Below w.heap.size w w' := by
  have hB : isBin (⟨#[108, 101, 115, 115]⟩ : ByteArray) = true := by unfold isBin binL; simp [ByteArray.toList_eq]
  have hu := Try.underlying94
  go_enter Try.func76, Try.ntmps76
  go_wp2_with (first | (go_at_call 118; refine (binary_calls _).mono ?_; rintro e w1 ⟨A, c, rfl, hc, hr, hb⟩; obtain ⟨hc1, hf1⟩ := gv_bcell hb) | (go_at_call 109; refine (has_calls _ _ _ _ (by assumption) (by assumption)).mono ?_; rintro e w2 ⟨rfl, ⟨n, rfl⟩⟩))
  have B0 : w1.heap[w.heap.size]? = some (.cells #[.bool false, .bool false, .int .i64 0, .int .i64 0, .int .i64 0, .string (⟨#[]⟩ : ByteArray)] 94 (0, 0)) := blk_below (blk_alloc (blk_new w _) _) hb
  refine bodyPost_ret (v := .tuple #[.agg #[.bool true, .bool true, .int .i64 1, .int .i64 0, .int .i64 1, .string (⟨#[108, 101, 115, 115]⟩ : ByteArray)], .bool true]) ?_ rfl ⟨rfl, ?_⟩
  · refine (results_ct (p := 2) (u := 3) (ty := 94) rfl _ _ w.heap.size 94 #[.bool true, .bool true, .int .i64 1, .int .i64 0, .int .i64 1, .string (⟨#[108, 101, 115, 115]⟩ : ByteArray)] (0, 0) _ rfl ?_ Try.underlying94 rfl (by kernel_rfl))
    with_reducible refine blk_put (cs := #[.bool true, .bool true, .int .i64 1, .int .i64 0, .int .i64 1, .string (⟨#[]⟩ : ByteArray)]) ?_ 5 _ rfl
    with_reducible refine blk_put (cs := #[.bool true, .bool true, .int .i64 1, .int .i64 0, .int .i64 0, .string (⟨#[]⟩ : ByteArray)]) ?_ 4 _ rfl
    with_reducible refine blk_put (cs := #[.bool true, .bool true, .int .i64 1, .int .i64 0, .int .i64 0, .string (⟨#[]⟩ : ByteArray)]) ?_ 3 _ rfl
    with_reducible refine blk_put (cs := #[.bool true, .bool true, .int .i64 0, .int .i64 0, .int .i64 0, .string (⟨#[]⟩ : ByteArray)]) ?_ 2 _ rfl
    with_reducible refine blk_put (cs := #[.bool true, .bool false, .int .i64 0, .int .i64 0, .int .i64 0, .string (⟨#[]⟩ : ByteArray)]) ?_ 1 _ rfl
    with_reducible refine blk_put (cs := #[.bool false, .bool false, .int .i64 0, .int .i64 0, .int .i64 0, .string (⟨#[]⟩ : ByteArray)]) ?_ 0 _ rfl
    repeat (with_reducible refine blk_far ?_ (by simp) _)
    with_reducible exact blk_drewN B0 _
  repeat (refine below_set ?_ (by omega))
  refine pw_below_drewN ?_ _
  exact below_then (((Below.refl _ _).alloc (Nat.le_refl _) _).alloc (by simp) _) (by simp; omega) hb
set_option maxHeartbeats 4000000 in
set_option maxRecDepth 100000 in
theorem formOf_eq (w : World) : Calls Try.prog 76 #[.string (⟨#[101, 113]⟩ : ByteArray)] w fun e w' => e = .returned (.tuple #[.agg #[.bool true, .bool true, .int .i64 1, .int .i64 0, .int .i64 1, .string (⟨#[101, 113]⟩ : ByteArray)], .bool true]) ∧ Below w.heap.size w w' := by
  have hB : isBin (⟨#[101, 113]⟩ : ByteArray) = true := by unfold isBin binL; simp [ByteArray.toList_eq]
  have hu := Try.underlying94
  go_enter Try.func76, Try.ntmps76
  go_wp2_with (first | (go_at_call 118; refine (binary_calls _).mono ?_; rintro e w1 ⟨A, c, rfl, hc, hr, hb⟩; obtain ⟨hc1, hf1⟩ := gv_bcell hb) | (go_at_call 109; refine (has_calls _ _ _ _ (by assumption) (by assumption)).mono ?_; rintro e w2 ⟨rfl, ⟨n, rfl⟩⟩))
  have B0 : w1.heap[w.heap.size]? = some (.cells #[.bool false, .bool false, .int .i64 0, .int .i64 0, .int .i64 0, .string (⟨#[]⟩ : ByteArray)] 94 (0, 0)) := blk_below (blk_alloc (blk_new w _) _) hb
  refine bodyPost_ret (v := .tuple #[.agg #[.bool true, .bool true, .int .i64 1, .int .i64 0, .int .i64 1, .string (⟨#[101, 113]⟩ : ByteArray)], .bool true]) ?_ rfl ⟨rfl, ?_⟩
  · refine (results_ct (p := 2) (u := 3) (ty := 94) rfl _ _ w.heap.size 94 #[.bool true, .bool true, .int .i64 1, .int .i64 0, .int .i64 1, .string (⟨#[101, 113]⟩ : ByteArray)] (0, 0) _ rfl ?_ Try.underlying94 rfl (by kernel_rfl))
    with_reducible refine blk_put (cs := #[.bool true, .bool true, .int .i64 1, .int .i64 0, .int .i64 1, .string (⟨#[]⟩ : ByteArray)]) ?_ 5 _ rfl
    with_reducible refine blk_put (cs := #[.bool true, .bool true, .int .i64 1, .int .i64 0, .int .i64 0, .string (⟨#[]⟩ : ByteArray)]) ?_ 4 _ rfl
    with_reducible refine blk_put (cs := #[.bool true, .bool true, .int .i64 1, .int .i64 0, .int .i64 0, .string (⟨#[]⟩ : ByteArray)]) ?_ 3 _ rfl
    with_reducible refine blk_put (cs := #[.bool true, .bool true, .int .i64 0, .int .i64 0, .int .i64 0, .string (⟨#[]⟩ : ByteArray)]) ?_ 2 _ rfl
    with_reducible refine blk_put (cs := #[.bool true, .bool false, .int .i64 0, .int .i64 0, .int .i64 0, .string (⟨#[]⟩ : ByteArray)]) ?_ 1 _ rfl
    with_reducible refine blk_put (cs := #[.bool false, .bool false, .int .i64 0, .int .i64 0, .int .i64 0, .string (⟨#[]⟩ : ByteArray)]) ?_ 0 _ rfl
    repeat (with_reducible refine blk_far ?_ (by simp) _)
    with_reducible exact blk_drewN B0 _
  repeat (refine below_set ?_ (by omega))
  refine pw_below_drewN ?_ _
  exact below_then (((Below.refl _ _).alloc (Nat.le_refl _) _).alloc (by simp) _) (by simp; omega) hb
set_option maxHeartbeats 4000000 in
set_option maxRecDepth 100000 in
theorem formOf_addi (w : World) : Calls Try.prog 76 #[.string (⟨#[97, 100, 100, 105]⟩ : ByteArray)] w fun e w' => e = .returned (.tuple #[.agg #[.bool true, .bool false, .int .i64 0, .int .i64 63, .int .i64 1, .string (⟨#[97, 100, 100]⟩ : ByteArray)], .bool true]) ∧ Below w.heap.size w w' := by
  have hs : ∀ W : World, (Instr.slice 9 (.string (⟨#[97, 100, 100, 105]⟩ : ByteArray)) none (some (.int .i64 3)) none).run Try.prog W = .ok (.string (⟨#[97, 100, 100]⟩ : ByteArray)) W := fun _ => by kernel_rfl
  have hB : isBin (⟨#[97, 100, 100, 105]⟩ : ByteArray) = false := by unfold isBin binL; simp [ByteArray.toList_eq]
  have hu := Try.underlying94
  go_enter Try.func76, Try.ntmps76
  go_wp2_with (first | (go_at_call 118; refine (binary_calls _).mono ?_; rintro e w1 ⟨A, c, rfl, hc, hr, hb⟩; obtain ⟨hc1, hf1⟩ := gv_bcell hb) | (go_at_call 109; refine (has_calls _ _ _ _ (by assumption) (by assumption)).mono ?_; rintro e w2 ⟨rfl, ⟨n, rfl⟩⟩))
  go_region
  go_wp2
  have B0 : w1.heap[w.heap.size]? = some (.cells #[.bool false, .bool false, .int .i64 0, .int .i64 0, .int .i64 0, .string (⟨#[]⟩ : ByteArray)] 94 (0, 0)) := blk_below (blk_alloc (blk_new w _) _) hb
  refine bodyPost_ret (v := .tuple #[.agg #[.bool true, .bool false, .int .i64 0, .int .i64 63, .int .i64 1, .string (⟨#[97, 100, 100]⟩ : ByteArray)], .bool true]) ?_ rfl ⟨rfl, ?_⟩
  · refine (results_ct (p := 2) (u := 3) (ty := 94) rfl _ _ w.heap.size 94 #[.bool true, .bool false, .int .i64 0, .int .i64 63, .int .i64 1, .string (⟨#[97, 100, 100]⟩ : ByteArray)] (0, 0) _ rfl ?_ Try.underlying94 rfl (by kernel_rfl))
    with_reducible refine blk_put (cs := #[.bool true, .bool false, .int .i64 0, .int .i64 63, .int .i64 1, .string (⟨#[]⟩ : ByteArray)]) ?_ 5 _ rfl
    with_reducible refine blk_put (cs := #[.bool true, .bool false, .int .i64 0, .int .i64 63, .int .i64 0, .string (⟨#[]⟩ : ByteArray)]) ?_ 4 _ rfl
    with_reducible refine blk_put (cs := #[.bool true, .bool false, .int .i64 0, .int .i64 0, .int .i64 0, .string (⟨#[]⟩ : ByteArray)]) ?_ 3 _ rfl
    with_reducible refine blk_put (cs := #[.bool true, .bool false, .int .i64 0, .int .i64 0, .int .i64 0, .string (⟨#[]⟩ : ByteArray)]) ?_ 2 _ rfl
    with_reducible refine blk_put (cs := #[.bool true, .bool false, .int .i64 0, .int .i64 0, .int .i64 0, .string (⟨#[]⟩ : ByteArray)]) ?_ 1 _ rfl
    with_reducible refine blk_put (cs := #[.bool false, .bool false, .int .i64 0, .int .i64 0, .int .i64 0, .string (⟨#[]⟩ : ByteArray)]) ?_ 0 _ rfl
    repeat (with_reducible refine blk_far ?_ (by simp) _)
    with_reducible exact blk_drewN B0 _
  repeat (refine below_set ?_ (by omega))
  refine pw_below_drewN ?_ _
  exact below_then (((Below.refl _ _).alloc (Nat.le_refl _) _).alloc (by simp) _) (by simp; omega) hb
set_option maxHeartbeats 4000000 in
set_option maxRecDepth 100000 in
theorem formOf_andi (w : World) : Calls Try.prog 76 #[.string (⟨#[97, 110, 100, 105]⟩ : ByteArray)] w fun e w' => e = .returned (.tuple #[.agg #[.bool true, .bool false, .int .i64 0, .int .i64 63, .int .i64 1, .string (⟨#[97, 110, 100]⟩ : ByteArray)], .bool true]) ∧ Below w.heap.size w w' := by
  have hs : ∀ W : World, (Instr.slice 9 (.string (⟨#[97, 110, 100, 105]⟩ : ByteArray)) none (some (.int .i64 3)) none).run Try.prog W = .ok (.string (⟨#[97, 110, 100]⟩ : ByteArray)) W := fun _ => by kernel_rfl
  have hB : isBin (⟨#[97, 110, 100, 105]⟩ : ByteArray) = false := by unfold isBin binL; simp [ByteArray.toList_eq]
  have hu := Try.underlying94
  go_enter Try.func76, Try.ntmps76
  go_wp2_with (first | (go_at_call 118; refine (binary_calls _).mono ?_; rintro e w1 ⟨A, c, rfl, hc, hr, hb⟩; obtain ⟨hc1, hf1⟩ := gv_bcell hb) | (go_at_call 109; refine (has_calls _ _ _ _ (by assumption) (by assumption)).mono ?_; rintro e w2 ⟨rfl, ⟨n, rfl⟩⟩))
  go_region
  go_wp2
  have B0 : w1.heap[w.heap.size]? = some (.cells #[.bool false, .bool false, .int .i64 0, .int .i64 0, .int .i64 0, .string (⟨#[]⟩ : ByteArray)] 94 (0, 0)) := blk_below (blk_alloc (blk_new w _) _) hb
  refine bodyPost_ret (v := .tuple #[.agg #[.bool true, .bool false, .int .i64 0, .int .i64 63, .int .i64 1, .string (⟨#[97, 110, 100]⟩ : ByteArray)], .bool true]) ?_ rfl ⟨rfl, ?_⟩
  · refine (results_ct (p := 2) (u := 3) (ty := 94) rfl _ _ w.heap.size 94 #[.bool true, .bool false, .int .i64 0, .int .i64 63, .int .i64 1, .string (⟨#[97, 110, 100]⟩ : ByteArray)] (0, 0) _ rfl ?_ Try.underlying94 rfl (by kernel_rfl))
    with_reducible refine blk_put (cs := #[.bool true, .bool false, .int .i64 0, .int .i64 63, .int .i64 1, .string (⟨#[]⟩ : ByteArray)]) ?_ 5 _ rfl
    with_reducible refine blk_put (cs := #[.bool true, .bool false, .int .i64 0, .int .i64 63, .int .i64 0, .string (⟨#[]⟩ : ByteArray)]) ?_ 4 _ rfl
    with_reducible refine blk_put (cs := #[.bool true, .bool false, .int .i64 0, .int .i64 0, .int .i64 0, .string (⟨#[]⟩ : ByteArray)]) ?_ 3 _ rfl
    with_reducible refine blk_put (cs := #[.bool true, .bool false, .int .i64 0, .int .i64 0, .int .i64 0, .string (⟨#[]⟩ : ByteArray)]) ?_ 2 _ rfl
    with_reducible refine blk_put (cs := #[.bool true, .bool false, .int .i64 0, .int .i64 0, .int .i64 0, .string (⟨#[]⟩ : ByteArray)]) ?_ 1 _ rfl
    with_reducible refine blk_put (cs := #[.bool false, .bool false, .int .i64 0, .int .i64 0, .int .i64 0, .string (⟨#[]⟩ : ByteArray)]) ?_ 0 _ rfl
    repeat (with_reducible refine blk_far ?_ (by simp) _)
    with_reducible exact blk_drewN B0 _
  repeat (refine below_set ?_ (by omega))
  refine pw_below_drewN ?_ _
  exact below_then (((Below.refl _ _).alloc (Nat.le_refl _) _).alloc (by simp) _) (by simp; omega) hb
set_option maxHeartbeats 4000000 in
set_option maxRecDepth 100000 in
theorem formOf_xori (w : World) : Calls Try.prog 76 #[.string (⟨#[120, 111, 114, 105]⟩ : ByteArray)] w fun e w' => e = .returned (.tuple #[.agg #[.bool true, .bool false, .int .i64 0, .int .i64 63, .int .i64 1, .string (⟨#[120, 111, 114]⟩ : ByteArray)], .bool true]) ∧ Below w.heap.size w w' := by
  have hs : ∀ W : World, (Instr.slice 9 (.string (⟨#[120, 111, 114, 105]⟩ : ByteArray)) none (some (.int .i64 3)) none).run Try.prog W = .ok (.string (⟨#[120, 111, 114]⟩ : ByteArray)) W := fun _ => by kernel_rfl
  have hB : isBin (⟨#[120, 111, 114, 105]⟩ : ByteArray) = false := by unfold isBin binL; simp [ByteArray.toList_eq]
  have hu := Try.underlying94
  go_enter Try.func76, Try.ntmps76
  go_wp2_with (first | (go_at_call 118; refine (binary_calls _).mono ?_; rintro e w1 ⟨A, c, rfl, hc, hr, hb⟩; obtain ⟨hc1, hf1⟩ := gv_bcell hb) | (go_at_call 109; refine (has_calls _ _ _ _ (by assumption) (by assumption)).mono ?_; rintro e w2 ⟨rfl, ⟨n, rfl⟩⟩))
  go_region
  go_wp2
  have B0 : w1.heap[w.heap.size]? = some (.cells #[.bool false, .bool false, .int .i64 0, .int .i64 0, .int .i64 0, .string (⟨#[]⟩ : ByteArray)] 94 (0, 0)) := blk_below (blk_alloc (blk_new w _) _) hb
  refine bodyPost_ret (v := .tuple #[.agg #[.bool true, .bool false, .int .i64 0, .int .i64 63, .int .i64 1, .string (⟨#[120, 111, 114]⟩ : ByteArray)], .bool true]) ?_ rfl ⟨rfl, ?_⟩
  · refine (results_ct (p := 2) (u := 3) (ty := 94) rfl _ _ w.heap.size 94 #[.bool true, .bool false, .int .i64 0, .int .i64 63, .int .i64 1, .string (⟨#[120, 111, 114]⟩ : ByteArray)] (0, 0) _ rfl ?_ Try.underlying94 rfl (by kernel_rfl))
    with_reducible refine blk_put (cs := #[.bool true, .bool false, .int .i64 0, .int .i64 63, .int .i64 1, .string (⟨#[]⟩ : ByteArray)]) ?_ 5 _ rfl
    with_reducible refine blk_put (cs := #[.bool true, .bool false, .int .i64 0, .int .i64 63, .int .i64 0, .string (⟨#[]⟩ : ByteArray)]) ?_ 4 _ rfl
    with_reducible refine blk_put (cs := #[.bool true, .bool false, .int .i64 0, .int .i64 0, .int .i64 0, .string (⟨#[]⟩ : ByteArray)]) ?_ 3 _ rfl
    with_reducible refine blk_put (cs := #[.bool true, .bool false, .int .i64 0, .int .i64 0, .int .i64 0, .string (⟨#[]⟩ : ByteArray)]) ?_ 2 _ rfl
    with_reducible refine blk_put (cs := #[.bool true, .bool false, .int .i64 0, .int .i64 0, .int .i64 0, .string (⟨#[]⟩ : ByteArray)]) ?_ 1 _ rfl
    with_reducible refine blk_put (cs := #[.bool false, .bool false, .int .i64 0, .int .i64 0, .int .i64 0, .string (⟨#[]⟩ : ByteArray)]) ?_ 0 _ rfl
    repeat (with_reducible refine blk_far ?_ (by simp) _)
    with_reducible exact blk_drewN B0 _
  repeat (refine below_set ?_ (by omega))
  refine pw_below_drewN ?_ _
  exact below_then (((Below.refl _ _).alloc (Nat.le_refl _) _).alloc (by simp) _) (by simp; omega) hb
set_option maxHeartbeats 4000000 in
set_option maxRecDepth 100000 in
theorem formOf_shli (w : World) : Calls Try.prog 76 #[.string (⟨#[115, 104, 108, 105]⟩ : ByteArray)] w fun e w' => e = .returned (.tuple #[.agg #[.bool true, .bool false, .int .i64 1, .int .i64 5, .int .i64 1, .string (⟨#[115, 104, 108]⟩ : ByteArray)], .bool true]) ∧ Below w.heap.size w w' := by
  have hs : ∀ W : World, (Instr.slice 9 (.string (⟨#[115, 104, 108, 105]⟩ : ByteArray)) none (some (.int .i64 3)) none).run Try.prog W = .ok (.string (⟨#[115, 104, 108]⟩ : ByteArray)) W := fun _ => by kernel_rfl
  have hB : isBin (⟨#[115, 104, 108, 105]⟩ : ByteArray) = false := by unfold isBin binL; simp [ByteArray.toList_eq]
  have hu := Try.underlying94
  go_enter Try.func76, Try.ntmps76
  go_wp2_with (first | (go_at_call 118; refine (binary_calls _).mono ?_; rintro e w1 ⟨A, c, rfl, hc, hr, hb⟩; obtain ⟨hc1, hf1⟩ := gv_bcell hb) | (go_at_call 109; refine (has_calls _ _ _ _ (by assumption) (by assumption)).mono ?_; rintro e w2 ⟨rfl, ⟨n, rfl⟩⟩))
  go_region
  go_wp2
  have B0 : w1.heap[w.heap.size]? = some (.cells #[.bool false, .bool false, .int .i64 0, .int .i64 0, .int .i64 0, .string (⟨#[]⟩ : ByteArray)] 94 (0, 0)) := blk_below (blk_alloc (blk_new w _) _) hb
  refine bodyPost_ret (v := .tuple #[.agg #[.bool true, .bool false, .int .i64 1, .int .i64 5, .int .i64 1, .string (⟨#[115, 104, 108]⟩ : ByteArray)], .bool true]) ?_ rfl ⟨rfl, ?_⟩
  · refine (results_ct (p := 2) (u := 3) (ty := 94) rfl _ _ w.heap.size 94 #[.bool true, .bool false, .int .i64 1, .int .i64 5, .int .i64 1, .string (⟨#[115, 104, 108]⟩ : ByteArray)] (0, 0) _ rfl ?_ Try.underlying94 rfl (by kernel_rfl))
    with_reducible refine blk_put (cs := #[.bool true, .bool false, .int .i64 1, .int .i64 5, .int .i64 1, .string (⟨#[]⟩ : ByteArray)]) ?_ 5 _ rfl
    with_reducible refine blk_put (cs := #[.bool true, .bool false, .int .i64 1, .int .i64 5, .int .i64 0, .string (⟨#[]⟩ : ByteArray)]) ?_ 4 _ rfl
    with_reducible refine blk_put (cs := #[.bool true, .bool false, .int .i64 1, .int .i64 0, .int .i64 0, .string (⟨#[]⟩ : ByteArray)]) ?_ 3 _ rfl
    with_reducible refine blk_put (cs := #[.bool true, .bool false, .int .i64 0, .int .i64 0, .int .i64 0, .string (⟨#[]⟩ : ByteArray)]) ?_ 2 _ rfl
    with_reducible refine blk_put (cs := #[.bool true, .bool false, .int .i64 0, .int .i64 0, .int .i64 0, .string (⟨#[]⟩ : ByteArray)]) ?_ 1 _ rfl
    with_reducible refine blk_put (cs := #[.bool false, .bool false, .int .i64 0, .int .i64 0, .int .i64 0, .string (⟨#[]⟩ : ByteArray)]) ?_ 0 _ rfl
    repeat (with_reducible refine blk_far ?_ (by simp) _)
    with_reducible exact blk_drewN B0 _
  repeat (refine below_set ?_ (by omega))
  refine pw_below_drewN ?_ _
  exact below_then (((Below.refl _ _).alloc (Nat.le_refl _) _).alloc (by simp) _) (by simp; omega) hb
set_option maxHeartbeats 4000000 in
set_option maxRecDepth 100000 in
theorem formOf_shri (w : World) : Calls Try.prog 76 #[.string (⟨#[115, 104, 114, 105]⟩ : ByteArray)] w fun e w' => e = .returned (.tuple #[.agg #[.bool true, .bool false, .int .i64 1, .int .i64 5, .int .i64 1, .string (⟨#[115, 104, 114]⟩ : ByteArray)], .bool true]) ∧ Below w.heap.size w w' := by
  have hs : ∀ W : World, (Instr.slice 9 (.string (⟨#[115, 104, 114, 105]⟩ : ByteArray)) none (some (.int .i64 3)) none).run Try.prog W = .ok (.string (⟨#[115, 104, 114]⟩ : ByteArray)) W := fun _ => by kernel_rfl
  have hB : isBin (⟨#[115, 104, 114, 105]⟩ : ByteArray) = false := by unfold isBin binL; simp [ByteArray.toList_eq]
  have hu := Try.underlying94
  go_enter Try.func76, Try.ntmps76
  go_wp2_with (first | (go_at_call 118; refine (binary_calls _).mono ?_; rintro e w1 ⟨A, c, rfl, hc, hr, hb⟩; obtain ⟨hc1, hf1⟩ := gv_bcell hb) | (go_at_call 109; refine (has_calls _ _ _ _ (by assumption) (by assumption)).mono ?_; rintro e w2 ⟨rfl, ⟨n, rfl⟩⟩))
  go_region
  go_wp2
  have B0 : w1.heap[w.heap.size]? = some (.cells #[.bool false, .bool false, .int .i64 0, .int .i64 0, .int .i64 0, .string (⟨#[]⟩ : ByteArray)] 94 (0, 0)) := blk_below (blk_alloc (blk_new w _) _) hb
  refine bodyPost_ret (v := .tuple #[.agg #[.bool true, .bool false, .int .i64 1, .int .i64 5, .int .i64 1, .string (⟨#[115, 104, 114]⟩ : ByteArray)], .bool true]) ?_ rfl ⟨rfl, ?_⟩
  · refine (results_ct (p := 2) (u := 3) (ty := 94) rfl _ _ w.heap.size 94 #[.bool true, .bool false, .int .i64 1, .int .i64 5, .int .i64 1, .string (⟨#[115, 104, 114]⟩ : ByteArray)] (0, 0) _ rfl ?_ Try.underlying94 rfl (by kernel_rfl))
    with_reducible refine blk_put (cs := #[.bool true, .bool false, .int .i64 1, .int .i64 5, .int .i64 1, .string (⟨#[]⟩ : ByteArray)]) ?_ 5 _ rfl
    with_reducible refine blk_put (cs := #[.bool true, .bool false, .int .i64 1, .int .i64 5, .int .i64 0, .string (⟨#[]⟩ : ByteArray)]) ?_ 4 _ rfl
    with_reducible refine blk_put (cs := #[.bool true, .bool false, .int .i64 1, .int .i64 0, .int .i64 0, .string (⟨#[]⟩ : ByteArray)]) ?_ 3 _ rfl
    with_reducible refine blk_put (cs := #[.bool true, .bool false, .int .i64 0, .int .i64 0, .int .i64 0, .string (⟨#[]⟩ : ByteArray)]) ?_ 2 _ rfl
    with_reducible refine blk_put (cs := #[.bool true, .bool false, .int .i64 0, .int .i64 0, .int .i64 0, .string (⟨#[]⟩ : ByteArray)]) ?_ 1 _ rfl
    with_reducible refine blk_put (cs := #[.bool false, .bool false, .int .i64 0, .int .i64 0, .int .i64 0, .string (⟨#[]⟩ : ByteArray)]) ?_ 0 _ rfl
    repeat (with_reducible refine blk_far ?_ (by simp) _)
    with_reducible exact blk_drewN B0 _
  repeat (refine below_set ?_ (by omega))
  refine pw_below_drewN ?_ _
  exact below_then (((Below.refl _ _).alloc (Nat.le_refl _) _).alloc (by simp) _) (by simp; omega) hb
set_option maxHeartbeats 4000000 in
set_option maxRecDepth 100000 in
theorem formOf_lea (w : World) : Calls Try.prog 76 #[.string (⟨#[108, 101, 97]⟩ : ByteArray)] w fun e w' => e = .returned (.tuple #[.agg #[.bool true, .bool true, .int .i64 1, .int .i64 3, .int .i64 1, .string (⟨#[108, 101, 97]⟩ : ByteArray)], .bool true]) ∧ Below w.heap.size w w' := by
  have hB : isBin (⟨#[108, 101, 97]⟩ : ByteArray) = false := by unfold isBin binL; simp [ByteArray.toList_eq]
  have hu := Try.underlying94
  go_enter Try.func76, Try.ntmps76
  go_wp2_with (first | (go_at_call 118; refine (binary_calls _).mono ?_; rintro e w1 ⟨A, c, rfl, hc, hr, hb⟩; obtain ⟨hc1, hf1⟩ := gv_bcell hb) | (go_at_call 109; refine (has_calls _ _ _ _ (by assumption) (by assumption)).mono ?_; rintro e w2 ⟨rfl, ⟨n, rfl⟩⟩))
  have B0 : w1.heap[w.heap.size]? = some (.cells #[.bool false, .bool false, .int .i64 0, .int .i64 0, .int .i64 0, .string (⟨#[]⟩ : ByteArray)] 94 (0, 0)) := blk_below (blk_alloc (blk_new w _) _) hb
  refine bodyPost_ret (v := .tuple #[.agg #[.bool true, .bool true, .int .i64 1, .int .i64 3, .int .i64 1, .string (⟨#[108, 101, 97]⟩ : ByteArray)], .bool true]) ?_ rfl ⟨rfl, ?_⟩
  · refine (results_ct (p := 2) (u := 3) (ty := 94) rfl _ _ w.heap.size 94 #[.bool true, .bool true, .int .i64 1, .int .i64 3, .int .i64 1, .string (⟨#[108, 101, 97]⟩ : ByteArray)] (0, 0) _ rfl ?_ Try.underlying94 rfl (by kernel_rfl))
    with_reducible refine blk_put (cs := #[.bool true, .bool true, .int .i64 1, .int .i64 3, .int .i64 1, .string (⟨#[]⟩ : ByteArray)]) ?_ 5 _ rfl
    with_reducible refine blk_put (cs := #[.bool true, .bool true, .int .i64 1, .int .i64 3, .int .i64 0, .string (⟨#[]⟩ : ByteArray)]) ?_ 4 _ rfl
    with_reducible refine blk_put (cs := #[.bool true, .bool true, .int .i64 1, .int .i64 0, .int .i64 0, .string (⟨#[]⟩ : ByteArray)]) ?_ 3 _ rfl
    with_reducible refine blk_put (cs := #[.bool true, .bool true, .int .i64 0, .int .i64 0, .int .i64 0, .string (⟨#[]⟩ : ByteArray)]) ?_ 2 _ rfl
    with_reducible refine blk_put (cs := #[.bool true, .bool false, .int .i64 0, .int .i64 0, .int .i64 0, .string (⟨#[]⟩ : ByteArray)]) ?_ 1 _ rfl
    with_reducible refine blk_put (cs := #[.bool false, .bool false, .int .i64 0, .int .i64 0, .int .i64 0, .string (⟨#[]⟩ : ByteArray)]) ?_ 0 _ rfl
    repeat (with_reducible refine blk_far ?_ (by simp) _)
    with_reducible exact blk_drewN B0 _
  repeat (refine below_set ?_ (by omega))
  refine pw_below_drewN ?_ _
  exact below_then (((Below.refl _ _).alloc (Nat.le_refl _) _).alloc (by simp) _) (by simp; omega) hb
set_option maxHeartbeats 4000000 in
set_option maxRecDepth 100000 in
theorem formOf_none (a0 : ByteArray) (w : World) (h0 : (a0.toList == ([115, 101, 116] : List UInt8)) = false) (h1 : (a0.toList == ([109, 111, 118] : List UInt8)) = false) (h2 : (a0.toList == ([110, 111, 116] : List UInt8)) = false) (h3 : (a0.toList == ([110, 101, 103] : List UInt8)) = false) (h4 : (a0.toList == ([97, 100, 100, 105] : List UInt8)) = false) (h5 : (a0.toList == ([97, 110, 100, 105] : List UInt8)) = false) (h6 : (a0.toList == ([120, 111, 114, 105] : List UInt8)) = false) (h7 : (a0.toList == ([115, 104, 108, 105] : List UInt8)) = false) (h8 : (a0.toList == ([115, 104, 114, 105] : List UInt8)) = false) (h9 : (a0.toList == ([108, 101, 97] : List UInt8)) = false) (hB : isBin a0 = false) : Calls Try.prog 76 #[.string a0] w fun e w' => e = .returned (.tuple #[.agg #[.bool false, .bool false, .int .i64 0, .int .i64 0, .int .i64 0, .string (⟨#[]⟩ : ByteArray)], .bool false]) ∧ Below w.heap.size w w' := by
  have hu := Try.underlying94
  go_enter Try.func76, Try.ntmps76
  go_wp2_with (first | (go_at_call 118; refine (binary_calls _).mono ?_; rintro e w1 ⟨A, c, rfl, hc, hr, hb⟩; obtain ⟨hc1, hf1⟩ := gv_bcell hb) | (go_at_call 109; refine (has_calls _ _ _ _ (by assumption) (by assumption)).mono ?_; rintro e w2 ⟨rfl, ⟨n, rfl⟩⟩))
  have B0 : w1.heap[w.heap.size]? = some (.cells #[.bool false, .bool false, .int .i64 0, .int .i64 0, .int .i64 0, .string (⟨#[]⟩ : ByteArray)] 94 (0, 0)) := blk_below (blk_alloc (blk_new w _) _) hb
  refine bodyPost_ret (v := .tuple #[.agg #[.bool false, .bool false, .int .i64 0, .int .i64 0, .int .i64 0, .string (⟨#[]⟩ : ByteArray)], .bool false]) ?_ rfl ⟨rfl, ?_⟩
  · refine (results_ct (p := 2) (u := 3) (ty := 94) rfl _ _ w.heap.size 94 #[.bool false, .bool false, .int .i64 0, .int .i64 0, .int .i64 0, .string (⟨#[]⟩ : ByteArray)] (0, 0) _ rfl ?_ Try.underlying94 rfl (by kernel_rfl))
    with_reducible refine blk_put (cs := #[.bool false, .bool false, .int .i64 0, .int .i64 0, .int .i64 0, .string (⟨#[]⟩ : ByteArray)]) ?_ 5 _ rfl
    with_reducible refine blk_put (cs := #[.bool false, .bool false, .int .i64 0, .int .i64 0, .int .i64 0, .string (⟨#[]⟩ : ByteArray)]) ?_ 4 _ rfl
    with_reducible refine blk_put (cs := #[.bool false, .bool false, .int .i64 0, .int .i64 0, .int .i64 0, .string (⟨#[]⟩ : ByteArray)]) ?_ 3 _ rfl
    with_reducible refine blk_put (cs := #[.bool false, .bool false, .int .i64 0, .int .i64 0, .int .i64 0, .string (⟨#[]⟩ : ByteArray)]) ?_ 2 _ rfl
    with_reducible refine blk_put (cs := #[.bool false, .bool false, .int .i64 0, .int .i64 0, .int .i64 0, .string (⟨#[]⟩ : ByteArray)]) ?_ 1 _ rfl
    with_reducible refine blk_put (cs := #[.bool false, .bool false, .int .i64 0, .int .i64 0, .int .i64 0, .string (⟨#[]⟩ : ByteArray)]) ?_ 0 _ rfl
    repeat (with_reducible refine blk_far ?_ (by simp) _)
    with_reducible exact blk_drewN B0 _
  repeat (refine below_set ?_ (by omega))
  refine pw_below_drewN ?_ _
  exact below_then (((Below.refl _ _).alloc (Nat.le_refl _) _).alloc (by simp) _) (by simp; omega) hb
theorem impl_formOf.calls (a0 : ByteArray) (r1 : Bool) (r2 : Bool) (r3 : Int) (r4 : Int) (r5 : Int) (r6 : ByteArray) (r7 : Bool) (w : World) (h : impl_formOf.f a0 = some (r1, r2, r3, r4, r5, r6, r7)) :
    Calls Try.prog 76 #[.string a0] w fun e w' => e = .returned (.tuple #[.agg #[.bool r1, .bool r2, .int .i64 r3, .int .i64 r4, .int .i64 r5, .string r6], .bool r7]) ∧ Below w.heap.size w w' := by
  unfold impl_formOf.f at h
  by_cases c0 : a0.toList = ([115, 101, 116] : List UInt8)
  · rw [if_pos c0] at h
    simp only [Option.some.injEq, Prod.mk.injEq] at h
    obtain ⟨rfl, rfl, rfl, rfl, rfl, rfl, rfl⟩ := h
    obtain rfl := bytes_of (t := (⟨#[115, 101, 116]⟩ : ByteArray)) c0
    exact formOf_set w
  rw [if_neg c0] at h
  by_cases c1 : a0.toList = ([109, 111, 118] : List UInt8)
  · rw [if_pos c1] at h
    simp only [Option.some.injEq, Prod.mk.injEq] at h
    obtain ⟨rfl, rfl, rfl, rfl, rfl, rfl, rfl⟩ := h
    obtain rfl := bytes_of (t := (⟨#[109, 111, 118]⟩ : ByteArray)) c1
    exact formOf_mov w
  rw [if_neg c1] at h
  by_cases c2 : a0.toList = ([110, 111, 116] : List UInt8)
  · rw [if_pos c2] at h
    simp only [Option.some.injEq, Prod.mk.injEq] at h
    obtain ⟨rfl, rfl, rfl, rfl, rfl, rfl, rfl⟩ := h
    obtain rfl := bytes_of (t := (⟨#[110, 111, 116]⟩ : ByteArray)) c2
    exact formOf_not w
  rw [if_neg c2] at h
  by_cases c3 : a0.toList = ([110, 101, 103] : List UInt8)
  · rw [if_pos c3] at h
    simp only [Option.some.injEq, Prod.mk.injEq] at h
    obtain ⟨rfl, rfl, rfl, rfl, rfl, rfl, rfl⟩ := h
    obtain rfl := bytes_of (t := (⟨#[110, 101, 103]⟩ : ByteArray)) c3
    exact formOf_neg w
  rw [if_neg c3] at h
  by_cases c4 : a0.toList = ([97, 100, 100] : List UInt8)
  · rw [if_pos c4] at h
    simp only [Option.some.injEq, Prod.mk.injEq] at h
    obtain ⟨rfl, rfl, rfl, rfl, rfl, rfl, rfl⟩ := h
    obtain rfl := bytes_of (t := (⟨#[97, 100, 100]⟩ : ByteArray)) c4
    exact formOf_add w
  rw [if_neg c4] at h
  by_cases c5 : a0.toList = ([115, 117, 98] : List UInt8)
  · rw [if_pos c5] at h
    simp only [Option.some.injEq, Prod.mk.injEq] at h
    obtain ⟨rfl, rfl, rfl, rfl, rfl, rfl, rfl⟩ := h
    obtain rfl := bytes_of (t := (⟨#[115, 117, 98]⟩ : ByteArray)) c5
    exact formOf_sub w
  rw [if_neg c5] at h
  by_cases c6 : a0.toList = ([109, 117, 108] : List UInt8)
  · rw [if_pos c6] at h
    simp only [Option.some.injEq, Prod.mk.injEq] at h
    obtain ⟨rfl, rfl, rfl, rfl, rfl, rfl, rfl⟩ := h
    obtain rfl := bytes_of (t := (⟨#[109, 117, 108]⟩ : ByteArray)) c6
    exact formOf_mul w
  rw [if_neg c6] at h
  by_cases c7 : a0.toList = ([97, 110, 100] : List UInt8)
  · rw [if_pos c7] at h
    simp only [Option.some.injEq, Prod.mk.injEq] at h
    obtain ⟨rfl, rfl, rfl, rfl, rfl, rfl, rfl⟩ := h
    obtain rfl := bytes_of (t := (⟨#[97, 110, 100]⟩ : ByteArray)) c7
    exact formOf_and w
  rw [if_neg c7] at h
  by_cases c8 : a0.toList = ([111, 114] : List UInt8)
  · rw [if_pos c8] at h
    simp only [Option.some.injEq, Prod.mk.injEq] at h
    obtain ⟨rfl, rfl, rfl, rfl, rfl, rfl, rfl⟩ := h
    obtain rfl := bytes_of (t := (⟨#[111, 114]⟩ : ByteArray)) c8
    exact formOf_or w
  rw [if_neg c8] at h
  by_cases c9 : a0.toList = ([120, 111, 114] : List UInt8)
  · rw [if_pos c9] at h
    simp only [Option.some.injEq, Prod.mk.injEq] at h
    obtain ⟨rfl, rfl, rfl, rfl, rfl, rfl, rfl⟩ := h
    obtain rfl := bytes_of (t := (⟨#[120, 111, 114]⟩ : ByteArray)) c9
    exact formOf_xor w
  rw [if_neg c9] at h
  by_cases c10 : a0.toList = ([115, 104, 108] : List UInt8)
  · rw [if_pos c10] at h
    simp only [Option.some.injEq, Prod.mk.injEq] at h
    obtain ⟨rfl, rfl, rfl, rfl, rfl, rfl, rfl⟩ := h
    obtain rfl := bytes_of (t := (⟨#[115, 104, 108]⟩ : ByteArray)) c10
    exact formOf_shl w
  rw [if_neg c10] at h
  by_cases c11 : a0.toList = ([115, 104, 114] : List UInt8)
  · rw [if_pos c11] at h
    simp only [Option.some.injEq, Prod.mk.injEq] at h
    obtain ⟨rfl, rfl, rfl, rfl, rfl, rfl, rfl⟩ := h
    obtain rfl := bytes_of (t := (⟨#[115, 104, 114]⟩ : ByteArray)) c11
    exact formOf_shr w
  rw [if_neg c11] at h
  by_cases c12 : a0.toList = ([108, 101, 115, 115] : List UInt8)
  · rw [if_pos c12] at h
    simp only [Option.some.injEq, Prod.mk.injEq] at h
    obtain ⟨rfl, rfl, rfl, rfl, rfl, rfl, rfl⟩ := h
    obtain rfl := bytes_of (t := (⟨#[108, 101, 115, 115]⟩ : ByteArray)) c12
    exact formOf_less w
  rw [if_neg c12] at h
  by_cases c13 : a0.toList = ([101, 113] : List UInt8)
  · rw [if_pos c13] at h
    simp only [Option.some.injEq, Prod.mk.injEq] at h
    obtain ⟨rfl, rfl, rfl, rfl, rfl, rfl, rfl⟩ := h
    obtain rfl := bytes_of (t := (⟨#[101, 113]⟩ : ByteArray)) c13
    exact formOf_eq w
  rw [if_neg c13] at h
  by_cases c14 : a0.toList = ([97, 100, 100, 105] : List UInt8)
  · rw [if_pos c14] at h
    simp only [Option.some.injEq, Prod.mk.injEq] at h
    obtain ⟨rfl, rfl, rfl, rfl, rfl, rfl, rfl⟩ := h
    obtain rfl := bytes_of (t := (⟨#[97, 100, 100, 105]⟩ : ByteArray)) c14
    exact formOf_addi w
  rw [if_neg c14] at h
  by_cases c15 : a0.toList = ([97, 110, 100, 105] : List UInt8)
  · rw [if_pos c15] at h
    simp only [Option.some.injEq, Prod.mk.injEq] at h
    obtain ⟨rfl, rfl, rfl, rfl, rfl, rfl, rfl⟩ := h
    obtain rfl := bytes_of (t := (⟨#[97, 110, 100, 105]⟩ : ByteArray)) c15
    exact formOf_andi w
  rw [if_neg c15] at h
  by_cases c16 : a0.toList = ([120, 111, 114, 105] : List UInt8)
  · rw [if_pos c16] at h
    simp only [Option.some.injEq, Prod.mk.injEq] at h
    obtain ⟨rfl, rfl, rfl, rfl, rfl, rfl, rfl⟩ := h
    obtain rfl := bytes_of (t := (⟨#[120, 111, 114, 105]⟩ : ByteArray)) c16
    exact formOf_xori w
  rw [if_neg c16] at h
  by_cases c17 : a0.toList = ([115, 104, 108, 105] : List UInt8)
  · rw [if_pos c17] at h
    simp only [Option.some.injEq, Prod.mk.injEq] at h
    obtain ⟨rfl, rfl, rfl, rfl, rfl, rfl, rfl⟩ := h
    obtain rfl := bytes_of (t := (⟨#[115, 104, 108, 105]⟩ : ByteArray)) c17
    exact formOf_shli w
  rw [if_neg c17] at h
  by_cases c18 : a0.toList = ([115, 104, 114, 105] : List UInt8)
  · rw [if_pos c18] at h
    simp only [Option.some.injEq, Prod.mk.injEq] at h
    obtain ⟨rfl, rfl, rfl, rfl, rfl, rfl, rfl⟩ := h
    obtain rfl := bytes_of (t := (⟨#[115, 104, 114, 105]⟩ : ByteArray)) c18
    exact formOf_shri w
  rw [if_neg c18] at h
  by_cases c19 : a0.toList = ([108, 101, 97] : List UInt8)
  · rw [if_pos c19] at h
    simp only [Option.some.injEq, Prod.mk.injEq] at h
    obtain ⟨rfl, rfl, rfl, rfl, rfl, rfl, rfl⟩ := h
    obtain rfl := bytes_of (t := (⟨#[108, 101, 97]⟩ : ByteArray)) c19
    exact formOf_lea w
  rw [if_neg c19] at h
  simp only [Option.some.injEq, Prod.mk.injEq] at h
  obtain ⟨rfl, rfl, rfl, rfl, rfl, rfl, rfl⟩ := h
  exact formOf_none a0 w (beq_eq_false_iff_ne.mpr c0) (beq_eq_false_iff_ne.mpr c1) (beq_eq_false_iff_ne.mpr c2) (beq_eq_false_iff_ne.mpr c3) (beq_eq_false_iff_ne.mpr c14) (beq_eq_false_iff_ne.mpr c15) (beq_eq_false_iff_ne.mpr c16) (beq_eq_false_iff_ne.mpr c17) (beq_eq_false_iff_ne.mpr c18) (beq_eq_false_iff_ne.mpr c19) (by
    unfold isBin binL
    simp only [List.any_cons, List.any_nil, Bool.or_false, Bool.or_eq_false_iff, beq_eq_false_iff_ne, ByteArray.toList_eq] at *
    exact ⟨c4, c5, c6, c7, c8, c9, c10, c11, c12, c13⟩)

end Go.Proofs.Ytefipbekabmncaa.Pa
