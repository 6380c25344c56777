-- Made by this session's program gen.py over the translation.
import Derived.Test.YtlmegefdnkjcbaaPa0
import Derived.Test.YtlmegefdnkjcbaaPa1
import Derived.Test.YtlmegefdnkjcbaaPa3
import Derived.Test.YtlmegefdnkjcbaaPa4
import Derived.Test.YtlmegefdnkjcbaaPa5
import Derived.Test.YtlmegefdnkjcbaaPa9
import Derived.Test.YtlmegefdnkjcbaaPa11
namespace Go.Proofs.Ytlmegefdnkjcbaa.Pa
open Go.RowKit Go.Proofs.YtlmegefdnkjcbaaW.PrintWords Go.Proofs.YtlmegefdnkjcbaaW.PrintLast Go.Proofs.YtlmegefdnkjcbaaW.PrintMore
attribute [local go_sem] max2_int min2_int max_two min_two max_three min_three max_four min_four   -- for this text's walks alone
set_option linter.unusedVariables false
set_option linter.unusedSimpArgs false
set_option maxHeartbeats 8000000
set_option maxRecDepth 100000

/-! ### spec_cvCounts: function 72 -/
mutual
def spec_cvCounts.l0 : Nat → List (S54) → List Int → Int → Int → Option (List Int)
 | 0, _, _, _, _ => none
 | k + 1, x0, x3, x17, x18 => if x18 < x17 then ((spec_cvTiles.f k x0 x18).bind fun t1359 => (spec_cvCounts.l1 k x0 x3 x18 x17 x18 t1359 (t1359.length : Int) 0)) else (some x3)
def spec_cvCounts.l1 : Nat → List (S54) → List Int → Int → Int → Int → List Int → Int → Int → Option (List Int)
 | 0, _, _, _, _, _, _, _, _ => none
 | k + 1, x0, x3, x4, x17, x18, x23, x24, x25 => if x25 < x24 then (if 0 ≤ x25 then (if x25 < (x23.length : Int) then ((spec_cvTile.f k x0 x4 (rd x23 x25)).bind fun bt1363 => (spec_cvCounts.l2 k x0 x3 x4 1 x17 x18 x23 x24 x25 bt1363.1 (bt1363.1.length : Int) 0)) else (none)) else (none)) else (spec_cvCounts.l0 k x0 x3 x17 (wrap64 (x18 + 1)))
def spec_cvCounts.l2 : Nat → List (S54) → List Int → Int → Int → Int → Int → List Int → Int → Int → List Int → Int → Int → Option (List Int)
 | 0, _, _, _, _, _, _, _, _, _, _, _, _ => none
 | k + 1, x0, x3, x4, x7, x17, x18, x23, x24, x25, x37, x38, x39 => if x39 < x38 then (if 0 ≤ x39 then (if x39 < (x37.length : Int) then (if 0 ≤ (rd x37 x39) then (if (rd x37 x39) < (x3.length : Int) then (spec_cvCounts.l2 k x0 x3 x4 (wrap64 (x7 * (rd x3 (rd x37 x39)))) x17 x18 x23 x24 x25 x37 x38 (wrap64 (x39 + 1))) else (none)) else (none)) else (none)) else (none)) else (if 0 ≤ x4 then (if x4 < (x3.length : Int) then (spec_cvCounts.l1 k x0 (x3.set (x4 : Int).toNat (wrap64 ((rd x3 x4) + x7))) x4 x17 x18 x23 x24 (wrap64 (x25 + 1))) else (none)) else (none))
end
def spec_cvCounts.f (k : Nat) (l0 : List (S54)) : Option (List Int) := if 0 ≤ (l0.length : Int) then (if ((l0.length : Int) : Int).toNat ≤ 35184372088832 then (spec_cvCounts.l0 k l0 (List.replicate ((l0.length : Int) : Int).toNat 0) (l0.length : Int) 0) else (none)) else (none)
theorem spec_cvCounts.calls (k : Nat) (A0 : Option Addr) (c0 : Nat) (l0 : List (S54)) (r : List Int) (w : World) (hr0 : Kd.C k54 w A0 l0.length l0) (hc0 : l0.length ≤ c0) (h : spec_cvCounts.f k l0 = some r) :
  Calls Try.prog 72 #[.slice A0 l0.length c0] w fun e w' => ∃ v0_ : Value, e = .returned (v0_) ∧ Kd.R (Kd.int .i64) 3 w' w.heap.size (fun _ => True) v0_ r ∧ Below w.heap.size w w' := by
 have HR0 := Aside0.mk hr0
 have HC0 := Aside0.mk hc0
 clear hr0 hc0
 have HB := Aside0.mk (Below.refl w.heap.size w)
 have H := h
 clear h
 unfold spec_cvCounts.f at H
 obtain ⟨c2, H⟩ := ifs H
 have c2b0 := eq_true c2
 have c2b1 := decide_eq_true c2
 clear c2
 obtain ⟨c3, H⟩ := ifs H
 have c3b0 := eq_true c3
 have c3b1 := decide_eq_true c3
 clear c3
 obtain ⟨y1356, hy1356⟩ : ∃ y_ : List Int, y_ = (List.replicate ((l0.length : Int) : Int).toNat 0) := ⟨_, rfl⟩
 replace H : (spec_cvCounts.l0 k l0 y1356 (l0.length : Int) 0) = some r := by first | (rw [hy1356]; with_reducible exact H) | (have H2_ := (Option.bind_some _ _).symm.trans H; rw [hy1356]; with_reducible exact H2_) | (have H2_ := (Option.bind_some _ _).symm.trans H; with_reducible exact H2_) | with_reducible exact H | (rw [hy1356]; exact H) | exact H
 have Ny1356 := Aside0.mk hy1356
 clear hy1356
 have H' := Aside0.mk H
 clear H
 go_enter Try.func72, Try.ntmps72
 go_wp2_with (first | ((with_reducible refine gate_dst (N := 15) rfl ?_); refine Kd.R_make (Kd.int .i64) _ 3 rfl (N := 15) rfl 30 _ _ rfl (l0.length : Int) rfl rfl Try.underlying30 (.int .i64 0) 8 info3 rfl (by decide) (by omega) 0 (ok := fun _ => True) (okp := fun _ => True) rfl (fun _ hk => hk) trivial DT (Nat.le_trans (Nat.mul_le_mul_right _ (DT : (l0.length : Int).toNat ≤ 35184372088832)) (by omega)) (Below.refl _ _) (Nat.le_refl _) ?_; intro v1357 w4 ho5 hb hg_ hnew_; clear hg_ hnew_; (first | rw [← Ny1356.out] at ho5 | (simp only [Int.reduceToNat] at ho5; rw [← Ny1356.out] at ho5)); have HO1358 := Aside0.mk (Kd.R_lower ho5 (below_size BA)); replace HB := bs hb; clear hb ho5))
 go_loopg [18] k (fun kq v18 w' => ∃ (x3_1 : List Int) (x18_1 : Int), v18 = .int .i64 x18_1 ∧ Aside0 (spec_cvCounts.l0 kq l0 x3_1 (l0.length : Int) x18_1 = some r) ∧ Aside0 (kq ≤ k) ∧ Aside0 (Kd.R (Kd.int .i64) 3 w' w.heap.size (fun _ => True) v1357 x3_1) ∧ Aside0 (Below w.heap.size w w'))
 case atStart => exact ⟨(y1356), (0), EQ1, H', ⟨Nat.le_refl _⟩, ⟨rb HO1358.out⟩, ⟨BA⟩⟩
 case round =>
  clear H'
  (try clear c2b0); (try clear c2b1); (try clear c3b0); (try clear c3b1)
  obtain ⟨x3_1, x18_1, rfl, HA, HK1, HO_3, HB⟩ := hrel
  cases gk with
  | zero => exact absurd HA.out (by simp [spec_cvCounts.l0])
  | succ k1 =>
   have H := HA.out
   clear HA
   simp only [spec_cvCounts.l0] at H
   by_cases c6 : x18_1 < (l0.length : Int)
   ·rw [if_pos c6] at H
    have c6b0 := decide_eq_true c6
    clear c6
    obtain ⟨t1359, A7, H⟩ := ob H
    (try dsimp only at H)
    have H' := Aside0.mk H
    clear H
    go_wp2_with (first | ((with_reducible refine gate_callee (f := 57) rfl ?_); refine gK (some 23) Try.func57 #[.slice A0 l0.length c0, .int .i64 x18_1] rfl rfl rfl ?_; (with_reducible refine (spec_cvTiles.calls k1 _ _ l0 x18_1 t1359 _ ?side1 ?side2 A7.out).mono ?_); (case side1 => exact cb (Kd.C_below HR0.out HB.out)); (case side2 => exact HC0.out); rintro e w8 ⟨v1360, rfl, ho0, hb⟩; refine ⟨_, rfl, ?_⟩; have HO1361 := Aside0.mk (Kd.R_lower (Kd.R_new' ho0 (Kd.R_lt (rb HO_3.out))) (below_size BA)); replace HO_3 := Aside0.mk (Kd.R_elder' (rb HO_3.out) (Kd.R_base ho0) hb); replace HB := bs hb; (try clear hb); (try clear ho0); obtain ⟨Ao9, co9, eo9⟩ := Kd.R_slice HO1361.out; subst eo9))
    go_loopg [25] k1 (fun kq v25 w' => ∃ (x3_2 : List Int) (x25_2 : Int), v25 = .int .i64 x25_2 ∧ Aside0 (spec_cvCounts.l1 kq l0 x3_2 x18_1 (l0.length : Int) x18_1 t1359 (t1359.length : Int) x25_2 = some r) ∧ Aside0 (kq ≤ k1) ∧ Aside0 (Kd.R (Kd.int .i64) 3 w' w.heap.size (fun k_ => some k_ ≠ ((.slice Ao9 t1359.length co9) : Value).ownBlock) v1357 x3_2) ∧ Aside0 (Kd.R (Kd.int .i64) 3 w' w.heap.size (fun k_ => some k_ ≠ (v1357 : Value).ownBlock) (.slice Ao9 t1359.length co9) t1359) ∧ Aside0 (Below w.heap.size w w'))
    case atStart => exact ⟨(x3_1), (0), EQ1, H', ⟨Nat.le_refl _⟩, ⟨rb (Kd.R_mono HO_3.out (fun _ hk => hk.2))⟩, ⟨rb (Kd.R_mono HO1361.out (fun _ hk => hk.2))⟩, ⟨BA⟩⟩
    case round =>
     clear H'
     (try clear c2b0); (try clear c2b1); (try clear c3b0); (try clear c3b1); (try clear c6b0)
     obtain ⟨x3_2, x25_2, rfl, HA, HK2, HO_3, HO_23, HB⟩ := hrel
     cases gk with
     | zero => exact absurd HA.out (by simp [spec_cvCounts.l1])
     | succ k2 =>
      have H := HA.out
      clear HA
      simp only [spec_cvCounts.l1] at H
      by_cases c10 : x25_2 < (t1359.length : Int)
      ·rw [if_pos c10] at H
       have c10b0 := decide_eq_true c10
       clear c10
       obtain ⟨c11, H⟩ := ifs H
       have c11b0 := decide_eq_true c11
       clear c11
       obtain ⟨c12, H⟩ := ifs H
       have c12b0 := decide_eq_true c12
       clear c12
       replace H := Option.bind_eq_some_iff.mp H
       obtain ⟨⟨t1363, t1364, t1365⟩, A130, H⟩ := H
       (try dsimp only at H)
       have A13 := Aside0.mk A130
       clear A130
       have H' := Aside0.mk H
       clear H
       have p1362 : 0 ≤ (x25_2 : Int) := DT
       have q1362 : x25_2 < (t1359.length : Int) := DT
       obtain ⟨ad1362, e1362, hx1362_0⟩ := Kd.at_int (Kd.R_reads' HO_23.out).2.2 x25_2 p1362 q1362
       cases e1362
       replace p1362 := eq_true p1362
       replace q1362 := eq_true q1362
       go_wp2_with (first | ((with_reducible refine gate_callee (f := 53) rfl ?_); refine gK (some 33) Try.func53 #[.slice A0 l0.length c0, .int .i64 x18_1, .int .i64 (rd t1359 x25_2)] rfl rfl rfl ?_; (with_reducible refine (spec_cvTile.calls k2 _ _ l0 x18_1 (rd t1359 x25_2) t1363 t1364 t1365 _ ?side1 ?side2 A13.out).mono ?_); (case side1 => exact cb (Kd.C_below HR0.out HB.out)); (case side2 => exact HC0.out); rintro e w14 ⟨v1366, v1368, rfl, ho0, ho1, hb⟩; refine ⟨_, rfl, ?_⟩; have HO1367 := Aside0.mk (Kd.R_lower (Kd.R_new' (Kd.R_new' ho0 (Kd.R_lt (rb HO_3.out))) (Kd.R_lt (rb HO_23.out))) (below_size BA)); have HO1369 := Aside0.mk (Kd.R_lower (Kd.R_new' (Kd.R_new' ho1 (Kd.R_lt (rb HO_3.out))) (Kd.R_lt (rb HO_23.out))) (below_size BA)); replace HO_3 := Aside0.mk (Kd.R_mono (Kd.R_told (Kd.R_told (Kd.R_old (rb HO_3.out) hb) (Kd.R_base ho0)) (Kd.R_base ho1)) (fun _ h_ => h_.1)); replace HO_23 := Aside0.mk (Kd.R_mono (Kd.R_told (Kd.R_told (Kd.R_old (rb HO_23.out) hb) (Kd.R_base ho0)) (Kd.R_base ho1)) (fun _ h_ => h_.1)); replace HB := bs hb; (try clear hb); (try clear ho0); (try clear ho1); obtain ⟨Ao15, co15, eo15⟩ := Kd.R_slice HO1367.out; subst eo15))
       go_loopg [7, 39] k2 (fun kq v7 v39 w' => ∃ (x7_3 : Int) (x39_3 : Int), v7 = .int .i64 x7_3 ∧ v39 = .int .i64 x39_3 ∧ Aside0 (spec_cvCounts.l2 kq l0 x3_2 x18_1 x7_3 (l0.length : Int) x18_1 t1359 (t1359.length : Int) x25_2 t1363 (t1363.length : Int) x39_3 = some r) ∧ Aside0 (kq ≤ k2) ∧ Aside0 (Kd.R (Kd.int .i64) 3 w' w.heap.size (fun k_ => some k_ ≠ ((.slice (some ad1362) t1359.length co9) : Value).ownBlock ∧ some k_ ≠ ((.slice Ao15 t1363.length co15) : Value).ownBlock) v1357 x3_2) ∧ Aside0 (Kd.R (Kd.int .i64) 3 w' w.heap.size (fun k_ => some k_ ≠ (v1357 : Value).ownBlock ∧ some k_ ≠ ((.slice Ao15 t1363.length co15) : Value).ownBlock) (.slice (some ad1362) t1359.length co9) t1359) ∧ Aside0 (Kd.R (Kd.int .i64) 3 w' w.heap.size (fun k_ => some k_ ≠ (v1357 : Value).ownBlock ∧ some k_ ≠ ((.slice (some ad1362) t1359.length co9) : Value).ownBlock) (.slice Ao15 t1363.length co15) t1363) ∧ Aside0 (Below w.heap.size w w'))
       case atStart => exact ⟨(1), (0), EQ1, EQ1, H', ⟨Nat.le_refl _⟩, ⟨rb (Kd.R_mono HO_3.out (fun _ hk => ⟨hk.1.1, hk.1.2⟩))⟩, ⟨rb (Kd.R_mono HO_23.out (fun _ hk => ⟨hk.1.1, hk.1.2⟩))⟩, ⟨rb (Kd.R_mono HO1367.out (fun _ hk => ⟨hk.1.2, hk.2⟩))⟩, ⟨BA⟩⟩
       case round =>
        clear H'
        (try clear c2b0); (try clear c2b1); (try clear c3b0); (try clear c3b1); (try clear c6b0); (try clear c10b0); (try clear c11b0); (try clear c12b0); (try clear hx1362_0); (try clear p1362); (try clear q1362)
        obtain ⟨x7_3, x39_3, rfl, rfl, HA, HK3, HO_3, HO_23, HO_37, HB⟩ := hrel
        cases gk with
        | zero => exact absurd HA.out (by simp [spec_cvCounts.l2])
        | succ k3 =>
         have H := HA.out
         clear HA
         simp only [spec_cvCounts.l2] at H
         by_cases c16 : x39_3 < (t1363.length : Int)
         ·rw [if_pos c16] at H
          have c16b0 := decide_eq_true c16
          clear c16
          obtain ⟨c17, H⟩ := ifs H
          have c17b0 := decide_eq_true c17
          clear c17
          obtain ⟨c18, H⟩ := ifs H
          have c18b0 := decide_eq_true c18
          clear c18
          obtain ⟨c19, H⟩ := ifs H
          have c19b0 := decide_eq_true c19
          clear c19
          obtain ⟨c20, H⟩ := ifs H
          have c20b0 := decide_eq_true c20
          clear c20
          have H' := Aside0.mk H
          clear H
          have p1370 : 0 ≤ (x39_3 : Int) := DT
          have q1370 : x39_3 < (t1363.length : Int) := DT
          obtain ⟨ad1370, e1370, hx1370_0⟩ := Kd.at_int (Kd.R_reads' HO_37.out).2.2 x39_3 p1370 q1370
          cases e1370
          replace p1370 := eq_true p1370
          replace q1370 := eq_true q1370
          obtain ⟨Ao21, co21, eo21⟩ := Kd.R_slice HO_3.out
          subst eo21
          have p1371 : 0 ≤ ((rd t1363 x39_3) : Int) := DT
          have q1371 : (rd t1363 x39_3) < (x3_2.length : Int) := DT
          obtain ⟨ad1371, e1371, hx1371_0⟩ := Kd.at_int (Kd.R_reads' HO_3.out).2.2 (rd t1363 x39_3) p1371 q1371
          cases e1371
          replace p1371 := eq_true p1371
          replace q1371 := eq_true q1371
          go_wp2
          go_roundg k3
          case measure => have := HK1.out; have := HK2.out; have := HK3.out; omega
          case rel => exact ⟨(wrap64 (x7_3 * (rd x3_2 (rd t1363 x39_3)))), (wrap64 (x39_3 + 1)), EQ1, EQ1, H', ⟨by have := HK1.out; have := HK2.out; have := HK3.out; omega⟩, ⟨rb HO_3.out⟩, ⟨rb HO_23.out⟩, ⟨rb HO_37.out⟩, ⟨BA⟩⟩
         ·rw [if_neg c16] at H
          have c16b0 := decide_eq_false c16
          clear c16
          obtain ⟨c22, H⟩ := ifs H
          have c22b0 := decide_eq_true c22
          clear c22
          obtain ⟨c23, H⟩ := ifs H
          have c23b0 := decide_eq_true c23
          clear c23
          obtain ⟨y1373, hy1373⟩ : ∃ y_ : List Int, y_ = (x3_2.set (x18_1 : Int).toNat (wrap64 ((rd x3_2 x18_1) + x7_3))) := ⟨_, rfl⟩
          replace H : (spec_cvCounts.l1 k3 l0 y1373 x18_1 (l0.length : Int) x18_1 t1359 (t1359.length : Int) (wrap64 (x25_2 + 1))) = some r := by first | (rw [hy1373]; with_reducible exact H) | (have H2_ := (Option.bind_some _ _).symm.trans H; rw [hy1373]; with_reducible exact H2_) | (have H2_ := (Option.bind_some _ _).symm.trans H; with_reducible exact H2_) | with_reducible exact H | (rw [hy1373]; exact H) | exact H
          have Ny1373 := Aside0.mk hy1373
          clear hy1373
          have H' := Aside0.mk H
          clear H
          obtain ⟨Ao25, co25, eo25⟩ := Kd.R_slice HO_3.out
          subst eo25
          have p1372 : 0 ≤ (x18_1 : Int) := DT
          have q1372 : x18_1 < (x3_2.length : Int) := DT
          obtain ⟨ad1372, e1372, hx1372_0⟩ := Kd.at_int (Kd.R_reads' HO_3.out).2.2 x18_1 p1372 q1372
          cases e1372
          replace p1372 := eq_true p1372
          replace q1372 := eq_true q1372
          have p24 : 0 ≤ (x18_1 : Int) := DT
          have q24 : (x18_1 : Int) < ((x3_2.length : Int) : Int) := DT
          obtain ⟨go24, co24, eo24, gb24, gl24, cl24, HG24⟩ := Kd.R_form HO_3.out (by omega)
          (first | cases eo24 | (injection eo24 with ea_ en_ ec_; (first | subst ea_ | (injection ea_ with ea_; subst ea_)); subst ec_; clear en_))
          have GB24 := Aside0.mk gb24
          have GG24 := Aside0.mk HG24
          clear gb24 gl24 HG24
          (first | simp only [add_plain] at hx1372_0 | skip)
          obtain ⟨hx24_0, hf24_0⟩ := Kd.R_celln 0 HO_3.out (x18_1 : Int) p24 q24
          replace p24 := eq_true p24
          replace q24 := eq_true q24
          have HP26 := Kd.R_putg HO_3.out (x18_1 : Int) (wrap64 ((rd x3_2 x18_1) + x7_3))
          go_wp2_with (first | ((with_reducible refine gate_store (t := 3) (p := 56) rfl ?_); refine store_event (t := 3) (p := 56) (v := ?vo_w27) (w1 := (wr.setCell ⟨go24, (x18_1 : Int).toNat, none⟩ (.int .i64 (wrap64 ((rd x3_2 x18_1) + x7_3))))) ?hg ?ho ?hn ?hr ?_; (case ho => rfl); (case hg => rfl); (case hn => rfl); (case hr => first | (go_simp; done) | (go_simp; rfl)); intro w27 hw; have hg : wr.grownBy w27 (some go24) := (by rw [hw]; exact HP26.2); have hp_ : Kd.R (Kd.int .i64) 3 w27 w.heap.size (fun k_ => some k_ ≠ (.slice (some ad1362) t1359.length co9 : Value).ownBlock ∧ some k_ ≠ (.slice Ao15 t1363.length co15 : Value).ownBlock) (.slice (some ⟨go24, 0, none⟩) x3_2.length co25) y1373 := (by rw [hw, Ny1373.out]; exact HP26.1); clear HP26; replace HO_3 := Aside0.mk (hp_); replace HO_23 := Aside0.mk (Kd.R_after (v := (.slice (some ⟨go24, 0, none⟩) x3_2.length co25)) (v1 := (.slice (some ⟨go24, 0, none⟩) x3_2.length co25)) (ok := (fun k_ => some k_ ≠ (.slice Ao15 t1363.length co15 : Value).ownBlock)) (rb (Kd.R_mono HO_23.out (fun _ hk => ⟨hk.2, hk.1⟩))) hg (.inl rfl)); replace HO_37 := Aside0.mk (Kd.R_after (v := (.slice (some ⟨go24, 0, none⟩) x3_2.length co25)) (v1 := (.slice (some ⟨go24, 0, none⟩) x3_2.length co25)) (ok := (fun k_ => some k_ ≠ (.slice (some ad1362) t1359.length co9 : Value).ownBlock)) (rb (Kd.R_mono HO_37.out (fun _ hk => ⟨hk.2, hk.1⟩))) hg (.inl rfl)); replace HB := Aside0.mk ((by rw [hw]; exact below_set (HB.out) GB24.out : Below w.heap.size w w27)); clear hg hw hp_))
          go_roundg k3
          case measure => have := HK1.out; have := HK2.out; have := HK3.out; omega
          case rel => exact ⟨(y1373), (wrap64 (x25_2 + 1)), EQ1, H', ⟨by have := HK1.out; have := HK2.out; have := HK3.out; omega⟩, ⟨rb (Kd.R_mono HO_3.out (fun _ hk => hk.1))⟩, ⟨rb (Kd.R_mono HO_23.out (fun _ hk => hk.2))⟩, ⟨BA⟩⟩
      ·rw [if_neg c10] at H
       have c10b0 := decide_eq_false c10
       clear c10
       have H' := Aside0.mk H
       clear H
       go_wp2
       go_roundg k2
       case measure => have := HK1.out; have := HK2.out; omega
       case rel => exact ⟨(x3_2), (wrap64 (x18_1 + 1)), EQ1, H', ⟨by have := HK1.out; have := HK2.out; omega⟩, ⟨rb (Kd.R_mono HO_3.out (fun _ hk => trivial))⟩, ⟨BA⟩⟩
   ·rw [if_neg c6] at H
    have c6b0 := decide_eq_false c6
    clear c6
    obtain rfl := Option.some.inj H
    go_wp2
    go_ret
    exact ⟨_, EQ, rb HO_3.out, BA⟩

/-! ### spec_CountCovers: function 41 -/
def spec_CountCovers.f (k : Nat) (l0 : List (S54)) : Option (Int × Bool) := (spec_cvTree.f k l0).bind fun t1374 => (if t1374 = true then ((spec_cvCounts.f k l0).bind fun t1375 => (if 0 ≤ (wrap64 ((l0.length : Int) - 1)) then (if (wrap64 ((l0.length : Int) - 1)) < (t1375.length : Int) then (some (rd t1375 (wrap64 ((l0.length : Int) - 1)), true)) else (none)) else (none))) else (some (0, false)))
theorem spec_CountCovers.calls (k : Nat) (A0 : Option Addr) (c0 : Nat) (l0 : List (S54)) (r1 : Int) (r2 : Bool) (w : World) (hr0 : Kd.C k54 w A0 l0.length l0) (hc0 : l0.length ≤ c0) (h : spec_CountCovers.f k l0 = some (r1, r2)) :
  Calls Try.prog 41 #[.slice A0 l0.length c0] w fun e w' => e = .returned (.tuple #[.int .i64 r1, .bool r2]) ∧ Below w.heap.size w w' := by
 have HR0 := Aside0.mk hr0
 have HC0 := Aside0.mk hc0
 clear hr0 hc0
 have HB := Aside0.mk (Below.refl w.heap.size w)
 have H := h
 clear h
 unfold spec_CountCovers.f at H
 obtain ⟨t1374, A2, H⟩ := ob H
 (try dsimp only at H)
 by_cases c3 : t1374 = true
 ·subst c3
  rw [if_pos rfl] at H
  obtain ⟨t1375, A4, H⟩ := ob H
  (try dsimp only at H)
  obtain ⟨ji5, hji5⟩ : ∃ j_ : Int, (wrap64 ((l0.length : Int) - 1)) = j_ := ⟨_, rfl⟩
  replace H : (if 0 ≤ (ji5) then (if (ji5) < (t1375.length : Int) then (some (rd t1375 (ji5), true)) else (none)) else (none)) = some (r1, r2) := by first | (rw [hji5] at H; exact H) | (simp only [hji5] at H ⊢; exact H)
  (try rw [hji5] at A2)
  (try rw [hji5] at A4)
  have hji5w : (IntKind.i64.wrap ((l0.length : Int) - 1)) = ji5 := (i64_w _).trans hji5
  obtain ⟨c6, H⟩ := ifs H
  have c6b0 := decide_eq_true c6
  clear c6
  obtain ⟨c7, H⟩ := ifs H
  have c7b0 := decide_eq_true c7
  clear c7
  simp only [Option.some.injEq, Prod.mk.injEq] at H
  obtain ⟨rfl, rfl⟩ := H
  go_enter Try.func41, Try.ntmps41
  go_wp2_with (first | ((with_reducible refine gate_callee (f := 55) rfl ?_); refine gK (some 5) Try.func55 #[.slice A0 l0.length c0] rfl rfl rfl ?_; (with_reducible refine (spec_cvTree.calls k _ _ l0 true _ ?side1 ?side2 A2.out).mono ?_); (case side1 => exact cb HR0.out); (case side2 => exact HC0.out); rintro e w8 ⟨rfl, hb⟩; refine ⟨_, rfl, ?_⟩; replace HB := bs hb; (try clear hb)) | ((with_reducible refine gate_callee (f := 72) rfl ?_); refine gK (some 8) Try.func72 #[.slice A0 l0.length c0] rfl rfl rfl ?_; (with_reducible refine (spec_cvCounts.calls k _ _ l0 t1375 _ ?side1 ?side2 A4.out).mono ?_); (case side1 => exact cb (Kd.C_below HR0.out HB.out)); (case side2 => exact HC0.out); rintro e w9 ⟨v1376, rfl, ho0, hb⟩; refine ⟨_, rfl, ?_⟩; have HO1377 := Aside0.mk (Kd.R_lower ho0 (below_size BA)); replace HB := bs hb; (try clear hb); (try clear ho0); obtain ⟨Ao10, co10, eo10⟩ := Kd.R_slice HO1377.out; subst eo10; have p1378 : 0 ≤ ((ji5) : Int) := DT; have q1378 : (ji5) < (t1375.length : Int) := DT; obtain ⟨ad1378, e1378, hx1378_0⟩ := Kd.at_int (Kd.R_reads' HO1377.out).2.2 (ji5) p1378 q1378; cases e1378; replace p1378 := eq_true p1378; replace q1378 := eq_true q1378))
  go_ret2
  exact ⟨by first | rfl | (simp [errW_none, errW_some] <;> rfl) | (simp only [← hji5]; first | rfl | (simp [errW_none, errW_some] <;> rfl)) | (simp [*, errW_none, errW_some] <;> rfl), BA⟩
 ·replace c3 := Bool.eq_false_iff.mpr c3
  subst c3
  rw [if_neg (show ¬ (false = true) by decide)] at H
  simp only [Option.some.injEq, Prod.mk.injEq] at H
  obtain ⟨rfl, rfl⟩ := H
  go_enter Try.func41, Try.ntmps41
  go_wp2_with (first | ((with_reducible refine gate_callee (f := 55) rfl ?_); refine gK (some 5) Try.func55 #[.slice A0 l0.length c0] rfl rfl rfl ?_; (with_reducible refine (spec_cvTree.calls k _ _ l0 false _ ?side1 ?side2 A2.out).mono ?_); (case side1 => exact cb HR0.out); (case side2 => exact HC0.out); rintro e w11 ⟨rfl, hb⟩; refine ⟨_, rfl, ?_⟩; replace HB := bs hb; (try clear hb)))
  go_ret2
  exact ⟨EQ, BA⟩

/-! ### impl_countCovers: function 73 -/
mutual
def impl_countCovers.l0 : Nat → List (S54) → List Int → Int → Int → Option (Int)
 | 0, _, _, _, _ => none
 | k + 1, x0, x3, x16, x17 => if x17 < x16 then ((impl_tilesAt.f k x0 x17).bind fun t1383 => (impl_countCovers.l1 k x0 x3 x17 x16 x17 t1383 (t1383.length : Int) 0)) else (if 0 ≤ (wrap64 ((x0.length : Int) - 1)) then (if (wrap64 ((x0.length : Int) - 1)) < (x3.length : Int) then (some (rd x3 (wrap64 ((x0.length : Int) - 1)))) else (none)) else (none))
def impl_countCovers.l1 : Nat → List (S54) → List Int → Int → Int → Int → List Int → Int → Int → Option (Int)
 | 0, _, _, _, _, _, _, _, _ => none
 | k + 1, x0, x3, x4, x16, x17, x22, x23, x24 => if x24 < x23 then (if 0 ≤ x24 then (if x24 < (x22.length : Int) then ((impl_tileAt.f k x0 x4 (rd x22 x24)).bind fun bt1387 => (impl_countCovers.l2 k x0 x3 x4 1 x16 x17 x22 x23 x24 bt1387.1 (bt1387.1.length : Int) 0)) else (none)) else (none)) else (impl_countCovers.l0 k x0 x3 x16 (wrap64 (x17 + 1)))
def impl_countCovers.l2 : Nat → List (S54) → List Int → Int → Int → Int → Int → List Int → Int → Int → List Int → Int → Int → Option (Int)
 | 0, _, _, _, _, _, _, _, _, _, _, _, _ => none
 | k + 1, x0, x3, x4, x9, x16, x17, x22, x23, x24, x36, x37, x38 => if x38 < x37 then (if 0 ≤ x38 then (if x38 < (x36.length : Int) then (if 0 ≤ (rd x36 x38) then (if (rd x36 x38) < (x3.length : Int) then (impl_countCovers.l2 k x0 x3 x4 (wrap64 (x9 * (rd x3 (rd x36 x38)))) x16 x17 x22 x23 x24 x36 x37 (wrap64 (x38 + 1))) else (none)) else (none)) else (none)) else (none)) else (if 0 ≤ x4 then (if x4 < (x3.length : Int) then (impl_countCovers.l1 k x0 (x3.set (x4 : Int).toNat (wrap64 ((rd x3 x4) + x9))) x4 x16 x17 x22 x23 (wrap64 (x24 + 1))) else (none)) else (none))
end
def impl_countCovers.f (k : Nat) (l0 : List (S54)) : Option (Int) := if 0 ≤ (l0.length : Int) then (if ((l0.length : Int) : Int).toNat ≤ 35184372088832 then (impl_countCovers.l0 k l0 (List.replicate ((l0.length : Int) : Int).toNat 0) (l0.length : Int) 0) else (none)) else (none)
theorem impl_countCovers.calls (k : Nat) (A0 : Option Addr) (c0 : Nat) (l0 : List (S54)) (r : Int) (w : World) (hr0 : Kd.C k54 w A0 l0.length l0) (hc0 : l0.length ≤ c0) (h : impl_countCovers.f k l0 = some r) :
  Calls Try.prog 73 #[.slice A0 l0.length c0] w fun e w' => e = .returned (.int .i64 r) ∧ Below w.heap.size w w' := by
 have hu57 := Try.underlying57
 have HR0 := Aside0.mk hr0
 have HC0 := Aside0.mk hc0
 clear hr0 hc0
 have HB := Aside0.mk (Below.refl w.heap.size w)
 have H := h
 clear h
 unfold impl_countCovers.f at H
 obtain ⟨c2, H⟩ := ifs H
 have c2b0 := eq_true c2
 have c2b1 := decide_eq_true c2
 clear c2
 obtain ⟨c3, H⟩ := ifs H
 have c3b0 := eq_true c3
 have c3b1 := decide_eq_true c3
 clear c3
 obtain ⟨y1379, hy1379⟩ : ∃ y_ : List Int, y_ = (List.replicate ((l0.length : Int) : Int).toNat 0) := ⟨_, rfl⟩
 replace H : (impl_countCovers.l0 k l0 y1379 (l0.length : Int) 0) = some r := by first | (rw [hy1379]; with_reducible exact H) | (have H2_ := (Option.bind_some _ _).symm.trans H; rw [hy1379]; with_reducible exact H2_) | (have H2_ := (Option.bind_some _ _).symm.trans H; with_reducible exact H2_) | with_reducible exact H | (rw [hy1379]; exact H) | exact H
 have Ny1379 := Aside0.mk hy1379
 clear hy1379
 have H' := Aside0.mk H
 clear H
 go_enter Try.func73, Try.ntmps73
 go_wp2_with (first | ((with_reducible refine gate_dst (N := 14) rfl ?_); refine Kd.R_make (Kd.int .i64) _ 3 rfl (N := 14) rfl 30 _ _ rfl (l0.length : Int) rfl rfl Try.underlying30 (.int .i64 0) 8 info3 rfl (by decide) (by omega) 0 (ok := fun _ => True) (okp := fun _ => True) rfl (fun _ hk => hk) trivial DT (Nat.le_trans (Nat.mul_le_mul_right _ (DT : (l0.length : Int).toNat ≤ 35184372088832)) (by omega)) (Below.refl _ _) (Nat.le_refl _) ?_; intro v1380 w4 ho5 hb hg_ hnew_; clear hg_ hnew_; (first | rw [← Ny1379.out] at ho5 | (simp only [Int.reduceToNat] at ho5; rw [← Ny1379.out] at ho5)); have HO1381 := Aside0.mk (Kd.R_lower ho5 (below_size BA)); replace HB := bs hb; clear hb ho5))
 go_loopg [17] k (fun kq v17 w' => ∃ (x3_1 : List Int) (x17_1 : Int), v17 = .int .i64 x17_1 ∧ Aside0 (impl_countCovers.l0 kq l0 x3_1 (l0.length : Int) x17_1 = some r) ∧ Aside0 (kq ≤ k) ∧ Aside0 (Kd.R (Kd.int .i64) 3 w' w.heap.size (fun _ => True) v1380 x3_1) ∧ Aside0 (Below w.heap.size w w'))
 case atStart => exact ⟨(y1379), (0), EQ1, H', ⟨Nat.le_refl _⟩, ⟨rb HO1381.out⟩, ⟨BA⟩⟩
 case round =>
  clear H'
  (try clear c2b0); (try clear c2b1); (try clear c3b0); (try clear c3b1)
  obtain ⟨x3_1, x17_1, rfl, HA, HK1, HO_3, HB⟩ := hrel
  cases gk with
  | zero => exact absurd HA.out (by simp [impl_countCovers.l0])
  | succ k1 =>
   have H := HA.out
   clear HA
   simp only [impl_countCovers.l0] at H
   by_cases c6 : x17_1 < (l0.length : Int)
   ·rw [if_pos c6] at H
    have c6b0 := decide_eq_true c6
    clear c6
    obtain ⟨t1383, A7, H⟩ := ob H
    (try dsimp only at H)
    have H' := Aside0.mk H
    clear H
    go_wp2_with (first | ((with_reducible refine gate_callee (f := 60) rfl ?_); refine gK (some 22) Try.func60 #[.slice A0 l0.length c0, .int .i64 x17_1] rfl rfl rfl ?_; (with_reducible refine (impl_tilesAt.calls k1 _ _ l0 x17_1 t1383 _ ?side1 ?side2 A7.out).mono ?_); (case side1 => exact cb (Kd.C_below HR0.out HB.out)); (case side2 => exact HC0.out); rintro e w8 ⟨v1384, rfl, ho0, hb⟩; refine ⟨_, rfl, ?_⟩; have HO1385 := Aside0.mk (Kd.R_lower (Kd.R_new' ho0 (Kd.R_lt (rb HO_3.out))) (below_size BA)); replace HO_3 := Aside0.mk (Kd.R_elder' (rb HO_3.out) (Kd.R_base ho0) hb); replace HB := bs hb; (try clear hb); (try clear ho0); obtain ⟨Ao9, co9, eo9⟩ := Kd.R_slice HO1385.out; subst eo9))
    go_loopg [24] k1 (fun kq v24 w' => ∃ (x3_2 : List Int) (x24_2 : Int), v24 = .int .i64 x24_2 ∧ Aside0 (impl_countCovers.l1 kq l0 x3_2 x17_1 (l0.length : Int) x17_1 t1383 (t1383.length : Int) x24_2 = some r) ∧ Aside0 (kq ≤ k1) ∧ Aside0 (Kd.R (Kd.int .i64) 3 w' w.heap.size (fun k_ => some k_ ≠ ((.slice Ao9 t1383.length co9) : Value).ownBlock) v1380 x3_2) ∧ Aside0 (Kd.R (Kd.int .i64) 3 w' w.heap.size (fun k_ => some k_ ≠ (v1380 : Value).ownBlock) (.slice Ao9 t1383.length co9) t1383) ∧ Aside0 (Below w.heap.size w w'))
    case atStart => exact ⟨(x3_1), (0), EQ1, H', ⟨Nat.le_refl _⟩, ⟨rb (Kd.R_mono HO_3.out (fun _ hk => hk.2))⟩, ⟨rb (Kd.R_mono HO1385.out (fun _ hk => hk.2))⟩, ⟨BA⟩⟩
    case round =>
     clear H'
     (try clear c2b0); (try clear c2b1); (try clear c3b0); (try clear c3b1); (try clear c6b0)
     obtain ⟨x3_2, x24_2, rfl, HA, HK2, HO_3, HO_22, HB⟩ := hrel
     cases gk with
     | zero => exact absurd HA.out (by simp [impl_countCovers.l1])
     | succ k2 =>
      have H := HA.out
      clear HA
      simp only [impl_countCovers.l1] at H
      by_cases c10 : x24_2 < (t1383.length : Int)
      ·rw [if_pos c10] at H
       have c10b0 := decide_eq_true c10
       clear c10
       obtain ⟨c11, H⟩ := ifs H
       have c11b0 := decide_eq_true c11
       clear c11
       obtain ⟨c12, H⟩ := ifs H
       have c12b0 := decide_eq_true c12
       clear c12
       replace H := Option.bind_eq_some_iff.mp H
       obtain ⟨⟨t1387, t1390, t1393, t1394⟩, A130, H⟩ := H
       (try dsimp only at H)
       have A13 := Aside0.mk A130
       clear A130
       have H' := Aside0.mk H
       clear H
       have p1386 : 0 ≤ (x24_2 : Int) := DT
       have q1386 : x24_2 < (t1383.length : Int) := DT
       obtain ⟨ad1386, e1386, hx1386_0⟩ := Kd.at_int (Kd.R_reads' HO_22.out).2.2 x24_2 p1386 q1386
       cases e1386
       replace p1386 := eq_true p1386
       replace q1386 := eq_true q1386
       go_wp2_with (first | ((with_reducible refine gate_callee (f := 78) rfl ?_); refine gK (some 32) Try.func78 #[.slice A0 l0.length c0, .int .i64 x17_1, .int .i64 (rd t1383 x24_2)] rfl rfl rfl ?_; (with_reducible refine (impl_tileAt.calls k2 _ _ l0 x17_1 (rd t1383 x24_2) t1387 t1390 t1393 t1394 _ ?side1 ?side2 A13.out).mono ?_); (case side1 => exact cb (Kd.C_below HR0.out HB.out)); (case side2 => exact HC0.out); rintro e w14 ⟨v1388, v1391, rfl, ho0, ho1, hb⟩; refine ⟨_, rfl, ?_⟩; have HO1389 := Aside0.mk (Kd.R_lower (Kd.R_new' (Kd.R_new' ho0 (Kd.R_lt (rb HO_3.out))) (Kd.R_lt (rb HO_22.out))) (below_size BA)); have HO1392 := Aside0.mk (Kd.R_lower (Kd.R_new' (Kd.R_new' ho1 (Kd.R_lt (rb HO_3.out))) (Kd.R_lt (rb HO_22.out))) (below_size BA)); replace HO_3 := Aside0.mk (Kd.R_mono (Kd.R_told (Kd.R_told (Kd.R_old (rb HO_3.out) hb) (Kd.R_base ho0)) (Kd.R_base ho1)) (fun _ h_ => h_.1)); replace HO_22 := Aside0.mk (Kd.R_mono (Kd.R_told (Kd.R_told (Kd.R_old (rb HO_22.out) hb) (Kd.R_base ho0)) (Kd.R_base ho1)) (fun _ h_ => h_.1)); replace HB := bs hb; (try clear hb); (try clear ho0); (try clear ho1)) | ((with_reducible refine gd 7 rfl ?_); refine bx 7 #[.slice none 0 0, .slice none 0 0, .int .i64 0] 57 ?_; intro gb1395 hg w15 BK1395 GW1395 HB hb; replace HO_3 := Aside0.mk (Kd.R_below (rb HO_3.out) hb); replace HO_22 := Aside0.mk (Kd.R_below (rb HO_22.out) hb); replace HO1389 := Aside0.mk (Kd.R_below (rb HO1389.out) hb); replace HO1392 := Aside0.mk (Kd.R_below (rb HO1392.out) hb); have GE1395 := GW1395; clear hb hg; obtain ⟨Ao16, co16, eo16⟩ := Kd.R_slice HO1389.out; subst eo16; obtain ⟨hcz17_0, hcz17_1, hcz17_2⟩ := bc3 BK1395.out; have hfz17 := blk_frozen BK1395.out; obtain ⟨Ao18, co18, eo18⟩ := Kd.R_slice HO1392.out; subst eo18))
       go_loopg [9, 38] k2 (fun kq v9 v38 w' => ∃ (x9_3 : Int) (x38_3 : Int), v9 = .int .i64 x9_3 ∧ v38 = .int .i64 x38_3 ∧ Aside0 (impl_countCovers.l2 kq l0 x3_2 x17_1 x9_3 (l0.length : Int) x17_1 t1383 (t1383.length : Int) x24_2 t1387 (t1387.length : Int) x38_3 = some r) ∧ Aside0 (kq ≤ k2) ∧ Aside0 (Kd.R (Kd.int .i64) 3 w' w.heap.size (fun k_ => some k_ ≠ ((.slice (some ad1386) t1383.length co9) : Value).ownBlock ∧ some k_ ≠ ((.slice Ao16 t1387.length co16) : Value).ownBlock ∧ some k_ ≠ ((.slice Ao16 t1387.length co16) : Value).ownBlock ∧ some k_ ≠ ((.slice Ao18 t1390.length co18) : Value).ownBlock) v1380 x3_2) ∧ Aside0 (Kd.R (Kd.int .i64) 3 w' w.heap.size (fun k_ => some k_ ≠ (v1380 : Value).ownBlock ∧ some k_ ≠ ((.slice Ao16 t1387.length co16) : Value).ownBlock ∧ some k_ ≠ ((.slice Ao16 t1387.length co16) : Value).ownBlock ∧ some k_ ≠ ((.slice Ao18 t1390.length co18) : Value).ownBlock) (.slice (some ad1386) t1383.length co9) t1383) ∧ Aside0 (Kd.R (Kd.int .i64) 3 w' w.heap.size (fun k_ => some k_ ≠ (v1380 : Value).ownBlock ∧ some k_ ≠ ((.slice (some ad1386) t1383.length co9) : Value).ownBlock ∧ some k_ ≠ ((.slice Ao18 t1390.length co18) : Value).ownBlock) (.slice Ao16 t1387.length co16) t1387) ∧ Aside0 (Kd.R (Kd.int .i64) 3 w' w.heap.size (fun k_ => some k_ ≠ (v1380 : Value).ownBlock ∧ some k_ ≠ ((.slice (some ad1386) t1383.length co9) : Value).ownBlock ∧ some k_ ≠ ((.slice Ao18 t1390.length co18) : Value).ownBlock) (.slice Ao16 t1387.length co16) t1387) ∧ Aside0 (Kd.R (Kd.int .i64) 3 w' w.heap.size (fun k_ => some k_ ≠ (v1380 : Value).ownBlock ∧ some k_ ≠ ((.slice (some ad1386) t1383.length co9) : Value).ownBlock ∧ some k_ ≠ ((.slice Ao16 t1387.length co16) : Value).ownBlock ∧ some k_ ≠ ((.slice Ao16 t1387.length co16) : Value).ownBlock) (.slice Ao18 t1390.length co18) t1390) ∧ Aside0 (w'.heap[gb1395]? = some (.cells #[(.slice Ao16 t1387.length co16), (.slice Ao18 t1390.length co18), .int .i64 t1393] 57 (0, 0))) ∧ Aside0 (Below w.heap.size w w'))
       case atStart => exact ⟨(1), (0), EQ1, EQ1, H', ⟨Nat.le_refl _⟩, ⟨rb (Kd.R_mono (Kd.R_far (p := ⟨gb1395, 2, none⟩) (Kd.R_far (p := ⟨gb1395, 1, none⟩) (Kd.R_far (p := ⟨gb1395, 0, none⟩) (Kd.R_types HO_3.out BK1395.out (by decide)) (fun _ hk => hk.2) (.slice Ao16 t1387.length co16)) (fun _ hk => hk.2) (.slice Ao18 t1390.length co18)) (fun _ hk => hk.2) (.int .i64 t1393)) (fun _ hk => ⟨hk.1.1.1, ⟨hk.1.1.2, ⟨hk.1.1.2, hk.1.2⟩⟩⟩))⟩, ⟨rb (Kd.R_mono (Kd.R_far (p := ⟨gb1395, 2, none⟩) (Kd.R_far (p := ⟨gb1395, 1, none⟩) (Kd.R_far (p := ⟨gb1395, 0, none⟩) (Kd.R_types HO_22.out BK1395.out (by decide)) (fun _ hk => hk.2) (.slice Ao16 t1387.length co16)) (fun _ hk => hk.2) (.slice Ao18 t1390.length co18)) (fun _ hk => hk.2) (.int .i64 t1393)) (fun _ hk => ⟨hk.1.1.1, ⟨hk.1.1.2, ⟨hk.1.1.2, hk.1.2⟩⟩⟩))⟩, ⟨rb (Kd.R_mono (Kd.R_far (p := ⟨gb1395, 2, none⟩) (Kd.R_far (p := ⟨gb1395, 1, none⟩) (Kd.R_far (p := ⟨gb1395, 0, none⟩) (Kd.R_types HO1389.out BK1395.out (by decide)) (fun _ hk => hk.2) (.slice Ao16 t1387.length co16)) (fun _ hk => hk.2) (.slice Ao18 t1390.length co18)) (fun _ hk => hk.2) (.int .i64 t1393)) (fun _ hk => ⟨hk.1.1.2, ⟨hk.1.2, hk.1.1.1⟩⟩))⟩, ⟨rb (Kd.R_mono (Kd.R_far (p := ⟨gb1395, 2, none⟩) (Kd.R_far (p := ⟨gb1395, 1, none⟩) (Kd.R_far (p := ⟨gb1395, 0, none⟩) (Kd.R_types HO1389.out BK1395.out (by decide)) (fun _ hk => hk.2) (.slice Ao16 t1387.length co16)) (fun _ hk => hk.2) (.slice Ao18 t1390.length co18)) (fun _ hk => hk.2) (.int .i64 t1393)) (fun _ hk => ⟨hk.1.1.2, ⟨hk.1.2, hk.1.1.1⟩⟩))⟩, ⟨rb (Kd.R_mono (Kd.R_far (p := ⟨gb1395, 2, none⟩) (Kd.R_far (p := ⟨gb1395, 1, none⟩) (Kd.R_far (p := ⟨gb1395, 0, none⟩) (Kd.R_types HO1392.out BK1395.out (by decide)) (fun _ hk => hk.2) (.slice Ao16 t1387.length co16)) (fun _ hk => hk.2) (.slice Ao18 t1390.length co18)) (fun _ hk => hk.2) (.int .i64 t1393)) (fun _ hk => ⟨hk.1.1.2, ⟨hk.1.2, ⟨hk.1.1.1, hk.1.1.1⟩⟩⟩))⟩, ⟨by (with_reducible repeat (first | refine blk_drewN ?_ _ | refine blk_drew ?_ | refine blk_alloc ?_ _)); refine blk_put (cs := #[.slice Ao16 t1387.length co16, .slice Ao18 t1390.length co18, .int .i64 0]) ?_ 2 _ rfl; (with_reducible repeat (first | refine blk_drewN ?_ _ | refine blk_drew ?_ | refine blk_alloc ?_ _)); refine blk_put (cs := #[.slice Ao16 t1387.length co16, .slice none 0 0, .int .i64 0]) ?_ 1 _ rfl; (with_reducible repeat (first | refine blk_drewN ?_ _ | refine blk_drew ?_ | refine blk_alloc ?_ _)); refine blk_put (cs := #[.slice none 0 0, .slice none 0 0, .int .i64 0]) ?_ 0 _ rfl; (with_reducible repeat (first | refine blk_drewN ?_ _ | refine blk_drew ?_ | refine blk_alloc ?_ _)); exact BK1395.out⟩, ⟨BA⟩⟩
       case round =>
        clear H'
        (try clear c2b0); (try clear c2b1); (try clear c3b0); (try clear c3b1); (try clear c6b0); (try clear c10b0); (try clear c11b0); (try clear c12b0); (try clear hcz17_0); (try clear hcz17_1); (try clear hcz17_2); (try clear hx1386_0); (try clear p1386); (try clear q1386)
        obtain ⟨x9_3, x38_3, rfl, rfl, HA, HK3, HO_3, HO_22, HO_36, HO_1396000, HO_1396001, BK1395, HB⟩ := hrel
        cases gk with
        | zero => exact absurd HA.out (by simp [impl_countCovers.l2])
        | succ k3 =>
         have H := HA.out
         clear HA
         simp only [impl_countCovers.l2] at H
         by_cases c19 : x38_3 < (t1387.length : Int)
         ·rw [if_pos c19] at H
          have c19b0 := decide_eq_true c19
          clear c19
          obtain ⟨c20, H⟩ := ifs H
          have c20b0 := decide_eq_true c20
          clear c20
          obtain ⟨c21, H⟩ := ifs H
          have c21b0 := decide_eq_true c21
          clear c21
          obtain ⟨c22, H⟩ := ifs H
          have c22b0 := decide_eq_true c22
          clear c22
          obtain ⟨c23, H⟩ := ifs H
          have c23b0 := decide_eq_true c23
          clear c23
          have H' := Aside0.mk H
          clear H
          have p1396 : 0 ≤ (x38_3 : Int) := DT
          have q1396 : x38_3 < (t1387.length : Int) := DT
          obtain ⟨ad1396, e1396, hx1396_0⟩ := Kd.at_int (Kd.R_reads' HO_36.out).2.2 x38_3 p1396 q1396
          cases e1396
          replace p1396 := eq_true p1396
          replace q1396 := eq_true q1396
          obtain ⟨Ao24, co24, eo24⟩ := Kd.R_slice HO_3.out
          subst eo24
          have p1397 : 0 ≤ ((rd t1387 x38_3) : Int) := DT
          have q1397 : (rd t1387 x38_3) < (x3_2.length : Int) := DT
          obtain ⟨ad1397, e1397, hx1397_0⟩ := Kd.at_int (Kd.R_reads' HO_3.out).2.2 (rd t1387 x38_3) p1397 q1397
          cases e1397
          replace p1397 := eq_true p1397
          replace q1397 := eq_true q1397
          go_wp2
          go_roundg k3
          case measure => have := HK1.out; have := HK2.out; have := HK3.out; omega
          case rel => exact ⟨(wrap64 (x9_3 * (rd x3_2 (rd t1387 x38_3)))), (wrap64 (x38_3 + 1)), EQ1, EQ1, H', ⟨by have := HK1.out; have := HK2.out; have := HK3.out; omega⟩, ⟨rb HO_3.out⟩, ⟨rb HO_22.out⟩, ⟨rb HO_36.out⟩, ⟨rb HO_1396000.out⟩, ⟨rb HO_1396001.out⟩, ⟨by (with_reducible repeat (first | refine blk_drewN ?_ _ | refine blk_drew ?_ | refine blk_alloc ?_ _)); exact BK1395.out⟩, ⟨BA⟩⟩
         ·rw [if_neg c19] at H
          have c19b0 := decide_eq_false c19
          clear c19
          obtain ⟨c25, H⟩ := ifs H
          have c25b0 := decide_eq_true c25
          clear c25
          obtain ⟨c26, H⟩ := ifs H
          have c26b0 := decide_eq_true c26
          clear c26
          obtain ⟨y1399, hy1399⟩ : ∃ y_ : List Int, y_ = (x3_2.set (x17_1 : Int).toNat (wrap64 ((rd x3_2 x17_1) + x9_3))) := ⟨_, rfl⟩
          replace H : (impl_countCovers.l1 k3 l0 y1399 x17_1 (l0.length : Int) x17_1 t1383 (t1383.length : Int) (wrap64 (x24_2 + 1))) = some r := by first | (rw [hy1399]; with_reducible exact H) | (have H2_ := (Option.bind_some _ _).symm.trans H; rw [hy1399]; with_reducible exact H2_) | (have H2_ := (Option.bind_some _ _).symm.trans H; with_reducible exact H2_) | with_reducible exact H | (rw [hy1399]; exact H) | exact H
          have Ny1399 := Aside0.mk hy1399
          clear hy1399
          have H' := Aside0.mk H
          clear H
          obtain ⟨Ao28, co28, eo28⟩ := Kd.R_slice HO_3.out
          subst eo28
          have p1398 : 0 ≤ (x17_1 : Int) := DT
          have q1398 : x17_1 < (x3_2.length : Int) := DT
          obtain ⟨ad1398, e1398, hx1398_0⟩ := Kd.at_int (Kd.R_reads' HO_3.out).2.2 x17_1 p1398 q1398
          cases e1398
          replace p1398 := eq_true p1398
          replace q1398 := eq_true q1398
          have p27 : 0 ≤ (x17_1 : Int) := DT
          have q27 : (x17_1 : Int) < ((x3_2.length : Int) : Int) := DT
          obtain ⟨go27, co27, eo27, gb27, gl27, cl27, HG27⟩ := Kd.R_form HO_3.out (by omega)
          (first | cases eo27 | (injection eo27 with ea_ en_ ec_; (first | subst ea_ | (injection ea_ with ea_; subst ea_)); subst ec_; clear en_))
          have GB27 := Aside0.mk gb27
          have GG27 := Aside0.mk HG27
          clear gb27 gl27 HG27
          (first | simp only [add_plain] at hx1398_0 | skip)
          obtain ⟨hx27_0, hf27_0⟩ := Kd.R_celln 0 HO_3.out (x17_1 : Int) p27 q27
          replace p27 := eq_true p27
          replace q27 := eq_true q27
          have HP29 := Kd.R_putg HO_3.out (x17_1 : Int) (wrap64 ((rd x3_2 x17_1) + x9_3))
          go_wp2_with (first | ((with_reducible refine gate_store (t := 3) (p := 55) rfl ?_); refine store_event (t := 3) (p := 55) (v := ?vo_w30) (w1 := (wr.setCell ⟨go27, (x17_1 : Int).toNat, none⟩ (.int .i64 (wrap64 ((rd x3_2 x17_1) + x9_3))))) ?hg ?ho ?hn ?hr ?_; (case ho => rfl); (case hg => rfl); (case hn => rfl); (case hr => first | (go_simp; done) | (go_simp; rfl)); intro w30 hw; have hg : wr.grownBy w30 (some go27) := (by rw [hw]; exact HP29.2); have hp_ : Kd.R (Kd.int .i64) 3 w30 w.heap.size (fun k_ => some k_ ≠ (.slice (some ad1386) t1383.length co9 : Value).ownBlock ∧ some k_ ≠ (.slice Ao16 t1387.length co16 : Value).ownBlock ∧ some k_ ≠ (.slice Ao16 t1387.length co16 : Value).ownBlock ∧ some k_ ≠ (.slice Ao18 t1390.length co18 : Value).ownBlock) (.slice (some ⟨go27, 0, none⟩) x3_2.length co28) y1399 := (by rw [hw, Ny1399.out]; exact HP29.1); clear HP29; replace HO_22 := Aside0.mk (Kd.R_after (v := (.slice (some ⟨go27, 0, none⟩) x3_2.length co28)) (v1 := (.slice (some ⟨go27, 0, none⟩) x3_2.length co28)) (ok := (fun k_ => some k_ ≠ (.slice Ao16 t1387.length co16 : Value).ownBlock ∧ some k_ ≠ (.slice Ao16 t1387.length co16 : Value).ownBlock ∧ some k_ ≠ (.slice Ao18 t1390.length co18 : Value).ownBlock)) (rb (Kd.R_mono HO_22.out (fun _ hk => ⟨⟨hk.2.1, ⟨hk.2.2.1, hk.2.2.2⟩⟩, hk.1⟩))) hg (.inl rfl)); replace HO_36 := Aside0.mk (Kd.R_after (v := (.slice (some ⟨go27, 0, none⟩) x3_2.length co28)) (v1 := (.slice (some ⟨go27, 0, none⟩) x3_2.length co28)) (ok := (fun k_ => some k_ ≠ (.slice (some ad1386) t1383.length co9 : Value).ownBlock ∧ some k_ ≠ (.slice Ao18 t1390.length co18 : Value).ownBlock)) (rb (Kd.R_mono HO_36.out (fun _ hk => ⟨⟨hk.2.1, hk.2.2⟩, hk.1⟩))) hg (.inl rfl)); replace HO_1396000 := Aside0.mk (Kd.R_after (v := (.slice (some ⟨go27, 0, none⟩) x3_2.length co28)) (v1 := (.slice (some ⟨go27, 0, none⟩) x3_2.length co28)) (ok := (fun k_ => some k_ ≠ (.slice (some ad1386) t1383.length co9 : Value).ownBlock ∧ some k_ ≠ (.slice Ao18 t1390.length co18 : Value).ownBlock)) (rb (Kd.R_mono HO_1396000.out (fun _ hk => ⟨⟨hk.2.1, hk.2.2⟩, hk.1⟩))) hg (.inl rfl)); replace HO_1396001 := Aside0.mk (Kd.R_after (v := (.slice (some ⟨go27, 0, none⟩) x3_2.length co28)) (v1 := (.slice (some ⟨go27, 0, none⟩) x3_2.length co28)) (ok := (fun k_ => some k_ ≠ (.slice (some ad1386) t1383.length co9 : Value).ownBlock ∧ some k_ ≠ (.slice Ao16 t1387.length co16 : Value).ownBlock ∧ some k_ ≠ (.slice Ao16 t1387.length co16 : Value).ownBlock)) (rb (Kd.R_mono HO_1396001.out (fun _ hk => ⟨⟨hk.2.1, ⟨hk.2.2.1, hk.2.2.2⟩⟩, hk.1⟩))) hg (.inl rfl)); replace BK1395 := Aside0.mk (blk_grown (g := gb1395) (o := .cells #[.slice Ao16 t1387.length co16, .slice Ao18 t1390.length co18, .int .i64 t1393] 57 (0, 0)) (bk BK1395.out) hg (Kd.R_ne HO_3.out BK1395.out (by decide))); replace HO_3 := Aside0.mk (hp_); replace HB := Aside0.mk ((by rw [hw]; exact below_set (HB.out) GB27.out : Below w.heap.size w w30)); clear hg hw hp_))
          go_roundg k3
          case measure => have := HK1.out; have := HK2.out; have := HK3.out; omega
          case rel => exact ⟨(y1399), (wrap64 (x24_2 + 1)), EQ1, H', ⟨by have := HK1.out; have := HK2.out; have := HK3.out; omega⟩, ⟨rb (Kd.R_mono HO_3.out (fun _ hk => hk.1))⟩, ⟨rb (Kd.R_mono HO_22.out (fun _ hk => hk.2))⟩, ⟨BA⟩⟩
      ·rw [if_neg c10] at H
       have c10b0 := decide_eq_false c10
       clear c10
       have H' := Aside0.mk H
       clear H
       go_wp2
       go_roundg k2
       case measure => have := HK1.out; have := HK2.out; omega
       case rel => exact ⟨(x3_2), (wrap64 (x17_1 + 1)), EQ1, H', ⟨by have := HK1.out; have := HK2.out; omega⟩, ⟨rb (Kd.R_mono HO_3.out (fun _ hk => trivial))⟩, ⟨BA⟩⟩
   ·rw [if_neg c6] at H
    have c6b0 := decide_eq_false c6
    clear c6
    obtain ⟨ji31, hji31⟩ : ∃ j_ : Int, (wrap64 ((l0.length : Int) - 1)) = j_ := ⟨_, rfl⟩
    replace H : (if 0 ≤ (ji31) then (if (ji31) < (x3_1.length : Int) then (some (rd x3_1 (ji31))) else (none)) else (none)) = some r := by first | (rw [hji31] at H; exact H) | (simp only [hji31] at H ⊢; exact H)
    have hji31w : (IntKind.i64.wrap ((l0.length : Int) - 1)) = ji31 := (i64_w _).trans hji31
    obtain ⟨c32, H⟩ := ifs H
    have c32b0 := decide_eq_true c32
    clear c32
    obtain ⟨c33, H⟩ := ifs H
    have c33b0 := decide_eq_true c33
    clear c33
    obtain rfl := Option.some.inj H
    obtain ⟨Ao34, co34, eo34⟩ := Kd.R_slice HO_3.out
    subst eo34
    have p1382 : 0 ≤ ((ji31) : Int) := DT
    have q1382 : (ji31) < (x3_1.length : Int) := DT
    obtain ⟨ad1382, e1382, hx1382_0⟩ := Kd.at_int (Kd.R_reads' HO_3.out).2.2 (ji31) p1382 q1382
    cases e1382
    replace p1382 := eq_true p1382
    replace q1382 := eq_true q1382
    go_wp2
    go_ret
    exact ⟨by first | rfl | (simp [errW_none, errW_some] <;> rfl) | (simp only [← hji31]; first | rfl | (simp [errW_none, errW_some] <;> rfl)) | (simp [*, errW_none, errW_some] <;> rfl), BA⟩

/-! ### impl_CountCovers: function 42 -/
def impl_CountCovers.f (k : Nat) (l0 : List (S54)) : Option (Int × Bool) := (impl_isTree.f k l0).bind fun t1400 => (if t1400 = true then ((impl_countCovers.f k l0).bind fun t1401 => (some (t1401, true))) else (some (0, false)))
theorem impl_CountCovers.calls (k : Nat) (A0 : Option Addr) (c0 : Nat) (l0 : List (S54)) (r1 : Int) (r2 : Bool) (w : World) (hr0 : Kd.C k54 w A0 l0.length l0) (hc0 : l0.length ≤ c0) (h : impl_CountCovers.f k l0 = some (r1, r2)) :
  Calls Try.prog 42 #[.slice A0 l0.length c0] w fun e w' => e = .returned (.tuple #[.int .i64 r1, .bool r2]) ∧ Below w.heap.size w w' := by
 have HR0 := Aside0.mk hr0
 have HC0 := Aside0.mk hc0
 clear hr0 hc0
 have HB := Aside0.mk (Below.refl w.heap.size w)
 have H := h
 clear h
 unfold impl_CountCovers.f at H
 obtain ⟨t1400, A2, H⟩ := ob H
 (try dsimp only at H)
 by_cases c3 : t1400 = true
 ·subst c3
  rw [if_pos rfl] at H
  obtain ⟨t1401, A4, H⟩ := ob H
  (try dsimp only at H)
  simp only [Option.some.injEq, Prod.mk.injEq] at H
  obtain ⟨rfl, rfl⟩ := H
  go_enter Try.func42, Try.ntmps42
  go_wp2_with (first | ((with_reducible refine gate_callee (f := 58) rfl ?_); refine gK (some 5) Try.func58 #[.slice A0 l0.length c0] rfl rfl rfl ?_; (with_reducible refine (impl_isTree.calls k _ _ l0 true _ ?side1 ?side2 A2.out).mono ?_); (case side1 => exact cb HR0.out); (case side2 => exact HC0.out); rintro e w5 ⟨rfl, hb⟩; refine ⟨_, rfl, ?_⟩; replace HB := bs hb; (try clear hb)) | ((with_reducible refine gate_callee (f := 73) rfl ?_); refine gK (some 8) Try.func73 #[.slice A0 l0.length c0] rfl rfl rfl ?_; (with_reducible refine (impl_countCovers.calls k _ _ l0 t1401 _ ?side1 ?side2 A4.out).mono ?_); (case side1 => exact cb (Kd.C_below HR0.out HB.out)); (case side2 => exact HC0.out); rintro e w6 ⟨rfl, hb⟩; refine ⟨_, rfl, ?_⟩; replace HB := bs hb; (try clear hb)))
  go_ret2
  exact ⟨EQ, BA⟩
 ·replace c3 := Bool.eq_false_iff.mpr c3
  subst c3
  rw [if_neg (show ¬ (false = true) by decide)] at H
  simp only [Option.some.injEq, Prod.mk.injEq] at H
  obtain ⟨rfl, rfl⟩ := H
  go_enter Try.func42, Try.ntmps42
  go_wp2_with (first | ((with_reducible refine gate_callee (f := 58) rfl ?_); refine gK (some 5) Try.func58 #[.slice A0 l0.length c0] rfl rfl rfl ?_; (with_reducible refine (impl_isTree.calls k _ _ l0 false _ ?side1 ?side2 A2.out).mono ?_); (case side1 => exact cb HR0.out); (case side2 => exact HC0.out); rintro e w7 ⟨rfl, hb⟩; refine ⟨_, rfl, ?_⟩; replace HB := bs hb; (try clear hb)))
  go_ret2
  exact ⟨EQ, BA⟩

/-! ### laws_FnExactCountCovers: function 12 -/
def laws_FnExactCountCovers.j0 : Nat → List (S51) → List (S54) → Bool → Option (Bool)
 | 0, _, _, _ => none
 | k + 1, x0, x6, x34 => if x34 = true then (some false) else ((laws_toNodeS.f k x0).bind fun t1413 => ((laws_eqNodeS.f k x6 t1413).bind fun t1416 => (if t1416 = true then (some true) else (some false))))
def laws_FnExactCountCovers.f (k : Nat) (l0 : List (S51)) : Option (Bool) := (laws_szNodeS.f k l0 1048576).bind fun t1402 => (if t1402 < 0 then (some true) else ((laws_toNodeS.f k l0).bind fun t1403 => ((spec_CountCovers.f k t1403).bind fun bt1406 => ((laws_toNodeS.f k l0).bind fun t1408 => ((impl_CountCovers.f k t1408).bind fun bt1411 => (if bt1411.1 = bt1406.1 then (laws_FnExactCountCovers.j0 k l0 t1408 (bt1411.2 != bt1406.2)) else (laws_FnExactCountCovers.j0 k l0 t1408 true)))))))
theorem laws_FnExactCountCovers.calls (k : Nat) (A0 : Option Addr) (c0 : Nat) (l0 : List (S51)) (r : Bool) (w : World) (hr0 : Kd.C k51 w A0 l0.length l0) (hc0 : l0.length ≤ c0) (h : laws_FnExactCountCovers.f k l0 = some r) :
  Calls Try.prog 12 #[.slice A0 l0.length c0] w fun e w' => e = .returned (.bool r) ∧ Below w.heap.size w w' := by
 have HR0 := Aside0.mk hr0
 have HC0 := Aside0.mk hc0
 clear hr0 hc0
 have HB := Aside0.mk (Below.refl w.heap.size w)
 have H := h
 clear h
 unfold laws_FnExactCountCovers.f at H
 obtain ⟨t1402, A2, H⟩ := ob H
 (try dsimp only at H)
 by_cases c3 : t1402 < 0
 ·rw [if_pos c3] at H
  have c3b0 := decide_eq_true c3
  clear c3
  obtain rfl := Option.some.inj H
  go_enter Try.func12, Try.ntmps12
  go_wp2_with (first | ((with_reducible refine gate_callee (f := 15) rfl ?_); refine gK (some 11) Try.func15 #[.slice A0 l0.length c0, .int .i64 1048576] rfl rfl rfl ?_; (with_reducible refine (laws_szNodeS.calls k _ _ l0 1048576 t1402 _ ?side1 ?side2 A2.out).mono ?_); (case side1 => exact cb HR0.out); (case side2 => exact HC0.out); rintro e w4 ⟨rfl, hb⟩; refine ⟨_, rfl, ?_⟩; replace HB := bs hb; (try clear hb)))
  go_ret
  exact ⟨EQ, BA⟩
 ·rw [if_neg c3] at H
  have c3b0 := decide_eq_false c3
  clear c3
  obtain ⟨t1403, A5, H⟩ := ob H
  (try dsimp only at H)
  replace H := Option.bind_eq_some_iff.mp H
  obtain ⟨⟨t1406, t1407⟩, A60, H⟩ := H
  (try dsimp only at H)
  have A6 := Aside0.mk A60
  clear A60
  obtain ⟨t1408, A7, H⟩ := ob H
  (try dsimp only at H)
  replace H := Option.bind_eq_some_iff.mp H
  obtain ⟨⟨t1411, t1412⟩, A80, H⟩ := H
  (try dsimp only at H)
  have A8 := Aside0.mk A80
  clear A80
  have HC9 := Aside0.mk H
  clear H
  go_enter Try.func12, Try.ntmps12
  go_upto_region 8 with (first | ((with_reducible refine gate_callee (f := 15) rfl ?_); refine gK (some 11) Try.func15 #[.slice A0 l0.length c0, .int .i64 1048576] rfl rfl rfl ?_; (with_reducible refine (laws_szNodeS.calls k _ _ l0 1048576 t1402 _ ?side1 ?side2 A2.out).mono ?_); (case side1 => exact cb HR0.out); (case side2 => exact HC0.out); rintro e w10 ⟨rfl, hb⟩; refine ⟨_, rfl, ?_⟩; replace HB := bs hb; (try clear hb)) | ((with_reducible refine gate_callee (f := 17) rfl ?_); refine gK (some 16) Try.func17 #[.slice A0 l0.length c0] rfl rfl rfl ?_; (with_reducible refine (laws_toNodeS.calls k _ _ l0 t1403 _ ?side1 ?side2 A5.out).mono ?_); (case side1 => exact cb (Kd.C_below HR0.out HB.out)); (case side2 => exact HC0.out); rintro e w11 ⟨v1404, rfl, ho0, hb⟩; refine ⟨_, rfl, ?_⟩; have HO1405 := Aside0.mk (Kd.R_lower ho0 (below_size BA)); replace HB := bs hb; (try clear hb); (try clear ho0); obtain ⟨Ao12, co12, eo12⟩ := Kd.R_slice HO1405.out; subst eo12) | ((with_reducible refine gate_callee (f := 41) rfl ?_); refine gK (some 17) Try.func41 #[.slice Ao12 t1403.length co12] rfl rfl rfl ?_; (with_reducible refine (spec_CountCovers.calls k _ _ t1403 t1406 t1407 _ ?side1 ?side2 A6.out).mono ?_); (case side1 => exact cb (Kd.R_reads' HO1405.out).2.2); (case side2 => exact (Kd.R_reads' HO1405.out).2.1); rintro e w13 ⟨rfl, hb⟩; refine ⟨_, rfl, ?_⟩; replace HO1405 := Aside0.mk (Kd.R_below (rb HO1405.out) hb); replace HB := bs hb; (try clear hb)) | ((with_reducible refine gate_callee (f := 17) rfl ?_); refine gK (some 21) Try.func17 #[.slice A0 l0.length c0] rfl rfl rfl ?_; (with_reducible refine (laws_toNodeS.calls k _ _ l0 t1408 _ ?side1 ?side2 A7.out).mono ?_); (case side1 => exact cb (Kd.C_below HR0.out HB.out)); (case side2 => exact HC0.out); rintro e w14 ⟨v1409, rfl, ho0, hb⟩; refine ⟨_, rfl, ?_⟩; have HO1410 := Aside0.mk (Kd.R_lower (Kd.R_new' ho0 (Kd.R_lt (rb HO1405.out))) (below_size BA)); replace HO1405 := Aside0.mk (Kd.R_elder' (rb HO1405.out) (Kd.R_base ho0) hb); replace HB := bs hb; (try clear hb); (try clear ho0); obtain ⟨Ao15, co15, eo15⟩ := Kd.R_slice HO1410.out; subst eo15) | ((with_reducible refine gate_callee (f := 42) rfl ?_); refine gK (some 24) Try.func42 #[.slice Ao15 t1408.length co15] rfl rfl rfl ?_; (with_reducible refine (impl_CountCovers.calls k _ _ t1408 t1411 t1412 _ ?side1 ?side2 A8.out).mono ?_); (case side1 => exact cb (Kd.R_reads' HO1410.out).2.2); (case side2 => exact (Kd.R_reads' HO1410.out).2.1); rintro e w16 ⟨rfl, hb⟩; refine ⟨_, rfl, ?_⟩; replace HO1405 := Aside0.mk (Kd.R_below (rb HO1405.out) hb); replace HO1410 := Aside0.mk (Kd.R_below (rb HO1410.out) hb); replace HB := bs hb; (try clear hb)))
  (try simp only [Act.put, List.setIfInBounds_toArray, List.set_cons_zero, List.set_cons_succ])
  go_cut [34] (fun v34 wc => ∃ (kq : Nat) (x34_8 : Bool), v34 = .bool x34_8 ∧ Aside0 (laws_FnExactCountCovers.j0 kq l0 t1408 x34_8 = some r) ∧ Aside0 (kq ≤ k) ∧ Aside0 (Kd.R k54 54 wc w.heap.size (fun _ => True) (.slice Ao15 t1408.length co15) t1408) ∧ Aside0 (Below w.heap.size w wc))
  case first =>
   have H := HC9.out
   clear HC9
   by_cases c17 : t1411 = t1406
   ·rw [if_pos c17] at H
    have c17b0 := beq_iff_eq.mpr c17
    have c17b1 := bne_eq_false_iff_eq.mpr c17
    clear c17
    (first | rw [c17b0] | (simp only [i64_w, i32_w]; rw [c17b0]) | skip)
    have H' := Aside0.mk H
    clear H
    go_wp2
    go_meet
    case rel => exact ⟨_, ((t1412 != t1407)), EQ1, H', ⟨by first | omega | exact Nat.le_refl _⟩, ⟨rb (Kd.R_mono HO1410.out (fun _ hk => trivial))⟩, ⟨BA⟩⟩
   ·rw [if_neg c17] at H
    have c17b0 := beq_eq_false_iff_ne.mpr c17
    have c17b1 := bne_iff_ne.mpr c17
    (first | rw [c17b0] | (simp only [i64_w, i32_w]; rw [c17b0]) | skip)
    have H' := Aside0.mk H
    clear H
    go_wp2
    go_meet
    case rel => exact ⟨_, (true), EQ1, H', ⟨by first | omega | exact Nat.le_refl _⟩, ⟨rb (Kd.R_mono HO1410.out (fun _ hk => trivial))⟩, ⟨BA⟩⟩
  case rest =>
   clear HC9
   (try clear c3b0); (try clear c17b0); (try clear c17b1)
   obtain ⟨kq, x34_8, rfl, HA, HJ8, HO_6, HB⟩ := hcut
   cases kq with
   | zero => exact absurd HA.out (by simp [laws_FnExactCountCovers.j0])
   | succ kj8 =>
    have H := HA.out
    clear HA
    simp only [laws_FnExactCountCovers.j0] at H
    by_cases c18 : x34_8 = true
    ·subst c18
     rw [if_pos rfl] at H
     obtain rfl := Option.some.inj H
     go_wp2
     go_ret
     exact ⟨EQ, BA⟩
    ·replace c18 := Bool.eq_false_iff.mpr c18
     subst c18
     rw [if_neg (show ¬ (false = true) by decide)] at H
     obtain ⟨t1413, A19, H⟩ := ob H
     (try dsimp only at H)
     obtain ⟨t1416, A20, H⟩ := ob H
     (try dsimp only at H)
     by_cases c21 : t1416 = true
     ·subst c21
      rw [if_pos rfl] at H
      obtain rfl := Option.some.inj H
      go_wp2_with (first | ((with_reducible refine gate_callee (f := 17) rfl ?_); refine gK (some 37) Try.func17 #[.slice A0 l0.length c0] rfl rfl rfl ?_; (with_reducible refine (laws_toNodeS.calls kj8 _ _ l0 t1413 _ ?side1 ?side2 A19.out).mono ?_); (case side1 => exact cb (Kd.C_below HR0.out HB.out)); (case side2 => exact HC0.out); rintro e w22 ⟨v1414, rfl, ho0, hb⟩; refine ⟨_, rfl, ?_⟩; have HO1415 := Aside0.mk (Kd.R_lower (Kd.R_new' ho0 (Kd.R_lt (rb HO_6.out))) (below_size BA)); replace HO_6 := Aside0.mk (Kd.R_elder' (rb HO_6.out) (Kd.R_base ho0) hb); replace HB := bs hb; (try clear hb); (try clear ho0); obtain ⟨Ao23, co23, eo23⟩ := Kd.R_slice HO1415.out; subst eo23) | ((with_reducible refine gate_callee (f := 19) rfl ?_); refine gK (some 38) Try.func19 #[.slice Ao15 t1408.length co15, .slice Ao23 t1413.length co23] rfl rfl rfl ?_; (with_reducible refine (laws_eqNodeS.calls kj8 _ _ t1408 _ _ t1413 true _ ?side1 ?side2 ?side3 ?side4 A20.out).mono ?_); (case side1 => exact cb (Kd.R_reads' HO_6.out).2.2); (case side2 => exact (Kd.R_reads' HO_6.out).2.1); (case side3 => exact cb (Kd.R_reads' HO1415.out).2.2); (case side4 => exact (Kd.R_reads' HO1415.out).2.1); rintro e w24 ⟨rfl, hb⟩; refine ⟨_, rfl, ?_⟩; replace HO_6 := Aside0.mk (Kd.R_below (rb HO_6.out) hb); replace HO1415 := Aside0.mk (Kd.R_below (rb HO1415.out) hb); replace HB := bs hb; (try clear hb)))
      go_ret
      exact ⟨EQ, BA⟩
     ·replace c21 := Bool.eq_false_iff.mpr c21
      subst c21
      rw [if_neg (show ¬ (false = true) by decide)] at H
      obtain rfl := Option.some.inj H
      go_wp2_with (first | ((with_reducible refine gate_callee (f := 17) rfl ?_); refine gK (some 37) Try.func17 #[.slice A0 l0.length c0] rfl rfl rfl ?_; (with_reducible refine (laws_toNodeS.calls kj8 _ _ l0 t1413 _ ?side1 ?side2 A19.out).mono ?_); (case side1 => exact cb (Kd.C_below HR0.out HB.out)); (case side2 => exact HC0.out); rintro e w25 ⟨v1414, rfl, ho0, hb⟩; refine ⟨_, rfl, ?_⟩; have HO1415 := Aside0.mk (Kd.R_lower (Kd.R_new' ho0 (Kd.R_lt (rb HO_6.out))) (below_size BA)); replace HO_6 := Aside0.mk (Kd.R_elder' (rb HO_6.out) (Kd.R_base ho0) hb); replace HB := bs hb; (try clear hb); (try clear ho0); obtain ⟨Ao26, co26, eo26⟩ := Kd.R_slice HO1415.out; subst eo26) | ((with_reducible refine gate_callee (f := 19) rfl ?_); refine gK (some 38) Try.func19 #[.slice Ao15 t1408.length co15, .slice Ao26 t1413.length co26] rfl rfl rfl ?_; (with_reducible refine (laws_eqNodeS.calls kj8 _ _ t1408 _ _ t1413 false _ ?side1 ?side2 ?side3 ?side4 A20.out).mono ?_); (case side1 => exact cb (Kd.R_reads' HO_6.out).2.2); (case side2 => exact (Kd.R_reads' HO_6.out).2.1); (case side3 => exact cb (Kd.R_reads' HO1415.out).2.2); (case side4 => exact (Kd.R_reads' HO1415.out).2.1); rintro e w27 ⟨rfl, hb⟩; refine ⟨_, rfl, ?_⟩; replace HO_6 := Aside0.mk (Kd.R_below (rb HO_6.out) hb); replace HO1415 := Aside0.mk (Kd.R_below (rb HO1415.out) hb); replace HB := bs hb; (try clear hb)))
      go_ret
      exact ⟨EQ, BA⟩

end Go.Proofs.Ytlmegefdnkjcbaa.Pa
