/- Plain texts: what the functions answer (part 1). -/
import Derived.Test.YtafjengmkiepbaaGreatKP0
section
/- The law laws_FnExactSelectCode over the machine of values. -/
set_option linter.unusedVariables false
set_option maxRecDepth 100000
set_option maxHeartbeats 1000000
namespace Go.Proofs.YtafjengmkiepbaaGreat.Am
open Go
open Go.IntKind renaming wrap → wr
noncomputable section
def laws_FnExactSelectCode.E := eN 4 []
def laws_FnExactSelectCode.g := g0 4 cZ [.id]
def laws_FnExactSelectCode.T (k : Nat) : Table := tabs [(8, (laws_szNodeS.tab k)), (10, (laws_toNodeS.tab k)), (11, (laws_toIntS.tab k)), (13, (laws_eqIntS.tab k)), (14, (laws_eqNodeS.tab k)), (15, (laws_markNodeS.tab k)), (16, (laws_markIntS.tab k)), (18, (spec_SelectCode.tab k)), (19, (impl_SelectCode.tab k)), (20, (laws_eqInstrS.tab k)), (21, (laws_markInstrS.tab k)), (22, (laws_heldInstrS.tab k))]
def laws_FnExactSelectCode.f (k : Nat) (a0 : LN) (a1 : LI) : Option Bool := gf 4 laws_FnExactSelectCode.E laws_FnExactSelectCode.T laws_FnExactSelectCode.g k [mkP false nL a0, mkP false iL a1] []
def laws_FnExactSelectCode.tab (k : Nat) : Tb := tabI [.v false nL, .v false iL] [] (enc0 cZ) (laws_FnExactSelectCode.f k)
theorem laws_FnExactSelectCode.calls (k : Nat) (a0 : LN) (a1 : LI) {r : Bool} (h : laws_FnExactSelectCode.f k a0 a1 = some r) : ACalls P0 4 [mkP false nL a0, mkP false iL a1] [] (enc0 cZ r) := n0 (fun k => (tabs_cons (laws_szNodeS.tok k) (tabs_cons (laws_toNodeS.tok k) (tabs_cons (laws_toIntS.tok k) (tabs_cons (laws_eqIntS.tok k) (tabs_cons (laws_eqNodeS.tok k) (tabs_cons (laws_markNodeS.tok k) (tabs_cons (laws_markIntS.tok k) (tabs_cons (spec_SelectCode.tok k) (tabs_cons (impl_SelectCode.tok k) (tabs_cons (laws_eqInstrS.tok k) (tabs_cons (laws_markInstrS.tok k) (tabs_cons (laws_heldInstrS.tok k) tabs_nil))))))))))))) (by kernel_rfl) vk h
abbrev laws_FnExactSelectCode.v (a0 : LN) (a1 : LI) := lim fun _ k => laws_FnExactSelectCode.f k a0 a1
theorem laws_FnExactSelectCode.vs (a0 : LN) (a1 : LI) {r} (h : (br (decide ((a1.length : Int) > 1048576)) (some true) (bd (laws_szNodeS.v a0 (1048576 : Int)) fun r0 => (br (decide (r0 < 0)) (some true) (bd (laws_toNodeS.v a0) fun r1 => (bd (laws_toIntS.v a1) fun r2 => (bd (spec_SelectCode.v r1.1 r2.1) fun r3 => (bd (laws_toNodeS.v a0) fun r4 => (bd (laws_toIntS.v a1) fun r5 => (bd (impl_SelectCode.v r4.1 r5.1) fun r6 => (bd (laws_eqInstrS.v r6.1.1 r3.1.1) fun r7 => (br (Bool.not r7) (some false) (br (r6.1.2.1 != r3.1.2.1) (some false) (br (Bool.not (r6.1.2.2 == r3.1.2.2)) (some false) (bd (laws_toNodeS.v a0) fun r8 => (bd (laws_eqNodeS.v r4.1 r8.1) fun r9 => (br (Bool.not r9) (some false) (bd (laws_toIntS.v a1) fun r10 => (bd (laws_eqIntS.v r5.1 r10.1) fun r11 => (br (Bool.not r11) (some false) (bd (laws_markNodeS.v (1 : Int) r4.1) fun r12 => (bd (laws_markIntS.v r12.1 r5.1) fun r13 => (br (decide (r13.1 < 0)) (some false) (bd (laws_eqInstrS.v r6.1.1 r3.1.1) fun r14 => (br (Bool.not r14) (some false) (br (r6.1.2.1 != r3.1.2.1) (some false) (br (Bool.not (r6.1.2.2 == r3.1.2.2)) (some false) (bd (laws_markInstrS.v (1 : Int) r6.1.1) fun r15 => (bd (laws_heldInstrS.v r15.2 (1 : Int)) fun r16 => (br (decide (r16 < 0)) (some false) (br (r16 != r15.1) (some false) (bd (laws_toNodeS.v a0) fun r17 => (bd (laws_toIntS.v a1) fun r18 => (bd (impl_SelectCode.v r17.1 r18.1) fun r19 => (bd (laws_eqInstrS.v r19.1.1 r3.1.1) fun r20 => (br (Bool.not r20) (some false) (br (r19.1.2.1 != r3.1.2.1) (some false) (br (Bool.not (r19.1.2.2 == r3.1.2.2)) (some false) (bd (laws_heldInstrS.v r15.2 (1 : Int)) fun r21 => (br (decide (r21 < 0)) (some false) (br (r21 != r15.1) (some false) (some true))))))))))))))))))))))))))))))))))))))))) = some r) : laws_FnExactSelectCode.v a0 a1 = some r := vq h
end
end Go.Proofs.YtafjengmkiepbaaGreat.Am
end
section
/- The law FnExactSelectCode, in plain Lean. -/
namespace Go.Proofs.YtafjengmkiepbaaGreat.Am
open Go
set_option linter.unusedVariables false
set_option linter.unusedSimpArgs false
theorem selectCode_pure (e : List Nd) (cover : List Int) (qe : Qd (.sl tyNd) e) (qc : Qd (.sl (.i .i64)) cover) : ∃ k, laws_FnExactSelectCode.f k e cover = some true := by
  refine Ev.some (lim_ev (laws_FnExactSelectCode.vs e cover ?_))
  by_cases h0 : (cover.length : Int) > 1048576
  · rw [br_t (by simpa using h0)]
  · obtain ⟨z, hz, _, hl⟩ := szNodeS_q e qe 1048576 (by omega) (by omega)
    by_cases h1 : z < 0
    · simp [h0, hz, h1]
    · have hl := hl (by omega)
      have hc : cover.length ≤ 1048576 := by omega
      have a3 := selectA_len (e := e) (cover := cover)
      have m0 := markNodeS_v 1 e (by omega) (by omega)
      have m1 := markIntS_v (1 + 4 * (e.length : Int)) cover (by omega) (by omega)
      have m2 := markInstrS_v 1 (selectA e cover).1 (by omega) (by omega)
      have m3 := heldInstrS_v 1 (selectA e cover).1 (by omega) (by omega)
      have m4 := eqInstrS_v (selectA e cover).1 (by omega)
      have n1 : ¬ (1 + 4 * (e.length : Int) + cover.length < 0) := by omega
      have n2 : ¬ (1 + 5 * ((selectA e cover).1.length : Int) < 0) := by omega
      simp [h0, hz, h1, toIntS_v cover hc, toNodeS_v e hl, specSelect_v hl, implSelect_v hl, eqNodeS_v e hl, eqIntS_v cover (by omega), m0, m1, m2, m3, m4, n1, n2]
end Go.Proofs.YtafjengmkiepbaaGreat.Am
end
