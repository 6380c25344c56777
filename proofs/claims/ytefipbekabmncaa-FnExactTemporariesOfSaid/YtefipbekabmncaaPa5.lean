-- Made by this session's program gen.py over the translation.
import Derived.Test.YtefipbekabmncaaPa0
import Derived.Test.YtefipbekabmncaaPa2
namespace Go.Proofs.Ytefipbekabmncaa.Pa
open Go.RowKit Go.Proofs.YtefipbekabmncaaW.PrintWords Go.Proofs.YtefipbekabmncaaW.PrintLast Go.Proofs.YtefipbekabmncaaW.PrintMore
attribute [local go_sem] max2_int min2_int max_two min_two max_three min_three max_four min_four   -- for this text's walks alone
set_option linter.unusedVariables false
set_option linter.unusedSimpArgs false

/-! ### spec_exWord: function 54 -/
def spec_exWord.f (a0 : Int) : Option (Bool) := (spec_l1In.f a0 0 63).bind fun t106 => (some t106)
set_option maxHeartbeats 8000000 in
set_option maxRecDepth 100000 in
theorem spec_exWord.calls (a0 : Int) (r : Bool) (w : World) (h : spec_exWord.f a0 = some r) :
    Calls Try.prog 54 #[.int .i64 a0] w fun e w' => e = .returned (.bool r) ∧ Drawn0 w w' := by
  have H : ((spec_l1In.f a0 0 63).bind fun t106 => (some t106)) = some r := h
  clear h
  replace H := Option.bind_eq_some_iff.mp H
  obtain ⟨t106, A20, H⟩ := H
  replace H : (some t106) = some r := H
  have A2 := Aside0.mk A20
  clear A20
  obtain rfl := Option.some.inj H
  go_enter Try.func54, Try.ntmps54
  go_wp2_with (first | ((with_reducible refine gate_callee (f := 95) rfl ?_); refine gK (some 4) Try.func95 #[.int .i64 a0, .int .i64 0, .int .i64 63] rfl rfl rfl ?_; (with_reducible refine (spec_l1In.calls a0 0 63 t106 _ A2.out).mono ?_); rintro e w' ⟨rfl, ⟨nd, rfl⟩⟩; refine ⟨_, rfl, ?_⟩))
  go_ret
  exact ⟨EQ1, DA⟩

end Go.Proofs.Ytefipbekabmncaa.Pa
