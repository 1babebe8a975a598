/- By gen_fact.py: the tables of facts, and that they are sound. -/
import Derived.Test.YtgdgknjhhgkabaaGreatDoorUF0
import Derived.Test.YtgdgknjhhgkabaaGreatDoorUF1
import Derived.Test.YtgdgknjhhgkabaaGreatDoorUF2
import Derived.Test.YtgdgknjhhgkabaaGreatDoorUF3
set_option linter.unusedVariables false
set_option linter.unusedSimpArgs false
set_option linter.unusedVariables false
set_option maxRecDepth 1000000
namespace Go.Abs.Tryz
open Go.Abs Go.Proofs
noncomputable def tb10 : List Fact := [q0, q7, q8, q17, q18, q29, q30, q43, q44, q59, q60, q77, q78]
theorem tb10_ok : ∀ q ∈ tb10, chkF (run E2 100000).call 10 q = true := List.forall_mem_cons.2 ⟨q0_ok, List.forall_mem_cons.2 ⟨q7_ok, List.forall_mem_cons.2 ⟨q8_ok, List.forall_mem_cons.2 ⟨q17_ok, List.forall_mem_cons.2 ⟨q18_ok, List.forall_mem_cons.2 ⟨q29_ok, List.forall_mem_cons.2 ⟨q30_ok, List.forall_mem_cons.2 ⟨q43_ok, List.forall_mem_cons.2 ⟨q44_ok, List.forall_mem_cons.2 ⟨q59_ok, List.forall_mem_cons.2 ⟨q60_ok, List.forall_mem_cons.2 ⟨q77_ok, List.forall_mem_cons.2 ⟨q78_ok, fun _ h => absurd h List.not_mem_nil⟩⟩⟩⟩⟩⟩⟩⟩⟩⟩⟩⟩⟩
noncomputable def tb16 : List Fact := [q1, q3, q9, q11, q15, q19, q21, q25, q27, q31, q33, q37, q39, q41, q45, q47, q51, q53, q55, q57, q61, q63, q67, q69, q71, q73, q75, q79, q81, q85, q87, q89, q91, q93, q95]
theorem tb16_ok : ∀ q ∈ tb16, chkF (run E2 100000).call 16 q = true := List.forall_mem_cons.2 ⟨q1_ok, List.forall_mem_cons.2 ⟨q3_ok, List.forall_mem_cons.2 ⟨q9_ok, List.forall_mem_cons.2 ⟨q11_ok, List.forall_mem_cons.2 ⟨q15_ok, List.forall_mem_cons.2 ⟨q19_ok, List.forall_mem_cons.2 ⟨q21_ok, List.forall_mem_cons.2 ⟨q25_ok, List.forall_mem_cons.2 ⟨q27_ok, List.forall_mem_cons.2 ⟨q31_ok, List.forall_mem_cons.2 ⟨q33_ok, List.forall_mem_cons.2 ⟨q37_ok, List.forall_mem_cons.2 ⟨q39_ok, List.forall_mem_cons.2 ⟨q41_ok, List.forall_mem_cons.2 ⟨q45_ok, List.forall_mem_cons.2 ⟨q47_ok, List.forall_mem_cons.2 ⟨q51_ok, List.forall_mem_cons.2 ⟨q53_ok, List.forall_mem_cons.2 ⟨q55_ok, List.forall_mem_cons.2 ⟨q57_ok, List.forall_mem_cons.2 ⟨q61_ok, List.forall_mem_cons.2 ⟨q63_ok, List.forall_mem_cons.2 ⟨q67_ok, List.forall_mem_cons.2 ⟨q69_ok, List.forall_mem_cons.2 ⟨q71_ok, List.forall_mem_cons.2 ⟨q73_ok, List.forall_mem_cons.2 ⟨q75_ok, List.forall_mem_cons.2 ⟨q79_ok, List.forall_mem_cons.2 ⟨q81_ok, List.forall_mem_cons.2 ⟨q85_ok, List.forall_mem_cons.2 ⟨q87_ok, List.forall_mem_cons.2 ⟨q89_ok, List.forall_mem_cons.2 ⟨q91_ok, List.forall_mem_cons.2 ⟨q93_ok, List.forall_mem_cons.2 ⟨q95_ok, fun _ h => absurd h List.not_mem_nil⟩⟩⟩⟩⟩⟩⟩⟩⟩⟩⟩⟩⟩⟩⟩⟩⟩⟩⟩⟩⟩⟩⟩⟩⟩⟩⟩⟩⟩⟩⟩⟩⟩⟩⟩
noncomputable def tb94 : List Fact := [q2, q4, q5, q6, q10, q12, q13, q14, q16, q20, q22, q23, q24, q26, q28, q32, q34, q35, q36, q38, q40, q42, q46, q48, q49, q50, q52, q54, q56, q58, q62, q64, q65, q66, q68, q70, q72, q74, q76, q80, q82, q83, q84, q86, q88, q90, q92, q94, q96]
theorem tb94_ok : ∀ q ∈ tb94, chkF (run E2 100000).call 94 q = true := List.forall_mem_cons.2 ⟨q2_ok, List.forall_mem_cons.2 ⟨q4_ok, List.forall_mem_cons.2 ⟨q5_ok, List.forall_mem_cons.2 ⟨q6_ok, List.forall_mem_cons.2 ⟨q10_ok, List.forall_mem_cons.2 ⟨q12_ok, List.forall_mem_cons.2 ⟨q13_ok, List.forall_mem_cons.2 ⟨q14_ok, List.forall_mem_cons.2 ⟨q16_ok, List.forall_mem_cons.2 ⟨q20_ok, List.forall_mem_cons.2 ⟨q22_ok, List.forall_mem_cons.2 ⟨q23_ok, List.forall_mem_cons.2 ⟨q24_ok, List.forall_mem_cons.2 ⟨q26_ok, List.forall_mem_cons.2 ⟨q28_ok, List.forall_mem_cons.2 ⟨q32_ok, List.forall_mem_cons.2 ⟨q34_ok, List.forall_mem_cons.2 ⟨q35_ok, List.forall_mem_cons.2 ⟨q36_ok, List.forall_mem_cons.2 ⟨q38_ok, List.forall_mem_cons.2 ⟨q40_ok, List.forall_mem_cons.2 ⟨q42_ok, List.forall_mem_cons.2 ⟨q46_ok, List.forall_mem_cons.2 ⟨q48_ok, List.forall_mem_cons.2 ⟨q49_ok, List.forall_mem_cons.2 ⟨q50_ok, List.forall_mem_cons.2 ⟨q52_ok, List.forall_mem_cons.2 ⟨q54_ok, List.forall_mem_cons.2 ⟨q56_ok, List.forall_mem_cons.2 ⟨q58_ok, List.forall_mem_cons.2 ⟨q62_ok, List.forall_mem_cons.2 ⟨q64_ok, List.forall_mem_cons.2 ⟨q65_ok, List.forall_mem_cons.2 ⟨q66_ok, List.forall_mem_cons.2 ⟨q68_ok, List.forall_mem_cons.2 ⟨q70_ok, List.forall_mem_cons.2 ⟨q72_ok, List.forall_mem_cons.2 ⟨q74_ok, List.forall_mem_cons.2 ⟨q76_ok, List.forall_mem_cons.2 ⟨q80_ok, List.forall_mem_cons.2 ⟨q82_ok, List.forall_mem_cons.2 ⟨q83_ok, List.forall_mem_cons.2 ⟨q84_ok, List.forall_mem_cons.2 ⟨q86_ok, List.forall_mem_cons.2 ⟨q88_ok, List.forall_mem_cons.2 ⟨q90_ok, List.forall_mem_cons.2 ⟨q92_ok, List.forall_mem_cons.2 ⟨q94_ok, List.forall_mem_cons.2 ⟨q96_ok, fun _ h => absurd h List.not_mem_nil⟩⟩⟩⟩⟩⟩⟩⟩⟩⟩⟩⟩⟩⟩⟩⟩⟩⟩⟩⟩⟩⟩⟩⟩⟩⟩⟩⟩⟩⟩⟩⟩⟩⟩⟩⟩⟩⟩⟩⟩⟩⟩⟩⟩⟩⟩⟩⟩⟩
noncomputable def sums3 (f : Nat) : Option (Nat → List TV → St → Option (TV × St)) := bsel (Nat.beq f 94) (some (factG tb94)) (bsel (Nat.beq f 16) (some (factG tb16)) (bsel (Nat.beq f 10) (some (factG tb10)) none))
noncomputable def E3 : Env := mkE sums3
theorem sumSound3 : SumSound Tryz.prog E3 := by
  intro f g h
  replace h : bsel (Nat.beq f 94) (some (factG tb94)) (bsel (Nat.beq f 16) (some (factG tb16)) (bsel (Nat.beq f 10) (some (factG tb10)) none)) = some g := h
  cases hb94 : Nat.beq f 94 with
  | true =>
    rw [hb94, bsel_true] at h
    cases h
    have := Nat.eq_of_beq_eq_true hb94
    subst this
    exact @fact_sound _ (run E2 100000).call (fun h => (sound2 100000).call h) _ _ tb94_ok
  | false =>
  rw [hb94, bsel_false] at h
  cases hb16 : Nat.beq f 16 with
  | true =>
    rw [hb16, bsel_true] at h
    cases h
    have := Nat.eq_of_beq_eq_true hb16
    subst this
    exact @fact_sound _ (run E2 100000).call (fun h => (sound2 100000).call h) _ _ tb16_ok
  | false =>
  rw [hb16, bsel_false] at h
  cases hb10 : Nat.beq f 10 with
  | true =>
    rw [hb10, bsel_true] at h
    cases h
    have := Nat.eq_of_beq_eq_true hb10
    subst this
    exact @fact_sound _ (run E2 100000).call (fun h => (sound2 100000).call h) _ _ tb10_ok
  | false =>
  rw [hb10, bsel_false] at h
  cases h
theorem sound3 (n : Nat) : EvSound Tryz.prog n (run E3 n) := run_sound (progOk _) sumSound3 (draw_sound (progOk _)) n
end Go.Abs.Tryz
