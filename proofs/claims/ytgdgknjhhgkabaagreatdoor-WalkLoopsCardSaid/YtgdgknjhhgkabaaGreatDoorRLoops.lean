/-
  WHAT IS PROVED: for every byte the law reliquarylaw23.WalkLoops returns true: a row of links leads to its end, if it isn't too long; one that leads to itself doesn't.
  CONDITIONS: those that the given row and its card bear: the two package-level tables start as the program's text lays them (tied by the given text Tie); 'unfollowed' and 'recurses' as the row says; no other condition. The card ties the tables to the pruned copy of the project.
  HOW: a proved abstract interpreter of the model's code (the texts M..) is run inside the kernel: the law's first part once, its second part once for each case of its bytes' remainders; the calls of the second part are answered off tables of facts, each told by a run of its own on the few objects that it touches.
-/
import Derived.Test.YtgdgknjhhgkabaaGreatDoorLLaw
import Derived.Test.YtgdgknjhhgkabaaGreatDoorCards
import Derived.Test.YtgdgknjhhgkabaaGreatDoorTie
import Derived.ProofKit
import Derived.LaidMore
import Derived.OpenShut
import Derived.Stop.Joined
import Derived.SevenTiedAt
set_option linter.unusedVariables false
set_option linter.unusedSimpArgs false
set_option linter.unusedVariables false
namespace Go.Proofs.YtgdgknjhhgkabaaGreatDoor
open Go.ChangeShapes Go.WideShapes Go.ChangeAt Go.WideMaps Go.WideElems Go.RowKit Go.ChangeMaps
open Go.Abs.Tryz (Kept door_met start_of_laid own l_calls)

theorem byte_of {n : Int} (h : (Lit.int .u8 n).wf = true) : ∃ d : Nat, d < 256 ∧ n = Int.ofNat d := by
  simp only [Lit.wf, Bool.and_eq_true, decide_eq_true_eq] at h
  have m0 : IntKind.min .u8 = 0 := by decide
  have m1 : IntKind.max .u8 = 255 := by decide
  exact ⟨n.toNat, by omega, by show n = ((n.toNat : Nat) : Int); omega⟩

set_option maxRecDepth 100000 in
theorem walkLoops_lifted (os : Os) (started : os.Started) (H : Type) (enc : TypeId × Value → H) :
    ReturnsInHanded {} Tryz.checked os 3 .any (fun w args => (Rows.walkLoopsSpec.pre enc Tryz.prog Tryz.f3 [] false w args ∧ laidMetH Tryz.prog Go.Abs.Tryz.laid2 w) ∧ sizedMet enc Tryz.prog Tryz.f3 (OpenSpec.ofChange Rows.walkLoopsSpec) false w args)
      (Rows.walkLoopsSpec.post enc Tryz.prog Tryz.f3 false true false false) := by
  refine returnsInHanded_of_change_and (C := Tryz.checked) (X := fun w _ => laidMetH Tryz.prog Go.Abs.Tryz.laid2 w) (fun _ _ _ hh h => h.of_heap hh) own started (by kernel_rfl) Tryz.func3
    (ChangeSpec.witness_shaped (enc := enc) (C := Tryz.checked) (os := os) (X := fun w _ => laidMetH Tryz.prog Go.Abs.Tryz.laid2 w) false (World.doorLaid Tryz.prog 400 os) #[.int .u8 0] 8 rfl (World.shaped_of_RefB (by kernel_rfl) (by kernel_rfl)) (by kernel_rfl) (by kernel_rfl) (by kernel_rfl) (door_met os _)) ?_
  intro W base args ds gs before hval0 hW _ _ hL _
  have hval : ∀ (j : Nat) t v, Tryz.f3.params[j]? = some t → args[j]? = some v → Value.okWide Tryz.prog W .any base t v := hval0
  have hW' := hW
  obtain ⟨p, q, hA0, hV, rfl, hfz, hnd⟩ := hW
  have hA : DataW.TrodAll enc Tryz.prog W 0 (fun _ => true) true Tryz.f3.params.toList args.toList ds p := hA0
  rw [Tryz.params3] at hA hval
  obtain ⟨v0, d0, rfl, rfl, h0⟩ := trodAll_one hA
  obtain ⟨rfl, rfl⟩ := trodVars_none hV
  obtain ⟨a, rfl, rfl, rfl, wa⟩ := open_int Tryz.underlying5 (hval 0 5 v0 rfl rfl) h0
  obtain ⟨e1, e2, g1, g2⟩ := start_of_laid hL
  clear hA0 hval0
  simp only [List.append_nil] at hW'
  obtain ⟨d, hd, rfl⟩ := byte_of wa
  refine (l_calls g1 g2 d hd).mono fun e W' ⟨he, hk⟩ => ?_
  subst he
  refine ⟨_, rfl, [.lit (.int .u8 (Int.ofNat d))], [], _, [], _, [], hW', trodAll_mk1 (shut_bool Tryz.underlying4 _), trodAll_mk1 (shut_int Tryz.underlying5 wa), rfl, ?_, fun h => by cases h⟩
  exact Go.Abs.kept_but ⟨hk.1, hk.2.1, hk.2.2.2⟩ _

theorem walkLoops_holds : Rows.WalkLoopsSaid :=
  OpenClaim.holds_of_wide 3 Tryz.f3 rfl rfl rfl rfl rfl rfl rfl ⟨rfl, rfl, rfl, rfl, rfl⟩ rfl rfl rfl rfl rfl (by kernel_rfl) Tryz.func3 (by kernel_rfl)
    (of_decide_eq_true (by kernel_rfl)) (by unfold Func.isWrapper; first | (rw [if_pos (by decide +kernel)]; kernel_rfl) | (rw [if_neg (by decide +kernel)]; exact ⟨rfl, rfl⟩))
    (fun os started H enc _ => walkLoops_lifted os started H enc)
/-- ████ THE TIED CARD ████ -/
theorem walkLoops_card : Rows.WalkLoopsCardSaid :=
  Claim7.holds_tied_plain_at .later [] [.data, .data] true (true, "1df3326edb6c556963d863af63506d5d9ff664d82acbe83423c5de290ba1ce5e") false
    walkLoops_holds (fun _ h => by cases h) (by kernel_rfl) (fun _ h => by cases h) walkLoops_row_tie rfl ⟨rfl, rfl⟩ (by kernel_rfl) rfl
    (fun f fn hf hfn => by
      obtain rfl : f = 3 := Option.some.inj ((show Tryz.prog.funcNamed "reliquary/reliquarylaw23.WalkLoops" = some 3 by kernel_rfl).symm.trans hf) |>.symm
      obtain rfl : fn = Tryz.f3 := (Option.some.inj (Tryz.func3.symm.trans hfn)).symm
      exact ⟨by kernel_rfl, fun j t ht => by
        rw [Tryz.params3] at ht
        have hm : t ∈ [5] := by simpa using Array.mem_of_getElem? ht
        have hall : ([5].all fun u => !Tryz.prog.wantsStandIn u) = true := by kernel_rfl
        exact (show Tryz.prog.wantsStandIn t = false by simpa using List.all_eq_true.1 hall t hm)⟩)
    (by kernel_rfl)
end Go.Proofs.YtgdgknjhhgkabaaGreatDoor
#print axioms Go.Proofs.YtgdgknjhhgkabaaGreatDoor.walkLoops_card
