/-
  WHAT IS PROVED: for every text the law reliquarylaw23.WalkParses returns true and leaves its argument as it was: the names that walk.Parse finds in a path, whether it begins at the top, and what is refused, are those of the document's own Parse.
  CONDITIONS: those that the given row and its card bear: the two package-level tables start as the program's text lays them (tied by the given text Tie); 'unfollowed' and 'recurses' as the row says; no other condition. The card ties the tables to the pruned copy of the project.
  HOW: walk.Parse and the reference's Parse are walked once each (PParse, PRef), a plain law says that the two are one (PLaw); the law's own example, which makes a whole file system, is run by a proved abstract interpreter of the model's code (the texts M..), inside the kernel.
-/
import Derived.Test.YtfephhdmijbknaaGreatDoorWParses
import Derived.Test.YtfephhdmijbknaaGreatDoorCards
import Derived.Test.YtfephhdmijbknaaGreatDoorTie
import Derived.ProofKit
import Derived.LaidMore
import Derived.OpenShut
import Derived.Stop.Joined
import Derived.SevenTiedAt
set_option linter.unusedVariables false
namespace Go.Proofs.YtfephhdmijbknaaGreatDoor
open Go.ChangeShapes Go.WideShapes Go.ChangeAt Go.WideMaps Go.WideElems Go.RowKit Go.ChangeMaps
open Go.Abs.Tryz (Kept door_met start_of_laid own)
abbrev laid2 {H : Type} : List (String × DataW H) := [("reliquary/cipher.quarters", Rows.laid_reliquary_cipher_quarters), ("reliquary/digest.k", Rows.laid_reliquary_digest_k)]

set_option maxRecDepth 100000 in
theorem walkParses_lifted (os : Os) (started : os.Started) (H : Type) (enc : TypeId × Value → H) :
    ReturnsInHanded {} Tryz.checked os 3 .any (fun w args => (Rows.walkParsesSpec.pre enc Tryz.prog Tryz.f3 [] false w args ∧ laidMetH Tryz.prog Go.Abs.Tryz.laid2 w) ∧ sizedMet enc Tryz.prog Tryz.f3 (OpenSpec.ofChange Rows.walkParsesSpec) false w args)
      (Rows.walkParsesSpec.post enc Tryz.prog Tryz.f3 false true false false) := by
  refine returnsInHanded_of_change_and (C := Tryz.checked) (X := fun w _ => laidMetH Tryz.prog Go.Abs.Tryz.laid2 w) (fun _ _ _ hh h => h.of_heap hh) own started (by kernel_rfl) Tryz.func3
    (ChangeSpec.witness_shaped (enc := enc) (C := Tryz.checked) (os := os) (X := fun w _ => laidMetH Tryz.prog Go.Abs.Tryz.laid2 w) false (World.doorLaid Tryz.prog 400 os) #[.string ByteArray.empty] 8 rfl (World.shaped_of_RefB (by kernel_rfl) (by kernel_rfl)) (by kernel_rfl) (by kernel_rfl) (by kernel_rfl) (door_met os _)) ?_
  intro W base args ds gs before hval0 hW _ _ hL _
  have hval : ∀ (j : Nat) t v, Tryz.f3.params[j]? = some t → args[j]? = some v → Value.okWide Tryz.prog W .any base t v := hval0
  have hW' := hW
  obtain ⟨p, q, hA0, hV, rfl, hfz, hnd⟩ := hW
  have hA : DataW.TrodAll enc Tryz.prog W 0 (fun _ => true) true Tryz.f3.params.toList args.toList ds p := hA0
  rw [Tryz.params3] at hA hval
  obtain ⟨v0, d0, rfl, rfl, h0⟩ := trodAll_one hA
  obtain ⟨rfl, rfl⟩ := trodVars_none hV
  obtain ⟨s, rfl, rfl, rfl, hs⟩ := open_string Tryz.underlying9 (hval 0 9 v0 rfl rfl) h0
  obtain ⟨e1, e2, g1, g2⟩ := start_of_laid hL
  clear hA0 hval0
  simp only [List.append_nil] at hW'
  refine (parses_walk s g1 g2).mono fun e W' ⟨he, hk⟩ => ?_
  subst he
  refine ⟨_, rfl, [.lit (.string s.data.toList)], [], [], [], _, [], hW', trodAll_mk1 (shut_bool Tryz.underlying4 _), trodAll_mk1 (shut_string Tryz.underlying9 hs), rfl, ?_, fun h => by cases h⟩
  exact Go.Abs.kept_but ⟨hk.1, hk.2.1, hk.2.2.2⟩ _

theorem walkParses_holds : Rows.WalkParsesSaid :=
  OpenClaim.holds_of_wide 3 Tryz.f3 rfl rfl rfl rfl rfl rfl rfl ⟨rfl, rfl, rfl, rfl, rfl⟩ rfl rfl rfl rfl rfl (by kernel_rfl) Tryz.func3 (by kernel_rfl)
    (of_decide_eq_true (by kernel_rfl)) (by unfold Func.isWrapper; first | (rw [if_pos (by decide +kernel)]; kernel_rfl) | (rw [if_neg (by decide +kernel)]; exact ⟨rfl, rfl⟩))
    (fun os started H enc _ => walkParses_lifted os started H enc)
/-- ████ THE TIED CARD ████ -/
theorem walkParses_card : Rows.WalkParsesCardSaid :=
  Claim7.holds_tied_plain_at .later [] [.data, .data] true (true, "d310c06c965a55be65c6843ea40b03561008a864325004f7b6100f3dfaec7a35") false
    walkParses_holds (fun _ h => by cases h) (by kernel_rfl) (fun _ h => by cases h) walkParses_row_tie rfl ⟨rfl, rfl⟩ (by kernel_rfl) rfl
    (fun f fn hf hfn => by
      obtain rfl : f = 3 := Option.some.inj ((show Tryz.prog.funcNamed "reliquary/reliquarylaw23.WalkParses" = some 3 by kernel_rfl).symm.trans hf) |>.symm
      obtain rfl : fn = Tryz.f3 := (Option.some.inj (Tryz.func3.symm.trans hfn)).symm
      exact ⟨by kernel_rfl, fun j t ht => by
        rw [Tryz.params3] at ht
        have hm : t ∈ [9] := by simpa using Array.mem_of_getElem? ht
        have hall : ([9].all fun u => !Tryz.prog.wantsStandIn u) = true := by kernel_rfl
        exact (show Tryz.prog.wantsStandIn t = false by simpa using List.all_eq_true.1 hall t hm)⟩)
    (by kernel_rfl)
end Go.Proofs.YtfephhdmijbknaaGreatDoor
#print axioms Go.Proofs.YtfephhdmijbknaaGreatDoor.walkParses_card
