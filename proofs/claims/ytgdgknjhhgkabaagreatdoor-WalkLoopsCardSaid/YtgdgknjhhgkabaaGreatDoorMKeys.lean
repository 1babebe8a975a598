/- By gen_env.py: the keys of a master key of noughts. -/
import Derived.Test.YtgdgknjhhgkabaaGreatDoorMKeyA
import Derived.Test.YtgdgknjhhgkabaaGreatDoorMKeyB
import Derived.Test.YtgdgknjhhgkabaaGreatDoorMKeyC
import Derived.Test.YtgdgknjhhgkabaaGreatDoorMKeyD
set_option linter.unusedVariables false
set_option linter.unusedSimpArgs false
namespace Go.Abs.Tryz
open Go.Abs Go.Proofs
set_option maxRecDepth 1000000
noncomputable def tbl1 : List ME := [ent0, ent1, ent2, ent3, ent4, ent5, ent6, ent7, ent8, ent9, ent10, ent11]
theorem plainK : plainCVs kdata = true := by kernel_rfl
theorem plainQ : plainCVs qdata = true := by kernel_rfl
theorem tbl1_ok : ∀ p ∈ tbl1, ∀ e1 e2, isRes ((run E0 100000).call 4 226 p.1 ⟨hs e1 e2 p.2.1, 4⟩) p.2.2 = true := by
  intro p hp e1 e2
  simp only [tbl1, List.mem_cons, List.not_mem_nil, or_false] at hp
  rcases hp with rfl | rfl | rfl | rfl | rfl | rfl | rfl | rfl | rfl | rfl | rfl | rfl
  · exact ent0_run e1 e2
  · exact ent1_run e1 e2
  · exact ent2_run e1 e2
  · exact ent3_run e1 e2
  · exact ent4_run e1 e2
  · exact ent5_run e1 e2
  · exact ent6_run e1 e2
  · exact ent7_run e1 e2
  · exact ent8_run e1 e2
  · exact ent9_run e1 e2
  · exact ent10_run e1 e2
  · exact ent11_run e1 e2
noncomputable def sums1 (f : Nat) : Option (Nat → List TV → St → Option (TV × St)) := bsel (Nat.beq f 226) (some (fun _ => memoG kdata 64 qdata 32 tbl1)) none
noncomputable def E1 : Env := mkE sums1
theorem sumSound1 : SumSound Tryz.prog E1 := by
  intro f g h
  obtain ⟨h1, h2⟩ := bsel_some (show bsel (Nat.beq f 226) (some (fun _ => memoG kdata 64 qdata 32 tbl1)) none = some g from h)
  cases h2
  have := Nat.eq_of_beq_eq_true h1; subst this
  exact @memo_sound _ (run E0 100000).call (fun h => sound0 h) _ _ _ _ _ _ plainK plainQ tbl1_ok
theorem sound1 : CallSound Tryz.prog (run E1 100000).call := (run_sound (progOk _) sumSound1 (draw_sound (progOk _)) 100000).call
noncomputable def keyEnt : ME := ([.one (.sl 3 0 32 32)], .cells (nats .u8 [0, 0, 0, 0, 0, 0, 0, 0, 0, 0, 0, 0, 0, 0, 0, 0, 0, 0, 0, 0, 0, 0, 0, 0, 0, 0, 0, 0, 0, 0, 0, 0]) 32 5 true false, .tup [(true, nats .u8 [41, 193, 141, 49, 112, 110, 237, 24, 218, 254, 227, 9, 16, 24, 28, 110, 91, 199, 91, 38, 58, 98, 121, 55, 42, 199, 73, 250, 69, 14, 173, 69, 78, 32, 95, 173, 9, 9, 79, 98, 177, 122, 149, 212, 244, 96, 95, 146, 30, 15, 118, 59, 136, 134, 237, 24, 152, 127, 226, 17, 51, 64, 5, 234, 162, 35, 174, 144, 93, 115, 206, 8, 142, 172, 43, 157, 112, 60, 103, 248, 61, 5, 123, 98, 11, 220, 50, 96, 30, 179, 38, 32, 202, 238, 169, 158]), (false, [.int .i64 0])])
theorem keyEnt_run (e1 e2 : Nat) : isRes ((run E1 100000).call 4 64 keyEnt.1 ⟨hs e1 e2 keyEnt.2.1, 4⟩) keyEnt.2.2 = true := by kernel_rfl
noncomputable def tbl2 : List ME := [keyEnt]
theorem tbl2_ok : ∀ p ∈ tbl2, ∀ e1 e2, isRes ((run E1 100000).call 4 64 p.1 ⟨hs e1 e2 p.2.1, 4⟩) p.2.2 = true := by
  intro p hp e1 e2
  simp only [tbl2, List.mem_cons, List.not_mem_nil, or_false] at hp
  subst hp
  exact keyEnt_run e1 e2
noncomputable def sums2 (f : Nat) : Option (Nat → List TV → St → Option (TV × St)) := bsel (Nat.beq f 64) (some (fun _ => memoG kdata 64 qdata 32 tbl2)) none
noncomputable def E2 : Env := mkE sums2
theorem sumSound2 : SumSound Tryz.prog E2 := by
  intro f g h
  obtain ⟨h1, h2⟩ := bsel_some (show bsel (Nat.beq f 64) (some (fun _ => memoG kdata 64 qdata 32 tbl2)) none = some g from h)
  cases h2
  have := Nat.eq_of_beq_eq_true h1; subst this
  exact @memo_sound _ (run E1 100000).call (fun h => sound1 h) _ _ _ _ _ _ plainK plainQ tbl2_ok
theorem sound2 (n : Nat) : EvSound Tryz.prog n (run E2 n) := run_sound (progOk _) sumSound2 (draw_sound (progOk _)) n
end Go.Abs.Tryz
