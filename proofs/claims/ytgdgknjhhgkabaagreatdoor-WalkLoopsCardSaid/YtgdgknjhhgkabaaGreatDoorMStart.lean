/- By gen_env.py: what the listed variables hold at the start; 'awake' hands back true. -/
import Derived.Test.YtgdgknjhhgkabaaGreatDoorMStart0
import Derived.Test.YtgdgknjhhgkabaaGreatDoorMKeys
import Derived.Test.YtgdgknjhhgkabaaGreatDoorRows
set_option linter.unusedVariables false
set_option linter.unusedSimpArgs false
namespace Go.Abs.Tryz
open Go Go.Abs Go.Proofs Go.ChangeShapes Go.WideShapes Go.ChangeAt Go.RowKit
set_option maxRecDepth 1000000
def qLL : List (List Nat) := [[0, 4, 8, 12], [1, 5, 9, 13], [2, 6, 10, 14], [3, 7, 11, 15], [0, 5, 10, 15], [1, 6, 11, 12], [2, 7, 8, 13], [3, 4, 9, 14]]
theorem qFlat : qLL.flatten = qList := by rfl
theorem gQ : Tryz.prog.globalNamed "reliquary/cipher.quarters" = some 2 := by kernel_rfl
theorem gK : Tryz.prog.globalNamed "reliquary/digest.k" = some 1 := by kernel_rfl
theorem tQ : (Tryz.prog.globals[2]?).map (·.type) = some 351 := by kernel_rfl
theorem tK : (Tryz.prog.globals[1]?).map (·.type) = some 344 := by kernel_rfl
theorem uQ : Tryz.prog.underlying 351 = some (.array 8 350) := by kernel_rfl
theorem uQ2 : Tryz.prog.underlying 350 = some (.array 4 3) := by kernel_rfl
theorem uI : Tryz.prog.underlying 3 = some (.int .i64) := by kernel_rfl
theorem uK : Tryz.prog.underlying 344 = some (.array 64 44) := by kernel_rfl
theorem uU : Tryz.prog.underlying 44 = some (.int .u32) := by kernel_rfl
theorem cQ : Tryz.prog.cellsOf 351 = 8 * 4 := by kernel_rfl
theorem cQ2 : Tryz.prog.cellsOf 350 = 4 := by kernel_rfl
theorem cI : Tryz.prog.cellsOf 3 = 1 := by kernel_rfl
theorem cK : Tryz.prog.cellsOf 344 = 64 := by kernel_rfl
theorem cU : Tryz.prog.cellsOf 44 = 1 := by kernel_rfl
abbrev laid2 : List (String × DataW Unit) := [("reliquary/cipher.quarters", YtgdgknjhhgkabaaGreatDoor.Rows.laid_reliquary_cipher_quarters), ("reliquary/digest.k", YtgdgknjhhgkabaaGreatDoor.Rows.laid_reliquary_digest_k)]
theorem dQ : (YtgdgknjhhgkabaaGreatDoor.Rows.laid_reliquary_cipher_quarters : DataW Unit) = .agg (qLL.map fun l => .agg (l.map fun x => .lit (.int .i64 (Int.ofNat x)))) := by kernel_rfl
theorem dK : (YtgdgknjhhgkabaaGreatDoor.Rows.laid_reliquary_digest_k : DataW Unit) = .agg (kList.map fun x => .lit (.int .u32 (Int.ofNat x))) := by kernel_rfl
theorem start_of_laid {W : World} (h : laidMetH Tryz.prog laid2 W) : ∃ e1 e2, W.heap[1]? = some (.cells (vals .u32 kList).toArray e1 (0, 0)) ∧ W.heap[2]? = some (.cells (vals .i64 qList).toArray e2 (0, 0)) := by
  replace h : laidMet Tryz.prog laid2 W := h
  obtain ⟨ps, ⟨g0, t0, cs0, f0, p0, q0, hg0, ht0, hv0, hd0, ⟨g1, t1, cs1, f1, p1, q1, hg1, ht1, hv1, hd1, hnil, hq0⟩, hps⟩, hnd, hrow⟩ := h
  obtain rfl := Option.some.inj (gQ.symm.trans hg0)
  obtain rfl := Option.some.inj (gK.symm.trans hg1)
  obtain rfl := Option.some.inj (tQ.symm.trans ht0)
  obtain rfl := Option.some.inj (tK.symm.trans ht1)
  rw [dQ] at hd0
  rw [dK] at hd1
  have c0 := arr_arr_ints uQ uQ2 uI cI cQ2 cQ hd0
  have c1 := (arr_ints uK uU cU cK hd1).1
  rw [qFlat] at c0
  have s0 : cs0.size = 32 := by have := congrArg List.length c0; simpa [vals, qList] using this
  have s1 : cs1.size = 64 := by have := congrArg List.length c1; simpa [vals, kList] using this
  have get : ∀ {n : String} {g : Nat} {cs : Array Value}, Tryz.prog.globalNamed n = some g → W.var? Tryz.prog n = some cs → MemPlace.cell g 0 ∈ ps → ∃ e, W.heap[g]? = some (.cells cs e (0, 0)) := fun {n g cs} hg hv hm => by
    obtain ⟨⟨c, t, hh⟩, _⟩ := hrow g 0 hm
    simp only [World.var?, hg, Option.bind_some, hh, Option.some.injEq] at hv
    subst hv
    exact ⟨t, hh⟩
  obtain ⟨e2, h2⟩ := get gQ hv0 (by rw [hps, s0]; simp [MemPlace.row])
  obtain ⟨e1, h1⟩ := get gK hv1 (by rw [hps, hq0, s1]; simp [MemPlace.row])
  refine ⟨e1, e2, ?_, ?_⟩
  · rw [h1, ← c1]
  · rw [h2, ← c0]

/-- the memory that was there is as it was, and so is what was put out -/
def Kept (W W' : World) : Prop := W'.os = W.os ∧ W'.output = W.output ∧ W.heap.size ≤ W'.heap.size ∧ ∀ b, b < W.heap.size → W'.heap[b]? = W.heap[b]?
theorem Kept.trans {W W' W'' : World} (h : Kept W W') (k : Kept W' W'') : Kept W W'' :=
  ⟨k.1.trans h.1, k.2.1.trans h.2.1, Nat.le_trans h.2.2.1 k.2.2.1, fun b hb => (k.2.2.2 b (Nat.lt_of_lt_of_le hb h.2.2.1)).trans (h.2.2.2 b hb)⟩
noncomputable def h0 (e1 e2 : Nat) : T AO := startH kdata qdata 64 32 e1 e2
theorem start {W : World} {e1 e2 : Nat} (h1 : W.heap[1]? = some (.cells (vals .u32 kList).toArray e1 (0, 0))) (h2 : W.heap[2]? = some (.cells (vals .i64 qList).toArray e2 (0, 0))) : StMod (startR 64 32) ⟨h0 e1 e2, 3⟩ W :=
  start_mod h1 h2 rfl rfl
theorem kept {W W' : World} {e1 e2 : Nat} {ρ' : Rho} {h' : Nat → Option AO} {c' : Nat} (m : StMod (startR 64 32) ⟨h0 e1 e2, 3⟩ W) (x : Ext 3 (startR 64 32) (h0 e1 e2).get 3 W ρ' h' c' W') : Kept W W' := by
  have := start_kept (intCVs_nats _ kList) (intCVs_nats _ qList) m x
  exact ⟨this.1, this.2.1, x.size, this.2.2⟩
noncomputable def isTrue (r : R) : Bool := isRes r (.one (.bool true))
/-- a call that a run from the start tells true -/
theorem true_call {W : World} {e1 e2 f : Nat} {args : List TV} {vs : Array Value} (h1 : W.heap[1]? = some (.cells (vals .u32 kList).toArray e1 (0, 0))) (h2 : W.heap[2]? = some (.cells (vals .i64 qList).toArray e2 (0, 0)))
    (hr : isTrue ((run E2 100000).call 3 f args ⟨h0 e1 e2, 3⟩) = true) (ha : TsRel (startR 64 32) args vs.toList) : Calls Tryz.prog f vs W fun e W' => e = .returned (.bool true) ∧ Kept W W' := by
  obtain ⟨st', hrun⟩ := isRes_spec hr
  have m := start h1 h2
  refine ((sound2 100000).call hrun m (Nat.le_refl _) (start_glob _ _) ha).2.mono fun ex W' hres => ?_
  cases ex with
  | panicked _ => exact hres.elim
  | outgrown => exact hres.elim
  | returned x =>
    obtain ⟨ρ', k1, k2⟩ := hres
    have k1 : x = .bool true := k1
    exact ⟨by rw [k1], kept m k2⟩
theorem awake_run (e1 e2 : Nat) : isTrue ((run E2 100000).call 3 6 [] ⟨h0 e1 e2, 3⟩) = true := by kernel_rfl
theorem awake_calls {W : World} {e1 e2 : Nat} (h1 : W.heap[1]? = some (.cells (vals .u32 kList).toArray e1 (0, 0))) (h2 : W.heap[2]? = some (.cells (vals .i64 qList).toArray e2 (0, 0))) :
    Calls Tryz.prog 6 #[] W fun e W' => e = .returned (.bool true) ∧ Kept W W' := true_call h1 h2 (awake_run e1 e2) rfl
theorem own : ownKnob Tryz.prog.godebug = none := by kernel_rfl
/-- the door's own heap meets what is asked of the start -/
theorem door_met (os : Os) (args : Array Value) : laidMetH Tryz.prog laid2 ((World.doorLaid Tryz.prog 400 os).forCall (fun _ _ => 0) ⟨#[], args, []⟩).memory :=
  laidMetH_of_parts3 (fuel := 8) (laidMet_of_run' 8 (by kernel_rfl) (by kernel_rfl)) (by kernel_rfl) (by kernel_rfl)
end Go.Abs.Tryz
