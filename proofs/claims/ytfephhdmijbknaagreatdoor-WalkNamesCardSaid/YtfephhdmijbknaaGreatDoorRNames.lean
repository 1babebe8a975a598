/-
  WHAT IS PROVED: for every row of names, every row of separators and either value of 'first' the law reliquarylaw23.WalkNames returns true and leaves its arguments as they were: names that are joined, however many parts are needless, are parsed as they were, or the path is too long and refused.
  CONDITIONS: those that the given row and its card bear: the two package-level tables start as the program's text lays them (tied by the given text Tie); 'unfollowed' and 'recurses' as the row says; no other condition. The card ties the tables to the pruned copy of the project.
  HOW: walk.Parse is walked once (PParse); a plain law says what is parsed of joined names (NLaw, by the reference's pass over the bytes, PLaw); the law's own example, which makes a whole file system, is run by a proved abstract interpreter of the model's code (the texts M..), inside the kernel.
-/
import Derived.Test.YtfephhdmijbknaaGreatDoorWNames
import Derived.Test.YtfephhdmijbknaaGreatDoorCards
import Derived.Test.YtfephhdmijbknaaGreatDoorTie
import Derived.ProofKit
import Derived.LaidMore
import Derived.OpenShut
import Derived.Stop.Joined
import Derived.SevenTiedAt
set_option linter.unusedVariables false
set_option linter.unusedSimpArgs false
set_option linter.unusedVariables false
set_option maxRecDepth 100000
namespace Go.Proofs.YtfephhdmijbknaaGreatDoor
open Go.ChangeShapes Go.WideShapes Go.ChangeAt Go.WideMaps Go.WideElems Go.RowKit Go.ChangeMaps
open Go.Abs.Tryz (Kept door_met start_of_laid own)

theorem add_block (a : Addr) (i : Nat) : (a.add i).block = a.block := by unfold Addr.add; split <;> rfl
theorem cells9 : Tryz.prog.cellsOf 9 = 1 := by kernel_rfl
theorem cells5 : Tryz.prog.cellsOf 5 = 1 := by kernel_rfl
theorem laidOutN : laidOutB Tryz.prog = true := by kernel_rfl
theorem kept_trod {H : Type} {enc : TypeId × Value → H} {t : TypeId} (hr : Tryz.prog.readableRec t = true) (hrow : t < Tryz.prog.types.size) {W W' : World} {v : Value} {d : DataW H} {ps : List MemPlace}
    (h : DataW.Trod enc Tryz.prog W 0 (fun _ => true) true t v d ps) (hk : Kept W W') (hlt : ∀ x ∈ ps, x.block < W.heap.size) :
    DataW.Trod enc Tryz.prog W' 0 (fun b => decide (b < W.heap.size)) true t v d ps := by
  have hb : Below W.heap.size W { W' with tape := W.tape } := ⟨hk.1, rfl, hk.2.1, hk.2.2.1, hk.2.2.2⟩
  exact DataW.Trod.of_heap (w := { W' with tape := W.tape }) (w' := W') rfl (Below.trod laidOutN hr hrow h hb hlt)

/-- a row of texts that came in -/
theorem strings_row {H : Type} {enc : TypeId × Value → H} {W : World} {v : Value} {d : DataW H} {ps : List MemPlace} {base : Nat} (hval : Value.okWide Tryz.prog W .any base 23 v)
    (h : DataW.Trod enc Tryz.prog W 0 (fun _ => true) true 23 v d ps) : ∃ ns : List ByteArray, CellsOf (ns.map Value.string) v W ∧ ∀ p ∈ ps, p.block < W.heap.size := by
  obtain ⟨a0, len, cap, rfl⟩ := okWide_slice Tryz.underlying23 hval
  obtain ⟨fuel, hf⟩ := h
  rcases open_strings Tryz.underlying23 Tryz.underlying9 cells9 hf with ⟨h1, h2⟩ | ⟨a, n, cap', ss, h1, h2, h3, h4, h5, h6, h7, h8⟩
  · simp only [Value.cells, List.cons.injEq, and_true, Value.slice.injEq] at h1
    obtain ⟨rfl, rfl, rfl⟩ := h1
    simp only [Prod.mk.injEq] at h2
    exact ⟨[], ⟨none, 0, rfl, fun i hi => absurd hi (by simp)⟩, by rw [h2.2]; simp⟩
  · simp only [Value.cells, List.cons.injEq, and_true, Value.slice.injEq] at h1
    obtain ⟨rfl, rfl, rfl⟩ := h1
    simp only [Prod.mk.injEq] at h6
    simp only [if_true] at h5
    refine ⟨ss.take len, ⟨some a, cap, by simp [h5, Nat.min_eq_left h3], fun i hi => ⟨a, rfl, ?_⟩⟩, ?_⟩
    · have hi' : i < len ∧ i < ss.length := by simpa [Nat.lt_min] using hi
      rw [h7 i hi'.2, getElem!_pos _ i hi, List.getElem_map, List.getElem_take, List.getD_eq_getElem?_getD, List.getElem?_eq_getElem hi'.2]
      rfl
    · rw [h6.2]
      intro p hp
      obtain ⟨i, hi, rfl⟩ := MemPlace.mem_row.1 hp
      have := cell_lt' (h7 i hi)
      rw [add_block] at this
      exact this
theorem bytes_row {H : Type} {enc : TypeId × Value → H} {W : World} {v : Value} {d : DataW H} {ps : List MemPlace} {base : Nat} (hval : Value.okWide Tryz.prog W .any base 28 v)
    (h : DataW.Trod enc Tryz.prog W 0 (fun _ => true) true 28 v d ps) : ∃ sp : List Nat, CellsOf (sp.map fun (x : Nat) => Value.int .u8 (x : Int)) v W ∧ (∀ i, i < sp.length → sp[i]! < 256) ∧ ∀ p ∈ ps, p.block < W.heap.size := by
  obtain ⟨a0, len, cap, rfl⟩ := okWide_slice Tryz.underlying28 hval
  obtain ⟨fuel, hf⟩ := h
  rcases open_ints Tryz.underlying28 Tryz.underlying5 cells5 hf with ⟨h1, h2⟩ | ⟨a, n, cap', zs, h1, h2, h3, h4, h5, h6, h7, h8⟩
  · simp only [Value.cells, List.cons.injEq, and_true, Value.slice.injEq] at h1
    obtain ⟨rfl, rfl, rfl⟩ := h1
    simp only [Prod.mk.injEq] at h2
    exact ⟨[], ⟨none, 0, rfl, fun i hi => absurd hi (by simp)⟩, fun i hi => absurd hi (by simp), by rw [h2.2]; simp⟩
  · simp only [Value.cells, List.cons.injEq, and_true, Value.slice.injEq] at h1
    obtain ⟨rfl, rfl, rfl⟩ := h1
    simp only [Prod.mk.injEq] at h6
    simp only [if_true] at h5
    have hz : ∀ i (hi : i < zs.length), 0 ≤ zs[i] ∧ zs[i] < 256 := by
      intro i hi
      have := h8 zs[i] (List.getElem_mem hi)
      simp only [Lit.wf, Bool.and_eq_true, decide_eq_true_eq] at this
      have m0 : IntKind.min .u8 = 0 := by decide
      have m1 : IntKind.max .u8 = 255 := by decide
      omega
    refine ⟨(zs.take len).map Int.toNat, ⟨some a, cap, by simp [h5, Nat.min_eq_left h3], fun i hi => ⟨a, rfl, ?_⟩⟩, fun i hi => ?_, ?_⟩
    · have hi' : i < len ∧ i < zs.length := by simpa [Nat.lt_min] using hi
      rw [h7 i hi'.2, getElem!_pos _ i hi, List.getElem_map, List.getElem_map, List.getElem_take, List.getD_eq_getElem?_getD, List.getElem?_eq_getElem hi'.2]
      have := hz i hi'.2
      simp only [Option.getD_some, Option.some.injEq, Value.int.injEq, true_and]
      omega
    · have hi' : i < len ∧ i < zs.length := by simpa [Nat.lt_min] using hi
      rw [getElem!_pos _ i hi, List.getElem_map, List.getElem_take]
      have := hz i hi'.2
      omega
    · rw [h6.2]
      intro p hp
      obtain ⟨i, hi, rfl⟩ := MemPlace.mem_row.1 hp
      have := cell_lt' (h7 i hi)
      rw [add_block] at this
      exact this

set_option maxRecDepth 100000 in
theorem walkNames_lifted (os : Os) (started : os.Started) (H : Type) (enc : TypeId × Value → H) :
    ReturnsInHanded {} Tryz.checked os 4 .any (fun w args => (Rows.walkNamesSpec.pre enc Tryz.prog Tryz.f4 [] false w args ∧ laidMetH Tryz.prog Go.Abs.Tryz.laid2 w) ∧ sizedMet enc Tryz.prog Tryz.f4 (OpenSpec.ofChange Rows.walkNamesSpec) false w args)
      (Rows.walkNamesSpec.post enc Tryz.prog Tryz.f4 false true false false) := by
  refine returnsInHanded_of_change_and (C := Tryz.checked) (X := fun w _ => laidMetH Tryz.prog Go.Abs.Tryz.laid2 w) (fun _ _ _ hh h => h.of_heap hh) own started (by kernel_rfl) Tryz.func4
    (ChangeSpec.witness_shaped (enc := enc) (C := Tryz.checked) (os := os) (X := fun w _ => laidMetH Tryz.prog Go.Abs.Tryz.laid2 w) false (World.doorLaid Tryz.prog 400 os) #[.slice none 0 0, .slice none 0 0, .bool false] 8 rfl (World.shaped_of_RefB (by kernel_rfl) (by kernel_rfl)) (by kernel_rfl) (by kernel_rfl) (by kernel_rfl) (door_met os _)) ?_
  intro W base args ds gs before hval0 hW _ _ hL _
  have hval : ∀ (j : Nat) t v, Tryz.f4.params[j]? = some t → args[j]? = some v → Value.okWide Tryz.prog W .any base t v := hval0
  have hW' := hW
  obtain ⟨p, q, hA0, hV, rfl, hfz, hnd⟩ := hW
  have hA : DataW.TrodAll enc Tryz.prog W 0 (fun _ => true) true Tryz.f4.params.toList args.toList ds p := hA0
  rw [Tryz.params4] at hA hval
  obtain ⟨v0, v1, v2, d0, d1, d2, p0, p1, p2, rfl, rfl, rfl, t0, t1, t2⟩ := trodAll_three hA
  obtain ⟨rfl, rfl⟩ := trodVars_none hV
  obtain ⟨ns, hns, hp0⟩ := strings_row (hval 0 23 v0 rfl rfl) t0
  obtain ⟨sp, hsp, hsp2, hp1⟩ := bytes_row (hval 1 28 v1 rfl rfl) t1
  obtain ⟨first, rfl, rfl, rfl⟩ := open_bool Tryz.underlying4 (hval 2 4 v2 rfl rfl) t2
  obtain ⟨e1, e2, g1, g2⟩ := start_of_laid hL
  clear hA0 hval0
  simp only [List.append_nil] at hW'
  refine (names_walk ns sp first v0 v1 hns hsp hsp2 g1 g2).mono fun e W' ⟨he, hk⟩ => ?_
  subst he
  refine ⟨_, rfl, [d0, d1, .lit (.bool first)], [], _, [], _, [], hW', trodAll_mk1 (shut_bool Tryz.underlying4 _), trodAll_mk3 (kept_trod (by kernel_rfl) (of_decide_eq_true (by kernel_rfl)) t0 hk hp0) (kept_trod (by kernel_rfl) (of_decide_eq_true (by kernel_rfl)) t1 hk hp1) (shut_bool Tryz.underlying4 _), rfl, ?_, fun h => by cases h⟩
  exact Go.Abs.kept_but ⟨hk.1, hk.2.1, hk.2.2.2⟩ _

theorem walkNames_holds : Rows.WalkNamesSaid :=
  OpenClaim.holds_of_wide 4 Tryz.f4 rfl rfl rfl rfl rfl rfl rfl ⟨rfl, rfl, rfl, rfl, rfl⟩ rfl rfl rfl rfl rfl (by kernel_rfl) Tryz.func4 (by kernel_rfl)
    (of_decide_eq_true (by kernel_rfl)) (by unfold Func.isWrapper; first | (rw [if_pos (by decide +kernel)]; kernel_rfl) | (rw [if_neg (by decide +kernel)]; exact ⟨rfl, rfl⟩))
    (fun os started H enc _ => walkNames_lifted os started H enc)
/-- ████ THE TIED CARD ████ -/
theorem walkNames_card : Rows.WalkNamesCardSaid :=
  Claim7.holds_tied_plain_at .later [] [.data, .data] true (true, "d310c06c965a55be65c6843ea40b03561008a864325004f7b6100f3dfaec7a35") false
    walkNames_holds (fun _ h => by cases h) (by kernel_rfl) (fun _ h => by cases h) walkNames_row_tie rfl ⟨rfl, rfl⟩ (by kernel_rfl) rfl
    (fun f fn hf hfn => by
      obtain rfl : f = 4 := Option.some.inj ((show Tryz.prog.funcNamed "reliquary/reliquarylaw23.WalkNames" = some 4 by kernel_rfl).symm.trans hf) |>.symm
      obtain rfl : fn = Tryz.f4 := (Option.some.inj (Tryz.func4.symm.trans hfn)).symm
      exact ⟨by kernel_rfl, fun j t ht => by
        rw [Tryz.params4] at ht
        have hm : t ∈ [23, 28, 4] := by simpa using Array.mem_of_getElem? ht
        have hall : ([23, 28, 4].all fun u => !Tryz.prog.wantsStandIn u) = true := by kernel_rfl
        exact (show Tryz.prog.wantsStandIn t = false by simpa using List.all_eq_true.1 hall t hm)⟩)
    (by kernel_rfl)
end Go.Proofs.YtfephhdmijbknaaGreatDoor
#print axioms Go.Proofs.YtfephhdmijbknaaGreatDoor.walkNames_card
