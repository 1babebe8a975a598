/- A part of the proofs of this seat (YtfephhdmijbknaaGreatDoor): the text named at the end of this row is one of those that the main text imports: WParses. -/
import Derived.Test.YtfephhdmijbknaaGreatDoorPLaw
import Derived.Test.YtfephhdmijbknaaGreatDoorMStart
set_option linter.unusedVariables false
set_option linter.unusedSimpArgs false
set_option linter.unusedVariables false
namespace Go.Proofs
open Go.RowKit Go.Lib
open Go.Abs.Tryz (Kept)

/-- a row of texts as a call hands it back, as the laws see it -/
def RowOf (l : List ByteArray) (V : Value) (w : World) : Prop :=
  ∃ o cap, V = .slice o l.length cap ∧ l.length ≤ 1000 ∧ ∀ i, i < l.length → ∃ A, o = some ⟨A, 0, none⟩ ∧ A < w.heap.size ∧ w.cell? ⟨A, i, none⟩ = some (.string l[i]!)
/-- what the names of a path are -/
def parsed (s : ByteArray) : List ByteArray × Bool × Int := match parseL s with | none => ([], false, 26) | some l => (l, s[0]! == 47, 0)
theorem cell_lt {w : World} {A i : Nat} {v : Value} (h : w.cell? ⟨A, i, none⟩ = some v) : A < w.heap.size := by
  rcases Nat.lt_or_ge A w.heap.size with q | q
  · exact q
  · simp [World.cell?, q] at h
theorem RowOf.below {l : List ByteArray} {V : Value} {w w' : World} (h : RowOf l V w) (b : Below w.heap.size w w') : RowOf l V w' := by
  obtain ⟨o, cap, h1, h2, h3⟩ := h
  refine ⟨o, cap, h1, h2, fun i hi => ?_⟩
  obtain ⟨A, e1, e2, e3⟩ := h3 i hi
  refine ⟨A, e1, Nat.lt_of_lt_of_le e2 b.size, ?_⟩
  rw [← e3]
  simp only [World.cell?, b.block A e2]
theorem parseL_len {s : ByteArray} {l : List ByteArray} (h : parseL s = some l) : l.length ≤ 1000 := by
  unfold parseL at h
  split at h
  · cases h
  · rename_i hn
    split at h
    · cases h
    · simp only [Option.some.injEq] at h
      have h1 := List.length_filter_le (fun x => !pDot x) (goFieldsP pSlash s)
      have h2 := goFieldsP_length pSlash s
      rw [h] at h1
      have h3 : ¬ 256 < s.size := fun q => hn (.inr (.inl q))
      omega
theorem parse_row (s : ByteArray) (w : World) (hs : s.size ≤ 1000) : Calls Tryz.prog 6 #[.string s] w fun e w' => ∃ V, e = .returned (.tuple #[V, .bool (parsed s).2.1, .int .i64 (parsed s).2.2]) ∧ RowOf (parsed s).1 V w' ∧ Below w.heap.size w w' := by
  refine (Tryz.parse_calls s w hs).mono ?_
  rintro e w' ⟨h, hb⟩
  unfold parseOk at h
  unfold parsed
  cases hl : parseL s with
  | none =>
    rw [hl] at h
    exact ⟨_, h, ⟨none, 0, rfl, by simp, fun i hi => absurd hi (by simp)⟩, hb⟩
  | some l =>
    rw [hl] at h
    obtain ⟨A, cap, rfl, hA, hc⟩ := h
    exact ⟨_, rfl, ⟨some ⟨A, 0, none⟩, cap, rfl, parseL_len hl, fun i hi => ⟨A, rfl, cell_lt (hc i hi), hc i hi⟩⟩, hb⟩
theorem ref_row (s : ByteArray) (w : World) (hs : s.size ≤ 1000) : Calls Tryz.prog 7 #[.string s] w fun e w' => ∃ V, e = .returned (.tuple #[V, .bool (parsed s).2.1, .int .i64 (parsed s).2.2]) ∧ RowOf (parsed s).1 V w' ∧ Below w.heap.size w w' := by
  refine (Tryz.ref_calls s w hs).mono ?_
  rintro e w' ⟨h, hb⟩
  unfold refOk at h
  rw [← parse_ref] at h
  unfold parsed
  cases hl : parseL s with
  | none =>
    rw [hl] at h
    exact ⟨_, h, ⟨none, 0, rfl, by simp, fun i hi => absurd hi (by simp)⟩, hb⟩
  | some l =>
    rw [hl] at h
    obtain ⟨v, rfl, hv⟩ := h
    refine ⟨_, rfl, ?_, hb⟩
    obtain ⟨h1, h2⟩ := hv
    rcases h2 with ⟨h2, h3⟩ | ⟨g, cap, cur, hv, hgb, hg, hn, hc, hs', ht⟩
    · have : l.length = 0 := by first | exact h3 | exact h3.1
      dsimp only
      exact ⟨none, 0, by rw [h2, this], by omega, fun i hi => absurd hi (by omega)⟩
    · subst hv
      refine ⟨some ⟨g, 0, none⟩, cap, rfl, parseL_len hl, fun i hi => ?_⟩
      have : w'.cell? ⟨g, i, none⟩ = some (.string l[i]!) := by
        have h3 := congrArg (fun q => q[i]?) ht
        simp only [Nat.mul_one, List.getElem?_take, Array.getElem?_toList, List.getElem?_map] at h3
        rw [if_pos (by omega), List.getElem?_eq_getElem hi] at h3
        simp [World.cell?, hg, h3, getElem!_pos, hi]
      exact ⟨g, rfl, cell_lt this, this⟩
theorem Kept.below {W W1 W2 : World} (h : Kept W W1) (b : Below W1.heap.size W1 W2) : Kept W W2 :=
  h.trans ⟨b.os, b.output, b.size, b.block⟩

set_option maxHeartbeats 1000000 in
theorem parses_walk {W : World} {e1 e2 : Nat} (s : ByteArray) (h1 : W.heap[1]? = some (.cells (Go.Abs.vals .u32 Go.Abs.Tryz.kList).toArray e1 (0, 0))) (h2 : W.heap[2]? = some (.cells (Go.Abs.vals .i64 Go.Abs.Tryz.qList).toArray e2 (0, 0))) :
    Calls Tryz.prog 3 #[.string s] W fun e W' => e = .returned (.bool true) ∧ Kept W W' := by
  have h5 := Go.Abs.Tryz.awake_calls h1 h2
  have h6 := fun w hs => parse_row s w hs
  have h7 := fun w hs => ref_row s w hs
  generalize (parsed s).1 = l at h6 h7
  generalize (parsed s).2.1 = b at h6 h7
  generalize (parsed s).2.2 = c at h6 h7
  go_enter Tryz.func3, Tryz.ntmps3
  go_wp2_with (first | (go_at_call 5; refine h5.mono ?_; rintro e w1 ⟨rfl, hk1⟩) | (go_at_call 6; refine (h6 _ (by omega)).mono ?_; rintro e w2 ⟨V, rfl, hV, hb2⟩) | (go_at_call 7; refine (h7 _ (by omega)).mono ?_; rintro e w3 ⟨V3, rfl, hV3, hb3⟩; replace hV := hV.below hb3; obtain ⟨o, cap, rfl, hlen, hcell⟩ := hV; obtain ⟨o', cap', rfl, _, hcell'⟩ := hV3))
  · go_ret
    exact ⟨rfl, hk1⟩
  · have hk3 : Kept W w3 := Kept.below (Kept.below hk1 hb2) hb3
    go_loopw [10] (fun i wr => ∃ k : Nat, k ≤ l.length ∧ i = .int .i64 k ∧ wr.heap = w3.heap ∧ wr.os = w3.os ∧ wr.output = w3.output)
      (fun i _ => l.length + 1 - (intOf i).toNat)
    case atStart => exact ⟨0, by omega, rfl, rfl, rfl, rfl⟩
    case round =>
      obtain ⟨k, hk, rfl, q1, q2, q3⟩ := hrel
      rcases Nat.lt_or_ge k l.length with hkl | hkl
      · obtain ⟨A, rfl, hA, hc⟩ := hcell k hkl
        obtain ⟨A', rfl, hA', hc'⟩ := hcell' k hkl
        have hcr : wr.cell? ⟨A, k, none⟩ = some (.string l[k]!) := by rw [← hc]; simp only [World.cell?, q1]
        have hcr' : wr.cell? ⟨A', k, none⟩ = some (.string l[k]!) := by rw [← hc']; simp only [World.cell?, q1]
        go_wp2
        go_region
        go_wp2
        exact ⟨⟨k + 1, by omega, by go_num, q1, q2, q3⟩, by simp [intOf]; omega⟩
      · have : k = l.length := by omega
        subst this
        go_wp2
        go_ret
        exact ⟨rfl, q2.trans hk3.1, q3.trans hk3.2.1, by rw [q1]; exact hk3.2.2.1, fun b hb => by rw [q1]; exact hk3.2.2.2 b hb⟩
end Go.Proofs
