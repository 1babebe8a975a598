/- A part of the proofs of this seat (YtfephhdmijbknaaGreatDoor): the text named at the end of this row is one of those that the main text imports: WNames. -/
import Derived.Test.YtfephhdmijbknaaGreatDoorNLaw
set_option linter.unusedVariables false
set_option linter.unusedSimpArgs false
set_option linter.unusedVariables false
namespace Go.Proofs
open Go.RowKit Go.Lib
open Go.Abs.Tryz (Kept)

/-- a row of values that came in -/
def CellsOf (xs : List Value) (V : Value) (w : World) : Prop :=
  ∃ o cap, V = .slice o xs.length cap ∧ ∀ i, i < xs.length → ∃ a, o = some a ∧ w.cell? (a.add i) = some xs[i]!
theorem cell_lt' {w : World} {a : Addr} {v : Value} (h : w.cell? a = some v) : a.block < w.heap.size := by
  rcases Nat.lt_or_ge a.block w.heap.size with q | q
  · exact q
  · simp [World.cell?, q] at h
theorem cell_same {w w' : World} {a : Addr} {v : Value} (h : w.cell? a = some v) (hb : ∀ b, b < w.heap.size → w'.heap[b]? = w.heap[b]?) : w'.cell? a = some v := by
  rw [← h]
  simp only [World.cell?, hb _ (cell_lt' h)]
theorem CellsOf.same {xs : List Value} {V : Value} {w w' : World} (h : CellsOf xs V w) (hb : ∀ b, b < w.heap.size → w'.heap[b]? = w.heap[b]?) : CellsOf xs V w' := by
  obtain ⟨o, cap, h1, h2⟩ := h
  refine ⟨o, cap, h1, fun i hi => ?_⟩
  obtain ⟨a, e1, e2⟩ := h2 i hi
  exact ⟨a, e1, cell_same e2 hb⟩

set_option maxRecDepth 100000 in
theorem and3 : ∀ b : Fin 256, bits BinOp.and IntKind.u8 (b.val : Int) 3 = ((b.val % 4 : Nat) : Int) := by decide +kernel
set_option maxHeartbeats 4000000 in
set_option maxRecDepth 100000 in
theorem names_walk {W : World} {e1 e2 : Nat} (ns : List ByteArray) (sp : List Nat) (first : Bool) (V U : Value) (hV : CellsOf (ns.map Value.string) V W) (hU : CellsOf (sp.map fun (x : Nat) => Value.int .u8 (x : Int)) U W) (hsp : ∀ i, i < sp.length → sp[i]! < 256)
    (h1 : W.heap[1]? = some (.cells (Go.Abs.vals .u32 Go.Abs.Tryz.kList).toArray e1 (0, 0))) (h2 : W.heap[2]? = some (.cells (Go.Abs.vals .i64 Go.Abs.Tryz.qList).toArray e2 (0, 0))) :
    Calls Tryz.prog 4 #[V, U, .bool first] W fun e W' => e = .returned (.bool true) ∧ Kept W W' := by
  have h5 := Go.Abs.Tryz.awake_calls h1 h2
  have h6 := fun s w hs => parse_row s w hs
  obtain ⟨o, cap, rfl, hc0⟩ := hV
  obtain ⟨u, cup, rfl, hd0⟩ := hU
  simp only [List.length_map] at hc0 hd0 ⊢
  replace hc0 : ∀ i, i < ns.length → ∃ a, o = some a ∧ W.cell? (a.add i) = some (.string ns[i]!) := fun i hi => by
    obtain ⟨a, q1, q2⟩ := hc0 i hi
    refine ⟨a, q1, ?_⟩
    rw [q2, getElem!_pos _ i (by simpa using hi), getElem!_pos ns i hi, List.getElem_map]
  replace hd0 : ∀ i, i < sp.length → ∃ a, u = some a ∧ W.cell? (a.add i) = some (.int .u8 (sp[i]! : Nat)) := fun i hi => by
    obtain ⟨a, q1, q2⟩ := hd0 i hi
    refine ⟨a, q1, ?_⟩
    rw [q2, getElem!_pos _ i (by simpa using hi), getElem!_pos sp i hi, List.getElem_map]
  go_enter Tryz.func4, Tryz.ntmps4
  go_wp2_with (first | (go_at_call 5; refine h5.mono ?_; rintro e w1 ⟨rfl, hk1⟩))
  · go_ret
    exact ⟨rfl, hk1⟩
  · subst first
    have hn : ns.length ≤ 10 ∧ 1 ≤ ns.length := by
      have q : (ns.length : Int) ≤ 10 ∧ ((ns.length : Int) == 0) = false := by assumption
      have q2 : ¬ (ns.length : Int) = 0 := by simpa using q.2
      omega
    have hn1 : decide ((10 : Int) < ns.length) = false := by simp; omega
    have hn2 : ((ns.length : Int) == 0) = false := by
      have : ¬ (ns.length : Int) = 0 := by omega
      simpa using this
    rw [hn1, hn2, Bool.false_or]
    go_loopw [8, 9] (fun p i wr => ∃ k : Nat, k ≤ ns.length ∧ i = .int .i64 k ∧ p = .string (joined true ns sp k) ∧ (∀ j, j < k → good ns[j]!) ∧ Below w1.heap.size w1 wr)
      (fun _ i _ => ns.length + 1 - (intOf i).toNat)
    case atStart => exact ⟨0, by omega, rfl, rfl, fun j hj => absurd hj (by omega), Below.refl _ _⟩
    case round =>
      obtain ⟨k, hk, rfl, rfl, hgood, hbel⟩ := hrel
      have hkw : ∀ b, b < W.heap.size → wr.heap[b]? = W.heap[b]? := fun b hb => (hbel.block b (Nat.lt_of_lt_of_le hb hk1.2.2.1)).trans (hk1.2.2.2 b hb)
      rcases Nat.lt_or_ge k ns.length with hkl | hkl
      · obtain ⟨a, rfl, hc⟩ := hc0 k hkl
        replace hc := cell_same hc hkw
        generalize hs : ns[k]! = s at hc
        have hkr : Kept W wr := Kept.below hk1 hbel
        go_wp2
        · go_ret
          exact ⟨rfl, hkr⟩
        · go_ret
          exact ⟨rfl, hkr⟩
        · go_ret
          exact ⟨rfl, hkr⟩
        · have hsE : (s.toList.isEmpty = false ∧ (s.toList == [46]) = false) ∧ (s.size : Int) ≤ 24 := by assumption
          have hs1 : ¬ s.toList = [] := by assumption
          have hs2 : ¬ s.toList = [46] := by assumption
          have hs3 : s.size ≤ 24 := by omega
          have hs4 : decide ((24 : Int) < s.size) = false := by simpa using hsE.2
          rw [hsE.1.1, hsE.1.2, hs4, Bool.false_or, Bool.false_or]
          go_loopw [11] (fun j w' => ∃ q : Nat, q ≤ s.size ∧ j = .int .i64 q ∧ w' = wr ∧ ∀ i, i < q → s[i]! ≠ 47 ∧ s[i]! ≠ 0)
            (fun j _ => s.size + 1 - (intOf j).toNat)
          case atStart => exact ⟨0, by omega, rfl, rfl, fun j hj => absurd hj (by omega)⟩
          case round =>
            obtain ⟨q, hq, rfl, rfl, hqs⟩ := hrel
            rcases Nat.lt_or_ge q s.size with hql | hql
            · go_wp2
              · go_ret
                exact ⟨rfl, hkr⟩
              · go_ret
                exact ⟨rfl, hkr⟩
              · have hq2 : ((s[q].toNat : Int) == 47) = false ∧ ((s[q].toNat : Int) == 0) = false := by assumption
                have hq3 : ∀ i, i < q + 1 → s[i]! ≠ 47 ∧ s[i]! ≠ 0 := by
                  intro i hi
                  rcases Nat.lt_or_ge i q with h | h
                  · exact hqs i h
                  · obtain rfl : i = q := by omega
                    exact ⟨fun e => (by rw [(byte_eq47 hql).2 e] at hq2; cases hq2.1), fun e => (by rw [(byte_eq0 hql).2 e] at hq2; cases hq2.2)⟩
                go_roundw
                case rel =>
                  exact ⟨q + 1, by omega, by go_num, trivial, hq3⟩
                case measure => simp [intOf]; omega
            · obtain rfl : q = s.size := by omega
              have hjs := joined_size true ns sp k hgood
              have hov : ¬ 9223372036854775807 < (joined true ns sp k).size + (s.size + 1) := by omega
              have hgood' : ∀ j, j < k + 1 → good ns[j]! := by
                intro j hj
                rcases Nat.lt_or_ge j k with h | h
                · exact hgood j h
                · obtain rfl : j = k := by omega
                  rw [hs]
                  exact ⟨hs1, hs2, hs3, hqs⟩
              have jstep : k < sp.length → joined true ns sp (k + 1) = (joined true ns sp k ++ (s ++ ⟨#[47]⟩)) ++ sepB sp[k]! := fun h => by rw [← hs, joined, if_pos h]
              have jstep' : ¬ k < sp.length → joined true ns sp (k + 1) = joined true ns sp k ++ (s ++ ⟨#[47]⟩) := fun h => by rw [← hs, joined, if_neg h]
              rcases Nat.lt_or_ge k sp.length with hks | hks
              · obtain ⟨c, rfl, hd⟩ := hd0 k hks
                replace hd := cell_same hd hkw
                have hd' : ∀ ob, (wr.alloc ob).cell? (c.add k) = some (.int .u8 (sp[k]! : Nat)) := fun ob => cell_same hd (fun b hb => by
                  show (wr.heap.push _)[b]? = _
                  rw [Array.getElem?_push, if_neg (Nat.ne_of_lt hb)])
                have hb := hsp k hks
                generalize hbe : sp[k]! = b at hd' hb
                have hbits : bits BinOp.and IntKind.u8 (b : Int) 3 = ((b % 4 : Nat) : Int) := and3 ⟨b, hb⟩
                have hb4 : b % 4 = 0 ∨ b % 4 = 1 ∨ b % 4 = 2 ∨ b % 4 = 3 := by omega
                rcases hb4 with hb4 | hb4 | hb4 | hb4
                · have hsb : sepB sp[k]! = ⟨#[]⟩ := by rw [hbe]; unfold sepB; rw [hb4]; rfl
                  rw [hb4] at hbits
                  go_wp2
                  exact ⟨⟨k + 1, by omega, by go_num, by rw [jstep hks, hsb], hgood', hbel.alloc hbel.size _⟩, by simp [intOf]; omega⟩
                · have hsb : sepB sp[k]! = ⟨#[47]⟩ := by rw [hbe]; unfold sepB; rw [hb4]; rfl
                  rw [hb4] at hbits
                  go_wp2
                  exact ⟨⟨k + 1, by omega, by go_num, by rw [jstep hks, hsb], hgood', hbel.alloc hbel.size _⟩, by simp [intOf]; omega⟩
                · have hsb : sepB sp[k]! = ⟨#[46, 47]⟩ := by rw [hbe]; unfold sepB; rw [hb4]; rfl
                  rw [hb4] at hbits
                  go_wp2
                  exact ⟨⟨k + 1, by omega, by go_num, by rw [jstep hks, hsb], hgood', hbel.alloc hbel.size _⟩, by simp [intOf]; omega⟩
                · have hsb : sepB sp[k]! = ⟨#[46, 47, 47, 46, 47]⟩ := by rw [hbe]; unfold sepB; rw [hb4]; rfl
                  rw [hb4] at hbits
                  go_wp2
                  exact ⟨⟨k + 1, by omega, by go_num, by rw [jstep hks, hsb], hgood', hbel.alloc hbel.size _⟩, by simp [intOf]; omega⟩
              · go_wp2
                exact ⟨⟨k + 1, by omega, by go_num, by rw [jstep' (by omega)], hgood', hbel⟩, by simp [intOf]; omega⟩
      · obtain rfl : k = ns.length := by omega
        have hjs := joined_size true ns sp ns.length hgood
        have hjp := joined_parsed true ns sp hn.2 hgood
        generalize hp : joined true ns sp ns.length = p at hjs hjp
        have hkr : Kept W wr := Kept.below hk1 hbel
        by_cases h256 : 256 < p.size
        · rw [if_pos h256] at hjp
          go_wp2_with (first | (go_at_call 6; refine (h6 _ _ (by omega)).mono ?_; rw [hjp]; rintro e w2 ⟨V, rfl, hV, hb2⟩; obtain ⟨ov, cav, rfl, hlen, hcell⟩ := hV))
          go_ret
          exact ⟨rfl, Kept.below hkr hb2⟩
        · rw [if_neg h256] at hjp
          go_wp2_with (first | (go_at_call 6; refine (h6 _ _ (by omega)).mono ?_; rw [hjp]; rintro e w2 ⟨V, rfl, hV, hb2⟩; obtain ⟨ov, cav, rfl, hlen, hcell⟩ := hV))
          have hk2 : Kept W w2 := Kept.below hkr hb2
          go_loopw [15] (fun i w' => ∃ k : Nat, k ≤ ns.length ∧ i = .int .i64 k ∧ w'.heap = w2.heap ∧ w'.os = w2.os ∧ w'.output = w2.output)
            (fun i _ => ns.length + 1 - (intOf i).toNat)
          case atStart => exact ⟨0, by omega, rfl, rfl, rfl, rfl⟩
          case round =>
            obtain ⟨k, hk, rfl, q1, q2, q3⟩ := hrel
            rcases Nat.lt_or_ge k ns.length with hkl | hkl
            · obtain ⟨A, rfl, hA, hc⟩ := hcell k hkl
              obtain ⟨a, rfl, hc'⟩ := hc0 k hkl
              replace hc' := cell_same hc' (fun b hb => hk2.2.2.2 b hb)
              have hcr : wr.cell? ⟨A, k, none⟩ = some (.string ns[k]!) := by rw [← hc]; simp only [World.cell?, q1]
              have hcr' : wr.cell? (a.add k) = some (.string ns[k]!) := by rw [← hc']; simp only [World.cell?, q1]
              go_wp2
              go_region
              go_wp2
              exact ⟨⟨k + 1, by omega, by go_num, q1, q2, q3⟩, by simp [intOf]; omega⟩
            · obtain rfl : k = ns.length := by omega
              go_wp2
              go_ret
              exact ⟨rfl, q2.trans hk2.1, q3.trans hk2.2.1, by rw [q1]; exact hk2.2.2.1, fun b hb => by rw [q1]; exact hk2.2.2.2 b hb⟩
  · subst first
    have hn : ns.length ≤ 10 ∧ 1 ≤ ns.length := by
      have q : (ns.length : Int) ≤ 10 ∧ ((ns.length : Int) == 0) = false := by assumption
      have q2 : ¬ (ns.length : Int) = 0 := by simpa using q.2
      omega
    have hn1 : decide ((10 : Int) < ns.length) = false := by simp; omega
    have hn2 : ((ns.length : Int) == 0) = false := by
      have : ¬ (ns.length : Int) = 0 := by omega
      simpa using this
    rw [hn1, hn2, Bool.false_or]
    go_loopw [8, 9] (fun p i wr => ∃ k : Nat, k ≤ ns.length ∧ i = .int .i64 k ∧ p = .string (joined false ns sp k) ∧ (∀ j, j < k → good ns[j]!) ∧ Below w1.heap.size w1 wr)
      (fun _ i _ => ns.length + 1 - (intOf i).toNat)
    case atStart => exact ⟨0, by omega, rfl, rfl, fun j hj => absurd hj (by omega), Below.refl _ _⟩
    case round =>
      obtain ⟨k, hk, rfl, rfl, hgood, hbel⟩ := hrel
      have hkw : ∀ b, b < W.heap.size → wr.heap[b]? = W.heap[b]? := fun b hb => (hbel.block b (Nat.lt_of_lt_of_le hb hk1.2.2.1)).trans (hk1.2.2.2 b hb)
      rcases Nat.lt_or_ge k ns.length with hkl | hkl
      · obtain ⟨a, rfl, hc⟩ := hc0 k hkl
        replace hc := cell_same hc hkw
        generalize hs : ns[k]! = s at hc
        have hkr : Kept W wr := Kept.below hk1 hbel
        go_wp2
        · go_ret
          exact ⟨rfl, hkr⟩
        · go_ret
          exact ⟨rfl, hkr⟩
        · go_ret
          exact ⟨rfl, hkr⟩
        · have hsE : (s.toList.isEmpty = false ∧ (s.toList == [46]) = false) ∧ (s.size : Int) ≤ 24 := by assumption
          have hs1 : ¬ s.toList = [] := by assumption
          have hs2 : ¬ s.toList = [46] := by assumption
          have hs3 : s.size ≤ 24 := by omega
          have hs4 : decide ((24 : Int) < s.size) = false := by simpa using hsE.2
          rw [hsE.1.1, hsE.1.2, hs4, Bool.false_or, Bool.false_or]
          go_loopw [11] (fun j w' => ∃ q : Nat, q ≤ s.size ∧ j = .int .i64 q ∧ w' = wr ∧ ∀ i, i < q → s[i]! ≠ 47 ∧ s[i]! ≠ 0)
            (fun j _ => s.size + 1 - (intOf j).toNat)
          case atStart => exact ⟨0, by omega, rfl, rfl, fun j hj => absurd hj (by omega)⟩
          case round =>
            obtain ⟨q, hq, rfl, rfl, hqs⟩ := hrel
            rcases Nat.lt_or_ge q s.size with hql | hql
            · go_wp2
              · go_ret
                exact ⟨rfl, hkr⟩
              · go_ret
                exact ⟨rfl, hkr⟩
              · have hq2 : ((s[q].toNat : Int) == 47) = false ∧ ((s[q].toNat : Int) == 0) = false := by assumption
                have hq3 : ∀ i, i < q + 1 → s[i]! ≠ 47 ∧ s[i]! ≠ 0 := by
                  intro i hi
                  rcases Nat.lt_or_ge i q with h | h
                  · exact hqs i h
                  · obtain rfl : i = q := by omega
                    exact ⟨fun e => (by rw [(byte_eq47 hql).2 e] at hq2; cases hq2.1), fun e => (by rw [(byte_eq0 hql).2 e] at hq2; cases hq2.2)⟩
                go_roundw
                case rel =>
                  exact ⟨q + 1, by omega, by go_num, trivial, hq3⟩
                case measure => simp [intOf]; omega
            · obtain rfl : q = s.size := by omega
              have hjs := joined_size false ns sp k hgood
              have hov : ¬ 9223372036854775807 < (joined false ns sp k).size + (s.size + 1) := by omega
              have hgood' : ∀ j, j < k + 1 → good ns[j]! := by
                intro j hj
                rcases Nat.lt_or_ge j k with h | h
                · exact hgood j h
                · obtain rfl : j = k := by omega
                  rw [hs]
                  exact ⟨hs1, hs2, hs3, hqs⟩
              have jstep : k < sp.length → joined false ns sp (k + 1) = (joined false ns sp k ++ (s ++ ⟨#[47]⟩)) ++ sepB sp[k]! := fun h => by rw [← hs, joined, if_pos h]
              have jstep' : ¬ k < sp.length → joined false ns sp (k + 1) = joined false ns sp k ++ (s ++ ⟨#[47]⟩) := fun h => by rw [← hs, joined, if_neg h]
              rcases Nat.lt_or_ge k sp.length with hks | hks
              · obtain ⟨c, rfl, hd⟩ := hd0 k hks
                replace hd := cell_same hd hkw
                have hd' : ∀ ob, (wr.alloc ob).cell? (c.add k) = some (.int .u8 (sp[k]! : Nat)) := fun ob => cell_same hd (fun b hb => by
                  show (wr.heap.push _)[b]? = _
                  rw [Array.getElem?_push, if_neg (Nat.ne_of_lt hb)])
                have hb := hsp k hks
                generalize hbe : sp[k]! = b at hd' hb
                have hbits : bits BinOp.and IntKind.u8 (b : Int) 3 = ((b % 4 : Nat) : Int) := and3 ⟨b, hb⟩
                have hb4 : b % 4 = 0 ∨ b % 4 = 1 ∨ b % 4 = 2 ∨ b % 4 = 3 := by omega
                rcases hb4 with hb4 | hb4 | hb4 | hb4
                · have hsb : sepB sp[k]! = ⟨#[]⟩ := by rw [hbe]; unfold sepB; rw [hb4]; rfl
                  rw [hb4] at hbits
                  go_wp2
                  exact ⟨⟨k + 1, by omega, by go_num, by rw [jstep hks, hsb], hgood', hbel.alloc hbel.size _⟩, by simp [intOf]; omega⟩
                · have hsb : sepB sp[k]! = ⟨#[47]⟩ := by rw [hbe]; unfold sepB; rw [hb4]; rfl
                  rw [hb4] at hbits
                  go_wp2
                  exact ⟨⟨k + 1, by omega, by go_num, by rw [jstep hks, hsb], hgood', hbel.alloc hbel.size _⟩, by simp [intOf]; omega⟩
                · have hsb : sepB sp[k]! = ⟨#[46, 47]⟩ := by rw [hbe]; unfold sepB; rw [hb4]; rfl
                  rw [hb4] at hbits
                  go_wp2
                  exact ⟨⟨k + 1, by omega, by go_num, by rw [jstep hks, hsb], hgood', hbel.alloc hbel.size _⟩, by simp [intOf]; omega⟩
                · have hsb : sepB sp[k]! = ⟨#[46, 47, 47, 46, 47]⟩ := by rw [hbe]; unfold sepB; rw [hb4]; rfl
                  rw [hb4] at hbits
                  go_wp2
                  exact ⟨⟨k + 1, by omega, by go_num, by rw [jstep hks, hsb], hgood', hbel.alloc hbel.size _⟩, by simp [intOf]; omega⟩
              · go_wp2
                exact ⟨⟨k + 1, by omega, by go_num, by rw [jstep' (by omega)], hgood', hbel⟩, by simp [intOf]; omega⟩
      · obtain rfl : k = ns.length := by omega
        have hjs := joined_size false ns sp ns.length hgood
        have hjp := joined_parsed false ns sp hn.2 hgood
        generalize hp : joined false ns sp ns.length = p at hjs hjp
        have hkr : Kept W wr := Kept.below hk1 hbel
        by_cases h256 : 256 < p.size
        · rw [if_pos h256] at hjp
          go_wp2_with (first | (go_at_call 6; refine (h6 _ _ (by omega)).mono ?_; rw [hjp]; rintro e w2 ⟨V, rfl, hV, hb2⟩; obtain ⟨ov, cav, rfl, hlen, hcell⟩ := hV))
          go_ret
          exact ⟨rfl, Kept.below hkr hb2⟩
        · rw [if_neg h256] at hjp
          go_wp2_with (first | (go_at_call 6; refine (h6 _ _ (by omega)).mono ?_; rw [hjp]; rintro e w2 ⟨V, rfl, hV, hb2⟩; obtain ⟨ov, cav, rfl, hlen, hcell⟩ := hV))
          have hk2 : Kept W w2 := Kept.below hkr hb2
          go_loopw [15] (fun i w' => ∃ k : Nat, k ≤ ns.length ∧ i = .int .i64 k ∧ w'.heap = w2.heap ∧ w'.os = w2.os ∧ w'.output = w2.output)
            (fun i _ => ns.length + 1 - (intOf i).toNat)
          case atStart => exact ⟨0, by omega, rfl, rfl, rfl, rfl⟩
          case round =>
            obtain ⟨k, hk, rfl, q1, q2, q3⟩ := hrel
            rcases Nat.lt_or_ge k ns.length with hkl | hkl
            · obtain ⟨A, rfl, hA, hc⟩ := hcell k hkl
              obtain ⟨a, rfl, hc'⟩ := hc0 k hkl
              replace hc' := cell_same hc' (fun b hb => hk2.2.2.2 b hb)
              have hcr : wr.cell? ⟨A, k, none⟩ = some (.string ns[k]!) := by rw [← hc]; simp only [World.cell?, q1]
              have hcr' : wr.cell? (a.add k) = some (.string ns[k]!) := by rw [← hc']; simp only [World.cell?, q1]
              go_wp2
              go_region
              go_wp2
              exact ⟨⟨k + 1, by omega, by go_num, q1, q2, q3⟩, by simp [intOf]; omega⟩
            · obtain rfl : k = ns.length := by omega
              go_wp2
              go_ret
              exact ⟨rfl, q2.trans hk2.1, q3.trans hk2.2.1, by rw [q1]; exact hk2.2.2.1, fun b hb => by rw [q1]; exact hk2.2.2.2 b hb⟩
  · go_ret
    exact ⟨rfl, hk1⟩
end Go.Proofs
