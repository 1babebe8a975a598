/- A part of the proofs of this seat (YtfephhdmijbknaaGreatDoor): the text named at the end of this row is one of those that the main text imports: PRef. -/
import Derived.WalkKit
import Derived.RegionTactic
import Derived.OwnWalk
import Derived.Lib.FieldsP
import Derived.Test.YtfephhdmijbknaaGreatDoorProg
set_option linter.unusedVariables false
set_option linter.unusedSimpArgs false
set_option linter.unusedVariables false
namespace Go.Proofs
open Go.RowKit Go.Lib

def refGo (s : ByteArray) : Nat → Nat → Nat → List ByteArray → Bool → Option (List ByteArray × Bool)
  | 0, _, _, out, lg => some (out, lg)
  | f + 1, i, frm, out, lg =>
    if i < s.size ∧ s[i]! = 0 then none
    else if i = s.size ∨ s[i]! = 47 then
      refGo s f (i + 1) (i + 1) (if (s.extract frm i).toList ≠ [] ∧ (s.extract frm i).toList ≠ [46] then out ++ [s.extract frm i] else out) (lg || decide (24 < (s.extract frm i).size))
    else refGo s f (i + 1) frm out lg
def refL (s : ByteArray) : Option (List ByteArray) :=
  if s.toList = [] ∨ 256 < s.size then none
  else match refGo s (s.size + 1) 0 0 [] false with
    | none => none
    | some (l, lg) => if lg then none else some l
def refOk (s : ByteArray) (w : World) (e : Ending) (w' : World) : Prop :=
  match refL s with
  | none => e = .returned (.tuple #[.slice none 0 0, .bool false, .int .i64 26])
  | some l => ∃ v, e = .returned (.tuple #[v, .bool (s[0]! == 47), .int .i64 0]) ∧ w'.ownsRow w.heap.size 9 1 v l.length (l.map Value.string)

theorem Tryz.info9 : (Tryz.prog.info? 9).map (fun i => (i.zero, i.size, i.bytes)) = some (some (.string ⟨#[]⟩), 1, 16) := by kernel_rfl

theorem extract_len (s : ByteArray) (a b : Nat) (h : b ≤ s.size) : (s.extract a b).size = b - a := by
  rw [ByteArray.size_extract, Nat.min_eq_left h]
theorem long_eq (n : Nat) : decide (24 < n) = decide ((24 : Int) < (n : Int)) := by congr 1; apply propext; omega
theorem ref_step {s : ByteArray} {k fr : Nat} {out : List ByteArray} {lg : Bool} {RES : Option (List ByteArray × Bool)} (hk : k ≤ s.size) (h : refGo s (s.size + 1 - k) k fr out lg = RES) :
    (if k < s.size ∧ s[k]! = 0 then none
    else if k = s.size ∨ s[k]! = 47 then
      refGo s (s.size + 1 - (k + 1)) (k + 1) (k + 1) (if (s.extract fr k).toList ≠ [] ∧ (s.extract fr k).toList ≠ [46] then out ++ [s.extract fr k] else out) (lg || decide (24 < (s.extract fr k).size))
    else refGo s (s.size + 1 - (k + 1)) (k + 1) fr out lg) = RES := by
  rw [show s.size + 1 - k = (s.size - k) + 1 by omega] at h
  rw [show s.size + 1 - (k + 1) = s.size - k by omega]
  exact h
theorem byte_eq {s : ByteArray} {k : Nat} (h : k < s.size) (n : Nat) (hn : n < 256) : (((s[k].toNat : Int) == (n : Int)) = true ↔ s[k]! = n.toUInt8) := by
  rw [getElem!_pos s k h, beq_iff_eq, ← UInt8.toNat_inj]
  have : (n.toUInt8).toNat = n := by rw [Nat.toUInt8, UInt8.toNat_ofNat']; exact Nat.mod_eq_of_lt hn
  rw [this]
  omega
theorem byte_eq0 {s : ByteArray} {k : Nat} (h : k < s.size) : (((s[k].toNat : Int) == 0) = true ↔ s[k]! = 0) := byte_eq h 0 (by decide)
theorem byte_eq47 {s : ByteArray} {k : Nat} (h : k < s.size) : (((s[k].toNat : Int) == 47) = true ↔ s[k]! = 47) := byte_eq h 47 (by decide)
section
variable {s : ByteArray} {k fr : Nat} {out : List ByteArray} {lg : Bool} {RES : Option (List ByteArray × Bool)} (hk : k ≤ s.size) (h : refGo s (s.size + 1 - k) k fr out lg = RES)
include hk h
theorem ref_zero (hl : k < s.size) (h0 : s[k]! = 0) : RES = none := by
  have := ref_step hk h
  rw [if_pos ⟨hl, h0⟩] at this
  exact this.symm
theorem ref_skip (h0 : s[k]! ≠ 0) (hn : k ≠ s.size) (h1 : s[k]! ≠ 47) : refGo s (s.size + 1 - (k + 1)) (k + 1) fr out lg = RES := by
  have := ref_step hk h
  rwa [if_neg (fun q => h0 q.2), if_neg (fun q => q.elim hn h1)] at this
theorem ref_no (h0 : k < s.size → s[k]! ≠ 0) (h1 : k = s.size ∨ s[k]! = 47) (ht : (s.extract fr k).toList = [] ∨ (s.extract fr k).toList = [46]) : refGo s (s.size + 1 - (k + 1)) (k + 1) (k + 1) out (lg || decide ((24 : Int) < ((k - fr : Nat) : Int))) = RES := by
  have := ref_step hk h
  rw [if_neg (fun q => h0 q.1 q.2), if_pos h1, if_neg (fun q => ht.elim q.1 q.2), extract_len s fr k hk, long_eq] at this
  exact this
theorem ref_yes (h0 : k < s.size → s[k]! ≠ 0) (h1 : k = s.size ∨ s[k]! = 47) (ht : (s.extract fr k).toList ≠ [] ∧ (s.extract fr k).toList ≠ [46]) : refGo s (s.size + 1 - (k + 1)) (k + 1) (k + 1) (out ++ [s.extract fr k]) (lg || decide ((24 : Int) < ((k - fr : Nat) : Int))) = RES := by
  have := ref_step hk h
  rw [if_neg (fun q => h0 q.1 q.2), if_pos h1, if_pos ht, extract_len s fr k hk, long_eq] at this
  exact this
end
theorem below_grown_own {B e : Nat} {w wr w1 : World} {v : Value} {ob : Obj} {n : Nat} {xs : List Value} (hb : Below B w wr) (hsz : B ≤ wr.heap.size) (hown : wr.ownsRow B e 1 v n xs) (hg : (wr.alloc ob).grownBy w1 v.ownBlock) : Below B w w1 :=
  (hb.alloc hsz _).grown hg (by simp; omega) (fun k hk => by
    rcases hown.2 with ⟨rfl, _⟩ | ⟨g, cap, cur, rfl, hb, _⟩
    · simp [Value.ownBlock] at hk
    · simp [Value.ownBlock] at hk; omega)

set_option maxHeartbeats 4000000 in
set_option maxRecDepth 1000000 in
theorem Tryz.ref_calls (s : ByteArray) (w : World) (hs : s.size ≤ 1000) : Calls Tryz.prog 7 #[.string s] w fun e w' => refOk s w e w' ∧ Below w.heap.size w w' := by
  obtain ⟨i0, hi, hz0, hz1, hz2⟩ := info_parts Tryz.info9
  generalize hR : refGo s (s.size + 1) 0 0 [] false = RES
  generalize hB : w.heap.size = B
  go_enter Tryz.func7, Tryz.ntmps7
  go_wp2
  · refine bodyPost_ret (results_tmp3 rfl _ _ _) rfl ⟨?_, by rw [← hB]; exact Below.refl _ _⟩
    unfold refOk refL
    rw [if_pos (.inl (by assumption))]; rfl
  · refine bodyPost_ret (results_tmp3 rfl _ _ _) rfl ⟨?_, by rw [← hB]; exact Below.refl _ _⟩
    have q : s.toList.isEmpty = true ∨ (256 : Int) < s.size := by assumption
    unfold refOk refL
    rw [if_pos (q.elim (fun q => .inl (by simpa using q)) (fun q => .inr (by omega)))]; rfl
  · have hsz : s.size ≤ 256 := by
      have : s.toList.isEmpty = false ∧ (s.size : Int) ≤ 256 := by assumption
      omega
    have hE : s.toList.isEmpty = false := by
      have : s.toList.isEmpty = false ∧ (s.size : Int) ≤ 256 := by assumption
      exact this.1
    rw [hE, Bool.false_or]
    go_loopw [5, 6, 7, 8] (fun o f l i wr => ∃ (k fr : Nat) (out : List ByteArray) (lg : Bool), k ≤ s.size + 1 ∧ fr ≤ k ∧ i = .int .i64 k ∧ f = .int .i64 fr ∧ l = .bool lg ∧ wr.ownsRow B 9 1 o out.length (out.map Value.string) ∧ out.length ≤ k ∧ refGo s (s.size + 1 - k) k fr out lg = RES ∧ Below B w wr)
      (fun _ _ _ i _ => s.size + 2 - (intOf i).toNat)
    case atStart => exact ⟨0, 0, [], false, by omega, by omega, rfl, rfl, rfl, World.ownsRow_nil _ _ _ _, by simp, by simpa using hR, by rw [← hB]; exact Below.refl _ _⟩
    case round =>
      obtain ⟨k, fr, out, lg, hk, hfr, rfl, rfl, rfl, hown, hol, hgo, hbel⟩ := hrel
      have hBs : B ≤ wr.heap.size := by have := hbel.size; omega
      have hfs : k ≤ s.size → fr ≤ s.size := fun _ => by omega
      rcases Nat.lt_trichotomy k s.size with hkl | hkl | hkl
      · cases lg
        all_goals go_wp2_with (first
          | (at_builtin; refine wpList_append_own _ rfl _ _ 23 rfl B 9 i0 (.string ⟨#[]⟩) 1 16 Tryz.underlying23 hi hz0 hz1 hz2 rfl (by decide) _ _ _ rfl (hown.alloc _) ⟨wr.heap.size, 0, none⟩ 1 1 [.string (s.extract fr k)] rfl rfl ?_ ?_ ?_ ?_ ?_ ?_)
          | go_in)
        all_goals first
          | (have hz : ((s[k].toNat : Int) == 0) = true := by assumption
             have e := ref_zero (by omega) hgo hkl ((byte_eq0 hkl).1 hz)
             refine bodyPost_ret (results_tmp3 rfl _ _ _) rfl ⟨?_, hbel⟩
             unfold refOk refL
             rw [if_neg (fun h => h.elim (fun h => absurd h (by assumption)) (fun h => absurd h (by omega))), hR, e]; rfl)
          | (have hz : ((s[k].toNat : Int) == 0) = false := by assumption
             have q : ((k : Int) == (s.size : Int)) = false ∧ ((s[k].toNat : Int) == 47) = false := by assumption
             have R := ref_skip (by omega) hgo (fun q2 => by rw [(byte_eq0 hkl).2 q2] at hz; cases hz) (by omega) (fun q2 => by have q := q.2; rw [(byte_eq47 hkl).2 q2] at q; cases q)
             go_roundw
             case rel => exact ⟨k + 1, fr, out, _, by omega, by omega, by go_num, by go_num, rfl, hown, by omega, R, hbel⟩
             case measure => first | (simp [intOf]; done) | (simp [intOf]; omega))
          | (have ht : (s.extract fr (k)).toList = [] ∨ (s.extract fr (k)).toList = [46] := by
               first
                 | exact .inl (by assumption)
                 | (have q : (!(s.extract fr (k)).toList.isEmpty) = false ∨ (!(s.extract fr (k)).toList == [46]) = false := by assumption
                    rcases q with q | q
                    · exact .inl (by simpa using q)
                    · exact .inr (by simpa using q))
             have Z : k < s.size → s[k]! ≠ 0 := fun _ q => by
               have hz : ((s[k].toNat : Int) == 0) = false := by assumption
               rw [(byte_eq0 hkl).2 q] at hz
               cases hz
             have S' : k = s.size ∨ s[k]! = 47 := by
               have q : ((k : Int) == (s.size : Int)) = true ∨ ((s[k].toNat : Int) == 47) = true := by assumption
               rcases q with q | q
               · exact .inl (by have q2 : (k : Int) = s.size := by simpa using q
                                omega)
               · exact .inr ((byte_eq47 hkl).1 q)
             have R := ref_no (by omega) hgo Z S' ht
             go_roundw
             case rel => exact ⟨k + 1, k + 1, out, _, by omega, by omega, by go_num, by go_num, rfl, hown, by omega, R, hbel⟩
             case measure => first | (simp [intOf]; done) | (simp [intOf]; omega))
          | (intro j u hj
             match j, hj with
             | 0, hj => simp at hj; subst hj; simp [Addr.add])
          | (intro u hu; simp at hu; subst hu; rfl)
          | (unfold maxLen; omega)
          | omega
          | (simp; omega)
          | (intro v' w1 hown' hgrow hne
             have ht : (s.extract fr (k)).toList ≠ [] ∧ (s.extract fr (k)).toList ≠ [46] := by
               have q : (!(s.extract fr (k)).toList.isEmpty) = true ∧ (!(s.extract fr (k)).toList == [46]) = true := by assumption
               exact ⟨by simpa using q.1, by simpa using q.2⟩
             have Z : k < s.size → s[k]! ≠ 0 := fun _ q => by
               have hz : ((s[k].toNat : Int) == 0) = false := by assumption
               rw [(byte_eq0 hkl).2 q] at hz
               cases hz
             have S' : k = s.size ∨ s[k]! = 47 := by
               have q : ((k : Int) == (s.size : Int)) = true ∨ ((s[k].toNat : Int) == 47) = true := by assumption
               rcases q with q | q
               · exact .inl (by have q2 : (k : Int) = s.size := by simpa using q
                                omega)
               · exact .inr ((byte_eq47 hkl).1 q)
             have R := ref_yes (by omega) hgo Z S' ht
             have hb2 := below_grown_own hbel hBs hown hgrow
             clear hgrow
             go_wp2
             go_roundw
             case rel => exact ⟨k + 1, k + 1, out ++ [s.extract fr (k)], _, by omega, by omega, by go_num, by go_num, rfl, by simpa using hown', by simp; omega, R, hb2⟩
             case measure => first | (simp [intOf]; done) | (simp [intOf]; omega))
      · subst hkl
        cases lg
        all_goals go_wp2_with (first
          | (at_builtin; refine wpList_append_own _ rfl _ _ 23 rfl B 9 i0 (.string ⟨#[]⟩) 1 16 Tryz.underlying23 hi hz0 hz1 hz2 rfl (by decide) _ _ _ rfl (hown.alloc _) ⟨wr.heap.size, 0, none⟩ 1 1 [.string (s.extract fr s.size)] rfl rfl ?_ ?_ ?_ ?_ ?_ ?_)
          | go_in)
        all_goals first
          | (have ht : (s.extract fr (s.size)).toList = [] ∨ (s.extract fr (s.size)).toList = [46] := by
               first
                 | exact .inl (by assumption)
                 | (have q : (!(s.extract fr (s.size)).toList.isEmpty) = false ∨ (!(s.extract fr (s.size)).toList == [46]) = false := by assumption
                    rcases q with q | q
                    · exact .inl (by simpa using q)
                    · exact .inr (by simpa using q))
             have Z : s.size < s.size → s[s.size]! ≠ 0 := fun q => absurd q (by omega)
             have S' : s.size = s.size ∨ s[s.size]! = 47 := .inl rfl
             have R := ref_no (by omega) hgo Z S' ht
             go_roundw
             case rel => exact ⟨s.size + 1, s.size + 1, out, _, by omega, by omega, by go_num, by go_num, rfl, hown, by omega, R, hbel⟩
             case measure => first | (simp [intOf]; done) | (simp [intOf]; omega))
          | (intro j u hj
             match j, hj with
             | 0, hj => simp at hj; subst hj; simp [Addr.add])
          | (intro u hu; simp at hu; subst hu; rfl)
          | (unfold maxLen; omega)
          | omega
          | (simp; omega)
          | (intro v' w1 hown' hgrow hne
             have ht : (s.extract fr (s.size)).toList ≠ [] ∧ (s.extract fr (s.size)).toList ≠ [46] := by
               have q : (!(s.extract fr (s.size)).toList.isEmpty) = true ∧ (!(s.extract fr (s.size)).toList == [46]) = true := by assumption
               exact ⟨by simpa using q.1, by simpa using q.2⟩
             have Z : s.size < s.size → s[s.size]! ≠ 0 := fun q => absurd q (by omega)
             have S' : s.size = s.size ∨ s[s.size]! = 47 := .inl rfl
             have R := ref_yes (by omega) hgo Z S' ht
             have hb2 := below_grown_own hbel hBs hown hgrow
             clear hgrow
             go_wp2
             go_roundw
             case rel => exact ⟨s.size + 1, s.size + 1, out ++ [s.extract fr (s.size)], _, by omega, by omega, by go_num, by go_num, rfl, by simpa using hown', by simp; omega, R, hb2⟩
             case measure => first | (simp [intOf]; done) | (simp [intOf]; omega))
      · have hk1 : k = s.size + 1 := by omega
        subst hk1
        rw [Nat.sub_self] at hgo
        have hres : RES = some (out, lg) := hgo.symm
        have hne : ¬ s.toList = [] := by assumption
        have hpos : 0 < s.size := by
          rcases Nat.eq_zero_or_pos s.size with h | h
          · exact absurd (by rw [Lib.toList_data, ← List.length_eq_zero_iff, Array.length_toList]; exact h) hne
          · exact h
        cases lg
        · go_wp2
          go_region
          go_wp2
          refine bodyPost_ret (results_tmp3 rfl _ _ _) rfl ⟨?_, hbel.trans ⟨rfl, rfl, rfl, Nat.le_refl _, fun _ _ => rfl⟩⟩
          unfold refOk refL
          rw [if_neg (fun h => h.elim (fun h => hne h) (fun h => absurd h (by omega))), hR, hres, hB]
          have e1 : s[0]! = s[0] := getElem!_pos s 0 hpos
          have e2 : ((s[0].toNat : Int) == 47) = (s[0] == 47) := by
            rw [Bool.eq_iff_iff]
            simp only [beq_iff_eq]
            rw [← UInt8.toNat_inj]
            simp; omega
          refine ⟨u5, ?_, hown⟩
          rw [e1]
          simp [e2]
        · go_wp2
          refine bodyPost_ret (results_tmp3 rfl _ _ _) rfl ⟨?_, hbel⟩
          unfold refOk refL
          rw [if_neg (fun h => h.elim (fun h => hne h) (fun h => absurd h (by omega))), hR, hres]; rfl
end Go.Proofs
