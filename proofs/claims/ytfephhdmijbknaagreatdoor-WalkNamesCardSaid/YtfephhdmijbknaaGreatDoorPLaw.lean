/- A part of the proofs of this seat (YtfephhdmijbknaaGreatDoor): the text named at the end of this row is one of those that the main text imports: PLaw. -/
import Derived.Lib.SpaceUEq
import Derived.Test.YtfephhdmijbknaaGreatDoorPParse
import Derived.Test.YtfephhdmijbknaaGreatDoorPRef
set_option linter.unusedVariables false
set_option linter.unusedSimpArgs false
set_option linter.unusedVariables false
namespace Go.Proofs
open Go.Lib

theorem bang_get (s : ByteArray) (k : Nat) : s.get! k = s[k]! := by
  show s.data[k]! = s[k]!
  by_cases h : k < s.size
  · rw [getElem!_pos s k h, getElem!_pos s.data k h]; rfl
  · rw [getElem!_neg s k h, getElem!_neg s.data k h]
theorem bang_list (s : ByteArray) (k : Nat) : s[k]! = s.data.toList.getD k 0 := by rw [getD_get!', bang_get]
theorem no_zero {s : ByteArray} (h : ¬ 0 ≤ Lib.indexByte s.data.toList (0 : UInt8)) (k : Nat) (hk : k < s.size) : s[k]! ≠ 0 := by
  have h1 : Lib.indexByte s.data.toList (0 : UInt8) = -1 := by have := Lib.indexByte_ge s.data.toList 0; omega
  have h2 := Lib.indexByte_none h1 k
  intro h3
  apply h2
  rw [bang_list] at h3
  have hl : k < s.data.toList.length := by simpa using hk
  rw [List.getElem?_eq_getElem hl]
  rw [List.getD_eq_getElem?_getD, List.getElem?_eq_getElem hl] at h3
  simpa using h3
theorem a_zero {s : ByteArray} (h : 0 ≤ Lib.indexByte s.data.toList (0 : UInt8)) : ∃ k, k < s.size ∧ s[k]! = 0 := by
  obtain ⟨k, hk⟩ := Int.eq_ofNat_of_zero_le h
  have := (Lib.indexByte_some hk).1
  have hl : k < s.data.toList.length := by
    rcases Nat.lt_or_ge k s.data.toList.length with h | h
    · exact h
    · rw [List.getElem?_eq_none h] at this; cases this
  refine ⟨k, by simpa using hl, ?_⟩
  rw [bang_list, List.getD_eq_getElem?_getD, this]; rfl
/-- over one rune -/
theorem rune_bytes (s : ByteArray) (pos : Nat) (h : pos < s.size) : pos + (Utf8.decode s pos).2 ≤ s.size ∧
    ((Utf8.decode s pos).1 = 47 → (Utf8.decode s pos).2 = 1 ∧ s[pos]! = 47) ∧
    ((Utf8.decode s pos).1 ≠ 47 → ∀ j, j < (Utf8.decode s pos).2 → s[pos + j]! ≠ 47) := by
  rw [decode_at]
  simp only [bang_get]
  generalize hn : s.size - pos = n
  have e0 : s[pos]! = 47 ↔ (s[pos]!).toNat = 47 := by rw [← UInt8.toNat_inj]; rfl
  have e1 : s[pos + 1]! = 47 ↔ (s[pos + 1]!).toNat = 47 := by rw [← UInt8.toNat_inj]; rfl
  have e2 : s[pos + 2]! = 47 ↔ (s[pos + 2]!).toNat = 47 := by rw [← UInt8.toNat_inj]; rfl
  have e3 : s[pos + 3]! = 47 ↔ (s[pos + 3]!).toNat = 47 := by rw [← UInt8.toNat_inj]; rfl
  have k0 := (s[pos]!).toNat_lt
  have hge := decodeN_ge1 n (s[pos]!).toNat (s[pos + 1]!).toNat (s[pos + 2]!).toNat (s[pos + 3]!).toNat
  have hle := decodeN_le_n' n (s[pos]!).toNat (s[pos + 1]!).toNat (s[pos + 2]!).toNat (s[pos + 3]!).toNat (by omega)
  have hc := decodeN_conts n (s[pos]!).toNat (s[pos + 1]!).toNat (s[pos + 2]!).toNat (s[pos + 3]!).toNat
  have hs := decodeN_cases n (s[pos]!).toNat (s[pos + 1]!).toNat (s[pos + 2]!).toNat (s[pos + 3]!).toNat
  have h0 : 128 ≤ (s[pos]!).toNat → (decodeN n (s[pos]!).toNat (s[pos + 1]!).toNat (s[pos + 2]!).toNat (s[pos + 3]!).toNat).1 ≠ 47 := by
    intro h1
    rcases hs with ⟨c, e⟩ | ⟨c1, c2, c3, cv, e⟩ | ⟨c1, c2, c3, c4, cv, e⟩ | ⟨c, e⟩ | e
    · omega
    · rw [e]; dsimp only; omega
    · rw [e]; dsimp only; omega
    · omega
    · rw [e]; decide
  have h1 : (s[pos]!).toNat < 128 → decodeN n (s[pos]!).toNat (s[pos + 1]!).toNat (s[pos + 2]!).toNat (s[pos + 3]!).toNat = ((s[pos]!).toNat, 1) := by
    intro h1
    unfold decodeN
    rw [if_pos h1]
  generalize decodeN n (s[pos]!).toNat (s[pos + 1]!).toNat (s[pos + 2]!).toNat (s[pos + 3]!).toNat = D at *
  obtain ⟨c2, c3, c4, c5⟩ := hc
  refine ⟨by omega, fun h47 => ?_, fun h47 j hj => ?_⟩
  · have hlt : (s[pos]!).toNat < 128 := by
      rcases Nat.lt_or_ge (s[pos]!).toNat 128 with h | h
      · exact h
      · exact absurd h47 (h0 h)
    rw [h1 hlt] at h47 ⊢
    exact ⟨rfl, e0.2 h47⟩
  · rcases j with _ | _ | _ | _ | j
    · rw [Nat.add_zero, Ne, e0]
      intro h
      have := h1 (by omega)
      rw [this] at h47
      exact h47 h
    · rw [Nat.zero_add, Ne, e1]; have := c2 (by omega); omega
    · rw [Ne, e2]; have := c3 (by omega); omega
    · rw [Ne, e3]; have := c4 (by omega); omega
    · omega
/-- the reference goes over w bytes that are neither -/
theorem ref_over (s : ByteArray) (frm : Nat) (out : List ByteArray) (lg : Bool) : ∀ (w pos : Nat), pos + w ≤ s.size → (∀ j, j < w → s[pos + j]! ≠ 0 ∧ s[pos + j]! ≠ 47) →
    refGo s (s.size + 1 - pos) pos frm out lg = refGo s (s.size + 1 - (pos + w)) (pos + w) frm out lg
  | 0, pos, _, _ => rfl
  | w + 1, pos, h, hb => by
    have h0 := hb 0 (by omega)
    rw [Nat.add_zero] at h0
    rw [← ref_skip (by omega) rfl h0.1 (by omega) h0.2, ref_over s frm out lg w (pos + 1) (by omega) (fun j hj => by have := hb (j + 1) (by omega); rwa [show pos + (j + 1) = pos + 1 + j by omega] at this)]
    rw [show pos + 1 + w = pos + (w + 1) by omega]

def names (s : ByteArray) (l : List (Nat × Nat)) : List ByteArray := l.map fun x => s.extract x.1 x.2
theorem toList_nil (x : ByteArray) : x.toList = [] ↔ x.size = 0 := by
  rw [Lib.toList_data, ← List.length_eq_zero_iff, Array.length_toList]; rfl
theorem pLong_ext (s : ByteArray) (a b : Nat) : decide (24 < (s.extract a b).size) = pLong (s.extract a b) := rfl
theorem span_ref (s : ByteArray) (hz : ∀ k, k < s.size → s[k]! ≠ 0) : ∀ (f pos : Nat) (st : Option Nat) (acc : List (Nat × Nat)) (frm : Nat), s.size ≤ pos + f → pos ≤ s.size →
    (match st with | some a => a = frm ∧ frm < pos | none => frm = pos) →
    refGo s (s.size + 1 - pos) pos frm ((names s acc).filter fun x => !pDot x) ((names s acc).any pLong) =
      some ((names s (closeSpans s (spansFromP pSlash s f pos st acc))).filter (fun x => !pDot x), (names s (closeSpans s (spansFromP pSlash s f pos st acc))).any pLong)
  | f, pos, st, acc, frm, hf, hp, hst => by
    -- one segment that ends at pos
    have hseg : (pos = s.size ∨ s[pos]! = 47) → refGo s (s.size + 1 - pos) pos frm ((names s acc).filter fun x => !pDot x) ((names s acc).any pLong) =
        refGo s (s.size + 1 - (pos + 1)) (pos + 1) (pos + 1)
          ((names s (match st with | some a => acc ++ [(a, pos)] | none => acc)).filter fun x => !pDot x)
          ((names s (match st with | some a => acc ++ [(a, pos)] | none => acc)).any pLong) := by
      intro h47
      cases st with
      | none =>
        subst hst
        have he : (s.extract frm frm).size = 0 := by rw [extract_len s frm frm hp]; omega
        rw [← ref_no hp rfl (fun h => hz _ h) h47 (.inl ((toList_nil _).2 he)), ← long_eq, Nat.sub_self]
        simp
      | some a =>
        obtain ⟨rfl, hlt⟩ := hst
        have he : (s.extract a pos).size = pos - a := extract_len s a pos hp
        have hne : (s.extract a pos).toList ≠ [] := by rw [Ne, toList_nil]; omega
        by_cases hd : (s.extract a pos).toList = [46]
        · rw [← ref_no hp rfl (fun h => hz _ h) h47 (.inr hd), ← long_eq, ← he, pLong_ext]
          have : pDot (s.extract a pos) = true := by simp [pDot, hd]
          simp [names, List.filter_append, this]
        · rw [← ref_yes hp rfl (fun h => hz _ h) h47 ⟨hne, hd⟩, ← long_eq, ← he, pLong_ext]
          have : pDot (s.extract a pos) = false := by simp [pDot, hd]
          simp [names, List.filter_append, this]
    rcases Nat.lt_or_ge pos s.size with hlt | hge
    · cases f with
      | zero => omega
      | succ f =>
        obtain ⟨hw, h1, h2⟩ := rune_bytes s pos hlt
        have hwp := width_pos s pos
        simp only [spansFromP, if_pos hlt]
        by_cases h47 : (Utf8.decode s pos).1 = 47
        · obtain ⟨e1, e2⟩ := h1 h47
          rw [hseg (.inr e2)]
          have : pSlash (Utf8.decode s pos).1 = true := by simp [pSlash, h47]
          simp only [this, if_true, e1]
          cases st with
          | none => exact span_ref s hz f (pos + 1) none acc (pos + 1) (by omega) (by omega) rfl
          | some a => exact span_ref s hz f (pos + 1) none (acc ++ [(a, pos)]) (pos + 1) (by omega) (by omega) rfl
        · have : pSlash (Utf8.decode s pos).1 = false := by simp [pSlash, h47]
          simp only [this, Bool.false_eq_true, if_false]
          rw [ref_over s frm _ _ (Utf8.decode s pos).2 pos hw (fun j hj => ⟨hz _ (by omega), h2 h47 j hj⟩)]
          cases st with
          | none => exact span_ref s hz f (pos + (Utf8.decode s pos).2) (some pos) acc frm (by omega) (by omega) (by subst hst; exact ⟨rfl, by omega⟩)
          | some a => exact span_ref s hz f (pos + (Utf8.decode s pos).2) (some a) acc frm (by omega) (by omega) ⟨hst.1, by omega⟩
    · have hpe : pos = s.size := by omega
      subst hpe
      rw [hseg (.inl rfl), spansFromP_end _ _ _ _ _ _ (by omega), show s.size + 1 - (s.size + 1) = 0 by omega]
      cases st with
      | none => rfl
      | some a => rfl
termination_by f => f
theorem ref_none (s : ByteArray) : ∀ (f pos frm : Nat) (out : List ByteArray) (lg : Bool), (∃ k, pos ≤ k ∧ k < pos + f ∧ k < s.size ∧ s[k]! = 0) → refGo s f pos frm out lg = none
  | 0, pos, frm, out, lg, h => by obtain ⟨k, h1, h2, _⟩ := h; omega
  | f + 1, pos, frm, out, lg, h => by
    unfold refGo
    split
    · rfl
    · rename_i hn
      obtain ⟨k, h1, h2, h3, h4⟩ := h
      have hne : k ≠ pos := by rintro rfl; exact hn ⟨h3, h4⟩
      have h' : ∃ k, pos + 1 ≤ k ∧ k < pos + 1 + f ∧ k < s.size ∧ s[k]! = 0 := ⟨k, by omega, by omega, h3, h4⟩
      split
      · exact ref_none s f _ _ _ _ h'
      · exact ref_none s f _ _ _ _ h'
theorem any_filter (l : List ByteArray) : (l.filter fun x => !pDot x).any pLong = l.any pLong := by
  induction l with
  | nil => rfl
  | cons x t ih =>
    by_cases hd : pDot x
    · have : pLong x = false := by
        simp only [pDot, beq_iff_eq] at hd
        have h1 : x.size = 1 := by
          have := congrArg List.length hd
          rw [Lib.toList_data] at this
          simpa using this
        simp [pLong, h1]
      simp [hd, this, ih]
    · simp [hd, ih]
/-- ██ THE TWO WAYS TO PARSE ARE ONE -/
theorem parse_ref (s : ByteArray) : parseL s = refL s := by
  unfold parseL refL
  by_cases h0 : s.toList = [] ∨ 256 < s.size
  · rw [if_pos h0, if_pos (h0.elim .inl fun h => .inr (.inl h))]
  · rw [if_neg h0]
    by_cases hz : 0 ≤ Lib.indexByte s.data.toList (0 : UInt8)
    · rw [if_pos (.inr (.inr hz))]
      obtain ⟨k, hk, h⟩ := a_zero hz
      rw [ref_none s (s.size + 1) 0 0 [] false ⟨k, by omega, by omega, hk, h⟩]
    · rw [if_neg (fun h => h.elim (fun h => h0 (.inl h)) fun h => h.elim (fun h => h0 (.inr h)) hz)]
      have h := span_ref s (no_zero hz) s.size 0 none [] 0 (by omega) (by omega) rfl
      change refGo s (s.size + 1) 0 0 [] false = some ((goFieldsP pSlash s).filter (fun x => !pDot x), (goFieldsP pSlash s).any pLong) at h
      rw [h, any_filter]
end Go.Proofs
