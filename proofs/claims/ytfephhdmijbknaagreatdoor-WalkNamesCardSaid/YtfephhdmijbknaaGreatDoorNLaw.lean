/- A part of the proofs of this seat (YtfephhdmijbknaaGreatDoor): the text named at the end of this row is one of those that the main text imports: NLaw. -/
import Derived.Lib.SmallJoins
import Derived.Test.YtfephhdmijbknaaGreatDoorWParses
set_option linter.unusedVariables false
set_option linter.unusedSimpArgs false
set_option linter.unusedVariables false
namespace Go.Proofs
open Go.Lib

def grown (out : List ByteArray) (cur : List UInt8) : List ByteArray := if cur ≠ [] ∧ cur ≠ [46] then out ++ [⟨cur.toArray⟩] else out
/-- the reference's pass over the bytes, over lists -/
def refB : List UInt8 → List UInt8 → List ByteArray → Bool → Option (List ByteArray × Bool)
  | [], cur, out, lg => some (grown out cur, lg || decide (24 < cur.length))
  | b :: t, cur, out, lg =>
    if b = 0 then none
    else if b = 47 then refB t [] (grown out cur) (lg || decide (24 < cur.length))
    else refB t (cur ++ [b]) out lg
theorem ext_piece (s : ByteArray) (a b : Nat) : s.extract a b = ⟨(pieceU s.data.toList a b).toArray⟩ := by
  apply ByteArray.ext
  rw [ByteArray.data_extract]
  apply Array.toList_inj.1
  simp [pieceU, Array.toList_extract, List.extract_eq_take_drop]
theorem ext_toList (s : ByteArray) (a b : Nat) : (s.extract a b).toList = pieceU s.data.toList a b := by
  rw [Lib.toList_data, ext_piece]
theorem pieceU_len (s : ByteArray) (a b : Nat) : (s.extract a b).size = (pieceU s.data.toList a b).length := by
  rw [ext_piece]; rfl
theorem ref_refB (s : ByteArray) : ∀ (f pos frm : Nat) (out : List ByteArray) (lg : Bool), s.size + 1 = pos + f → pos ≤ s.size → frm ≤ pos →
    refGo s f pos frm out lg = refB (s.data.toList.drop pos) (pieceU s.data.toList frm pos) out lg
  | 0, pos, frm, out, lg, h, hp, hf => by omega
  | f + 1, pos, frm, out, lg, h, hp, hf => by
    have hg : (if (s.extract frm pos).toList ≠ [] ∧ (s.extract frm pos).toList ≠ [46] then out ++ [s.extract frm pos] else out) = grown out (pieceU s.data.toList frm pos) := by
      unfold grown
      rw [ext_toList, ext_piece]
    have hlen : s.data.toList.length = s.size := by simp
    unfold refGo
    rw [hg, pieceU_len]
    rcases Nat.lt_or_ge pos s.size with hlt | hge
    · have hb : s[pos]! = s.data.toList[pos]'(by omega) := by
        rw [bang_list, List.getD_eq_getElem?_getD, List.getElem?_eq_getElem (by omega)]; rfl
      rw [List.drop_eq_getElem_cons (by omega : pos < s.data.toList.length)]
      simp only [refB]
      rw [hb]
      by_cases h0 : s.data.toList[pos]'(by omega) = 0
      · rw [if_pos ⟨hlt, h0⟩, if_pos h0]
      · rw [if_neg (fun q => h0 q.2), if_neg h0]
        by_cases h47 : s.data.toList[pos]'(by omega) = 47
        · rw [if_pos (.inr h47), if_pos h47, ref_refB s f (pos + 1) (pos + 1) _ _ (by omega) (by omega) (by omega)]
          congr 1
          simp [pieceU]
        · rw [if_neg (fun q => q.elim (by omega) h47), if_neg h47, ref_refB s f (pos + 1) frm _ _ (by omega) (by omega) (by omega)]
          congr 1
          rw [← pieceU_grow _ _ _ _ hf, List.drop_eq_getElem_cons (by omega : pos < s.data.toList.length)]
          rfl
    · obtain rfl : pos = s.size := by omega
      obtain rfl : f = 0 := by omega
      rw [if_neg (by omega), if_pos (.inl rfl), List.drop_eq_nil_of_le (by omega)]
      rfl
theorem refB_over : ∀ (x cur t : List UInt8) (out : List ByteArray) (lg : Bool), (∀ b ∈ x, b ≠ 0 ∧ b ≠ 47) → refB (x ++ t) cur out lg = refB t (cur ++ x) out lg
  | [], cur, t, out, lg, h => by simp
  | b :: x, cur, t, out, lg, h => by
    have hb := h b (by simp)
    rw [List.cons_append, refB, if_neg hb.1, if_neg hb.2, refB_over x (cur ++ [b]) t out lg (fun c hc => h c (by simp [hc]))]
    simp
/-- a name that may be joined -/
def good (s : ByteArray) : Prop := s.toList ≠ [] ∧ s.toList ≠ [46] ∧ s.size ≤ 24 ∧ ∀ k, k < s.size → s[k]! ≠ 47 ∧ s[k]! ≠ 0
theorem good_mem {s : ByteArray} (h : good s) : ∀ b ∈ s.data.toList, b ≠ 0 ∧ b ≠ 47 := by
  intro b hb
  obtain ⟨k, hk, rfl⟩ := List.getElem_of_mem hb
  have := h.2.2.2 k (by simpa using hk)
  rw [bang_list, List.getD_eq_getElem?_getD, List.getElem?_eq_getElem hk] at this
  exact ⟨this.2, this.1⟩
theorem refB_name {s : ByteArray} (h : good s) (t : List UInt8) (out : List ByteArray) : refB (s.data.toList ++ 47 :: t) [] out false = refB t [] (out ++ [s]) false := by
  rw [refB_over _ _ _ _ _ (good_mem h), refB, if_neg (by decide), if_pos rfl]
  have h1 := h.1
  have h2 := h.2.1
  rw [Lib.toList_data] at h1 h2
  have h3 : ¬ 24 < s.data.toList.length := by
    have := h.2.2.1
    have : s.data.toList.length = s.size := by simp
    omega
  have h4 : decide (24 < ([] ++ s.data.toList).length) = false := by simpa using h3
  rw [h4]
  simp [grown, h1, h2]
def sepB (b : Nat) : ByteArray := match b % 4 with | 0 => ⟨#[]⟩ | 1 => ⟨#[47]⟩ | 2 => ⟨#[46, 47]⟩ | _ => ⟨#[46, 47, 47, 46, 47]⟩
theorem refB_sep (b : Nat) (t : List UInt8) (out : List ByteArray) : refB ((sepB b).data.toList ++ t) [] out false = refB t [] out false := by
  unfold sepB
  split <;> simp [refB, grown]
theorem sepB_size (b : Nat) : (sepB b).size ≤ 5 := by
  unfold sepB
  split <;> decide
def joined (first : Bool) (ns : List ByteArray) (sp : List Nat) : Nat → ByteArray
  | 0 => if first then ⟨#[47]⟩ else ⟨#[]⟩
  | k + 1 => if k < sp.length then (joined first ns sp k ++ (ns[k]! ++ ⟨#[47]⟩)) ++ sepB sp[k]! else joined first ns sp k ++ (ns[k]! ++ ⟨#[47]⟩)
theorem joined_size (first : Bool) (ns : List ByteArray) (sp : List Nat) : ∀ k, (∀ i, i < k → good ns[i]!) → (joined first ns sp k).size ≤ 1 + 30 * k
  | 0, _ => by unfold joined; split <;> decide
  | k + 1, h => by
    have ih := joined_size first ns sp k (fun i hi => h i (by omega))
    have h1 := (h k (by omega)).2.2.1
    have h2 := sepB_size sp[k]!
    have h3 : (⟨#[47]⟩ : ByteArray).size = 1 := rfl
    unfold joined
    split <;> simp only [ByteArray.size_append] <;> omega
theorem joined_ref (first : Bool) (ns : List ByteArray) (sp : List Nat) : ∀ k, k ≤ ns.length → (∀ i, i < k → good ns[i]!) → ∀ t,
    refB ((joined first ns sp k).data.toList ++ t) [] [] false = refB t [] (ns.take k) false
  | 0, _, _, t => by
    unfold joined
    cases first <;> simp [refB, grown]
  | k + 1, hk, h, t => by
    have ih := joined_ref first ns sp k (by omega) (fun i hi => h i (by omega))
    have hg := h k (by omega)
    have e : ns.take (k + 1) = ns.take k ++ [ns[k]!] := by
      rw [List.take_add_one, List.getElem?_eq_getElem (by omega), getElem!_pos ns k (by omega)]; rfl
    unfold joined
    split
    · rw [Go.Joins.data_append, Go.Joins.data_append, Go.Joins.data_append, List.append_assoc, List.append_assoc, ih]
      rw [show ns[k]!.data.toList ++ (⟨#[47]⟩ : ByteArray).data.toList ++ ((sepB sp[k]!).data.toList ++ t) = ns[k]!.data.toList ++ 47 :: ((sepB sp[k]!).data.toList ++ t) by simp]
      rw [refB_name hg, refB_sep, e]
    · rw [Go.Joins.data_append, Go.Joins.data_append, List.append_assoc, ih]
      rw [show ns[k]!.data.toList ++ (⟨#[47]⟩ : ByteArray).data.toList ++ t = ns[k]!.data.toList ++ 47 :: t by simp]
      rw [refB_name hg, e]
theorem joined_head (first : Bool) (ns : List ByteArray) (sp : List Nat) : ∀ k, ∃ r, (joined first ns sp (k + 1)).data.toList = (if first then [(47 : UInt8)] else []) ++ (ns[0]!.data.toList ++ r)
  | 0 => by
    unfold joined
    split
    · refine ⟨47 :: (sepB sp[0]!).data.toList, ?_⟩
      rw [Go.Joins.data_append, Go.Joins.data_append, Go.Joins.data_append]
      cases first <;> simp [joined]
    · refine ⟨[47], ?_⟩
      rw [Go.Joins.data_append, Go.Joins.data_append]
      cases first <;> simp [joined]
  | k + 1 => by
    obtain ⟨r, hr⟩ := joined_head first ns sp k
    unfold joined
    split
    · refine ⟨r ++ (ns[k + 1]!.data.toList ++ [47] ++ (sepB sp[k + 1]!).data.toList), ?_⟩
      rw [Go.Joins.data_append, Go.Joins.data_append, Go.Joins.data_append, hr]
      simp
    · refine ⟨r ++ (ns[k + 1]!.data.toList ++ [47]), ?_⟩
      rw [Go.Joins.data_append, Go.Joins.data_append, hr]
      simp
/-- ██ what is joined is parsed as it was -/
theorem joined_parsed (first : Bool) (ns : List ByteArray) (sp : List Nat) (hn : 1 ≤ ns.length) (h : ∀ i, i < ns.length → good ns[i]!) :
    parsed (joined first ns sp ns.length) = if 256 < (joined first ns sp ns.length).size then ([], false, 26) else (ns, first, 0) := by
  obtain ⟨m, hm⟩ : ∃ m, ns.length = m + 1 := ⟨ns.length - 1, by omega⟩
  obtain ⟨r, hr⟩ := joined_head first ns sp m
  rw [← hm] at hr
  have hj := joined_ref first ns sp ns.length (Nat.le_refl _) h []
  generalize joined first ns sp ns.length = p at hr hj
  rw [List.append_nil] at hj
  have hg := h 0 (by omega)
  have h0 := hg.1
  rw [Lib.toList_data] at h0
  have hne : ¬ p.toList = [] := by
    intro q
    rw [Lib.toList_data, hr] at q
    exact h0 (List.append_eq_nil_iff.1 (List.append_eq_nil_iff.1 q).2).1
  unfold parsed
  by_cases hs : 256 < p.size
  · rw [if_pos hs]
    have : parseL p = none := by unfold parseL; rw [if_pos (.inr (.inl hs))]
    rw [this]
  · rw [if_neg hs]
    have h1 : refGo p (p.size + 1) 0 0 [] false = some (ns, false) := by
      rw [ref_refB p (p.size + 1) 0 0 [] false (by omega) (by omega) (by omega), List.drop_zero, show pieceU p.data.toList 0 0 = [] by simp [pieceU], hj, List.take_length]
      rfl
    have h2 : parseL p = some ns := by
      rw [parse_ref]
      unfold refL
      rw [if_neg (fun q => q.elim hne hs), h1]
      rfl
    rw [h2]
    have h3 : (p[0]! == 47) = first := by
      rw [bang_list, hr]
      cases first with
      | true => rfl
      | false =>
        cases hl : ns[0]!.data.toList with
        | nil => exact absurd hl h0
        | cons b t =>
          have := good_mem hg b (by rw [hl]; simp)
          simp [this.2]
    simp only [h3]
end Go.Proofs
