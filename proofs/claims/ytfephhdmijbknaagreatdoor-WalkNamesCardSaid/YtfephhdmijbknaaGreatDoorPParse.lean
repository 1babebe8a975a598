/- A part of the proofs of this seat (YtfephhdmijbknaaGreatDoor): the text named at the end of this row is one of those that the main text imports: PParse. -/
import Derived.Shelf.Strings.FieldsFuncAny
import Derived.Shelf.Strings.Runes
import Derived.Shelf.SlicesE.DeleteFunc
import Derived.Shelf.SlicesE.IndexFunc
import Derived.Shelf.SlGeneric
import Derived.Lib.SliceRun
import Derived.WalkKit
import Derived.RegionTactic
import Derived.OwnWalk
import Derived.Test.YtfephhdmijbknaaGreatDoorProg
set_option linter.unusedVariables false
set_option linter.unusedSimpArgs false
set_option linter.unusedVariables false
namespace Go.Proofs
open Go.Shelf Go.RowKit Go.Lib Go.Sort
def Tryz.l12_ren : Go.Shelf.Ren := ⟨fun | 151 => 12 | 152 => 33 | 137 => 59 | 119 => 60 | 224 => 61 | 225 => 62 | 217 => 95 | 266 => 114 | n => n, fun | 9 => 9 | 21 => 21 | 4 => 4 | 3 => 3 | 5 => 5 | 0 => 0 | 46 => 112 | n => n, fun | n => n⟩
theorem Tryz.l12 : Go.Proofs.Lays.n151 Tryz.prog Tryz.l12_ren := {
  mixed := by kernel_rfl
  f119 := Tryz.func60.trans (congrArg some (by kernel_rfl))
  f137 := Tryz.func59.trans (congrArg some (by kernel_rfl))
  f151 := Tryz.func12.trans (congrArg some (by kernel_rfl))
  f152 := Tryz.func33.trans (congrArg some (by kernel_rfl))
  f217 := Tryz.func95.trans (congrArg some (by kernel_rfl))
  f224 := Tryz.func61.trans (congrArg some (by kernel_rfl))
  f225 := Tryz.func62.trans (congrArg some (by kernel_rfl))
  f266 := Tryz.func114.trans (congrArg some (by kernel_rfl))
  t0 := Tryz.underlying0
  a0 := Tryz.isAgg0
  z0 := Tryz.sizeOf0
  v0 := Tryz.zeroValue0
  t3 := Tryz.underlying3
  a3 := Tryz.isAgg3
  z3 := Tryz.sizeOf3
  v3 := Tryz.zeroValue3
  t4 := Tryz.underlying4
  a4 := Tryz.isAgg4
  z4 := Tryz.sizeOf4
  v4 := Tryz.zeroValue4
  t5 := Tryz.underlying5
  a5 := Tryz.isAgg5
  z5 := Tryz.sizeOf5
  v5 := Tryz.zeroValue5
  t9 := Tryz.underlying9
  a9 := Tryz.isAgg9
  z9 := Tryz.sizeOf9
  v9 := Tryz.zeroValue9
  t21 := Tryz.underlying21
  a21 := Tryz.isAgg21
  z21 := Tryz.sizeOf21
  v21 := Tryz.zeroValue21
  t46 := Tryz.underlying112
  a46 := Tryz.isAgg112
  z46 := Tryz.sizeOf112
  v46 := Tryz.zeroValue112 }
def Tryz.l13_ren : Go.Shelf.Ren := ⟨fun | 229 => 13 | n => n, fun | 9 => 9 | 40 => 42 | 31 => 23 | 152 => 77 | 3 => 3 | 0 => 0 | 4 => 4 | 21 => 21 | 154 => 79 | n => n, fun | n => n⟩
theorem Tryz.l13 : Go.Proofs.Lays.n229 Tryz.prog Tryz.l13_ren := {
  mixed := by kernel_rfl
  f229 := Tryz.func13.trans (congrArg some (by kernel_rfl))
  t0 := Tryz.underlying0
  a0 := Tryz.isAgg0
  z0 := Tryz.sizeOf0
  v0 := Tryz.zeroValue0
  t3 := Tryz.underlying3
  a3 := Tryz.isAgg3
  z3 := Tryz.sizeOf3
  v3 := Tryz.zeroValue3
  t4 := Tryz.underlying4
  a4 := Tryz.isAgg4
  z4 := Tryz.sizeOf4
  v4 := Tryz.zeroValue4
  t9 := Tryz.underlying9
  a9 := Tryz.isAgg9
  z9 := Tryz.sizeOf9
  v9 := Tryz.zeroValue9
  t21 := Tryz.underlying21
  a21 := Tryz.isAgg21
  z21 := Tryz.sizeOf21
  v21 := Tryz.zeroValue21
  t31 := Tryz.underlying23
  a31 := Tryz.isAgg23
  z31 := Tryz.sizeOf23
  v31 := Tryz.zeroValue23
  t40 := Tryz.underlying42
  a40 := Tryz.isAgg42
  z40 := Tryz.sizeOf42
  v40 := Tryz.zeroValue42
  t152 := Tryz.underlying77
  a152 := Tryz.isAgg77
  z152 := Tryz.sizeOf77
  v152 := Tryz.zeroValue77
  t154 := Tryz.underlying79
  a154 := Tryz.isAgg79
  z154 := Tryz.sizeOf79
  v154 := Tryz.zeroValue79 }
def Tryz.l15_ren : Go.Shelf.Ren := ⟨fun | 10 => 15 | 6 => 34 | n => n, fun | 22 => 23 | 23 => 9 | 25 => 27 | 3 => 3 | 4 => 4 | 0 => 0 | n => n, fun | n => n⟩
theorem Tryz.l15 : Go.Proofs.SlLaysH.n10 Tryz.prog Tryz.l15_ren := {
  mixed := by kernel_rfl
  f6 := ⟨Tryz.f34.name, by decide, Tryz.func34.trans (congrArg some (by kernel_rfl))⟩
  f10 := ⟨Tryz.f15.name, by decide, Tryz.func15.trans (congrArg some (by kernel_rfl))⟩
  t0 := Tryz.underlying0
  a0 := Tryz.isAgg0
  z0 := Tryz.sizeOf0
  v0 := Tryz.zeroValue0
  t3 := Tryz.underlying3
  a3 := Tryz.isAgg3
  z3 := Tryz.sizeOf3
  v3 := Tryz.zeroValue3
  t4 := Tryz.underlying4
  a4 := Tryz.isAgg4
  z4 := Tryz.sizeOf4
  v4 := Tryz.zeroValue4
  t22 := Tryz.underlying23
  a22 := Tryz.isAgg23
  z22 := Tryz.sizeOf23
  v22 := Tryz.zeroValue23
  a23 := Tryz.isAgg9
  z23 := Tryz.sizeOf9
  t25 := Tryz.underlying27
  a25 := Tryz.isAgg27
  z25 := Tryz.sizeOf27
  v25 := Tryz.zeroValue27 }
def Tryz.l17_ren : Go.Shelf.Ren := ⟨fun | 8 => 17 | 6 => 34 | n => n, fun | 22 => 23 | 23 => 9 | 25 => 27 | 4 => 4 | 3 => 3 | 0 => 0 | n => n, fun | n => n⟩
theorem Tryz.l17 : Go.Proofs.SlLaysH.n8 Tryz.prog Tryz.l17_ren := {
  mixed := by kernel_rfl
  f6 := ⟨Tryz.f34.name, by decide, Tryz.func34.trans (congrArg some (by kernel_rfl))⟩
  f8 := ⟨Tryz.f17.name, by decide, Tryz.func17.trans (congrArg some (by kernel_rfl))⟩
  t0 := Tryz.underlying0
  a0 := Tryz.isAgg0
  z0 := Tryz.sizeOf0
  v0 := Tryz.zeroValue0
  t3 := Tryz.underlying3
  a3 := Tryz.isAgg3
  z3 := Tryz.sizeOf3
  v3 := Tryz.zeroValue3
  t4 := Tryz.underlying4
  a4 := Tryz.isAgg4
  z4 := Tryz.sizeOf4
  v4 := Tryz.zeroValue4
  t22 := Tryz.underlying23
  a22 := Tryz.isAgg23
  z22 := Tryz.sizeOf23
  v22 := Tryz.zeroValue23
  a23 := Tryz.isAgg9
  z23 := Tryz.sizeOf9
  t25 := Tryz.underlying27
  a25 := Tryz.isAgg27
  z25 := Tryz.sizeOf27
  v25 := Tryz.zeroValue27 }

def pSlash (x : Nat) : Bool := x == 47
def pDot (s : ByteArray) : Bool := s.toList == [46]
def pLong (s : ByteArray) : Bool := decide (24 < s.size)
theorem Tryz.gives14 (x : Nat) (W : World) : FnGives Tryz.prog 14 #[] #[encR x] (.bool (pSlash x)) W := by
  show Calls Tryz.prog 14 #[encR x] W _
  unfold encR
  go_enter Tryz.func14, Tryz.ntmps14
  go_wp2
  all_goals (go_ret; refine ⟨?_, 0, rfl⟩)
  have : ((x : Int) == 47) = (x == 47) := by rw [Bool.eq_iff_iff]; simp; omega
  simp [pSlash, this]
theorem Tryz.gives16 (x : ByteArray) (W : World) : FnGives Tryz.prog 16 #[] #[.string x] (.bool (pDot x)) W := by
  show Calls Tryz.prog 16 #[.string x] W _
  go_enter Tryz.func16, Tryz.ntmps16
  go_wp2
  all_goals (go_ret; refine ⟨?_, 0, rfl⟩)
  simp [pDot]
theorem Tryz.gives18 (x : ByteArray) (W : World) : FnGives Tryz.prog 18 #[] #[.string x] (.bool (pLong x)) W := by
  show Calls Tryz.prog 18 #[.string x] W _
  go_enter Tryz.func18, Tryz.ntmps18
  go_wp2
  all_goals (go_ret; refine ⟨?_, 0, rfl⟩)
  simp [pLong]; omega

def parseL (s : ByteArray) : Option (List ByteArray) :=
  if s.toList = [] ∨ 256 < s.size ∨ 0 ≤ Lib.indexByte s.data.toList (0 : UInt8) then none
  else if (((goFieldsP pSlash s).filter fun x => !pDot x).any pLong) then none else some ((goFieldsP pSlash s).filter fun x => !pDot x)

/-- WHAT walk.Parse HANDS BACK -/
def parseOk (s : ByteArray) (w : World) (e : Ending) (w' : World) : Prop :=
  match parseL s with
  | none => e = .returned (.tuple #[.slice none 0 0, .bool false, .int .i64 26])
  | some l => ∃ A cap, e = .returned (.tuple #[.slice (some ⟨A, 0, none⟩) l.length cap, .bool (s[0]! == 47), .int .i64 0]) ∧ w.heap.size ≤ A ∧ ∀ i, i < l.length → w'.cell? ⟨A, i, none⟩ = some (.string l[i]!)

theorem spansFromP_length (p : Nat → Bool) (s : ByteArray) : ∀ (f pos : Nat) (st : Option Nat) (acc : List (Nat × Nat)), (spansFromP p s f pos st acc).1.length ≤ acc.length + f
  | 0, _, _, _ => Nat.le_refl _
  | f + 1, pos, st, acc => by
    unfold spansFromP
    split
    · split
      · split
        · rename_i a
          have := spansFromP_length p s f (pos + (Utf8.decode s pos).2) none (acc ++ [(a, pos)])
          simp only [List.length_append, List.length_singleton] at this
          omega
        · have := spansFromP_length p s f (pos + (Utf8.decode s pos).2) none acc
          omega
      · split
        · rename_i a
          have := spansFromP_length p s f (pos + (Utf8.decode s pos).2) (some a) acc
          omega
        · have := spansFromP_length p s f (pos + (Utf8.decode s pos).2) (some pos) acc
          omega
    · simp
theorem goFieldsP_length (p : Nat → Bool) (s : ByteArray) : (goFieldsP p s).length ≤ s.size + 1 := by
  unfold goFieldsP spansOfP
  rw [List.length_map]
  have := spansFromP_length p s s.size 0 none []
  generalize spansFromP p s s.size 0 none [] = x at this
  obtain ⟨l, o⟩ := x
  cases o <;> simp [closeSpans] at this ⊢ <;> omega
theorem holds_own {w : World} {B e A n c : Nat} {l : List ByteArray} (h : w.ownsRow B e 1 (.slice (some ⟨A, 0, none⟩) n c) n (l.map Value.string)) : Holds Value.string w A 0 l.toArray ∧ A < w.heap.size := by
  obtain ⟨h1, h2⟩ := h
  rcases h2 with ⟨h2, _⟩ | ⟨g, cap, cur, hv, hb, hg, hn, hc, hs, ht⟩
  · cases h2
  · simp only [Value.slice.injEq, Option.some.injEq, Addr.mk.injEq] at hv
    obtain ⟨⟨rfl, _, _⟩, _, rfl⟩ := hv
    refine ⟨fun j hj => ⟨?_, ?_⟩, (Array.getElem?_eq_some_iff.1 hg).1⟩
    · have hj : j < l.length := by simpa using hj
      simp only [List.length_map, Nat.mul_one] at h1
      have h3 := congrArg (fun q => q[j]?) ht
      simp only [Nat.mul_one, List.getElem?_take, Array.getElem?_toList, List.getElem?_map] at h3
      rw [if_pos (by omega), List.getElem?_eq_getElem hj] at h3
      simp [World.cell?, hg, h3, getElem!_pos, hj]
    · simp [World.frozen?, hg]
set_option maxHeartbeats 4000000 in
theorem Tryz.parse_calls (s : ByteArray) (w : World) (hs : s.size ≤ 1000) : Calls Tryz.prog 6 #[.string s] w fun e w' => parseOk s w e w' ∧ Below w.heap.size w w' := by
  have h12 := fun w => Any.strings_ContainsRune_ascii Tryz.l12 s 0 w (by decide) (by decide)
  have eg14 : ∀ args w, (callFunc 14 args).run Tryz.prog w = .ok (.enter 14 args) w := enters_of Tryz.func14 (by kernel_rfl) rfl
  have eg16 : ∀ args w, (callFunc 16 args).run Tryz.prog w = .ok (.enter 16 args) w := enters_of Tryz.func16 (by kernel_rfl) rfl
  have eg18 : ∀ args w, (callFunc 18 args).run Tryz.prog w = .ok (.enter 18 args) w := enters_of Tryz.func18 (by kernel_rfl) rfl
  have h13 := Any.strings_FieldsFunc Tryz.l13 14 #[] eg14 pSlash s w (by omega) (fun W x _ => Tryz.gives14 x W) (by kernel_rfl) (by kernel_rfl)
  change ∀ w, Calls Tryz.prog 12 _ _ _ at h12
  change Calls Tryz.prog 13 _ _ _ at h13
  have hlen : (goFieldsP pSlash s).length ≤ 9223372036854775807 := by
    have := goFieldsP_length pSlash s
    omega
  generalize hfl : goFieldsP pSlash s = fl at h13 hlen
  generalize hr : (fl.filter fun x => !pDot x) = r
  have h15 : ∀ (A : Nat) (w1 : World), w.heap.size ≤ A → Holds Value.string w1 A 0 fl.toArray → Below w.heap.size w w1 →
      Calls Tryz.prog 15 #[.slice (some ⟨A, 0, none⟩) fl.length fl.length, .func (.func 16) #[] #[]] w1 fun e w2 => e = .returned (.slice (some ⟨A, 0, none⟩) r.length fl.length) ∧
        (∀ i, i < r.length → w2.cell? ⟨A, i, none⟩ = some (.string r[i]!)) ∧ Below w.heap.size w w2 := by
    intro A w1 hA hH hb
    have h := AnyE.slices_DeleteFunc Tryz.l15 Value.string (fun _ => rfl) pDot 16 #[] eg16 ⟨#[]⟩ Tryz.zeroValue9 A 0 fl.length fl.toArray w1 (fun W x _ => Tryz.gives16 x W) (fun n os dk x _ => Tryz.gives16 x _) hH (by simpa using hlen) (by simp)
    change Calls Tryz.prog 15 _ _ _ at h
    simp only [List.size_toArray, hr] at h
    refine h.mono ?_
    rintro e w2 ⟨rfl, q, rfl⟩
    have hrl : r.length ≤ fl.length := by rw [← hr]; exact List.length_filter_le _ _
    refine ⟨rfl, fun i hi => ?_, ?_⟩
    · have := cell?_putRow Value.string (Sort.ahead w1 q) A 0 fl.toArray (r ++ List.replicate (fl.length - r.length) (⟨#[]⟩ : ByteArray)).toArray hH (by simp; omega) i (by simp; omega)
      rw [Nat.zero_add] at this
      rw [this]
      simp only [List.getElem!_toArray, List.getElem!_eq_getElem?_getD, List.getElem?_append_left hi]
    · refine ⟨hb.os, hb.tape, hb.output, by rw [size_putRow]; exact hb.size, fun k hk => ?_⟩
      rw [← hb.block k hk]
      simp only [putRow, mapBlock, Sort.ahead, Array.getElem?_modify]
      rw [if_neg (by omega)]
  have h17 : ∀ (A c : Nat) (w1 : World), (∀ i, i < r.length → w1.cell? ⟨A, i, none⟩ = some (.string r[i]!)) → Below w.heap.size w w1 →
      Calls Tryz.prog 17 #[.slice (some ⟨A, 0, none⟩) r.length c, .func (.func 18) #[] #[]] w1 fun e w2 => e = .returned (.bool (r.any pLong)) ∧
        (∀ i, i < r.length → w2.cell? ⟨A, i, none⟩ = some (.string r[i]!)) ∧ Below w.heap.size w w2 := by
    intro A c w1 hc hb
    have hrl : r.length ≤ fl.length := by rw [← hr]; exact List.length_filter_le _ _
    have h := AnyE.slices_ContainsFunc Tryz.l17 Value.string pLong 18 #[] eg18 A 0 r.length c r w1 (fun W x _ => Tryz.gives18 x W) (Nat.le_refl _) (by omega) (fun j hj => by rw [Nat.zero_add]; exact hc j hj)
    change Calls Tryz.prog 17 _ _ _ at h
    refine h.mono ?_
    rintro e w2 ⟨rfl, q, rfl⟩
    refine ⟨(by rw [List.take_length]), (fun i hi => ?_), ?_⟩
    · exact hc i hi
    · exact ⟨hb.os, hb.tape, hb.output, hb.size, hb.block⟩
  have h13' : Calls Tryz.prog 13 #[.string s, .func (.func 14) #[] #[]] w fun e w' => ∃ A, e = .returned (.slice (some ⟨A, 0, none⟩) fl.length fl.length) ∧ w.heap.size ≤ A ∧ Holds Value.string w' A 0 fl.toArray ∧ Below w.heap.size w w' := by
    refine h13.mono ?_
    rintro e w' ⟨A, h1, h2, h3, h4⟩
    exact ⟨A, h1, h2, (holds_own h3).1, h4⟩
  clear h13
  go_enter Tryz.func6, Tryz.ntmps6
  go_wp2_with (first | (go_at_call 12; refine (h12 _).mono ?_; rintro e w' ⟨rfl, rfl⟩) | (go_at_call 13; refine h13'.mono ?_; rintro e w' ⟨A, rfl, hA, hH, hbel⟩) | (go_at_call 15; refine (h15 _ _ hA hH hbel).mono ?_; rintro e w' ⟨rfl, hcel, hbel2⟩) | (go_at_call 17; refine (h17 _ _ _ hcel hbel2).mono ?_; rintro e w' ⟨rfl, hcel3, hbel3⟩))
  · refine bodyPost_ret (results_tmp3 rfl _ _ _) rfl ⟨?_, Below.refl _ _⟩
    rename_i h0
    unfold parseOk parseL
    rw [if_pos (.inl h0)]; rfl
  · refine bodyPost_ret (results_tmp3 rfl _ _ _) rfl ⟨?_, Below.refl _ _⟩
    rename_i h0 h1 h2
    unfold parseOk parseL
    rw [if_pos ?_]; · rfl
    rcases h2 with (h2 | h2) | h2
    · exact .inl (by simpa using h2)
    · exact .inr (.inl (by omega))
    · exact .inr (.inr h2)
  · have h0 : ¬ s.toList = [] := by assumption
    have h2 : (s.toList.isEmpty = false ∧ (s.size : Int) ≤ 256) ∧ indexByte s.data.toList 0 < 0 := by assumption
    have h3 : r.any pLong = true := by assumption
    refine bodyPost_ret (results_tmp3 rfl _ _ _) rfl ⟨?_, hbel3⟩
    unfold parseOk parseL
    rw [hfl, hr, if_neg ?_, if_pos h3]; · rfl
    rintro (h | h | h)
    · exact h0 h
    · omega
    · omega
  · have h0 : ¬ s.toList = [] := by assumption
    have h2 : (s.toList.isEmpty = false ∧ (s.size : Int) ≤ 256) ∧ indexByte s.data.toList 0 < 0 := by assumption
    have h3 : r.any pLong = false := by assumption
    have hpos : 0 < s.size := by
      rcases Nat.eq_zero_or_pos s.size with h | h
      · exact absurd (by rw [Lib.toList_data, ← List.length_eq_zero_iff, Array.length_toList]; exact h) h0
      · exact h
    have hpos2 : s.size ≠ 0 := by omega
    have hpos3 : (0 : Int) < s.size := by omega
    go_region
    go_wp2
    refine bodyPost_ret (results_tmp3 rfl _ _ _) rfl ⟨?_, hbel3.trans ⟨rfl, rfl, rfl, Nat.le_refl _, fun _ _ => rfl⟩⟩
    unfold parseOk parseL
    rw [hfl, hr, if_neg ?_, if_neg (by rw [h3]; simp)]
    · refine ⟨A, fl.length, ?_, hA, fun i hi => hcel3 i hi⟩
      have e1 : s[0]! = s[0] := getElem!_pos s 0 hpos
      rw [e1]
      have e2 : ((s[0].toNat : Int) == 47) = (s[0] == 47) := by
        rw [Bool.eq_iff_iff]
        simp only [beq_iff_eq]
        rw [← UInt8.toNat_inj]
        simp; omega
      simp [e2]
    · rintro (h | h | h)
      · exact h0 h
      · omega
      · omega
  · refine bodyPost_ret (results_tmp3 rfl _ _ _) rfl ⟨?_, Below.refl _ _⟩
    rename_i h0 h1
    unfold parseOk parseL
    rw [if_pos (.inr (.inl (by omega)))]; rfl
end Go.Proofs
