/- The operations that hang on their operands alone: building, slicing, addresses. -/
import Derived.Test.YtgdgknjhhgkabaaGreatDoorMPure2
import Derived.Laws.Tables
set_option linter.unusedVariables false
set_option linter.unusedSimpArgs false
namespace Go.Abs
variable {P : Program} {E : Env} {ρ : Rho}

theorem zip_fold (vs : List Value) : ∀ (k off : Nat) (cs : Array Value) (i : Nat),
    ((vs.zipIdx k).foldl (fun cs (p : Value × Nat) => cs.setIfInBounds (off + p.2) p.1) cs).toList[i]? =
      if off + k ≤ i ∧ i < off + k + vs.length ∧ i < cs.size then vs[i - (off + k)]? else cs.toList[i]? := by
  induction vs with
  | nil => intro k off cs i; rw [if_neg (by simp only [List.length_nil]; omega)]; simp
  | cons v vs ih =>
    intro k off cs i
    rw [List.zipIdx_cons, List.foldl_cons, ih]
    simp only [Array.size_setIfInBounds, List.length_cons]
    by_cases h1 : off + (k + 1) ≤ i ∧ i < off + (k + 1) + vs.length ∧ i < cs.size
    · rw [if_pos h1, if_pos (by omega)]
      have : i - (off + k) = (i - (off + (k + 1))) + 1 := by omega
      rw [this, List.getElem?_cons_succ]
    · rw [if_neg h1]
      by_cases h2 : i = off + k
      · subst h2
        by_cases h3 : off + k < cs.size
        · rw [if_pos (by omega)]; simp [h3]
        · rw [if_neg (by omega)]; simp [h3]
      · rw [if_neg (by omega)]
        simp [Ne.symm h2]
theorem zip_fold_size (vs : List Value) : ∀ (k off : Nat) (cs : Array Value),
    ((vs.zipIdx k).foldl (fun cs (p : Value × Nat) => cs.setIfInBounds (off + p.2) p.1) cs).size = cs.size := by
  induction vs with
  | nil => intro k off cs; simp
  | cons v vs ih => intro k off cs; rw [List.zipIdx_cons, List.foldl_cons, ih]; simp

/-- parts, with their places, on both sides -/
def PsRel (ρ : Rho) : List (Nat × TV) → List (Nat × Value) → Prop
  | [], l => l = []
  | p :: ps, l => ∃ v ys, l = (p.1, v) :: ys ∧ TRel ρ p.2 v ∧ PsRel ρ ps ys

theorem fillA_run {place' place : Nat → Option (Nat × Nat)} (hp : ∀ i q, place' i = some q → place i = some q) :
    ∀ {l : List (Nat × TV)} {m : List (Nat × Value)} {cells r : List CV} {A : Array Value}, PsRel ρ l m → LRel ρ cells A.toList → fillA place' l cells = some r →
      ∃ A', Instr.fill place A m = some A' ∧ LRel ρ r A'.toList
  | [], m, cells, r, A, hl, hc, h => by cases hl; cases h; exact ⟨A, rfl, hc⟩
  | p :: ps, m, cells, r, A, ⟨v, ys, e, hv, hr⟩, hc, h => by
    subst e
    have h' : (obind (place' p.1) fun q => obind (TV.cells p.2) fun cs => obind (fillOne cells q.1 q.2 cs) (fillA place' ps)) = some r := h
    obtain ⟨q, hq, h1⟩ := obind_some h'
    obtain ⟨cs, hcs, h2⟩ := obind_some h1
    obtain ⟨c2, hc2, h3⟩ := obind_some h2
    unfold fillOne at hc2
    obtain ⟨e1, hc2⟩ := bsel_some hc2
    obtain ⟨e2, hc2⟩ := bsel_some hc2
    cases hc2
    have e1 := Nat.eq_of_beq_eq_true e1
    have e2 := Nat.le_of_ble_eq_true e2
    rw [lenC_eq] at e1 e2
    have hvc := hv.cells hcs
    have hlen := hvc.length
    have hAl := hc.length
    simp only [Array.length_toList] at hlen hAl
    have hrel : LRel ρ (splice cells q.1 cs) ((v.cells.toList.zipIdx 0).foldl (fun cs (p : Value × Nat) => cs.setIfInBounds (q.1 + p.2) p.1) A).toList := by
      refine LRel.of_get ?_ fun i x hx => ?_
      · rw [Array.length_toList, zip_fold_size, splice_length, hAl]
      · rw [splice_get] at hx
        rw [zip_fold]
        simp only [Nat.add_zero, Array.length_toList]
        by_cases hi : q.1 ≤ i ∧ i < q.1 + cs.length ∧ i < cells.length
        · rw [if_pos hi] at hx
          rw [if_pos (by omega)]
          exact hvc.get hx
        · rw [if_neg hi] at hx
          rw [if_neg (by omega)]
          exact hc.get hx
    obtain ⟨A', hA', hr'⟩ := fillA_run hp hr hrel h3
    refine ⟨A', ?_, hr'⟩
    have hpl : place p.1 = some (q.1, q.2) := hp _ _ hq
    have esz : v.cells.size = q.2 := by omega
    have eadd : Nat.add q.1 q.2 = q.1 + q.2 := rfl
    rw [eadd] at e2
    simp only [Instr.fill, hpl]
    rw [if_neg (by simp only [Bool.or_eq_true, decide_eq_true_eq, ne_eq]; omega)]
    rw [← hA']
    congr 1
    rw [← Array.foldl_toList, Array.toList_zipIdx]

theorem partsV_rel {ev : Operand → Option TV} {σ : Operand → Value} (he : EvRel ρ ev σ) : ∀ {ps : List (Nat × Operand)} {l : List (Nat × TV)}, partsV ev ps = some l →
    PsRel ρ l (ps.map fun p => (p.1, σ p.2))
  | [], l, h => by have := optAll_nil h; subst this; rfl
  | p :: ps, l, h => by
    obtain ⟨y, ys, hy, hs, e⟩ := optAll_cons h
    subst e
    obtain ⟨v, hv, e⟩ := obind_some hy
    cases e
    exact ⟨σ p.2, _, rfl, he _ _ hv, partsV_rel he hs⟩

theorem part_zero {ti : TI} {z : Value} (h : PtRel ρ (ti.zagg, ti.zero) z) : LRel ρ ti.zero z.cells.toList := by
  rcases h with ⟨_, a, e, r⟩ | ⟨_, x, e, r⟩
  · subst e; exact r
  · have : TRel ρ (.one x) z := r
    have := this.cells (cs := [x]) rfl
    simp only at e
    rw [e]; exact this

theorem aBuild_run (hE : EnvOk P E) {ev : Operand → Option TV} {σ : Operand → Value} (he : EvRel ρ ev σ) {t : Nat} {ps : Array (Nat × Operand)} {c : TV} (w : World) (h : aBuild E ev t ps.toList = some c) :
    ∃ v, (Instr.build t (ps.map fun (i, x) => (i, σ x))).run P w = .ok v w ∧ TRel ρ c v := by
  unfold aBuild at h
  obtain ⟨ti, hti, h⟩ := obind_some h
  obtain ⟨l, hl, h⟩ := obind_some h
  obtain ⟨⟨i, d, z, hi, hd, hz, hk, hsz, hby, hzr, hzl⟩⟩ := hE.types t ti hti
  have hps := partsV_rel he hl
  have hm : (ps.map fun (i, x) => (i, σ x)).toList = ps.toList.map fun p => (p.1, σ p.2) := by simp
  split at h
  · rename_i fs hfs
    rw [hfs] at hk
    obtain ⟨fields, rfl, hlen, hf⟩ := ak_struct hk
    obtain ⟨cs, hcs, e⟩ := obind_some h
    cases e
    have hpl : fields.toList.mapM (fun f => (P.info? f.type).map fun i => (f.offset, i.size)) = some (fs.map Prod.snd) := by
      have : ∀ (L : List Field) (M : List (Nat × Nat × Nat)), M.length = L.length → (∀ (i : Nat) (f : Field), L[i]? = some f → ∃ inf, P.info? f.type = some inf ∧ M[i]? = some (f.type, f.offset, inf.size)) →
          L.mapM (fun f => (P.info? f.type).map fun i => (f.offset, i.size)) = some (M.map Prod.snd) := by
        intro L
        induction L with
        | nil => intro M hM _; have : M = [] := by simpa using hM
                 subst this; rfl
        | cons f L ih =>
          intro M hM hg
          cases M with
          | nil => simp at hM
          | cons m M =>
            obtain ⟨inf, h1, h2⟩ := hg 0 f rfl
            simp at h2
            subst h2
            have h3 := ih M (by simpa using hM) fun i f hf => by simpa using hg (i + 1) f (by simpa using hf)
            simp [List.mapM_cons, h1, h3]
      exact this fields.toList fs (by simpa using hlen) fun i f hif => hf i f (by simpa using hif)
    obtain ⟨A', hA', hr⟩ := fillA_run (ρ := ρ) (place := fun i => ((fs.map Prod.snd).toArray)[i]?) (A := z.cells) (fun i q hq => by
      obtain ⟨f, hf1, e⟩ := obind_some hq
      cases e
      rw [nthC_eq] at hf1
      simp [hf1]) hps (part_zero (hzr ρ)) hcs
    refine ⟨.agg A', ?_, A', rfl, hr⟩
    simp [Instr.build, run_und w hd, run_zero w hi hz, Array.mapM_eq_mapM_toList, run_places w _ _ hpl]
    simp at hA'
    simp [hA']
  · rename_i n e hfs
    rw [hfs] at hk
    have := ak_arr hk
    subst this
    obtain ⟨te, hte, h⟩ := obind_some h
    obtain ⟨cs, hcs, e⟩ := obind_some h
    cases e
    obtain ⟨⟨i2, d2, z2, hi2, hd2, hz2, hk2, hsz2, -⟩⟩ := hE.types _ te hte
    obtain ⟨A', hA', hr⟩ := fillA_run (ρ := ρ) (place := fun i => some (i * te.size, te.size)) (A := z.cells) (fun i q hq => hq) hps (part_zero (hzr ρ)) hcs
    refine ⟨.agg A', ?_, A', rfl, hr⟩
    simp [Instr.build, run_und w hd, run_zero w hi hz, run_size w hi2, hsz2, hA']
  · cases h
end Go.Abs
