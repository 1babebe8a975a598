/- The operations that look at the memory or lay something there. -/
import Derived.Test.YtgdgknjhhgkabaaGreatDoorMMem
set_option linter.unusedVariables false
set_option linter.unusedSimpArgs false
namespace Go.Abs
variable {P : Program} {E : Env} {ρ : Rho} {lo : Nat} {st st' : St} {w : World} {ev : Operand → Option TV} {σ : Operand → Value}

/-- what is laid -/
theorem laid_ok {s : Sem Next} {o : AO} {k : Nat → TV} {v : TV} (m : StMod ρ st w) (hlo : lo ≤ st.c) (h : laid st o k = some (v, st')) {x : Value} {w' : World} {ob : Obj} {z : Nat}
    (hs : OpOk P s w x w') (hw : World.env3 w' = (w.heap.push ob, w.os, w.output)) (hr : ORel (Rho.set ρ st.c (w.heap.size, z)) o ob z) (hv : TRel (Rho.set ρ st.c (w.heap.size, z)) (k st.c) x) :
    MemOk P lo ρ st w s v st' := by
  have h' : some (k st.c, (⟨st.h.put st.c (some o), Nat.succ st.c⟩ : St)) = some (v, st') := h
  cases h'
  refine ⟨_, w', x, hs, hv, ?_⟩
  rw [put_eq]
  exact Ext.alloc m hlo hr (congrArg (fun p => p.1) hw) (congrArg (fun p => p.2) hw)
/-- an operation that lays what hangs on its operands alone -/
def LaidOk (P : Program) (ρ : Rho) (w : World) (s : Sem Next) (o : AO) (k : Nat → TV) : Prop :=
  ∃ x w' ob z, OpOk P s w x w' ∧ World.env3 w' = (w.heap.push ob, w.os, w.output) ∧ ORel ρ o ob z ∧ ∀ (ρ' : Rho) (j : Nat), ρ' j = some (w.heap.size, z) → TRel ρ' (k j) x
theorem set_self (ρ : Rho) (c : Nat) (p : Nat × Nat) : Rho.set ρ c p c = some p := by unfold Rho.set; rw [if_pos rfl]

theorem LaidOk.mem {s : Sem Next} {o : AO} {k : Nat → TV} {v : TV} (q : LaidOk P ρ w s o k) (m : StMod ρ st w) (hlo : lo ≤ st.c) (h : laid st o k = some (v, st')) : MemOk P lo ρ st w s v st' := by
  obtain ⟨x, w', ob, z, h1, h2, h3, h4⟩ := q
  exact laid_ok m hlo h h1 h2 (h3.mono (Rho.le_set m _)) (h4 _ _ (set_self _ _ _))
theorem lay_mem {s : Sem Next} {x : AL} {v : TV} (q : ∀ o k, x = some (o, k) → LaidOk P ρ w s o k) (m : StMod ρ st w) (hlo : lo ≤ st.c) (h : lay st x = some (v, st')) : MemOk P lo ρ st w s v st' := by
  obtain ⟨o, k, hx, h1⟩ := ob2_some h
  exact (q o k hx).mem m hlo h1

theorem take_all {α : Type} {a : Array α} {n : Nat} (h : a.size ≤ n) : a.toList.take n = a.toList := List.take_of_length_le (by simpa using h)

theorem alAlloc_ok (hE : EnvOk P E) (ρ : Rho) (w : World) {t : Nat} {o : Oper} (ho : o.op = .alloc t) {ob : AO} {k : Nat → TV} (h : alAlloc E t = some (ob, k)) : LaidOk P ρ w (execOp σ o) ob k := by
  unfold alAlloc at h
  obtain ⟨ti, hti, hq'⟩ := obind_some h
  clear h
  have h := hq'
  clear hq'
  obtain ⟨⟨i, d, z, hi, hd, hz, hk, hsz, hby, hzr, hzl⟩⟩ := hE.types _ _ hti
  have hr := part_zero (hzr ρ)
  have hl := hr.length
  simp only [Array.length_toList] at hl
  cases h
  refine ⟨.pointer (some ⟨w.heap.size, 0, none⟩), { w with heap := w.heap.push (.cells z.cells t) }, .cells z.cells t, z.cells.size, .inl ?_, rfl, ?_, fun ρ' j hj => ⟨_, _, hj, rfl⟩⟩
  · obtain ⟨dst, op, type, pos, after, guard⟩ := o
    simp only at ho; subst ho
    simp [execOp, Instr.alloc, run_zero w hi hz, newVar, newRow]
  · exact ⟨z.cells, (0, 0), rfl, rfl, hzl, by omega, fun _ => by omega, by rw [take_all (by omega)]; exact hr, .inl rfl⟩

theorem alBox_ok (w : World) {t : Nat} {y : Operand} {o : Oper} (ho : o.op = .box t y) (he : EvRel ρ ev σ) {ob : AO} {k : Nat → TV} (h : alBox t (ev y) = some (ob, k)) : LaidOk P ρ w (execOp σ o) ob k := by
  unfold alBox at h
  obtain ⟨xv, hxv, hq'⟩ := obind_some h
  clear h
  have h := hq'
  clear hq'
  obtain ⟨cs, hcs, hq'⟩ := obind_some h
  clear h
  have h := hq'
  clear hq'
  have hr := (he _ _ hxv).cells hcs
  have hl := hr.length
  simp only [Array.length_toList] at hl
  cases h
  refine ⟨.pointer (some ⟨w.heap.size, 0, none⟩), { w with heap := w.heap.push (.cells (σ y).cells t) }, .cells (σ y).cells t, (σ y).cells.size, .inl ?_, rfl, ?_, fun ρ' j hj => ⟨_, _, hj, rfl⟩⟩
  · obtain ⟨dst, op, type, pos, after, guard⟩ := o
    simp only at ho; subst ho
    simp [execOp, Instr.box, newVar, newRow]
  · exact ⟨(σ y).cells, (0, 0), rfl, rfl, by rw [lenC_eq], by rw [lenC_eq]; omega, fun _ => by rw [lenC_eq]; omega, by rw [take_all (by rw [lenC_eq]; omega)]; exact hr, .inl rfl⟩

/-- noughts in a row -/
theorem rep_rel {zc : List CV} {Z : Array Value} (hz : LRel ρ zc Z.toList) (n : Nat) : LRel ρ (rep n zc) ((Array.range (n * zc.length)).map (Z[· % Z.size]!)).toList := by
  have hl := hz.length
  simp only [Array.length_toList] at hl
  refine LRel.of_get (by simp [rep_length]) fun i x hx => ?_
  have hi : i < n * zc.length := by
    have := (List.getElem?_eq_some_iff.1 hx).1
    rwa [rep_length] at this
  have hpos : 0 < zc.length := by
    rcases Nat.eq_zero_or_pos zc.length with h0 | h0
    · rw [h0] at hi; simp at hi
    · exact h0
  have hget : ∀ (n i : Nat), i < n * zc.length → (rep n zc)[i]? = zc[i % zc.length]? := by
    intro n
    induction n with
    | zero => intro i h; simp at h
    | succ n ih =>
      intro i h
      rw [rep_succ]
      by_cases hlt : i < zc.length
      · rw [List.getElem?_append_left hlt, Nat.mod_eq_of_lt hlt]
      · rw [List.getElem?_append_right (by omega), ih _ (by rw [Nat.succ_mul] at h; omega), Nat.mod_eq_sub_mod (a := i) (b := zc.length) (by omega)]
  rw [hget n i hi] at hx
  obtain ⟨u, hu, hr⟩ := hz.get hx
  refine ⟨u, ?_, hr⟩
  have hm : i % zc.length < Z.size := by rw [hl]; exact Nat.mod_lt _ hpos
  have hu' : Z[i % Z.size]! = u := by
    rw [hl, getElem!_pos Z _ hm]
    have := (List.getElem?_eq_some_iff.1 hu).2
    simpa using this
  simp [hi, hu']

theorem alBuildSlice_ok (hE : EnvOk P E) (w : World) {t len : Nat} {ps : Array (Nat × Operand)} {o : Oper} (ho : o.op = .buildSlice t len ps) (he : EvRel ρ ev σ) {ob : AO} {k : Nat → TV}
    (h : alBuildSlice E ev t len ps.toList = some (ob, k)) : LaidOk P ρ w (execOp σ o) ob k := by
  unfold alBuildSlice at h
  obtain ⟨ti, hti, hq'⟩ := obind_some h
  clear h
  have h := hq'
  clear hq'
  obtain ⟨⟨i, d, z, hi, hd, hz, hk, -⟩⟩ := hE.types _ _ hti
  generalize hkk : ti.k = kk at h hk
  cases kk with
  | sl e =>
    have := ak_sl hk; subst this
    have h' : (obind (E.types e) fun te => obind (partsV ev ps.toList) fun l => bsel (Nat.ble (Nat.mul len te.size) 65536)
          (obind (fillA (fun i => some (Nat.mul i te.size, te.size)) l (rep len te.zero)) fun cs => some (.cells cs (Nat.mul len te.size) e true (isU8 te.k), fun c => .one (.sl c 0 len len))) none) = some (ob, k) := h
    obtain ⟨te, hte, h1⟩ := obind_some h'
    obtain ⟨l, hl, h2⟩ := obind_some h1
    obtain ⟨h3, h4⟩ := bsel_some h2
    obtain ⟨cs, hcs, h5⟩ := obind_some h4
    obtain ⟨⟨i2, d2, z2, hi2, hd2, hz2, hk2, hsz2, hby2, hzr2, hzl2⟩⟩ := hE.types _ _ hte
    have hps := partsV_rel he hl
    have hzz := part_zero (hzr2 ρ)
    have hzz' : z2.cells.size = te.size := by have := hzz.length; simp only [Array.length_toList] at this; omega
    have hrep := rep_rel hzz len
    obtain ⟨A', hA', hr⟩ := fillA_run (ρ := ρ) (place := fun i => some (i * te.size, te.size)) (fun i q hq => hq) hps hrep hcs
    have hle : len * te.size ≤ 65536 := Nat.le_of_ble_eq_true h3
    have hcl : cs.length = len * te.size := by
      have : ∀ (l : List (Nat × TV)) (a b : List CV), fillA (fun i => some (Nat.mul i te.size, te.size)) l a = some b → b.length = a.length := by
        intro l
        induction l with
        | nil => intro a b hh; cases hh; rfl
        | cons p l ih =>
          intro a b hh
          have hh' : (obind (some (Nat.mul p.1 te.size, te.size)) fun q => obind (TV.cells p.2) fun cs => obind (fillOne a q.1 q.2 cs) (fillA (fun i => some (Nat.mul i te.size, te.size)) l)) = some b := hh
          obtain ⟨q, _, g1⟩ := obind_some hh'
          obtain ⟨c1, _, g2⟩ := obind_some g1
          obtain ⟨c2, g3, g4⟩ := obind_some g2
          rw [ih _ _ g4]
          unfold fillOne at g3
          obtain ⟨_, g5⟩ := bsel_some g3
          obtain ⟨_, g6⟩ := bsel_some g5
          cases g6
          rw [splice_length]
      rw [this _ _ _ hcs, rep_length, hzl2]
    have hAs : A'.size = len * te.size := by have := hr.length; simp only [Array.length_toList] at this; omega
    cases h5
    refine ⟨.slice (some ⟨w.heap.size, 0, none⟩) len len, { w with heap := w.heap.push (.cells A' e) }, .cells A' e, len * te.size, .inl ?_, rfl, ?_, fun ρ' j hj => ⟨_, _, hj, rfl, Nat.le_refl _⟩⟩
    · obtain ⟨dst, op, type, pos, after, guard⟩ := o
      simp only at ho; subst ho
      have hfill : Instr.fill (fun i => some (i * te.size, te.size)) ((Array.range (len * te.size)).map ((if len * te.size = 0 then #[] else z2.cells)[· % (if len * te.size = 0 then #[] else z2.cells).size]!)) (ps.map fun (i, x) => (i, σ x)).toList = some A' := by
        have e1 : ((Array.range (len * te.size)).map ((if len * te.size = 0 then #[] else z2.cells)[· % (if len * te.size = 0 then #[] else z2.cells).size]!)) = (Array.range (len * te.zero.length)).map (z2.cells[· % z2.cells.size]!) := by
          rw [hzl2]
          by_cases h0 : len * te.size = 0
          · rw [h0]; simp
          · simp only [if_neg h0]
        have e2 : (ps.map fun (i, x) => (i, σ x)).toList = ps.toList.map fun p => (p.1, σ p.2) := by simp
        rw [e1, e2]
        exact hA'
      have hnot : ¬ len * te.size > 2 ^ 24 := by omega
      rcases Decidable.em (len * te.size = 0) with h0 | h0
      · simp only [if_pos h0] at hfill
        simp only [execOp, Instr.buildSlice, Sem.run_bind, run_und w hd, run_size w hi2, hsz2, Result.andThen_ok, if_neg hnot, if_pos h0, Sem.run_pure, hfill, newRow, run_newObj]
      · simp only [if_neg h0] at hfill
        simp only [execOp, Instr.buildSlice, Sem.run_bind, run_und w hd, run_size w hi2, hsz2, Result.andThen_ok, if_neg hnot, if_neg h0, Sem.run_pure, run_zero w hi2 hz2, hfill, newRow, run_newObj]
    · refine ⟨A', (0, 0), rfl, hAs, hcl, Nat.le_refl _, fun _ => rfl, ?_, .inl rfl⟩
      rw [take_all (by show A'.size ≤ len * te.size; omega)]
      exact hr
  | _ => cases h

theorem readN_run (m : StMod ρ st w) {id off n b z : Nat} {l : List CV} (h : readN st id off n = some l) (hb : ρ id = some (b, z)) :
    ∃ vs : List Value, LRel ρ l vs ∧ (loadCells ⟨b, off, none⟩ n).run P w = .ok vs.toArray w ∧ vs.length = n := by
  unfold readN at h
  split at h
  · rename_i d len e x fz hg
    obtain ⟨h1, h2⟩ := bsel_some h
    cases h2
    have h1 : off + n ≤ len := Nat.le_of_ble_eq_true h1
    obtain ⟨b', z', arr, fr, r⟩ := row_of m hg
    have e1 := r.rho
    rw [hb] at e1; cases e1
    have := r.size
    have := r.le
    exact ⟨_, r.slice h1, run_loadRow w r.heap (by omega), by simp; omega⟩
  · cases h
theorem read1_run (m : StMod ρ st w) {id off b z : Nat} {c : CV} (h : read1 st id off = some c) (hb : ρ id = some (b, z)) :
    ∃ v, CRel ρ c v ∧ (Go.load ⟨b, off, none⟩).run P w = .ok v w := by
  unfold read1 at h
  split at h
  · rename_i d len e x fz hg
    obtain ⟨b', z', arr, fr, r⟩ := row_of m hg
    have e1 := r.rho
    rw [hb] at e1; cases e1
    rw [nthC_eq] at h
    obtain ⟨v, hv, hr⟩ := r.nth h
    exact ⟨v, hr, by simp [run_load, r.cell, hv]⟩
  · cases h

theorem run_isAgg {t : Nat} {d : TypeDesc} (h : P.underlying t = some d) : (isAgg t).run P w = .ok (isAggD d) w := by
  cases d <;> simp [isAgg, run_und w h, isAggD]

theorem aLoad_run (hE : EnvOk P E) (m : StMod ρ st w) {t : Nat} {a : Operand} {o : Oper} (ho : o.op = .load t a) (he : EvRel ρ ev σ) {v : TV} (h : aLoad E st t (ev a) = some (v, st')) :
    MemOk P lo ρ st w (execOp σ o) v st' := by
  unfold aLoad at h
  split at h
  · rename_i id off hav
    obtain ⟨b, z, hb, hσ⟩ := he _ _ hav
    obtain ⟨ti, hti, hq'⟩ := obind_some h
    clear h
    have h := hq'
    clear hq'
    obtain ⟨⟨i, d, z', hi, hd, hz, hk, hsz, -⟩⟩ := hE.types _ _ hti
    have hag := isAggK_eq hk
    obtain ⟨dst, op, type, pos, after, guard⟩ := o
    simp only at ho; subst ho
    cases hb' : isAggK ti.k with
    | true =>
      rw [hb'] at h hag
      obtain ⟨l, hl, hq'⟩ := obind_some h
      clear h
      have h := hq'
      clear hq'
      cases h
      obtain ⟨vs, h1, h2, h3⟩ := readN_run (P := P) m hl hb
      refine ⟨ρ, w, .agg vs.toArray, .inl ?_, ⟨_, rfl, h1⟩, Ext.refl m⟩
      simp [execOp, Instr.loadAt, hσ, Instr.sureAddr, loadVar, run_isAgg hd, ← hag, run_size w hi, hsz, h2]
    | false =>
      rw [hb'] at h hag
      obtain ⟨c, hc, hq'⟩ := obind_some h
      clear h
      have h := hq'
      clear hq'
      cases h
      obtain ⟨u, h1, h2⟩ := read1_run (P := P) m hc hb
      refine ⟨ρ, w, u, .inl ?_, h1, Ext.refl m⟩
      simp only [execOp, Instr.loadAt, hσ, Instr.sureAddr, loadVar, Sem.run_bind, Sem.run_pure, Result.andThen_ok, run_isAgg hd, ← hag, Bool.false_eq_true, if_false, h2]
  · cases h

theorem aStore_run (hE : EnvOk P E) (m : StMod ρ st w) {t : Nat} {a y : Operand} {o : Oper} (ho : o.op = .store t a y) (he : EvRel ρ ev σ) {v : TV} (h : aStore E lo st t (ev a) (ev y) = some (v, st')) :
    MemOk P lo ρ st w (execOp σ o) v st' := by
  unfold aStore at h
  split at h
  · rename_i id off hav
    obtain ⟨b, z, hb, hσ⟩ := he _ _ hav
    obtain ⟨yv, hyv, hq'⟩ := obind_some h
    clear h
    have h := hq'
    clear hq'
    obtain ⟨cs, hcs, hq'⟩ := obind_some h
    clear h
    have h := hq'
    clear hq'
    obtain ⟨ti, hti, hq'⟩ := obind_some h
    clear h
    have h := hq'
    clear hq'
    obtain ⟨hl, hq'⟩ := bsel_some h
    clear h
    have h := hq'
    clear hq'
    obtain ⟨s2, hs2, hq'⟩ := obind_some h
    clear h
    have h := hq'
    clear hq'
    cases h
    obtain ⟨⟨i, d, z', hi, hd, hz, hk, hsz, -⟩⟩ := hE.types _ _ hti
    have hl := Nat.eq_of_beq_eq_true hl
    rw [lenC_eq] at hl
    have hr := (he _ _ hyv).cells hcs
    have hrl := hr.length
    simp only [Array.length_toList] at hrl
    obtain ⟨w', h1, h2⟩ := writeN_run (P := P) m hs2 hb hr hl
    obtain ⟨dst, op, type, pos, after, guard⟩ := o
    simp only at ho; subst ho
    refine ⟨ρ, w', undef, .inr ⟨?_, rfl⟩, undef_rel ρ, h2⟩
    have hne : ¬ (σ y).cells.size ≠ i.size := by simp; omega
    simp only [execOp, Instr.storeAt, hσ, Instr.sureAddr, storeVar, Sem.run_bind, Sem.run_pure, Result.andThen_ok, run_size w hi, if_neg hne, h1]
  · cases h
end Go.Abs
