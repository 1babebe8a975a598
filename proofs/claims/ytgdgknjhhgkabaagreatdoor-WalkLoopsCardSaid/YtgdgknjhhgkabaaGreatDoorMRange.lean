/- A range over a function: its rounds, the statement; calls; all by induction. -/
import Derived.Test.YtgdgknjhhgkabaaGreatDoorMRun
set_option linter.unusedVariables false
set_option linter.unusedSimpArgs false
namespace Go.Abs
variable {P : Program} {E : Env}

theorem run_getLoop {w : World} {b : Nat} {r : Loop} (h : w.heap[b]? = some (.loop r)) : (Instr.getLoop b).run P w = .ok r w := by
  simp [Instr.getLoop, run_getObj (P := P) (by simp) h]
theorem heapSet {w : World} {b : Nat} {ob ob' : Obj} (h2 : w.heap[b]? = some ob) : (∀ j, ({ w with heap := w.heap.setIfInBounds b ob' } : World).heap[j]? = if j = b then some ob' else w.heap[j]?) ∧ ({ w with heap := w.heap.setIfInBounds b ob' } : World).heap.size = w.heap.size := by
  obtain ⟨q1, q2⟩ := MapKept.heap_set (o' := ob') h2
  refine ⟨fun j => ?_, by simp⟩
  split
  · rename_i e; subst e; exact q1
  · rename_i e; exact q2 j e

/-- yield's arguments in the loop's variables -/
theorem setParams_ok {ρ : Rho} {es n : Nat} : ∀ {ps : List Nat} {args : List TV} {rg regs : T TV} {as : List Value} {tmps : Array Value}, setParams es ps args rg n = some regs → TsRel ρ args as → BRel ρ rg n tmps → EscOk rg es →
    as.length = ps.length ∧ BRel ρ regs n ((ps.zip as).foldl (fun t (p : Nat × Value) => t.setIfInBounds p.1 p.2) tmps) ∧ EscOk regs es
  | [], [], rg, regs, as, tmps, h, ha, hb, he => by
    cases h; cases ha
    exact ⟨rfl, hb, he⟩
  | [], _ :: _, _, _, _, _, h, _, _, _ => by cases h
  | _ :: _, [], _, _, _, _, h, _, _, _ => by cases h
  | t :: ps, v :: vs, rg, regs, as, tmps, h, ⟨y, ys, e, hv, hs⟩, hb, he => by
    subst e
    have h' : bsel (Nat.blt t n) (bsel (bit es t) (setParams es ps vs (rg.put t (some v)) n) none) none = some regs := h
    obtain ⟨h1, h2⟩ := bsel_some h'
    obtain ⟨h3, h4⟩ := bsel_some h2
    have h1 := blt_lt h1
    have hb' : BRel ρ (rg.put t (some v)) n (tmps.setIfInBounds t y) := by
      refine ⟨by simpa using hb.1, fun t' u hu => ?_⟩
      rw [T.get_put] at hu
      split at hu
      · rename_i e; subst e; cases hu
        exact ⟨y, by simp [hb.1, h1], hv⟩
      · rename_i e
        obtain ⟨x, hx, hr⟩ := hb.2 t' u hu
        exact ⟨x, by simp [Ne.symm e, hx], hr⟩
    have he' : EscOk (rg.put t (some v)) es := fun t' u hu => by
      rw [T.get_put] at hu
      split at hu
      · rename_i e; subst e; exact h3
      · exact he t' u hu
    obtain ⟨q1, q2, q3⟩ := setParams_ok h4 hs hb' he'
    exact ⟨by simp [q1], q2, q3⟩

theorem sYield_ok {e : Ev} (hcode : CodeSound P e.code) : YieldSound P (sYield e) := by
  intro lo l args st v st' ρ w b z as h m hlo hg ha hb
  unfold sYield at h
  split at h
  · rename_i pd rg n es ps cas cbd d hgl
    obtain ⟨hll, hq'⟩ := bsel_some h
    clear h
    have h := hq'
    clear hq'
    obtain ⟨regs, hregs, hq'⟩ := obind_some h
    clear h
    have h := hq'
    clear hq'
    have hll := Nat.le_of_ble_eq_true hll
    obtain ⟨b', z', ob, h1, h2, r, rfl, s1, s2, s3, s4, s5, s6, s7, bd, zd, s8, s9⟩ := m.obj l _ hgl
    rw [hb] at h1; cases h1
    obtain ⟨q1, q2, q3⟩ := setParams_ok hregs ha s3 s4
    have hsz : as.size = r.params.size := by
      have := q1; rw [← s5] at this; simpa using this
    refine ⟨r.fn, (r.params.zip as).foldl (fun tmps (p : Nat × Value) => tmps.setIfInBounds p.1 p.2) r.tmps, r.assign, r.body, ?_, ?_⟩
    · have hyr := run_getLoop (P := P) h2
      simp only [Instr.yield, Sem.run_bind, hyr, Result.andThen_ok]
      rw [if_neg (by simp [hsz])]
      rfl
    · refine roundIn_of_wpIn (F := Fence.wide) trivial ?_
      show r.assign.wpIn (Fw (some b)) 0 P _ _ w
      unfold yBody at h
      split at h
      · rename_i f1 st1 hr
        rw [s6]
        have hf0 : FrOk ρ ⟨⟨[], regs⟩, n, es, []⟩ ({ tmps := (r.params.zip as).foldl (fun tmps (p : Nat × Value) => tmps.setIfInBounds p.1 p.2) r.tmps, defers := [] } : Act) := by
          have e : (r.params.zip as).foldl (fun tmps (p : Nat × Value) => tmps.setIfInBounds p.1 p.2) r.tmps = (ps.zip as.toList).foldl (fun t (p : Nat × Value) => t.setIfInBounds p.1 p.2) r.tmps := by
            rw [← Array.foldl_toList, Array.toList_zip, s5]
          rw [e]
          exact ⟨q2.1, fun t u hu => q2.2 t u hu, q3, rfl⟩
        refine wpIn_mono (hcode hr m hlo hg hf0 ⟨b, z, hb, rfl⟩) fun ex a1 w1 hp => ?_
        obtain ⟨p1, ρ1, p2, p3⟩ := hp
        have hle := p3.le m
        cases ex <;> simp only [ExRel] at p1
        show ∃ w₂, (Instr.beginRound b).run P w1 = .ok () w₂ ∧ _
        split at h
        · rename_i pd1 rg1 n1 es1 ps1 as1 bd1 d1 hg1
          obtain ⟨xe, f2, st2, h3, h4⟩ := ob3_some h
          have hb1 := hle _ _ hb
          obtain ⟨b', z', ob, u1, u2, r1, rfl, t1, t2, t3, t4, t5, t6, t7, bd', zd', t8, t9⟩ := p3.mod.obj l _ hg1
          rw [hb1] at u1; cases u1
          have hset1 := heapSet (ob' := .loop { r1 with state := .busy }) u2
          have hbegin : (Instr.beginRound b).run P w1 = .ok () { w1 with heap := w1.heap.setIfInBounds b (.loop { r1 with state := .busy }) } := by
            simp [Instr.beginRound, run_getLoop (P := P) u2, run_setObj (P := P) (by simp) u2, t1]
          refine ⟨_, hbegin, ?_⟩
          rw [s7]
          have hw : Ext lo ρ1 st1.h.get st1.c w1 ρ1 (setH st1 l (some (.loop .busy pd1 rg1 n1 es1 ps1 as1 bd1 d1))).h.get (setH st1 l (some (.loop .busy pd1 rg1 n1 es1 ps1 as1 bd1 d1))).c { w1 with heap := w1.heap.setIfInBounds b (.loop { r1 with state := .busy }) } := by
            rw [show (setH st1 l (some (.loop .busy pd1 rg1 n1 es1 ps1 as1 bd1 d1))).h.get = hset st1.h.get l _ from put_eq _ _ _]
            exact Ext.write p3.mod hll hg1 hb1 ⟨{ r1 with state := .busy }, rfl, rfl, t2, t3, t4, t5, t6, t7, bd', zd', t8, t9⟩ hset1.1 hset1.2
          have hlo1 : lo ≤ st1.c := Nat.le_trans hlo p3.cc
          refine wpIn_mono (hcode h3 hw.mod hlo1 (hg.mono hle) p2 ⟨b, z, hb1, rfl⟩) fun ex2 a2 w2 hp2 => ?_
          obtain ⟨v1, ρ2, v2, v3⟩ := hp2
          have hall := (p3.trans m hw).trans m v3
          have hle2 := hall.le m
          have hb2 := hle2 _ _ hb
          unfold yEnd at h4
          split at h4
          · rename_i sx pd2 rg2 n2 es2 ps2 as2 bd2 d2 hg2
            obtain ⟨b', z', ob, u1, u2', r2, rfl, y1, y2, y3, y4, y5, y6, y7, bd'', zd'', y8, y9⟩ := v3.mod.obj l _ hg2
            rw [hb2] at u1; cases u1
            have fin : ∀ (j : Option Code) (sn : LoopState) (bv : Bool), bv = j.isNone → sn = (if j.isNone then .ready else .done) → some (TV.one (.bool bv), setH st2 l (some (.loop sn j rg2 n2 es2 ps2 as2 bd2 d2))) = some (v, st') →
                ∃ v0 w3, (Instr.endRound b j).run P w2 = .ok v0 w3 ∧ CallRes lo ρ st w v st' (.returned v0) w3 := by
              intro j sn bv hbv hsn hh
              cases hh
              have hset2 := heapSet (ob' := .loop { r2 with state := if j.isNone then .ready else .done, pending := j }) u2'
              refine ⟨.bool j.isNone, { w2 with heap := w2.heap.setIfInBounds b (.loop { r2 with state := if j.isNone then .ready else .done, pending := j }) }, ?_, ρ2, by rw [hbv]; rfl, ?_⟩
              · simp [Instr.endRound, run_getLoop (P := P) u2', run_setObj (P := P) (by simp) u2']
              · refine hall.trans m ?_
                rw [show (setH st2 l (some (.loop sn j rg2 n2 es2 ps2 as2 bd2 d2))).h.get = hset st2.h.get l _ from put_eq _ _ _]
                exact Ext.write v3.mod hll hg2 hb2 ⟨{ r2 with state := if j.isNone then .ready else .done, pending := j }, rfl, hsn.symm, rfl, y3, y4, y5, y6, y7, bd'', zd'', y8, y9⟩ hset2.1 hset2.2
            cases xe with
            | normal =>
              cases ex2 <;> simp only [ExRel] at v1
              exact fin none .ready true rfl rfl h4
            | ret =>
              cases ex2 <;> simp only [ExRel] at v1
              exact fin (some .ret) .done false rfl rfl h4
            | exit id =>
              cases ex2 <;> simp only [ExRel] at v1
              subst v1
              exact fin (some (.exit _)) .done false rfl rfl h4
          · cases h4
        · cases h
      · cases h
  · cases h
end Go.Abs
