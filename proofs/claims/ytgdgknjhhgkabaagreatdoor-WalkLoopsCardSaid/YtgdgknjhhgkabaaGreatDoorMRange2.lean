/- The statement 'for .. := range g' over a function. -/
import Derived.Test.YtgdgknjhhgkabaaGreatDoorMRange
set_option linter.unusedVariables false
set_option linter.unusedSimpArgs false
namespace Go.Abs
variable {P : Program} {E : Env}

theorem cAfter_ok {lo : Nat} {ρ ρ' : Rho} {st st' : St} {w w' : World} {f f' : Fr} {x : AX} {pend : Option Code} {st2 : St} {a : Act} {r : Option Nat} (h : cAfter f st2 pend = some (x, f', st')) (hf : FrOk ρ' f a)
    (hx : Ext lo ρ st.h.get st.c w ρ' st2.h.get st2.c w') :
    (pend = none → CodePost lo ρ st w x f' st' .normal a w') ∧ ∀ c, pend = some c → c.wpIn (Fw r) 0 P (CodePost lo ρ st w x f' st') a w' := by
  unfold cAfter at h
  split at h
  · cases h; exact ⟨fun _ => ⟨trivial, ρ', hf, hx⟩, fun c q => by cases q⟩
  · cases h; exact ⟨fun q => (by cases q), fun c q => by cases q; exact wpIn_ret ⟨trivial, ρ', hf, hx⟩⟩
  · cases h; exact ⟨fun q => (by cases q), fun c q => by cases q; exact wpIn_exit ⟨rfl, ρ', hf, hx⟩⟩
  · cases h

theorem cRange2_ok (hP : ProgOk P E) {e : Ev} (hC : CallSound P e.call) {lo : Nat} {g : Operand} {gv : Option TV} {ps : Array Nat} {as bd : Code} {d : Nat} {f f' : Fr} {st st' : St} {x : AX} {ρ : Rho} {w : World} {a : Act} {rd zd : Nat} (r : Option Nat) (fn : Nat)
    (h : cRange2 E e lo gv ps.toList as bd d f st = some (x, f', st')) (m : StMod ρ st w) (hlo : lo ≤ st.c) (hg : GlobOk ρ) (hf : FrOk ρ f a) (hgv : ∀ v, gv = some v → TRel ρ v (a.eval g)) (hd : ρ d = some (rd, zd)) :
    ∃ dd fid args, (resolve a.eval (rangeCall g w.heap.size) 0).run P { w with heap := w.heap.push (.loop { state := .ready, pending := none, fn, tmps := a.tmps, params := ps, assign := as, body := bd, defers := rd }) } = .ok dd { w with heap := w.heap.push (.loop { state := .ready, pending := none, fn, tmps := a.tmps, params := ps, assign := as, body := bd, defers := rd }) } ∧
      (invoke dd.target dd.args).run P { w with heap := w.heap.push (.loop { state := .ready, pending := none, fn, tmps := a.tmps, params := ps, assign := as, body := bd, defers := rd }) } = .ok (.enter fid args) { w with heap := w.heap.push (.loop { state := .ready, pending := none, fn, tmps := a.tmps, params := ps, assign := as, body := bd, defers := rd }) } ∧
      CallsIn (Fw r) (0 - 1) P fid args { w with heap := w.heap.push (.loop { state := .ready, pending := none, fn, tmps := a.tmps, params := ps, assign := as, body := bd, defers := rd }) } (rangePost (Fw r) 0 P w.heap.size (CodePost lo ρ st w x f' st') a) := by
  unfold cRange2 at h
  split at h
  · rename_i fid first caps
    cases hx : E.ext fid with
    | some _ => rw [hx] at h; cases h
    | none =>
      rw [hx] at h
      cases f with
      | mk regs n esc marks =>
        cases regs with
        | mk loc base =>
          cases loc with
          | cons _ _ => cases h
          | nil =>
            have h' : (ob2 (e.call lo fid (appC (ptrs first) (appC [.one (.yield st.c)] (ptrs caps))) ⟨st.h.put st.c (some (.loop .ready none base n esc ps.toList as bd d)), Nat.succ st.c⟩) fun _ st' => cLeave st.c ⟨⟨[], base⟩, n, esc, marks⟩ st') = some (x, f', st') := h
            clear h
            obtain ⟨v, st2, h1, h2⟩ := ob2_some h'
            obtain ⟨A, C, hσ, hA, hC'⟩ := hgv _ rfl
            generalize hL : ({ state := .ready, pending := none, fn, tmps := a.tmps, params := ps, assign := as, body := bd, defers := rd } : Loop) = L
            have hor : ORel (Rho.set ρ st.c (w.heap.size, 0)) (.loop .ready none base n esc ps.toList as bd d) (.loop L) 0 := by
              subst hL
              exact ⟨_, rfl, rfl, rfl, ⟨hf.size, fun t u hu => let ⟨y, q1, q2⟩ := hf.reg t u hu; ⟨y, q1, q2.mono (Rho.le_set m _)⟩⟩, hf.esc, rfl, rfl, rfl, rd, zd, Rho.le_set m _ _ _ hd, rfl⟩
            have hext := Ext.alloc (lo := lo) (w' := { w with heap := w.heap.push (.loop L) }) m hlo hor rfl
            rw [← put_eq] at hext
            have hle := hext.le m
            have hts : TsRel (Rho.set ρ st.c (w.heap.size, 0)) (appC (ptrs first) (appC [.one (.yield st.c)] (ptrs caps))) ((A ++ #[Value.func (.yield w.heap.size) #[] #[]] ++ C).toList) := by
              have := (hA.mono hle).ptrs.append (TsRel.append (l := [.one (.yield st.c)]) (m := [Value.func (.yield w.heap.size) #[] #[]]) ⟨_, [], rfl, ⟨_, _, set_self _ _ _, rfl⟩, rfl⟩ (hC'.mono hle).ptrs)
              simpa using this
            obtain ⟨⟨fnc, hfn, hbody⟩, hcl⟩ := hC h1 hext.mod (Nat.le_succ_of_le hlo) (hg.mono hle) hts
            refine ⟨{ target := .fn (.func fid) C, args := A ++ #[Value.func (.yield w.heap.size) #[] #[]] }, fid, A ++ #[Value.func (.yield w.heap.size) #[] #[]] ++ C, ?_, ?_, ?_⟩
            · simp [resolve, rangeCall, Deferred.ofValue, hσ]
              rfl
            · simp only [invoke]
              exact callFunc_enter hP hfn hbody _
            · refine (callsIn_Fw hcl).mono fun ex w3 hres => ?_
              cases ex with
              | panicked _ => exact hres.elim
              | outgrown => exact hres.elim
              | returned vv =>
                obtain ⟨ρ3, _, hext3⟩ := hres
                have hall := hext.trans m hext3
                have hle3 := hext3.le hext.mod
                have hb3 : ρ3 st.c = some (w.heap.size, 0) := hle3 _ _ (set_self _ _ _)
                unfold cLeave at h2
                split at h2
                · cases h2
                · rename_i sx pd rg n2 es2 ps2 as2 bd2 d2 hnb hg2
                  obtain ⟨b', z', ob, u1, u2, r2, rfl, y1, y2, y3, y4, y5, y6, y7, bd'', zd'', y8, y9⟩ := hext3.mod.obj st.c _ hg2
                  rw [hb3] at u1; cases u1
                  have hset2 := heapSet (ob' := .loop { r2 with state := .exhausted }) u2
                  have hns : ¬ (r2.state == LoopState.busy) = true := by
                    intro q
                    have : r2.state = .busy := by revert q; cases r2.state <;> simp <;> decide
                    rw [y1] at this
                    exact hnb this
                  refine ⟨r2.pending, { w3 with heap := w3.heap.setIfInBounds w.heap.size (.loop { r2 with state := .exhausted }) }, ?_, ?_⟩
                  · simp only [Instr.endLoop, Sem.run_bind, run_getLoop (P := P) u2, Result.andThen_ok, if_neg hns, run_setObj (P := P) (by simp) u2, Sem.run_pure]
                  · have hw : Ext lo ρ3 st2.h.get st2.c w3 ρ3 (setH st2 st.c (some (.loop .exhausted pd rg n2 es2 ps2 as2 bd2 d2))).h.get (setH st2 st.c (some (.loop .exhausted pd rg n2 es2 ps2 as2 bd2 d2))).c { w3 with heap := w3.heap.setIfInBounds w.heap.size (.loop { r2 with state := .exhausted }) } := by
                      rw [show (setH st2 st.c (some (.loop .exhausted pd rg n2 es2 ps2 as2 bd2 d2))).h.get = hset st2.h.get st.c _ from put_eq _ _ _]
                      exact Ext.write hext3.mod hlo hg2 hb3 ⟨{ r2 with state := .exhausted }, rfl, rfl, y2, y3, y4, y5, y6, y7, bd'', zd'', y8, y9⟩ hset2.1 hset2.2
                    obtain ⟨c1, c2⟩ := cAfter_ok (P := P) (r := r) h2 ((hf.mono hle).mono hle3) (hall.trans m hw)
                    revert c1 c2
                    generalize ({ w3 with heap := w3.heap.setIfInBounds w.heap.size (.loop { r2 with state := .exhausted }) } : World) = W
                    intro c1 c2
                    rw [y2]
                    cases pd with
                    | none => exact c1 rfl
                    | some c => exact c2 c rfl
                · cases h2
  · cases h
end Go.Abs
