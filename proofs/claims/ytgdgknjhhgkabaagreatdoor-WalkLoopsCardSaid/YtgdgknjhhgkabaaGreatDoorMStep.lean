/- Frames: what an abstract frame says of an activation; one operation; operations one behind the other. -/
import Derived.Test.YtgdgknjhhgkabaaGreatDoorMBuilt2
set_option linter.unusedVariables false
set_option linter.unusedSimpArgs false
namespace Go.Abs
variable {P : Program} {E : Env} {ρ ρ' : Rho} {lo : Nat} {st st' : St} {w : World}

/-- a fence that lets in all, in a round or in none -/
def Fw (r : Option Nat) : Fence := { Fence.wide with round := r }
theorem callsIn_Fw {r : Option Nat} {n f : Nat} {as : Array Value} {R : Ending → World → Prop} (h : Calls P f as w R) : CallsIn (Fw r) n P f as w R :=
  (callsIn_wide (n := n)).2 h
theorem roundIn_Fw {r : Option Nat} {n l f : Nat} {tmps : Array Value} {x y : Code} {R : Ending → World → Prop} (h : RoundIn Fence.wide n P l f tmps x y w R) : RoundIn (Fw r) n P l f tmps x y w R := h

def GlobOk (ρ : Rho) : Prop := ∀ g, g < globN → ∃ z, ρ g = some (g, z)
theorem GlobOk.mono (h : GlobOk ρ) (l : Le ρ ρ') : GlobOk ρ' := fun g hg => let ⟨z, hz⟩ := h g hg; ⟨z, l _ _ hz⟩

/-- the marks among an activation's deferred calls -/
def DfRel (ρ : Rho) : List Nat → List Deferred → Prop
  | [], ds => ds = []
  | m :: ms, ds => ∃ r z ds', ρ m = some (r, z) ∧ ds = { target := .collected r, args := #[] } :: ds' ∧ DfRel ρ ms ds'
theorem DfRel.mono (l : Le ρ ρ') : ∀ {ms : List Nat} {ds : List Deferred}, DfRel ρ ms ds → DfRel ρ' ms ds
  | [], _, h => h
  | _ :: _, _, ⟨r, z, ds', h1, h2, h3⟩ => ⟨r, z, ds', l _ _ h1, h2, DfRel.mono l h3⟩

structure FrOk (ρ : Rho) (f : Fr) (a : Act) : Prop where
  size : a.tmps.size = f.n
  reg : ∀ t v, f.regs.get t = some v → ∃ x, a.tmps[t]? = some x ∧ TRel ρ v x
  esc : EscOk f.regs.base f.esc
  df : DfRel ρ f.marks a.defers
theorem FrOk.mono {f : Fr} {a : Act} (h : FrOk ρ f a) (l : Le ρ ρ') : FrOk ρ' f a :=
  ⟨h.size, fun t v hv => let ⟨x, h1, h2⟩ := h.reg t v hv; ⟨x, h1, h2.mono l⟩, h.esc, h.df.mono l⟩

theorem Regs.get_put (r : Regs) (t t' : Nat) (v : TV) : (r.put t v).get t' = if t' = t then some v else r.get t' := by
  cases r with
  | mk loc base =>
    show bsel (Nat.beq t t') (some v) (locGet loc t' (base.get t')) = _
    rw [bsel_eq]
    by_cases h : t' = t
    · subst h; rw [if_pos (Nat.beq_refl _), if_pos rfl]
    · rw [if_neg (fun e => h (Nat.eq_of_beq_eq_true e).symm), if_neg h]; rfl
theorem Regs.put_base (r : Regs) (t : Nat) (v : TV) : (r.put t v).base = r.base := by cases r; rfl

theorem FrOk.put {f f' : Fr} {a : Act} {d : Option Nat} {v : TV} {x : Value} (h : FrOk ρ f a) (hp : f.put d v = some f') (hx : TRel ρ v x) : FrOk ρ f' (a.put d x) := by
  cases d with
  | none => cases hp; exact h
  | some t =>
    cases f with
    | mk regs n esc marks =>
      obtain ⟨h1, h2⟩ := bsel_some (show bsel (Nat.blt t n) (some (⟨regs.put t v, n, esc, marks⟩ : Fr)) none = some f' from hp)
      cases h2
      have h1 := blt_lt h1
      have hs : a.tmps.size = n := h.size
      refine ⟨by simpa [Act.put] using hs, fun t' u hu0 => ?_, ?_, h.df⟩
      · have hu : (regs.put t v).get t' = some u := hu0
        clear hu0
        rw [Regs.get_put] at hu
        show ∃ y, (a.tmps.setIfInBounds t x)[t']? = some y ∧ TRel ρ u y
        split at hu
        · rename_i e; subst e; cases hu
          exact ⟨x, by simp [hs, h1], hx⟩
        · rename_i e
          obtain ⟨y, hy, hr⟩ := h.reg t' u hu
          exact ⟨y, by simp [Ne.symm e, hy], hr⟩
      · have : (regs.put t v).base = regs.base := Regs.put_base _ _ _
        show EscOk (regs.put t v).base esc
        rw [this]; exact h.esc

/-- a region's end -/
theorem locFlush_get (esc : Nat) (base : T TV) (hb : EscOk base esc) : ∀ (l : List (Nat × TV)), (∀ t v, (locFlush l esc base).get t = some v → locGet l t (base.get t) = some v) ∧ EscOk (locFlush l esc base) esc := by
  intro l
  induction l with
  | nil => exact ⟨fun t v h => h, hb⟩
  | cons p l ih =>
    obtain ⟨t, v⟩ := p
    have e : locFlush ((t, v) :: l) esc base = bsel (bit esc t) ((locFlush l esc base).put t (some v)) (locFlush l esc base) := rfl
    have e2 : ∀ t' d, locGet ((t, v) :: l) t' d = bsel (Nat.beq t t') (some v) (locGet l t' d) := fun _ _ => rfl
    rw [e]
    cases hbit : bit esc t with
    | true =>
      refine ⟨fun t' u hu => ?_, fun t' u hu => ?_⟩
      · rw [bsel_true, T.get_put] at hu
        rw [e2, bsel_eq]
        split at hu
        · rename_i q; subst q; cases hu; rw [if_pos (Nat.beq_refl _)]
        · rename_i q; rw [if_neg (fun e => q (Nat.eq_of_beq_eq_true e).symm)]; exact ih.1 t' u hu
      · rw [bsel_true, T.get_put] at hu
        split at hu
        · rename_i q; subst q; exact hbit
        · exact ih.2 t' u hu
    | false =>
      refine ⟨fun t' u hu => ?_, ih.2⟩
      rw [bsel_false] at hu
      rw [e2, bsel_eq]
      have hne : ¬ (Nat.beq t t' = true) := by
        intro q
        have := Nat.eq_of_beq_eq_true q
        subst this
        have := ih.2 t u hu
        rw [hbit] at this; cases this
      rw [if_neg hne]; exact ih.1 t' u hu
theorem FrOk.flush {f : Fr} {a : Act} (h : FrOk ρ f a) : FrOk ρ f.flush a := by
  cases f with
  | mk regs n esc marks =>
    cases regs with
    | mk loc base =>
      have e : (Fr.mk ⟨loc, base⟩ n esc marks).flush = ⟨⟨[], locFlush loc esc base⟩, n, esc, marks⟩ := by
        show (⟨forceT (locFlush loc esc base) fun b => ⟨[], b⟩, n, esc, marks⟩ : Fr) = _
        rw [forceT_eq]
      rw [e]
      obtain ⟨h1, h2⟩ := locFlush_get esc base h.esc loc
      exact ⟨h.size, fun t v hv => h.reg t v (h1 t v hv), h2, h.df⟩

theorem eval_rel {f : Fr} {a : Act} (hg : GlobOk ρ) (h : FrOk ρ f a) : EvRel ρ (eval f.regs) a.eval := by
  intro x v hv
  cases x with
  | tmp t =>
    obtain ⟨y, hy, hr⟩ := h.reg t v hv
    show TRel ρ v (a.tmps.getD t undef)
    rw [Array.getD_eq_getD_getElem?, hy]; exact hr
  | const c => exact ofValue_rel hv
  | global g =>
    obtain ⟨h1, h2⟩ := bsel_some (show bsel (Nat.blt g globN) (some (TV.one (.ptr g 0))) none = some v from hv)
    cases h2
    obtain ⟨z, hz⟩ := hg g (blt_lt h1)
    exact ⟨g, z, hz, rfl⟩
  | func f => cases hv; exact ⟨#[], #[], rfl, rfl, rfl⟩

theorem wanted_rel {f : Fr} {a : Act} {ops : Array Oper} {o : Oper} {b : Bool} (h : FrOk ρ f a) (hw : wantedA ops.toList f.regs o = some b) : Region.wanted o (yielded ops a.tmps) = b := by
  unfold wantedA at hw
  unfold Region.wanted
  cases hg : o.guard with
  | none => rw [hg] at hw; cases hw; rfl
  | some g =>
    obtain ⟨j, want⟩ := g
    rw [hg] at hw
    have hw : Option.rec (some false) (fun t => boolAt f.regs t want) (obind (nthC ops.toList j) Oper.dst) = some b := hw
    have hy : yielded ops a.tmps j = match (obind (nthC ops.toList j) Oper.dst).bind (a.tmps[·]?) with | some (.bool b) => some b | _ => none := by
      unfold yielded
      rw [nthC_eq, Array.getElem?_toList]
      cases ops[j]? <;> rfl
    simp only
    rw [hy]
    cases hd : obind (nthC ops.toList j) Oper.dst with
    | none => rw [hd] at hw; cases hw; rfl
    | some t =>
      rw [hd] at hw
      have hw : boolAt f.regs t want = some b := hw
      unfold boolAt at hw
      split at hw
      · rename_i c hc
        cases hw
        obtain ⟨x, hx, hr⟩ := h.reg t _ hc
        have hr : x = .bool c := hr
        subst hr
        simp [hx]
      · rename_i hc
        cases hw
        obtain ⟨x, hx, y, rfl, hr⟩ := h.reg t _ hc
        simp [hx]
      · cases hw

/-! ### Calls -/
def CallRes (lo : Nat) (ρ : Rho) (st : St) (w : World) (v : TV) (st' : St) : Ending → World → Prop
  | .returned x, w' => ∃ ρ', TRel ρ' v x ∧ Ext lo ρ st.h.get st.c w ρ' st'.h.get st'.c w'
  | _, _ => False
def CallSound (P : Program) (call : Nat → Nat → List TV → St → R) : Prop :=
  ∀ {lo f args st v st' ρ w} {as : Array Value}, call lo f args st = some (v, st') → StMod ρ st w → lo ≤ st.c → GlobOk ρ → TsRel ρ args as.toList →
    (∃ fn, P.funcs[f]? = some fn ∧ fn.body.isSome = true) ∧ Calls P f as w (CallRes lo ρ st w v st')
def YieldSound (P : Program) (yield : Nat → Nat → List TV → St → R) : Prop :=
  ∀ {lo l args st v st' ρ w b z} {as : Array Value}, yield lo l args st = some (v, st') → StMod ρ st w → lo ≤ st.c → GlobOk ρ → TsRel ρ args as.toList → ρ l = some (b, z) →
    ∃ fn tmps x y, (Instr.yield b as).run P w = .ok (.round b fn tmps x y) w ∧ RoundIn Fence.wide 0 P b fn tmps x y w (CallRes lo ρ st w v st')
structure ProgOk (P : Program) (E : Env) : Prop where
  env : EnvOk P E
  mixed : P.follows .mixedOrders = true
  num : ∀ (f : Nat) (fn : Func), P.funcs[f]? = some fn → (fn.name == "runtime.NumGoroutine") = false
  ext : ∀ f g, E.ext f = some g → ∀ {args v ρ w} {as : Array Value}, g args = some v → TsRel ρ args as.toList → ∃ x, (callFunc f as).run P w = .ok (.value x) w ∧ TRel ρ v x
theorem callFunc_enter (hP : ProgOk P E) {f : Nat} {fn : Func} {as : Array Value} (hf : P.funcs[f]? = some fn) (hb : fn.body.isSome = true) (w : World) : (callFunc f as).run P w = .ok (.enter f as) w := by
  have hn := hP.num f fn hf
  cases hbb : fn.body with
  | none => rw [hbb] at hb; cases hb
  | some c =>
    have hn' : ¬ fn.name = "runtime.NumGoroutine" := by simpa using hn
    simp [callFunc, hf, hn', hbb]

/-- what is asked of an operation -/
def StepOk (P : Program) (lo : Nat) (ρ : Rho) (st : St) (w : World) (r : Option Nat) (o : Oper) (a : Act) (v : TV) (st' : St) : Prop :=
  ∀ (K : Act → World → Prop) (Q : Exit → Act → World → Prop), (∀ ρ' w' x, TRel ρ' v x → Ext lo ρ st.h.get st.c w ρ' st'.h.get st'.c w' → K (a.put o.dst x) w') → o.wpIn (Fw r) 0 P a w K Q
theorem StepOk.of_ok {r : Option Nat} {o : Oper} {a : Act} {v : TV} (hd : ∀ c, o.op ≠ .defer c) (h : MemOk P lo ρ st w (execOp a.eval o) v st') : StepOk P lo ρ st w r o a v st' := by
  intro K Q hK
  obtain ⟨ρ', w', x, h1, h2, h3⟩ := h
  refine ⟨fun _ _ => trivial, ?_⟩
  rw [show (Fw r).round = r from rfl, Oper.semAt_eq r a.eval o hd]
  rcases h1 with h1 | ⟨h1, rfl⟩
  · rw [h1]; exact hK _ _ _ h2 h3
  · rw [h1]; exact hK _ _ _ h2 h3

theorem PRel.ptrs : ∀ {l : List (Nat × Nat)} {m : List Value}, PRel ρ l m → TsRel ρ (ptrs l) m
  | [], _, h => h
  | p :: ps, _, ⟨b, z, ys, h1, h2, h3⟩ => ⟨_, ys, h2, ⟨b, z, h1, rfl⟩, PRel.ptrs h3⟩
theorem TsRel.append : ∀ {l l' : List TV} {m m' : List Value}, TsRel ρ l m → TsRel ρ l' m' → TsRel ρ (appC l l') (m ++ m')
  | [], _, _, _, r, s => by cases r; exact s
  | _ :: _, _, _, _, ⟨y, ys, e, p, r⟩, s => by subst e; exact ⟨y, _, rfl, p, TsRel.append r s⟩

theorem heavy_ok (hP : ProgOk P E) {e : Ev} (hC : CallSound P e.call) (hY : YieldSound P e.yield) (m : StMod ρ st w) (hlo : lo ≤ st.c) (hg : GlobOk ρ) {ev : Operand → Option TV} {a : Act} (he : EvRel ρ ev a.eval) {o : Oper} {v : TV}
    (h : heavyStep E e lo ev st o.op = some (v, st')) (r : Option Nat) : StepOk P lo ρ st w r o a v st' := by
  by_cases hcall : ∃ c, o.op = .call c
  · obtain ⟨c, hop⟩ := hcall
    rw [hop] at h
    have h : callOp E e lo ev c st = some (v, st') := h
    unfold callOp at h
    obtain ⟨args, hargs, hq'⟩ := obind_some h
    clear h
    have h := hq'
    clear hq'
    have hr := optAll_ev he hargs
    have hd : ∀ c, o.op ≠ .defer c := fun c' e => by rw [hop] at e; cases e
    intro K Q hK
    refine ⟨fun _ _ => trivial, ?_⟩
    rw [show (Fw r).round = r from rfl, Oper.semAt_eq r a.eval o hd]
    have hsem : execOp a.eval o = (do let d ← resolve a.eval c o.type; invoke d.target d.args) := by
      obtain ⟨dst, op, type, pos, after, guard⟩ := o
      simp only at hop; subst hop; rfl
    rw [hsem]
    split at h
    · rename_i b hb
      obtain ⟨ρ', w', x, h1, h2, h3⟩ := abuiltin_run hP.env m hlo (as := c.args.map a.eval) o.type h (by simpa using hr) (c.args.map fun | .const _ => true | _ => false)
      have : (do let d ← resolve a.eval c o.type; invoke d.target d.args : Sem Next).run P w = .ok (.value x) w' := by
        simp only [resolve, hb, invoke, Sem.run_bind, Sem.run_pure, Result.andThen_ok]
        exact h1
      rw [this]
      exact hK _ _ _ h2 h3
    · cases h
    · rename_i fv hfv
      unfold callVal at h
      split at h
      · rename_i f first caps hfe
        obtain ⟨A, C, hσ, hA, hC'⟩ := he _ _ hfe
        have hts : TsRel ρ (appC (ptrs first) (appC args (ptrs caps))) ((A ++ c.args.map a.eval ++ C).toList) := by
          have := hA.ptrs.append (hr.append hC'.ptrs)
          simpa using this
        have hrun : (do let d ← resolve a.eval c o.type; invoke d.target d.args : Sem Next).run P w = (callFunc f (A ++ c.args.map a.eval ++ C)).run P w := by
          simp [resolve, hfv, Deferred.ofValue, hσ, invoke]
        rw [hrun]
        unfold callFn at h
        cases hx : E.ext f with
        | some g =>
          rw [hx] at h
          obtain ⟨h1, rfl⟩ := keep_some h
          obtain ⟨x, h2, h3⟩ := hP.ext f g hx (w := w) h1 hts
          rw [h2]
          exact hK _ _ _ h3 (Ext.refl m)
        | none =>
          rw [hx] at h
          obtain ⟨⟨fn, hf, hb⟩, hcl⟩ := hC h m hlo hg hts
          rw [callFunc_enter hP hf hb w]
          refine ⟨(fun q => by cases q), ?_⟩
          refine (callsIn_Fw hcl).mono fun ex w' hres => ?_
          cases ex with
          | returned x => obtain ⟨ρ', h1, h2⟩ := hres; exact hK _ _ _ h1 h2
          | panicked _ => exact hres.elim
          | outgrown => exact hres.elim
      · rename_i l hfe
        obtain ⟨b, z, hb, hσ⟩ := he _ _ hfe
        obtain ⟨fn, tmps, x, y, h1, h2⟩ := hY h m hlo hg (as := c.args.map a.eval) (by simpa using hr) hb
        have hrun : (do let d ← resolve a.eval c o.type; invoke d.target d.args : Sem Next).run P w = .ok (.round b fn tmps x y) w := by
          simp [resolve, hfv, Deferred.ofValue, hσ, invoke, h1]
        rw [hrun]
        refine ⟨(fun q => by cases q), ?_⟩
        refine (roundIn_Fw h2).mono fun ex w' hres => ?_
        cases ex with
        | returned x => obtain ⟨ρ', h1, h2⟩ := hres; exact hK _ _ _ h1 h2
        | panicked _ => exact hres.elim
        | outgrown => exact hres.elim
      · cases h
  · have hmem : amem E lo ev st o.op = some (v, st') := by
      revert h
      unfold heavyStep
      split
      · rename_i c hc; exact absurd ⟨c, hc⟩ hcall
      · exact id
    refine StepOk.of_ok (fun c hc => ?_) (amem_run hP.env m hlo he hmem)
    rw [hc] at hmem
    cases hmem

theorem opStep_ok (hP : ProgOk P E) {e : Ev} (hC : CallSound P e.call) (hY : YieldSound P e.yield) (m : StMod ρ st w) (hlo : lo ≤ st.c) (hg : GlobOk ρ) {ev : Operand → Option TV} {a : Act} (he : EvRel ρ ev a.eval) {o : Oper} {v : TV}
    (h : opStep E e lo ev o st = some (v, st')) (r : Option Nat) : StepOk P lo ρ st w r o a v st' := by
  unfold opStep at h
  rw [bsel_eq] at h
  split at h
  · rename_i hp
    obtain ⟨h1, rfl⟩ := keep_some h
    obtain ⟨x, h2, h3⟩ := apure_run hP.env he w h1
    refine StepOk.of_ok (fun c hc => ?_) ⟨ρ, w, x, .inl h2, h3, Ext.refl m⟩
    rw [hc] at h1
    cases h1
  · exact heavy_ok hP hC hY m hlo hg he h r

/-- operations one behind the other -/
theorem seqOps_ok (hP : ProgOk P E) {e : Ev} (hC : CallSound P e.call) (hY : YieldSound P e.yield) {ops : Array Oper} {Q : Exit → Act → World → Prop} (r : Option Nat) :
    ∀ (l : List Oper) {ρ : Rho} {f f' : Fr} {st st' : St} {w : World} {a : Act}, seqOps E e lo ops.toList l f st = some (f', st') → StMod ρ st w → lo ≤ st.c → GlobOk ρ → FrOk ρ f a →
      (∀ ρ' a' w', FrOk ρ' f' a' → Ext lo ρ st.h.get st.c w ρ' st'.h.get st'.c w' → Q .normal a' w') → wpListIn (Fw r) 0 P ops Q l a w
  | [], ρ, f, f', st, st', w, a, h, m, hlo, hg, hf, hQ => by
    cases h
    exact hQ ρ a w hf (Ext.refl m)
  | o :: l, ρ, f, f', st, st', w, a, h, m, hlo, hg, hf, hQ => by
    have h' : (obind (wantedA ops.toList f.regs o) fun b => bsel b
      (ob2 (opStep E e lo (eval f.regs) o st) fun v st' => obind (f.put o.dst v) fun f' => seqOps E e lo ops.toList l f' st')
      (obind (f.put o.dst undefV) fun f' => seqOps E e lo ops.toList l f' st)) = some (f', st') := h
    obtain ⟨b, hb, h1⟩ := obind_some h'
    have hw := wanted_rel hf hb
    unfold wpListIn
    rw [hw]
    cases b with
    | true =>
      rw [bsel_true] at h1
      obtain ⟨v, st2, h2, h3⟩ := ob2_some h1
      obtain ⟨f2, h4, h5⟩ := obind_some h3
      rw [if_pos rfl]
      refine opStep_ok hP hC hY m hlo hg (eval_rel hg hf) h2 r _ _ fun ρ2 w2 x hx hext => ?_
      have hle := hext.le m
      exact seqOps_ok hP hC hY r l h5 hext.mod (Nat.le_trans hlo hext.cc) (hg.mono hle) ((hf.mono hle).put h4 hx) fun ρ3 a3 w3 hf3 hext3 => hQ ρ3 a3 w3 hf3 (hext.trans m hext3)
    | false =>
      rw [bsel_false] at h1
      obtain ⟨f2, h4, h5⟩ := obind_some h1
      rw [if_neg (by simp)]
      exact ⟨fun _ _ => trivial, seqOps_ok hP hC hY r l h5 m hlo hg (hf.put h4 (undef_rel ρ)) hQ⟩
end Go.Abs
