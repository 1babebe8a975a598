/- A law whose code is cut in two: what stands ahead is run once, what comes behind once for each case, from a part of the heap. -/
import Derived.Test.YtgdgknjhhgkabaaGreatDoorMFact
import Derived.Test.YtgdgknjhhgkabaaGreatDoorMStart0
set_option linter.unusedVariables false
set_option linter.unusedSimpArgs false
namespace Go.Abs
variable {P : Program}

noncomputable def heads : Nat → Code → List Code
  | 0, _ => []
  | n + 1, c => match c with
    | .seq a b => a :: heads n b
    | _ => []
noncomputable def cutRest : Nat → Code → Code
  | 0, c => c
  | n + 1, c => match c with
    | .seq _ b => cutRest n b
    | c => c
noncomputable def runL (e : Ev) (cs : List Code) : Fr → St → Option (Fr × St) :=
  List.rec (fun f st => some (f, st)) (fun c _ ih f st => match e.code 3 none c f st with
    | some (.normal, f', st') => ih f' st'
    | _ => none) cs
theorem runL_ok {e : Ev} (hs : CodeSound P e.code) {Q : Exit → Act → World → Prop} : ∀ (n : Nat) {c : Code} {f f' : Fr} {st st' : St} {ρ : Rho} {w : World} {a : Act},
    runL e (heads n c) f st = some (f', st') → StMod ρ st w → 3 ≤ st.c → GlobOk ρ → FrOk ρ f a →
    (∀ ρ' a' w', FrOk ρ' f' a' → Ext 3 ρ st.h.get st.c w ρ' st'.h.get st'.c w' → (cutRest n c).wpIn (Fw none) 0 P Q a' w') → c.wpIn (Fw none) 0 P Q a w
  | 0, c, f, f', st, st', ρ, w, a, h, m, hlo, hg, hf, k => by
    have h : some (f, st) = some (f', st') := h
    cases h
    exact k ρ a w hf (Ext.refl m)
  | n + 1, c, f, f', st, st', ρ, w, a, h, m, hlo, hg, hf, k => by
    cases c
    case seq x y =>
      replace h : (match e.code 3 none x f st with
        | some (.normal, f', st') => runL e (heads n y) f' st'
        | _ => none) = some (f', st') := h
      split at h
      · rename_i f1 st1 hr
        have hw := hs hr m hlo hg hf (show RdRel ρ none none from rfl)
        refine wpIn_seq (wpIn_mono hw fun ex a1 w1 hp => ?_)
        obtain ⟨p1, ρ1, p2, p3⟩ := hp
        cases ex <;> simp only [ExRel] at p1
        show y.wpIn (Fw none) 0 P Q a1 w1
        exact runL_ok hs n h p3.mod (Nat.le_trans hlo p3.cc) (hg.mono (p3.le m)) p2 fun ρ' a' w' q1 q2 => k ρ' a' w' q1 (p3.trans m q2)
      · cases h
    all_goals
      have h : some (f, st) = some (f', st') := h
      cases h
      exact k ρ a w hf (Ext.refl m)

/-- a law that tells true -/
theorem law_ok {f : Nat} {g : Func} {c : Code} {args : Array Value} {W : World} {r n c0 esc' : Nat} {e e' : Ev} {ρ : Rho} {st st1 st2 : St} {fr0 fr1 fr2 : Fr} {S0 : T AO} {L : Regs}
    (hg1 : P.funcs[f]? = some g) (hb : g.body = some c) (hres : g.results = #[.tmp r]) (hs : CodeSound P e.code) (hs' : CodeSound P e'.code)
    (m : StMod ρ st W) (hg : GlobOk ρ) (hlo : 3 ≤ st.c) (hf : FrOk ρ fr0 { tmps := args ++ Array.replicate (g.ntmps - args.size) undef, defers := [] })
    (hpre : runL e (heads n c) fr0 st = some (fr1, st1)) (hsub : ∀ id o, S0.get id = some o → st1.h.get id = some o) (hc : st1.c ≤ c0)
    (hregs : ∀ t v, L.get t = some v → fr1.regs.get t = some v) (hL : L.base = .nil) (hm : fr1.marks = [])
    (hrest : e'.code 3 none (cutRest n c) ⟨L, fr1.n, esc', []⟩ ⟨S0, c0⟩ = some (.ret, fr2, st2)) (hv : fr2.regs.get r = some (.one (.bool true))) (hm2 : fr2.marks = []) :
    Calls P f args W fun e W' => e = .returned (.bool true) ∧ ∃ ρ1 w1 ρ2, Ext 3 ρ st.h.get st.c W ρ1 st1.h.get st1.c w1 ∧ Ext 3 ρ1 S0.get c0 w1 ρ2 st2.h.get st2.c W' := by
  refine calls_of_wp hg1 hb ((wpIn_wide (n := 0)).1 ?_)
  refine runL_ok hs n hpre m hlo hg hf fun ρ1 a1 w1 q1 q2 => ?_
  have m1 : Mod ρ1 S0.get c0 w1 := ⟨fun id hid => q2.mod.dom id (Nat.le_trans hc hid), q2.mod.lt, fun id o ho => q2.mod.obj id o (hsub id o ho), fun id id' o o' b z z' h1 h2 => q2.mod.inj id id' o o' b z z' (hsub _ _ h1) (hsub _ _ h2)⟩
  have hf1 : FrOk ρ1 ⟨L, fr1.n, esc', []⟩ a1 := ⟨q1.size, fun t v ht => q1.reg t v (hregs t v ht), (fun t v ht => by
    rw [hL] at ht
    have ht : (none : Option TV) = some v := ht
    cases ht), by have := q1.df; rw [hm] at this; exact this⟩
  have hw := hs' hrest (ρ := ρ1) (w := w1) m1 (Nat.le_trans (Nat.le_trans hlo q2.cc) hc) (hg.mono (q2.le m)) hf1 (show RdRel ρ1 none none from rfl)
  refine wpIn_mono hw fun ex a' w' hp => ?_
  obtain ⟨p1, ρ2, p2, p3⟩ := hp
  cases ex <;> simp only [ExRel] at p1
  have hd := p2.df
  rw [hm2] at hd
  obtain ⟨x, hx, hr⟩ := p2.reg r _ hv
  have hr : x = .bool true := hr
  subst hr
  refine ⟨hd, _, results_tmp hres _ _ _, ?_, ρ1, w1, ρ2, q2, p3⟩
  rw [Array.getD_eq_getD_getElem?, hx]; rfl

/-- what the two parts keep -/
theorem parts_kept {ρ ρ1 ρ2 : Rho} {h h1 : Nat → Option AO} {c1 c0 c2 : Nat} {S0 : T AO} {h2 : Nat → Option AO} {W w1 W' : World} (m : Mod ρ h 3 W) (hk : w1.os = W.os ∧ w1.output = W.output ∧ ∀ b, b < W.heap.size → w1.heap[b]? = W.heap[b]?)
    (x : Ext 3 ρ h 3 W ρ1 h1 c1 w1) (y : Ext 3 ρ1 S0.get c0 w1 ρ2 h2 c2 W') (hlow : ∀ id, id < 3 → S0.get id = none) :
    W'.os = W.os ∧ W'.output = W.output ∧ W.heap.size ≤ W'.heap.size ∧ ∀ b, b < W.heap.size → W'.heap[b]? = W.heap[b]? := by
  have he := y.env
  unfold World.env2 at he
  simp only [Prod.mk.injEq] at he
  refine ⟨he.1.trans hk.1, he.2.trans hk.2.1, Nat.le_trans x.size y.size, fun b hb => ?_⟩
  rw [← hk.2.2 b hb]
  refine y.frame b (Nat.lt_of_lt_of_le hb x.size) fun id z hp => ?_
  rcases Nat.lt_or_ge id 3 with hlt | hge
  · exact hlow id hlt
  · exfalso
    rcases x.new id b z hge hp with h | ⟨i, z', i1, i2, _⟩
    · omega
    · omega

/-! ### What is asked of the runs -/
noncomputable def isNilM (l : List Nat) : Bool := List.rec true (fun _ _ _ => false) l
theorem isNilM_spec {l : List Nat} (h : isNilM l = true) : l = [] := by
  cases l with
  | nil => rfl
  | cons _ _ => cases h
noncomputable def isReg (r : Regs) (t : Nat) (v : TV) : Bool := Option.rec false (fun x => eqTW x v) (r.get t)
theorem isReg_spec {r : Regs} {t : Nat} {v : TV} (h : isReg r t v = true) : r.get t = some v := by
  unfold isReg at h
  cases hx : r.get t with
  | none => rw [hx] at h; cases h
  | some x => rw [hx] at h; rw [eqTW_eq h]
noncomputable def chkRest (r : Nat) (x : RC) : Bool :=
  match x with
  | some (.ret, f, _) => Fr.rec (fun regs _ _ marks => bsel (isReg regs r (.one (.bool true))) (isNilM marks) false) f
  | _ => false
theorem chkRest_spec {r : Nat} {x : RC} (h : chkRest r x = true) : ∃ f st, x = some (.ret, f, st) ∧ f.regs.get r = some (.one (.bool true)) ∧ f.marks = [] := by
  unfold chkRest at h
  split at h
  · rename_i f st
    cases f with
    | mk regs n esc marks =>
      obtain ⟨h1, h2⟩ := bselF (show bsel (isReg regs r (.one (.bool true))) (isNilM marks) false = true from h)
      exact ⟨_, st, rfl, isReg_spec h1, isNilM_spec h2⟩
  · cases h
noncomputable def frameOf (args : List TV) (n esc : Nat) : Fr := ⟨⟨[], T.ofList args 0 .nil⟩, n, Nat.lor esc (Nat.sub (Nat.shiftLeft 1 (lenC args)) 1), []⟩
theorem frameOf_ok {ρ : Rho} {args : List TV} {as : Array Value} {n esc : Nat} (hn : args.length ≤ n) (ha : TsRel ρ args as.toList) :
    FrOk ρ (frameOf args n esc) { tmps := as ++ Array.replicate (n - as.size) undef, defers := [] } := by
  have hlen : as.size = args.length := by have := ha.length; simpa using this
  have key : ∀ t u, (T.ofList args 0 (.nil : T TV)).get t = some u → args[t]? = some u := fun t u hu => by
    rw [T.get_ofList] at hu
    split at hu
    · simpa using hu
    · cases hu
  refine ⟨?_, ?_, ?_, rfl⟩
  · show (as ++ Array.replicate (n - as.size) undef).size = n
    simp; omega
  · intro t u hu
    obtain ⟨y, hy, hr⟩ := ha.get (key t u hu)
    refine ⟨y, ?_, hr⟩
    have hy : as[t]? = some y := by simpa using hy
    rw [Array.getElem?_append_left (Array.getElem?_eq_some_iff.1 hy).1]
    exact hy
  · intro t u hu
    have ht : t < args.length := (List.getElem?_eq_some_iff.1 (key t u hu)).1
    rw [bit_eq]
    show (esc ||| ((1 <<< lenC args) - 1)).testBit t = true
    rw [lenC_eq, Nat.testBit_or, Nat.shiftLeft_eq, Nat.one_mul, Nat.testBit_two_pow_sub_one]
    simp [ht]
theorem regs_sub {r : Regs} : ∀ {l : List (Nat × TV)}, (∀ p ∈ l, r.get p.1 = some p.2) → ∀ t v, (⟨l, .nil⟩ : Regs).get t = some v → r.get t = some v
  | [], _, t, v, h => by
    have h : (T.nil : T TV).get t = some v := h
    cases h
  | (t', x) :: l, hl, t, v, h => by
    replace h : bsel (Nat.beq t' t) (some x) ((⟨l, .nil⟩ : Regs).get t) = some v := h
    cases hb : Nat.beq t' t with
    | true =>
      rw [hb, bsel_true] at h
      cases h
      have := Nat.eq_of_beq_eq_true hb
      subst this
      exact hl (t', x) List.mem_cons_self
    | false =>
      rw [hb, bsel_false] at h
      exact regs_sub (fun p hp => hl p (List.mem_cons_of_mem _ hp)) t v h
/-- a row of cases -/
noncomputable def allSpan (p : Nat → Bool) (a n : Nat) : Bool := Nat.rec true (fun i ih => bsel (p (Nat.add a i)) ih false) n
theorem allSpan_spec {p : Nat → Bool} {a : Nat} : ∀ {n : Nat}, allSpan p a n = true → ∀ x, a ≤ x → x < a + n → p x = true
  | 0, _, x, h1, h2 => absurd h2 (by omega)
  | n + 1, h, x, h1, h2 => by
    obtain ⟨g1, g2⟩ := bselF (show bsel (p (Nat.add a n)) (allSpan p a n) false = true from h)
    by_cases e : x = a + n
    · subst e; exact g1
    · exact allSpan_spec g2 x h1 (by omega)
end Go.Abs
