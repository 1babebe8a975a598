/- The statement 'for .. := range g' over a function, calls of functions; all of it by induction, given the regions that draw. -/
import Derived.Test.YtgdgknjhhgkabaaGreatDoorMRange2
set_option linter.unusedVariables false
set_option linter.unusedSimpArgs false
namespace Go.Abs
variable {P : Program} {E : Env}

theorem cRange_ok (hP : ProgOk P E) {e : Ev} (hC : CallSound P e.call) {lo : Nat} {rd : Option Nat} {g : Operand} {ps : Array Nat} {as bd : Code} {f f' : Fr} {st st' : St} {x : AX} {ρ : Rho} {w : World} {a : Act} {r : Option Nat}
    (h : cRange E e lo rd g ps.toList as bd f st = some (x, f', st')) (m : StMod ρ st w) (hlo : lo ≤ st.c) (hg : GlobOk ρ) (hf : FrOk ρ f a) (hrd : RdRel ρ rd r) : (Code.rangeFunc g ps as bd).wpIn (Fw r) 0 P (CodePost lo ρ st w x f' st') a w := by
  refine wpIn_rangeFunc fun fn _ => ?_
  have lead : ∀ (w1 : World) (d : Deferred) (f' : FuncId), Target.leads P w1 d.target d.args = some f' → (Fw r).fn f' := fun _ _ _ _ => trivial
  cases rd with
  | none =>
    have hr : r = none := hrd
    subst hr
    cases f with
    | mk regs n esc marks =>
      have h' : cRange2 E e lo (eval regs g) ps.toList as bd st.c ⟨regs, n, esc, st.c :: marks⟩ ⟨st.h.put st.c (some .deferred), Nat.succ st.c⟩ = some (x, f', st') := h
      clear h
      have hext := Ext.alloc (lo := lo) (w := w) (w' := { w with heap := w.heap.push (.deferred (some [])) }) (o := .deferred) (ob := .deferred (some [])) (z := 0) m hlo rfl rfl
      rw [← put_eq] at hext
      have hle := hext.le m
      have hf1 : FrOk (Rho.set ρ st.c (w.heap.size, 0)) ⟨regs, n, esc, st.c :: marks⟩ { a with defers := { target := .collected w.heap.size, args := #[] } :: a.defers } :=
        ⟨hf.size, fun t u hu => let ⟨y, q1, q2⟩ := hf.reg t u hu; ⟨y, q1, q2.mono hle⟩, hf.esc, ⟨w.heap.size, 0, a.defers, set_self _ _ _, rfl, hf.df.mono hle⟩⟩
      obtain ⟨dd, fid, args, h1, h2, h3⟩ := cRange2_ok hP hC none fn h' hext.mod (Nat.le_succ_of_le hlo) (hg.mono hle) hf1
        (fun v hv => eval_rel (hg.mono hle) hf1 g v hv) (set_self _ _ _)
      refine ⟨_, [{ target := .collected w.heap.size, args := #[] }], _, dd, _, fid, args, _, ?_, h1, fun f' q => lead _ dd f' q, h2, (fun q => by cases q), ?_⟩
      · simp [Instr.enterLoop, Fw]; rfl
      · refine h3.mono fun ex w' hres => ?_
        have step : ∀ {ex a w'}, CodePost lo (Rho.set ρ st.c (w.heap.size, 0)) ⟨st.h.put st.c (some .deferred), Nat.succ st.c⟩ { w with heap := w.heap.push (.deferred (some [])) } x f' st' ex a w' → CodePost lo ρ st w x f' st' ex a w' :=
          fun q => q.trans m hext
        cases ex with
        | returned v =>
          obtain ⟨j, w4, g1, g2⟩ := hres
          refine ⟨j, w4, g1, ?_⟩
          cases j with
          | none => exact step g2
          | some c => exact wpIn_mono g2 fun _ _ _ q => step q
        | panicked ch => exact step hres
        | outgrown => obtain ⟨a0, w0, q⟩ := hres; exact ⟨a0, w0, step q⟩
  | some l =>
    obtain ⟨b, z, hb, hr⟩ := hrd
    subst hr
    have h' : (match st.h.get l with
      | some (.loop _ _ _ _ _ _ _ _ d) => cRange2 E e lo (eval f.regs g) ps.toList as bd d f st
      | _ => none) = some (x, f', st') := h
    clear h
    split at h'
    · rename_i s0 pd rg n es ps0 as0 bd0 d hgl
      obtain ⟨b', z', ob, u1, u2, r2, rfl, y1, y2, y3, y4, y5, y6, y7, bd'', zd'', y8, y9⟩ := m.obj l _ hgl
      rw [hb] at u1; cases u1
      obtain ⟨dd, fid, args, h1, h2, h3⟩ := cRange2_ok hP hC (some b) fn h' m hlo hg hf (fun v hv => eval_rel hg hf g v hv) y8
      refine ⟨_, [], _, dd, _, fid, args, _, ?_, h1, fun f' q => lead _ dd f' q, h2, (fun q => by cases q), h3⟩
      simp [Instr.enterLoop, Fw, run_getLoop (P := P) u2, y9]
    · cases h'

/-! ### Calls of functions -/
theorem bit_eq (m j : Nat) : bit m j = m.testBit j := by
  have h : bit m j = Nat.beq ((m >>> j) % 2) 1 := rfl
  rw [h, Nat.testBit_eq_decide_div_mod_eq, Nat.shiftRight_eq_div_pow]
  cases hb : Nat.beq (m / 2 ^ j % 2) 1 with
  | true => exact (decide_eq_true (Nat.eq_of_beq_eq_true hb)).symm
  | false => exact (decide_eq_false (Nat.ne_of_beq_eq_false hb)).symm
theorem T.get_ofList {α : Type} : ∀ (l : List α) (k : Nat) (t : T α) (j : Nat), (T.ofList l k t).get j = if k ≤ j ∧ j < k + l.length then l[j - k]? else t.get j
  | [], k, t, j => by
    show t.get j = _
    rw [if_neg (by simp only [List.length_nil]; omega)]
  | x :: l, k, t, j => by
    have e : T.ofList (x :: l) k t = T.ofList l (Nat.succ k) (t.put k (some x)) := rfl
    rw [e, T.get_ofList l, T.get_put]
    by_cases hj : j = k
    · subst hj
      rw [if_neg (by omega), if_pos rfl, if_pos (by simp)]
      simp
    · rw [if_neg hj]
      by_cases h2 : k + 1 ≤ j ∧ j < k + 1 + l.length
      · rw [if_pos h2, if_pos (by simp; omega)]
        have : j - k = (j - (k + 1)) + 1 := by omega
        rw [this]; rfl
      · rw [if_neg h2, if_neg (by simp; omega)]
theorem TsRel.get {ρ : Rho} : ∀ {l : List TV} {m : List Value} {i : Nat} {x : TV}, TsRel ρ l m → l[i]? = some x → ∃ v, m[i]? = some v ∧ TRel ρ x v
  | [], _, _, _, _, h => by simp at h
  | _ :: _, _, 0, _, ⟨y, ys, e, p, _⟩, h => by subst e; simp at h; subst h; exact ⟨y, rfl, p⟩
  | _ :: _, _, i + 1, _, ⟨y, ys, e, _, r⟩, h => by subst e; simpa using TsRel.get r (by simpa using h)
theorem TsRel.length {ρ : Rho} : ∀ {l : List TV} {m : List Value}, TsRel ρ l m → m.length = l.length
  | [], _, r => by cases r; rfl
  | _ :: _, _, ⟨_, _, e, _, r⟩ => by subst e; simp [TsRel.length r]

/-- an object dies, whatever becomes of its block -/
theorem Ext.killw {lo c : Nat} {ρ : Rho} {h : Nat → Option AO} {w w' : World} (m : Mod ρ h c w) {id : Nat} {o : AO} {b z : Nat} {ob' : Obj} (hlo : lo ≤ id) (ho : h id = some o) (hp : ρ id = some (b, z))
    (hw : ∀ j, w'.heap[j]? = if j = b then some ob' else w.heap[j]?) (hs : w'.heap.size = w.heap.size) (he : World.env2 w' = World.env2 w := by rfl) : Ext lo ρ h c w ρ (hset h id none) c w' where
  cc := Nat.le_refl _
  env := he
  old _ _ := rfl
  size := by omega
  new id b z hc hp := by rw [m.dom id hc] at hp; cases hp
  frame j hj hn := by
    rw [hw, if_neg]
    rintro rfl
    have := hn id z hp
    rw [ho] at this; cases this
  low j hj := by unfold hset; rw [if_neg (by omega)]
  dead j hj h0 := by
    unfold hset; split
    · rfl
    · exact h0
  mod :=
    { dom := m.dom
      lt := fun id b z hp => by rw [hs]; exact m.lt id b z hp
      obj := fun j oj hj => by
        unfold hset at hj
        split at hj
        · cases hj
        · rename_i hne
          obtain ⟨b', z', ob, h1, h2, h3⟩ := m.obj j oj hj
          refine ⟨b', z', ob, h1, ?_, h3⟩
          rw [hw, if_neg]; · exact h2
          rintro rfl
          exact hne (m.inj j id oj o b' z' z hj ho h1 hp)
      inj := fun j j' o1 o2 b' z1 z2 h1 h2 p1 p2 => by
        unfold hset at h1 h2
        split at h1
        · cases h1
        · split at h2
          · cases h2
          · exact m.inj j j' o1 o2 b' z1 z2 h1 h2 p1 p2 }

theorem marks_ok {lo : Nat} {fn : Func} {tmps : Array Value} {R : Ending → World → Prop} : ∀ {ms : List Nat} {ds : List Deferred} {ρ : Rho} {st st2 : St} {w : World}, takeMarks lo ms st = some st2 → StMod ρ st w → lo ≤ st.c → DfRel ρ ms ds →
    (∀ w2, Ext lo ρ st.h.get st.c w ρ st2.h.get st2.c w2 → ∃ v, (results fn tmps).run P w2 = .ok v w2 ∧ R (.returned v) w2) → LeavesInM Fence.wide 0 P fn tmps R ds .returning w
  | [], ds, ρ, st, st2, w, h, m, hlo, hd, hR => by
    cases h; cases hd
    obtain ⟨v, h1, h2⟩ := hR w (Ext.refl m)
    exact ⟨v, h1, h2⟩
  | k :: ms, ds, ρ, st, st2, w, h, m, hlo, ⟨r, z, ds', hr, hds, hd⟩, hR => by
    subst hds
    have h' : (match st.h.get k with
      | some .deferred => bsel (Nat.ble lo k) (takeMarks lo ms (setH st k none)) none
      | _ => none) = some st2 := h
    clear h
    split at h'
    · rename_i hk
      obtain ⟨h1, h2⟩ := bsel_some h'
      have h1 := Nat.le_of_ble_eq_true h1
      obtain ⟨b, z', ob, q1, q2, q3⟩ := m.obj k _ hk
      rw [hr] at q1; cases q1
      have q3 : ob = .deferred (some []) := q3
      subst q3
      have hset := heapSet (ob' := .deferred none) q2
      have hx := Ext.killw (lo := lo) (w' := { w with heap := w.heap.setIfInBounds r (.deferred none) }) m h1 hk hr hset.1 hset.2
      rw [← put_eq] at hx
      refine ⟨by simp, .inl ⟨r, _, rfl, ?_, marks_ok h2 hx.mod hlo hd fun w2 q => hR w2 (hx.trans m q)⟩⟩
      simp [Instr.takeDeferred, run_getObj (P := P) (by simp) q2, run_setObj (P := P) (by simp) q2]
    · cases h'

theorem resOne_ok (hE : EnvOk P E) {ρ : Rho} {st : St} {w : World} {f : Fr} {a : Act} (m : StMod ρ st w) (hg : GlobOk ρ) (hf : FrOk ρ f a) {p : Bool × List CV} {rv : ResultVar} (h : resOne E f.regs st rv = some p) :
    ∃ v, (match rv with | .tmp t => pure (a.tmps.getD t undef) | .cell b t => do loadVar t (← asAddr (a.tmps.getD b undef)) : Sem Value).run P w = .ok v w ∧ PtRel ρ p v := by
  unfold resOne at h
  split at h
  · rename_i t
    obtain ⟨v, h1, h2⟩ := obind_some h
    exact ⟨_, rfl, (eval_rel hg hf _ _ h1).part h2⟩
  · rename_i t ty
    unfold resCell at h
    split at h
    · rename_i id off hav
      obtain ⟨ti, hti, h2⟩ := obind_some h
      obtain ⟨b, z, hb, hσ⟩ := eval_rel hg hf _ _ hav
      have hσ : a.tmps.getD t undef = .pointer (some ⟨b, off, none⟩) := hσ
      obtain ⟨⟨i, d, z', hi, hd, hz, hk, hsz, -⟩⟩ := hE.types _ _ hti
      have hag := isAggK_eq hk
      cases hb' : isAggK ti.k with
      | true =>
        rw [hb'] at h2 hag
        obtain ⟨l, hl, h3⟩ := obind_some h2
        cases h3
        obtain ⟨vs, h1, h2, h3⟩ := readN_run (P := P) m hl hb
        refine ⟨.agg vs.toArray, ?_, .inl ⟨rfl, _, rfl, h1⟩⟩
        simp [hσ, asAddr, loadVar, run_isAgg hd, ← hag, run_size w hi, hsz, h2]
      | false =>
        rw [hb'] at h2 hag
        obtain ⟨c, hc, h3⟩ := obind_some h2
        cases h3
        obtain ⟨u, h1, h2⟩ := read1_run (P := P) m hc hb
        refine ⟨u, ?_, .inr ⟨rfl, c, rfl, h1⟩⟩
        simp only [hσ, asAddr, loadVar, Sem.run_bind, Sem.run_pure, Result.andThen_ok, run_isAgg hd, ← hag, Bool.false_eq_true, if_false, h2]
    · cases h

theorem results_ok (hE : EnvOk P E) {ρ : Rho} {st : St} {w : World} {f : Fr} {a : Act} (m : StMod ρ st w) (hg : GlobOk ρ) (hf : FrOk ρ f a) : ∀ {rs : List ResultVar} {l : List (Bool × List CV)}, optAll (resOne E f.regs st) rs = some l →
    ∃ vs : List Value, (rs.mapM fun | .tmp t => pure (a.tmps.getD t undef) | .cell b t => do loadVar t (← asAddr (a.tmps.getD b undef)) : Sem (List Value)).run P w = .ok vs w ∧ PtsRel ρ l vs
  | [], l, h => by cases h; exact ⟨[], by simp, rfl⟩
  | r :: rs, l, h => by
    obtain ⟨y, ys, h1, h2, rfl⟩ := optAll_cons h
    obtain ⟨v, h3, h4⟩ := resOne_ok hE m hg hf h1
    obtain ⟨vs, h5, h6⟩ := results_ok hE m hg hf h2
    refine ⟨v :: vs, ?_, v, vs, rfl, h4, h6⟩
    simp only [List.mapM_cons, Sem.run_bind, h3, h5, Result.andThen_ok, Sem.run_pure]

theorem resultVal_ok {ρ : Rho} {l : List (Bool × List CV)} {vs : Array Value} {v : TV} (h : resultVal l = some v) (hr : PtsRel ρ l vs.toList) : TRel ρ v (if h : vs.size = 1 then vs[0] else .tuple vs) := by
  unfold resultVal at h
  split at h
  · rename_i p
    obtain ⟨y, ys, e, h1, h2⟩ := hr
    cases h2
    have e' : vs = #[y] := by
      apply Array.ext'; exact e
    subst e'
    exact h1.ofPart h
  · rename_i hne
    cases h
    have : ¬ vs.size = 1 := by
      intro hs
      have : l.length = 1 := by
        have : ∀ {l : List (Bool × List CV)} {m : List Value}, PtsRel ρ l m → m.length = l.length := by
          intro l
          induction l with
          | nil => intro m r; cases r; rfl
          | cons x xs ih => intro m ⟨y, ys, e, _, r⟩; subst e; simp [ih r]
        rw [← this hr]; simpa using hs
      match l, this with
      | [p], _ => exact hne p rfl
    rw [dif_neg this]
    exact ⟨vs, rfl, hr⟩

/-- the calls that are granted -/
def SumSound (P : Program) (E : Env) : Prop := ∀ f g, E.sums f = some g → CallSound P (fun lo f' args st => if f' = f then g lo args st else none)

theorem sBody_ok (hP : ProgOk P E) {e : Ev} (hcode : CodeSound P e.code) : CallSound P (sBody E e) := by
  intro lo f args st v st' ρ w as h m hlo hg ha
  unfold sBody at h
  obtain ⟨fn, hfn, h1⟩ := obind_some h
  clear h
  obtain ⟨h2, h3⟩ := bsel_some h1
  clear h1
  have h2 := Nat.le_of_ble_eq_true h2
  rw [lenC_eq] at h2
  obtain ⟨g, hg1, hg2, hg3, hg4⟩ := hP.env.fns f fn hfn
  refine ⟨⟨g, hg1, by rw [hg2]; rfl⟩, (callsIn_wide (n := 0)).1 (callsIn_of_wp_marks hg1 hg2 trivial ?_)⟩
  have hlen : as.size = args.length := by have := ha.length; simpa using this
  have hf0 : FrOk ρ ⟨⟨[], T.ofList args 0 .nil⟩, fn.n, Nat.lor fn.esc (Nat.sub (Nat.shiftLeft 1 (lenC args)) 1), []⟩ { tmps := as ++ Array.replicate (g.ntmps - as.size) undef, defers := [] } := by
    have key : ∀ t u, (T.ofList args 0 (.nil : T TV)).get t = some u → args[t]? = some u := fun t u hu => by
      rw [T.get_ofList] at hu
      split at hu
      · simpa using hu
      · cases hu
    refine ⟨?_, ?_, ?_, rfl⟩
    · simp [hg3]; omega
    · intro t u hu
      obtain ⟨y, hy, hr⟩ := ha.get (key t u hu)
      refine ⟨y, ?_, hr⟩
      have hy : as[t]? = some y := by simpa using hy
      rw [Array.getElem?_append_left (Array.getElem?_eq_some_iff.1 hy).1]
      exact hy
    · intro t u hu
      have ht : t < args.length := (List.getElem?_eq_some_iff.1 (key t u hu)).1
      rw [bit_eq, lenC_eq]
      show (fn.esc ||| ((1 <<< args.length) - 1)).testBit t = true
      rw [Nat.testBit_or, Nat.shiftLeft_eq, Nat.one_mul, Nat.testBit_two_pow_sub_one]
      simp [ht]
  unfold callBody at h3
  split at h3
  · rename_i x fr st1 hr
    have hw := hcode hr m hlo hg hf0 (show RdRel ρ none none from rfl)
    have fin : ∀ (a' : Act) (w' : World) (ρ' : Rho), FrOk ρ' fr a' → Ext lo ρ st.h.get st.c w ρ' st1.h.get st1.c w' → x = .normal ∨ x = .ret → LeavesInM Fence.wide 0 P g a'.tmps (CallRes lo ρ st w v st') a'.defers .returning w' := by
      intro a' w' ρ' hf' hx hxx
      have h4 : Fr.rec (fun regs _ _ marks => obind (takeMarks lo marks st1) fun st2 => obind (optAll (resOne E regs st2) fn.results) fun l => obind (resultVal l) fun v => some (v, st2)) fr = some (v, st') := by
        rcases hxx with rfl | rfl <;> exact h3
      cases fr with
      | mk regs n esc marks =>
        obtain ⟨st2, h5, h6⟩ := obind_some (show obind (takeMarks lo marks st1) (fun st2 => obind (optAll (resOne E regs st2) fn.results) fun l => obind (resultVal l) fun v => some (v, st2)) = some (v, st') from h4)
        obtain ⟨l, h7, h8⟩ := obind_some h6
        obtain ⟨v', h9, h10⟩ := obind_some h8
        cases h10
        have hle := hx.le m
        refine marks_ok h5 hx.mod (Nat.le_trans hlo hx.cc) hf'.df fun w2 hx2 => ?_
        have hf2 : FrOk ρ' ⟨regs, n, esc, marks⟩ a' := hf'
        obtain ⟨vs, g1, g2⟩ := results_ok hP.env (f := ⟨regs, n, esc, marks⟩) hx2.mod (hg.mono hle) hf2 h7
        refine ⟨_, ?_, ρ', resultVal_ok (vs := vs.toArray) h9 (by simpa using g2), hx.trans m hx2⟩
        rw [← hg4] at g1
        simp only [results, Array.mapM_eq_mapM_toList, Sem.run_bind, Sem.run_map]
        erw [g1]
        simp only [Result.andThen_ok, Sem.run_pure]
    refine wpIn_mono hw fun ex a' w' hp => ?_
    obtain ⟨p1, ρ', p2, p3⟩ := hp
    cases x with
    | normal =>
      cases ex <;> simp only [ExRel] at p1
      exact fin a' w' ρ' p2 p3 (.inl rfl)
    | ret =>
      cases ex <;> simp only [ExRel] at p1
      exact fin a' w' ρ' p2 p3 (.inr rfl)
    | exit id => cases h3
  · cases h3

theorem sCall_ok (hP : ProgOk P E) (hS : SumSound P E) {e : Ev} (hcode : CodeSound P e.code) : CallSound P (sCall E e) := by
  intro lo f args st v st' ρ w as h m hlo hg ha
  unfold sCall at h
  cases hs : E.sums f with
  | some g =>
    rw [hs] at h
    have h : oelse (g lo args st) (sBody E e lo f args st) = some (v, st') := h
    cases hq : g lo args st with
    | none =>
      rw [hq] at h
      exact sBody_ok hP hcode h m hlo hg ha
    | some r =>
      rw [hq] at h
      have h : some r = some (v, st') := h
      exact hS f g hs (lo := lo) (by show (if f = f then g lo args st else none) = _; rw [if_pos rfl, hq]; exact h) m hlo hg ha
  | none =>
    rw [hs] at h
    exact sBody_ok hP hcode h m hlo hg ha

/-! ### All of it -/
structure EvSound (P : Program) (n : Nat) (e : Ev) : Prop where
  call : CallSound P e.call
  code : CodeSound P e.code
  loop : LoopSound P n e.code
  yield : YieldSound P e.yield
theorem run_sound (hP : ProgOk P E) (hS : SumSound P E) (hD : DrawSound P E) : ∀ n, EvSound P n (run E n)
  | 0 => ⟨fun h => (by cases h), fun h => (by cases h), fun h => (by cases h), fun h => (by cases h)⟩
  | n + 1 => by
    have ih := run_sound hP hS hD n
    have hc := sCode_ok hP hD ih.call ih.code ih.loop ih.yield (fun h m hlo hg hf hrd => cRange_ok hP ih.call h m hlo hg hf hrd)
    exact ⟨sCall_ok hP hS ih.code, hc.1, hc.2, sYield_ok ih.code⟩
end Go.Abs
