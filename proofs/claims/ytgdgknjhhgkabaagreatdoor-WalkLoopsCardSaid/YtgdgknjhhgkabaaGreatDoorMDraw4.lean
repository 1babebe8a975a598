/- Regions that draw: one operation, all of them. -/
import Derived.Test.YtgdgknjhhgkabaaGreatDoorMDraw3
set_option linter.unusedVariables false
set_option linter.unusedSimpArgs false
namespace Go.Abs
variable {P : Program} {E : Env}

theorem isSlK_eq {k : AK} (h : isSlK k = true) : ∃ e, k = .sl e := by
  cases k <;> first | exact ⟨_, rfl⟩ | cases h
/-- what looks at one object alone does so whatever the next id is -/
theorem ld_any {lo1 lo2 c1 c2 : Nat} {h : T AO} {ev : Operand → Option TV} {op : Op} {v : TV} {st' : St} (hl : isLd E op = true) (hv : amem E lo1 ev ⟨h, c1⟩ op = some (v, st')) : amem E lo2 ev ⟨h, c2⟩ op = some (v, ⟨h, c2⟩) := by
  cases op <;> try (cases hl; done)
  case load t a =>
    have hv : aLoad E ⟨h, c1⟩ t (ev a) = some (v, st') := hv
    show aLoad E ⟨h, c2⟩ t (ev a) = some (v, ⟨h, c2⟩)
    unfold aLoad at hv ⊢
    split at hv
    · rename_i id off hav
      obtain ⟨ti, hti, h2⟩ := obind_some hv
      rw [hti]
      show bsel (isAggK ti.k) (obind (readN ⟨h, c2⟩ id off ti.size) fun l => some (TV.agg l, (⟨h, c2⟩ : St))) (obind (read1 ⟨h, c2⟩ id off) fun v => some (.one v, ⟨h, c2⟩)) = _
      cases hb : isAggK ti.k with
      | true =>
        rw [hb] at h2
        obtain ⟨l, h3, h4⟩ := obind_some h2
        cases h4
        rw [show readN ⟨h, c2⟩ id off ti.size = some l from h3]; rfl
      | false =>
        rw [hb] at h2
        obtain ⟨l, h3, h4⟩ := obind_some h2
        cases h4
        rw [show read1 ⟨h, c2⟩ id off = some l from h3]; rfl
    · cases hv
  case convert s d x =>
    have hv : aConvS E ⟨h, c1⟩ s d (ev x) = some (v, st') := hv
    show aConvS E ⟨h, c2⟩ s d (ev x) = some (v, ⟨h, c2⟩)
    unfold aConvS at hv ⊢
    obtain ⟨tv, h1, h2⟩ := obind_some hv
    obtain ⟨cv, h3, h4⟩ := obind_some h2
    obtain ⟨ts, h5, h6⟩ := obind_some h4
    obtain ⟨td, h7, h8⟩ := obind_some h6
    have hl : isSlK ts.k = true := by
      have : (Option.rec false (fun ts => isSlK ts.k) (E.types s) : Bool) = true := hl
      rw [h5] at this; exact this
    obtain ⟨e, he⟩ := isSlK_eq hl
    rw [h1]
    show (obind (TV.toOne tv) fun v => obind (E.types s) fun ts => obind (E.types d) fun td => _) = _
    rw [h3]
    show (obind (E.types s) fun ts => obind (E.types d) fun td => _) = _
    rw [h5]
    show (obind (E.types d) fun td => _) = _
    rw [h7]
    clear hv h2 h4 h6
    have conv : ∀ {b : Bool} {k : AK} {x : CV}, convSl ⟨h, c1⟩ b k x = some (v, st') → convSl ⟨h, c2⟩ b k x = some (v, ⟨h, c2⟩) := by
      intro b k x hc
      have ts : ∀ {id off len : Nat}, toStr ⟨h, c1⟩ id off len = some (v, st') → toStr ⟨h, c2⟩ id off len = some (v, ⟨h, c2⟩) := by
        intro id off len ht
        obtain ⟨l, g1, g2⟩ := obind_some ht
        obtain ⟨s, g3, g4⟩ := obind_some g2
        cases g4
        unfold toStr
        rw [show readN ⟨h, c2⟩ id off len = some l from g1]
        show (obind (bytesOf l) fun s => some (TV.one (.str s), (⟨h, c2⟩ : St))) = _
        rw [g3]; rfl
      unfold convSl at hc ⊢
      split at hc
      · cases hc; rfl
      · cases hc; rfl
      · exact ts hc
      · exact ts hc
      · obtain ⟨g1, g2⟩ := bsel_some hc
        rw [g1]
        simp only [bsel_true] at g2 ⊢
        split at g2
        · cases g2; rfl
        · cases g2
      · cases hc
    cases cv <;> simp only [obind, he] at h8 ⊢ <;> first
      | (cases h8; done)
      | (cases hte : E.types e with
         | none => rw [hte] at h8; cases h8
         | some te =>
           rw [hte] at h8
           obtain ⟨g1, g2⟩ := bsel_some h8
           simp only [g1, bsel_true]
           exact conv g2)

/-- what a store or a copy changes -/
theorem writeN_get {lo : Nat} {st st' : St} {id off n : Nat} {l : List CV} (h : writeN lo st id off l n = some st') : ∀ j, j ≠ id → st'.h.get j = st.h.get j := by
  intro j hj
  unfold writeN at h
  cases n with
  | zero => cases h; rfl
  | succ n =>
    simp only [] at h
    split at h
    · obtain ⟨h1, h2⟩ := bsel_some h
      obtain ⟨h2, h3⟩ := bsel_some h2
      cases h3
      cases st with
      | mk hh c =>
        show (hh.put id _).get j = hh.get j
        rw [T.get_put, if_neg hj]
    · cases h
theorem heavy_wr {e : Ev} {lo : Nat} {ev : Operand → Option TV} {st st' : St} {op : Op} {v : TV} {W : Nat} (hw : wrId ev op = some W) (h : heavyStep E e lo ev st op = some (v, st')) : ∀ j, j ≠ W → st'.h.get j = st.h.get j := by
  unfold wrId at hw
  split at hw
  · rename_i t a x
    split at hw
    · rename_i id off ha
      cases hw
      have h : aStore E lo st t (ev a) (ev x) = some (v, st') := h
      rw [ha] at h
      unfold aStore at h
      simp only [] at h
      obtain ⟨xv, h1, h2⟩ := obind_some h
      obtain ⟨cs, h3, h4⟩ := obind_some h2
      obtain ⟨ti, h5, h6⟩ := obind_some h4
      obtain ⟨h7, h8⟩ := bsel_some h6
      obtain ⟨st2, h9, h10⟩ := obind_some h8
      cases h10
      exact writeN_get h9
    · cases hw
  · rename_i c
    split at hw
    · rename_i hcal
      have h : callOp E e lo ev c st = some (v, st') := h
      unfold callOp at h
      obtain ⟨args, h1, h2⟩ := obind_some h
      rw [h1] at hw
      rw [hcal] at h2
      replace h2 : abuiltin E lo .copy c.argTypes.toList args st = some (v, st') := h2
      have copy : ∀ {sz id off dl n : Nat} {new : List CV}, copyTo lo st sz id off dl n new = some (v, st') → ∀ j, j ≠ id → st'.h.get j = st.h.get j := by
        intro sz id off dl n new hc
        obtain ⟨st2, g1, g2⟩ := obind_some hc
        cases g2
        exact writeN_get g1
      split at hw
      · rename_i id off len cap x2 hargs
        cases hw
        cases hargs
        unfold abuiltin at h2
        split at h2 <;> rename_i heq <;> first | cases heq | skip
        all_goals first | (cases h2; done) | skip
        all_goals try (rename_i hb _ _; cases hb; done)
        all_goals try (rename_i hb _; cases hb; done)
        all_goals try (rename_i hb; cases hb; done)
        all_goals
          unfold bCopy at h2
          obtain ⟨ti, g1, g2⟩ := obind_some h2
          split at g2
          · obtain ⟨te, g3, g4⟩ := obind_some g2
            obtain ⟨n, new, g5, g6⟩ := ob2_some g4
            exact copy g6
          · cases g2
      · rename_i id off len cap es x2 hargs
        cases hw
        cases hargs
        unfold abuiltin at h2
        split at h2 <;> rename_i heq <;> first | cases heq | skip
        all_goals first | (cases h2; done) | skip
        all_goals try (rename_i hb _ _; cases hb; done)
        all_goals try (rename_i hb _; cases hb; done)
        all_goals try (rename_i hb; cases hb; done)
        all_goals
          unfold bCopy at h2
          obtain ⟨ti, g1, g2⟩ := obind_some h2
          split at g2
          · obtain ⟨te, g3, g4⟩ := obind_some g2
            obtain ⟨n, new, g5, g6⟩ := ob2_some g4
            exact copy g6
          · cases g2
      · cases hw
    · cases hw
  · cases hw

theorem wp_of_op {r : Option Nat} {o : Oper} {a : Act} {w w' : World} {x : Value} {K : Act → World → Prop} {Q : Exit → Act → World → Prop} (hd : ∀ c, o.op ≠ .defer c) (h : OpOk P (execOp a.eval o) w x w') (hK : K (a.put o.dst x) w') : o.wpIn (Fw r) 0 P a w K Q := by
  refine ⟨fun _ _ => trivial, ?_⟩
  rw [show (Fw r).round = r from rfl, Oper.semAt_eq r a.eval o hd]
  rcases h with h1 | ⟨h1, rfl⟩
  · rw [h1]; exact hK
  · rw [h1]; exact hK

theorem wanted_looks {l : List Oper} {f : Fr} {a : Act} {ops : Array Oper} {o : Oper} {b : Bool} {ρ : Rho} (hl : ops.toList = l) (h : ∀ t u, t ∈ looks l o → f.regs.get t = some u → ∃ x, a.tmps[t]? = some x ∧ TRel ρ u x)
    (hw : wantedA l f.regs o = some b) : Region.wanted o (yielded ops a.tmps) = b := by
  subst hl
  unfold wantedA at hw
  unfold Region.wanted
  cases hg : o.guard with
  | none => rw [hg] at hw; cases hw; rfl
  | some g =>
    obtain ⟨j, want⟩ := g
    rw [hg] at hw
    have hw : Option.rec (some false) (fun t => boolAt f.regs t want) (obind (nthC ops.toList j) Oper.dst) = some b := hw
    have hy : yielded ops a.tmps j = match (obind (nthC ops.toList j) Oper.dst).bind (a.tmps[·]?) with | some (.bool b) => some b | _ => none := by
      unfold yielded
      rw [nthC_eq, Array.getElem?_toList]
      cases ops[j]? <;> rfl
    simp only
    rw [hy]
    cases hd : obind (nthC ops.toList j) Oper.dst with
    | none => rw [hd] at hw; cases hw; rfl
    | some t =>
      rw [hd] at hw
      have hw : boolAt f.regs t want = some b := hw
      have ht : t ∈ looks ops.toList o := by
        unfold looks
        rw [appC_eq]
        refine List.mem_append_right _ ?_
        unfold guardOf
        rw [hg]
        show t ∈ (Option.rec [] (fun t => [t]) (obind (nthC ops.toList j) Oper.dst) : List Nat)
        rw [hd]
        exact List.mem_singleton.2 rfl
      unfold boolAt at hw
      split at hw
      · rename_i c hc
        cases hw
        obtain ⟨x, hx, hr⟩ := h t _ ht hc
        have hr : x = .bool c := hr
        subst hr
        simp [hx]
      · rename_i hc
        cases hw
        obtain ⟨x, hx, y, rfl, hr⟩ := h t _ ht hc
        simp [hx]
      · cases hw

theorem evO_rel {l : List Oper} {f : Fr} {a : Act} {o : Oper} {ρ : Rho} (hg : GlobOk ρ) (h : ∀ t u, t ∈ looks l o → f.regs.get t = some u → ∃ x, a.tmps[t]? = some x ∧ TRel ρ u x) : EvRel ρ (evO o f) a.eval := by
  intro x v hv
  cases x with
  | tmp t =>
    obtain ⟨h1, h2⟩ := bsel_some (show bsel (memN t (tmpsO o)) (f.regs.get t) none = some v from hv)
    obtain ⟨y, hy, hr⟩ := h t v (by unfold looks; rw [appC_eq]; exact List.mem_append_left _ (memN_iff.1 h1)) h2
    show TRel ρ v (a.tmps.getD t undef)
    rw [Array.getD_eq_getD_getElem?, hy]; exact hr
  | const c => exact ofValue_rel hv
  | global g =>
    obtain ⟨h1, h2⟩ := bsel_some (show bsel (Nat.blt g globN) (some (TV.one (.ptr g 0))) none = some v from hv)
    cases h2
    obtain ⟨z, hz⟩ := hg g (blt_lt h1)
    exact ⟨g, z, hz, rfl⟩
  | func f => cases hv; exact ⟨#[], #[], rfl, rfl, rfl⟩

section
variable {e : Ev} {lo c0 : Nat} {h0 : T AO} {f0 : Fr} {l : List Oper} {ms : List Nat} {D : Nat → DS} {ev : Nat → Evt} {v : Nat → TV} {a0 a : Act} {ρ0 ρ ρ' : Rho} {w0 w w' : World} {S : Nat → Prop} {G : Nat → Option AO} {q i : Nat}

theorem op_any (hP : ProgOk P E) (hC : CallSound P e.call) (hY : YieldSound P e.yield) {ops : Array Oper} (hl : ops.toList = l) {Q : Exit → Act → World → Prop} (r : Option Nat) (T : Tr E e lo c0 h0 f0 l ms D ev v) (m0 : Mod ρ0 h0.get c0 w0) (hg0 : GlobOk ρ0) (hlo : lo ≤ c0)
    (I : InvAt lo c0 h0 f0 l ms D ev v a0 ρ0 w0 S a w ρ G q) (rd : Rd l ms S i) {K : Act → World → Prop} (hK : ∀ a' w' ρ' G' q', InvAt lo c0 h0 f0 l ms D ev v a0 ρ0 w0 (fun j => S j ∨ j = i) a' w' ρ' G' q' → K a' w') :
    wpOpIn (Fw r) 0 P ops Q i K a w := by
  obtain ⟨o, m, s, ho, hm, hs⟩ := T.at rd.lt
  have ho' : ops[i]? = some o := by rw [← Array.getElem?_toList, hl]; exact ho
  have hg := hg0.mono (I.ext.le m0)
  have read : ∀ t u, t ∈ looks l o → (D i).f.regs.get t = some u → ∃ x, a.tmps[t]? = some x ∧ TRel ρ u x := fun t u ht hu => I.reg.read T rd ho ht hu
  have he := evO_rel hg read
  have hcq : c0 ≤ (D q).c := by have := (I.good q (Nat.le_refl _)).room; omega
  unfold wpOpIn
  rw [ho']
  simp only []
  generalize hD : D i = d at hs read he
  generalize hD' : D (i + 1) = d' at hs
  generalize hev : ev i = evi at hs
  generalize hvi : v i = vi at hs
  cases hs with
  | off hw hp =>
    rw [wanted_looks hl read hw]
    rw [if_neg (by simp)]
    exact ⟨fun _ _ => trivial, hK _ _ _ _ _ (I.calmStep T m0 rd ho ⟨by rw [hev]; simp, by rw [hev]; simp⟩ (by rw [hvi]; exact undef_rel ρ) (Ext.refl I.ext.mod))⟩
  | pure hw hv hp =>
    rw [wanted_looks hl read hw, if_pos rfl]
    obtain ⟨x, h2, h3⟩ := apure_run hP.env he w hv
    exact wp_of_op (fun c hc => by rw [hc] at hv; cases hv) (.inl h2) (hK _ _ _ _ _ (I.calmStep T m0 rd ho ⟨by rw [hev]; simp, by rw [hev]; simp⟩ (by rw [hvi]; exact h3) (Ext.refl I.ext.mod)))
  | lay hw hv hp =>
    rw [wanted_looks hl read hw, if_pos rfl]
    obtain ⟨x, w', obj, z, h1, h2, h3, h4⟩ := alaid_ok hP.env w he hv
    exact wp_of_op (fun c hc => by rw [hc] at hv; cases hv) h1 (hK _ _ _ _ _ (I.layStep T hlo rd ho hev (by rw [hvi]; exact h4 _ _ (set_self _ _ _)) h3 h2))
  | ld0 hw hld hv hp =>
    rw [wanted_looks hl read hw, if_pos rfl]
    have hv2 := ld_any (lo2 := lo) (c2 := (D q).c) hld hv
    have hsub : ∀ id o, (⟨.nil, (D q).c⟩ : St).h.get id = some o → G id = some o := fun id o h => by cases h
    obtain ⟨ρ', w', x, h1, h2, h3⟩ := amem_run hP.env (st := ⟨.nil, (D q).c⟩) (I.ext.mod.sub hsub) (Nat.le_trans hlo hcq) he hv2
    have h4 := Ext.frameRule I.ext.mod hsub h3
    have hj : join G (⟨.nil, (D q).c⟩ : St).h.get (⟨.nil, (D q).c⟩ : St).h.get = G := funext fun id => by
      rcases join_cases G (⟨.nil, (D q).c⟩ : St).h.get (⟨.nil, (D q).c⟩ : St).h.get id with ⟨_, o2, h5, h6⟩ | ⟨h5, h6⟩
      · rw [h6, h5]
      · rw [h6]
        rcases h5 with h5 | h5
        · exact absurd rfl h5
        · rw [h5]; rfl
    rw [hj] at h4
    exact wp_of_op (fun c hc => by rw [hc] at hv; cases hv) h1 (hK _ _ _ _ _ (I.calmStep T m0 rd ho ⟨by rw [hev]; simp, by rw [hev]; simp⟩ (by rw [hvi]; exact h2) h4))
  | @ld f f' h c pend als lds cs v' st' a' ob hw hld hsn hv hp =>
    rw [wanted_looks hl read hw, if_pos rfl]
    have hv2 := ld_any (lo2 := lo) (c2 := (D q).c) hld hv
    have hseen := I.seen T rd hm hev (by rw [hD]; exact hsn)
    have hsub : ∀ id o, (⟨Go.Abs.T.nil.put a' (some ob), (D q).c⟩ : St).h.get id = some o → G id = some o := fun id o h => by
      replace h : ((Go.Abs.T.nil.put a' (some ob) : Go.Abs.T AO)).get id = some o := h
      rw [Go.Abs.T.get_put] at h
      split at h
      · rename_i e1; subst e1; cases h; exact hseen
      · cases h
    obtain ⟨ρ', w', x, h1, h2, h3⟩ := amem_run hP.env (st := ⟨Go.Abs.T.nil.put a' (some ob), (D q).c⟩) (I.ext.mod.sub hsub) (Nat.le_trans hlo hcq) he hv2
    have h4 := Ext.frameRule I.ext.mod hsub h3
    have hj : join G (⟨Go.Abs.T.nil.put a' (some ob), (D q).c⟩ : St).h.get (⟨Go.Abs.T.nil.put a' (some ob), (D q).c⟩ : St).h.get = G := funext fun id => by
      rcases join_cases G (⟨Go.Abs.T.nil.put a' (some ob), (D q).c⟩ : St).h.get (⟨Go.Abs.T.nil.put a' (some ob), (D q).c⟩ : St).h.get id with ⟨_, o2, h5, h6⟩ | ⟨h5, h6⟩
      · rw [h6, h5]
      · rw [h6]
        cases hh : (⟨Go.Abs.T.nil.put a' (some ob), (D q).c⟩ : St).h.get id with
        | some o2 => exact (hsub id o2 hh).symm
        | none =>
          rcases h5 with h5 | h5
          · exact absurd hh h5
          · exact h5.symm
    rw [hj] at h4
    exact wp_of_op (fun c hc => by rw [hc] at hv; cases hv) h1 (hK _ _ _ _ _ (I.calmStep T m0 rd ho ⟨by rw [hev]; simp, by rw [hev]; simp⟩ (by rw [hvi]; exact h2) h4))
  | @hv f f' h c pend als lds cs v' h' c' lo' k hw hla hk hv hp =>
    rw [wanted_looks hl read hw, if_pos rfl]
    have hci : isC l ev i := ⟨rd.lt, k, hev⟩
    have I2 := I.move T (q' := i) (Nat.le_of_lt rd.lt) fun x hx => by
      rw [← I.hq x hx]
      constructor
      · intro hS
        rcases Nat.lt_trichotomy x i with h | h | h
        · exact h
        · subst h; exact absurd hS rd.not
        · exact absurd (rd.clos x i hS (T.chain hci x h hx)) rd.not
      · intro h; exact rd.go x (T.chain hx i h hci)
    have hc0 : c0 ≤ (D i).c := by have := (I2.good i (Nat.le_refl _)).room; omega
    have hloc : lo ≤ lo' ∧ lo' ≤ (D i).c := by
      rcases cKind_spec hk with ⟨rfl, _⟩ | ⟨rfl, _⟩ | ⟨W, _, rfl, _⟩
      · exact ⟨Nat.le_refl _, by omega⟩
      · rw [hD]; rw [hD] at hc0; exact ⟨Nat.le_trans hlo hc0, Nat.le_refl _⟩
      · exact ⟨Nat.le_refl _, by omega⟩
    have hr : hrOf c0 ms D i = addPend c0 (pendIn m pend) h := by unfold hrOf; rw [hm, hD]
    have hDc : (D i).c = c := by rw [hD]
    have hDh : (D (i + 1)).h = h' ∧ (D (i + 1)).c = c' := by rw [hD']; exact ⟨rfl, rfl⟩
    have hmod : StMod ρ ⟨addPend c0 (pendIn m pend) h, c⟩ w := by
      have := I2.ext.mod.sub (I2.hr_sub T rd)
      rw [hr, hDc] at this
      exact this
    refine heavy_ok hP hC hY hmod (by rw [← hDc]; exact hloc.2) hg he hv r _ _ fun ρ' w' x h1 h2 => hK _ _ _ _ _ (I2.hvStep T m0 rd ho hev hloc.1 (by rw [hvi]; exact h1) (by rw [hr, hDc, hDh.1, hDh.2]; exact h2) fun id hid hwk => ?_)
    rw [hr, hDh.1]
    rcases cKind_spec hk with ⟨_, rfl, _⟩ | ⟨rfl, rfl⟩ | ⟨W, hW, _, rfl, _⟩
    · cases hwk
    · rw [hDc] at hid; exact h2.low id hid
    · exact heavy_wr hW hv id (wrOk_ne hwk)

theorem base_inv (T : Tr E e lo c0 h0 f0 l ms D ev v) (m0 : Mod ρ0 h0.get c0 w0) (hf : FrOk ρ0 f0 a0) (hw : w.heap = w0.heap) (hw2 : World.env2 w = World.env2 w0) : InvAt lo c0 h0 f0 l ms D ev v a0 ρ0 w0 (fun _ => False) a0 w ρ0 h0.get 0 := by
  have e1 := T.start
  have m1 := m0.heap hw
  have hdead : ∀ j, h0.get (c0 + j) = none := fun j => by
    cases hh : h0.get (c0 + j) with
    | none => rfl
    | some o => have := m0.ltc hh; omega
  exact
  { reg := ⟨hf.size, rfl, fun t j h => h.elim, fun t u _ hu => hf.reg t u (by cases hr : f0.regs with | mk loc base => rw [hr] at hu; exact hu)⟩
    qle := Nat.zero_le _
    hq := fun i _ => ⟨fun h => h.elim, fun h => by omega⟩
    ext := by
      rw [e1]
      exact ⟨Nat.le_add_right _ _, fun _ _ => rfl, ⟨fun id hid => m1.dom id (by have : c0 + l.length ≤ id := hid; omega), m1.lt, m1.obj, m1.inj⟩, by rw [hw]; exact Nat.le_refl _, fun id b z hc hp => (by rw [m0.dom id hc] at hp; cases hp),
        fun _ _ _ => by rw [hw], fun _ _ => rfl, fun _ _ h => h, hw2⟩
    g1 := fun id o h => by rw [e1] at h; exact h
    g2 := fun j ob h => h.elim
    g3 := fun id o h => .inl (by rw [e1]; exact h)
    g5 := fun j _ _ => m0.dom _ (by omega)
    good := fun p hp => by
      have : p = 0 := by omega
      subst this
      refine ⟨fun j _ _ => by rw [e1]; exact hdead j, by rw [e1]; exact Nat.le_refl _, fun id o h => ?_, fun x k hx => by omega⟩
      rw [e1] at h ⊢
      have := m0.ltc h
      show id < c0 + l.length
      omega }

theorem count_set (l : List Bool) : ∀ i, l[i]? = some false → (l.set i true).count false + 1 = l.count false := by
  induction l with
  | nil => intro i h; simp at h
  | cons x l ih =>
    intro i h
    cases i with
    | zero => simp at h; subst h; simp
    | succ i =>
      have := ih i (by simpa using h)
      cases x <;> simp at this ⊢ <;> omega
theorem count_pos {l : List Bool} {i : Nat} (h : l[i]? = some false) : 0 < l.count false := by
  rw [List.count_pos_iff]; exact List.mem_of_getElem? h

theorem draw_any (hP : ProgOk P E) (hC : CallSound P e.call) (hY : YieldSound P e.yield) {ops : Array Oper} (hl : ops.toList = l) {Q : Exit → Act → World → Prop} (r : Option Nat) (T : Tr E e lo c0 h0 f0 l ms D ev v) (m0 : Mod ρ0 h0.get c0 w0) (hg0 : GlobOk ρ0) (hlo : lo ≤ c0)
    (hQ : ∀ a w ρ G q, InvAt lo c0 h0 f0 l ms D ev v a0 ρ0 w0 (fun j => j < l.length) a w ρ G q → Q .normal a w) :
    ∀ (fuel : Nat) (listed : Array Bool) (a : Act) (w : World) (ρ : Rho) (G : Nat → Option AO) (q : Nat), listed.size = l.length → listed.toList.count false ≤ fuel →
      (∀ i o, listed.getD i false = true → l[i]? = some o → ∀ ed ∈ o.after, bindsE ed = true → listed.getD ed.on false = true) →
      InvAt lo c0 h0 f0 l ms D ev v a0 ρ0 w0 (fun j => listed.getD j false = true) a w ρ G q → wpAnyIn (Fw r) 0 P .any ops Q fuel listed a w := by
  have done : ∀ (listed : Array Bool) (a : Act) (w : World) (ρ : Rho) (G : Nat → Option AO) (q : Nat), listed.size = l.length → Region.ready .any ops listed = [] →
      InvAt lo c0 h0 f0 l ms D ev v a0 ρ0 w0 (fun j => listed.getD j false = true) a w ρ G q → Q .normal a w := by
    intro listed a w ρ G q hsz hr I
    have all : ∀ j, j < l.length → listed.getD j false = true := by
      intro j
      induction j using Nat.strongRecOn with
      | ind j ih =>
        intro hj
        cases hb : listed.getD j false with
        | true => rfl
        | false =>
          exfalso
          have hjs : j < listed.size := by omega
          have : j ∈ Region.ready .any ops listed := by
            rw [mem_ready]
            refine ⟨?_, l[j], ?_, fun ed he hbind => ?_⟩
            · rw [Array.getD_eq_getD_getElem?] at hb ⊢
              simpa [hjs] using hb
            · rw [← Array.getElem?_toList, hl]; exact List.getElem?_eq_getElem hj
            · rw [bindsE_eq] at hbind
              have hjm : j < ms.length := by rw [T.msk.len]; exact hj
              have := (T.msk.edge j _ _ (List.getElem?_eq_getElem hjm) (List.getElem?_eq_getElem hj) ed he hbind).1
              exact ih _ this (by omega)
          rw [hr] at this; cases this
    have hS : (fun j => listed.getD j false = true) = fun j => j < l.length := funext fun j => propext ⟨fun h => (by
      rcases Nat.lt_or_ge j l.length with hlt | hge
      · exact hlt
      · rw [Array.getD_eq_getD_getElem?, Array.getElem?_eq_none (by omega)] at h; cases h), all j⟩
    rw [hS] at I
    exact hQ a w ρ G q I
  intro fuel
  induction fuel with
  | zero =>
    intro listed a w ρ G q hsz hcnt hcl I
    have hr : Region.ready .any ops listed = [] := by
      cases hr : Region.ready .any ops listed with
      | nil => rfl
      | cons j _ =>
        have hj : j ∈ Region.ready .any ops listed := by rw [hr]; exact List.mem_cons_self
        obtain ⟨h1, _⟩ := mem_ready.1 hj
        have hjs : j < listed.size := by
          rcases Nat.lt_or_ge j listed.size with hlt | hge
          · exact hlt
          · rw [Array.getD_eq_getD_getElem?, Array.getElem?_eq_none hge] at h1; cases h1
        have : listed.toList[j]? = some false := by
          rw [Array.getElem?_toList]
          rw [Array.getD_eq_getD_getElem?] at h1
          simpa [hjs] using h1
        have := count_pos this
        omega
    exact ⟨hr, done listed a w ρ G q hsz hr I⟩
  | succ fuel ih =>
    intro listed a w ρ G q hsz hcnt hcl I
    refine ⟨fun hr => done listed a w ρ G q hsz hr I, fun i hi => ?_⟩
    obtain ⟨h1, o, ho, hall⟩ := mem_ready.1 hi
    have ho' : l[i]? = some o := by rw [← hl, Array.getElem?_toList]; exact ho
    have hil := (List.getElem?_eq_some_iff.1 ho').1
    have his : i < listed.size := by omega
    have hli : listed[i]? = some false := by
      rw [Array.getD_eq_getD_getElem?] at h1
      simpa [his] using h1
    have hmi : ms[i]? = some (ms[i]'(by rw [T.msk.len]; exact hil)) := List.getElem?_eq_getElem _
    have hed : ∀ ed ∈ o.after, bindsE ed = true → listed.getD ed.on false = true := fun ed he hb => hall ed he (by rw [bindsE_eq]; exact hb)
    have rd : Rd l ms (fun j => listed.getD j false = true) i := by
      refine ⟨hil, ?_, fun j hb => ?_, fun i' j hS hb => ?_, fun j hS => ?_⟩
      · show ¬ (listed.getD i false = true)
        rw [Array.getD_eq_getD_getElem?, hli]; simp
      · obtain ⟨m, hm, hbit⟩ := hb
        exact T.msk.clos (fun j => listed.getD j false = true) hcl i m o j ho' hm hed hbit
      · obtain ⟨m, hm, hbit⟩ := hb
        have hi' : i' < l.length := by rw [← T.msk.len]; exact (List.getElem?_eq_some_iff.1 hm).1
        exact T.msk.clos (fun j => listed.getD j false = true) hcl i' m _ j (List.getElem?_eq_getElem hi') hm (hcl i' _ hS (List.getElem?_eq_getElem hi')) hbit
      · rcases Nat.lt_or_ge j l.length with hlt | hge
        · exact hlt
        · have hS : listed.getD j false = true := hS
          rw [Array.getD_eq_getD_getElem?, Array.getElem?_eq_none (by omega)] at hS; cases hS
    have hset : ∀ j, (listed.setIfInBounds i true).getD j false = true ↔ listed.getD j false = true ∨ j = i := fun j => by
      rw [Array.getD_eq_getD_getElem?, Array.getD_eq_getD_getElem?]
      by_cases hji : j = i
      · subst hji; simp [his]
      · simp [Ne.symm hji, hji]
    refine op_any hP hC hY hl r T m0 hg0 hlo I rd fun a' w' ρ' G' q' I' => ih (listed.setIfInBounds i true) a' w' ρ' G' q' (by simpa using hsz) ?_ ?_ ?_
    · have := count_set listed.toList i (by rw [Array.getElem?_toList]; exact hli)
      rw [Array.toList_setIfInBounds]
      omega
    · intro i' o' hS ho2 ed he hb
      rcases (hset i').1 hS with h | rfl
      · exact (hset _).2 (.inl (hcl i' o' h ho2 ed he hb))
      · rw [ho'] at ho2; cases ho2
        exact (hset _).2 (.inl (hed ed he hb))
    · have : (fun j => (listed.setIfInBounds i true).getD j false = true) = fun j => listed.getD j false = true ∨ j = i := funext fun j => propext (hset j)
      rw [this]; exact I'
end

theorem draw_sound (hP : ProgOk P E) : DrawSound P E := by
  intro e lo ops id f st x f' st' ρ w a r hC hY h m hlo hg hf
  obtain ⟨hok, h2⟩ := bsel_some (show bsel (okDraw ops.toList ops.toList (masks ops.toList) [] 0) (cDraw2 E e lo ops.toList (masks ops.toList) f st) none = some (x, f', st') from h)
  clear h
  cases st with
  | mk h0 c0 =>
    obtain ⟨ds, h3, h4⟩ := obind_some (show obind (drawOps E e ops.toList lo c0 h0 ops.toList (masks ops.toList) (dropOne (sufs E ops.toList (masks ops.toList))) 0 ⟨f, h0, Nat.add c0 (lenC ops.toList), [], [], [], []⟩) (fun ds =>
      DS.rec (fun f h' c' pend _ _ _ => forceT (addPend c0 pend h') fun h'' => some (AX.normal, f.flush, (⟨h'', c'⟩ : St))) ds) = some (x, f', st') from h2)
    clear h2
    obtain ⟨D, ev, v, d1, d2, d3⟩ := drawOps_trace h3
    simp only [Nat.zero_add] at d2 d3
    have T : Tr E e lo c0 h0 f ops.toList (masks ops.toList) D ev v := ⟨maskOk hok, by rw [d1, lenC_eq]; rfl, d3⟩
    refine wpIn_region_any hP.mixed ?_
    have hfin : some (AX.normal, (D ops.toList.length).f.flush, (⟨addPend c0 (D ops.toList.length).pend (D ops.toList.length).h, (D ops.toList.length).c⟩ : St)) = some (x, f', st') := by
      rw [d2]
      cases ds with
      | mk f1 h1 c1 pend als lds cs =>
        rw [← h4]
        show _ = (forceT (addPend c0 pend h1) fun h'' => some (AX.normal, f1.flush, (⟨h'', c1⟩ : St)))
        rw [forceT_eq]
    cases hfin
    have m0 : Mod ρ h0.get c0 w := m
    refine draw_any (a0 := a) (w0 := w) hP hC hY (l := ops.toList) rfl r T m0 hg hlo (fun a2 w2 ρ2 G q I => ?_) ops.size _ a _ ρ h0.get 0 (by simp) (by simp) ?_ ?_
    · have hqN : ∀ i, isC ops.toList ev i → i < q := fun i hi => (I.hq i hi).1 hi.1
      obtain ⟨c1, c2⟩ := T.calm I.qle (Nat.le_refl _) fun x h1 h2 hx => by have := hqN x hx; omega
      have fr : ∀ {j}, Free ops.toList (masks ops.toList) ev q j ↔ Free ops.toList (masks ops.toList) ev ops.toList.length j := fun {j} =>
        ⟨fun h x _ hc => h x (hqN x hc) hc, fun h x _ hc => h x hc.1 hc⟩
      have hG : (addPend c0 (D ops.toList.length).pend (D ops.toList.length).h).get = G := funext fun id => by
        by_cases hp : ∃ j ob, (j, ob) ∈ (D ops.toList.length).pend ∧ id = c0 + j
        · obtain ⟨j, ob, h1, rfl⟩ := hp
          obtain ⟨h2, h3, h4⟩ := (T.pend j ob (Nat.le_refl _)).1 h1
          rw [addPend_in h1 fun o' ho' => by
            have := ((T.pend j o' (Nat.le_refl _)).1 ho').2.1
            rw [h3] at this; cases this; rfl]
          exact (I.g2 j ob h2 h3 (fr.2 h4)).symm
        · rw [addPend_out fun j ob h1 h2 => hp ⟨j, ob, h1, h2⟩, c1]
          cases hg2 : G id with
          | none =>
            cases hh : (D q).h.get id with
            | none => rfl
            | some o => rw [I.g1 id o hh] at hg2; cases hg2
          | some o =>
            rcases I.g3 id o hg2 with h1 | ⟨j, h1, h2, h3, h4⟩
            · exact h1
            · exact absurd ⟨j, o, (T.pend j o (Nat.le_refl _)).2 ⟨h1, h2, fr.1 h3⟩, h4⟩ hp
      have hle := I.ext.le m0
      refine ⟨trivial, ρ2, FrOk.flush ⟨?_, fun t u hu => ?_, ?_, ?_⟩, ?_⟩
      · rw [(T.frame (Nat.le_refl _)).1]; exact I.reg.size
      · rcases T.reg t (Nat.le_refl _) with ⟨j, h1, h2, h3, h4⟩ | ⟨h1, h2⟩
        · rw [h4] at hu; cases hu
          exact I.reg.r2 t j h1 h2 h3
        · rw [h2] at hu
          exact I.reg.r3 t u h1 hu
      · rw [(T.frame (Nat.le_refl _)).2.2.2, (T.frame (Nat.le_refl _)).2.1]; exact hf.esc
      · rw [(T.frame (Nat.le_refl _)).2.2.1, I.reg.dfs]; exact hf.df.mono hle
      · show Ext lo ρ h0.get c0 w ρ2 (addPend c0 (D ops.toList.length).pend (D ops.toList.length).h).get (D ops.toList.length).c w2
        rw [hG, c2]; exact I.ext
    · intro i o hi
      rw [Array.getD_eq_getD_getElem?, Array.getElem?_replicate] at hi
      split at hi <;> cases hi
    · have hS : (fun j => (Array.replicate ops.size false).getD j false = true) = fun _ => False := funext fun j => by
        rw [Array.getD_eq_getD_getElem?, Array.getElem?_replicate]
        split <;> simp
      rw [hS]
      exact base_inv T m0 hf rfl rfl
end Go.Abs
