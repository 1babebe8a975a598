/- Facts: what a run on a part of the heap told, told of every heap that holds that part. -/
import Derived.Test.YtgdgknjhhgkabaaGreatDoorMMemo
set_option linter.unusedVariables false
set_option linter.unusedSimpArgs false
namespace Go.Abs
variable {P : Program}

/-! ### Back to the elder places -/
section
variable {ρ ρ' : Rho} (hle : Le ρ ρ')
include hle
theorem le_same {id : Nat} {p p' : Nat × Nat} (h : ρ id = some p) (h' : ρ' id = some p') : p' = p := by
  have := hle _ _ h
  rw [this] at h'
  exact (Option.some.inj h').symm
theorem PRel.back : ∀ {l : List (Nat × Nat)} {m m' : List Value}, PRel ρ l m → PRel ρ' l m' → PRel ρ l m'
  | [], _, _, _, r => r
  | _ :: _, _, _, ⟨b, z, _, e, _, r⟩, ⟨b', z', ys', e', h', r'⟩ => by
    cases le_same hle e e'
    exact ⟨b, z, ys', e, h', PRel.back r r'⟩
theorem CRel.back {x : CV} {v v' : Value} (r : CRel ρ x v) (r' : CRel ρ' x v') : CRel ρ x v' := by
  cases x <;> simp only [CRel] at r r' ⊢ <;> try exact r'
  case ptr => obtain ⟨b, z, e, _⟩ := r; obtain ⟨b', z', e', q⟩ := r'; cases le_same hle e e'; exact ⟨b, z, e, q⟩
  case sl => obtain ⟨b, z, e, _⟩ := r; obtain ⟨b', z', e', q⟩ := r'; cases le_same hle e e'; exact ⟨b, z, e, q⟩
  case slr => obtain ⟨b, z, _, e, _⟩ := r; obtain ⟨b', z', c, e', q⟩ := r'; cases le_same hle e e'; exact ⟨b, z, c, e, q⟩
  case map => obtain ⟨b, z, e, _⟩ := r; obtain ⟨b', z', e', q⟩ := r'; cases le_same hle e e'; exact ⟨b, z, e, q⟩
  case fn => obtain ⟨_, _, _, p, q⟩ := r; obtain ⟨a, c, e, p', q'⟩ := r'; exact ⟨a, c, e, p.back hle p', q.back hle q'⟩
  case yield => obtain ⟨b, z, e, _⟩ := r; obtain ⟨b', z', e', q⟩ := r'; cases le_same hle e e'; exact ⟨b, z, e, q⟩
theorem LRel.back : ∀ {l : List CV} {m m' : List Value}, LRel ρ l m → LRel ρ' l m' → LRel ρ l m'
  | [], _, _, _, r => r
  | _ :: _, _, _, ⟨_, _, _, p, r⟩, ⟨y', ys', e', p', r'⟩ => ⟨y', ys', e', CRel.back hle p p', LRel.back r r'⟩
theorem PtRel.back {p : Bool × List CV} {v v' : Value} (r : PtRel ρ p v) (r' : PtRel ρ' p v') : PtRel ρ p v' := by
  rcases r with ⟨h, a, _, q⟩ | ⟨h, x, e, q⟩ <;> rcases r' with ⟨h', a', e', q'⟩ | ⟨h', x', e', q'⟩
  · exact .inl ⟨h, a', e', q.back hle q'⟩
  · rw [h] at h'; cases h'
  · rw [h] at h'; cases h'
  · rw [e] at e'
    cases e'
    exact .inr ⟨h, x, e, q.back hle q'⟩
theorem ERel.back : ∀ {l : List (CV × Bool × List CV)} {m m' : List MapEntry}, ERel ρ l m → ERel ρ' l m' → ERel ρ l m'
  | [], _, _, _, r => r
  | _ :: _, _, _, ⟨_, _, _, p, q, r⟩, ⟨y', ys', e', p', q', r'⟩ => ⟨y', ys', e', CRel.back hle p p', PtRel.back hle q q', ERel.back r r'⟩
end
noncomputable def flatAO : AO → Bool
  | .cells .. => true
  | .map _ => true
  | _ => false
theorem ORel.back {ρ ρ' : Rho} (hle : Le ρ ρ') {a : AO} {o o' : Obj} {z : Nat} (hf : flatAO a = true) (r : ORel ρ a o z) (r' : ORel ρ' a o' z) : ORel ρ a o' z := by
  cases a <;> try (cases hf; done)
  case cells d n e x fz =>
    obtain ⟨arr, fr, _, _, _, _, _, f, _⟩ := r
    obtain ⟨arr', fr', a', b', c', d', e', f', g'⟩ := r'
    exact ⟨arr', fr', a', b', c', d', e', f.back hle f', g'⟩
  case map es =>
    obtain ⟨ms, k, _, b⟩ := r
    obtain ⟨ms', k', a', b'⟩ := r'
    exact ⟨ms', k', a', b.back hle b'⟩

/-! ### Equality -/
noncomputable def eqCW (a b : CV) : Bool :=
  match a, b with
  | .int k n, .int k' m => bsel (decide (k = k')) (decide (n = m)) false
  | .bool a, .bool b => bsel a b (!b)
  | .str s, .str s' => eqAll Nat.beq s s'
  | .ptr a b, .ptr a' b' => bsel (Nat.beq a a') (Nat.beq b b') false
  | .nilp, .nilp => true
  | .sl a b c d, .sl a' b' c' d' => bsel (Nat.beq a a') (bsel (Nat.beq b b') (bsel (Nat.beq c c') (Nat.beq d d') false) false) false
  | .slr a b c d e, .slr a' b' c' d' e' => bsel (Nat.beq a a') (bsel (Nat.beq b b') (bsel (Nat.beq c c') (bsel (Nat.beq d d') (Nat.beq e e') false) false) false) false
  | .nils, .nils => true
  | .map a, .map b => Nat.beq a b
  | .nilmap, .nilmap => true
  | .nilfn, .nilfn => true
  | _, _ => false
theorem eqCW_eq {a b : CV} (h : eqCW a b = true) : a = b := by
  unfold eqCW at h
  split at h
  · obtain ⟨h1, h2⟩ := bselF h
    rw [of_decide_eq_true h1, of_decide_eq_true h2]
  · rename_i a b; cases a <;> cases b <;> first | rfl | cases h
  · rw [eqAll_eq Nat.eq_of_beq_eq_true h]
  · obtain ⟨h1, h2⟩ := bselF h
    rw [Nat.eq_of_beq_eq_true h1, Nat.eq_of_beq_eq_true h2]
  · rfl
  · obtain ⟨h1, h⟩ := bselF h
    obtain ⟨h2, h⟩ := bselF h
    obtain ⟨h3, h4⟩ := bselF h
    rw [Nat.eq_of_beq_eq_true h1, Nat.eq_of_beq_eq_true h2, Nat.eq_of_beq_eq_true h3, Nat.eq_of_beq_eq_true h4]
  · obtain ⟨h1, h⟩ := bselF h
    obtain ⟨h2, h⟩ := bselF h
    obtain ⟨h3, h⟩ := bselF h
    obtain ⟨h4, h5⟩ := bselF h
    rw [Nat.eq_of_beq_eq_true h1, Nat.eq_of_beq_eq_true h2, Nat.eq_of_beq_eq_true h3, Nat.eq_of_beq_eq_true h4, Nat.eq_of_beq_eq_true h5]
  · rfl
  · rw [Nat.eq_of_beq_eq_true h]
  · rfl
  · rfl
  · cases h
noncomputable def eqPw (a b : Bool × List CV) : Bool := bsel (decide (a.1 = b.1)) (eqAll eqCW a.2 b.2) false
theorem eqPw_eq {a b : Bool × List CV} (h : eqPw a b = true) : a = b := by
  obtain ⟨h1, h2⟩ := bselF h
  exact Prod.ext (of_decide_eq_true h1) (eqAll_eq eqCW_eq h2)
noncomputable def eqTW (a b : TV) : Bool :=
  match a, b with
  | .one a, .one b => eqCW a b
  | .agg a, .agg b => eqAll eqCW a b
  | .tup a, .tup b => eqAll eqPw a b
  | _, _ => false
theorem eqTW_eq {a b : TV} (h : eqTW a b = true) : a = b := by
  unfold eqTW at h
  split at h
  · rw [eqCW_eq h]
  · rw [eqAll_eq eqCW_eq h]
  · rw [eqAll_eq eqPw_eq h]
  · cases h
noncomputable def eqEw (a b : CV × Bool × List CV) : Bool := bsel (eqCW a.1 b.1) (eqPw a.2 b.2) false
theorem eqEw_eq {a b : CV × Bool × List CV} (h : eqEw a b = true) : a = b := by
  obtain ⟨h1, h2⟩ := bselF h
  exact Prod.ext (eqCW_eq h1) (eqPw_eq h2)
noncomputable def eqAW (a b : AO) : Bool :=
  match a, b with
  | .cells d n e x z, .cells d' n' e' x' z' => bsel (Nat.beq n n') (bsel (Nat.beq e e') (bsel (decide (x = x')) (bsel (decide (z = z')) (eqAll eqCW d d') false) false) false) false
  | .map es, .map es' => eqAll eqEw es es'
  | _, _ => false
theorem eqAW_eq {a b : AO} (h : eqAW a b = true) : a = b := by
  unfold eqAW at h
  split at h
  · obtain ⟨h1, h⟩ := bselF h
    obtain ⟨h2, h⟩ := bselF h
    obtain ⟨h3, h⟩ := bselF h
    obtain ⟨h4, h5⟩ := bselF h
    rw [Nat.eq_of_beq_eq_true h1, Nat.eq_of_beq_eq_true h2, of_decide_eq_true h3, of_decide_eq_true h4, eqAll_eq eqCW_eq h5]
  · rw [eqAll_eq eqEw_eq h]
  · cases h
theorem eqAW_flat {a b : AO} (h : eqAW a b = true) : flatAO b = true := by
  unfold eqAW at h
  split at h
  · rfl
  · rfl
  · cases h

/-! ### Heaps as lists -/
abbrev HL := List (Nat × AO)
noncomputable def putAll (h : T AO) (l : HL) : T AO := List.rec h (fun p _ ih => Prod.rec (fun id o => T.put ih id (some o)) p) l
noncomputable def mkH (l : HL) : T AO := putAll .nil l
theorem putAll_get (h : T AO) : ∀ (l : HL) (j : Nat), (putAll h l).get j = match (mkH l).get j with | some o => some o | none => h.get j
  | [], j => by
    show h.get j = match (T.nil : T AO).get j with | some o => some o | none => h.get j
    rfl
  | (id, o) :: l, j => by
    show ((putAll h l).put id (some o)).get j = match ((mkH l).put id (some o)).get j with | some o => some o | none => h.get j
    rw [T.get_put, T.get_put]
    by_cases e : j = id
    · rw [if_pos e, if_pos e]
    · rw [if_neg e, if_neg e]; exact putAll_get h l j
noncomputable def hasO (x : Option AO) (o : AO) : Bool := Option.rec false (fun a => eqAW a o) x
noncomputable def hasAll (h : T AO) (l : HL) : Bool := List.rec true (fun p _ ih => Prod.rec (fun id o => bsel (hasO (h.get id) o) ih false) p) l
theorem hasAll_spec {h : T AO} : ∀ {l : HL}, hasAll h l = true → ∀ id o, (mkH l).get id = some o → h.get id = some o ∧ flatAO o = true
  | [], _, id, o, ho => by
    replace ho : (T.nil : T AO).get id = some o := ho
    cases ho
  | (j, a) :: l, hh, id, o, ho => by
    obtain ⟨h1, h2⟩ := bselF (show bsel (hasO (h.get j) a) (hasAll h l) false = true from hh)
    replace ho : ((mkH l).put j (some a)).get id = some o := ho
    rw [T.get_put] at ho
    split at ho
    · rename_i e
      subst e
      cases ho
      cases hx : h.get id with
      | none => rw [hx] at h1; cases h1
      | some b =>
        rw [hx] at h1
        have h1 : eqAW b a = true := h1
        rw [eqAW_eq h1]
        exact ⟨rfl, eqAW_flat h1⟩
    · exact hasAll_spec h2 id o ho
noncomputable def hasId (id : Nat) (l : HL) : Bool := List.rec false (fun p _ ih => Prod.rec (fun j _ => bsel (Nat.beq id j) true ih) p) l
theorem hasId_spec {id : Nat} : ∀ {l : HL}, hasId id l = true → (mkH l).get id ≠ none
  | [], h => by cases h
  | (j, a) :: l, h => by
    have h : bsel (Nat.beq id j) true (hasId id l) = true := h
    show ((mkH l).put j (some a)).get id ≠ none
    rw [T.get_put]
    split
    · intro q; cases q
    · rename_i hne
      cases hb : Nat.beq id j with
      | true => exact absurd (Nat.eq_of_beq_eq_true hb) hne
      | false => rw [hb] at h; exact hasId_spec h
noncomputable def allIn (need out : HL) : Bool := List.rec true (fun p _ ih => Prod.rec (fun j _ => bsel (hasId j out) ih false) p) need
theorem allIn_spec {out : HL} : ∀ {need : HL}, allIn need out = true → ∀ id o, (mkH need).get id = some o → (mkH out).get id ≠ none
  | [], _, id, o, ho => by
    replace ho : (T.nil : T AO).get id = some o := ho
    cases ho
  | (j, a) :: l, hh, id, o, ho => by
    obtain ⟨h1, h2⟩ := bselF (show bsel (hasId j out) (allIn l out) false = true from hh)
    replace ho : ((mkH l).put j (some a)).get id = some o := ho
    rw [T.get_put] at ho
    split at ho
    · rename_i e
      subst e
      exact hasId_spec h1
    · exact allIn_spec h2 id o ho

/-! ### Facts -/
/-- arguments, counter, what is needed of the heap, answer; what is left of the heap and the counter (none: all is as it was) -/
abbrev Fact := List TV × Nat × HL × TV × Option (HL × Nat)
noncomputable def chkF (call : Nat → Nat → List TV → St → R) (f : Nat) (q : Fact) : Bool :=
  match q with
  | (args, c0, need, res, eff) => bsel (Nat.ble 3 c0) (Option.rec false (fun p => Prod.rec (fun v st => bsel (eqTW v res)
      (Option.rec (bsel (plainTV res) (hasAll st.h need) false) (fun oc => Prod.rec (fun out c' => bsel (Nat.beq st.c c') (bsel (allIn need out) (hasAll st.h out) false) false) oc) eff) false) p)
      (call 3 f args ⟨mkH need, c0⟩)) false
noncomputable def useF (lo : Nat) (args : List TV) (st : St) (q : Fact) : R :=
  match q with
  | (args', c0, need, res, eff) => bsel (eqAll eqTW args args') (bsel (Nat.ble st.c c0) (bsel (hasAll st.h need)
      (Option.rec (some (res, st)) (fun oc => Prod.rec (fun out c' => bsel (Nat.ble lo 3) (some (res, ⟨putAll st.h out, c'⟩)) none) oc) eff) none) none) none
noncomputable def factG (tbl : List Fact) (lo : Nat) (args : List TV) (st : St) : R := List.rec none (fun q _ ih => oelse (useF lo args st q) ih) tbl
theorem factG_mem {lo : Nat} {args : List TV} {st : St} {r : TV × St} : ∀ {tbl : List Fact}, factG tbl lo args st = some r → ∃ q ∈ tbl, useF lo args st q = some r
  | [], h => by cases h
  | q :: l, h => by
    have h : oelse (useF lo args st q) (factG l lo args st) = some r := h
    cases hu : useF lo args st q with
    | none =>
      rw [hu] at h
      obtain ⟨q', h1, h2⟩ := factG_mem (tbl := l) h
      exact ⟨q', List.mem_cons_of_mem _ h1, h2⟩
    | some x =>
      rw [hu] at h
      exact ⟨q, List.mem_cons_self, by rw [hu]; exact h⟩

section
variable {call : Nat → Nat → List TV → St → R} (hs : CallSound P call) {f c0 : Nat} {args : List TV} {need out : HL} {st stc : St} {v : TV}
include hs
theorem eff_ok (hrun : call 3 f args ⟨mkH need, c0⟩ = some (v, stc)) (h3 : 3 ≤ c0) (hneed : ∀ id o, (mkH need).get id = some o → st.h.get id = some o) (hc : st.c ≤ c0)
    (hout : ∀ id o, (mkH out).get id = some o → stc.h.get id = some o) (hall : ∀ id o, (mkH need).get id = some o → (mkH out).get id ≠ none)
    {lo : Nat} {ρ : Rho} {w : World} {as : Array Value} (hlo : lo ≤ 3) (m : StMod ρ st w) (hg : GlobOk ρ) (hr : TsRel ρ args as.toList) :
    (∃ fn, P.funcs[f]? = some fn ∧ fn.body.isSome = true) ∧ Calls P f as w (CallRes lo ρ st w v ⟨putAll st.h out, stc.c⟩) := by
  have m1 : Mod ρ st.h.get c0 w := ⟨fun id hid => m.dom id (Nat.le_trans hc hid), m.lt, m.obj, m.inj⟩
  obtain ⟨hf, hcl⟩ := hs hrun (ρ := ρ) (w := w) (as := as) (m1.sub hneed) h3 hg hr
  refine ⟨hf, hcl.mono fun ex w' hres => ?_⟩
  cases ex with
  | panicked _ => exact hres.elim
  | outgrown => exact hres.elim
  | returned x =>
    obtain ⟨ρ', k1, k2⟩ := hres
    have E := Ext.frameRule m1 hneed k2
    -- what is left is a part of what is there
    have part : ∀ id o, (putAll st.h out).get id = some o → join st.h.get (mkH need).get stc.h.get id = some o := by
      intro id o ho
      rw [putAll_get] at ho
      rcases join_cases st.h.get (mkH need).get stc.h.get id with ⟨h1, o', h2, h4⟩ | ⟨h1, h2⟩
      · cases hq : (mkH out).get id with
        | none => rw [hq] at ho; rw [h4, ← h2]; exact ho
        | some o2 =>
          have := hout id o2 hq
          have hid := m1.ltc h2
          rw [k2.dead id hid h1] at this
          cases this
      · rw [h2]
        cases hq : (mkH out).get id with
        | some o2 => rw [hq] at ho; rw [hout id o2 hq]; exact ho
        | none =>
          rw [hq] at ho
          exfalso
          have ho : st.h.get id = some o := ho
          rcases h1 with h1 | h1
          · cases hn : (mkH need).get id with
            | none => exact h1 hn
            | some o3 => exact hall id o3 hn hq
          · rw [ho] at h1; cases h1
    refine ⟨ρ', k1, ?_⟩
    exact
    { cc := Nat.le_trans hc E.cc
      env := E.env
      old := fun id hid => E.old id (Nat.lt_of_lt_of_le hid hc)
      size := E.size
      mod := ⟨E.mod.dom, E.mod.lt, fun id o ho => E.mod.obj id o (part id o ho), fun id id' o o' b z z' h1 h2 => E.mod.inj id id' o o' b z z' (part _ _ h1) (part _ _ h2)⟩
      new := fun id b z hid hp => by
        rcases Nat.lt_or_ge id c0 with hlt | hge
        · rw [E.old id hlt, m.dom id hid] at hp; cases hp
        · rcases E.new id b z hge hp with h | ⟨i, z', i1, i2, i3, i4⟩
          · exact .inl h
          · refine .inr ⟨i, z', by omega, ?_, i3, i4⟩
            cases hi : st.h.get i with
            | none => exact absurd hi i4
            | some o => exact m.ltc hi
      frame := E.frame
      low := fun id hid => by
        have hl := E.low id (by omega)
        show (putAll st.h out).get id = st.h.get id
        cases hq : (putAll st.h out).get id with
        | some o => rw [← hl, part id o hq]
        | none =>
          rw [putAll_get] at hq
          cases hq2 : (mkH out).get id with
          | some o => rw [hq2] at hq; cases hq
          | none => rw [hq2] at hq; exact hq.symm
      dead := fun id hid h0 => by
        show (putAll st.h out).get id = none
        cases hq : (putAll st.h out).get id with
        | none => rfl
        | some o =>
          have := part id o hq
          rw [E.dead id (Nat.lt_of_lt_of_le hid hc) h0] at this
          cases this }

theorem pure_ok (hrun : call 3 f args ⟨mkH need, c0⟩ = some (v, stc)) (hv : plainTV v = true) (h3 : 3 ≤ c0) (hneed : ∀ id o, (mkH need).get id = some o → st.h.get id = some o ∧ flatAO o = true) (hc : st.c ≤ c0)
    (hkeep : ∀ id o, (mkH need).get id = some o → stc.h.get id = some o)
    {lo : Nat} {ρ : Rho} {w : World} {as : Array Value} (m : StMod ρ st w) (hg : GlobOk ρ) (hr : TsRel ρ args as.toList) :
    (∃ fn, P.funcs[f]? = some fn ∧ fn.body.isSome = true) ∧ Calls P f as w (CallRes lo ρ st w v st) := by
  have m1 : Mod ρ st.h.get c0 w := ⟨fun id hid => m.dom id (Nat.le_trans hc hid), m.lt, m.obj, m.inj⟩
  have hn1 : ∀ id o, (mkH need).get id = some o → st.h.get id = some o := fun id o h => (hneed id o h).1
  obtain ⟨hf, hcl⟩ := hs hrun (ρ := ρ) (w := w) (as := as) (m1.sub hn1) h3 hg hr
  refine ⟨hf, hcl.mono fun ex w' hres => ?_⟩
  cases ex with
  | panicked _ => exact hres.elim
  | outgrown => exact hres.elim
  | returned x =>
    obtain ⟨ρ', k1, k2⟩ := hres
    have hle : Le ρ ρ' := k2.le (m1.sub hn1)
    refine ⟨ρ, plainTV_rel hv k1, ?_⟩
    have calm : ∀ b, b < w.heap.size → (∀ id z, ρ id = some (b, z) → st.h.get id = none) → w'.heap[b]? = w.heap[b]? := fun b hb hn => k2.frame b hb fun j z hj => by
      cases hh : (mkH need).get j with
      | none => rfl
      | some o => have := hn j z hj; rw [hn1 j o hh] at this; cases this
    exact
    { cc := Nat.le_refl _
      env := k2.env
      old := fun _ _ => rfl
      size := k2.size
      new := fun id b z hc hp => by rw [m.dom id hc] at hp; cases hp
      frame := calm
      low := fun _ _ => rfl
      dead := fun _ _ h => h
      mod :=
        { dom := m.dom
          lt := fun id b z hp => Nat.lt_of_lt_of_le (m.lt id b z hp) k2.size
          inj := m.inj
          obj := fun id o ho => by
            obtain ⟨b, z, ob, q1, q2, q3⟩ := m.obj id o ho
            by_cases hx : ∃ j z' o', ρ j = some (b, z') ∧ (mkH need).get j = some o'
            · obtain ⟨j, z', o', x1, x2⟩ := hx
              obtain ⟨y1, y2⟩ := hneed j o' x2
              have := m.inj id j o o' b z z' ho y1 q1 x1
              subst this
              rw [ho] at y1; cases y1
              obtain ⟨b', z2, ob', y3, y4, y5⟩ := k2.mod.obj id o (hkeep id o x2)
              cases le_same hle q1 y3
              exact ⟨b, z, ob', q1, y4, q3.back hle y2 y5⟩
            · refine ⟨b, z, ob, q1, ?_, q3⟩
              rw [k2.frame b (m.lt id b z q1) fun j z' hj => ?_]
              · exact q2
              · cases hh : (mkH need).get j with
                | none => rfl
                | some o' => exact absurd ⟨j, z', o', hj, hh⟩ hx } }
end

/-- a table of facts that runs have told is sound -/
theorem fact_sound {call : Nat → Nat → List TV → St → R} (hs : CallSound P call) {f : Nat} {tbl : List Fact} (ok : ∀ q ∈ tbl, chkF call f q = true) :
    CallSound P (fun lo f' args st => if f' = f then factG tbl lo args st else none) := by
  intro lo f' args st v st' ρ w as h m hlo hg hr
  simp only [] at h
  split at h
  · rename_i e1
    subst e1
    obtain ⟨q, hq, hu⟩ := factG_mem h
    have hk := ok q hq
    obtain ⟨args', c0, need, res, eff⟩ := q
    obtain ⟨u1, v1⟩ := bsel_some (show bsel (eqAll eqTW args args') _ none = _ from hu)
    obtain ⟨u2, v2⟩ := bsel_some v1
    obtain ⟨u3, v3⟩ := bsel_some v2
    clear hu v1 v2
    have ea := eqAll_eq eqTW_eq u1
    subst ea
    obtain ⟨k1, hk1⟩ := bselF (show bsel (Nat.ble 3 c0) _ false = true from hk)
    clear hk
    cases hrun : call 3 f' args ⟨mkH need, c0⟩ with
    | none => rw [hrun] at hk1; cases hk1
    | some p =>
      obtain ⟨v2, stc⟩ := p
      rw [hrun] at hk1
      obtain ⟨k2, hk2⟩ := bselF (show bsel (eqTW v2 res) _ false = true from hk1)
      clear hk1
      have ev := eqTW_eq k2
      subst ev
      have h3 := Nat.le_of_ble_eq_true k1
      have hc := Nat.le_of_ble_eq_true u2
      cases eff with
      | none =>
        obtain ⟨k3, k4⟩ := bselF (show bsel (plainTV v2) (hasAll stc.h need) false = true from hk2)
        replace v3 : some (v2, st) = some (v, st') := v3
        cases v3
        exact pure_ok hs hrun k3 h3 (hasAll_spec u3) hc (fun id o h => (hasAll_spec k4 id o h).1) m hg hr
      | some oc =>
        obtain ⟨out, c'⟩ := oc
        obtain ⟨k3, hk3⟩ := bselF (show bsel (Nat.beq stc.c c') _ false = true from hk2)
        obtain ⟨k4, k5⟩ := bselF hk3
        obtain ⟨u4, v4⟩ := bsel_some (show bsel (Nat.ble lo 3) _ none = _ from v3)
        clear v3
        cases v4
        have := Nat.eq_of_beq_eq_true k3
        subst this
        exact eff_ok hs hrun h3 (fun id o h => (hasAll_spec u3 id o h).1) hc (fun id o h => (hasAll_spec k5 id o h).1) (allIn_spec k4) (Nat.le_of_ble_eq_true u4) m hg hr
  · cases h
end Go.Abs
