/- Regions that draw: the run in the text's order, step by step. -/
import Derived.Test.YtgdgknjhhgkabaaGreatDoorMDraw1
set_option linter.unusedVariables false
set_option linter.unusedSimpArgs false
namespace Go.Abs
variable {P : Program} {E : Env}

inductive Evt where
  | no | lay (ob : AO) | ld (a : Nat) | hv (k : Nat)
/-- one step of the run in the text's order -/
inductive DStep (E : Env) (e : Ev) (all : List Oper) (lo c0 : Nat) (h0 : T AO) (o : Oper) (m s i : Nat) : DS → DS → Evt → TV → Prop where
  | off {f f' h c pend als lds cs} (hw : wantedA all f.regs o = some false) (hp : f.put o.dst undefV = some f') : DStep E e all lo c0 h0 o m s i ⟨f, h, c, pend, als, lds, cs⟩ ⟨f', h, c, pend, als, lds, cs⟩ .no undefV
  | pure {f f' h c pend als lds cs v} (hw : wantedA all f.regs o = some true) (hv : apure E (evO o f) o.op = some v) (hp : f.put o.dst v = some f') : DStep E e all lo c0 h0 o m s i ⟨f, h, c, pend, als, lds, cs⟩ ⟨f', h, c, pend, als, lds, cs⟩ .no v
  | lay {f f' h c pend als lds cs ob k} (hw : wantedA all f.regs o = some true) (hv : alaid E (evO o f) o.op = some (ob, k)) (hp : f.put o.dst (k (c0 + i)) = some f') :
      DStep E e all lo c0 h0 o m s i ⟨f, h, c, pend, als, lds, cs⟩ ⟨f', h, c, (i, ob) :: pend, (i, ob) :: als, lds, cs⟩ (.lay ob) (k (c0 + i))
  | ld0 {f f' h c pend als lds cs v st'} (hw : wantedA all f.regs o = some true) (hl : isLd E o.op = true) (hv : amem E c (evO o f) ⟨.nil, c⟩ o.op = some (v, st')) (hp : f.put o.dst v = some f') :
      DStep E e all lo c0 h0 o m s i ⟨f, h, c, pend, als, lds, cs⟩ ⟨f', h, c, pend, als, lds, cs⟩ .no v
  | ld {f f' h c pend als lds cs v st' a ob} (hw : wantedA all f.regs o = some true) (hl : isLd E o.op = true) (hs : seen m a c0 h0 als cs = some ob) (hv : amem E c (evO o f) ⟨T.nil.put a (some ob), c⟩ o.op = some (v, st')) (hp : f.put o.dst v = some f') :
      DStep E e all lo c0 h0 o m s i ⟨f, h, c, pend, als, lds, cs⟩ ⟨f', h, c, pend, als, (i, a) :: lds, cs⟩ (.ld a) v
  | hv {f f' h c pend als lds cs v h' c' lo' k} (hw : wantedA all f.regs o = some true) (hla : lastIn m cs = true) (hk : cKind lo c m s i (wrId (evO o f) o.op) lds = (lo', k))
      (hv : heavyStep E e lo' (evO o f) ⟨addPend c0 (pendIn m pend) h, c⟩ o.op = some (v, ⟨h', c'⟩)) (hp : f.put o.dst v = some f') :
      DStep E e all lo c0 h0 o m s i ⟨f, h, c, pend, als, lds, cs⟩ ⟨f', h', c', pendOut m pend, als, lds, (i, m, k, h') :: cs⟩ (.hv k) v

theorem drawStep_spec {e : Ev} {all : List Oper} {lo c0 : Nat} {h0 : T AO} {o : Oper} {m s i : Nat} {d d' : DS} (h : drawStep E e all lo c0 h0 o m s i d = some d') : ∃ ev v, DStep E e all lo c0 h0 o m s i d d' ev v := by
  unfold drawStep at h
  obtain ⟨b, hb, h1⟩ := obind_some h
  clear h
  cases d with
  | mk f hh c pend als lds cs =>
    have put : ∀ {v : TV}, dPut (some ⟨f, hh, c, pend, als, lds, cs⟩) o.dst v = some d' → ∃ f', f.put o.dst v = some f' ∧ d' = ⟨f', hh, c, pend, als, lds, cs⟩ := by
      intro v hv
      obtain ⟨f', h2, h3⟩ := obind_some (show obind (f.put o.dst v) (fun f' => some (⟨f', hh, c, pend, als, lds, cs⟩ : DS)) = some d' from hv)
      cases h3
      exact ⟨f', h2, rfl⟩
    cases b with
    | false =>
      rw [bsel_false] at h1
      obtain ⟨f', h2, rfl⟩ := put h1
      exact ⟨_, _, .off hb h2⟩
    | true =>
      rw [bsel_true] at h1
      unfold dRun at h1
      cases hp : isPure E o.op with
      | true =>
        rw [hp, bsel_true] at h1
        obtain ⟨v, h2, h3⟩ := obind_some h1
        obtain ⟨f', h4, rfl⟩ := put h3
        exact ⟨_, _, .pure hb h2 h4⟩
      | false =>
        rw [hp, bsel_false] at h1
        cases ha : isAl E o.op with
        | true =>
          rw [ha, bsel_true] at h1
          obtain ⟨ob, k, h2, h3⟩ := ob2_some (show ob2 (alaid E (evO o f) o.op) (fun ob k => obind (f.put o.dst (k (Nat.add c0 i))) fun f' => some (⟨f', hh, c, (i, ob) :: pend, (i, ob) :: als, lds, cs⟩ : DS)) = some d' from h1)
          obtain ⟨f', h4, h5⟩ := obind_some h3
          cases h5
          exact ⟨_, _, .lay hb h2 h4⟩
        | false =>
          rw [ha, bsel_false] at h1
          cases hl : isLd E o.op with
          | true =>
            rw [hl, bsel_true] at h1
            have h2 : (Option.rec
    (ob2 (amem E c (evO o f) ⟨.nil, c⟩ o.op) fun v _ => obind (f.put o.dst v) fun f' => some ⟨f', hh, c, pend, als, lds, cs⟩)
    (fun a => obind (seen m a c0 h0 als cs) fun ob => ob2 (amem E c (evO o f) ⟨T.nil.put a (some ob), c⟩ o.op) fun v _ => obind (f.put o.dst v) fun f' => some ⟨f', hh, c, pend, als, (i, a) :: lds, cs⟩)
    (fpOf (evO o f) o.op) : Option DS) = some d' := h1
            clear h1
            cases hfp : fpOf (evO o f) o.op with
            | none =>
              rw [hfp] at h2
              obtain ⟨v, st', h3, h4⟩ := ob2_some (show ob2 (amem E c (evO o f) ⟨.nil, c⟩ o.op) (fun v _ => obind (f.put o.dst v) fun f' => some (⟨f', hh, c, pend, als, lds, cs⟩ : DS)) = some d' from h2)
              obtain ⟨f', h5, h6⟩ := obind_some h4
              cases h6
              exact ⟨_, _, .ld0 hb hl h3 h5⟩
            | some a =>
              rw [hfp] at h2
              obtain ⟨ob, h7, h8⟩ := obind_some (show obind (seen m a c0 h0 als cs) (fun ob => ob2 (amem E c (evO o f) ⟨T.nil.put a (some ob), c⟩ o.op) fun v _ => obind (f.put o.dst v) fun f' => some (⟨f', hh, c, pend, als, (i, a) :: lds, cs⟩ : DS)) = some d' from h2)
              obtain ⟨v, st', h3, h4⟩ := ob2_some h8
              obtain ⟨f', h5, h6⟩ := obind_some h4
              cases h6
              exact ⟨_, _, .ld hb hl h7 h3 h5⟩
          | false =>
            rw [hl, bsel_false] at h1
            have h2 : (bsel (lastIn m cs) (Prod.rec (fun lo' k => forceT (addPend c0 (pendIn m pend) hh) fun hr => ob2 (heavyStep E e lo' (evO o f) ⟨hr, c⟩ o.op) fun v st => obind (f.put o.dst v) fun f' =>
      St.rec (fun h' c' => some (⟨f', h', c', pendOut m pend, als, lds, (i, m, k, h') :: cs⟩ : DS)) st) (cKind lo c m s i (wrId (evO o f) o.op) lds)) none : Option DS) = some d' := h1
            clear h1
            obtain ⟨h3, h4⟩ := bsel_some h2
            cases hk : cKind lo c m s i (wrId (evO o f) o.op) lds with
            | mk lo' k =>
              rw [hk] at h4
              have h5 : (forceT (addPend c0 (pendIn m pend) hh) fun hr => ob2 (heavyStep E e lo' (evO o f) ⟨hr, c⟩ o.op) fun v st => obind (f.put o.dst v) fun f' =>
      St.rec (fun h' c' => some (⟨f', h', c', pendOut m pend, als, lds, (i, m, k, h') :: cs⟩ : DS)) st) = some d' := h4
              clear h4
              rw [forceT_eq] at h5
              obtain ⟨v, st, h6, h7⟩ := ob2_some h5
              obtain ⟨f', h8, h9⟩ := obind_some h7
              cases st with
              | mk h' c' =>
                cases h9
                exact ⟨_, _, .hv hb h3 hk h6 h8⟩

theorem drawOps_trace {e : Ev} {all : List Oper} {lo c0 : Nat} {h0 : T AO} : ∀ {l : List Oper} {ms ss : List Nat} {i : Nat} {d d' : DS}, drawOps E e all lo c0 h0 l ms ss i d = some d' →
    ∃ (D : Nat → DS) (ev : Nat → Evt) (v : Nat → TV), D i = d ∧ D (i + l.length) = d' ∧ ∀ (k : Nat) (o : Oper) (m : Nat), l[k]? = some o → ms[k]? = some m → ∃ s, DStep E e all lo c0 h0 o m s (i + k) (D (i + k)) (D (i + k + 1)) (ev (i + k)) (v (i + k))
  | [], ms, ss, i, d, d', h => by
    cases h
    exact ⟨fun _ => d, fun _ => .no, fun _ => undefV, rfl, rfl, fun k o m hk => by simp at hk⟩
  | o :: l, [], ss, i, d, d', h => by cases h
  | o :: l, m :: ms, [], i, d, d', h => by cases h
  | o :: l, m :: ms, s :: ss, i, d, d', h => by
    obtain ⟨d1, h1, h2⟩ := obind_some (show obind (drawStep E e all lo c0 h0 o m s i d) (drawOps E e all lo c0 h0 l ms ss (Nat.succ i)) = some d' from h)
    obtain ⟨ev0, v0, h3⟩ := drawStep_spec h1
    obtain ⟨D, ev, v, h4, h5, h6⟩ := drawOps_trace h2
    refine ⟨fun j => if j = i then d else D j, fun j => if j = i then ev0 else ev j, fun j => if j = i then v0 else v j, if_pos rfl, ?_, fun k o' m' ho hm => ?_⟩
    · simp only [List.length_cons]
      rw [if_neg (by omega), ← h5]
      congr 1
      omega
    · cases k with
      | zero =>
        simp at ho hm; subst ho; subst hm
        refine ⟨s, ?_⟩
        simp only [Nat.add_zero, if_true]
        rw [if_neg (by omega), h4]
        exact h3
      | succ k =>
        obtain ⟨s', hs⟩ := h6 k o' m' (by simpa using ho) (by simpa using hm)
        refine ⟨s', ?_⟩
        simp only []
        rw [if_neg (by omega), if_neg (by omega), if_neg (by omega), if_neg (by omega)]
        rw [show i + (k + 1) = Nat.succ i + k from by omega]
        exact hs

/-! ### What the text's order tells -/
structure Tr (E : Env) (e : Ev) (lo c0 : Nat) (h0 : T AO) (f0 : Fr) (l : List Oper) (ms : List Nat) (D : Nat → DS) (ev : Nat → Evt) (v : Nat → TV) : Prop where
  msk : MaskOk l ms
  start : D 0 = ⟨f0, h0, c0 + l.length, [], [], [], []⟩
  step : ∀ (i : Nat) (o : Oper) (m : Nat), l[i]? = some o → ms[i]? = some m → ∃ s, DStep E e l lo c0 h0 o m s i (D i) (D (i + 1)) (ev i) (v i)

section
variable {e : Ev} {lo c0 : Nat} {h0 : T AO} {f0 : Fr} {l : List Oper} {ms : List Nat} {D : Nat → DS} {ev : Nat → Evt} {v : Nat → TV}
/-- operation i waits for j -/
def Bf (ms : List Nat) (i j : Nat) : Prop := ∃ m, ms[i]? = some m ∧ bit m j = true
/-- operation i may write -/
def isC (l : List Oper) (ev : Nat → Evt) (i : Nat) : Prop := i < l.length ∧ ∃ k, ev i = .hv k
/-- what j laid no operation ahead of p that may write has found -/
def Free (l : List Oper) (ms : List Nat) (ev : Nat → Evt) (p j : Nat) : Prop := ∀ i, i < p → isC l ev i → ¬ Bf ms i j
def Wr (l : List Oper) (j t : Nat) : Prop := ∃ o, l[j]? = some o ∧ o.dst = some t

theorem Tr.at (T : Tr E e lo c0 h0 f0 l ms D ev v) {i : Nat} (hi : i < l.length) : ∃ o m s, l[i]? = some o ∧ ms[i]? = some m ∧ DStep E e l lo c0 h0 o m s i (D i) (D (i + 1)) (ev i) (v i) := by
  have h2 : i < ms.length := by rw [T.msk.len]; exact hi
  obtain ⟨s, hs⟩ := T.step i _ _ (List.getElem?_eq_getElem hi) (List.getElem?_eq_getElem h2)
  exact ⟨_, _, s, List.getElem?_eq_getElem hi, List.getElem?_eq_getElem h2, hs⟩
theorem Bf.lt (T : Tr E e lo c0 h0 f0 l ms D ev v) {i j : Nat} (h : Bf ms i j) : j < i := let ⟨m, h1, h2⟩ := h; T.msk.m2 i m j h1 h2
theorem Bf.trans (T : Tr E e lo c0 h0 f0 l ms D ev v) {i j k : Nat} (h : Bf ms i j) (g : Bf ms j k) : Bf ms i k :=
  let ⟨m, h1, h2⟩ := h; let ⟨m', h3, h4⟩ := g; ⟨m, h1, T.msk.m3 i m j m' k h1 h2 h3 h4⟩
theorem Bf.not {i j m : Nat} (hm : ms[i]? = some m) (h : ¬ Bf ms i j) : bit m j = false := by
  cases hb : bit m j with
  | true => exact absurd ⟨m, hm, hb⟩ h
  | false => rfl

/-- the frame but for its variables -/
theorem put_same {f f' : Fr} {d : Option Nat} {x : TV} (h : f.put d x = some f') : f'.n = f.n ∧ f'.esc = f.esc ∧ f'.marks = f.marks ∧ f'.regs.base = f.regs.base ∧ (∀ t, d = some t → t < f.n) ∧
    ∀ t, f'.regs.get t = if d = some t then some x else f.regs.get t := by
  cases d with
  | none => cases h; exact ⟨rfl, rfl, rfl, rfl, fun t q => (by cases q), fun t => by rw [if_neg (by simp)]⟩
  | some t0 =>
    cases f with
    | mk regs n esc marks =>
      obtain ⟨h1, h2⟩ := bsel_some (show bsel (Nat.blt t0 n) (some (⟨regs.put t0 x, n, esc, marks⟩ : Fr)) none = some f' from h)
      cases h2
      refine ⟨rfl, rfl, rfl, Regs.put_base _ _ _, fun t q => by cases q; exact blt_lt h1, fun t => ?_⟩
      show (regs.put t0 x).get t = _
      rw [Regs.get_put]
      by_cases ht : t = t0
      · subst ht; rw [if_pos rfl, if_pos rfl]
      · rw [if_neg ht, if_neg (fun q => ht (Option.some.inj q).symm)]
theorem DStep.put {o : Oper} {m s i : Nat} {d d' : DS} {evt : Evt} {x : TV} (h : DStep E e l lo c0 h0 o m s i d d' evt x) : d.f.put o.dst x = some d'.f := by
  cases h <;> assumption
theorem Tr.frame (T : Tr E e lo c0 h0 f0 l ms D ev v) : ∀ {k : Nat}, k ≤ l.length → (D k).f.n = f0.n ∧ (D k).f.esc = f0.esc ∧ (D k).f.marks = f0.marks ∧ (D k).f.regs.base = f0.regs.base
  | 0, _ => by rw [T.start]; exact ⟨rfl, rfl, rfl, rfl⟩
  | k + 1, hk => by
    obtain ⟨o, m, s, _, _, hs⟩ := T.at (i := k) (by omega)
    obtain ⟨h1, h2, h3, h4, _⟩ := put_same hs.put
    obtain ⟨g1, g2, g3, g4⟩ := T.frame (k := k) (by omega)
    exact ⟨h1.trans g1, h2.trans g2, h3.trans g3, h4.trans g4⟩
theorem Tr.reg (T : Tr E e lo c0 h0 f0 l ms D ev v) (t : Nat) : ∀ {k : Nat}, k ≤ l.length →
    (∃ j, j < k ∧ Wr l j t ∧ (∀ j', j' < k → Wr l j' t → j' ≤ j) ∧ (D k).f.regs.get t = some (v j)) ∨ ((∀ j, j < k → ¬ Wr l j t) ∧ (D k).f.regs.get t = f0.regs.get t)
  | 0, _ => .inr ⟨fun j hj => by omega, by rw [T.start]⟩
  | k + 1, hk => by
    obtain ⟨o, m, s, ho, _, hs⟩ := T.at (i := k) (by omega)
    obtain ⟨_, _, _, _, _, hr⟩ := put_same hs.put
    rw [hr t]
    by_cases hd : o.dst = some t
    · rw [if_pos hd]
      exact .inl ⟨k, by omega, ⟨o, ho, hd⟩, fun j' hj _ => by omega, rfl⟩
    · rw [if_neg hd]
      have hnk : ¬ Wr l k t := fun ⟨o', ho', hd'⟩ => by rw [ho] at ho'; cases ho'; exact hd hd'
      rcases T.reg t (k := k) (by omega) with ⟨j, h1, h2, h3, h4⟩ | ⟨h1, h2⟩
      · refine .inl ⟨j, by omega, h2, fun j' hj hw => ?_, h4⟩
        rcases Nat.lt_or_ge j' k with hlt | hge
        · exact h3 j' hlt hw
        · have : j' = k := by omega
          subst this; exact absurd hw hnk
      · refine .inr ⟨fun j hj hw => ?_, h2⟩
        rcases Nat.lt_or_ge j k with hlt | hge
        · exact h1 j hlt hw
        · have : j = k := by omega
          subst this; exact absurd hw hnk

/-- a step that may not write leaves heap, counter and list as they are -/
theorem DStep.calm {o : Oper} {m s i : Nat} {d d' : DS} {evt : Evt} {x : TV} (h : DStep E e l lo c0 h0 o m s i d d' evt x) (hn : ¬ ∃ k, evt = .hv k) : d'.h = d.h ∧ d'.c = d.c ∧ d'.cs = d.cs := by
  cases h <;> first | exact ⟨rfl, rfl, rfl⟩ | exact absurd ⟨_, rfl⟩ hn
theorem Tr.calm (T : Tr E e lo c0 h0 f0 l ms D ev v) {p : Nat} : ∀ {k : Nat}, p ≤ k → k ≤ l.length → (∀ x, p ≤ x → x < k → ¬ isC l ev x) → (D k).h = (D p).h ∧ (D k).c = (D p).c
  | 0, hp, _, _ => by have : p = 0 := by omega
                      subst this; exact ⟨rfl, rfl⟩
  | k + 1, hp, hk, hn => by
    rcases Nat.lt_or_ge k p with hlt | hge
    · have : p = k + 1 := by omega
      subst this; exact ⟨rfl, rfl⟩
    · obtain ⟨o, m, s, _, _, hs⟩ := T.at (i := k) (by omega)
      obtain ⟨h1, h2, _⟩ := hs.calm fun ⟨q, hq⟩ => hn k hge (by omega) ⟨by omega, q, hq⟩
      obtain ⟨g1, g2⟩ := T.calm (k := k) hge (by omega) fun x h3 h4 => hn x h3 (by omega)
      exact ⟨h1.trans g1, h2.trans g2⟩

theorem Tr.pend (T : Tr E e lo c0 h0 f0 l ms D ev v) (j : Nat) (ob : AO) : ∀ {k : Nat}, k ≤ l.length → ((j, ob) ∈ (D k).pend ↔ j < k ∧ ev j = .lay ob ∧ Free l ms ev k j)
  | 0, _ => by rw [T.start]; simp
  | k + 1, hk => by
    have ih := T.pend j ob (k := k) (by omega)
    obtain ⟨o, m, s, ho, hm, hs⟩ := T.at (i := k) (by omega)
    have calm : (¬ ∃ q, ev k = .hv q) → (Free l ms ev (k + 1) j ↔ Free l ms ev k j) := fun hn =>
      ⟨fun h i hi hc => h i (by omega) hc, fun h i hi hc => by
        rcases Nat.lt_or_ge i k with hlt | hge
        · exact h i hlt hc
        · have : i = k := by omega
          subst this; exact absurd hc.2 hn⟩
    generalize hD : D k = d at hs ih
    generalize hD' : D (k + 1) = d' at hs
    generalize hev : ev k = evk at hs calm
    generalize hvk : v k = vk at hs
    have other : (∀ ob', evk ≠ .lay ob') → (j < k + 1 ∧ ev j = .lay ob ↔ j < k ∧ ev j = .lay ob) := fun hn =>
      ⟨fun ⟨h1, h2⟩ => by
        refine ⟨?_, h2⟩
        rcases Nat.lt_or_ge j k with hlt | hge
        · exact hlt
        · have : j = k := by omega
          subst this; rw [hev] at h2; exact absurd h2 (hn ob), fun ⟨h1, h2⟩ => ⟨by omega, h2⟩⟩
    cases hs with
    | off => rw [calm (by simp), ← and_assoc, other (by simp), and_assoc]; exact ih
    | pure => rw [calm (by simp), ← and_assoc, other (by simp), and_assoc]; exact ih
    | ld0 => rw [calm (by simp), ← and_assoc, other (by simp), and_assoc]; exact ih
    | ld => rw [calm (by simp), ← and_assoc, other (by simp), and_assoc]; exact ih
    | lay hw hv hp =>
      rw [calm (by simp)]
      simp only [List.mem_cons]
      rw [ih]
      constructor
      · rintro (h | ⟨h1, h2, h3⟩)
        · cases h
          refine ⟨by omega, hev, fun i hi hc hb => ?_⟩
          have := hb.lt T
          omega
        · exact ⟨by omega, h2, h3⟩
      · rintro ⟨h1, h2, h3⟩
        rcases Nat.lt_or_ge j k with hlt | hge
        · exact .inr ⟨hlt, h2, h3⟩
        · have : j = k := by omega
          subst this; rw [hev] at h2; cases h2; exact .inl rfl
    | hv hw hla hk' hv hp =>
      rw [← and_assoc, other (by simp), and_assoc]
      simp only []
      rw [mem_pendOut, ih]
      have hck : isC l ev k := ⟨by omega, _, hev⟩
      constructor
      · rintro ⟨⟨h1, h2, h3⟩, h4⟩
        refine ⟨h1, h2, fun i hi hc hb => ?_⟩
        rcases Nat.lt_or_ge i k with hlt | hge
        · exact h3 i hlt hc hb
        · have : i = k := by omega
          subst this
          obtain ⟨m', hm', hb'⟩ := hb
          rw [hm] at hm'; cases hm'
          rw [h4] at hb'; cases hb'
      · rintro ⟨h1, h2, h3⟩
        exact ⟨⟨h1, h2, fun i hi hc => h3 i (by omega) hc⟩, Bf.not hm (h3 k (by omega) hck)⟩
theorem Tr.als (T : Tr E e lo c0 h0 f0 l ms D ev v) {j : Nat} {ob : AO} : ∀ {k : Nat}, k ≤ l.length → (j, ob) ∈ (D k).als → j < k ∧ ev j = .lay ob
  | 0, _, h => by rw [T.start] at h; cases h
  | k + 1, hk, h => by
    have ih := T.als (j := j) (ob := ob) (k := k) (by omega)
    obtain ⟨o, m, s, ho, hm, hs⟩ := T.at (i := k) (by omega)
    generalize hD : D k = d at hs ih
    generalize hD' : D (k + 1) = d' at hs h
    generalize hev : ev k = evk at hs
    generalize hvk : v k = vk at hs
    have nx : (j < k ∧ ev j = .lay ob) → j < k + 1 ∧ ev j = .lay ob := fun ⟨a, b⟩ => ⟨by omega, b⟩
    cases hs with
    | lay hw hv hp =>
      rcases List.mem_cons.1 h with h | h
      · cases h; exact ⟨by omega, hev⟩
      · exact nx (ih h)
    | _ => exact nx (ih h)
theorem Tr.lds (T : Tr E e lo c0 h0 f0 l ms D ev v) {j a : Nat} (hj : ev j = .ld a) : ∀ {k : Nat}, k ≤ l.length → j < k → (j, a) ∈ (D k).lds
  | 0, _, h => by omega
  | k + 1, hk, h => by
    have ih := T.lds hj (k := k) (by omega)
    obtain ⟨o, m, s, ho, hm, hs⟩ := T.at (i := k) (by omega)
    generalize hD : D k = d at hs ih
    generalize hD' : D (k + 1) = d' at hs
    generalize hev : ev k = evk at hs
    generalize hvk : v k = vk at hs
    have nx : (∀ a', evk ≠ .ld a') → j < k := fun hn => by
      rcases Nat.lt_or_ge j k with hlt | hge
      · exact hlt
      · have : j = k := by omega
        subst this; rw [hev] at hj; exact absurd hj (hn a)
    cases hs with
    | ld hw hl hs hv hp =>
      rcases Nat.lt_or_ge j k with hlt | hge
      · exact List.mem_cons_of_mem _ (ih hlt)
      · have : j = k := by omega
        subst this; rw [hev] at hj; cases hj; exact List.mem_cons_self
    | off => exact ih (nx (by simp))
    | pure => exact ih (nx (by simp))
    | ld0 => exact ih (nx (by simp))
    | lay => exact ih (nx (by simp))
    | hv => exact ih (nx (by simp))

/-- the last operation that may write -/
theorem Tr.last (T : Tr E e lo c0 h0 f0 l ms D ev v) {m y : Nat} (hy : isC l ev y) : ∀ {k : Nat}, k ≤ l.length → y < k → (∀ x, x < k → isC l ev x → x ≤ y) → lastIn m (D k).cs = true → bit m y = true
  | 0, _, h, _, _ => by omega
  | k + 1, hk, h, hm, hla => by
    have ih := T.last (m := m) hy (k := k) (by omega)
    obtain ⟨o, m', s, ho, hm', hs⟩ := T.at (i := k) (by omega)
    by_cases hc : isC l ev k
    · have hyk : y = k := by have := hm k (by omega) hc; omega
      subst hyk
      obtain ⟨_, q, hq⟩ := hc
      generalize hD : D y = d at hs
      generalize hD' : D (y + 1) = d' at hs hla
      rw [hq] at hs
      generalize hvk : v y = vk at hs
      cases hs with
      | hv => exact hla
    · obtain ⟨_, _, h3⟩ := hs.calm fun ⟨q, hq⟩ => hc ⟨by omega, q, hq⟩
      rw [h3] at hla
      refine ih ?_ (fun x hx => hm x (by omega)) hla
      rcases Nat.lt_or_ge y k with hlt | hge
      · exact hlt
      · have : y = k := by omega
        subst this; exact absurd hy hc
theorem lastC (l : List Oper) (ev : Nat → Evt) : ∀ (k x : Nat), x < k → isC l ev x → ∃ y, x ≤ y ∧ y < k ∧ isC l ev y ∧ ∀ z, z < k → isC l ev z → z ≤ y
  | 0, x, h, _ => by omega
  | k + 1, x, h, hx => by
    by_cases hc : isC l ev k
    · exact ⟨k, by omega, by omega, hc, fun z hz _ => by omega⟩
    · have hxk : x < k := by
        rcases Nat.lt_or_ge x k with hlt | hge
        · exact hlt
        · have : x = k := by omega
          subst this; exact absurd hx hc
      obtain ⟨y, h1, h2, h3, h4⟩ := lastC l ev k x hxk hx
      refine ⟨y, h1, by omega, h3, fun z hz hcz => ?_⟩
      rcases Nat.lt_or_ge z k with hlt | hge
      · exact h4 z hlt hcz
      · have : z = k := by omega
        subst this; exact absurd hcz hc
/-- operations that may write stand in the text's order -/
theorem Tr.chain (T : Tr E e lo c0 h0 f0 l ms D ev v) {x : Nat} (hx : isC l ev x) : ∀ (y : Nat), x < y → isC l ev y → Bf ms y x := by
  intro y
  induction y using Nat.strongRecOn with
  | ind y ih =>
    intro hxy hy
    obtain ⟨z, h1, h2, h3, h4⟩ := lastC l ev y x hxy hx
    obtain ⟨o, m, s, ho, hm, hs⟩ := T.at hy.1
    obtain ⟨_, q, hq⟩ := hy
    have hla : lastIn m (D y).cs = true := by
      generalize hD : D y = d at hs
      generalize hD' : D (y + 1) = d' at hs
      rw [hq] at hs
      generalize hvk : v y = vk at hs
      cases hs with
      | hv hw hla => exact hla
    have hz : Bf ms y z := ⟨m, hm, T.last h3 (by have := (List.getElem?_eq_some_iff.1 ho).1; omega) h2 h4 hla⟩
    rcases Nat.lt_or_ge x z with hlt | hge
    · exact hz.trans T (ih z h2 hlt h3)
    · have : x = z := by omega
      subst this; exact hz

theorem Tr.snap (T : Tr E e lo c0 h0 f0 l ms D ev v) {m a : Nat} {hs : Go.Abs.T AO} : ∀ {k : Nat}, k ≤ l.length → Go.Abs.snap m a h0 (D k).cs = some hs →
    ∃ p, p ≤ k ∧ hs = (D p).h ∧ (p = 0 ∨ ∃ x, p = x + 1 ∧ isC l ev x ∧ bit m x = true) ∧ ∀ x, p ≤ x → x < k → isC l ev x → bit m x = false ∧ ∀ q, ev x = .hv q → wrOk q a = true
  | 0, _, h => by
    have e1 := T.start
    rw [e1] at h
    have h : some h0 = some hs := h
    cases h
    exact ⟨0, by omega, by rw [e1], .inl rfl, fun x _ hx => by omega⟩
  | k + 1, hk, h => by
    have ih := T.snap (m := m) (a := a) (hs := hs) (k := k) (by omega)
    obtain ⟨o, m', s, ho, hm', hst⟩ := T.at (i := k) (by omega)
    by_cases hc : isC l ev k
    · obtain ⟨_, q, hq⟩ := hc
      have key : bsel (bit m k) (some (D (k + 1)).h) (bsel (wrOk q a) (Go.Abs.snap m a h0 (D k).cs) none) = some hs := by
        clear ih
        generalize hD : D k = d at hst
        generalize hD' : D (k + 1) = d' at hst h
        rw [hq] at hst
        generalize hvk : v k = vk at hst
        cases hst with
        | hv => exact h
      cases hb : bit m k with
      | true =>
        rw [hb, bsel_true] at key
        cases key
        exact ⟨k + 1, by omega, rfl, .inr ⟨k, rfl, ⟨by omega, q, hq⟩, hb⟩, fun x _ hx => by omega⟩
      | false =>
        rw [hb, bsel_false] at key
        obtain ⟨h1, h2⟩ := bsel_some key
        obtain ⟨p, g1, g2, g3, g4⟩ := ih h2
        refine ⟨p, by omega, g2, g3, fun x h3 h4 hcx => ?_⟩
        rcases Nat.lt_or_ge x k with hlt | hge
        · exact g4 x h3 hlt hcx
        · have : x = k := by omega
          subst this
          exact ⟨hb, fun q' hq' => by rw [hq] at hq'; cases hq'; exact h1⟩
    · obtain ⟨_, _, h3⟩ := hst.calm fun ⟨q, hq⟩ => hc ⟨by omega, q, hq⟩
      rw [h3] at h
      obtain ⟨p, g1, g2, g3, g4⟩ := ih h
      refine ⟨p, by omega, g2, g3, fun x h5 h4 hcx => ?_⟩
      rcases Nat.lt_or_ge x k with hlt | hge
      · exact g4 x h5 hlt hcx
      · have : x = k := by omega
        subst this; exact absurd hcx hc
theorem Tr.absd (T : Tr E e lo c0 h0 f0 l ms D ev v) {m j : Nat} : ∀ {k : Nat}, k ≤ l.length → Go.Abs.absd m j (D k).cs = false → ∀ x, x < k → isC l ev x → bit m x = true → ¬ Bf ms x j
  | 0, _, _, x, hx, _, _ => by omega
  | k + 1, hk, h, x, hx, hcx, hb => by
    have ih := T.absd (m := m) (j := j) (k := k) (by omega)
    obtain ⟨o, m', s, ho, hm', hst⟩ := T.at (i := k) (by omega)
    by_cases hc : isC l ev k
    · obtain ⟨_, q, hq⟩ := hc
      have key : bsel (bit m k) (bsel (bit m' j) true (Go.Abs.absd m j (D k).cs)) (Go.Abs.absd m j (D k).cs) = false := by
        clear ih
        generalize hD : D k = d at hst
        generalize hD' : D (k + 1) = d' at hst h
        rw [hq] at hst
        generalize hvk : v k = vk at hst
        cases hst with
        | hv => exact h
      have k2 : Go.Abs.absd m j (D k).cs = false := by
        revert key
        cases bit m k <;> cases bit m' j <;> simp
      rcases Nat.lt_or_ge x k with hlt | hge
      · exact ih k2 x hlt hcx hb
      · have : x = k := by omega
        subst this
        rintro ⟨m2, h1, h2⟩
        rw [hm'] at h1; cases h1
        rw [hb, h2] at key; cases key
    · obtain ⟨_, _, h3⟩ := hst.calm fun ⟨q, hq⟩ => hc ⟨by omega, q, hq⟩
      rw [h3] at h
      rcases Nat.lt_or_ge x k with hlt | hge
      · exact ih h x hlt hcx hb
      · have : x = k := by omega
        subst this; exact absurd hcx hc
theorem alsFind_spec {m a c0 : Nat} {cs : List CE} {ob : AO} : ∀ {l : List (Nat × AO)}, alsFind m a c0 cs l = some ob → ∃ j, (j, ob) ∈ l ∧ c0 + j = a ∧ bit m j = true ∧ absd m j cs = false
  | [], h => by cases h
  | (k, o) :: l, h => by
    have h : bsel (Nat.beq (Nat.add c0 k) a) (bsel (bit m k) (bsel (absd m k cs) none (some o)) none) (alsFind m a c0 cs l) = some ob := h
    cases hb : Nat.beq (Nat.add c0 k) a with
    | true =>
      rw [hb, bsel_true] at h
      obtain ⟨h1, h2⟩ := bsel_some h
      cases ha : absd m k cs with
      | true => rw [ha] at h2; cases h2
      | false =>
        rw [ha] at h2; cases h2
        exact ⟨k, List.mem_cons_self, Nat.eq_of_beq_eq_true hb, h1, ha⟩
    | false =>
      rw [hb, bsel_false] at h
      obtain ⟨j, h1, h2⟩ := alsFind_spec h
      exact ⟨j, List.mem_cons_of_mem _ h1, h2⟩
/-- an operation that may write and stands behind a load that it doesn't wait for -/
theorem Tr.kind (T : Tr E e lo c0 h0 f0 l ms D ev v) {i x a q : Nat} (hi : ev i = .ld a) (hx : ev x = .hv q) (hlt : i < x) (hxl : x < l.length) (hn : ¬ Bf ms x i) : wrOk q a = true := by
  obtain ⟨o, m, s, ho, hm, hs⟩ := T.at hxl
  have hld := T.lds hi (k := x) (by omega) hlt
  have hb := Bf.not hm hn
  generalize hD : D x = d at hs hld
  generalize hD' : D (x + 1) = d' at hs
  rw [hx] at hs
  generalize hvk : v x = vk at hs
  cases hs with
  | hv hw hla hk hv hp =>
    rcases cKind_spec hk with ⟨_, _, h3⟩ | ⟨_, rfl⟩ | ⟨W, _, _, rfl, h4⟩
    · have := ldsNone_spec h3 _ _ hld
      rw [hb] at this; cases this
    · exact wrOk_zero a
    · rcases ldsApart_spec h4 _ _ hld with h5 | h5
      · rw [hb] at h5; cases h5
      · exact wrOk_of_ne h5

/-- the heap that an operation that may write is run on -/
noncomputable def hrOf (c0 : Nat) (ms : List Nat) (D : Nat → DS) (x : Nat) : Go.Abs.T AO := match ms[x]? with | some m => addPend c0 (pendIn m (D x).pend) (D x).h | none => .nil
theorem Tr.hr_in (T : Tr E e lo c0 h0 f0 l ms D ev v) {x j : Nat} {ob : AO} (hx : x < l.length) (hj : ev j = .lay ob) (hb : Bf ms x j) (hf : Free l ms ev x j) : (hrOf c0 ms D x).get (c0 + j) = some ob := by
  obtain ⟨m, hm, hb'⟩ := hb
  have hjx := Bf.lt T ⟨m, hm, hb'⟩
  unfold hrOf
  rw [hm]
  refine addPend_in (mem_pendIn.2 ⟨(T.pend j ob (by omega)).2 ⟨hjx, hj, hf⟩, hb'⟩) fun o' ho' => ?_
  have := ((T.pend j o' (by omega)).1 (mem_pendIn.1 ho').1).2.1
  rw [hj] at this; cases this; rfl
/-- an id there: of the elder heap, or laid and waited for -/
theorem Tr.hr_cases (T : Tr E e lo c0 h0 f0 l ms D ev v) {x : Nat} (hx : x < l.length) (id : Nat) :
    (∃ j ob, id = c0 + j ∧ j < x ∧ ev j = .lay ob ∧ Bf ms x j ∧ Free l ms ev x j ∧ (hrOf c0 ms D x).get id = some ob) ∨ (hrOf c0 ms D x).get id = (D x).h.get id := by
  have hl : x < ms.length := by rw [T.msk.len]; exact hx
  have hm : ms[x]? = some ms[x] := List.getElem?_eq_getElem hl
  by_cases h : ∃ j ob, (j, ob) ∈ pendIn ms[x] (D x).pend ∧ id = c0 + j
  · obtain ⟨j, ob, h1, rfl⟩ := h
    obtain ⟨h2, h3⟩ := mem_pendIn.1 h1
    obtain ⟨h4, h5, h6⟩ := (T.pend j ob (by omega)).1 h2
    exact .inl ⟨j, ob, rfl, h4, h5, ⟨_, hm, h3⟩, h6, T.hr_in hx h5 ⟨_, hm, h3⟩ h6⟩
  · right
    unfold hrOf
    rw [hm]
    exact addPend_out fun j ob h1 h2 => h ⟨j, ob, h1, h2⟩
end
end Go.Abs
