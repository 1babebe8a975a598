/- Calls that hang on plain values alone: what a run on a small heap told, told of every heap. -/
import Derived.Test.YtgdgknjhhgkabaaGreatDoorMDraw4
set_option linter.unusedVariables false
set_option linter.unusedSimpArgs false
namespace Go.Abs
variable {P : Program}

def plainCV : CV → Bool
  | .int .. => true
  | .bool _ => true
  | .str _ => true
  | _ => false
noncomputable def plainCVs (l : List CV) : Bool := List.rec true (fun x _ ih => bsel (plainCV x) ih false) l
noncomputable def plainAO : AO → Bool
  | .cells d _ _ _ _ => plainCVs d
  | _ => false
noncomputable def plainTV : TV → Bool
  | .one v => plainCV v
  | .agg l => plainCVs l
  | .tup l => List.rec true (fun p _ ih => bsel (plainCVs p.2) ih false) l

theorem plainCV_rel {ρ ρ' : Rho} {x : CV} {v : Value} (h : plainCV x = true) (r : CRel ρ x v) : CRel ρ' x v := by
  cases x <;> first | exact r | cases h
theorem plainCVs_rel {ρ ρ' : Rho} : ∀ {l : List CV} {m : List Value}, plainCVs l = true → LRel ρ l m → LRel ρ' l m
  | [], _, _, r => r
  | _ :: _, _, h, ⟨y, ys, e, p, r⟩ => by
    obtain ⟨h1, h2⟩ := bselF h
    exact ⟨y, ys, e, plainCV_rel h1 p, plainCVs_rel h2 r⟩
theorem plainAO_rel {ρ ρ' : Rho} {x : AO} {o : Obj} {z : Nat} (h : plainAO x = true) (r : ORel ρ x o z) : ORel ρ' x o z := by
  cases x <;> try (cases h; done)
  case cells d n e x fz => obtain ⟨arr, fr, a, b, c, d, e, f, g⟩ := r; exact ⟨arr, fr, a, b, c, d, e, plainCVs_rel h f, g⟩
theorem plainPts_rel {ρ ρ' : Rho} : ∀ {l : List (Bool × List CV)} {m : List Value}, (List.rec true (fun p _ ih => bsel (plainCVs p.2) ih false) l : Bool) = true → PtsRel ρ l m → PtsRel ρ' l m
  | [], _, _, r => r
  | p :: _, _, h, ⟨y, ys, e, q, r⟩ => by
    obtain ⟨h1, h2⟩ := bselF h
    refine ⟨y, ys, e, ?_, plainPts_rel h2 r⟩
    rcases q with ⟨e, a, f, g⟩ | ⟨e, x, f, g⟩
    · exact .inl ⟨e, a, f, plainCVs_rel h1 g⟩
    · refine .inr ⟨e, x, f, plainCV_rel ?_ g⟩
      rw [f] at h1; exact (bselF h1).1
theorem plainTV_rel {ρ ρ' : Rho} {x : TV} {v : Value} (h : plainTV x = true) (r : TRel ρ x v) : TRel ρ' x v := by
  cases x with
  | one x => exact plainCV_rel h r
  | agg l => obtain ⟨a, e, r⟩ := r; exact ⟨a, e, plainCVs_rel h r⟩
  | tup l => obtain ⟨a, e, r⟩ := r; exact ⟨a, e, plainPts_rel h r⟩

/-- the small heap: two package-level variables and one object -/
noncomputable def hc (o1 o2 o : AO) : T AO := ((T.nil.put 1 (some o1)).put 2 (some o2)).put 3 (some o)
theorem hc_get (o1 o2 o : AO) (j : Nat) : (hc o1 o2 o).get j = if j = 3 then some o else if j = 2 then some o2 else if j = 1 then some o1 else none := by
  unfold hc
  rw [T.get_put, T.get_put, T.get_put]; rfl

theorem transfer {call : Nat → Nat → List TV → St → R} (hs : CallSound P call) {f a : Nat} {args args' : List TV} {st st'c : St} {obj o1 o2 : AO} {v : TV}
    (hrun : call 4 f args' ⟨hc o1 o2 obj, 4⟩ = some (v, st'c)) (hv : plainTV v = true) (h1 : st.h.get 1 = some o1) (h2 : st.h.get 2 = some o2) (h3 : st.h.get a = some obj) (ha : 3 ≤ a)
    (p1 : plainAO o1 = true) (p2 : plainAO o2 = true) (p3 : plainAO obj = true) (hargs : ∀ (ρ ρc : Rho) (as : List Value), ρc 3 = ρ a → TsRel ρ args as → TsRel ρc args' as)
    {lo : Nat} {ρ : Rho} {w : World} {as : Array Value} (m : StMod ρ st w) (hg : GlobOk ρ) (hr : TsRel ρ args as.toList) :
    (∃ fn, P.funcs[f]? = some fn ∧ fn.body.isSome = true) ∧ Calls P f as w (CallRes lo ρ st w v st) := by
  generalize hρc : (fun j => if j < 3 then ρ j else if j = 3 then ρ a else none : Rho) = ρc
  have c3 : ρc 3 = ρ a := by rw [← hρc]; simp
  have clt : ∀ j, j < 3 → ρc j = ρ j := fun j hj => by rw [← hρc]; simp [hj]
  have cge : ∀ j, 4 ≤ j → ρc j = none := fun j hj => by rw [← hρc]; simp [show ¬ j < 3 by omega, show ¬ j = 3 by omega]
  have src : ∀ j o, (hc o1 o2 obj).get j = some o → ∃ i, st.h.get i = some o ∧ ρc j = ρ i ∧ j < 4 ∧ plainAO o = true ∧ i = (if j = 3 then a else j) := fun j o ho => by
    rw [hc_get] at ho
    split at ho
    · rename_i e1; subst e1; cases ho; exact ⟨a, h3, c3, by omega, p3, by simp⟩
    · split at ho
      · rename_i e1; subst e1; cases ho; exact ⟨2, h2, clt 2 (by omega), by omega, p2, by simp⟩
      · split at ho
        · rename_i e1; subst e1; cases ho; exact ⟨1, h1, clt 1 (by omega), by omega, p1, by simp⟩
        · cases ho
  have mc : StMod ρc ⟨hc o1 o2 obj, 4⟩ w :=
    { dom := cge
      lt := fun j b z hj => by
        rcases Nat.lt_or_ge j 3 with hlt | hge
        · rw [clt j hlt] at hj; exact m.lt j b z hj
        · rcases Nat.lt_or_ge j 4 with hlt | hge'
          · have : j = 3 := by omega
            subst this; rw [c3] at hj; exact m.lt a b z hj
          · rw [cge j hge'] at hj; cases hj
      obj := fun j o ho => by
        obtain ⟨i, g1, g2, _, g4, _⟩ := src j o ho
        obtain ⟨b, z, ob, k1, k2, k3⟩ := m.obj i o g1
        exact ⟨b, z, ob, by rw [g2]; exact k1, k2, plainAO_rel g4 k3⟩
      inj := fun j j' o o' b z z' ho ho' hj hj' => by
        obtain ⟨i, g1, g2, g3, _, g5⟩ := src j o ho
        obtain ⟨i', g1', g2', g3', _, g5'⟩ := src j' o' ho'
        rw [g2] at hj; rw [g2'] at hj'
        have := m.inj i i' o o' b z z' g1 g1' hj hj'
        subst this
        rw [g5] at g5'
        rw [hc_get] at ho ho'
        by_cases e1 : j = 3 <;> by_cases e2 : j' = 3 <;> simp [e1, e2] at g5' <;> omega }
  have hgc : GlobOk ρc := fun g hgl => by
    have : g < 3 := hgl
    rw [clt g this]; exact hg g hgl
  obtain ⟨hf, hcl⟩ := hs hrun mc (Nat.le_refl _) hgc (hargs ρ ρc as.toList c3 hr)
  refine ⟨hf, hcl.mono fun ex w' hres => ?_⟩
  cases ex with
  | panicked _ => exact hres.elim
  | outgrown => exact hres.elim
  | returned x =>
    obtain ⟨ρ', k1, k2⟩ := hres
    refine ⟨ρ, plainTV_rel hv k1, ?_⟩
    have calm : ∀ b, b < w.heap.size → (∀ id z, ρ id = some (b, z) → st.h.get id = none) → w'.heap[b]? = w.heap[b]? := fun b hb hn => k2.frame b hb fun j z hj => by
      cases hh : (hc o1 o2 obj).get j with
      | none => rfl
      | some o =>
        obtain ⟨i, g1, g2, _⟩ := src j o hh
        rw [g2] at hj
        have := hn i z hj
        rw [g1] at this; cases this
    exact
    { cc := Nat.le_refl _
      env := k2.env
      old := fun _ _ => rfl
      size := k2.size
      new := fun id b z hc hp => by rw [m.dom id hc] at hp; cases hp
      frame := calm
      low := fun _ _ => rfl
      dead := fun _ _ h => h
      mod :=
        { dom := m.dom
          lt := fun id b z hp => Nat.lt_of_lt_of_le (m.lt id b z hp) k2.size
          inj := m.inj
          obj := fun id o ho => by
            obtain ⟨b, z, ob, q1, q2, q3⟩ := m.obj id o ho
            by_cases hx : ∃ j z' o', ρc j = some (b, z') ∧ (hc o1 o2 obj).get j = some o'
            · obtain ⟨j, z', o', x1, x2⟩ := hx
              obtain ⟨i, g1, g2, g3, g4, _⟩ := src j o' x2
              have x3 := x1
              rw [g2] at x3
              have := m.inj id i o o' b z z' ho g1 q1 x3
              subst this
              rw [ho] at g1; cases g1
              have hl := k2.low j g3
              rw [show (⟨hc o1 o2 obj, 4⟩ : St).h.get j = some o from x2] at hl
              obtain ⟨b', z2, ob', y1, y2, y3⟩ := k2.mod.obj j o hl
              have y1 : ρ' j = some (b', z2) := y1
              rw [k2.old j g3, x1] at y1
              cases y1
              rw [q1] at x3; cases x3
              exact ⟨b, z, ob', q1, y2, plainAO_rel g4 y3⟩
            · have hbw := m.lt id b z q1
              refine ⟨b, z, ob, q1, ?_, q3⟩
              rw [k2.frame b hbw fun j z' hj => ?_]
              · exact q2
              · cases hh : (hc o1 o2 obj).get j with
                | none => rfl
                | some o' => exact absurd ⟨j, z', o', hj, hh⟩ hx } }

/-! ### Tables -/
noncomputable def eqCV (a b : CV) : Bool :=
  match a, b with
  | .int k n, .int k' m => bsel (decide (k = k')) (decide (n = m)) false
  | .bool a, .bool b => bsel a b (!b)
  | .sl a b c d, .sl a' b' c' d' => bsel (Nat.beq a a') (bsel (Nat.beq b b') (bsel (Nat.beq c c') (Nat.beq d d') false) false) false
  | .slr a b c d e, .slr a' b' c' d' e' => bsel (Nat.beq a a') (bsel (Nat.beq b b') (bsel (Nat.beq c c') (bsel (Nat.beq d d') (Nat.beq e e') false) false) false) false
  | _, _ => false
theorem eqCV_eq {a b : CV} (h : eqCV a b = true) : a = b := by
  unfold eqCV at h
  split at h
  · obtain ⟨h1, h2⟩ := bselF h
    rw [of_decide_eq_true h1, of_decide_eq_true h2]
  · rename_i a b; cases a <;> cases b <;> first | rfl | cases h
  · obtain ⟨h1, h⟩ := bselF h
    obtain ⟨h2, h⟩ := bselF h
    obtain ⟨h3, h4⟩ := bselF h
    rw [Nat.eq_of_beq_eq_true h1, Nat.eq_of_beq_eq_true h2, Nat.eq_of_beq_eq_true h3, Nat.eq_of_beq_eq_true h4]
  · obtain ⟨h1, h⟩ := bselF h
    obtain ⟨h2, h⟩ := bselF h
    obtain ⟨h3, h⟩ := bselF h
    obtain ⟨h4, h5⟩ := bselF h
    rw [Nat.eq_of_beq_eq_true h1, Nat.eq_of_beq_eq_true h2, Nat.eq_of_beq_eq_true h3, Nat.eq_of_beq_eq_true h4, Nat.eq_of_beq_eq_true h5]
  · cases h
noncomputable def eqAll {α : Type} (f : α → α → Bool) (l : List α) : List α → Bool :=
  List.rec (fun m => List.rec true (fun _ _ _ => false) m) (fun x _ ih m => List.rec false (fun y ys _ => bsel (f x y) (ih ys) false) m) l
theorem eqAll_eq {α : Type} {f : α → α → Bool} (hf : ∀ {a b}, f a b = true → a = b) : ∀ {l m : List α}, eqAll f l m = true → l = m
  | [], [], _ => rfl
  | [], _ :: _, h => by cases h
  | _ :: _, [], h => by cases h
  | x :: l, y :: m, h => by
    obtain ⟨h1, h2⟩ := bselF (show bsel (f x y) (eqAll f l m) false = true from h)
    rw [hf h1, eqAll_eq hf h2]
noncomputable def eqPt (a b : Bool × List CV) : Bool := bsel (decide (a.1 = b.1)) (eqAll eqCV a.2 b.2) false
theorem eqPt_eq {a b : Bool × List CV} (h : eqPt a b = true) : a = b := by
  obtain ⟨h1, h2⟩ := bselF h
  exact Prod.ext (of_decide_eq_true h1) (eqAll_eq eqCV_eq h2)
noncomputable def eqTV (a b : TV) : Bool :=
  match a, b with
  | .one a, .one b => eqCV a b
  | .agg a, .agg b => eqAll eqCV a b
  | .tup a, .tup b => eqAll eqPt a b
  | _, _ => false
theorem eqTV_eq {a b : TV} (h : eqTV a b = true) : a = b := by
  unfold eqTV at h
  split at h
  · rw [eqCV_eq h]
  · rw [eqAll_eq eqCV_eq h]
  · rw [eqAll_eq eqPt_eq h]
  · cases h
noncomputable def eqAO (a b : AO) : Bool :=
  match a, b with
  | .cells d n e x z, .cells d' n' e' x' z' => bsel (Nat.beq n n') (bsel (Nat.beq e e') (bsel (decide (x = x')) (bsel (decide (z = z')) (eqAll eqCV d d') false) false) false) false
  | _, _ => false
theorem eqAO_eq {a b : AO} (h : eqAO a b = true) : a = b := by
  unfold eqAO at h
  split at h
  · obtain ⟨h1, h⟩ := bselF h
    obtain ⟨h2, h⟩ := bselF h
    obtain ⟨h3, h⟩ := bselF h
    obtain ⟨h4, h5⟩ := bselF h
    rw [Nat.eq_of_beq_eq_true h1, Nat.eq_of_beq_eq_true h2, of_decide_eq_true h3, of_decide_eq_true h4, eqAll_eq eqCV_eq h5]
  · cases h

/-- a call's arguments, its object, its answer -/
abbrev ME := List TV × AO × TV
noncomputable def canonT (t : TV) : TV :=
  match t with
  | .one (.sl _ o l c) => .one (.sl 3 o l c)
  | .one (.slr _ o l c e) => .one (.slr 3 o l c e)
  | t => t
noncomputable def slId (t : TV) : Option Nat :=
  match t with
  | .one (.sl a _ _ _) => some a
  | .one (.slr a _ _ _ _) => some a
  | _ => none
noncomputable def firstId (l : List TV) : Option Nat := List.rec none (fun t _ ih => Option.rec ih (fun a => some a) (slId t)) l
noncomputable def argOk (a : Nat) (t : TV) : Bool := Option.rec (plainTV t) (fun b => Nat.beq b a) (slId t)
noncomputable def argsOk (a : Nat) (l : List TV) : Bool := List.rec true (fun t _ ih => bsel (argOk a t) ih false) l
noncomputable def findM (args : List TV) (obj : AO) (l : List ME) : Option TV :=
  List.rec none (fun p _ ih => Prod.rec (fun as q => Prod.rec (fun ob v => bsel (eqAll eqTV args as) (bsel (eqAO obj ob) (some v) ih) ih) q) p) l
theorem findM_mem {args : List TV} {obj : AO} {v : TV} : ∀ {l : List ME}, findM args obj l = some v → (args, obj, v) ∈ l
  | [], h => by cases h
  | (as, ob, u) :: l, h => by
    have h : bsel (eqAll eqTV args as) (bsel (eqAO obj ob) (some u) (findM args obj l)) (findM args obj l) = some v := h
    cases h1 : eqAll eqTV args as with
    | true =>
      rw [h1, bsel_true] at h
      cases h2 : eqAO obj ob with
      | true =>
        rw [h2] at h; cases h
        rw [eqAll_eq eqTV_eq h1, eqAO_eq h2]; exact List.mem_cons_self
      | false => rw [h2] at h; exact List.mem_cons_of_mem _ (findM_mem h)
    | false => rw [h1] at h; exact List.mem_cons_of_mem _ (findM_mem h)
noncomputable def isGlob (d : List CV) (n : Nat) (o : Option AO) : Bool :=
  match o with
  | some (.cells d' n' _ true false) => bsel (Nat.beq n' n) (eqAll eqCV d' d) false
  | _ => false
theorem isGlob_spec {d : List CV} {n : Nat} {o : Option AO} (h : isGlob d n o = true) : ∃ e, o = some (.cells d n e true false) := by
  unfold isGlob at h
  split at h
  · obtain ⟨h1, h2⟩ := bselF h
    exact ⟨_, by rw [eqAll_eq eqCV_eq h2, Nat.eq_of_beq_eq_true h1]⟩
  · cases h
noncomputable def memoG (d1 : List CV) (n1 : Nat) (d2 : List CV) (n2 : Nat) (tbl : List ME) (args : List TV) (st : St) : Option (TV × St) :=
  bsel (isGlob d1 n1 (st.h.get 1)) (bsel (isGlob d2 n2 (st.h.get 2))
    (obind (firstId args) fun a => bsel (Nat.ble 3 a) (bsel (argsOk a args) (obind (st.h.get a) fun obj => bsel (plainAO obj)
      (obind (findM (mapC canonT args) obj tbl) fun v => bsel (plainTV v) (some (v, st)) none) none) none) none) none) none

theorem canon_rel {a : Nat} {ρ ρc : Rho} (h3 : ρc 3 = ρ a) : ∀ {args : List TV} {as : List Value}, argsOk a args = true → TsRel ρ args as → TsRel ρc (mapC canonT args) as
  | [], _, _, r => r
  | t :: l, _, h, ⟨y, ys, e, p, r⟩ => by
    obtain ⟨h1, h2⟩ := bselF (show bsel (argOk a t) (argsOk a l) false = true from h)
    refine ⟨y, ys, e, ?_, canon_rel h3 h2 r⟩
    unfold argOk at h1
    unfold canonT
    split
    · rename_i b o l c
      have h1 : Nat.beq b a = true := h1
      have := Nat.eq_of_beq_eq_true h1; subst this
      obtain ⟨bb, z, q1, q2⟩ := p
      exact ⟨bb, z, by rw [h3]; exact q1, q2⟩
    · rename_i b o l c es
      have h1 : Nat.beq b a = true := h1
      have := Nat.eq_of_beq_eq_true h1; subst this
      obtain ⟨bb, z, cc, q1, q2⟩ := p
      exact ⟨bb, z, cc, by rw [h3]; exact q1, q2⟩
    · rename_i n1 n2
      have hn : slId t = none := by
        unfold slId
        split
        · exact absurd rfl (n1 _ _ _ _)
        · exact absurd rfl (n2 _ _ _ _ _)
        · rfl
      rw [hn] at h1
      exact plainTV_rel h1 p

noncomputable def isRes (r : R) (v : TV) : Bool := Option.rec false (fun p => Prod.rec (fun u _ => eqTV u v) p) r
theorem isRes_spec {r : R} {v : TV} (h : isRes r v = true) : ∃ st', r = some (v, st') := by
  cases r with
  | none => cases h
  | some p =>
    obtain ⟨u, st'⟩ := p
    have h : eqTV u v = true := h
    exact ⟨st', by rw [eqTV_eq h]⟩

/-- a table that runs have told is sound -/
theorem memo_sound {call : Nat → Nat → List TV → St → R} (hs : CallSound P call) {f n1 n2 : Nat} {d1 d2 : List CV} {tbl : List ME} (q1 : plainCVs d1 = true) (q2 : plainCVs d2 = true)
    (facts : ∀ p ∈ tbl, ∀ e1 e2, isRes (call 4 f p.1 ⟨hc (.cells d1 n1 e1 true false) (.cells d2 n2 e2 true false) p.2.1, 4⟩) p.2.2 = true) :
    CallSound P (fun _ f' args st => if f' = f then memoG d1 n1 d2 n2 tbl args st else none) := by
  intro lo f' args st v st' ρ w as h m hlo hg hr
  simp only [] at h
  split at h
  · rename_i e1
    subst e1
    unfold memoG at h
    obtain ⟨g1, h⟩ := bsel_some h
    obtain ⟨g2, h⟩ := bsel_some h
    obtain ⟨a, _, h⟩ := obind_some h
    obtain ⟨g4, h⟩ := bsel_some h
    obtain ⟨g5, h⟩ := bsel_some h
    obtain ⟨obj, g6, h⟩ := obind_some h
    obtain ⟨g7, h⟩ := bsel_some h
    obtain ⟨u, g8, h⟩ := obind_some h
    obtain ⟨g9, h⟩ := bsel_some h
    cases h
    obtain ⟨e1, k1⟩ := isGlob_spec g1
    obtain ⟨e2, k2⟩ := isGlob_spec g2
    obtain ⟨stc, hrun⟩ := isRes_spec (facts _ (findM_mem g8) e1 e2)
    exact transfer hs hrun g9 k1 k2 g6 (Nat.le_of_ble_eq_true g4) q1 q2 g7 (fun ρ ρc as h3 r => canon_rel h3 g5 r) m hg hr
  · cases h
end Go.Abs
