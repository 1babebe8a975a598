/- Regions that draw: whatever the order, the same comes out. -/
import Derived.Test.YtgdgknjhhgkabaaGreatDoorMDraw2
set_option linter.unusedVariables false
set_option linter.unusedSimpArgs false
namespace Go.Abs
variable {P : Program} {E : Env}

/-! ### A part of the heap alone -/
section
variable {lo lo' c c' k : Nat} {ρ ρ' : Rho} {g r h h' : Nat → Option AO} {w w' : World}
theorem Mod.sub (m : Mod ρ g c w) (hs : ∀ id o, r id = some o → g id = some o) : Mod ρ r c w :=
  ⟨m.dom, m.lt, fun id o ho => m.obj id o (hs id o ho), fun id id' o o' b z z' h1 h2 => m.inj id id' o o' b z z' (hs _ _ h1) (hs _ _ h2)⟩
theorem Mod.ltc (m : Mod ρ g c w) {id : Nat} {o : AO} (h : g id = some o) : id < c := by
  obtain ⟨b, z, ob, h1, _⟩ := m.obj id o h
  rcases Nat.lt_or_ge id c with hlt | hge
  · exact hlt
  · rw [m.dom id hge] at h1; cases h1
theorem Ext.weaken (hle : lo ≤ lo') (e : Ext lo' ρ h c w ρ' h' c' w') : Ext lo ρ h c w ρ' h' c' w' where
  cc := e.cc
  env := e.env
  old := e.old
  mod := e.mod
  size := e.size
  new id b z hc hp := by
    rcases e.new id b z hc hp with h1 | ⟨i, z', h1, h2, h3, h4⟩
    · exact .inl h1
    · exact .inr ⟨i, z', by omega, h2, h3, h4⟩
  frame := e.frame
  low id hid := e.low id (by omega)
  dead := e.dead

noncomputable def join (g r h' : Nat → Option AO) : Nat → Option AO := fun id => match r id, g id with
  | none, some o => some o
  | _, _ => h' id
theorem join_cases (g r h' : Nat → Option AO) (id : Nat) : (r id = none ∧ ∃ o, g id = some o ∧ join g r h' id = some o) ∨ ((r id ≠ none ∨ g id = none) ∧ join g r h' id = h' id) := by
  unfold join
  cases hr : r id with
  | some o => exact .inr ⟨.inl (by simp), rfl⟩
  | none =>
    cases hg : g id with
    | none => exact .inr ⟨.inr rfl, rfl⟩
    | some o => exact .inl ⟨rfl, o, rfl, rfl⟩
theorem Ext.frameRule (m : Mod ρ g c w) (hs : ∀ id o, r id = some o → g id = some o) (e : Ext lo ρ r c w ρ' h' c' w') : Ext lo ρ g c w ρ' (join g r h') c' w' where
  cc := e.cc
  env := e.env
  old := e.old
  size := e.size
  new id b z hc hp := by
    rcases e.new id b z hc hp with h1 | ⟨i, z', h1, h2, h3, h4⟩
    · exact .inl h1
    · refine .inr ⟨i, z', h1, h2, h3, fun q => ?_⟩
      cases hr : r i with
      | none => exact h4 hr
      | some o => rw [hs i o hr] at q; cases q
  frame b hb hn := e.frame b hb fun id z hp => by
    cases hr : r id with
    | none => rfl
    | some o => have := hn id z hp; rw [hs id o hr] at this; cases this
  low id hid := by
    rcases join_cases g r h' id with ⟨_, o, h2, h3⟩ | ⟨h1, h2⟩
    · rw [h3, h2]
    · rw [h2, e.low id hid]
      rcases h1 with h1 | h1
      · cases hr : r id with
        | none => exact absurd hr h1
        | some o => exact (hs id o hr).symm
      · rw [h1]
        cases hr : r id with
        | none => rfl
        | some o => rw [hs id o hr] at h1; cases h1
  dead id hid h0 := by
    rcases join_cases g r h' id with ⟨_, o, h2, h3⟩ | ⟨h1, h2⟩
    · rw [h2] at h0; cases h0
    · rw [h2]
      refine e.dead id hid ?_
      cases hr : r id with
      | none => rfl
      | some o => rw [hs id o hr] at h0; cases h0
  mod := by
    have old : ∀ {id o}, r id = none → g id = some o → ∃ b z ob, ρ id = some (b, z) ∧ ρ' id = some (b, z) ∧ w'.heap[b]? = some ob ∧ ORel ρ' o ob z := by
      intro id o hr hg
      obtain ⟨b, z, ob, h1, h2, h3⟩ := m.obj id o hg
      have hid := m.ltc hg
      refine ⟨b, z, ob, h1, by rw [e.old id hid]; exact h1, ?_, h3.mono (e.le (m.sub hs))⟩
      rw [e.frame b (m.lt id b z h1) fun id' z' hp => ?_]
      · exact h2
      · cases hr' : r id' with
        | none => rfl
        | some o' =>
          have := m.inj id id' o o' b z z' hg (hs _ _ hr') h1 hp
          subst this
          rw [hr] at hr'; cases hr'
    have mix : ∀ {id id' o o' b z z'}, r id = none → g id = some o → h' id' = some o' → ρ' id = some (b, z) → ρ' id' = some (b, z') → id = id' := by
      intro id id' o o' b z z' hr hg hh hp hp'
      have hid := m.ltc hg
      rw [e.old id hid] at hp
      rcases Nat.lt_or_ge id' c with hlt | hge
      · cases hr' : r id' with
        | none => rw [e.dead id' hlt hr'] at hh; cases hh
        | some o2 =>
          rw [e.old id' hlt] at hp'
          exact m.inj id id' o o2 b z z' hg (hs _ _ hr') hp hp'
      · rcases e.new id' b z' hge hp' with h1 | ⟨i, z2, _, _, h3, h4⟩
        · have := m.lt id b z hp
          omega
        · cases hr' : r i with
          | none => exact absurd hr' h4
          | some o2 =>
            have := m.inj id i o o2 b z z2 hg (hs _ _ hr') hp h3
            subst this
            rw [hr] at hr'; cases hr'
    exact
    { dom := e.mod.dom
      lt := e.mod.lt
      obj := fun id o ho => by
        rcases join_cases g r h' id with ⟨h1, o', h2, h3⟩ | ⟨_, h2⟩
        · rw [h3] at ho; cases ho
          obtain ⟨b, z, ob, _, g2, g3, g4⟩ := old h1 h2
          exact ⟨b, z, ob, g2, g3, g4⟩
        · rw [h2] at ho; exact e.mod.obj id o ho
      inj := fun id id' o o' b z z' h1 h2 p1 p2 => by
        rcases join_cases g r h' id with ⟨a1, o1, a2, a3⟩ | ⟨_, a2⟩ <;> rcases join_cases g r h' id' with ⟨b1, o2, b2, b3⟩ | ⟨_, b2⟩
        · have q1 := e.old id (m.ltc a2)
          have q2 := e.old id' (m.ltc b2)
          rw [q1] at p1; rw [q2] at p2
          exact m.inj id id' o1 o2 b z z' a2 b2 p1 p2
        · rw [b2] at h2
          exact mix a1 a2 h2 p1 p2
        · rw [a2] at h1
          exact (mix b1 b2 h1 p2 p1).symm
        · rw [a2] at h1; rw [b2] at h2
          exact e.mod.inj id id' o o' b z z' h1 h2 p1 p2 }
/-- a new object at an id that was kept for it -/
theorem Mod.allocAt (m : Mod ρ g c w) {o : AO} {ob : Obj} {z : Nat} (hn : ρ k = none) (hk : k < c) (r : ORel (Rho.set ρ k (w.heap.size, z)) o ob z) (hw : w'.heap = w.heap.push ob) :
    Mod (Rho.set ρ k (w.heap.size, z)) (hset g k (some o)) c w' where
  dom id hid := by unfold Rho.set; rw [if_neg (by omega)]; exact m.dom id hid
  lt id b z' hp := by
    rw [hw, Array.size_push]
    unfold Rho.set at hp
    split at hp
    · cases hp; omega
    · have := m.lt id b z' hp; omega
  obj id o' ho := by
    unfold hset at ho
    split at ho
    · rename_i e; subst e; cases ho
      exact ⟨w.heap.size, z, ob, by unfold Rho.set; rw [if_pos rfl], by rw [hw]; simp, r⟩
    · rename_i hne
      obtain ⟨b, z', ob', h1, h2, h3⟩ := m.obj id o' ho
      have hb := m.lt id b z' h1
      refine ⟨b, z', ob', by unfold Rho.set; rw [if_neg hne]; exact h1, by rw [hw]; simp [Array.getElem?_push, Nat.ne_of_lt hb, h2], h3.mono fun id q hq => ?_⟩
      unfold Rho.set
      split
      · rename_i e; subst e; rw [hn] at hq; cases hq
      · exact hq
  inj id id' o1 o2 b z1 z2 h1 h2 p1 p2 := by
    unfold Rho.set at p1 p2
    unfold hset at h1 h2
    split at p1 <;> split at p2
    · rename_i e1 e2; rw [e1, e2]
    · cases p1; have := m.lt _ _ _ p2; omega
    · cases p2; have := m.lt _ _ _ p1; omega
    · rename_i e1 e2
      rw [if_neg e1] at h1; rw [if_neg e2] at h2
      exact m.inj id id' o1 o2 b z1 z2 h1 h2 p1 p2
end

/-! ### What holds on the way -/
section
variable {e : Ev} {lo c0 : Nat} {h0 : T AO} {f0 : Fr} {l : List Oper} {ms : List Nat} {D : Nat → DS} {ev : Nat → Evt} {v : Nat → TV} {a0 a : Act} {ρ0 ρ ρ' : Rho} {w0 w w' : World} {S : Nat → Prop} {G : Nat → Option AO} {q i : Nat} {o : Oper}

structure RegInv (l : List Oper) (v : Nat → TV) (f0 : Fr) (a0 : Act) (S : Nat → Prop) (ρ : Rho) (a : Act) : Prop where
  size : a.tmps.size = f0.n
  dfs : a.defers = a0.defers
  r2 : ∀ t j, S j → Wr l j t → (∀ j', S j' → Wr l j' t → j' ≤ j) → ∃ x, a.tmps[t]? = some x ∧ TRel ρ (v j) x
  r3 : ∀ t u, (∀ j, S j → ¬ Wr l j t) → f0.regs.get t = some u → ∃ x, a.tmps[t]? = some x ∧ TRel ρ u x
/-- i is the next one -/
structure Rd (l : List Oper) (ms : List Nat) (S : Nat → Prop) (i : Nat) : Prop where
  lt : i < l.length
  not : ¬ S i
  go : ∀ j, Bf ms i j → S j
  clos : ∀ i j, S i → Bf ms i j → S j
  sub : ∀ j, S j → j < l.length
theorem Tr.pr (T : Tr E e lo c0 h0 f0 l ms D ev v) {i j : Nat} {o x : Oper} (hj : j < i) (ho : l[i]? = some o) (hx : l[j]? = some x) : Bf ms i j ∨ apartA l x o = true := by
  have hl : i < ms.length := by rw [T.msk.len]; exact (List.getElem?_eq_some_iff.1 ho).1
  rcases T.msk.pairs i j _ o x hj (List.getElem?_eq_getElem hl) ho hx with h | h
  · exact .inl ⟨_, List.getElem?_eq_getElem hl, h⟩
  · exact .inr h
theorem RegInv.read (T : Tr E e lo c0 h0 f0 l ms D ev v) (R : RegInv l v f0 a0 S ρ a) (rd : Rd l ms S i) (ho : l[i]? = some o) {t : Nat} (ht : t ∈ looks l o) {u : TV} (hu : (D i).f.regs.get t = some u) : ∃ x, a.tmps[t]? = some x ∧ TRel ρ u x := by
  have in1 : ∀ j, j < i → Wr l j t → S j := fun j hj ⟨x, hx, hd⟩ => by
    rcases T.pr hj ho hx with h | h
    · exact rd.go j h
    · exact absurd ht ((apartA_spec h).1 t hd)
  have in2 : ∀ j, S j → Wr l j t → j < i := fun j hj ⟨x, hx, hd⟩ => by
    rcases Nat.lt_trichotomy j i with h | h | h
    · exact h
    · subst h; exact absurd hj rd.not
    · rcases T.pr h hx ho with g | g
      · exact absurd (rd.clos j i hj g) rd.not
      · exact absurd ht ((apartA_spec g).2.1 t hd)
  rcases T.reg t (k := i) (Nat.le_of_lt rd.lt) with ⟨j, h1, h2, h3, h4⟩ | ⟨h1, h2⟩
  · rw [h4] at hu; cases hu
    exact R.r2 t j (in1 j h1 h2) h2 fun j' g1 g2 => h3 j' (in2 j' g1 g2) g2
  · rw [h2] at hu
    exact R.r3 t u (fun j g1 g2 => h1 j (in2 j g1 g2) g2) hu
theorem RegInv.put (T : Tr E e lo c0 h0 f0 l ms D ev v) (R : RegInv l v f0 a0 S ρ a) (hle : Le ρ ρ') (rd : Rd l ms S i) (ho : l[i]? = some o) {x : Value} (hx : TRel ρ' (v i) x) : RegInv l v f0 a0 (fun j => S j ∨ j = i) ρ' (a.put o.dst x) := by
  have hlt : ∀ t, o.dst = some t → t < a.tmps.size := fun t hd => by
    obtain ⟨o', m, s, ho', _, hs⟩ := T.at rd.lt
    rw [ho] at ho'; cases ho'
    obtain ⟨_, _, _, _, h5, _⟩ := put_same hs.put
    rw [R.size, ← (T.frame (Nat.le_of_lt rd.lt)).1]
    exact h5 t hd
  have get : ∀ t, (a.put o.dst x).tmps[t]? = if o.dst = some t then some x else a.tmps[t]? := fun t => by
    cases hd : o.dst with
    | none => rw [if_neg (by simp)]; rfl
    | some t' =>
      have h1 := hlt t' hd
      show (a.tmps.setIfInBounds t' x)[t]? = _
      by_cases ht : t = t'
      · subst ht; simp [h1]
      · rw [if_neg (fun q => ht (Option.some.inj q).symm)]; simp [Ne.symm ht]
  refine ⟨?_, ?_, fun t j hj hw hm => ?_, fun t u hn hu => ?_⟩
  · cases hd : o.dst with
    | none => exact R.size
    | some t => show (a.tmps.setIfInBounds t x).size = _; simpa using R.size
  · cases o.dst <;> exact R.dfs
  · rw [get]
    by_cases hd : o.dst = some t
    · rw [if_pos hd]
      have hji : j = i := by
        rcases hj with hj | hj
        · have hle := hm i (.inr rfl) ⟨o, ho, hd⟩
          rcases Nat.lt_or_ge i j with hij | hij
          · obtain ⟨oj, hoj, hdj⟩ := hw
            rcases T.pr hij hoj ho with g | g
            · exact absurd (rd.clos j i hj g) rd.not
            · exact absurd hdj ((apartA_spec g).2.2 t hd)
          · omega
        · exact hj
      subst hji
      exact ⟨x, rfl, hx⟩
    · rw [if_neg hd]
      rcases hj with hj | rfl
      · obtain ⟨y, h1, h2⟩ := R.r2 t j hj hw fun j' g1 g2 => hm j' (.inl g1) g2
        exact ⟨y, h1, h2.mono hle⟩
      · obtain ⟨o', ho', hd'⟩ := hw
        rw [ho] at ho'; cases ho'
        exact absurd hd' hd
  · rw [get, if_neg (fun hd => hn i (.inr rfl) ⟨o, ho, hd⟩)]
    obtain ⟨y, h1, h2⟩ := R.r3 t u (fun j g1 g2 => hn j (.inl g1) g2) hu
    exact ⟨y, h1, h2.mono hle⟩

structure Good (c0 : Nat) (l : List Oper) (ms : List Nat) (D : Nat → DS) (ev : Nat → Evt) (p : Nat) : Prop where
  dead : ∀ j, j < l.length → Free l ms ev p j → (D p).h.get (c0 + j) = none
  room : c0 + l.length ≤ (D p).c
  lt : ∀ id o, (D p).h.get id = some o → id < (D p).c
  wr : ∀ x k, x < p → x < l.length → ev x = .hv k → ∀ id, id < (D x).c → wrOk k id = true → (D (x + 1)).h.get id = (hrOf c0 ms D x).get id
theorem Good.next (T : Tr E e lo c0 h0 f0 l ms D ev v) {p : Nat} (g : Good c0 l ms D ev p) (hp : p < l.length) (hn : ¬ isC l ev p) : Good c0 l ms D ev (p + 1) := by
  obtain ⟨h1, h2⟩ := T.calm (p := p) (k := p + 1) (by omega) (by omega) fun x g1 g2 => by
    have : x = p := by omega
    subst this; exact hn
  refine ⟨fun j hj hf => ?_, by rw [h2]; exact g.room, fun id o ho => by rw [h1] at ho; rw [h2]; exact g.lt id o ho, fun x k hx hxl hev => ?_⟩
  · rw [h1]; exact g.dead j hj fun x hx hc => hf x (by omega) hc
  · rcases Nat.lt_or_ge x p with hlt | hge
    · exact g.wr x k hlt hxl hev
    · have : x = p := by omega
      subst this; exact absurd ⟨hp, k, hev⟩ hn
theorem Good.upto (T : Tr E e lo c0 h0 f0 l ms D ev v) {q : Nat} (g : ∀ p, p ≤ q → Good c0 l ms D ev p) : ∀ {q' : Nat}, q' ≤ l.length → (∀ x, q ≤ x → x < q' → ¬ isC l ev x) → ∀ p, p ≤ q' → Good c0 l ms D ev p
  | 0, _, _, p, hp => g p (by omega)
  | q' + 1, hq, hn, p, hp => by
    have ih := Good.upto T g (q' := q') (by omega) fun x h1 h2 => hn x h1 (by omega)
    rcases Nat.lt_or_ge q' q with hlt | hge
    · exact g p (by omega)
    · rcases Nat.lt_or_ge p (q' + 1) with hlt | hge'
      · exact ih p (by omega)
      · have : p = q' + 1 := by omega
        subst this
        exact (ih q' (by omega)).next T (by omega) (hn q' hge (by omega))

structure InvAt (lo c0 : Nat) (h0 : T AO) (f0 : Fr) (l : List Oper) (ms : List Nat) (D : Nat → DS) (ev : Nat → Evt) (v : Nat → TV) (a0 : Act) (ρ0 : Rho) (w0 : World) (S : Nat → Prop) (a : Act) (w : World) (ρ : Rho) (G : Nat → Option AO) (q : Nat) : Prop where
  reg : RegInv l v f0 a0 S ρ a
  qle : q ≤ l.length
  hq : ∀ i, isC l ev i → (S i ↔ i < q)
  ext : Ext lo ρ0 h0.get c0 w0 ρ G (D q).c w
  g1 : ∀ id o, (D q).h.get id = some o → G id = some o
  g2 : ∀ j ob, S j → ev j = .lay ob → Free l ms ev q j → G (c0 + j) = some ob
  g3 : ∀ id o, G id = some o → (D q).h.get id = some o ∨ ∃ j, S j ∧ ev j = .lay o ∧ Free l ms ev q j ∧ id = c0 + j
  g5 : ∀ j, j < l.length → ¬ S j → ρ (c0 + j) = none
  good : ∀ p, p ≤ q → Good c0 l ms D ev p

theorem InvAt.move (T : Tr E e lo c0 h0 f0 l ms D ev v) (I : InvAt lo c0 h0 f0 l ms D ev v a0 ρ0 w0 S a w ρ G q) {q' : Nat} (hq' : q' ≤ l.length) (hc : ∀ x, isC l ev x → (x < q ↔ x < q')) :
    InvAt lo c0 h0 f0 l ms D ev v a0 ρ0 w0 S a w ρ G q' := by
  have hh : (D q').h = (D q).h ∧ (D q').c = (D q).c := by
    rcases Nat.le_total q q' with h | h
    · exact T.calm h hq' fun x h1 h2 hx => by have := (hc x hx).2 h2; omega
    · obtain ⟨h1, h2⟩ := T.calm h I.qle fun x h1 h2 hx => by have := (hc x hx).1 h2; omega
      exact ⟨h1.symm, h2.symm⟩
  have fr : ∀ j, Free l ms ev q' j ↔ Free l ms ev q j := fun j => ⟨fun h x hx hcx => h x ((hc x hcx).1 hx) hcx, fun h x hx hcx => h x ((hc x hcx).2 hx) hcx⟩
  exact
  { reg := I.reg
    qle := hq'
    hq := fun x hx => (I.hq x hx).trans (hc x hx)
    ext := by rw [hh.2]; exact I.ext
    g1 := by rw [hh.1]; exact I.g1
    g2 := fun j ob h1 h2 h3 => I.g2 j ob h1 h2 ((fr j).1 h3)
    g3 := fun id o h => by
      rw [hh.1]
      rcases I.g3 id o h with h | ⟨j, h1, h2, h3, h4⟩
      · exact .inl h
      · exact .inr ⟨j, h1, h2, (fr j).2 h3, h4⟩
    g5 := I.g5
    good := by
      rcases Nat.le_total q q' with h | h
      · exact Good.upto T I.good hq' fun x h1 h2 hx => by have := (hc x hx).2 h2; omega
      · exact fun p hp => I.good p (by omega) }

theorem firstC (l : List Oper) (ms : List Nat) (ev : Nat → Evt) (j : Nat) : ∀ q, ¬ Free l ms ev q j → ∃ x, x < q ∧ isC l ev x ∧ Bf ms x j ∧ Free l ms ev x j
  | 0, h => absurd (fun i hi => by omega) h
  | q + 1, h => by
    by_cases hf : Free l ms ev q j
    · by_cases hx : isC l ev q ∧ Bf ms q j
      · exact ⟨q, by omega, hx.1, hx.2, hf⟩
      · refine absurd (fun i hi hc hb => ?_) h
        rcases Nat.lt_or_ge i q with hlt | hge
        · exact hf i hlt hc hb
        · have : i = q := by omega
          subst this; exact hx ⟨hc, hb⟩
    · obtain ⟨x, h1, h2⟩ := firstC l ms ev j q hf
      exact ⟨x, by omega, h2⟩

/-- an operation that looks at one object finds what it found in the text's order -/
theorem InvAt.seen (T : Tr E e lo c0 h0 f0 l ms D ev v) (I : InvAt lo c0 h0 f0 l ms D ev v a0 ρ0 w0 S a w ρ G q) (rd : Rd l ms S i) {a' m : Nat} {ob : AO} (hm : ms[i]? = some m) (hi : ev i = .ld a')
    (hs : Go.Abs.seen m a' c0 h0 (D i).als (D i).cs = some ob) : G a' = some ob := by
  obtain ⟨hsn, h1, h2⟩ := obind_some hs
  have hil : i ≤ l.length := Nat.le_of_lt rd.lt
  obtain ⟨p, p1, rfl, p3, p4⟩ := T.snap hil h1
  have pq : p ≤ q := by
    rcases p3 with rfl | ⟨x, rfl, hc, hb⟩
    · omega
    · have := (I.hq x hc).1 (rd.go x ⟨m, hm, hb⟩); omega
  have nw : ∀ x, p ≤ x → x < q → x < l.length → ∀ k, ev x = .hv k → wrOk k a' = true := by
    intro x hx1 hx2 hxl k hk
    rcases Nat.lt_trichotomy x i with h | h | h
    · exact (p4 x hx1 h ⟨hxl, k, hk⟩).2 k hk
    · subst h; rw [hi] at hk; cases hk
    · refine T.kind hi hk h hxl fun hb => rd.not ?_
      exact rd.clos x i ((I.hq x ⟨hxl, k, hk⟩).2 hx2) hb
  have keep : ∀ {p1 : Nat} {ob' : AO}, p ≤ p1 → (D p1).h.get a' = some ob' → ∀ n, p1 ≤ n → n ≤ q → (D n).h.get a' = some ob' := by
    intro p1 ob' hp1 hob n
    induction n with
    | zero => intro hn _; have : p1 = 0 := by omega
              subst this; exact hob
    | succ n ih =>
      intro hn hnq
      rcases Nat.lt_or_ge n p1 with hlt | hge
      · have : p1 = n + 1 := by omega
        subst this; exact hob
      · have ihn := ih hge (by omega)
        have hnl : n < l.length := by have := I.qle; omega
        have gn := I.good n (by omega)
        by_cases hc : isC l ev n
        · obtain ⟨_, k, hk⟩ := hc
          rw [(I.good (n + 1) hnq).wr n k (by omega) hnl hk a' (gn.lt _ _ ihn) (nw n (by omega) (by omega) hnl k hk)]
          rcases T.hr_cases hnl a' with ⟨j, ob2, rfl, g1, g2, g3, g4, _⟩ | h
          · rw [gn.dead j (by omega) g4] at ihn; cases ihn
          · rw [h]; exact ihn
        · rw [(T.calm (p := n) (k := n + 1) (by omega) (by omega) fun x h1 h2 => by
            have : x = n := by omega
            subst this; exact hc).1]
          exact ihn
  cases hg : (D p).h.get a' with
  | some ob' =>
    rw [hg] at h2
    have h2 : some ob' = some ob := h2
    cases h2
    exact I.g1 _ _ (keep (Nat.le_refl _) hg q pq (Nat.le_refl _))
  | none =>
    rw [hg] at h2
    obtain ⟨j, h3, h4, h5, h6⟩ := alsFind_spec (show alsFind m a' c0 (D i).cs (D i).als = some ob from h2)
    obtain ⟨h7, h8⟩ := T.als hil h3
    have hSj := rd.go j ⟨m, hm, h5⟩
    by_cases hf : Free l ms ev q j
    · rw [← h4]; exact I.g2 j ob hSj h8 hf
    · obtain ⟨x, x1, x2, x3, x4⟩ := firstC l ms ev j q hf
      have hpx : p ≤ x := by
        rcases Nat.lt_or_ge x p with hlt | hge
        · exfalso
          rcases p3 with rfl | ⟨y, rfl, hc, hb⟩
          · omega
          · have hbx : bit m x = true := by
              rcases Nat.lt_or_ge x y with hxy | hxy
              · obtain ⟨my, hmy, hby⟩ := T.chain x2 y hxy hc
                exact T.msk.m3 i m y my x hm hb hmy hby
              · have : x = y := by omega
                subst this; exact hb
            exact T.absd hil h6 x (by omega) x2 hbx x3
        · exact hge
      obtain ⟨hxl, k, hk⟩ := x2
      have hin := T.hr_in hxl h8 x3 x4
      have hjl : j < l.length := by omega
      have := (I.good (x + 1) (by omega)).wr x k (by omega) hxl hk (c0 + j) (by have := (I.good x (by omega)).room; omega) (by rw [h4]; exact nw x hpx x1 hxl k hk)
      rw [hin] at this
      rw [h4] at this
      exact I.g1 _ _ (keep (by omega) this q (by omega) (Nat.le_refl _))

/-! ### One step -/
theorem InvAt.calmStep (T : Tr E e lo c0 h0 f0 l ms D ev v) (m0 : Mod ρ0 h0.get c0 w0) (I : InvAt lo c0 h0 f0 l ms D ev v a0 ρ0 w0 S a w ρ G q) (rd : Rd l ms S i) (ho : l[i]? = some o) (hn : (∀ k, ev i ≠ .hv k) ∧ ∀ ob, ev i ≠ .lay ob)
    {x : Value} (hx : TRel ρ' (v i) x) (ex : Ext lo ρ G (D q).c w ρ' G (D q).c w') : InvAt lo c0 h0 f0 l ms D ev v a0 ρ0 w0 (fun j => S j ∨ j = i) (a.put o.dst x) w' ρ' G q where
  reg := I.reg.put T (ex.le I.ext.mod) rd ho hx
  qle := I.qle
  hq k hk := by
    have hne : k ≠ i := by rintro rfl; obtain ⟨_, n, hn'⟩ := hk; exact hn.1 n hn'
    simp [hne, I.hq k hk]
  ext := I.ext.trans m0 ex
  g1 := I.g1
  g2 j ob hj hev hf := by
    rcases hj with hj | rfl
    · exact I.g2 j ob hj hev hf
    · exact absurd hev (hn.2 ob)
  g3 id o' h := by
    rcases I.g3 id o' h with h | ⟨j, h1, h2⟩
    · exact .inl h
    · exact .inr ⟨j, .inl h1, h2⟩
  g5 j hj hn' := by
    rw [ex.old (c0 + j) (by have := (I.good q (Nat.le_refl _)).room; omega)]
    exact I.g5 j hj fun h => hn' (.inl h)
  good := I.good
theorem InvAt.free (T : Tr E e lo c0 h0 f0 l ms D ev v) (I : InvAt lo c0 h0 f0 l ms D ev v a0 ρ0 w0 S a w ρ G q) (rd : Rd l ms S i) : Free l ms ev q i := fun x hx hc hb => rd.not (rd.clos x i ((I.hq x hc).2 hx) hb)
theorem InvAt.layStep (T : Tr E e lo c0 h0 f0 l ms D ev v) (I : InvAt lo c0 h0 f0 l ms D ev v a0 ρ0 w0 S a w ρ G q) (hlo : lo ≤ c0) (rd : Rd l ms S i) (ho : l[i]? = some o) {ob : AO} (hev : ev i = .lay ob) {obj : Obj} {z : Nat}
    {x : Value} (hx : TRel (Rho.set ρ (c0 + i) (w.heap.size, z)) (v i) x) (hr : ORel ρ ob obj z) (hw3 : World.env3 w' = (w.heap.push obj, w.os, w.output)) :
    InvAt lo c0 h0 f0 l ms D ev v a0 ρ0 w0 (fun j => S j ∨ j = i) (a.put o.dst x) w' (Rho.set ρ (c0 + i) (w.heap.size, z)) (hset G (c0 + i) (some ob)) q := by
  have hw : w'.heap = w.heap.push obj := congrArg (fun p => p.1) hw3
  have hn := I.g5 i rd.lt rd.not
  have hroom := (I.good q (Nat.le_refl _)).room
  have hil := rd.lt
  have hle : Le ρ (Rho.set ρ (c0 + i) (w.heap.size, z)) := fun id p hp => by
    unfold Rho.set
    split
    · rename_i e1; subst e1; rw [hn] at hp; cases hp
    · exact hp
  have hfree := I.free T rd
  have hdead := (I.good q (Nat.le_refl _)).dead i rd.lt hfree
  refine
  { reg := I.reg.put T hle rd ho hx
    qle := I.qle
    hq := fun k hk => ?_
    ext := ?_
    g1 := fun id o' h => ?_
    g2 := fun j ob' hj hev' hf => ?_
    g3 := fun id o' h => ?_
    g5 := fun j hj hn' => ?_
    good := I.good }
  · have hne : k ≠ i := by rintro rfl; obtain ⟨_, n, hn'⟩ := hk; rw [hev] at hn'; cases hn'
    simp [hne, I.hq k hk]
  · have ex := I.ext
    exact
    { cc := ex.cc
      env := (congrArg (fun p => p.2) hw3 : World.env2 w' = World.env2 w).trans ex.env
      old := fun id hid => by unfold Rho.set; rw [if_neg (by omega)]; exact ex.old id hid
      mod := ex.mod.allocAt hn (by omega) (hr.mono hle) hw
      size := by rw [hw, Array.size_push]; have := ex.size; omega
      new := fun id b z' hc hp => by
        unfold Rho.set at hp
        split at hp
        · cases hp; exact .inl ex.size
        · exact ex.new id b z' hc hp
      frame := fun b hb hn' => by
        rw [← ex.frame b hb hn', hw]
        have := ex.size
        simp [Array.getElem?_push, Nat.ne_of_lt (Nat.lt_of_lt_of_le hb this)]
      low := fun id hid => by unfold hset; rw [if_neg (by omega)]; exact ex.low id hid
      dead := fun id hid h => by unfold hset; rw [if_neg (by omega)]; exact ex.dead id hid h }
  · unfold hset
    split
    · rename_i e1; subst e1; rw [hdead] at h; cases h
    · exact I.g1 id o' h
  · unfold hset
    by_cases hji : j = i
    · subst hji; rw [if_pos rfl]; rw [hev] at hev'; cases hev'; rfl
    · rw [if_neg (by omega)]
      rcases hj with hj | hj
      · exact I.g2 j ob' hj hev' hf
      · exact absurd hj hji
  · unfold hset at h
    split at h
    · rename_i e1; cases h
      exact .inr ⟨i, .inr rfl, hev, hfree, e1⟩
    · rcases I.g3 id o' h with h | ⟨j, h1, h2⟩
      · exact .inl h
      · exact .inr ⟨j, .inl h1, h2⟩
  · unfold Rho.set
    rw [if_neg (by have : j ≠ i := fun q => hn' (.inr q)
                   omega)]
    exact I.g5 j hj fun h => hn' (.inl h)

theorem InvAt.hr_sub (T : Tr E e lo c0 h0 f0 l ms D ev v) (I : InvAt lo c0 h0 f0 l ms D ev v a0 ρ0 w0 S a w ρ G i) (rd : Rd l ms S i) (id : Nat) (o' : AO) (h : (hrOf c0 ms D i).get id = some o') : G id = some o' := by
  rcases T.hr_cases rd.lt id with ⟨j, ob, rfl, h1, h2, h3, h4, h5⟩ | h1
  · rw [h5] at h; cases h
    exact I.g2 j _ (rd.go j h3) h2 h4
  · rw [h1] at h; exact I.g1 id o' h
theorem InvAt.hvStep (T : Tr E e lo c0 h0 f0 l ms D ev v) (m0 : Mod ρ0 h0.get c0 w0) (I : InvAt lo c0 h0 f0 l ms D ev v a0 ρ0 w0 S a w ρ G i) (rd : Rd l ms S i) (ho : l[i]? = some o) {k lo' : Nat} (hev : ev i = .hv k) (hlo : lo ≤ lo')
    {x : Value} (hx : TRel ρ' (v i) x) (ex : Ext lo' ρ (hrOf c0 ms D i).get (D i).c w ρ' (D (i + 1)).h.get (D (i + 1)).c w')
    (hwr : ∀ id, id < (D i).c → wrOk k id = true → (D (i + 1)).h.get id = (hrOf c0 ms D i).get id) :
    InvAt lo c0 h0 f0 l ms D ev v a0 ρ0 w0 (fun j => S j ∨ j = i) (a.put o.dst x) w' ρ' (join G (hrOf c0 ms D i).get (D (i + 1)).h.get) (i + 1) := by
  have hil := rd.lt
  have gi := I.good i (Nat.le_refl _)
  have hroom := gi.room
  have hfr := (Ext.frameRule I.ext.mod (I.hr_sub T rd) ex).weaken hlo
  have hci : isC l ev i := ⟨hil, k, hev⟩
  have fi : ∀ {j}, Free l ms ev (i + 1) j → Free l ms ev i j := fun h x hx hc => h x (by omega) hc
  have hnone : ∀ j, j < l.length → Free l ms ev (i + 1) j → (hrOf c0 ms D i).get (c0 + j) = none := fun j hj hf => by
    rcases T.hr_cases hil (c0 + j) with ⟨j', ob, h0, h1, h2, h3, h4, h5⟩ | h1
    · have : j = j' := by omega
      subst this
      exact absurd h3 (hf i (by omega) hci)
    · rw [h1]; exact gi.dead j hj (fi hf)
  refine
  { reg := I.reg.put T (hfr.le I.ext.mod) rd ho hx
    qle := by omega
    hq := fun x hx => ?_
    ext := I.ext.trans m0 hfr
    g1 := fun id o' h => ?_
    g2 := fun j ob hj hev' hf => ?_
    g3 := fun id o' h => ?_
    g5 := fun j hj hn' => ?_
    good := fun p hp => ?_ }
  · have := I.hq x hx
    constructor
    · rintro (h | h)
      · have := this.1 h; omega
      · omega
    · intro h
      rcases Nat.lt_or_ge x i with hlt | hge
      · exact .inl (this.2 hlt)
      · exact .inr (by omega)
  · rcases join_cases G (hrOf c0 ms D i).get (D (i + 1)).h.get id with ⟨h1, o2, h2, h3⟩ | ⟨_, h2⟩
    · rw [ex.dead id (I.ext.mod.ltc h2) h1] at h; cases h
    · rw [h2]; exact h
  · have hji : j ≠ i := by rintro rfl; rw [hev] at hev'; cases hev'
    have hj : S j := by
      rcases hj with hj | hj
      · exact hj
      · exact absurd hj hji
    have h1 := I.g2 j ob hj hev' (fi hf)
    have h2 := hnone j (rd.sub j hj) hf
    rcases join_cases G (hrOf c0 ms D i).get (D (i + 1)).h.get (c0 + j) with ⟨_, o2, h3, h4⟩ | ⟨h3, _⟩
    · rw [h1] at h3; cases h3; exact h4
    · rcases h3 with h3 | h3
      · exact absurd h2 h3
      · rw [h1] at h3; cases h3
  · rcases join_cases G (hrOf c0 ms D i).get (D (i + 1)).h.get id with ⟨h1, o2, h2, h3⟩ | ⟨_, h2⟩
    · rw [h3] at h; cases h
      rcases I.g3 id _ h2 with h4 | ⟨j, h4, h5, h6, rfl⟩
      · rcases T.hr_cases hil id with ⟨_, ob, _, _, _, _, _, h5⟩ | h5
        · rw [h5] at h1; cases h1
        · rw [h5, h4] at h1; cases h1
      · refine .inr ⟨j, .inl h4, h5, fun x hx hc hb => ?_, rfl⟩
        rcases Nat.lt_or_ge x i with hlt | hge
        · exact h6 x hlt hc hb
        · have : x = i := by omega
          subst this
          rw [T.hr_in hil h5 hb h6] at h1; cases h1
    · rw [h2] at h; exact .inl h
  · rw [ex.old (c0 + j) (by omega)]
    exact I.g5 j hj fun h => hn' (.inl h)
  · rcases Nat.lt_or_ge p (i + 1) with hlt | hge
    · exact I.good p (by omega)
    · have : p = i + 1 := by omega
      subst this
      refine ⟨fun j hj hf => ex.dead _ (by omega) (hnone j hj hf), Nat.le_trans hroom ex.cc, fun id o' h => ex.mod.ltc h, fun x k' hx hxl hk' => ?_⟩
      rcases Nat.lt_or_ge x i with hlt | hge
      · exact gi.wr x k' hlt hxl hk'
      · have : x = i := by omega
        subst this
        rw [hev] at hk'; cases hk'
        exact hwr
end
end Go.Abs
