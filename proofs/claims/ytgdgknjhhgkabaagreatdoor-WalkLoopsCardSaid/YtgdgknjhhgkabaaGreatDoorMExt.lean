/- What an abstract heap says of a world; how a run goes from one to the next. -/
import Derived.Test.YtgdgknjhhgkabaaGreatDoorMRel
set_option linter.unusedVariables false
set_option linter.unusedSimpArgs false
namespace Go.Abs

def ERel (ρ : Rho) : List (CV × Bool × List CV) → List MapEntry → Prop
  | [], l => l = []
  | e :: es, l => ∃ m ms, l = m :: ms ∧ CRel ρ e.1 m.key ∧ PtRel ρ e.2 m.val ∧ ERel ρ es ms
def BRel (ρ : Rho) (base : T TV) (n : Nat) (tmps : Array Value) : Prop :=
  tmps.size = n ∧ ∀ t v, base.get t = some v → ∃ x, tmps[t]? = some x ∧ TRel ρ v x
/-- only variables that are asked for outside of their region stand in the base -/
def EscOk (base : T TV) (esc : Nat) : Prop := ∀ t v, base.get t = some v → bit esc t = true
def ORel (ρ : Rho) : AO → Obj → Nat → Prop
  | .cells d n e x fz, o, z => ∃ (arr : Array Value) (fr : Nat × Nat), o = .cells arr e fr ∧ arr.size = z ∧ d.length = n ∧ n ≤ z ∧ (x = true → n = z) ∧
      LRel ρ d (arr.toList.take n) ∧ (fr = (0, 0) ∨ (fz = true ∧ fr = (z, z + 1)))
  | .map es, o, _ => ∃ (ms : Array MapEntry) (k : Nat), o = .map ms k ∧ ERel ρ es ms.toList
  | .deferred, o, _ => o = .deferred (some [])
  | .loop st pd rg n es ps as bd d, o, _ => ∃ r : Loop, o = .loop r ∧ r.state = st ∧ r.pending = pd ∧ BRel ρ rg n r.tmps ∧ EscOk rg es ∧ r.params.toList = ps ∧ r.assign = as ∧ r.body = bd ∧ ∃ b z, ρ d = some (b, z) ∧ r.defers = b
  | .mapIter0 m, o, _ => (m = none ∧ o = .mapIter none 0 #[] 0) ∨ ∃ id b z k, m = some id ∧ ρ id = some (b, z) ∧ o = .mapIter (some b) k #[] k
  | .strIter s pos, o, _ => ∃ a : ByteArray, o = .stringIter a pos ∧ a.data.toList.map UInt8.toNat = s
theorem ERel.mono {ρ ρ' : Rho} (h : Le ρ ρ') : ∀ {l : List (CV × Bool × List CV)} {m : List MapEntry}, ERel ρ l m → ERel ρ' l m
  | [], _, r => r
  | _ :: _, _, ⟨y, ys, e, p, q, r⟩ => ⟨y, ys, e, p.mono h, q.mono h, ERel.mono h r⟩
theorem BRel.mono {ρ ρ' : Rho} (h : Le ρ ρ') {b : T TV} {n : Nat} {t : Array Value} (r : BRel ρ b n t) : BRel ρ' b n t :=
  ⟨r.1, fun k v hv => let ⟨x, hx, q⟩ := r.2 k v hv; ⟨x, hx, q.mono h⟩⟩
theorem ORel.mono {ρ ρ' : Rho} (h : Le ρ ρ') {a : AO} {o : Obj} {z : Nat} (r : ORel ρ a o z) : ORel ρ' a o z := by
  cases a with
  | cells d n e x fz => obtain ⟨arr, fr, a, b, c, d, e, f, g⟩ := r; exact ⟨arr, fr, a, b, c, d, e, f.mono h, g⟩
  | map es => obtain ⟨ms, k, a, b⟩ := r; exact ⟨ms, k, a, b.mono h⟩
  | deferred => exact r
  | loop st pd rg n es ps as bd d =>
    obtain ⟨r, a, b, c, d, e', e, f, g, b', z, i, j⟩ := r
    exact ⟨r, a, b, c, d.mono h, e', e, f, g, b', z, h _ _ i, j⟩
  | mapIter0 m =>
    rcases r with r | ⟨id, b, z, k, a, i, j⟩
    · exact .inl r
    · exact .inr ⟨id, b, z, k, a, h _ _ i, j⟩
  | strIter s pos => exact r

/-- a heap told: what each id that lives holds -/
structure Mod (ρ : Rho) (h : Nat → Option AO) (c : Nat) (w : World) : Prop where
  dom : ∀ id, c ≤ id → ρ id = none
  lt : ∀ id b z, ρ id = some (b, z) → b < w.heap.size
  obj : ∀ id o, h id = some o → ∃ b z ob, ρ id = some (b, z) ∧ w.heap[b]? = some ob ∧ ORel ρ o ob z
  inj : ∀ id id' o o' b z z', h id = some o → h id' = some o' → ρ id = some (b, z) → ρ id' = some (b, z') → id = id'

/-- what of the world the memory isn't -/
def World.env2 (w : World) := (w.os, w.output)
def World.env3 (w : World) := (w.heap, w.os, w.output)
/-- from (ρ, h, c, w) to (ρ', h', c', w'): nothing below 'lo' is written -/
structure Ext (lo : Nat) (ρ : Rho) (h : Nat → Option AO) (c : Nat) (w : World) (ρ' : Rho) (h' : Nat → Option AO) (c' : Nat) (w' : World) : Prop where
  cc : c ≤ c'
  old : ∀ id, id < c → ρ' id = ρ id
  mod : Mod ρ' h' c' w'
  size : w.heap.size ≤ w'.heap.size
  new : ∀ id b z, c ≤ id → ρ' id = some (b, z) → w.heap.size ≤ b ∨ ∃ i z', lo ≤ i ∧ i < c ∧ ρ i = some (b, z') ∧ h i ≠ none
  frame : ∀ b, b < w.heap.size → (∀ id z, ρ id = some (b, z) → h id = none) → w'.heap[b]? = w.heap[b]?
  low : ∀ id, id < lo → h' id = h id
  dead : ∀ id, id < c → h id = none → h' id = none
  env : World.env2 w' = World.env2 w

section
variable {lo c c' c'' : Nat} {ρ ρ' ρ'' : Rho} {h h' h'' : Nat → Option AO} {w w' w'' : World}
theorem Ext.le (e : Ext lo ρ h c w ρ' h' c' w') (m : Mod ρ h c w) : Le ρ ρ' := fun id p hp => by
  rcases Nat.lt_or_ge id c with hc | hc
  · rw [e.old id hc]; exact hp
  · rw [m.dom id hc] at hp; cases hp
theorem Ext.refl (m : Mod ρ h c w) : Ext lo ρ h c w ρ h c w :=
  ⟨Nat.le_refl _, fun _ _ => rfl, m, Nat.le_refl _, fun id b z hc hp => (by rw [m.dom id hc] at hp; cases hp), fun _ _ _ => rfl, fun _ _ => rfl, fun _ _ h => h, rfl⟩
theorem Ext.trans (e : Ext lo ρ h c w ρ' h' c' w') (m : Mod ρ h c w) (f : Ext lo ρ' h' c' w' ρ'' h'' c'' w'') : Ext lo ρ h c w ρ'' h'' c'' w'' where
  cc := Nat.le_trans e.cc f.cc
  old id hid := (f.old id (Nat.lt_of_lt_of_le hid e.cc)).trans (e.old id hid)
  mod := f.mod
  size := Nat.le_trans e.size f.size
  new id b z hc hp := by
    rcases Nat.lt_or_ge id c' with h1 | h1
    · rw [f.old id h1] at hp; exact e.new id b z hc hp
    · rcases f.new id b z h1 hp with g | ⟨i, z', g1, g2, g3, g4⟩
      · exact .inl (Nat.le_trans e.size g)
      · rcases Nat.lt_or_ge i c with h2 | h2
        · rw [e.old i h2] at g3; exact .inr ⟨i, z', g1, h2, g3, fun q => g4 (e.dead i h2 q)⟩
        · exact e.new i b z' h2 g3
  frame b hb hn := by
    rw [f.frame b (Nat.lt_of_lt_of_le hb e.size) ?_, e.frame b hb hn]
    intro id z hp
    rcases Nat.lt_or_ge id c with h2 | h2
    · rw [e.old id h2] at hp; exact e.dead id h2 (hn id z hp)
    · rcases e.new id b z h2 hp with g | ⟨i, z', _, g2, g3, g4⟩
      · omega
      · exact absurd (hn i z' g3) g4
  low id hid := (f.low id hid).trans (e.low id hid)
  dead id hid h0 := f.dead id (Nat.lt_of_lt_of_le hid e.cc) (e.dead id hid h0)
  env := f.env.trans e.env

/-- a world that only drew -/
def World.drewTo (w w' : World) : Prop := w'.heap = w.heap
theorem Mod.heap (m : Mod ρ h c w) (e : w'.heap = w.heap) : Mod ρ h c w' :=
  ⟨m.dom, fun id b z hp => by rw [e]; exact m.lt id b z hp, fun id o ho => by rw [e]; exact m.obj id o ho, m.inj⟩
theorem Ext.heap (m : Mod ρ h c w) (e : w'.heap = w.heap) (he : World.env2 w' = World.env2 w := by rfl) : Ext lo ρ h c w ρ h c w' :=
  ⟨Nat.le_refl _, fun _ _ => rfl, m.heap e, by rw [e]; exact Nat.le_refl _, fun id b z hc hp => (by rw [m.dom id hc] at hp; cases hp), fun _ _ _ => by rw [e], fun _ _ => rfl, fun _ _ h => h, he⟩

def Rho.set (ρ : Rho) (id : Nat) (p : Nat × Nat) : Rho := fun j => if j = id then some p else ρ j
theorem Rho.le_set (m : Mod ρ h c w) (p : Nat × Nat) : Le ρ (Rho.set ρ c p) := fun id q hq => by
  unfold Rho.set
  split
  · rename_i e; subst e; rw [m.dom _ (Nat.le_refl _)] at hq; cases hq
  · exact hq

def hset (h : Nat → Option AO) (id : Nat) (o : Option AO) : Nat → Option AO := fun j => if j = id then o else h j

/-- a new object -/
theorem Ext.alloc (m : Mod ρ h c w) {o : AO} {ob : Obj} {z : Nat} (hlo : lo ≤ c) (r : ORel (Rho.set ρ c (w.heap.size, z)) o ob z)
    (hw : w'.heap = w.heap.push ob) (he : World.env2 w' = World.env2 w := by rfl) : Ext lo ρ h c w (Rho.set ρ c (w.heap.size, z)) (hset h c (some o)) (c + 1) w' where
  cc := Nat.le_succ _
  old id hid := by unfold Rho.set; rw [if_neg (by omega)]
  size := by rw [hw]; simp
  new id b z' hc hp := by
    unfold Rho.set at hp
    split at hp
    · cases hp; exact .inl (Nat.le_refl _)
    · rw [m.dom id hc] at hp; cases hp
  frame b hb _ := by rw [hw]; simp [Array.getElem?_push, Nat.ne_of_lt hb]
  low id hid := by unfold hset; rw [if_neg (by omega)]
  dead id hid h0 := by unfold hset; rw [if_neg (by omega)]; exact h0
  env := he
  mod :=
    { dom := fun id hid => by unfold Rho.set; rw [if_neg (by omega)]; exact m.dom id (by omega)
      lt := fun id b z' hp => by
        rw [hw, Array.size_push]
        unfold Rho.set at hp
        split at hp
        · cases hp; omega
        · have := m.lt id b z' hp; omega
      obj := fun id o' ho => by
        unfold hset at ho
        split at ho
        · rename_i e; subst e; cases ho
          exact ⟨w.heap.size, z, ob, by unfold Rho.set; rw [if_pos rfl], by rw [hw]; simp, r⟩
        · rename_i hne
          obtain ⟨b, z', ob', h1, h2, h3⟩ := m.obj id o' ho
          have hb := m.lt id b z' h1
          exact ⟨b, z', ob', by unfold Rho.set; rw [if_neg hne]; exact h1, by rw [hw]; simp [Array.getElem?_push, Nat.ne_of_lt hb, h2], h3.mono (Rho.le_set m _)⟩
      inj := fun id id' o1 o2 b z1 z2 h1 h2 p1 p2 => by
        unfold Rho.set at p1 p2
        unfold hset at h1 h2
        split at p1 <;> split at p2
        · rename_i e1 e2; rw [e1, e2]
        · cases p1; have := m.lt _ _ _ p2; omega
        · cases p2; have := m.lt _ _ _ p1; omega
        · rename_i e1 e2
          rw [if_neg e1] at h1; rw [if_neg e2] at h2
          exact m.inj id id' o1 o2 b z1 z2 h1 h2 p1 p2 }

/-- an object that lives is another one -/
theorem Ext.write (m : Mod ρ h c w) {id : Nat} {o o' : AO} {b z : Nat} {ob' : Obj} (hlo : lo ≤ id) (ho : h id = some o) (hp : ρ id = some (b, z)) (r : ORel ρ o' ob' z)
    (hw : ∀ j, w'.heap[j]? = if j = b then some ob' else w.heap[j]?) (hs : w'.heap.size = w.heap.size) (he : World.env2 w' = World.env2 w := by rfl) : Ext lo ρ h c w ρ (hset h id (some o')) c w' where
  cc := Nat.le_refl _
  old _ _ := rfl
  size := by omega
  new id b z hc hp := by rw [m.dom id hc] at hp; cases hp
  frame j hj hn := by
    rw [hw, if_neg]
    rintro rfl
    have := hn id z hp
    rw [ho] at this; cases this
  low j hj := by unfold hset; rw [if_neg (by omega)]
  dead j hj h0 := by
    unfold hset
    split
    · rename_i e; subst e; rw [ho] at h0; cases h0
    · exact h0
  env := he
  mod :=
    { dom := m.dom
      lt := fun id b z hp => by rw [hs]; exact m.lt id b z hp
      obj := fun j oj hj => by
        unfold hset at hj
        split at hj
        · rename_i e; subst e; cases hj
          exact ⟨b, z, ob', hp, by rw [hw, if_pos rfl], r⟩
        · rename_i hne
          obtain ⟨b', z', ob, h1, h2, h3⟩ := m.obj j oj hj
          refine ⟨b', z', ob, h1, ?_, h3⟩
          rw [hw, if_neg]; · exact h2
          rintro rfl
          exact hne (m.inj j id oj o b' z' z hj ho h1 hp)
      inj := fun j j' o1 o2 b' z1 z2 h1 h2 p1 p2 => by
        have f : ∀ {k : Nat} {q : AO}, hset h id (some o') k = some q → ∃ q', h k = some q' := fun {k q} hk => by
          unfold hset at hk
          split at hk
          · rename_i e; subst e; exact ⟨o, ho⟩
          · exact ⟨q, hk⟩
        obtain ⟨q1, g1⟩ := f h1
        obtain ⟨q2, g2⟩ := f h2
        exact m.inj j j' q1 q2 b' z1 z2 g1 g2 p1 p2 }

/-- the same object, told as before, its block another one that it tells too -/
theorem Ext.again (m : Mod ρ h c w) {id : Nat} {o : AO} {b z : Nat} {ob' : Obj} (ho : h id = some o) (hp : ρ id = some (b, z)) (r : ORel ρ o ob' z)
    (hw : ∀ j, w'.heap[j]? = if j = b then some ob' else w.heap[j]?) (hs : w'.heap.size = w.heap.size) (he : World.env2 w' = World.env2 w := by rfl) : Ext lo ρ h c w ρ h c w' where
  cc := Nat.le_refl _
  old _ _ := rfl
  size := by omega
  new id b z hc hp := by rw [m.dom id hc] at hp; cases hp
  frame j hj hn := by
    rw [hw, if_neg]
    rintro rfl
    have := hn id z hp
    rw [ho] at this; cases this
  low _ _ := rfl
  dead _ _ h0 := h0
  env := he
  mod :=
    { dom := m.dom
      lt := fun id b z hp => by rw [hs]; exact m.lt id b z hp
      obj := fun j oj hj => by
        obtain ⟨b', z', ob, h1, h2, h3⟩ := m.obj j oj hj
        by_cases e : b' = b
        · subst e
          have e' := m.inj j id oj o b' z' z hj ho h1 hp
          subst e'
          rw [h1] at hp; cases hp
          rw [ho] at hj; cases hj
          exact ⟨b', _, ob', h1, by rw [hw, if_pos rfl], r⟩
        · exact ⟨b', z', ob, h1, by rw [hw, if_neg e]; exact h2, h3⟩
      inj := m.inj }

/-- an object dies -/
theorem Ext.kill (m : Mod ρ h c w) {id : Nat} (hlo : lo ≤ id) : Ext lo ρ h c w ρ (hset h id none) c w where
  cc := Nat.le_refl _
  old _ _ := rfl
  size := Nat.le_refl _
  new id b z hc hp := by rw [m.dom id hc] at hp; cases hp
  frame _ _ _ := rfl
  low j hj := by unfold hset; rw [if_neg (by omega)]
  dead j hj h0 := by unfold hset; split; · rfl
                     · exact h0
  env := rfl
  mod :=
    { dom := m.dom
      lt := m.lt
      obj := fun j oj hj => by
        unfold hset at hj
        split at hj
        · cases hj
        · exact m.obj j oj hj
      inj := fun j j' o1 o2 b' z1 z2 h1 h2 p1 p2 => by
        unfold hset at h1 h2
        split at h1
        · cases h1
        · split at h2
          · cases h2
          · exact m.inj j j' o1 o2 b' z1 z2 h1 h2 p1 p2 }
end
theorem put_eq (t : T AO) (id : Nat) (o : Option AO) : (t.put id o).get = hset t.get id o := funext fun j => T.get_put t id o j
end Go.Abs
