/- The operations that look at the memory: reading and writing cells; what is laid. -/
import Derived.Test.YtgdgknjhhgkabaaGreatDoorMPure7
import Derived.Laws.Cells
import Derived.LaidEql
import Derived.MapKept
set_option linter.unusedVariables false
set_option linter.unusedSimpArgs false
namespace Go.Abs
variable {P : Program} {E : Env} {ρ : Rho}

/-- an operation's outcome -/
def OpOk (P : Program) (s : Sem Next) (w : World) (x : Value) (w' : World) : Prop :=
  s.run P w = .ok (.value x) w' ∨ (s.run P w = .ok .skip w' ∧ x = undef)
def MemOk (P : Program) (lo : Nat) (ρ : Rho) (st : St) (w : World) (s : Sem Next) (v : TV) (st' : St) : Prop :=
  ∃ ρ' w' x, OpOk P s w x w' ∧ TRel ρ' v x ∧ Ext lo ρ st.h.get st.c w ρ' st'.h.get st'.c w'
abbrev StMod (ρ : Rho) (st : St) (w : World) : Prop := Mod ρ st.h.get st.c w

theorem CRel.oneCell {x : CV} {v : Value} (h : CRel ρ x v) : v.oneCell' = true := by
  cases x <;> simp only [CRel] at h
  all_goals first
    | (subst h; rfl)
    | (obtain ⟨a, e, _⟩ := h; subst e; rfl)
    | (obtain ⟨a, b, e⟩ := h; subst e; rfl)
    | (obtain ⟨a, b, _, e⟩ := h; subst e; rfl)
    | (obtain ⟨a, b, _, e, _⟩ := h; subst e; rfl)
    | (obtain ⟨a, b, c, _, e, _⟩ := h; subst e; rfl)
    | (obtain ⟨a, b, e, _⟩ := h; subst e; rfl)
theorem LRel.oneCells : ∀ {l : List CV} {m : List Value}, LRel ρ l m → ∀ v ∈ m, v.oneCell' = true
  | [], m, r => by cases r; simp
  | _ :: _, _, ⟨y, ys, e, p, r⟩ => by
    subst e
    intro v hv
    rcases List.mem_cons.1 hv with rfl | hv
    · exact p.oneCell
    · exact r.oneCells v hv

/-- a row of cells that lives -/
structure Row (ρ : Rho) (st : St) (w : World) (id : Nat) (d : List CV) (n e : Nat) (x fz : Bool) (b z : Nat) (arr : Array Value) (fr : Nat × Nat) : Prop where
  get : st.h.get id = some (.cells d n e x fz)
  rho : ρ id = some (b, z)
  heap : w.heap[b]? = some (.cells arr e fr)
  size : arr.size = z
  len : d.length = n
  le : n ≤ z
  exact_ : x = true → n = z
  rel : LRel ρ d (arr.toList.take n)
  fz : fr = (0, 0) ∨ (fz = true ∧ fr = (z, z + 1))
theorem row_of {st : St} {w : World} (m : StMod ρ st w) {id : Nat} {d : List CV} {n e : Nat} {x fz : Bool} (h : st.h.get id = some (.cells d n e x fz)) : ∃ b z arr fr, Row ρ st w id d n e x fz b z arr fr := by
  obtain ⟨b, z, ob, h1, h2, arr, fr, rfl, a1, a2, a3, a4, a5, a6⟩ := m.obj id _ h
  exact ⟨b, z, arr, fr, h, h1, h2, a1, a2, a3, a4, a5, a6⟩
section
variable {st : St} {w : World} {id n e b z : Nat} {d : List CV} {x fz : Bool} {arr : Array Value} {fr : Nat × Nat}
theorem Row.cell (r : Row ρ st w id d n e x fz b z arr fr) (i : Nat) : w.cell? ⟨b, i, none⟩ = arr[i]? := by simp [World.cell?, r.heap]
theorem Row.frozen (r : Row ρ st w id d n e x fz b z arr fr) {i : Nat} (hi : i < z) : w.frozen? ⟨b, i, none⟩ = false := by
  simp only [World.frozen?, r.heap]
  rcases r.fz with h | ⟨_, h⟩ <;> subst h <;> simp <;> omega
theorem Row.nth (r : Row ρ st w id d n e x fz b z arr fr) {i : Nat} {c : CV} (h : d[i]? = some c) : ∃ v, arr[i]? = some v ∧ CRel ρ c v := by
  obtain ⟨v, hv, hr⟩ := r.rel.get h
  rw [List.getElem?_take] at hv
  split at hv
  · exact ⟨v, by simpa using hv, hr⟩
  · cases hv
theorem Row.slice (r : Row ρ st w id d n e x fz b z arr fr) {off m : Nat} (h : off + m ≤ n) : LRel ρ (takeC m (dropC off d)) ((arr.toList.drop off).take m) := by
  rw [takeC_eq, dropC_eq]
  have h1 := (r.rel.drop off).take m
  rw [List.drop_take] at h1
  have : ((arr.toList.drop off).take (n - off)).take m = (arr.toList.drop off).take m := by rw [List.take_take]; congr 1; omega
  rw [this] at h1
  exact h1
end

theorem run_loadRow (w : World) {b e : Nat} {arr : Array Value} {fr : Nat × Nat} (h : w.heap[b]? = some (.cells arr e fr)) {off n : Nat} (hn : off + n ≤ arr.size) :
    (loadCells ⟨b, off, none⟩ n).run P w = .ok ((arr.toList.drop off).take n).toArray w := by
  have hl : ((arr.toList.drop off).take n).length = n := by simp; omega
  have := run_loadCells_list (P := P) w ⟨b, off, none⟩ ((arr.toList.drop off).take n) (fun j v hv => by
    rw [add_eq]
    rw [List.getElem?_take] at hv
    split at hv
    · rw [List.getElem?_drop] at hv
      simp [World.cell?, h]
      simpa using hv
    · cases hv)
  rw [hl] at this
  exact this

/-- the array behind a row of stores -/
def setAll (arr : Array Value) (off : Nat) : List Value → Array Value
  | [] => arr
  | v :: vs => setAll (arr.setIfInBounds off v) (off + 1) vs
theorem setAll_size (vs : List Value) : ∀ (arr : Array Value) (off : Nat), (setAll arr off vs).size = arr.size := by
  induction vs with
  | nil => intro arr off; rfl
  | cons v vs ih => intro arr off; rw [setAll, ih]; simp
theorem setAll_get (vs : List Value) : ∀ (arr : Array Value) (off i : Nat), (setAll arr off vs)[i]? = if off ≤ i ∧ i < off + vs.length ∧ i < arr.size then vs[i - off]? else arr[i]? := by
  induction vs with
  | nil => intro arr off i; rw [if_neg (by simp only [List.length_nil]; omega)]; rfl
  | cons v vs ih =>
    intro arr off i
    rw [setAll, ih]
    simp only [Array.size_setIfInBounds, List.length_cons]
    by_cases h1 : off + 1 ≤ i ∧ i < off + 1 + vs.length ∧ i < arr.size
    · rw [if_pos h1, if_pos (by omega)]
      have : i - off = (i - (off + 1)) + 1 := by omega
      rw [this, List.getElem?_cons_succ]
    · rw [if_neg h1]
      by_cases h2 : i = off
      · subst h2
        by_cases h3 : i < arr.size
        · rw [if_pos (by omega)]; simp [h3]
        · rw [if_neg (by omega)]; simp [h3]
      · rw [if_neg (by omega)]
        simp [Ne.symm h2]
theorem run_storeRow {e : Nat} {fr : Nat × Nat} {b off : Nat} : ∀ (vs : List Value) (i : Nat) (arr : Array Value) (w : World), w.heap[b]? = some (.cells arr e fr) → off + i + vs.length ≤ arr.size →
    (∀ v ∈ vs, v.oneCell' = true) → (∀ j, j < arr.size → (fr.1 ≤ j && j < fr.2) = false) →
    ∃ w', (storeCells ⟨b, off, none⟩ vs i).run P w = .ok () w' ∧ (∀ j, w'.heap[j]? = if j = b then some (.cells (setAll arr (off + i) vs) e fr) else w.heap[j]?) ∧ w'.heap.size = w.heap.size ∧ World.env2 w' = World.env2 w
  | [], i, arr, w, h, _, _, _ => ⟨w, by simp [storeCells], fun j => by split <;> simp_all [setAll], rfl, rfl⟩
  | v :: vs, i, arr, w, h, hl, hv, hf => by
    simp only [List.length_cons] at hl
    have hlt : off + i < arr.size := by omega
    have hcell : w.cell? ⟨b, off + i, none⟩ = some arr[off + i] := by simp [World.cell?, h, hlt]
    have hfr : w.frozen? ⟨b, off + i, none⟩ = false := by simp only [World.frozen?, h]; exact hf _ hlt
    have hset : ∀ j, (w.setCell ⟨b, off + i, none⟩ v).heap[j]? = if j = b then some (.cells (arr.setIfInBounds (off + i) v) e fr) else w.heap[j]? := by
      intro j
      by_cases hj : j = b
      · subst hj; simp [World.setCell, Array.getElem?_modify, h]
      · simp [World.setCell, Array.getElem?_modify, Ne.symm hj, hj]
    obtain ⟨w', h1, h2, h3, h4⟩ := run_storeRow (off := off) vs (i + 1) (arr.setIfInBounds (off + i) v) (w.setCell ⟨b, off + i, none⟩ v) (by rw [hset, if_pos rfl]) (by simp; omega) (fun u hu => hv u (List.mem_cons_of_mem _ hu)) (by simpa using hf)
    refine ⟨w', ?_, fun j => ?_, ?_, h4⟩
    · simp only [storeCells, add_eq, Sem.run_bind, run_store P w _ v .plain (hv v (List.mem_cons_self ..)), hcell, hfr]
      simpa using h1
    · rw [h2]
      split
      · simp [setAll, Nat.add_assoc]
      · rename_i hj; rw [hset, if_neg hj]
    · rw [h3]; simp [World.setCell]

/-- a row written into -/
theorem writeN_run {lo : Nat} {st st' : St} {w : World} (m : StMod ρ st w) {id off n b : Nat} {z : Nat} {l : List CV} {vs : List Value} (h : writeN lo st id off l n = some st') (hb : ρ id = some (b, z))
    (hl : LRel ρ l vs) (hn : l.length = n) :
    ∃ w', (storeCells ⟨b, off, none⟩ vs).run P w = .ok () w' ∧ Ext lo ρ st.h.get st.c w ρ st'.h.get st'.c w' := by
  cases n with
  | zero =>
    cases h
    have : l = [] := by simpa using hn
    subst this
    cases hl
    exact ⟨w, by simp [storeCells], Ext.refl m⟩
  | succ n =>
    have h' : (match st.h.get id with
      | some (.cells d len e x z) => bsel (Nat.ble lo id) (bsel (Nat.ble (Nat.add off (n + 1)) len) (some (setH st id (some (.cells (splice d off l) len e x z)))) none) none
      | _ => none) = some st' := h
    split at h'
    · rename_i d len e x fz hg
      obtain ⟨h1, h2⟩ := bsel_some h'
      obtain ⟨h3, h4⟩ := bsel_some h2
      cases h4
      have h1 := Nat.le_of_ble_eq_true h1
      have h3 : off + (n + 1) ≤ len := Nat.le_of_ble_eq_true h3
      obtain ⟨b', z', arr, fr, r⟩ := row_of m hg
      have e1 := r.rho
      rw [hb] at e1; cases e1
      have hvl := hl.length
      have hsz := r.size
      have hle := r.le
      obtain ⟨w', a1, a2, a3, a4⟩ := run_storeRow (P := P) (off := off) vs 0 arr w r.heap (by omega) hl.oneCells (fun j hj => by
        rcases r.fz with h | ⟨_, h⟩ <;> subst h <;> simp <;> omega)
      refine ⟨w', a1, ?_⟩
      have hput : (setH st id (some (.cells (splice d off l) len e x fz))).h.get = hset st.h.get id (some (.cells (splice d off l) len e x fz)) := put_eq _ _ _
      rw [hput]
      refine Ext.write m h1 hg hb ⟨setAll arr off vs, fr, rfl, by rw [setAll_size]; exact r.size, by rw [splice_length]; exact r.len, r.le, r.exact_, ?_, r.fz⟩ (by simpa using a2) a3 a4
      refine LRel.of_get ?_ fun i c hc => ?_
      · rw [List.length_take, Array.length_toList, setAll_size, splice_length, r.len]; omega
      · rw [splice_get] at hc
        have hi : i < len := by
          have := (List.getElem?_eq_some_iff.1 (by rw [← splice_get] at hc; exact hc)).1
          rw [splice_length, r.len] at this; exact this
        rw [List.getElem?_take, if_pos hi, Array.getElem?_toList, setAll_get]
        by_cases hq : off ≤ i ∧ i < off + l.length ∧ i < d.length
        · rw [if_pos hq] at hc
          rw [if_pos (by omega)]
          exact hl.get hc
        · rw [if_neg hq] at hc
          have hdl := r.len
          rw [if_neg (by omega)]
          obtain ⟨v, hv, hr⟩ := r.nth hc
          exact ⟨v, hv, hr⟩
    · cases h'
end Go.Abs
