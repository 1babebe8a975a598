/- The start of a law's call: what the listed variables hold, told as a small heap; the end: what is asked of the memory. -/
import Derived.Test.YtgdgknjhhgkabaaGreatDoorMMemo
import Derived.ProofKit
import Derived.LaidMore
import Derived.OpenShut
set_option linter.unusedVariables false
set_option linter.unusedSimpArgs false
namespace Go.Abs
open Go Go.ChangeShapes Go.WideShapes Go.ChangeAt Go.RowKit

noncomputable def vals (k : IntKind) (l : List Nat) : List Value := l.map fun n => .int k (Int.ofNat n)
section
variable {P : Program} {w : World} {base fuel n : Nat} {sp : Nat → Bool} {held : Bool} {t e : TypeId} {cs : List Value} {p : List MemPlace} {k : IntKind}
theorem arr_ints (ht : P.underlying t = some (.array n e)) (he : P.underlying e = some (.int k)) (h1 : P.cellsOf e = 1) (hn : P.cellsOf t = n) {l : List Nat}
    (h : DataW.trod (fun _ => ()) P w base sp held fuel t cs = some (.agg (l.map fun x => .lit (.int k (Int.ofNat x))), p)) : cs = vals k l ∧ l.length = n := by
  obtain ⟨xs, m, _, hx, hl, hxn, hel⟩ := DataW.trod_array ht h
  simp only [Prod.mk.injEq, DataW.agg.injEq] at hx
  have hx1 := hx.1
  have hll : l.length = n := by have := congrArg List.length hx1; simpa [hxn] using this
  refine ⟨?_, hll⟩
  apply List.ext_getElem?
  intro i
  unfold vals
  rw [List.getElem?_map]
  rcases Nat.lt_or_ge i n with hi | hi
  · have h2 := hel i hi
    rw [h1, Nat.mul_one] at h2
    have hxi : i < xs.length := by omega
    have hli : i < l.length := by omega
    rw [List.getElem?_eq_getElem hxi] at h2
    obtain ⟨v, h3, h4, _⟩ := DataW.trod_int he h2
    have h5 := congrArg (fun q => q[i]?) hx1
    simp only [List.getElem?_map, List.getElem?_eq_getElem hxi, List.getElem?_eq_getElem hli, Option.map_some, Option.some.injEq, h4] at h5
    have h6 : v = Int.ofNat l[i] := by cases h5; rfl
    have h7 := congrArg (fun q => q[0]?) h3
    simp only [List.getElem?_take, List.getElem?_drop, Nat.add_zero, List.getElem?_cons_zero] at h7
    rw [if_pos (by omega)] at h7
    rw [h7, List.getElem?_eq_getElem hli, h6]; rfl
  · rw [List.getElem?_eq_none (by omega), List.getElem?_eq_none (by omega)]; rfl
theorem chunks {α : Type} (m : Nat) : ∀ (n : Nat) (cs : List α) (f : Nat → List α), cs.length = n * m → (∀ i, i < n → (cs.drop (i * m)).take m = f i) → cs = (List.range n).flatMap f
  | 0, cs, f, h, _ => by
    have : cs = [] := by simpa using h
    subst this; simp
  | n + 1, cs, f, h, hf => by
    have h0 := hf 0 (by omega)
    simp only [Nat.zero_mul, List.drop_zero] at h0
    have ih := chunks m n (cs.drop m) (fun i => f (i + 1)) (by rw [List.length_drop, h, Nat.succ_mul]; omega) fun i hi => by
      rw [List.drop_drop, ← hf (i + 1) (by omega), Nat.succ_mul, Nat.add_comm m]
    rw [List.range_succ_eq_map, List.flatMap_cons, List.flatMap_map, ← h0]
    have e : (fun a => f (Nat.succ a)) = fun i => f (i + 1) := rfl
    rw [e, ← ih, List.take_append_drop]
theorem arr_arr_ints {n2 : Nat} {e2 : TypeId} (ht : P.underlying t = some (.array n e)) (he : P.underlying e = some (.array n2 e2)) (he2 : P.underlying e2 = some (.int k)) (h1 : P.cellsOf e2 = 1) (hn : P.cellsOf e = n2) (hn2 : P.cellsOf t = n * n2)
    {ll : List (List Nat)} (h : DataW.trod (fun _ => ()) P w base sp held fuel t cs = some (.agg (ll.map fun l => .agg (l.map fun x => .lit (.int k (Int.ofNat x)))), p)) : cs = vals k ll.flatten := by
  obtain ⟨xs, m, _, hx, hl, hxn, hel⟩ := DataW.trod_array ht h
  simp only [Prod.mk.injEq, DataW.agg.injEq] at hx
  have hx1 := hx.1
  have hll : ll.length = n := by have := congrArg List.length hx1; simpa [hxn] using this
  have := chunks n2 n cs (fun i => vals k (ll.getD i [])) (by rw [hl, hn2]) fun i hi => by
    have h2 := hel i hi
    rw [hn] at h2
    have hxi : i < xs.length := by omega
    have hli : i < ll.length := by omega
    rw [List.getElem?_eq_getElem hxi] at h2
    have h5 := congrArg (fun q => q[i]?) hx1
    simp only [List.getElem?_map, List.getElem?_eq_getElem hxi, List.getElem?_eq_getElem hli, Option.map_some, Option.some.injEq] at h5
    have h6 : xs[i] = (.agg (ll[i].map fun x => .lit (.int k (Int.ofNat x))), xs[i].2) := Prod.ext h5.symm rfl
    rw [h6] at h2
    rw [(arr_ints he he2 h1 hn h2).1, List.getD_eq_getElem?_getD, List.getElem?_eq_getElem hli]; rfl
  rw [this, ← hll]
  unfold vals
  clear this hx hx1 hel h hll
  induction ll with
  | nil => rfl
  | cons x ll ih =>
    rw [List.length_cons, List.range_succ_eq_map, List.flatMap_cons, List.flatMap_map, List.flatten_cons, List.map_append]
    have e : (fun a => List.map (fun n => Value.int k (Int.ofNat n)) ((x :: ll).getD (Nat.succ a) [])) = fun i => List.map (fun n => Value.int k (Int.ofNat n)) (ll.getD i []) := by funext i; simp
    rw [e, ih]; simp
end

theorem nats_rel {ρ : Rho} {k : IntKind} : ∀ (l : List Nat), LRel ρ (mapC (fun n => .int k (Int.ofNat n)) l) (vals k l)
  | [] => rfl
  | x :: l => ⟨_, _, rfl, rfl, nats_rel l⟩
/-- whole numbers determine the values that they tell -/
def intCVs : List CV → Prop
  | [] => True
  | .int .. :: l => intCVs l
  | _ :: _ => False
theorem LRel.inj {ρ ρ' : Rho} : ∀ {l : List CV} {m m' : List Value}, intCVs l → LRel ρ l m → LRel ρ' l m' → m = m'
  | [], _, _, _, r, r' => by cases r; cases r'; rfl
  | x :: l, _, _, h, ⟨y, ys, e, p, r⟩, ⟨y', ys', e', p', r'⟩ => by
    cases x <;> try (exact h.elim)
    case int k n =>
      subst e; subst e'
      have p : y = .int k n := p
      have p' : y' = .int k n := p'
      rw [p, p', LRel.inj (l := l) (show intCVs l from h) r r']
theorem intCVs_nats (k : IntKind) : ∀ l : List Nat, intCVs (mapC (fun n => .int k (Int.ofNat n)) l)
  | [] => trivial
  | _ :: l => intCVs_nats k l
theorem ORel.inj {ρ ρ' : Rho} {d : List CV} {n e z : Nat} {ob ob' : Obj} (hd : intCVs d) (h : ORel ρ (.cells d n e true false) ob z) (h' : ORel ρ' (.cells d n e true false) ob' z) : ob = ob' := by
  obtain ⟨arr, fr, rfl, a1, a2, a3, a4, a5, a6⟩ := h
  obtain ⟨arr', fr', rfl, b1, b2, b3, b4, b5, b6⟩ := h'
  have h1 := LRel.inj hd a5 b5
  have hn := a4 rfl
  rw [List.take_of_length_le (by rw [Array.length_toList]; omega), List.take_of_length_le (by rw [Array.length_toList]; omega)] at h1
  have : arr = arr' := Array.ext' h1
  subst this
  have : fr = fr' := by
    rcases a6 with a6 | ⟨a6, _⟩
    · rcases b6 with b6 | ⟨b6, _⟩
      · rw [a6, b6]
      · cases b6
    · cases a6
  rw [this]

/-- the heap at the start: the two listed variables -/
noncomputable def startH (d1 d2 : List CV) (n1 n2 e1 e2 : Nat) : T AO := (T.nil.put 1 (some (.cells d1 n1 e1 true false))).put 2 (some (.cells d2 n2 e2 true false))
def startR (n1 n2 : Nat) : Rho := fun j => if j = 1 then some (1, n1) else if j = 2 then some (2, n2) else if j = 0 then some (0, 0) else none
theorem startH_get (d1 d2 : List CV) (n1 n2 e1 e2 j : Nat) : (startH d1 d2 n1 n2 e1 e2).get j = if j = 2 then some (.cells d2 n2 e2 true false) else if j = 1 then some (.cells d1 n1 e1 true false) else none := by
  unfold startH
  rw [T.get_put, T.get_put]; rfl
theorem start_glob (n1 n2 : Nat) : GlobOk (startR n1 n2) := fun g hg => by
  have : g < 3 := hg
  unfold startR
  rcases (by omega : g = 0 ∨ g = 1 ∨ g = 2) with rfl | rfl | rfl <;> simp
theorem start_mod {k1 k2 : IntKind} {l1 l2 : List Nat} {n1 n2 e1 e2 : Nat} {W : World} (h1 : W.heap[1]? = some (.cells (vals k1 l1).toArray e1 (0, 0))) (h2 : W.heap[2]? = some (.cells (vals k2 l2).toArray e2 (0, 0))) (hn1 : l1.length = n1) (hn2 : l2.length = n2) :
    StMod (startR n1 n2) ⟨startH (mapC (fun n => .int k1 (Int.ofNat n)) l1) (mapC (fun n => .int k2 (Int.ofNat n)) l2) n1 n2 e1 e2, 3⟩ W where
  dom id hid := by
    have hid : 3 ≤ id := hid
    unfold startR
    rw [if_neg (by omega), if_neg (by omega), if_neg (by omega)]
  lt id b z h := by
    have hs := (Array.getElem?_eq_some_iff.1 h2).1
    unfold startR at h
    split at h
    · cases h; omega
    · split at h
      · cases h; omega
      · split at h
        · cases h; omega
        · cases h
  obj id o ho := by
    have row : ∀ {k : IntKind} {l : List Nat} {n e : Nat}, l.length = n → ORel (startR n1 n2) (.cells (mapC (fun n => .int k (Int.ofNat n)) l) n e true false) (.cells (vals k l).toArray e (0, 0)) n := fun {k l n e} hn => by
      have hv : (vals k l).length = n := by unfold vals; simpa using hn
      refine ⟨(vals k l).toArray, (0, 0), rfl, by simpa using hv, by rw [mapC_eq]; simpa using hn, Nat.le_refl _, fun _ => rfl, ?_, .inl rfl⟩
      rw [List.take_of_length_le (by simp [hv])]
      exact nats_rel l
    have ho : (startH (mapC (fun n => .int k1 (Int.ofNat n)) l1) (mapC (fun n => .int k2 (Int.ofNat n)) l2) n1 n2 e1 e2).get id = some o := ho
    rw [startH_get] at ho
    split at ho
    · rename_i e1; subst e1; cases ho
      exact ⟨2, n2, _, by simp [startR], h2, row hn2⟩
    · split at ho
      · rename_i e1; subst e1; cases ho
        exact ⟨1, n1, _, by simp [startR], h1, row hn1⟩
      · cases ho
  inj id id' o o' b z z' ho ho' hr hr' := by
    have ho : (startH (mapC (fun n => .int k1 (Int.ofNat n)) l1) (mapC (fun n => .int k2 (Int.ofNat n)) l2) n1 n2 e1 e2).get id = some o := ho
    have ho' : (startH (mapC (fun n => .int k1 (Int.ofNat n)) l1) (mapC (fun n => .int k2 (Int.ofNat n)) l2) n1 n2 e1 e2).get id' = some o' := ho'
    rw [startH_get] at ho ho'
    have c1 : id = 2 ∨ id = 1 := by
      by_cases h : id = 2
      · exact .inl h
      · rw [if_neg h] at ho
        by_cases h : id = 1
        · exact .inr h
        · rw [if_neg h] at ho; cases ho
    have c2 : id' = 2 ∨ id' = 1 := by
      by_cases h : id' = 2
      · exact .inl h
      · rw [if_neg h] at ho'
        by_cases h : id' = 1
        · exact .inr h
        · rw [if_neg h] at ho'; cases ho'
    rcases c1 with rfl | rfl <;> rcases c2 with rfl | rfl <;> first | rfl | (simp [startR] at hr hr'; omega)

/-- the memory that was there stays as it was -/
theorem start_kept {d1 d2 : List CV} {n1 n2 e1 e2 : Nat} {W W' : World} {ρ' : Rho} {h' : Nat → Option AO} {c' : Nat} (i1 : intCVs d1) (i2 : intCVs d2) (m : StMod (startR n1 n2) ⟨startH d1 d2 n1 n2 e1 e2, 3⟩ W)
    (x : Ext 3 (startR n1 n2) (startH d1 d2 n1 n2 e1 e2).get 3 W ρ' h' c' W') : W'.os = W.os ∧ W'.output = W.output ∧ ∀ b, b < W.heap.size → W'.heap[b]? = W.heap[b]? := by
  have he := x.env
  unfold World.env2 at he
  simp only [Prod.mk.injEq] at he
  refine ⟨he.1, he.2, fun b hb => ?_⟩
  have one : ∀ (id n e : Nat) (d : List CV), id < 3 → intCVs d → (startH d1 d2 n1 n2 e1 e2).get id = some (.cells d n e true false) → startR n1 n2 id = some (b, n) → W'.heap[b]? = W.heap[b]? := fun id n e d hid hd hg hr => by
    obtain ⟨b1, z1, ob1, p1, p2, p3⟩ := m.obj id _ hg
    rw [hr] at p1; cases p1
    have hl := x.low id hid
    rw [hg] at hl
    obtain ⟨b2, z2, ob2, q1, q2, q3⟩ := x.mod.obj id _ hl
    rw [x.old id hid, hr] at q1; cases q1
    rw [p2, q2, ORel.inj hd p3 q3]
  by_cases h1 : b = 1
  · subst h1; exact one 1 n1 e1 d1 (by omega) i1 (by rw [startH_get]; simp) (by simp [startR])
  · by_cases h2 : b = 2
    · subst h2; exact one 2 n2 e2 d2 (by omega) i2 (by rw [startH_get]; simp) (by simp [startR])
    · refine x.frame b hb fun id z hr => ?_
      rw [startH_get]
      unfold startR at hr
      split at hr
      · cases hr; exact absurd rfl h1
      · split at hr
        · cases hr; exact absurd rfl h2
        · rename_i e1 e2
          rw [if_neg e2, if_neg e1]
theorem kept_but {W W' : World} (h : W'.os = W.os ∧ W'.output = W.output ∧ ∀ b, b < W.heap.size → W'.heap[b]? = W.heap[b]?) (may : MemPlace → Prop) : W.keptBut W' may := by
  refine ⟨h.1, h.2.1, fun i hi => ?_⟩
  rw [h.2.2 i hi]
  split <;> simp_all
end Go.Abs
