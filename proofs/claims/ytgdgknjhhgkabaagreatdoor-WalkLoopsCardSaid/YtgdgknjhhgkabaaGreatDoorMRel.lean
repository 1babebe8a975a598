/- The abstract interpreter: its small functions' laws; what an abstract state says of a world; how it goes from state to state. -/
import Derived.Test.YtgdgknjhhgkabaaGreatDoorMDefs
import Derived.Below
set_option linter.unusedVariables false
set_option linter.unusedSimpArgs false
namespace Go.Abs
variable {α β γ δ : Type}

/-! ### Lists and trees -/
theorem bsel_true (x y : α) : bsel true x y = x := rfl
attribute [simp] bsel_true
theorem bsel_false (x y : α) : bsel false x y = y := rfl
attribute [simp] bsel_false
theorem bsel_eq (b : Bool) (x y : α) : bsel b x y = if b then x else y := by cases b <;> rfl
theorem bsel_some {b : Bool} {x : Option α} {r : α} (h : bsel b x none = some r) : b = true ∧ x = some r := by
  cases b
  · cases h
  · exact ⟨rfl, h⟩
theorem obind_some {x : Option α} {f : α → Option β} {r : β} (h : obind x f = some r) : ∃ a, x = some a ∧ f a = some r := by
  cases x with
  | none => cases h
  | some a => exact ⟨a, rfl, h⟩
theorem ob2_some {x : Option (α × β)} {f : α → β → Option γ} {r : γ} (h : ob2 x f = some r) : ∃ a b, x = some (a, b) ∧ f a b = some r := by
  cases x with
  | none => cases h
  | some p => exact ⟨p.1, p.2, rfl, h⟩
theorem ob3_some {x : Option (α × β × γ)} {f : α → β → γ → Option δ} {r : δ} (h : ob3 x f = some r) : ∃ a b c, x = some (a, b, c) ∧ f a b c = some r := by
  cases x with
  | none => cases h
  | some p => exact ⟨p.1, p.2.1, p.2.2, rfl, h⟩
theorem forceT_eq (t : T α) (k : T α → β) : forceT t k = k t := by cases t <;> rfl

theorem nthC_eq (l : List α) : ∀ n, nthC l n = l[n]? := by
  induction l with
  | nil => intro n; rfl
  | cons x xs ih =>
    intro n
    cases n with
    | zero => rfl
    | succ n => show nthC xs n = _; rw [ih]; rfl
theorem takeC_eq (n : Nat) : ∀ l : List α, takeC n l = l.take n := by
  induction n with
  | zero => intro l; rfl
  | succ n ih =>
    intro l
    cases l with
    | nil => rfl
    | cons x xs => show x :: takeC n xs = _; rw [ih]; rfl
theorem dropC_eq (n : Nat) : ∀ l : List α, dropC n l = l.drop n := by
  induction n with
  | zero => intro l; rfl
  | succ n ih =>
    intro l
    cases l with
    | nil => rfl
    | cons x xs => show dropC n xs = _; rw [ih]; rfl
theorem lenC_eq (l : List α) : lenC l = l.length := by
  induction l with
  | nil => rfl
  | cons x xs ih => show Nat.succ (lenC xs) = _; rw [ih]; rfl
theorem appC_eq (l m : List α) : appC l m = l ++ m := by
  induction l with
  | nil => rfl
  | cons x xs ih => show x :: appC xs m = _; rw [ih]; rfl
theorem mapC_eq (f : α → β) (l : List α) : mapC f l = l.map f := by
  induction l with
  | nil => rfl
  | cons x xs ih => show f x :: mapC f xs = _; rw [ih]; rfl
theorem rep_succ (n : Nat) (z : List α) : rep (n + 1) z = z ++ rep n z := by show appC z (rep n z) = _; rw [appC_eq]
theorem rep_length (n : Nat) (z : List α) : (rep n z).length = n * z.length := by
  induction n with
  | zero => show ([] : List α).length = _; simp
  | succ n ih => rw [rep_succ, List.length_append, ih, Nat.succ_mul]; omega
theorem optAll_cons {f : α → Option β} {x : α} {xs : List α} {r : List β} (h : optAll f (x :: xs) = some r) : ∃ y ys, f x = some y ∧ optAll f xs = some ys ∧ r = y :: ys := by
  have h' : optCons (f x) (optAll f xs) = some r := h
  cases hx : f x with
  | none => rw [hx] at h'; cases h'
  | some y =>
    rw [hx] at h'
    cases hs : optAll f xs with
    | none => rw [hs] at h'; cases h'
    | some ys =>
      rw [hs] at h'
      exact ⟨y, ys, rfl, rfl, by cases h'; rfl⟩
theorem optAll_nil {f : α → Option β} {r : List β} (h : optAll f [] = some r) : r = [] := by cases h; rfl
theorem splice_nil (l : List α) (n : Nat) : splice l n [] = l := by
  induction l generalizing n with
  | nil => rfl
  | cons x xs ih =>
    cases n with
    | zero => rfl
    | succ n => show x :: splice xs n [] = _; rw [ih]
theorem splice_length (l : List α) : ∀ n ys, (splice l n ys).length = l.length := by
  induction l with
  | nil => intro n ys; rfl
  | cons x xs ih =>
    intro n ys
    cases n with
    | zero =>
      cases ys with
      | nil => rfl
      | cons y ys => show (y :: splice xs 0 ys).length = _; simp [ih]
    | succ n => show (x :: splice xs n ys).length = _; simp [ih]
theorem splice_get (l : List α) : ∀ n ys i, (splice l n ys)[i]? = if n ≤ i ∧ i < n + ys.length ∧ i < l.length then ys[i - n]? else l[i]? := by
  induction l with
  | nil => intro n ys i; simp [splice]
  | cons x xs ih =>
    intro n ys i
    cases n with
    | zero =>
      cases ys with
      | nil => rw [splice_nil, if_neg (by simp)]
      | cons y ys =>
        have e : splice (x :: xs) 0 (y :: ys) = y :: splice xs 0 ys := rfl
        rw [e]
        cases i with
        | zero => simp
        | succ i => simp only [List.getElem?_cons_succ, ih, List.length_cons, Nat.zero_le, true_and, Nat.zero_add, Nat.sub_zero, Nat.add_lt_add_iff_right]
    | succ n =>
      have e : splice (x :: xs) (n + 1) ys = x :: splice xs n ys := rfl
      rw [e]
      cases i with
      | zero => simp
      | succ i =>
        simp only [List.getElem?_cons_succ, ih, List.length_cons]
        by_cases h : n ≤ i ∧ i < n + ys.length ∧ i < xs.length
        · rw [if_pos h, if_pos (by omega), show i + 1 - (n + 1) = i - n from by omega]
        · rw [if_neg h, if_neg (by omega)]

theorem T.get_nil (k : Nat) : (T.nil : T α).get k = none := rfl
theorem T.get_node_zero (l r : T α) (v : Option α) : (T.node l v r).get 0 = v := rfl
theorem T.get_node_succ (l r : T α) (v : Option α) (m : Nat) : (T.node l v r).get (m + 1) = bsel (Nat.beq (Nat.mod m 2) 0) (l.get (Nat.div m 2)) (r.get (Nat.div m 2)) := rfl
theorem half_inj {a b : Nat} (h1 : Nat.beq (Nat.mod a 2) 0 = Nat.beq (Nat.mod b 2) 0) (h2 : Nat.div a 2 = Nat.div b 2) : a = b := by
  have e1 : Nat.beq (a % 2) 0 = Nat.beq (b % 2) 0 := h1
  have e2 : a / 2 = b / 2 := h2
  rcases Nat.mod_two_eq_zero_or_one a with ha | ha <;> rcases Nat.mod_two_eq_zero_or_one b with hb | hb <;> simp [ha, hb] at e1 <;> omega
theorem T.get_one (n : Nat) : ∀ (k : Nat) (o : Option α) (j : Nat), k < n → (T.one n k o).get j = if j = k then o else none := by
  induction n with
  | zero => intro k o j h; omega
  | succ n ih =>
    intro k o j h
    cases k with
    | zero =>
      have e : T.one (n + 1) 0 o = .node .nil o .nil := rfl
      rw [e]
      cases j with
      | zero => rfl
      | succ j => rw [T.get_node_succ]; simp [bsel_eq, T.get_nil]
    | succ k =>
      have e : T.one (n + 1) (k + 1) o = bsel (Nat.beq (Nat.mod k 2) 0) (.node (T.one n (Nat.div k 2) o) none .nil) (.node .nil none (T.one n (Nat.div k 2) o)) := rfl
      have hk : Nat.div k 2 < n := by show k / 2 < n; omega
      rw [e]
      cases j with
      | zero => rw [bsel_eq]; split <;> simp [T.get_node_zero]
      | succ j =>
        rw [bsel_eq]
        by_cases hp : Nat.beq (Nat.mod k 2) 0 = true
        · rw [if_pos hp, T.get_node_succ, bsel_eq, ih _ _ _ hk, T.get_nil]
          by_cases hj : Nat.beq (Nat.mod j 2) 0 = true
          · rw [if_pos hj]
            by_cases he : Nat.div j 2 = Nat.div k 2
            · have := half_inj (hj.trans hp.symm) he; subst this; simp
            · rw [if_neg he, if_neg (fun x => he (by rw [Nat.succ.inj x]))]
          · rw [if_neg hj, if_neg (fun x => hj (by rw [Nat.succ.inj x]; exact hp))]
        · rw [if_neg hp, T.get_node_succ, bsel_eq, ih _ _ _ hk, T.get_nil]
          by_cases hj : Nat.beq (Nat.mod j 2) 0 = true
          · rw [if_pos hj, if_neg (fun x => hp (by rw [← Nat.succ.inj x]; exact hj))]
          · rw [if_neg hj]
            by_cases he : Nat.div j 2 = Nat.div k 2
            · have := half_inj (a := j) (b := k) (by simp [hj, hp]) he; subst this; simp
            · rw [if_neg he, if_neg (fun x => he (by rw [Nat.succ.inj x]))]
theorem T.get_put (t : T α) : ∀ (k : Nat) (o : Option α) (j : Nat), (t.put k o).get j = if j = k then o else t.get j := by
  induction t with
  | nil => intro k o j; rw [T.get_nil]; exact T.get_one (k + 1) k o j (by omega)
  | node l v r ihl ihr =>
    intro k o j
    cases k with
    | zero =>
      have e : (T.node l v r).put 0 o = .node l o r := rfl
      rw [e]
      cases j with
      | zero => rfl
      | succ j => rw [T.get_node_succ, T.get_node_succ]; simp
    | succ k =>
      have e : (T.node l v r).put (k + 1) o = bsel (Nat.beq (Nat.mod k 2) 0) (.node (l.put (Nat.div k 2) o) v r) (.node l v (r.put (Nat.div k 2) o)) := rfl
      rw [e]
      cases j with
      | zero => rw [bsel_eq]; split <;> simp [T.get_node_zero]
      | succ j =>
        rw [bsel_eq]
        by_cases hp : Nat.beq (Nat.mod k 2) 0 = true
        · rw [if_pos hp, T.get_node_succ, T.get_node_succ, bsel_eq, bsel_eq, ihl]
          by_cases hj : Nat.beq (Nat.mod j 2) 0 = true
          · rw [if_pos hj, if_pos hj]
            by_cases he : Nat.div j 2 = Nat.div k 2
            · have := half_inj (hj.trans hp.symm) he; subst this; simp
            · rw [if_neg he, if_neg (fun x => he (by rw [Nat.succ.inj x]))]
          · rw [if_neg hj, if_neg hj, if_neg (fun x => hj (by rw [Nat.succ.inj x]; exact hp))]
        · rw [if_neg hp, T.get_node_succ, T.get_node_succ, bsel_eq, bsel_eq, ihr]
          by_cases hj : Nat.beq (Nat.mod j 2) 0 = true
          · rw [if_pos hj, if_pos hj, if_neg (fun x => hp (by rw [← Nat.succ.inj x]; exact hj))]
          · rw [if_neg hj, if_neg hj]
            by_cases he : Nat.div j 2 = Nat.div k 2
            · have := half_inj (a := j) (b := k) (by simp [hj, hp]) he; subst this; simp
            · rw [if_neg he, if_neg (fun x => he (by rw [Nat.succ.inj x]))]

/-! ### Values -/
/-- which block an id stands for, and how many cells that has -/
abbrev Rho := Nat → Option (Nat × Nat)
def PRel (ρ : Rho) : List (Nat × Nat) → List Value → Prop
  | [], l => l = []
  | p :: ps, l => ∃ b z ys, ρ p.1 = some (b, z) ∧ l = .pointer (some ⟨b, p.2, none⟩) :: ys ∧ PRel ρ ps ys
def CRel (ρ : Rho) : CV → Value → Prop
  | .int k n, v => v = .int k n
  | .bool b, v => v = .bool b
  | .str s, v => ∃ a : ByteArray, v = .string a ∧ a.data.toList.map UInt8.toNat = s
  | .ptr id off, v => ∃ b z, ρ id = some (b, z) ∧ v = .pointer (some ⟨b, off, none⟩)
  | .nilp, v => v = .pointer none
  | .sl id off len cap, v => ∃ b z, ρ id = some (b, z) ∧ v = .slice (some ⟨b, off, none⟩) len cap ∧ len ≤ cap
  | .slr id off len cap es, v => ∃ b z cap', ρ id = some (b, z) ∧ v = .slice (some ⟨b, off, none⟩) len cap' ∧ cap ≤ cap' ∧ 0 < es ∧ off + cap' * es = z ∧ len ≤ cap
  | .nils, v => v = .slice none 0 0
  | .esl, v => ∃ a c, v = .slice (some a) 0 c
  | .map id, v => ∃ b z, ρ id = some (b, z) ∧ v = .map (some b)
  | .nilmap, v => v = .map none
  | .fn f first caps, v => ∃ a c : Array Value, v = .func (.func f) a c ∧ PRel ρ first a.toList ∧ PRel ρ caps c.toList
  | .yield id, v => ∃ b z, ρ id = some (b, z) ∧ v = .func (.yield b) #[] #[]
  | .nilfn, v => v = .nilFunc
  | .ige n, v => ∃ m : Nat, v = .int .i64 m ∧ n ≤ m
def LRel (ρ : Rho) : List CV → List Value → Prop
  | [], l => l = []
  | x :: xs, l => ∃ y ys, l = y :: ys ∧ CRel ρ x y ∧ LRel ρ xs ys
def PtRel (ρ : Rho) (p : Bool × List CV) (v : Value) : Prop :=
  (p.1 = true ∧ ∃ a : Array Value, v = .agg a ∧ LRel ρ p.2 a.toList) ∨ (p.1 = false ∧ ∃ x, p.2 = [x] ∧ CRel ρ x v)
def PtsRel (ρ : Rho) : List (Bool × List CV) → List Value → Prop
  | [], l => l = []
  | p :: ps, l => ∃ y ys, l = y :: ys ∧ PtRel ρ p y ∧ PtsRel ρ ps ys
def TRel (ρ : Rho) : TV → Value → Prop
  | .one x, v => CRel ρ x v
  | .agg l, v => ∃ a : Array Value, v = .agg a ∧ LRel ρ l a.toList
  | .tup l, v => ∃ a : Array Value, v = .tuple a ∧ PtsRel ρ l a.toList
def TsRel (ρ : Rho) : List TV → List Value → Prop
  | [], l => l = []
  | x :: xs, l => ∃ y ys, l = y :: ys ∧ TRel ρ x y ∧ TsRel ρ xs ys

def Le (ρ ρ' : Rho) : Prop := ∀ id p, ρ id = some p → ρ' id = some p
theorem Le.refl (ρ : Rho) : Le ρ ρ := fun _ _ h => h
theorem Le.trans {a b c : Rho} (h : Le a b) (k : Le b c) : Le a c := fun _ _ x => k _ _ (h _ _ x)
theorem PRel.mono {ρ ρ' : Rho} (h : Le ρ ρ') : ∀ {l : List (Nat × Nat)} {m : List Value}, PRel ρ l m → PRel ρ' l m
  | [], _, r => r
  | _ :: _, _, ⟨b, z, ys, e, rfl, r⟩ => ⟨b, z, ys, h _ _ e, rfl, PRel.mono h r⟩
theorem CRel.mono {ρ ρ' : Rho} (h : Le ρ ρ') {x : CV} {v : Value} (r : CRel ρ x v) : CRel ρ' x v := by
  cases x <;> simp only [CRel] at r ⊢ <;> try exact r
  case ptr => obtain ⟨b, z, e, q⟩ := r; exact ⟨b, z, h _ _ e, q⟩
  case sl => obtain ⟨b, z, e, q⟩ := r; exact ⟨b, z, h _ _ e, q⟩
  case slr => obtain ⟨b, z, c, e, q⟩ := r; exact ⟨b, z, c, h _ _ e, q⟩
  case map => obtain ⟨b, z, e, q⟩ := r; exact ⟨b, z, h _ _ e, q⟩
  case yield => obtain ⟨b, z, e, q⟩ := r; exact ⟨b, z, h _ _ e, q⟩
  case fn => obtain ⟨a, c, e, p, q⟩ := r; exact ⟨a, c, e, p.mono h, q.mono h⟩
theorem LRel.mono {ρ ρ' : Rho} (h : Le ρ ρ') : ∀ {l : List CV} {m : List Value}, LRel ρ l m → LRel ρ' l m
  | [], _, r => r
  | _ :: _, _, ⟨y, ys, e, p, r⟩ => ⟨y, ys, e, p.mono h, LRel.mono h r⟩
theorem PtRel.mono {ρ ρ' : Rho} (h : Le ρ ρ') {p : Bool × List CV} {v : Value} (r : PtRel ρ p v) : PtRel ρ' p v := by
  rcases r with ⟨e, a, f, r⟩ | ⟨e, x, f, r⟩
  · exact .inl ⟨e, a, f, r.mono h⟩
  · exact .inr ⟨e, x, f, r.mono h⟩
theorem PtsRel.mono {ρ ρ' : Rho} (h : Le ρ ρ') : ∀ {l : List (Bool × List CV)} {m : List Value}, PtsRel ρ l m → PtsRel ρ' l m
  | [], _, r => r
  | _ :: _, _, ⟨y, ys, e, p, r⟩ => ⟨y, ys, e, p.mono h, PtsRel.mono h r⟩
theorem TRel.mono {ρ ρ' : Rho} (h : Le ρ ρ') {x : TV} {v : Value} (r : TRel ρ x v) : TRel ρ' x v := by
  cases x with
  | one x => exact CRel.mono h r
  | agg l => obtain ⟨a, e, r⟩ := r; exact ⟨a, e, r.mono h⟩
  | tup l => obtain ⟨a, e, r⟩ := r; exact ⟨a, e, r.mono h⟩
theorem TsRel.mono {ρ ρ' : Rho} (h : Le ρ ρ') : ∀ {l : List TV} {m : List Value}, TsRel ρ l m → TsRel ρ' l m
  | [], _, r => r
  | _ :: _, _, ⟨y, ys, e, p, r⟩ => ⟨y, ys, e, p.mono h, TsRel.mono h r⟩

theorem LRel.length {ρ : Rho} : ∀ {l : List CV} {m : List Value}, LRel ρ l m → m.length = l.length
  | [], _, r => by cases r; rfl
  | _ :: _, _, ⟨_, _, e, _, r⟩ => by subst e; simp [LRel.length r]
theorem LRel.get {ρ : Rho} : ∀ {l : List CV} {m : List Value} {i : Nat} {x : CV}, LRel ρ l m → l[i]? = some x → ∃ v, m[i]? = some v ∧ CRel ρ x v
  | [], _, _, _, _, h => by simp at h
  | _ :: _, _, 0, _, ⟨y, ys, e, p, _⟩, h => by subst e; simp at h; subst h; exact ⟨y, rfl, p⟩
  | _ :: _, _, i + 1, _, ⟨y, ys, e, _, r⟩, h => by subst e; simpa using LRel.get r (by simpa using h)
theorem LRel.of_get {ρ : Rho} : ∀ {l : List CV} {m : List Value}, m.length = l.length → (∀ (i : Nat) (x : CV), l[i]? = some x → ∃ v : Value, m[i]? = some v ∧ CRel ρ x v) → LRel ρ l m
  | [], m, h, _ => by show m = []; simpa using h
  | x :: xs, m, h, k => by
    cases m with
    | nil => simp at h
    | cons y ys =>
      obtain ⟨v, hv, r⟩ := k 0 x rfl
      simp at hv; subst hv
      exact ⟨y, ys, rfl, r, LRel.of_get (by simpa using h) fun i z hz => by simpa using k (i + 1) z (by simpa using hz)⟩
theorem LRel.append {ρ : Rho} : ∀ {l l' : List CV} {m m' : List Value}, LRel ρ l m → LRel ρ l' m' → LRel ρ (l ++ l') (m ++ m')
  | [], _, _, _, r, s => by cases r; exact s
  | _ :: _, _, _, _, ⟨y, ys, e, p, r⟩, s => by subst e; exact ⟨y, _, rfl, p, LRel.append r s⟩
theorem LRel.take {ρ : Rho} {l : List CV} {m : List Value} (n : Nat) (r : LRel ρ l m) : LRel ρ (l.take n) (m.take n) :=
  LRel.of_get (by simp [r.length]) fun i x hx => by
    rw [List.getElem?_take] at hx ⊢
    split at hx
    · rename_i hi; rw [if_pos hi]; exact r.get hx
    · cases hx
theorem LRel.drop {ρ : Rho} {l : List CV} {m : List Value} (n : Nat) (r : LRel ρ l m) : LRel ρ (l.drop n) (m.drop n) :=
  LRel.of_get (by simp [r.length]) fun i x hx => by rw [List.getElem?_drop] at hx ⊢; exact r.get hx

theorem TRel.cells {ρ : Rho} {x : TV} {v : Value} {cs : List CV} (r : TRel ρ x v) (h : TV.cells x = some cs) : LRel ρ cs v.cells.toList := by
  cases x with
  | one x =>
    cases h
    have e : v.cells = #[v] := by
      cases x <;> simp only [TRel, CRel] at r
      all_goals first
        | (subst r; rfl)
        | (obtain ⟨a, e, _⟩ := r; subst e; rfl)
        | (obtain ⟨a, b, e⟩ := r; subst e; rfl)
        | (obtain ⟨a, b, _, e⟩ := r; subst e; rfl)
        | (obtain ⟨a, b, _, e, _⟩ := r; subst e; rfl)
        | (obtain ⟨a, b, c, _, e, _⟩ := r; subst e; rfl)
        | (obtain ⟨a, b, e, _⟩ := r; subst e; rfl)
    rw [e]
    exact ⟨v, [], rfl, r, rfl⟩
  | agg l => cases h; obtain ⟨a, e, r⟩ := r; subst e; exact r
  | tup l => cases h
theorem TRel.part {ρ : Rho} {x : TV} {v : Value} {p : Bool × List CV} (r : TRel ρ x v) (h : TV.part x = some p) : PtRel ρ p v := by
  cases x with
  | one x => cases h; exact .inr ⟨rfl, x, rfl, r⟩
  | agg l => cases h; exact .inl ⟨rfl, r⟩
  | tup l => cases h
theorem PtRel.ofPart {ρ : Rho} {p : Bool × List CV} {v : Value} {x : TV} (r : PtRel ρ p v) (h : TV.ofPart p = some x) : TRel ρ x v := by
  rcases r with ⟨e, r⟩ | ⟨e, y, f, r⟩
  · obtain ⟨b, l⟩ := p; simp only at e; subst e; cases h; exact r
  · obtain ⟨b, l⟩ := p; simp only at e f; subst e f; cases h; exact r
theorem PtsRel.get {ρ : Rho} : ∀ {l : List (Bool × List CV)} {m : List Value} {i : Nat} {x : Bool × List CV}, PtsRel ρ l m → l[i]? = some x → ∃ v, m[i]? = some v ∧ PtRel ρ x v
  | [], _, _, _, _, h => by simp at h
  | _ :: _, _, 0, _, ⟨y, ys, e, p, _⟩, h => by subst e; simp at h; subst h; exact ⟨y, rfl, p⟩
  | _ :: _, _, i + 1, _, ⟨y, ys, e, _, r⟩, h => by subst e; simpa using PtsRel.get r (by simpa using h)
theorem undef_rel (ρ : Rho) : TRel ρ undefV undef := ⟨#[], rfl, rfl⟩
end Go.Abs
