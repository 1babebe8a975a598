/- Regions that draw: what the checks say, what the run in the text's order tells. -/
import Derived.Test.YtgdgknjhhgkabaaGreatDoorMCall
set_option linter.unusedVariables false
set_option linter.unusedSimpArgs false
namespace Go.Abs
variable {P : Program} {E : Env}

theorem bindsE_eq (e : Edge) : Region.binds .any e = bindsE e := by
  unfold Region.binds bindsE
  cases e.ground <;> rfl
theorem memN_iff {n : Nat} {l : List Nat} : memN n l = true ↔ n ∈ l := by
  induction l with
  | nil => exact ⟨fun h => (by cases h), fun h => (by cases h)⟩
  | cons x l ih =>
    have e : memN n (x :: l) = bsel (Nat.beq n x) true (memN n l) := rfl
    rw [e, bsel_eq]
    by_cases h : n = x
    · subst h; simp [Nat.beq_refl]
    · rw [if_neg (fun q => h (Nat.eq_of_beq_eq_true q)), ih]; simp [h]
theorem notIn_spec {d : Option Nat} {l : List Nat} (h : notIn d l = true) {t : Nat} (hd : d = some t) : t ∉ l := by
  subst hd
  have h : (!(memN t l)) = true := h
  intro q
  rw [memN_iff.2 q] at h; cases h
theorem differ_spec {d d' : Option Nat} (h : differ d d' = true) {t : Nat} (hd : d = some t) : d' ≠ some t := by
  subst hd
  rintro rfl
  have h : (!(Nat.beq t t)) = true := h
  rw [Nat.beq_refl] at h; cases h
theorem bselF {b c : Bool} (h : bsel b c false = true) : b = true ∧ c = true := by
  cases b
  · cases h
  · exact ⟨rfl, h⟩
theorem apartA_spec {all : List Oper} {x y : Oper} (h : apartA all x y = true) : (∀ t, x.dst = some t → t ∉ looks all y) ∧ (∀ t, y.dst = some t → t ∉ looks all x) ∧ ∀ t, x.dst = some t → y.dst ≠ some t := by
  obtain ⟨h1, h2⟩ := bselF h
  obtain ⟨h2, h3⟩ := bselF h2
  exact ⟨fun t => notIn_spec h1, fun t => notIn_spec h2, fun t => differ_spec h3⟩

theorem okPairs_spec {all : List Oper} {o : Oper} {m : Nat} : ∀ {l : List Oper} {i : Nat}, okPairs all o m l i = true → ∀ (j : Nat) (x : Oper), l[j]? = some x → bit m (i + j) = true ∨ apartA all x o = true
  | [], _, _, j, x, hx => by simp at hx
  | y :: l, i, h, j, x, hx => by
    have h : bsel (bsel (bit m i) true (apartA all y o)) (okPairs all o m l (Nat.succ i)) false = true := h
    obtain ⟨h1, h2⟩ := bselF h
    cases j with
    | zero =>
      simp at hx; subst hx
      cases hb : bit m i with
      | true => exact .inl rfl
      | false => rw [hb] at h1; exact .inr h1
    | succ j =>
      have := okPairs_spec h2 j x (by simpa using hx)
      rw [show Nat.succ i + j = i + (j + 1) from by omega] at this
      exact this
theorem okEdges_spec {i : Nat} : ∀ {l : List Edge}, okEdges i l = true → ∀ e ∈ l, bindsE e = true → e.on < i
  | [], _, e, he, _ => by cases he
  | y :: l, h, e, he, hb => by
    have h : bsel (bsel (bindsE y) (Nat.blt y.on i) true) (okEdges i l) false = true := h
    obtain ⟨h1, h2⟩ := bselF h
    rcases List.mem_cons.1 he with rfl | he
    · rw [hb] at h1; exact blt_lt h1
    · exact okEdges_spec h2 e he hb
theorem okDraw_spec {all : List Oper} : ∀ {l : List Oper} {ms : List Nat} {before : List Oper} {i : Nat}, okDraw all l ms before i = true → ms.length = l.length ∧ ∀ (k : Nat) (o : Oper) (m : Nat), l[k]? = some o → ms[k]? = some m →
    okPairs all o m (before ++ l.take k) 0 = true ∧ okEdges (i + k) o.after.toList = true
  | [], ms, before, i, h => by
    cases ms with
    | nil => exact ⟨rfl, fun k o m hk => by simp at hk⟩
    | cons _ _ => cases h
  | o :: l, [], before, i, h => by cases h
  | o :: l, m :: ms, before, i, h => by
    have h : bsel (okPairs all o m before 0) (bsel (okEdges i o.after.toList) (okDraw all l ms (appC before [o]) (Nat.succ i)) false) false = true := h
    obtain ⟨h1, h2⟩ := bselF h
    obtain ⟨h2, h3⟩ := bselF h2
    obtain ⟨h4, h5⟩ := okDraw_spec h3
    refine ⟨by simp [h4], fun k o' m' ho hm => ?_⟩
    cases k with
    | zero => simp at ho hm; subst ho; subst hm; simpa using ⟨h1, h2⟩
    | succ k =>
      have := h5 k o' m' (by simpa using ho) (by simpa using hm)
      rw [appC_eq] at this
      simp only [List.take_succ_cons]
      rw [show before ++ o :: List.take k l = before ++ [o] ++ List.take k l from by simp, show i + (k + 1) = Nat.succ i + k from by omega]
      exact this

theorem bit_lor (a b j : Nat) : bit (Nat.lor a b) j = (bit a j || bit b j) := by
  rw [bit_eq, bit_eq, bit_eq]; exact Nat.testBit_or a b j
theorem bit_one (k j : Nat) : bit (Nat.shiftLeft 1 k) j = decide (k = j) := by
  rw [bit_eq]
  show (1 <<< k).testBit j = _
  rw [Nat.shiftLeft_eq, Nat.one_mul, Nat.testBit_two_pow]
theorem bit_zero (j : Nat) : bit 0 j = false := by rw [bit_eq]; exact Nat.zero_testBit j
theorem maskOf_bit {ms : List Nat} {j : Nat} : ∀ {l : List Edge}, bit (maskOf ms l) j = true ↔ ∃ e ∈ l, bindsE e = true ∧ (j = e.on ∨ ∃ m, ms[e.on]? = some m ∧ bit m j = true)
  | [] => by
    have : maskOf ms [] = 0 := rfl
    rw [this, bit_zero]; simp
  | y :: l => by
    have e : maskOf ms (y :: l) = bsel (bindsE y) (Nat.lor (Nat.lor (Nat.shiftLeft 1 y.on) (Option.rec 0 (fun x => x) (nthC ms y.on))) (maskOf ms l)) (maskOf ms l) := rfl
    have ih := maskOf_bit (ms := ms) (j := j) (l := l)
    rw [e]
    cases hb : bindsE y with
    | false =>
      rw [bsel_false, ih]
      constructor
      · rintro ⟨e, he, h⟩; exact ⟨e, List.mem_cons_of_mem _ he, h⟩
      · rintro ⟨e, he, h1, h2⟩
        rcases List.mem_cons.1 he with rfl | he
        · rw [hb] at h1; cases h1
        · exact ⟨e, he, h1, h2⟩
    | true =>
      rw [bsel_true, bit_lor, bit_lor, bit_one, Bool.or_eq_true, Bool.or_eq_true, ih, nthC_eq]
      constructor
      · rintro ((h | h) | ⟨e, he, h⟩)
        · exact ⟨y, List.mem_cons_self, hb, .inl (of_decide_eq_true h).symm⟩
        · refine ⟨y, List.mem_cons_self, hb, .inr ?_⟩
          cases hm : ms[y.on]? with
          | none => rw [hm] at h; rw [show (Option.rec 0 (fun x => x) (none : Option Nat) : Nat) = 0 from rfl, bit_zero] at h; cases h
          | some m => rw [hm] at h; exact ⟨m, rfl, h⟩
        · exact ⟨e, List.mem_cons_of_mem _ he, h⟩
      · rintro ⟨e, he, h1, h2⟩
        rcases List.mem_cons.1 he with rfl | he
        · rcases h2 with rfl | ⟨m, hm, h⟩
          · exact .inl (.inl (decide_eq_true rfl))
          · rw [hm]; exact .inl (.inr h)
        · exact .inr ⟨e, he, h1, h2⟩
theorem masksFrom_spec : ∀ (l : List Oper) (acc : List Nat), ∃ suf, masksFrom l acc = acc ++ suf ∧ suf.length = l.length ∧ ∀ (i : Nat) (o : Oper), l[i]? = some o → suf[i]? = some (maskOf (acc ++ suf.take i) o.after.toList)
  | [], acc => ⟨[], by simp [masksFrom], rfl, by simp⟩
  | o :: l, acc => by
    obtain ⟨suf, h1, h2, h3⟩ := masksFrom_spec l (appC acc [maskOf acc o.after.toList])
    refine ⟨maskOf acc o.after.toList :: suf, ?_, by simp [h2], fun i o' ho => ?_⟩
    · show masksFrom l (appC acc [maskOf acc o.after.toList]) = _
      rw [h1, appC_eq]; simp
    · cases i with
      | zero => simp at ho; subst ho; simp
      | succ i =>
        have := h3 i o' (by simpa using ho)
        rw [appC_eq] at this
        simpa using this

/-- what is known of the masks -/
structure MaskOk (l : List Oper) (ms : List Nat) : Prop where
  len : ms.length = l.length
  m2 : ∀ (i m j : Nat), ms[i]? = some m → bit m j = true → j < i
  m3 : ∀ (i m j mj k : Nat), ms[i]? = some m → bit m j = true → ms[j]? = some mj → bit mj k = true → bit m k = true
  edge : ∀ (i m : Nat) (o : Oper), ms[i]? = some m → l[i]? = some o → ∀ ed ∈ o.after, bindsE ed = true → ed.on < i ∧ bit m ed.on = true
  clos : ∀ S : Nat → Prop, (∀ (i : Nat) (o : Oper), S i → l[i]? = some o → ∀ ed ∈ o.after, bindsE ed = true → S ed.on) → ∀ (i m : Nat) (o : Oper) (j : Nat), l[i]? = some o → ms[i]? = some m → (∀ ed ∈ o.after, bindsE ed = true → S ed.on) → bit m j = true → S j
  pairs : ∀ (i j m : Nat) (o x : Oper), j < i → ms[i]? = some m → l[i]? = some o → l[j]? = some x → bit m j = true ∨ apartA l x o = true
theorem maskOk {l : List Oper} (h : okDraw l l (masks l) [] 0 = true) : MaskOk l (masks l) := by
  obtain ⟨suf, h1, h2, h3⟩ := masksFrom_spec l []
  have h1 : masks l = suf := by
    show masksFrom l [] = suf
    simpa using h1
  rw [h1] at h ⊢
  obtain ⟨hl, hd⟩ := okDraw_spec h
  simp only [List.nil_append] at h3 hd
  have gt : ∀ {i m : Nat}, suf[i]? = some m → ∃ o, l[i]? = some o ∧ m = maskOf (suf.take i) o.after.toList ∧ okPairs l o m (l.take i) 0 = true ∧ ∀ ed ∈ o.after, bindsE ed = true → ed.on < i := by
    intro i m hm
    have hi : i < l.length := by rw [← h2]; exact (List.getElem?_eq_some_iff.1 hm).1
    refine ⟨l[i], List.getElem?_eq_getElem hi, ?_, ?_, ?_⟩
    · have := h3 i _ (List.getElem?_eq_getElem hi)
      rw [hm] at this
      exact Option.some.inj this
    · exact (hd i _ m (List.getElem?_eq_getElem hi) hm).1
    · intro ed he hb
      have := okEdges_spec (hd i _ m (List.getElem?_eq_getElem hi) hm).2 ed (by simpa using he) hb
      omega
  have dec : ∀ {i m j : Nat} {o : Oper}, suf[i]? = some m → l[i]? = some o → bit m j = true → ∃ ed ∈ o.after, bindsE ed = true ∧ ed.on < i ∧ (j = ed.on ∨ ∃ m', suf[ed.on]? = some m' ∧ bit m' j = true) := by
    intro i m j o hm ho hb
    obtain ⟨o', ho', he, _, hlt⟩ := gt hm
    rw [ho] at ho'; cases ho'
    rw [he] at hb
    obtain ⟨ed, h5, h6, h7⟩ := maskOf_bit.1 hb
    have h5 : ed ∈ o.after := by simpa using h5
    have hi := hlt ed h5 h6
    refine ⟨ed, h5, h6, hi, ?_⟩
    rcases h7 with h7 | ⟨m', h7, h8⟩
    · exact .inl h7
    · rw [List.getElem?_take, if_pos hi] at h7
      exact .inr ⟨m', h7, h8⟩
  have up : ∀ {i m : Nat} {o : Oper}, suf[i]? = some m → l[i]? = some o → ∀ ed ∈ o.after, bindsE ed = true → bit m ed.on = true ∧ ∀ (m' k : Nat), suf[ed.on]? = some m' → bit m' k = true → bit m k = true := by
    intro i m o hm ho ed he hb
    obtain ⟨o', ho', heq, _, hlt⟩ := gt hm
    rw [ho] at ho'; cases ho'
    have hi := hlt ed he hb
    constructor
    · rw [heq]; exact maskOf_bit.2 ⟨ed, by simpa using he, hb, .inl rfl⟩
    · intro m' k hm' hk
      rw [heq]; exact maskOf_bit.2 ⟨ed, by simpa using he, hb, .inr ⟨m', by rw [List.getElem?_take, if_pos hi]; exact hm', hk⟩⟩
  refine ⟨h2, ?_, ?_, ?_, ?_, ?_⟩
  · intro i
    induction i using Nat.strongRecOn with
    | ind i ih =>
      intro m j hm hb
      obtain ⟨o, ho, _⟩ := gt hm
      obtain ⟨ed, _, _, h6, h7⟩ := dec hm ho hb
      rcases h7 with rfl | ⟨m', h7, h8⟩
      · exact h6
      · exact Nat.lt_trans (ih ed.on h6 m' j h7 h8) h6
  · intro i
    induction i using Nat.strongRecOn with
    | ind i ih =>
      intro m j mj k hm hb hmj hk
      obtain ⟨o, ho, _⟩ := gt hm
      obtain ⟨ed, h4, h5, h6, h7⟩ := dec hm ho hb
      rcases h7 with rfl | ⟨m', h7, h8⟩
      · exact (up hm ho ed h4 h5).2 mj k hmj hk
      · exact (up hm ho ed h4 h5).2 m' k h7 (ih ed.on h6 m' j mj k h7 h8 hmj hk)
  · intro i m o hm ho ed he hb
    obtain ⟨o', ho', _, _, hlt⟩ := gt hm
    rw [ho] at ho'; cases ho'
    exact ⟨hlt ed he hb, (up hm ho ed he hb).1⟩
  · intro S hS i
    induction i using Nat.strongRecOn with
    | ind i ih =>
      intro m o j ho hm hed hb
      obtain ⟨ed, h4, h5, h6, h7⟩ := dec hm ho hb
      rcases h7 with rfl | ⟨m', h7, h8⟩
      · exact hed ed h4 h5
      · obtain ⟨o', ho', _⟩ := gt h7
        exact ih ed.on h6 m' o' j ho' h7 (fun ed' h9 h10 => hS ed.on o' (hed ed h4 h5) ho' ed' h9 h10) h8
  · intro i j m o x hj hm ho hx
    obtain ⟨o', ho', _, hp, _⟩ := gt hm
    rw [ho] at ho'; cases ho'
    have := okPairs_spec hp j x (by rw [List.getElem?_take, if_pos hj]; exact hx)
    simpa using this

/-! ### What is laid and not found yet -/
theorem addPend_in {c0 : Nat} {h : T AO} : ∀ {l : List (Nat × AO)} {i : Nat} {o : AO}, (i, o) ∈ l → (∀ o', (i, o') ∈ l → o' = o) → (addPend c0 l h).get (c0 + i) = some o
  | [], _, _, hm, _ => by cases hm
  | (i', o') :: l, i, o, hm, hu => by
    have e : addPend c0 ((i', o') :: l) h = (addPend c0 l h).put (Nat.add c0 i') (some o') := rfl
    rw [e, T.get_put]
    by_cases he : i' = i
    · subst he
      have := hu o' (by simp)
      subst this
      exact if_pos rfl
    · rw [if_neg (by show ¬ (c0 + i = c0 + i'); omega)]
      refine addPend_in ?_ fun o'' h' => hu o'' (List.mem_cons_of_mem _ h')
      rcases List.mem_cons.1 hm with h' | h'
      · cases h'; exact absurd rfl he
      · exact h'
theorem addPend_out {c0 : Nat} {h : T AO} {id : Nat} : ∀ {l : List (Nat × AO)}, (∀ i o, (i, o) ∈ l → id ≠ c0 + i) → (addPend c0 l h).get id = h.get id
  | [], _ => rfl
  | (i', o') :: l, hn => by
    have e : addPend c0 ((i', o') :: l) h = (addPend c0 l h).put (Nat.add c0 i') (some o') := rfl
    rw [e, T.get_put]
    exact (if_neg (show ¬ id = Nat.add c0 i' from hn i' o' (by simp))).trans (addPend_out fun i o h' => hn i o (List.mem_cons_of_mem _ h'))
theorem mem_pendIn {m j : Nat} {o : AO} : ∀ {l : List (Nat × AO)}, (j, o) ∈ pendIn m l ↔ (j, o) ∈ l ∧ bit m j = true
  | [] => by
    have : pendIn m [] = [] := rfl
    rw [this]; simp
  | (i, o') :: l => by
    have e : pendIn m ((i, o') :: l) = bsel (bit m i) ((i, o') :: pendIn m l) (pendIn m l) := rfl
    have ih := mem_pendIn (m := m) (j := j) (o := o) (l := l)
    rw [e]
    cases hb : bit m i with
    | true =>
      rw [bsel_true, List.mem_cons, List.mem_cons, ih]
      constructor
      · rintro (h | h)
        · cases h; exact ⟨.inl rfl, hb⟩
        · exact ⟨.inr h.1, h.2⟩
      · rintro ⟨h | h, h2⟩
        · exact .inl h
        · exact .inr ⟨h, h2⟩
    | false =>
      rw [bsel_false, List.mem_cons, ih]
      constructor
      · rintro ⟨h, h2⟩; exact ⟨.inr h, h2⟩
      · rintro ⟨h | h, h2⟩
        · cases h; rw [hb] at h2; cases h2
        · exact ⟨h, h2⟩
theorem mem_pendOut {m j : Nat} {o : AO} : ∀ {l : List (Nat × AO)}, (j, o) ∈ pendOut m l ↔ (j, o) ∈ l ∧ bit m j = false
  | [] => by
    have : pendOut m [] = [] := rfl
    rw [this]; simp
  | (i, o') :: l => by
    have e : pendOut m ((i, o') :: l) = bsel (bit m i) (pendOut m l) ((i, o') :: pendOut m l) := rfl
    have ih := mem_pendOut (m := m) (j := j) (o := o) (l := l)
    rw [e]
    cases hb : bit m i with
    | false =>
      rw [bsel_false, List.mem_cons, List.mem_cons, ih]
      constructor
      · rintro (h | h)
        · cases h; exact ⟨.inl rfl, hb⟩
        · exact ⟨.inr h.1, h.2⟩
      · rintro ⟨h | h, h2⟩
        · exact .inl h
        · exact .inr ⟨h, h2⟩
    | true =>
      rw [bsel_true, List.mem_cons, ih]
      constructor
      · rintro ⟨h, h2⟩; exact ⟨.inr h, h2⟩
      · rintro ⟨h | h, h2⟩
        · cases h; rw [hb] at h2; cases h2
        · exact ⟨h, h2⟩
theorem ldsNone_spec {m : Nat} : ∀ {l : List (Nat × Nat)}, ldsNone m l = true → ∀ i a, (i, a) ∈ l → bit m i = true
  | [], _, _, _, h => by cases h
  | (j, b) :: l, h, i, a, hm => by
    have h : bsel (bit m j) (ldsNone m l) false = true := h
    obtain ⟨h1, h2⟩ := bselF h
    rcases List.mem_cons.1 hm with h' | h'
    · cases h'; exact h1
    · exact ldsNone_spec h2 i a h'
theorem ldsApart_spec {m W : Nat} : ∀ {l : List (Nat × Nat)}, ldsApart m W l = true → ∀ i a, (i, a) ∈ l → bit m i = true ∨ a ≠ W
  | [], _, _, _, h => by cases h
  | (j, b) :: l, h, i, a, hm => by
    have h : bsel (bit m j) (ldsApart m W l) (bsel (Nat.beq b W) false (ldsApart m W l)) = true := h
    have h2 : ldsApart m W l = true := by
      revert h
      cases bit m j <;> cases Nat.beq b W <;> simp
    rcases List.mem_cons.1 hm with h' | h'
    · cases h'
      cases hb : bit m j with
      | true => exact .inl rfl
      | false =>
        right
        rintro rfl
        rw [hb, Nat.beq_refl] at h; cases h
    · exact ldsApart_spec h2 i a h'
theorem wrOk_zero (a : Nat) : wrOk 0 a = true := rfl
theorem wrOk_one (a : Nat) : wrOk 1 a = false := rfl
theorem wrOk_W (W a : Nat) : wrOk (W + 2) a = !(Nat.beq W a) := rfl
theorem wrOk_ne {W a : Nat} (h : wrOk (W + 2) a = true) : a ≠ W := by
  rintro rfl
  rw [wrOk_W, Nat.beq_refl] at h; cases h
theorem wrOk_of_ne {W a : Nat} (h : a ≠ W) : wrOk (W + 2) a = true := by
  rw [wrOk_W]
  cases hb : Nat.beq W a with
  | true => exact absurd (Nat.eq_of_beq_eq_true hb).symm h
  | false => rfl
theorem cKind_spec {lo c m s i : Nat} {W : Option Nat} {lds : List (Nat × Nat)} {lo' k : Nat} (h : cKind lo c m s i W lds = (lo', k)) :
    (lo' = lo ∧ k = 1 ∧ ldsNone m lds = true) ∨ (lo' = c ∧ k = 0) ∨ ∃ W', W = some W' ∧ lo' = lo ∧ k = W' + 2 ∧ ldsApart m W' lds = true := by
  unfold cKind at h
  cases hb : bsel (bit s i) (ldsNone m lds) false with
  | true =>
    rw [hb] at h; cases h
    exact .inl ⟨rfl, rfl, (bselF hb).2⟩
  | false =>
    rw [hb, bsel_false] at h
    cases W with
    | none => cases h; exact .inr (.inl ⟨rfl, rfl⟩)
    | some W' =>
      have h : bsel (ldsApart m W' lds) (lo, Nat.succ (Nat.succ W')) (c, 0) = (lo', k) := h
      cases hl : ldsApart m W' lds with
      | true => rw [hl] at h; cases h; exact .inr (.inr ⟨W', rfl, rfl, rfl, hl⟩)
      | false => rw [hl] at h; cases h; exact .inr (.inl ⟨rfl, rfl⟩)
end Go.Abs
