/- The built-in functions that look at the memory: append, copy, clear, the length of a map. -/
import Derived.Test.YtgdgknjhhgkabaaGreatDoorMMem4
import Derived.Laws.AppendOwn
set_option linter.unusedVariables false
set_option linter.unusedSimpArgs false
namespace Go.Abs
variable {P : Program} {E : Env} {ρ : Rho} {lo : Nat} {st st' : St} {w : World}

/-- an object dies; what it stood on is told anew -/
theorem Ext.move {c : Nat} {h : Nat → Option AO} {w' : World} (m : Mod ρ h c w) {id : Nat} {o o' : AO} {b z : Nat} {ob' : Obj} (hlo : lo ≤ id) (ho : h id = some o) (hp : ρ id = some (b, z)) (r : ORel (Rho.set ρ c (b, z)) o' ob' z)
    (hw : ∀ j, w'.heap[j]? = if j = b then some ob' else w.heap[j]?) (hs : w'.heap.size = w.heap.size) (he : World.env2 w' = World.env2 w := by rfl) : Ext lo ρ h c w (Rho.set ρ c (b, z)) (hset (hset h id none) c (some o')) (c + 1) w' := by
  have hid : id < c := by
    rcases Nat.lt_or_ge id c with hc | hc
    · exact hc
    · rw [m.dom id hc] at hp; cases hp
  exact
  { cc := Nat.le_succ _
    env := he
    old := fun j hj => by unfold Rho.set; rw [if_neg (by omega)]
    size := by omega
    new := fun j b' z' hc hp' => by
      unfold Rho.set at hp'
      split at hp'
      · cases hp'; exact .inr ⟨id, z, hlo, hid, hp, by rw [ho]; simp⟩
      · rw [m.dom j hc] at hp'; cases hp'
    frame := fun j hj hn => by
      rw [hw, if_neg]
      rintro rfl
      have := hn id z hp
      rw [ho] at this; cases this
    low := fun j hj => by unfold hset; rw [if_neg (by omega), if_neg (by omega)]
    dead := fun j hj h0 => by
      unfold hset
      rw [if_neg (by omega)]
      split
      · rfl
      · exact h0
    mod :=
      { dom := fun j hj => by unfold Rho.set; rw [if_neg (by omega)]; exact m.dom j (by omega)
        lt := fun j b' z' hp' => by
          rw [hs]
          unfold Rho.set at hp'
          split at hp'
          · cases hp'; exact m.lt _ _ _ hp
          · exact m.lt _ _ _ hp'
        obj := fun j oj hj => by
          unfold hset at hj
          split at hj
          · rename_i e; subst e; cases hj
            exact ⟨b, z, ob', by unfold Rho.set; rw [if_pos rfl], by rw [hw, if_pos rfl], r⟩
          · rename_i hne
            split at hj
            · cases hj
            · rename_i hne2
              obtain ⟨b', z', ob, h1, h2, h3⟩ := m.obj j oj hj
              refine ⟨b', z', ob, by unfold Rho.set; rw [if_neg hne]; exact h1, ?_, h3.mono (Rho.le_set m _)⟩
              rw [hw, if_neg]; · exact h2
              rintro rfl
              exact hne2 (m.inj j id oj o b' z' z hj ho h1 hp)
        inj := fun j j' o1 o2 b' z1 z2 h1 h2 p1 p2 => by
          unfold Rho.set at p1 p2
          unfold hset at h1 h2
          split at p1 <;> split at p2
          · rename_i e1 e2; rw [e1, e2]
          · rename_i e1 e2
            cases p1
            rw [if_neg e2] at h2
            split at h2
            · cases h2
            · rename_i e3
              exact absurd (m.inj j' id o2 o _ _ _ h2 ho p2 hp) e3
          · rename_i e1 e2
            cases p2
            rw [if_neg e1] at h1
            split at h1
            · cases h1
            · rename_i e3
              exact absurd (m.inj j id o1 o _ _ _ h1 ho p1 hp) e3
          · rename_i e1 e2
            rw [if_neg e1] at h1; rw [if_neg e2] at h2
            split at h1
            · cases h1
            · split at h2
              · cases h2
              · exact m.inj j j' o1 o2 b' z1 z2 h1 h2 p1 p2 } }

/-- what a built-in function gives -/
def BOk (P : Program) (lo : Nat) (ρ : Rho) (st : St) (w : World) (s : Sem Value) (v : TV) (st' : St) : Prop :=
  ∃ ρ' w' x, s.run P w = .ok x w' ∧ TRel ρ' v x ∧ Ext lo ρ st.h.get st.c w ρ' st'.h.get st'.c w'
theorem BOk.of_mem {s : Sem Value} {v : TV} (h : MemOk P lo ρ st w (do pure (Next.value (← s)) : Sem Next) v st') : BOk P lo ρ st w s v st' := by
  obtain ⟨ρ', w', x, h1, h2, h3⟩ := h
  refine ⟨ρ', w', x, ?_, h2, h3⟩
  rcases h1 with h1 | ⟨h1, _⟩
  · cases hq : s.run P w with
    | ok y w2 =>
      simp only [Sem.run_bind, hq, Result.andThen_ok, Sem.run_pure] at h1
      cases h1; rfl
    | halt y w2 => simp only [Sem.run_bind, hq, Result.andThen] at h1; cases h1
  · cases hq : s.run P w with
    | ok y w2 =>
      simp only [Sem.run_bind, hq, Result.andThen_ok, Sem.run_pure] at h1
      cases h1
    | halt y w2 => simp only [Sem.run_bind, hq, Result.andThen] at h1; cases h1
theorem blaid_ok {s : Sem Value} {o : AO} {k : Nat → TV} {v : TV} (m : StMod ρ st w) (hlo : lo ≤ st.c) (h : laid st o k = some (v, st')) {x : Value} {w' : World} {ob : Obj} {z : Nat}
    (hs : s.run P w = .ok x w') (hw : World.env3 w' = (w.heap.push ob, w.os, w.output)) (hr : ORel (Rho.set ρ st.c (w.heap.size, z)) o ob z) (hv : TRel (Rho.set ρ st.c (w.heap.size, z)) (k st.c) x) :
    BOk P lo ρ st w s v st' := by
  have h' : some (k st.c, (⟨st.h.put st.c (some o), Nat.succ st.c⟩ : St)) = some (v, st') := h
  cases h'
  refine ⟨_, w', x, hs, hv, ?_⟩
  rw [put_eq]
  exact Ext.alloc m hlo hr (congrArg (fun p => p.1) hw) (congrArg (fun p => p.2) hw)

theorem LRel.of_nats {s : List Nat} {a : ByteArray} (h : a.data.toList.map UInt8.toNat = s) : LRel ρ (mapC (fun n => .int .u8 (Int.ofNat n)) s) (a.data.map fun b => Value.int .u8 b.toNat).toList := by
  rw [mapC_eq]
  refine LRel.of_get (by rw [← h]; simp) fun i c hc => ?_
  rw [← h, List.map_map, List.getElem?_map] at hc
  rw [Array.toList_map, List.getElem?_map]
  cases hq : a.data.toList[i]? with
  | none => rw [hq] at hc; cases hc
  | some q => rw [hq] at hc; cases hc; exact ⟨_, rfl, rfl⟩

/-- what is appended or copied -/
theorem srcCells_run (m : StMod ρ st w) {sz n : Nat} {x : CV} {new : List CV} {xv : Value} (h : srcCells st sz x = some (n, new)) (hx : CRel ρ x xv) :
    ∃ vs : List Value, LRel ρ new vs ∧ vs.length = n * sz ∧ (∀ w', (Builtin.lenOf xv).run P w' = .ok n w') ∧ ∀ n' w', n' ≤ n → w'.heap = w.heap → (Builtin.firstCells sz n' xv).run P w' = .ok (vs.take (n' * sz)).toArray w' := by
  have row : ∀ id off b z l, readN st id off (n * sz) = some l → ρ id = some (b, z) → ∃ vs : List Value, LRel ρ l vs ∧ vs.length = n * sz ∧ ∀ n' w', n' ≤ n → w'.heap = w.heap → (loadCells ⟨b, off, none⟩ (n' * sz)).run P w' = .ok (vs.take (n' * sz)).toArray w' := by
    intro id off b z l hl hb
    unfold readN at hl
    split at hl
    · rename_i d len e x fz hg
      obtain ⟨h1, h2⟩ := bsel_some hl
      cases h2
      have h1 : off + n * sz ≤ len := Nat.le_of_ble_eq_true h1
      obtain ⟨b', z', arr, fr, r⟩ := row_of m hg
      have e1 := r.rho
      rw [hb] at e1; cases e1
      have hsz := r.size
      have hle := r.le
      refine ⟨_, r.slice h1, by simp; omega, fun n' w' hn hw => ?_⟩
      have : n' * sz ≤ n * sz := Nat.mul_le_mul_right _ hn
      rw [run_loadRow w' (by rw [hw]; exact r.heap) (by omega), List.take_take, Nat.min_eq_left this]
    · cases hl
  unfold srcCells at h
  split at h
  · cases h
    have hx : xv = .slice none 0 0 := hx
    subst hx
    exact ⟨[], rfl, by simp, fun w' => rfl, fun n' w' _ _ => by simp [Builtin.firstCells]⟩
  · cases h
    obtain ⟨a, c, rfl⟩ := hx
    refine ⟨[], rfl, by simp, fun w' => rfl, fun n' w' hn _ => ?_⟩
    have : n' = 0 := by omega
    subst this
    simp [Builtin.firstCells, loadCells, loadCellsFrom]
  · rename_i s
    obtain ⟨h1, hq'⟩ := bsel_some h
    clear h
    have h := hq'
    clear hq'
    cases h
    have := Nat.eq_of_beq_eq_true h1; subst this
    obtain ⟨a, rfl, ha⟩ := hx
    have hlen : lenC s = a.size := by rw [lenC_eq, ← ha, List.length_map, Array.length_toList]; rfl
    refine ⟨_, LRel.of_nats ha, by rw [hlen]; simp, fun w' => by rw [hlen]; rfl, fun n' w' hn _ => ?_⟩
    rw [hlen] at hn
    simp only [Builtin.firstCells, Sem.run_pure]
    congr 1
    apply Array.ext'
    rw [Nat.mul_one]
    simp
  · rename_i id off len cap
    obtain ⟨l, hl, hq'⟩ := obind_some h
    clear h
    have h := hq'
    clear hq'
    cases h
    obtain ⟨b, z, hb, rfl, hlc⟩ := hx
    obtain ⟨vs, h1, h2, h3⟩ := row _ _ _ _ _ hl hb
    exact ⟨vs, h1, h2, fun w' => rfl, fun n' w' hn hw => by simp only [Builtin.firstCells]; exact h3 n' w' hn hw⟩
  · rename_i id off len cap es
    obtain ⟨l, hl, hq'⟩ := obind_some h
    clear h
    have h := hq'
    clear hq'
    cases h
    obtain ⟨b, z, cap', hb, rfl, hlc⟩ := hx
    obtain ⟨vs, h1, h2, h3⟩ := row _ _ _ _ _ hl hb
    exact ⟨vs, h1, h2, fun w' => rfl, fun n' w' hn hw => by simp only [Builtin.firstCells]; exact h3 n' w' hn hw⟩
  · cases h

/-- an append's second operand -/
def ASrc (P : Program) (w : World) (d2 : TypeDesc) (sz : Nat) (Z : Array Value) (n : Nat) (xv : Value) (vs : List Value) : Prop :=
  ((∃ k, d2 = .int k) ∧ xv = .int .i64 n ∧ n ≤ 65536 ∧ vs.toArray = Builtin.zeroCells Z n) ∨
  ((∀ k, d2 ≠ .int k) ∧ (∀ w', (Builtin.lenOf xv).run P w' = .ok n w') ∧ ∀ w', w'.heap = w.heap → (Builtin.firstCells sz n xv).run P w' = .ok vs.toArray w')
theorem appendSrc_run (m : StMod ρ st w) {te : TI} {k2 : AK} {d2 : TypeDesc} {n : Nat} {x : CV} {new : List CV} {xv : Value} {Z : Array Value} (h : appendSrc st te k2 x = some (n, new)) (hx : CRel ρ x xv) (hk : akOf P d2 = some k2)
    (hZ : LRel ρ te.zero Z.toList) (hl : te.zero.length = te.size) : ∃ vs : List Value, LRel ρ new vs ∧ vs.length = n * te.size ∧ ASrc P w d2 te.size Z n xv vs := by
  unfold appendSrc at h
  split at h
  · rename_i k n'
    obtain ⟨h1, hq'⟩ := bsel_some h
    clear h
    have h := hq'
    clear hq'
    cases h
    have h1 := Nat.le_of_ble_eq_true h1
    have := ak_int hk; subst this
    have hx : xv = .int .i64 n := hx
    have hr := rep_rel hZ n
    have hZl : Z.size = te.zero.length := by have := hZ.length; simpa using this
    refine ⟨_, hr, (hr.length.trans (rep_length _ _)).trans (by rw [hl]), .inl ⟨⟨_, rfl⟩, hx, h1, ?_⟩⟩
    rw [← hZl]
    rfl
  · cases h
  · rename_i hk1 hk2
    obtain ⟨vs, h1, h2, h3, h4⟩ := srcCells_run (P := P) m h hx
    refine ⟨vs, h1, h2, .inr ⟨fun k e => ?_, h3, fun w' hw => ?_⟩⟩
    · subst e
      cases hk
      first | exact hk2 _ rfl | exact hk1 _ rfl
    · rw [h4 n w' (Nat.le_refl _) hw, List.take_of_length_le (by omega)]

set_option maxHeartbeats 4000000 in
theorem run_append_fit {ts : Array TypeId} {as : Array Value} {t t2 e : Nat} {d2 : TypeDesc} {i : TypeInfo} {z : Value} {xv : Value} {n sLen sCap : Nat} {base : Option Addr} {vs : List Value} (ty : Nat)
    (hts : ts[0]? = some t) (hts2 : ts[1]? = some t2) (has : as[0]? = some (.slice base sLen sCap)) (has2 : as[1]? = some xv) (ht : P.underlying t = some (.slice e)) (ht2 : P.underlying t2 = some d2)
    (hi : P.info? e = some i) (hz : i.zero = some z) (hsrc : ASrc P w d2 i.size z.cells n xv vs) (hvl : vs.length = n * i.size)
    (hbig : n * i.bytes ≤ 281474976710656) (hn : sLen + n ≤ sCap) {w' : World} (hst : ∀ a, base = some a → (storeCells (a.add (sLen * i.size)) vs).run P w = .ok () w') (hno : base = none → w' = w) :
    (Builtin.append_ ts ty as).run P w = .ok (.slice base (sLen + n) sCap) w' := by
  have hvs0 : n * i.size = 0 → vs.toArray = #[] := fun h0 => by
    have : vs = [] := by rw [h0] at hvl; simpa using hvl
    rw [this]
  rcases hsrc with ⟨⟨k, rfl⟩, rfl, hn2, hv⟩ | ⟨hk, hlen, hfc⟩
  · have hw : IntKind.i64.wrap (n : Int) = n := wrap_small _ (by omega) (by omega)
    have hlt : ¬ ((n : Int) < 0) := by omega
    have hbig' : ¬ (281474976710656 < (n : Int) * (i.bytes : Int)) := by
      have : ((n * i.bytes : Nat) : Int) ≤ 281474976710656 := by omega
      rw [Int.natCast_mul] at this; omega
    by_cases h0 : n * i.size = 0
    · have := hvs0 h0
      cases base with
      | none =>
        have := hno rfl; subst this
        simp [Builtin.append_, hts, hts2, has, has2, run_und w' ht, run_und w' ht2, run_size w' hi, run_info w' hi, run_asInt, hw, hlt, hbig', h0, hn]
      | some a =>
        have := hst a rfl
        have hvs : vs = [] := by rw [h0] at hvl; simpa using hvl
        rw [hvs] at this
        simp [Builtin.append_, hts, hts2, has, has2, run_und w ht, run_und w ht2, run_size w hi, run_info w hi, run_asInt, hw, hlt, hbig', h0, hn, this]
    · cases base with
      | none =>
        have := hno rfl; subst this
        simp [Builtin.append_, hts, hts2, has, has2, run_und w' ht, run_und w' ht2, run_size w' hi, run_info w' hi, run_asInt, hw, hlt, hbig', h0, hn, run_zero w' hi hz]
      | some a =>
        have := hst a rfl
        have hv' : (Builtin.zeroCells z.cells n).toList = vs := by rw [← hv]
        simp [Builtin.append_, hts, hts2, has, has2, run_und w ht, run_und w ht2, run_size w hi, run_info w hi, run_asInt, hw, hlt, hbig', h0, hn, run_zero w hi hz, hv', this]
  · have hf := hfc w rfl
    cases base with
    | none =>
      have := hno rfl; subst this
      cases d2 <;> first | (exact absurd rfl (hk _)) | simp [Builtin.append_, hts, hts2, has, has2, run_und w' ht, run_und w' ht2, run_size w' hi, hlen, hn, hf]
    | some a =>
      have := hst a rfl
      cases d2 <;> first | (exact absurd rfl (hk _)) | simp [Builtin.append_, hts, hts2, has, has2, run_und w ht, run_und w ht2, run_size w hi, hlen, hn, hf, this]

set_option maxHeartbeats 4000000 in
theorem run_append_grown {ts : Array TypeId} {as : Array Value} {t t2 e : Nat} {d2 : TypeDesc} {i : TypeInfo} {z : Value} {xv : Value} {n sLen sCap : Nat} {base : Option Addr} {vs : List Value} (ty : Nat)
    (hts : ts[0]? = some t) (hts2 : ts[1]? = some t2) (has : as[0]? = some (.slice base sLen sCap)) (has2 : as[1]? = some xv) (ht : P.underlying t = some (.slice e)) (ht2 : P.underlying t2 = some d2)
    (hi : P.info? e = some i) (hz : i.zero = some z) (hsrc : ASrc P w d2 i.size z.cells n xv vs) (hvl : vs.length = n * i.size)
    (hbig : (sLen + n) * i.bytes ≤ 4294967296) (hb : 0 < i.bytes) (hn : sCap < sLen + n) {olds : List Value} (hold : ∀ w', w'.heap = w.heap → (Builtin.firstCells i.size sLen (.slice base sLen sCap)).run P w' = .ok olds.toArray w') :
    (Builtin.append_ ts ty as).run P w = .ok (.slice (some ⟨w.heap.size, 0, none⟩) (sLen + n) (grownCap w (sLen + n) sCap e))
        (w.drew.alloc (.cells (olds.toArray ++ vs.toArray ++ Builtin.zeroCells z.cells (grownCap w (sLen + n) sCap e - (sLen + n))) e)) := by
  have hn' : ¬ (sLen + n ≤ sCap) := by omega
  have hneed : sLen + n ≤ 4294967296 := by
    have : (sLen + n) * 1 ≤ (sLen + n) * i.bytes := Nat.mul_le_mul_left _ hb
    omega
  have h63' : ¬ (9223372036854775807 < ((sLen : Int) + (n : Int))) := by omega
  have hfit := growslice_fits (bytes := i.bytes) hn (by omega)
  have h48' : ¬ (281474976710656 < Builtin.nextslicecap (sLen + n) sCap * i.bytes) := by omega
  have hnb : n * i.bytes ≤ (sLen + n) * i.bytes := Nat.mul_le_mul_right _ (by omega)
  have ho := hold w.drew rfl
  rcases hsrc with ⟨⟨k, rfl⟩, rfl, hn2, hv⟩ | ⟨hk, hlen, hfc⟩
  · have hw : IntKind.i64.wrap (n : Int) = n := wrap_small _ (by omega) (by omega)
    have hlt : ¬ ((n : Int) < 0) := by omega
    have hbig' : ¬ (281474976710656 < (n : Int) * (i.bytes : Int)) := by
      have : ((n * i.bytes : Nat) : Int) ≤ 281474976710656 := by omega
      rw [Int.natCast_mul] at this; omega
    by_cases h0 : n * i.size = 0
    · have hvs : vs = [] := by rw [h0] at hvl; simpa using hvl
      subst hvs
      simp [Builtin.append_, hts, hts2, has, has2, run_und _ ht, run_und _ ht2, run_size _ hi, run_info _ hi, run_asInt, hw, hlt, hbig', h0, hn', h63', h48', Question.forced, ho, run_zero _ hi hz, newRow, grownCap]
    · rw [hv]
      simp [Builtin.append_, hts, hts2, has, has2, run_und _ ht, run_und _ ht2, run_size _ hi, run_info _ hi, run_asInt, hw, hlt, hbig', h0, hn', h63', h48', Question.forced, ho, run_zero _ hi hz, newRow, grownCap]
  · have hf := hfc w.drew rfl
    cases d2 <;> first | (exact absurd rfl (hk _)) | (simp [Builtin.append_, hts, hts2, has, has2, run_und _ ht, run_und _ ht2, run_size _ hi, run_info _ hi, hlen, hn', h63', h48', Question.forced, ho, hf, run_zero _ hi hz, newRow, grownCap]; congr 2; apply Array.ext'; simp [List.append_assoc])
end Go.Abs
