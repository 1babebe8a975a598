/- The operations that look at the memory, continued: addresses compared, conversions, slices and maps made, maps, iterators. -/
import Derived.Test.YtgdgknjhhgkabaaGreatDoorMMem2
import Derived.Laws.IdiomStrings
set_option linter.unusedVariables false
set_option linter.unusedSimpArgs false
namespace Go.Abs
variable {P : Program} {E : Env} {ρ : Rho} {lo : Nat} {st st' : St} {w : World} {ev : Operand → Option TV} {σ : Operand → Value}

theorem keep_some {x : Option TV} {v : TV} (h : keep st x = some (v, st')) : x = some v ∧ st' = st := by
  obtain ⟨u, hu, hq'⟩ := obind_some h
  clear h
  have h := hq'
  clear hq'
  cases h; exact ⟨hu, rfl⟩
theorem getCells_some {id n : Nat} {d : List CV} {x z : Bool} (h : getCells st id = some (d, n, x, z)) : ∃ e, st.h.get id = some (.cells d n e x z) := by
  unfold getCells at h
  split at h
  · rename_i hg; cases h; exact ⟨_, hg⟩
  · cases h
theorem samePtr_run (m : StMod ρ st w) {a o b p ba za bb zb : Nat} {r : Bool} (h : samePtr st a o b p = some r) (ha : ρ a = some (ba, za)) (hb : ρ b = some (bb, zb)) :
    (sameAddr ⟨ba, o, none⟩ ⟨bb, p, none⟩).run P w = .ok r w := by
  unfold samePtr at h
  rw [bsel_eq] at h
  split at h
  · rename_i he
    have := Nat.eq_of_beq_eq_true he; subst this
    rw [ha] at hb; cases hb
    cases h
    have e : ((⟨ba, o, none⟩ : Addr) == ⟨ba, p, none⟩) = Nat.beq o p := by
      rw [Bool.eq_iff_iff]
      constructor
      · intro h
        have := congrArg Addr.off (eq_of_beq h)
        simp only at this; subst this; exact Nat.beq_refl o
      · intro h; rw [Nat.eq_of_beq_eq_true h]; simp
    simp [sameAddr, e]
  · rename_i hne
    split at h
    · rename_i hga hgb
      cases h
      obtain ⟨e1, g1⟩ := getCells_some hga
      obtain ⟨e2, g2⟩ := getCells_some hgb
      obtain ⟨_, _, arr1, fr1, r1⟩ := row_of m g1
      obtain ⟨_, _, arr2, fr2, r2⟩ := row_of m g2
      have q1 := r1.rho
      rw [ha] at q1; cases q1
      have q2 := r2.rho
      rw [hb] at q2; cases q2
      have f1 : fr1 = (0, 0) := by
        rcases r1.fz with h | ⟨h, _⟩
        · exact h
        · cases h
      have f2 : fr2 = (0, 0) := by
        rcases r2.fz with h | ⟨h, _⟩
        · exact h
        · cases h
      subst f1 f2
      refine run_sameAddr_other w ?_ r1.heap r2.heap
      intro e
      have e3 : ba = bb := congrArg Addr.block e
      subst e3
      have := m.inj a b _ _ ba _ _ g1 g2 ha hb
      subst this
      exact hne (Nat.beq_refl a)
    · cases h

theorem aBinS_run (hE : EnvOk P E) (m : StMod ρ st w) {op : BinOp} {t yt : Nat} {x y : Operand} {o : Oper} (ho : o.op = .binOp op t x y yt) (he : EvRel ρ ev σ) {v : TV}
    (h : aBinS E st op t (ev x) (ev y) = some (v, st')) : MemOk P lo ρ st w (execOp σ o) v st' := by
  unfold aBinS at h
  split at h
  · rename_i a b hx hy
    obtain ⟨h1, rfl⟩ := keep_some h
    have hxr := he _ _ hx
    have hyr := he _ _ hy
    have key : ∃ u, (binOp op t (σ x) (σ y)).run P w = .ok u w ∧ TRel ρ v u := by
      unfold binS at h1
      split at h1
      · rename_i a o' b p
        obtain ⟨ba, za, ha, ea⟩ := hxr
        obtain ⟨bb, zb, hb, eb⟩ := hyr
        have q : ∀ ti e, E.types t = some ti → ti.k = .ptr e → ∀ te, E.types e = some te → Nat.blt 0 te.size = true → ∀ r, samePtr st' a o' b p = some r →
            (Op.equal t (.pointer (some ⟨ba, o', none⟩)) (.pointer (some ⟨bb, p, none⟩))).run P w = .ok r w := by
          intro ti e hti hk te hte hs r hr
          obtain ⟨⟨i, d, z, hi, hd, hz, hk1, -⟩⟩ := hE.types _ _ hti
          obtain ⟨⟨i2, d2, z2, hi2, hd2, hz2, hk2, hsz2, -⟩⟩ := hE.types _ _ hte
          rw [hk] at hk1
          have := ak_ptr hk1; subst this
          have hne : i2.size ≠ 0 := by rw [hsz2]; have := blt_lt hs; omega
          have g : ∀ dp, (Op.equalIn (dp + 1) t (.pointer (some ⟨ba, o', none⟩)) (.pointer (some ⟨bb, p, none⟩))).run P w = .ok r w := by
            intro dp
            simp [Op.equalIn, run_und w hd, run_size w hi2, hne, samePtr_run m hr ha hb]
          exact g 9999
        rw [ea, eb]
        unfold ptrOp at h1
        split at h1
        · rename_i hti
          obtain ⟨te, hte, h1⟩ := obind_some h1
          obtain ⟨hs, h1⟩ := bsel_some h1
          obtain ⟨r, hr, h1⟩ := obind_some h1
          cases h1
          exact ⟨.bool r, by simp [binOp, q _ _ hti rfl te hte hs r hr], rfl⟩
        · rename_i hti
          obtain ⟨te, hte, h1⟩ := obind_some h1
          obtain ⟨hs, h1⟩ := bsel_some h1
          obtain ⟨r, hr, h1⟩ := obind_some h1
          cases h1
          exact ⟨.bool (!r), by simp [binOp, q _ _ hti rfl te hte hs r hr], rfl⟩
        · cases h1
      · exact binCV_run hE w h1 hxr hyr
    obtain ⟨u, hu, hr⟩ := key
    obtain ⟨dst, op', type, pos, after, guard⟩ := o
    simp only at ho; subst ho
    exact ⟨ρ, w, u, .inl (by simp [execOp, eqGuard_run op t x y w hxr, hu]), hr, Ext.refl m⟩
  · cases h

theorem isU8_eq {k : AK} (h : isU8 k = true) : k = .int .u8 := by
  unfold isU8 at h
  split at h
  · rfl
  · cases h
theorem bytesOf_rel {l : List CV} {s : List Nat} {vs : List Value} (h : bytesOf l = some s) (hr : LRel ρ l vs) : vs = (s.map UInt8.ofNat).map (fun b => .int .u8 (b.toNat : Int)) ∧ (s.map UInt8.ofNat).map UInt8.toNat = s := by
  induction l generalizing s vs with
  | nil => cases h; cases hr; exact ⟨rfl, rfl⟩
  | cons c l ih =>
    obtain ⟨y, ys, h1, h2, rfl⟩ := optAll_cons h
    obtain ⟨v, vs', rfl, h3, h4⟩ := hr
    obtain ⟨e1, e2⟩ := ih h2 h4
    have hb : ∃ n, c = .int .u8 (.ofNat n) ∧ n ≤ 255 ∧ y = n := by
      revert h1
      split
      · rename_i n
        intro h1
        obtain ⟨h5, h6⟩ := bsel_some h1
        cases h6
        exact ⟨_, rfl, Nat.le_of_ble_eq_true h5, rfl⟩
      · intro h1; cases h1
    obtain ⟨n, rfl, hn, rfl⟩ := hb
    have h3 : v = .int .u8 (Int.ofNat y) := h3
    have e : (UInt8.ofNat y).toNat = y := by simp; omega
    subst h3
    constructor
    · rw [e1]; simp [e]
    · simp only [List.map_cons, e]; rw [e2]

theorem drew_heap (w : World) (o : Obj) : World.env3 (w.drew.alloc o) = (w.heap.push o, w.os, w.output) := rfl
theorem alBytes_ok (hE : EnvOk P E) (w : World) {s d e : Nat} {x : Operand} {o : Oper} {l : List Nat} {a : ByteArray} (ho : o.op = .convert s d x) (hd1 : P.underlying s = some .string) (hd2 : P.underlying d = some (.slice e))
    (ea : σ x = .string a) (hal : a.data.toList.map UInt8.toNat = l) {ob : AO} {k : Nat → TV} (h : alBytes E e l = some (ob, k)) : LaidOk P ρ w (execOp σ o) ob k := by
  unfold alBytes at h
  obtain ⟨te, hte, hq'⟩ := obind_some h
  clear h
  have h := hq'
  clear hq'
  obtain ⟨hu8, hq'⟩ := bsel_some h
  clear h
  have h := hq'
  clear hq'
  cases h
  obtain ⟨⟨i3, d3, z3, hi3, hd3, hz3, hk3, -⟩⟩ := hE.types _ _ hte
  rw [isU8_eq hu8] at hk3
  have := ak_int hk3; subst this
  have hll : lenC l = a.size := by rw [lenC_eq, ← hal, List.length_map, Array.length_toList]; rfl
  have hcap : a.size ≤ grownCap w a.size 0 e := Nat.le_add_right _ _
  have hsz : (bytesRow a (grownCap w a.size 0 e)).size = grownCap w a.size 0 e := by
    unfold bytesRow
    rw [Array.size_append, Array.size_map, Array.size_replicate]
    show a.size + _ = _
    omega
  have hrun := run_bytes_of_string w s d e a hd1 hd2 hd3
  refine ⟨.slice (some ⟨w.heap.size, 0, none⟩) a.size (grownCap w a.size 0 e), w.drew.alloc (.cells (bytesRow a (grownCap w a.size 0 e)) e ((bytesRow a (grownCap w a.size 0 e)).size, (bytesRow a (grownCap w a.size 0 e)).size + 1)), .cells (bytesRow a (grownCap w a.size 0 e)) e ((bytesRow a (grownCap w a.size 0 e)).size, (bytesRow a (grownCap w a.size 0 e)).size + 1), (bytesRow a (grownCap w a.size 0 e)).size, ?_, drew_heap _ _, ?_, fun ρ' j hj => ⟨_, _, grownCap w a.size 0 e, hj, by rw [hll], by rw [hll]; exact hcap, Nat.one_pos, by rw [hsz]; simp, Nat.le_refl _⟩⟩
  · obtain ⟨dst, op', type, pos, after, guard⟩ := o
    simp only at ho; subst ho
    exact .inl (by simp [execOp, ea, hrun])
  · refine ⟨_, _, rfl, rfl, by rw [mapC_eq, lenC_eq]; simp, by rw [hsz, hll]; exact hcap, (fun h => by cases h), ?_, .inr ⟨rfl, rfl⟩⟩
    refine LRel.of_get ?_ fun i c hc => ?_
    · rw [mapC_eq, List.length_map, hll, List.length_take, Array.length_toList, hsz]; rw [lenC_eq] at hll; omega
    · rw [mapC_eq, List.getElem?_map] at hc
      cases hq : l[i]? with
      | none => rw [hq] at hc; cases hc
      | some q =>
        rw [hq] at hc
        cases hc
        have hi : i < l.length := (List.getElem?_eq_some_iff.1 hq).1
        have hi' : i < a.data.size := by rw [← lenC_eq, hll] at hi; exact hi
        refine ⟨.int .u8 (Int.ofNat q), ?_, rfl⟩
        rw [List.getElem?_take, if_pos (by rw [lenC_eq]; exact hi), Array.getElem?_toList]
        unfold bytesRow
        rw [Array.getElem?_append_left (by simpa using hi'), Array.getElem?_map]
        rw [← hal, List.getElem?_map, Array.getElem?_toList] at hq
        rw [Array.getElem?_eq_getElem hi'] at hq ⊢
        simp only [Option.map_some, Option.some.injEq] at hq ⊢
        rw [← hq]; rfl
theorem alConv_ok (hE : EnvOk P E) (w : World) {s d : Nat} {x : Operand} {o : Oper} (ho : o.op = .convert s d x) (he : EvRel ρ ev σ) {ob : AO} {k : Nat → TV} (h : alConv E s d (ev x) = some (ob, k)) : LaidOk P ρ w (execOp σ o) ob k := by
  unfold alConv at h
  obtain ⟨xv, hxv, hq'⟩ := obind_some h
  clear h
  have h := hq'
  clear hq'
  obtain ⟨c, hc, hq'⟩ := obind_some h
  clear h
  have h := hq'
  clear hq'
  obtain ⟨ts, hts, hq'⟩ := obind_some h
  clear h
  have h := hq'
  clear hq'
  obtain ⟨td, htd, hq'⟩ := obind_some h
  clear h
  have h := hq'
  clear hq'
  have hxr : CRel ρ c (σ x) := by
    cases xv with
    | one _ => cases hc; exact he _ _ hxv
    | _ => cases hc
  obtain ⟨⟨i1, d1, z1, hi1, hd1, hz1, hk1, -⟩⟩ := hE.types _ _ hts
  obtain ⟨⟨i2, d2, z2, hi2, hd2, hz2, hk2, -⟩⟩ := hE.types _ _ htd
  generalize hks : ts.k = ks at h hk1
  generalize hkd : td.k = kd at h hk2
  unfold alConv2 at h
  split at h
  · have := ak_str hk1; subst this
    have := ak_sl hk2; subst this
    obtain ⟨a, ea, hal⟩ := hxr
    exact alBytes_ok hE w ho hd1 hd2 ea hal h
  · cases h
theorem aConvS_run (hE : EnvOk P E) (m : StMod ρ st w) (hlo : lo ≤ st.c) {s d : Nat} {x : Operand} {o : Oper} (ho : o.op = .convert s d x) (he : EvRel ρ ev σ) {v : TV}
    (h : aConvS E st s d (ev x) = some (v, st')) : MemOk P lo ρ st w (execOp σ o) v st' := by
  have hex : ∀ u w', (convert s d (σ x)).run P w = .ok u w' → OpOk P (execOp σ o) w u w' := by
    intro u w' hu
    obtain ⟨dst, op', type, pos, after, guard⟩ := o
    simp only at ho; subst ho
    exact .inl (by simp [execOp, hu])
  unfold aConvS at h
  obtain ⟨xv, hxv, hq'⟩ := obind_some h
  clear h
  have h := hq'
  clear hq'
  obtain ⟨c, hc, hq'⟩ := obind_some h
  clear h
  have h := hq'
  clear hq'
  obtain ⟨ts, hts, hq'⟩ := obind_some h
  clear h
  have h := hq'
  clear hq'
  obtain ⟨td, htd, hq'⟩ := obind_some h
  clear h
  have h := hq'
  clear hq'
  have hxr : CRel ρ c (σ x) := by
    cases xv with
    | one _ => cases hc; exact he _ _ hxv
    | _ => cases hc
  obtain ⟨⟨i1, d1, z1, hi1, hd1, hz1, hk1, -⟩⟩ := hE.types _ _ hts
  obtain ⟨⟨i2, d2, z2, hi2, hd2, hz2, hk2, -⟩⟩ := hE.types _ _ htd
  split at h
  · rename_i l
    obtain ⟨a, ea, hal⟩ := hxr
    split at h
    · rename_i hk
      rw [hk] at hk1
      have := ak_str hk1; subst this
      unfold convStr at h
      split at h
      · rename_i hkd
        rw [hkd] at hk2
        have := ak_str hk2; subst this
        cases h
        exact ⟨ρ, w, .string a, hex _ _ (by rw [ea]; simp [convert, run_und w hd1, run_und w hd2]), ⟨a, rfl, hal⟩, Ext.refl m⟩
      · rename_i e hkd
        rw [hkd] at hk2
        have := ak_sl hk2; subst this
        exact lay_mem (fun o' k hx => alBytes_ok hE w ho hd1 hd2 ea hal hx) m hlo h
      · cases h
    · cases h
  · rename_i hns
    split at h
    · rename_i e hk
      rw [hk] at hk1
      have := ak_sl hk1; subst this
      obtain ⟨te, hte, hq'⟩ := obind_some h
      clear h
      have h := hq'
      clear hq'
      obtain ⟨hu8, hq'⟩ := bsel_some h
      clear h
      have h := hq'
      clear hq'
      obtain ⟨⟨i3, d3, z3, hi3, hd3, hz3, hk3, -⟩⟩ := hE.types _ _ hte
      rw [isU8_eq hu8] at hk3
      have := ak_int hk3; subst this
      have toS : ∀ id off len cap b z, td.k = .str → ρ id = some (b, z) → σ x = .slice (some ⟨b, off, none⟩) len cap → toStr st id off len = some (v, st') → MemOk P lo ρ st w (execOp σ o) v st' := by
        intro id off len cap b z hkd hb hσ h
        rw [hkd] at hk2
        have := ak_str hk2; subst this
        unfold toStr at h
        obtain ⟨l, hl, hq'⟩ := obind_some h
        clear h
        have h := hq'
        clear hq'
        obtain ⟨sb, hsb, hq'⟩ := obind_some h
        clear h
        have h := hq'
        clear hq'
        cases h
        obtain ⟨vs, h1, h2, h3⟩ := readN_run (P := P) m hl hb
        obtain ⟨e1, e2⟩ := bytesOf_rel hsb h1
        refine ⟨ρ, w, .string ⟨(sb.map UInt8.ofNat).toArray⟩, hex _ _ ?_, ⟨_, rfl, by simpa using e2⟩, Ext.refl m⟩
        rw [hσ, run_convert_bytes_string w s d e _ _ _ hd1 hd3 hd2, run_bytesToString w _ _ _ ((sb.map UInt8.ofNat).map (fun b => (b.toNat : Int))) (by rw [h2, e1]; simp)]
        rw [foldl_push_byteCells]
        have he0 : ByteArray.empty.data = #[] := rfl
        rw [he0]
        simp
      have emp : ∀ a c, td.k = .str → σ x = .slice a 0 c → (some (TV.one (.str []), st) : R) = some (v, st') → MemOk P lo ρ st w (execOp σ o) v st' := by
        intro a c hkd hσ h
        rw [hkd] at hk2
        have := ak_str hk2; subst this
        cases h
        refine ⟨ρ, w, .string .empty, hex _ _ ?_, ⟨_, rfl, rfl⟩, Ext.refl m⟩
        rw [hσ, run_convert_bytes_string w s d e _ _ _ hd1 hd3 hd2]
        cases a with
        | none => simp [Conv.bytesToString]
        | some a => rw [run_bytesToString w a 0 c [] (by simp [loadCells, loadCellsFrom])]; rfl
      unfold convSl at h
      split at h
      · rename_i hkd; exact emp none 0 hkd hxr h
      · rename_i hkd; obtain ⟨a, c, hσ⟩ := hxr; exact emp _ _ hkd hσ h
      · rename_i id off len cap hkd; obtain ⟨b, z, hb, hσ, _⟩ := hxr; exact toS _ _ _ _ _ _ hkd hb hσ h
      · rename_i id off len cap es hkd; obtain ⟨b, z, cap', hb, hσ, _⟩ := hxr; exact toS _ _ _ _ _ _ hkd hb hσ h
      · rename_i e' id off len cap hkd
        obtain ⟨hsame, hq'⟩ := bsel_some h
        clear h
        have h := hq'
        clear hq'
        split at h
        · rename_i dd n ee xx hg
          cases h
          have := Nat.eq_of_beq_eq_true hsame; subst this
          obtain ⟨b, z, hb, hσ, hlc⟩ := hxr
          obtain ⟨b', z', arr, fr, r⟩ := row_of m hg
          have q := r.rho
          rw [hb] at q; cases q
          have hsh : w.shape? b = some (ee, z) := by unfold World.shape?; rw [r.heap]; simp [r.size]
          have hfrz : ∃ w', w.freeze ⟨b, z, none⟩ 1 = w' ∧ (∀ j, w'.heap[j]? = if j = b then some (.cells arr ee (z, z + 1)) else w.heap[j]?) ∧ w'.heap.size = w.heap.size ∧ World.env2 w' = World.env2 w := by
            refine ⟨_, rfl, fun j => ?_, ?_, ?_⟩
            · unfold World.freeze
              rw [if_neg (by decide)]
              simp only [Array.getElem?_modify]
              by_cases hj : b = j
              · subst hj
                rw [if_pos rfl, if_pos rfl, r.heap]
                rcases r.fz with h | ⟨_, h⟩ <;> subst h <;> simp
              · rw [if_neg hj, if_neg (Ne.symm hj)]
            · unfold World.freeze
              rw [if_neg (by decide)]
              simp
            · unfold World.freeze
              rw [if_neg (by decide)]
              rfl
          obtain ⟨w', e1, e2, e3, e4⟩ := hfrz
          refine ⟨ρ, w', σ x, hex _ _ ?_, ⟨b, z, hb, hσ, hlc⟩, Ext.again m hg hb ⟨arr, _, rfl, r.size, r.len, r.le, r.exact_, r.rel, .inr ⟨rfl, rfl⟩⟩ e2 e3 e4⟩
          rw [hσ]
          rw [hkd] at hk2
          simp [convert, run_und w hd1, run_und w hd3, markStringish, hsh, e1]
        · cases h
      · cases h
    · cases h
end Go.Abs
