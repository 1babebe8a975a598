/- The built-in functions that look at the memory: append, copy, clear, the length of a map; all of them together. -/
import Derived.Test.YtgdgknjhhgkabaaGreatDoorMBuilt
set_option linter.unusedVariables false
set_option linter.unusedSimpArgs false
namespace Go.Abs
variable {P : Program} {E : Env} {ρ : Rho} {lo : Nat} {st st' : St} {w : World}

theorem zeroCells_size (Z : Array Value) (n : Nat) : (Builtin.zeroCells Z n).size = n * Z.size := by simp [Builtin.zeroCells]

/-- what stands in a grown row -/
theorem grown_rel {old new : List CV} {olds vs : List Value} {Z : Array Value} {k N : Nat} {C : Array Value} (hC : C = olds.toArray ++ vs.toArray ++ Builtin.zeroCells Z k) (h1 : LRel ρ old olds) (h2 : LRel ρ new vs) (hN : olds.length + vs.length = N) :
    LRel ρ (appC old new) (C.toList.take N) := by
  subst hC
  have e : (olds.toArray ++ vs.toArray ++ Builtin.zeroCells Z k).toList.take N = olds ++ vs := by
    rw [Array.toList_append, Array.toList_append, ← hN, ← List.length_append]
    exact List.take_left' rfl
  rw [e, appC_eq]
  exact h1.append h2

section
variable {ts : Array TypeId} {as : Array Value} {t t2 e : Nat} {d2 : TypeDesc} {i : TypeInfo} {z : Value} {te : TI} {xv sv : Value} {n : Nat} {new : List CV} {vs : List Value} {v : TV} (ty : Nat)

theorem appNil_ok (m : StMod ρ st w) (hlo : lo ≤ st.c) (hts : ts[0]? = some t) (hts2 : ts[1]? = some t2) (has : as[0]? = some (.slice none 0 0)) (has2 : as[1]? = some xv) (ht : P.underlying t = some (.slice e)) (ht2 : P.underlying t2 = some d2)
    (hi : P.info? e = some i) (hz : i.zero = some z) (hsz : i.size = te.size) (hzl : z.cells.size = te.size) (hsrc : ASrc P w d2 i.size z.cells n xv vs) (hvl : vs.length = n * te.size) (hnew : LRel ρ new vs)
    (hpos : 0 < te.size) (hb : 0 < i.bytes) (hbig : (n + 1) * i.bytes ≤ 4294967296) (h : appNil st te e n new = some (v, st')) : BOk P lo ρ st w (Builtin.append_ ts ty as) v st' := by
  have hvl' : vs.length = n * i.size := by rw [hsz]; exact hvl
  have hnb : n * i.bytes ≤ (n + 1) * i.bytes := Nat.mul_le_mul_right _ (by omega)
  cases n with
  | zero =>
    cases h
    exact ⟨ρ, w, .slice none 0 0, run_append_fit ty hts hts2 has has2 ht ht2 hi hz hsrc hvl' (by omega) (by omega) (w' := w) (fun a h => by cases h) (fun _ => rfl), rfl, Ext.refl m⟩
  | succ k =>
    have h' : laid st (.cells new ((k + 1) * te.size) e false false) (fun c => .one (.slr c 0 (k + 1) (k + 1) te.size)) = some (v, st') := h
    have hrun := run_append_grown ty hts hts2 has has2 ht ht2 hi hz hsrc hvl' (by rw [Nat.zero_add]; omega) hb (by omega) (olds := []) (fun w' _ => by simp [Builtin.firstCells])
    have hcap := grownCap_ge w (0 + (k + 1)) 0 e
    generalize hC : (([] : List Value).toArray ++ vs.toArray ++ Builtin.zeroCells z.cells (grownCap w (0 + (k + 1)) 0 e - (0 + (k + 1)))) = C at hrun
    have hCs : C.size = grownCap w (0 + (k + 1)) 0 e * te.size := by
      rw [← hC, Array.size_append, Array.size_append, zeroCells_size, hzl]
      simp only [List.size_toArray, hvl, List.length_nil]
      rw [Nat.zero_add, ← Nat.add_mul]
      congr 1; omega
    have hmul : (k + 1) * te.size ≤ grownCap w (0 + (k + 1)) 0 e * te.size := Nat.mul_le_mul_right _ (by omega)
    refine blaid_ok m hlo h' hrun (drew_heap _ _) (z := C.size) ⟨C, (0, 0), rfl, rfl, by rw [← hnew.length, hvl], by rw [hCs]; exact hmul, (fun h => by cases h), ?_, .inl rfl⟩
      ⟨_, _, grownCap w (0 + (k + 1)) 0 e, set_self _ _ _, by rw [Nat.zero_add], by omega, hpos, by rw [hCs]; omega, Nat.le_refl _⟩
    have := grown_rel (N := (k + 1) * te.size) hC.symm (show LRel ρ [] [] from rfl) hnew (by simp [hvl])
    exact this.mono (Rho.le_set m _)

theorem appFit_ok (m : StMod ρ st w) {id off len sCap b zz : Nat} {cv : CV} (hb' : ρ id = some (b, zz)) (hts : ts[0]? = some t) (hts2 : ts[1]? = some t2) (has : as[0]? = some (.slice (some ⟨b, off, none⟩) len sCap)) (has2 : as[1]? = some xv) (ht : P.underlying t = some (.slice e)) (ht2 : P.underlying t2 = some d2)
    (hi : P.info? e = some i) (hz : i.zero = some z) (hsz : i.size = te.size) (hsrc : ASrc P w d2 i.size z.cells n xv vs) (hvl : vs.length = n * te.size) (hnew : LRel ρ new vs)
    (hbig : (n + 1) * i.bytes ≤ 4294967296) (hfit : len + n ≤ sCap) (hcv : ∀ ρ', Le ρ ρ' → CRel ρ' cv (.slice (some ⟨b, off, none⟩) (len + n) sCap)) (h : appFit lo st te id off len n new cv = some (v, st')) : BOk P lo ρ st w (Builtin.append_ ts ty as) v st' := by
  unfold appFit at h
  simp only [Nat.add_eq, Nat.mul_eq] at h
  obtain ⟨s2, hs2, hq'⟩ := obind_some h
  clear h
  have h := hq'
  clear hq'
  cases h
  have hvl' : vs.length = n * i.size := by rw [hsz]; exact hvl
  have hnb : n * i.bytes ≤ (n + 1) * i.bytes := Nat.mul_le_mul_right _ (by omega)
  obtain ⟨w', h1, h2⟩ := writeN_run (P := P) m hs2 hb' hnew (by rw [← hnew.length, hvl])
  refine ⟨ρ, w', _, run_append_fit ty hts hts2 has has2 ht ht2 hi hz hsrc hvl' (by omega) hfit (w' := w') (fun a ha => ?_) (fun h => by cases h), hcv ρ (Le.refl _), h2⟩
  cases ha
  rw [add_eq, hsz]
  exact h1

theorem appGrow_ok (m : StMod ρ st w) (hlo : lo ≤ st.c) {id off len sCap cap b zz : Nat} (hb' : ρ id = some (b, zz)) (hts : ts[0]? = some t) (hts2 : ts[1]? = some t2) (has : as[0]? = some (.slice (some ⟨b, off, none⟩) len sCap)) (has2 : as[1]? = some xv) (ht : P.underlying t = some (.slice e)) (ht2 : P.underlying t2 = some d2)
    (hi : P.info? e = some i) (hz : i.zero = some z) (hsz : i.size = te.size) (hby : i.bytes = te.bytes) (hzl : z.cells.size = te.size) (hsrc : ASrc P w d2 i.size z.cells n xv vs) (hvl : vs.length = n * te.size) (hnew : LRel ρ new vs)
    (hpos : 0 < te.size) (hb : 0 < i.bytes) (hno : sCap < len + n) (h : appGrow st te e id off len cap n new = some (v, st')) : BOk P lo ρ st w (Builtin.append_ ts ty as) v st' := by
  unfold appGrow at h
  simp only [Nat.add_eq, Nat.mul_eq] at h
  obtain ⟨hsm, hq'⟩ := bsel_some h
  clear h
  have h := hq'
  clear hq'
  obtain ⟨old, hold, hq'⟩ := obind_some h
  clear h
  have h := hq'
  clear hq'
  have hsm : (len + n + cap) * te.bytes ≤ 4294967296 := Nat.le_of_ble_eq_true hsm
  have hnb : (len + n) * i.bytes ≤ (len + n + cap) * te.bytes := by rw [hby]; exact Nat.mul_le_mul_right _ (by omega)
  have hvl' : vs.length = n * i.size := by rw [hsz]; exact hvl
  unfold readN at hold
  split at hold
  · rename_i d dl ee xx fz hg
    obtain ⟨h1, h2⟩ := bsel_some hold
    cases h2
    have h1 : off + len * te.size ≤ dl := Nat.le_of_ble_eq_true h1
    obtain ⟨b2, z2, arr, fr, r⟩ := row_of m hg
    have q := r.rho
    rw [hb'] at q; cases q
    have hrs := r.size
    have hrl := r.le
    have hrow := r.slice (m := len * te.size) h1
    have hrun := run_append_grown ty hts hts2 has has2 ht ht2 hi hz hsrc hvl' (by omega) hb hno (olds := (arr.toList.drop off).take (len * te.size)) (fun w' hw => by
      simp only [Builtin.firstCells, hsz]
      exact run_loadRow w' (by rw [hw]; exact r.heap) (by omega))
    have hcap := grownCap_ge w (len + n) sCap e
    generalize hC : ((arr.toList.drop off).take (len * te.size)).toArray ++ vs.toArray ++ Builtin.zeroCells z.cells (grownCap w (len + n) sCap e - (len + n)) = C at hrun
    have hol : ((arr.toList.drop off).take (len * te.size)).length = len * te.size := by simp; omega
    have hCs : C.size = grownCap w (len + n) sCap e * te.size := by
      rw [← hC, Array.size_append, Array.size_append, zeroCells_size, hzl]
      simp only [List.size_toArray, hvl, hol]
      rw [← Nat.add_mul, ← Nat.add_mul]
      congr 1; omega
    have hmul : (len + n) * te.size ≤ grownCap w (len + n) sCap e * te.size := Nat.mul_le_mul_right _ hcap
    refine blaid_ok m hlo h hrun (drew_heap _ _) (z := C.size) ⟨C, (0, 0), rfl, rfl, ?_, by rw [hCs]; exact hmul, (fun h => by cases h), ?_, .inl rfl⟩
      ⟨_, _, grownCap w (len + n) sCap e, set_self _ _ _, rfl, hcap, hpos, by rw [hCs]; omega, Nat.le_refl _⟩
    · rw [appC_eq, List.length_append, ← hrow.length, ← hnew.length, hvl, hol, Nat.add_mul]
    · have := grown_rel (N := (len + n) * te.size) hC.symm hrow hnew (by rw [hol, hvl, Nat.add_mul])
      exact this.mono (Rho.le_set m _)
  · cases hold

theorem appOver_ok (m : StMod ρ st w) (hlo : lo ≤ st.c) {id off len sCap cap b zz : Nat} (hb' : ρ id = some (b, zz)) (hcap : off + sCap * te.size = zz) (hts : ts[0]? = some t) (hts2 : ts[1]? = some t2) (has : as[0]? = some (.slice (some ⟨b, off, none⟩) len sCap)) (has2 : as[1]? = some xv) (ht : P.underlying t = some (.slice e)) (ht2 : P.underlying t2 = some d2)
    (hi : P.info? e = some i) (hz : i.zero = some z) (hsz : i.size = te.size) (hby : i.bytes = te.bytes) (hzl : z.cells.size = te.size) (hsrc : ASrc P w d2 i.size z.cells n xv vs) (hvl : vs.length = n * te.size) (hnew : LRel ρ new vs)
    (hpos : 0 < te.size) (hb : 0 < i.bytes) (hbig : (n + 1) * i.bytes ≤ 4294967296) (h : appOver lo st te e id off len cap n new = some (v, st')) : BOk P lo ρ st w (Builtin.append_ ts ty as) v st' := by
  unfold appOver at h
  simp only [Nat.add_eq, Nat.mul_eq] at h
  obtain ⟨hsm, hq'⟩ := bsel_some h
  clear h
  have h := hq'
  clear hq'
  obtain ⟨hli, hq'⟩ := bsel_some h
  clear h
  have h := hq'
  clear hq'
  obtain ⟨hoff, hq'⟩ := bsel_some h
  clear h
  have h := hq'
  clear hq'
  have hli : lo ≤ id := Nat.le_of_ble_eq_true hli
  have hoff := Nat.eq_of_beq_eq_true hoff
  subst hoff
  have hsm : (len + n + cap) * te.bytes ≤ 4294967296 := Nat.le_of_ble_eq_true hsm
  have hnb : (len + n) * i.bytes ≤ (len + n + cap) * te.bytes := by rw [hby]; exact Nat.mul_le_mul_right _ (by omega)
  have hvl' : vs.length = n * i.size := by rw [hsz]; exact hvl
  split at h
  · rename_i d dl e' fz hg
    obtain ⟨hdl, hq'⟩ := bsel_some h
    clear h
    have h := hq'
    clear hq'
    obtain ⟨hee, hq'⟩ := bsel_some h
    clear h
    have h := hq'
    clear hq'
    have hdl : dl = len * te.size := Nat.eq_of_beq_eq_true hdl
    have hee := Nat.eq_of_beq_eq_true hee
    subst hee
    obtain ⟨b2, z2, arr, fr, r⟩ := row_of m hg
    have q := r.rho
    rw [hb'] at q; cases q
    have hrs := r.size
    have hrl := r.le
    have hdlen := r.len
    have hput : (setH st id none).h.get = hset st.h.get id none := put_eq _ _ _
    have hkill : Ext lo ρ st.h.get st.c w ρ (setH st id none).h.get (setH st id none).c w := by
      rw [hput]; exact Ext.kill m hli
    rcases Nat.lt_or_ge sCap (len + n) with hno | hfit
    · have hrun := run_append_grown ty hts hts2 has has2 ht ht2 hi hz hsrc hvl' (by omega) hb hno (olds := arr.toList.take (len * te.size)) (fun w' hw => by
        simp only [Builtin.firstCells, hsz]
        have := run_loadRow (P := P) w' (b := b) (off := 0) (n := len * te.size) (by rw [hw]; exact r.heap) (by omega)
        simpa using this)
      have hcap2 := grownCap_ge w (len + n) sCap e'
      generalize hC : (arr.toList.take (len * te.size)).toArray ++ vs.toArray ++ Builtin.zeroCells z.cells (grownCap w (len + n) sCap e' - (len + n)) = C at hrun
      have hol : (arr.toList.take (len * te.size)).length = len * te.size := by simp; omega
      have hCs : C.size = grownCap w (len + n) sCap e' * te.size := by
        rw [← hC, Array.size_append, Array.size_append, zeroCells_size, hzl]
        simp only [List.size_toArray, hvl, hol]
        rw [← Nat.add_mul, ← Nat.add_mul]
        congr 1; omega
      have hmul : (len + n) * te.size ≤ grownCap w (len + n) sCap e' * te.size := Nat.mul_le_mul_right _ hcap2
      have hB := blaid_ok (lo := lo) (P := P) (s := Builtin.append_ ts ty as) hkill.mod hlo h hrun (drew_heap _ _) (z := C.size)
        ⟨C, (0, 0), rfl, rfl, by rw [appC_eq, List.length_append, hdlen, ← hnew.length, hvl, hdl, Nat.add_mul], by rw [hCs]; exact hmul, (fun h => by cases h), (grown_rel (N := (len + n) * te.size) hC.symm (by rw [← hdl]; exact r.rel) hnew (by rw [hol, hvl, Nat.add_mul])).mono (Rho.le_set hkill.mod _), .inl rfl⟩
        ⟨_, _, grownCap w (len + n) sCap e', set_self _ _ _, rfl, hcap2, hpos, by rw [hCs]; omega, Nat.le_refl _⟩
      obtain ⟨ρ', w', x, g1, g2, g3⟩ := hB
      exact ⟨ρ', w', x, g1, g2, hkill.trans m g3⟩
    · have hnb2 : n * i.bytes ≤ (n + 1) * i.bytes := Nat.mul_le_mul_right _ (by omega)
      have hmul : (len + n) * te.size ≤ sCap * te.size := Nat.mul_le_mul_right _ hfit
      have hmul2 : (len + n) * te.size = len * te.size + n * te.size := Nat.add_mul _ _ _
      obtain ⟨w', a1, a2, a3, a4⟩ := run_storeRow (P := P) (off := len * te.size) vs 0 arr w r.heap (by omega) hnew.oneCells (fun j hj => by
        rcases r.fz with h | ⟨_, h⟩ <;> subst h <;> simp <;> omega)
      have hrun := run_append_fit ty hts hts2 has has2 ht ht2 hi hz hsrc hvl' (by omega) hfit (w' := w') (fun a ha => by
        cases ha
        rw [add_eq, hsz, Nat.zero_add]
        exact a1) (fun h => by cases h)
      have h' : some ((TV.one (.slr st.c 0 (len + n) (len + n) te.size)), (⟨(setH st id none).h.put st.c (some (.cells (appC d new) ((len + n) * te.size) e' false fz)), st.c + 1⟩ : St)) = some (v, st') := h
      cases h'
      refine ⟨Rho.set ρ st.c (b, zz), w', _, hrun, ⟨_, _, sCap, set_self _ _ _, rfl, hfit, hpos, hcap, Nat.le_refl _⟩, ?_⟩
      rw [put_eq, hput]
      refine Ext.move m hli hg hb' ⟨setAll arr (len * te.size) vs, fr, rfl, by rw [setAll_size]; exact hrs, by rw [appC_eq, List.length_append, hdlen, ← hnew.length, hvl, hdl, Nat.add_mul], by omega, (fun h => by cases h), ?_, r.fz⟩ (by simpa using a2) a3 a4
      have hold : LRel ρ d (arr.toList.take (len * te.size)) := by rw [← hdl]; exact r.rel
      have hcat := (hold.append hnew).mono (Rho.le_set m (b, zz))
      rw [appC_eq]
      have e : (setAll arr (len * te.size) vs).toList.take ((len + n) * te.size) = arr.toList.take (len * te.size) ++ vs := by
        apply List.ext_getElem?
        intro j
        rw [List.getElem?_take, Array.getElem?_toList, setAll_get, List.getElem?_append]
        have hol : (arr.toList.take (len * te.size)).length = len * te.size := by simp; omega
        rw [hol]
        by_cases hj1 : j < len * te.size
        · rw [if_pos (by omega), if_neg (by omega), if_pos hj1, List.getElem?_take, if_pos hj1, Array.getElem?_toList]
        · rw [if_neg hj1]
          by_cases hj2 : j < (len + n) * te.size
          · rw [if_pos hj2, if_pos (by omega)]
          · rw [if_neg hj2, List.getElem?_eq_none (by omega)]
      rw [e]
      exact hcat
  · cases h
end

theorem aAppend_ok (hE : EnvOk P E) (m : StMod ρ st w) (hlo : lo ≤ st.c) {t t2 : Nat} {s x : CV} {sv xv : Value} {v : TV} {ts : Array TypeId} {as : Array Value} (ty : Nat) (h : bAppend E lo st t t2 s x = some (v, st'))
    (hs : CRel ρ s sv) (hx : CRel ρ x xv) (hts : ts[0]? = some t) (hts2 : ts[1]? = some t2) (has : as[0]? = some sv) (has2 : as[1]? = some xv) : BOk P lo ρ st w (Builtin.append_ ts ty as) v st' := by
  unfold bAppend at h
  obtain ⟨ti, hti, hq'⟩ := obind_some h
  clear h
  have h := hq'
  clear hq'
  obtain ⟨ti2, hti2, hq'⟩ := obind_some h
  clear h
  have h := hq'
  clear hq'
  obtain ⟨⟨i1, d1, z1, hi1, hd1, hz1, hk1, -⟩⟩ := hE.types _ _ hti
  obtain ⟨⟨i2, d2, z2, hi2, hd2, hz2, hk2, -⟩⟩ := hE.types _ _ hti2
  split at h
  · rename_i e hk
    rw [hk] at hk1
    have := ak_sl hk1; subst this
    obtain ⟨te, hte, hq'⟩ := obind_some h
    clear h
    have h := hq'
    clear hq'
    obtain ⟨n, new, hsrc, hq'⟩ := ob2_some h
    clear h
    have h := hq'
    clear hq'
    obtain ⟨⟨i, d, z, hi, hd, hz, hk3, hsz, hby, hzr, hzl⟩⟩ := hE.types _ _ hte
    have hzz := part_zero (hzr ρ)
    have hzs : z.cells.size = te.size := by have := hzz.length; simp only [Array.length_toList] at this; omega
    obtain ⟨vs, hnew, hvl, hS⟩ := appendSrc_run (P := P) m hsrc hx hk2 hzz hzl
    rw [← hsz] at hS
    unfold aAppend at h
    obtain ⟨hpos, hq'⟩ := bsel_some h
    clear h
    have h := hq'
    clear hq'
    obtain ⟨hb, hq'⟩ := bsel_some h
    clear h
    have h := hq'
    clear hq'
    obtain ⟨hsm, hq'⟩ := bsel_some h
    clear h
    have h := hq'
    clear hq'
    have hpos := blt_lt hpos
    have hb : 0 < i.bytes := by rw [hby]; exact blt_lt hb
    have hsm : (n + 1) * i.bytes ≤ 4294967296 := by rw [hby]; exact Nat.le_of_ble_eq_true hsm
    split at h
    · have hs : sv = .slice none 0 0 := hs
      subst hs
      exact appNil_ok ty m hlo hts hts2 has has2 hd1 hd2 hi hz hsz hzs hS hvl hnew hpos hb hsm h
    · rename_i id off len cap
      obtain ⟨b, zz, hbr, rfl, hlc⟩ := hs
      rw [bsel_eq] at h
      split at h
      · rename_i hf
        have hf : len + n ≤ cap := Nat.le_of_ble_eq_true hf
        exact appFit_ok ty (cv := .sl id off (len + n) cap) m hbr hts hts2 has has2 hd1 hd2 hi hz hsz hS hvl hnew hsm hf (fun ρ' hle => ⟨b, zz, hle _ _ hbr, rfl, hf⟩) h
      · rename_i hf
        have hf : ¬ (len + n ≤ cap) := fun q => hf (Nat.ble_eq_true_of_le q)
        exact appGrow_ok ty m hlo hbr hts hts2 has has2 hd1 hd2 hi hz hsz hby hzs hS hvl hnew hpos hb (by omega) h
    · rename_i id off len cap es
      obtain ⟨b, zz, cap', hbr, rfl, hcc, hes, hz', hlc⟩ := hs
      obtain ⟨hee, hq'⟩ := bsel_some h
      clear h
      have h := hq'
      clear hq'
      have hee := Nat.eq_of_beq_eq_true hee
      subst hee
      rw [bsel_eq] at h
      split at h
      · rename_i hf
        have hf : len + n ≤ cap := Nat.le_of_ble_eq_true hf
        exact appFit_ok ty (cv := .slr id off (len + n) cap te.size) m hbr hts hts2 has has2 hd1 hd2 hi hz hsz hS hvl hnew hsm (by omega) (fun ρ' hle => ⟨b, zz, cap', hle _ _ hbr, rfl, hcc, hes, hz', hf⟩) h
      · exact appOver_ok ty m hlo hbr hz' hts hts2 has has2 hd1 hd2 hi hz hsz hby hzs hS hvl hnew hpos hb hsm h
    · cases h
  · cases h

theorem bCopy_ok (hE : EnvOk P E) (m : StMod ρ st w) {t : Nat} {s x : CV} {sv xv : Value} {v : TV} {ts : Array TypeId} {as : Array Value} (ty : Nat) (h : bCopy E lo st t s x = some (v, st'))
    (hs : CRel ρ s sv) (hx : CRel ρ x xv) (hts : ts[0]? = some t) (has : as[0]? = some sv) (has2 : as[1]? = some xv) : BOk P lo ρ st w (Builtin.copy_ ts ty as) v st' := by
  unfold bCopy at h
  obtain ⟨ti, hti, hq'⟩ := obind_some h
  clear h
  have h := hq'
  clear hq'
  obtain ⟨⟨i1, d1, z1, hi1, hd1, hz1, hk1, -⟩⟩ := hE.types _ _ hti
  split at h
  · rename_i e hk
    rw [hk] at hk1
    have := ak_sl hk1; subst this
    obtain ⟨te, hte, hq'⟩ := obind_some h
    clear h
    have h := hq'
    clear hq'
    obtain ⟨n, new, hsrc, hq'⟩ := ob2_some h
    clear h
    have h := hq'
    clear hq'
    obtain ⟨⟨i, d, z, hi, hd, hz, hk3, hsz, hby, hzr, hzl⟩⟩ := hE.types _ _ hte
    obtain ⟨vs, hnew, hvl, hlen, hfc⟩ := srcCells_run (P := P) m hsrc hx
    have key : ∀ id off len cap b zz, ρ id = some (b, zz) → sv = .slice (some ⟨b, off, none⟩) len cap → copyTo lo st te.size id off len n new = some (v, st') → BOk P lo ρ st w (Builtin.copy_ ts ty as) v st' := by
      intro id off len cap b zz hbr hsv h
      unfold copyTo at h
      obtain ⟨s2, hs2, hq'⟩ := obind_some h
      clear h
      have h := hq'
      clear hq'
      cases h
      have hmn : Nat.min n len ≤ n := Nat.min_le_left _ _
      have hmul : Nat.min n len * te.size ≤ n * te.size := Nat.mul_le_mul_right _ hmn
      have hnl := hnew.length
      have hrel : LRel ρ (takeC (Nat.min n len * te.size) new) (vs.take (Nat.min n len * te.size)) := by rw [takeC_eq]; exact hnew.take _
      obtain ⟨w', h1, h2⟩ := writeN_run (P := P) m hs2 hbr hrel (by rw [takeC_eq, List.length_take]; show min (Nat.min n len * te.size) _ = Nat.min n len * te.size; omega)
      refine ⟨ρ, w', goInt (Nat.min n len), ?_, rfl, h2⟩
      simp only [Builtin.copy_, hts, has, has2, hsv, Sem.run_bind, run_und w hd1, Result.andThen_ok, hlen, run_size w hi, hsz, hfc _ w hmn rfl, h1, Sem.run_pure]
    split at h
    · cases h
      have hs : sv = .slice none 0 0 := hs
      subst hs
      refine ⟨ρ, w, goInt 0, ?_, rfl, Ext.refl m⟩
      have h0 : Nat.min n 0 = 0 := Nat.min_eq_right (Nat.zero_le _)
      simp [Builtin.copy_, hts, has, has2, run_und w hd1, hlen, run_size w hi, hsz, h0, hfc 0 w (Nat.zero_le _) rfl]
    · obtain ⟨b, zz, hbr, hsv, _⟩ := hs
      exact key _ _ _ _ _ _ hbr hsv h
    · obtain ⟨b, zz, cap', hbr, hsv, _⟩ := hs
      exact key _ _ _ _ _ _ hbr hsv h
    · cases h
  · cases h

theorem bClear_ok (hE : EnvOk P E) (m : StMod ρ st w) {t : Nat} {x : CV} {xv : Value} {v : TV} {ts : Array TypeId} {as : Array Value} (ty : Nat) (h : bClear E lo st t x = some (v, st'))
    (hx : CRel ρ x xv) (hts : ts[0]? = some t) (has : as[0]? = some xv) : BOk P lo ρ st w (Builtin.clear_ ts ty as) v st' := by
  unfold bClear at h
  obtain ⟨ti, hti, hq'⟩ := obind_some h
  clear h
  have h := hq'
  clear hq'
  obtain ⟨⟨i1, d1, z1, hi1, hd1, hz1, hk1, -⟩⟩ := hE.types _ _ hti
  have res : TRel ρ (.tup []) (.tuple #[]) := ⟨#[], rfl, rfl⟩
  have fill : ∀ e id off len cap b zz, ti.k = .sl e → ρ id = some (b, zz) → xv = .slice (some ⟨b, off, none⟩) len cap →
      (obind (E.types e) fun te => obind (writeN lo st id off (rep len te.zero) (Nat.mul len te.size)) fun st' => some (TV.tup [], st')) = some (v, st') → BOk P lo ρ st w (Builtin.clear_ ts ty as) v st' := by
    intro e id off len cap b zz hk hbr hxv h
    rw [hk] at hk1
    have := ak_sl hk1; subst this
    obtain ⟨te, hte, hq'⟩ := obind_some h
    clear h
    have h := hq'
    clear hq'
    obtain ⟨s2, hs2, hq'⟩ := obind_some h
    clear h
    have h := hq'
    clear hq'
    cases h
    obtain ⟨⟨i, d, z, hi, hd, hz, hk3, hsz, hby, hzr, hzl⟩⟩ := hE.types _ _ hte
    have hzz := part_zero (hzr ρ)
    have hrep := rep_rel hzz len
    have hzs : te.zero.length = z.cells.size := by have := hzz.length; simpa using this.symm
    obtain ⟨w', h1, h2⟩ := writeN_run (P := P) m hs2 hbr hrep (by rw [rep_length, hzl]; rfl)
    refine ⟨ρ, w', .tuple #[], ?_, res, h2⟩
    cases len with
    | zero =>
      have hw : w' = w := by
        have : (storeCells ⟨b, off, none⟩ ((Array.range (0 * te.zero.length)).map (z.cells[· % z.cells.size]!)).toList).run P w = .ok () w := by simp [storeCells]
        rw [this] at h1; cases h1; rfl
      subst hw
      simp [Builtin.clear_, hts, has, hxv, run_und w' hd1]
    | succ len =>
      rw [hzs] at h1
      simp [Builtin.clear_, hts, has, hxv, run_und w hd1, run_zero w hi hz]
      simp only [Builtin.zeroCells]
      rw [h1]; rfl
  split at h
  · cases h
    have hx : xv = .map none := hx
    subst hx
    exact ⟨ρ, w, .tuple #[], by cases d1 <;> simp [Builtin.clear_, hts, has, run_und w hd1], res, Ext.refl m⟩
  · cases h
    have hx : xv = .slice none 0 0 := hx
    subst hx
    exact ⟨ρ, w, .tuple #[], by cases d1 <;> simp [Builtin.clear_, hts, has, run_und w hd1], res, Ext.refl m⟩
  · cases h
    obtain ⟨a, c, rfl⟩ := hx
    exact ⟨ρ, w, .tuple #[], by cases d1 <;> simp [Builtin.clear_, hts, has, run_und w hd1], res, Ext.refl m⟩
  · rename_i kt et id hk
    rw [hk] at hk1
    have := ak_map hk1; subst this
    split at h
    · rename_i es hg
      obtain ⟨hli, hq'⟩ := bsel_some h
      clear h
      have h := hq'
      clear hq'
      cases h
      have hli := Nat.le_of_ble_eq_true hli
      obtain ⟨b, zz, hbr, rfl⟩ := hx
      obtain ⟨b', z', ob, h1, h2, ms, clock, rfl, hms⟩ := m.obj id _ hg
      rw [hbr] at h1; cases h1
      obtain ⟨q1, q2⟩ := MapKept.heap_set (o' := Obj.map #[] clock) h2
      refine ⟨ρ, { w with heap := w.heap.setIfInBounds b (.map #[] clock) }, .tuple #[], by simp [Builtin.clear_, hts, has, run_und w hd1, MapKept.run_getObj_map h2, MapKept.run_setObj_map _ h2], res, ?_⟩
      rw [show (setH st id (some (.map []))).h.get = hset st.h.get id (some (.map [])) from put_eq _ _ _]
      refine Ext.write m hli hg hbr ⟨#[], clock, rfl, rfl⟩ (fun j => ?_) (by simp)
      split
      · rename_i e; subst e; exact q1
      · rename_i e; exact q2 j e
    · cases h
  · rename_i e id off len cap hk
    obtain ⟨b, zz, hbr, hxv, _⟩ := hx
    exact fill _ _ _ _ _ _ _ hk hbr hxv h
  · rename_i e id off len cap es hk
    obtain ⟨b, zz, cap', hbr, hxv, _⟩ := hx
    exact fill _ _ _ _ _ _ _ hk hbr hxv h
  · cases h

theorem ERel.length : ∀ {l : List (CV × Bool × List CV)} {m : List MapEntry}, ERel ρ l m → m.length = l.length
  | [], _, r => by cases r; rfl
  | _ :: _, _, ⟨_, _, e, _, _, r⟩ => by subst e; simp [ERel.length r]

theorem abuiltin_run (hE : EnvOk P E) (m : StMod ρ st w) (hlo : lo ≤ st.c) {b : Builtin} {ts : Array TypeId} {args : List TV} {as : Array Value} {v : TV} (ty : Nat) (h : abuiltin E lo b ts.toList args st = some (v, st')) (ha : TsRel ρ args as.toList) (cs : Array Bool) :
    ∃ ρ' w' x, (builtin b ts ty cs as).run P w = .ok (.value x) w' ∧ TRel ρ' v x ∧ Ext lo ρ st.h.get st.c w ρ' st'.h.get st'.c w' := by
  unfold abuiltin at h
  split at h
  · rename_i t t2 tl s x hts
    obtain ⟨a, c, hal, h1, h2⟩ := ha.two
    have has : as = #[a, c] := by rw [← hal]
    subst has
    obtain ⟨ρ', w', y, g1, g2, g3⟩ := aAppend_ok hE m hlo ty h h1 h2 (ts := ts) (as := #[a, c]) (by simp [← Array.getElem?_toList, hts]) (by simp [← Array.getElem?_toList, hts]) rfl rfl
    exact ⟨ρ', w', y, by simp [builtin, g1], g2, g3⟩
  · rename_i t tl d x hts
    obtain ⟨a, c, hal, h1, h2⟩ := ha.two
    have has : as = #[a, c] := by rw [← hal]
    subst has
    obtain ⟨ρ', w', y, g1, g2, g3⟩ := bCopy_ok hE m ty h h1 h2 (ts := ts) (as := #[a, c]) (by simp [← Array.getElem?_toList, hts]) rfl rfl
    exact ⟨ρ', w', y, by simp [builtin, g1], g2, g3⟩
  · rename_i t tl x hts
    obtain ⟨a, l', hal, h1⟩ := ha.head
    obtain ⟨ρ', w', y, g1, g2, g3⟩ := bClear_ok hE m ty h h1 (ts := ts) (as := as) (by simp [← Array.getElem?_toList, hts]) (by simp [← Array.getElem?_toList, hal])
    exact ⟨ρ', w', y, by simp [builtin, g1], g2, g3⟩
  · rename_i t tl x xl hts
    obtain ⟨a, l', hal, h1⟩ := ha.head
    obtain ⟨ti, hti, hq'⟩ := obind_some h
    clear h
    have h := hq'
    clear hq'
    obtain ⟨⟨i1, d1, z1, hi1, hd1, hz1, hk1, -⟩⟩ := hE.types _ _ hti
    split at h
    · rename_i kt et hk
      rw [hk] at hk1
      have := ak_map hk1; subst this
      unfold bLen at h
      obtain ⟨es, hes, hq'⟩ := obind_some h
      clear h
      have h := hq'
      clear hq'
      cases h
      have e1 : ts[0]? = some t := by simp [← Array.getElem?_toList, hts]
      have e2 : as[0]? = some a := by simp [← Array.getElem?_toList, hal]
      rcases entriesOf_run m hes h1 with ⟨e3, rfl, _⟩ | ⟨id, b, z, ms, clock, _, e3, _, _, hb, hms⟩
      · refine ⟨ρ, w, goInt 0, ?_, rfl, Ext.refl m⟩
        simp [builtin, Builtin.len_, e1, e2, e3, run_und w hd1]
      · refine ⟨ρ, w, goInt ms.size, ?_, ?_, Ext.refl m⟩
        · simp [builtin, Builtin.len_, e1, e2, e3, run_und w hd1, MapKept.run_getObj_map hb]
        · have := hms.length
          simp only [Array.length_toList] at this
          show goInt ms.size = .int .i64 (Int.ofNat (lenC es))
          rw [lenC_eq, this]; rfl
    · cases h
  · cases h
end Go.Abs
