/- The operations that hang on their operands alone: addresses, parts, lengths; all of them together. -/
import Derived.Test.YtgdgknjhhgkabaaGreatDoorMPure5
set_option linter.unusedVariables false
set_option linter.unusedSimpArgs false
namespace Go.Abs
variable {P : Program} {E : Env} {ρ : Rho}

theorem blt_lt {a b : Nat} (h : Nat.blt a b = true) : a < b := Nat.lt_of_succ_le (Nat.le_of_ble_eq_true h)

theorem aFieldAddr_run (hE : EnvOk P E) {s f : Nat} {x : Option TV} {c : TV} {a : Value} (w : World) (h : aFieldAddr E s x f = some c) (hx : ∀ v, x = some v → TRel ρ v a) :
    ∃ v, (Instr.fieldAt s a f).run P w = .ok v w ∧ TRel ρ c v := by
  unfold aFieldAddr at h
  split at h
  · rename_i id off
    obtain ⟨b, z, hb, rfl⟩ := hx _ rfl
    obtain ⟨ti, hti, hq'⟩ := obind_some h
    clear h
    have h := hq'
    clear hq'
    obtain ⟨⟨i, d, z', hi, hd, hz, hk, -⟩⟩ := hE.types _ _ hti
    generalize hkk : ti.k = k at h hk
    cases k with
    | struct fs =>
      obtain ⟨fields, rfl, hlen, hf⟩ := ak_struct hk
      have h' : (obind (nthC fs f) fun q => bsel (Nat.blt 0 q.2.2) (mk1 (.ptr id (Nat.add off q.2.1))) none) = some c := h
      obtain ⟨q, hq, h1⟩ := obind_some h'
      obtain ⟨h2, h3⟩ := bsel_some h1
      cases h3
      rw [nthC_eq] at hq
      have hlt : f < fields.size := by rw [← hlen]; exact (List.getElem?_eq_some_iff.1 hq).1
      have hfe : fields[f]? = some fields[f] := Array.getElem?_eq_getElem hlt
      obtain ⟨inf, hi1, hi2⟩ := hf f _ hfe
      rw [hq] at hi2; cases hi2
      have hsz : inf.size ≠ 0 := by have : 0 < inf.size := blt_lt h2; omega
      refine ⟨.pointer (some ⟨b, off + fields[f].offset, none⟩), ?_, b, z, hb, rfl⟩
      simp [Instr.fieldAt, run_und w hd, hlt, Instr.sureAddr, fieldPlace, run_size w hi1, hsz, add_eq]
    | _ => cases h
  · cases h

def isAggD : TypeDesc → Bool
  | .struct _ => true
  | .array _ _ => true
  | _ => false
theorem cutV_run {agg : Bool} {cs : List CV} {off n t : Nat} {c : TV} {A : Array Value} {d : TypeDesc} {te : TypeInfo} (w : World) (h : cutV agg cs off n = some c) (hA : LRel ρ cs A.toList)
    (ht : P.underlying t = some d) (hte : P.info? t = some te) (hn : te.size = n) (hag : agg = isAggD d) :
    ∃ v, (part t A off).run P w = .ok v w ∧ TRel ρ c v := by
  unfold cutV at h
  cases agg with
  | true =>
    have h' : bsel (Nat.ble (Nat.add off n) (lenC cs)) (some (TV.agg (takeC n (dropC off cs)))) none = some c := h
    obtain ⟨h1, h2⟩ := bsel_some h'
    cases h2
    have hia : (isAgg t).run P w = .ok true w := by
      cases d <;> first | (cases hag; done) | (simp [isAgg, run_und w ht])
    refine ⟨.agg (A.extract off (off + te.size)), by simp [part, hia, run_size w hte], _, rfl, ?_⟩
    rw [takeC_eq, dropC_eq, Array.toList_extract, List.extract_eq_take_drop, hn, Nat.add_sub_cancel_left]
    exact (hA.drop off).take n
  | false =>
    have h' : obind (nthC cs off) mk1 = some c := h
    obtain ⟨x, hx, h2⟩ := obind_some h'
    cases h2
    rw [nthC_eq] at hx
    have hia : (isAgg t).run P w = .ok false w := by
      cases d <;> first | (cases hag; done) | (simp [isAgg, run_und w ht])
    obtain ⟨v, hv, hr⟩ := hA.get hx
    have hv' : A[off]? = some v := by simpa using hv
    exact ⟨v, by simp [part, hia, hv'], hr⟩

theorem isAggK_eq {d : TypeDesc} {k : AK} (h : akOf P d = some k) : isAggK k = isAggD d := by
  cases k with
  | int k => have := ak_int h; subst this; rfl
  | bool => have := ak_bool h; subst this; rfl
  | str => have := ak_str h; subst this; rfl
  | ptr e => have := ak_ptr h; subst this; rfl
  | sl e => have := ak_sl h; subst this; rfl
  | arr n e => have := ak_arr h; subst this; rfl
  | map a b => have := ak_map h; subst this; rfl
  | struct fs => obtain ⟨a, rfl, -⟩ := ak_struct h; rfl
  | func => obtain ⟨a, b, c, rfl⟩ := ak_func h; rfl

theorem aField_run (hE : EnvOk P E) {s f : Nat} {x : Option TV} {c : TV} {a : Value} (w : World) (h : aField E s x f = some c) (hx : ∀ v, x = some v → TRel ρ v a) :
    ∃ v, (Instr.field s a f).run P w = .ok v w ∧ TRel ρ c v := by
  unfold aField at h
  split at h
  · rename_i cs
    obtain ⟨A, rfl, hA⟩ := hx _ rfl
    obtain ⟨ti, hti, hq'⟩ := obind_some h
    clear h
    have h := hq'
    clear hq'
    obtain ⟨⟨i, d, z', hi, hd, hz, hk, -⟩⟩ := hE.types _ _ hti
    generalize hkk : ti.k = k at h hk
    cases k with
    | struct fs =>
      obtain ⟨fields, rfl, hlen, hf⟩ := ak_struct hk
      have h' : (obind (nthC fs f) fun q => obind (E.types q.1) fun tf => cutV (isAggK tf.k) cs q.2.1 tf.size) = some c := h
      obtain ⟨q, hq, h1⟩ := obind_some h'
      obtain ⟨tf, htf, h2⟩ := obind_some h1
      rw [nthC_eq] at hq
      have hlt : f < fields.size := by rw [← hlen]; exact (List.getElem?_eq_some_iff.1 hq).1
      have hfe : fields[f]? = some fields[f] := Array.getElem?_eq_getElem hlt
      obtain ⟨inf, hi1, hi2⟩ := hf f _ hfe
      rw [hq] at hi2; cases hi2
      obtain ⟨⟨i2, d2, z2, hi2, hd2, hz2, hk2, hsz2, -⟩⟩ := hE.types _ _ htf
      obtain ⟨v, hv, hr⟩ := cutV_run w h2 hA hd2 hi2 hsz2 (isAggK_eq hk2)
      exact ⟨v, by simp [Instr.field, run_und w hd, hlt, asAgg, hv], hr⟩
    | _ => cases h
  · cases h

theorem aIndexAddr_run (hE : EnvOk P E) {t : Nat} {x i : Option TV} {c : TV} {a j : Value} (w : World) (h : aIndexAddr E t x i = some c) (hx : ∀ v, x = some v → TRel ρ v a) (hi : ∀ v, i = some v → TRel ρ v j) :
    ∃ v, (Instr.indexAt t a j).run P w = .ok v w ∧ TRel ρ c v := by
  unfold aIndexAddr at h
  obtain ⟨iv, hiv, hq'⟩ := obind_some h
  clear h
  have h := hq'
  clear hq'
  obtain ⟨n, hn, hq'⟩ := obind_some h
  clear h
  have h := hq'
  clear hq'
  obtain ⟨xv, hxv, hq'⟩ := obind_some h
  clear h
  have h := hq'
  clear hq'
  obtain ⟨ti, hti, hq'⟩ := obind_some h
  clear h
  have h := hq'
  clear hq'
  obtain ⟨kk, rfl⟩ := asNat_rel hn (hi _ hiv)
  have hxr := hx _ hxv
  obtain ⟨⟨i, d, z', hi', hd, hz, hk, -⟩⟩ := hE.types _ _ hti
  split at h
  · rename_i m e id off hkk
    rw [hkk] at hk
    have := ak_arr hk; subst this
    obtain ⟨te, hte, hq'⟩ := obind_some h
    clear h
    have h := hq'
    clear hq'
    obtain ⟨hlt, hq'⟩ := bsel_some h
    clear h
    have h := hq'
    clear hq'
    cases h
    have hlt := blt_lt hlt
    obtain ⟨⟨i2, d2, z2, hi2, hd2, hz2, hk2, hsz2, -⟩⟩ := hE.types _ _ hte
    obtain ⟨b, z, hb, rfl⟩ := hxr
    refine ⟨.pointer (some ⟨b, off + n * te.size, none⟩), ?_, b, z, hb, rfl⟩
    simp [Instr.indexAt, asIntOf, run_und w hd, Instr.sureAddr, run_size w hi2, hsz2, add_eq, hlt]
  · rename_i e id off len cap hkk
    rw [hkk] at hk
    have := ak_sl hk; subst this
    obtain ⟨te, hte, hq'⟩ := obind_some h
    clear h
    have h := hq'
    clear hq'
    obtain ⟨hlt, hq'⟩ := bsel_some h
    clear h
    have h := hq'
    clear hq'
    cases h
    have hlt := blt_lt hlt
    obtain ⟨⟨i2, d2, z2, hi2, hd2, hz2, hk2, hsz2, -⟩⟩ := hE.types _ _ hte
    obtain ⟨b, z, hb, rfl, -⟩ := hxr
    refine ⟨.pointer (some ⟨b, off + n * te.size, none⟩), ?_, b, z, hb, rfl⟩
    simp [Instr.indexAt, asIntOf, run_und w hd, run_size w hi2, hsz2, add_eq, hlt]
  · rename_i e id off len cap es hkk
    rw [hkk] at hk
    have := ak_sl hk; subst this
    obtain ⟨te, hte, hq'⟩ := obind_some h
    clear h
    have h := hq'
    clear hq'
    obtain ⟨hlt, hq'⟩ := bsel_some h
    clear h
    have h := hq'
    clear hq'
    cases h
    have hlt := blt_lt hlt
    obtain ⟨⟨i2, d2, z2, hi2, hd2, hz2, hk2, hsz2, -⟩⟩ := hE.types _ _ hte
    obtain ⟨b, z, cap', hb, rfl, -⟩ := hxr
    refine ⟨.pointer (some ⟨b, off + n * te.size, none⟩), ?_, b, z, hb, rfl⟩
    simp [Instr.indexAt, asIntOf, run_und w hd, run_size w hi2, hsz2, add_eq, hlt]
  · cases h

theorem aIndex_run (hE : EnvOk P E) {t : Nat} {x i : Option TV} {c : TV} {a j : Value} (w : World) (h : aIndex E t x i = some c) (hx : ∀ v, x = some v → TRel ρ v a) (hi : ∀ v, i = some v → TRel ρ v j) :
    ∃ v, (Instr.index t a j).run P w = .ok v w ∧ TRel ρ c v := by
  unfold aIndex at h
  obtain ⟨iv, hiv, hq'⟩ := obind_some h
  clear h
  have h := hq'
  clear hq'
  obtain ⟨n, hn, hq'⟩ := obind_some h
  clear h
  have h := hq'
  clear hq'
  obtain ⟨xv, hxv, hq'⟩ := obind_some h
  clear h
  have h := hq'
  clear hq'
  obtain ⟨ti, hti, hq'⟩ := obind_some h
  clear h
  have h := hq'
  clear hq'
  obtain ⟨kk, rfl⟩ := asNat_rel hn (hi _ hiv)
  have hxr := hx _ hxv
  obtain ⟨⟨i, d, z', hi', hd, hz, hk, -⟩⟩ := hE.types _ _ hti
  split at h
  · rename_i m e cs hkk
    rw [hkk] at hk
    have := ak_arr hk; subst this
    obtain ⟨te, hte, hq'⟩ := obind_some h
    clear h
    have h := hq'
    clear hq'
    obtain ⟨hlt, hq'⟩ := bsel_some h
    clear h
    have h := hq'
    clear hq'
    have hlt := blt_lt hlt
    obtain ⟨⟨i2, d2, z2, hi2, hd2, hz2, hk2, hsz2, -⟩⟩ := hE.types _ _ hte
    obtain ⟨A, rfl, hA⟩ := hxr
    obtain ⟨v, hv, hr⟩ := cutV_run w h hA hd2 hi2 hsz2 (isAggK_eq hk2)
    refine ⟨v, ?_, hr⟩
    have hv' : (part e A (n * te.size)).run P w = .ok v w := hv
    simp [Instr.index, asIntOf, run_und w hd, run_size w hi2, hsz2, hlt, hv']
  · rename_i s hkk
    rw [hkk] at hk
    have := ak_str hk; subst this
    obtain ⟨b, hb, hq'⟩ := obind_some h
    clear h
    have h := hq'
    clear hq'
    cases h
    obtain ⟨A, rfl, hA⟩ := hxr
    rw [nthC_eq, ← hA, List.getElem?_map] at hb
    cases hg : A.data.toList[n]? with
    | none => rw [hg] at hb; cases hb
    | some u =>
      rw [hg] at hb; cases hb
      have hlt : n < A.size := by
        have := (List.getElem?_eq_some_iff.1 hg).1
        simpa using this
      have hA2 : A[n]? = some u := by
        rw [getElem?_pos A n hlt]
        have := (List.getElem?_eq_some_iff.1 hg).2
        rw [← this]; rfl
      refine ⟨.int .u8 u.toNat, ?_, rfl⟩
      simp [Instr.index, asIntOf, run_und w hd, hA2]
  · cases h

theorem aExtract_run {i : Nat} {x : Option TV} {c : TV} {a : Value} (w : World) (h : aExtract x i = some c) (hx : ∀ v, x = some v → TRel ρ v a) :
    ∃ v, (Instr.extract a i).run P w = .ok v w ∧ TRel ρ c v := by
  unfold aExtract at h
  split at h
  · rename_i l
    obtain ⟨A, rfl, hA⟩ := hx _ rfl
    obtain ⟨p, hp, hq'⟩ := obind_some h
    clear h
    have h := hq'
    clear hq'
    rw [nthC_eq] at hp
    obtain ⟨v, hv, hr⟩ := hA.get hp
    have hv' : A[i]? = some v := by simpa using hv
    exact ⟨v, by simp [Instr.extract, hv'], hr.ofPart h⟩
  · cases h

theorem aOpt_rel {ev : Operand → Option TV} {σ : Operand → Value} (he : EvRel ρ ev σ) {x : Option Operand} {r : Option TV} (h : aOpt ev x = some r) : ORelV ρ r (x.map σ) := by
  unfold aOpt at h
  cases x with
  | none => cases h; trivial
  | some y =>
    have h' : (obind (ev y) fun v => some (some v)) = some r := h
    obtain ⟨v, hv, e⟩ := obind_some h'
    cases e
    exact he _ _ hv

/-! lengths -/
theorem optAll_ev {ev : Operand → Option TV} {σ : Operand → Value} (he : EvRel ρ ev σ) : ∀ {l : List Operand} {r : List TV}, optAll ev l = some r → TsRel ρ r (l.map σ)
  | [], r, h => by have := optAll_nil h; subst this; rfl
  | x :: xs, r, h => by
    obtain ⟨y, ys, hy, hs, e⟩ := optAll_cons h
    subst e
    exact ⟨_, _, rfl, he _ _ hy, optAll_ev he hs⟩

theorem lenTV_run (hE : EnvOk P E) {t : Nat} {x c : TV} {a : Value} {ts : Array TypeId} {as : Array Value} (ty : Nat) (w : World) (h : lenTV E t x = some c) (hx : TRel ρ x a) (hts : ts[0]? = some t) (has : as[0]? = some a) :
    ∃ v, (Builtin.len_ ts ty as).run P w = .ok v w ∧ TRel ρ c v := by
  unfold lenTV at h
  obtain ⟨ti, hti, hq'⟩ := obind_some h
  clear h
  have h := hq'
  clear hq'
  obtain ⟨⟨i, d, z', hi', hd, hz, hk, -⟩⟩ := hE.types _ _ hti
  generalize hkk : ti.k = k at h hk
  cases x with
  | one x =>
    have h' : lenOp k x = some c := h
    unfold lenOp at h'
    split at h'
    · have := ak_str hk; subst this
      obtain ⟨b, rfl, hb⟩ := hx
      cases h'
      refine ⟨.int .i64 b.size, by simp [Builtin.len_, hts, has, run_und w hd, goInt], ?_⟩
      rw [lenC_eq, ← hb]
      show Value.int .i64 _ = Value.int .i64 _
      simp
    · have := ak_arr hk; subst this
      cases h'
      exact ⟨_, by simp [Builtin.len_, hts, has, run_und w hd, goInt], rfl⟩
    · have := ak_sl hk; subst this
      cases hx; cases h'
      exact ⟨_, by simp [Builtin.len_, hts, has, run_und w hd, goInt], rfl⟩
    · have := ak_sl hk; subst this
      obtain ⟨b, c', rfl⟩ := hx; cases h'
      exact ⟨_, by simp [Builtin.len_, hts, has, run_und w hd, goInt], rfl⟩
    · have := ak_sl hk; subst this
      obtain ⟨b, c', _, rfl, -⟩ := hx; cases h'
      exact ⟨_, by simp [Builtin.len_, hts, has, run_und w hd, goInt], rfl⟩
    · have := ak_sl hk; subst this
      obtain ⟨b, c', _, _, rfl, -⟩ := hx; cases h'
      exact ⟨_, by simp [Builtin.len_, hts, has, run_und w hd, goInt], rfl⟩
    · cases h'
  | agg l =>
    cases k with
    | arr n e =>
      have := ak_arr hk; subst this
      cases h
      obtain ⟨A, rfl, -⟩ := hx
      exact ⟨_, by simp [Builtin.len_, hts, has, run_und w hd, goInt], rfl⟩
    | _ => cases h
  | tup l => cases h

theorem capOp_run (hE : EnvOk P E) {t : Nat} {ti : TI} (hti : E.types t = some ti) {x : CV} {c : TV} {a : Value} {ts : Array TypeId} {as : Array Value} (ty : Nat) (w : World) (h : capOp ti.k x = some c) (hx : CRel ρ x a) (hts : ts[0]? = some t) (has : as[0]? = some a) :
    ∃ v, (Builtin.cap_ ts ty as).run P w = .ok v w ∧ TRel ρ c v := by
  obtain ⟨⟨i, d, z', hi', hd, hz, hk, -⟩⟩ := hE.types _ _ hti
  generalize hkk : ti.k = k at h hk
  unfold capOp at h
  split at h
  · have := ak_sl hk; subst this
    cases hx; cases h
    exact ⟨_, by simp [Builtin.cap_, hts, has, run_und w hd, goInt], rfl⟩
  · have := ak_sl hk; subst this
    obtain ⟨b, c', _, rfl, -⟩ := hx; cases h
    exact ⟨_, by simp [Builtin.cap_, hts, has, run_und w hd, goInt], rfl⟩
  · have := ak_sl hk; subst this
    obtain ⟨b, c', cap', _, rfl, hle, -⟩ := hx; cases h
    exact ⟨_, by simp [Builtin.cap_, hts, has, run_und w hd, goInt], cap', rfl, hle⟩
  · cases h

theorem TsRel.two {x y : TV} {l : List Value} (h : TsRel ρ [x, y] l) : ∃ a b, l = [a, b] ∧ TRel ρ x a ∧ TRel ρ y b := by
  obtain ⟨a, l1, rfl, ha, b, l2, rfl, hb, rfl⟩ := h
  exact ⟨a, b, rfl, ha, hb⟩
theorem TsRel.head {x : TV} {xs : List TV} {l : List Value} (h : TsRel ρ (x :: xs) l) : ∃ a l', l = a :: l' ∧ TRel ρ x a := by
  obtain ⟨a, l1, rfl, ha, -⟩ := h
  exact ⟨a, l1, rfl, ha⟩

theorem pureBuiltin_run (hE : EnvOk P E) {b : Builtin} {ts : Array TypeId} {args : List TV} {as : Array Value} {c : TV} (ty : Nat) (w : World) (h : pureBuiltin E b ts.toList args = some c) (ha : TsRel ρ args as.toList) (cs : Array Bool) :
    ∃ v, (builtin b ts ty cs as).run P w = .ok (.value v) w ∧ TRel ρ c v := by
  unfold pureBuiltin at h
  split at h
  · rename_i t tl x xl hts
    obtain ⟨a, l', hal, hx⟩ := ha.head
    obtain ⟨v, hv, hr⟩ := lenTV_run hE ty w h hx (ts := ts) (as := as) (by simp [← Array.getElem?_toList, hts]) (by simp [← Array.getElem?_toList, hal])
    exact ⟨v, by simp [builtin, hv], hr⟩
  · rename_i t tl x xl hts
    obtain ⟨a, l', hal, hx⟩ := ha.head
    obtain ⟨ti, hti, hq'⟩ := obind_some h
    clear h
    have h := hq'
    clear hq'
    obtain ⟨v, hv, hr⟩ := capOp_run hE hti ty w h hx (ts := ts) (as := as) (by simp [← Array.getElem?_toList, hts]) (by simp [← Array.getElem?_toList, hal])
    exact ⟨v, by simp [builtin, hv], hr⟩
  · obtain ⟨a, b, hab, h1, h2⟩ := ha.two
    cases h1; cases h2
    unfold minOp at h
    split at h
    · rename_i e; subst e; cases h
      refine ⟨_, by simp [builtin, Builtin.min_, hab, Builtin.min2], rfl⟩
    · cases h
  · obtain ⟨a, b, hab, h1, h2⟩ := ha.two
    cases h1; cases h2
    unfold maxOp at h
    split at h
    · rename_i e; subst e; cases h
      refine ⟨_, by simp [builtin, Builtin.max_, hab, Builtin.max2], rfl⟩
    · cases h
  · cases h
end Go.Abs
