/- The operations that look at the memory, continued: slices and maps made, maps, iterators; all of them together. -/
import Derived.Test.YtgdgknjhhgkabaaGreatDoorMMem3
import Derived.Laws.Runes
set_option linter.unusedVariables false
set_option linter.unusedSimpArgs false
namespace Go.Abs
variable {P : Program} {E : Env} {ρ : Rho} {lo : Nat} {st st' : St} {w : World} {ev : Operand → Option TV} {σ : Operand → Value}

theorem run_asInt (w : World) (k : IntKind) (n : Int) : (asInt (.int k n)).run P w = .ok n w := rfl

theorem alMakeSlice_ok (hE : EnvOk P E) (w : World) {t : Nat} {l c : Operand} {o : Oper} (ho : o.op = .makeSlice t l c) (he : EvRel ρ ev σ) {ob : AO} {k : Nat → TV}
    (h : alMakeSlice E t (ev l) (ev c) = some (ob, k)) : LaidOk P ρ w (execOp σ o) ob k := by
  unfold alMakeSlice at h
  obtain ⟨lv, hlv, hq'⟩ := obind_some h
  clear h
  have h := hq'
  clear hq'
  obtain ⟨ln, hln, hq'⟩ := obind_some h
  clear h
  have h := hq'
  clear hq'
  obtain ⟨cv, hcv, hq'⟩ := obind_some h
  clear h
  have h := hq'
  clear hq'
  obtain ⟨cn, hcn, hq'⟩ := obind_some h
  clear h
  have h := hq'
  clear hq'
  obtain ⟨ti, hti, hq'⟩ := obind_some h
  clear h
  have h := hq'
  clear hq'
  obtain ⟨⟨i1, d1, z1, hi1, hd1, hz1, hk1, -⟩⟩ := hE.types _ _ hti
  split at h
  · rename_i e hk
    rw [hk] at hk1
    have := ak_sl hk1; subst this
    obtain ⟨te, hte, hq'⟩ := obind_some h
    clear h
    have h := hq'
    clear hq'
    obtain ⟨h1, hq'⟩ := bsel_some h
    clear h
    have h := hq'
    clear hq'
    obtain ⟨h2, hq'⟩ := bsel_some h
    clear h
    have h := hq'
    clear hq'
    obtain ⟨h3, hq'⟩ := bsel_some h
    clear h
    have h := hq'
    clear hq'
    have h1 := Nat.le_of_ble_eq_true h1
    have h2 := Nat.le_of_ble_eq_true h2
    have h3 := Nat.le_of_ble_eq_true h3
    obtain ⟨⟨i2, d2, z2, hi2, hd2, hz2, hk2, hsz2, hby2, hzr2, hzl2⟩⟩ := hE.types _ _ hte
    obtain ⟨k1, e1⟩ := asNat_rel hln (he _ _ hlv)
    obtain ⟨k2, e2⟩ := asNat_rel hcn (he _ _ hcv)
    have hzz := part_zero (hzr2 ρ)
    have hrep := rep_rel hzz cn
    rw [hzl2] at hrep
    have w1 : IntKind.i64.wrap (ln : Int) = ln := wrap_small _ (by omega) (by omega)
    have w2 : IntKind.i64.wrap (cn : Int) = cn := wrap_small _ (by omega) (by omega)
    have hmul : te.bytes * cn ≤ 65536 * 65536 := Nat.mul_le_mul h3 h2
    have hbig : ∀ n : Nat, n ≤ cn → ¬ ((te.bytes : Int) * (n : Int) > 2 ^ 48) := by
      intro n hn
      have : te.bytes * n ≤ te.bytes * cn := Nat.mul_le_mul_left _ hn
      have h4 : ((te.bytes * n : Nat) : Int) ≤ ((65536 * 65536 : Nat) : Int) := Int.ofNat_le.2 (Nat.le_trans this hmul)
      rw [Int.natCast_mul] at h4
      omega
    have hA : (Array.range (cn * te.size)).map ((if cn * te.size = 0 then #[] else z2.cells)[· % (if cn * te.size = 0 then #[] else z2.cells).size]!) = (Array.range (cn * te.size)).map (z2.cells[· % z2.cells.size]!) := by
      by_cases h0 : cn * te.size = 0
      · rw [h0]; simp
      · simp only [if_neg h0]
    cases h
    refine ⟨.slice (some ⟨w.heap.size, 0, none⟩) ln cn, { w with heap := w.heap.push (.cells ((Array.range (cn * te.size)).map (z2.cells[· % z2.cells.size]!)) e) },
      .cells ((Array.range (cn * te.size)).map (z2.cells[· % z2.cells.size]!)) e, cn * te.size, .inl ?_, rfl, ?_, fun ρ' j hj => ⟨_, _, hj, rfl, h1⟩⟩
    · obtain ⟨dst, op, type, pos, after, guard⟩ := o
      simp only at ho; subst ho
      have c1 : ¬ ((decide ((cn : Int) < 0) || decide ((te.bytes : Int) * (cn : Int) > 2 ^ 48)) = true ∨ (ln : Int) < 0 ∨ (ln : Int) > cn) := by
        have := hbig cn (Nat.le_refl _)
        simp only [Bool.or_eq_true, decide_eq_true_eq]
        omega
      rw [← hA]
      simp only [execOp, Instr.makeSlice, e1, e2, Sem.run_bind, run_und w hd1, run_asInt, Result.andThen_ok, run_info w hi2, hby2, w1, w2]
      have c2 : (((decide ((cn : Int) < 0) || decide ((te.bytes : Int) * (cn : Int) > 2 ^ 48)) || decide ((ln : Int) < 0)) || decide ((ln : Int) > cn)) = false := by
        have := hbig cn (Nat.le_refl _)
        simp
        omega
      by_cases h0 : cn * te.size = 0
      · simp [c2, run_size w hi2, hsz2, h0, newRow]
        omega
      · simp [c2, run_size w hi2, hsz2, h0, newRow, run_zero w hi2 hz2]
        omega
    · refine ⟨_, (0, 0), rfl, by simp, by rw [rep_length, hzl2]; rfl, Nat.le_refl _, fun _ => rfl, ?_, .inl rfl⟩
      rw [take_all (by simp)]
      exact hrep
  · cases h

theorem alMap_ok (w : World) {t : Nat} {o : Oper} (ho : o.op = .makeMap t none) {ob : AO} {k : Nat → TV} (h : alMap = some (ob, k)) : LaidOk P ρ w (execOp σ o) ob k := by
  cases h
  refine ⟨.map (some w.heap.size), { w with heap := w.heap.push (.map #[] 0) }, .map #[] 0, 0, .inl ?_, rfl, ⟨#[], 0, rfl, rfl⟩, fun ρ' j hj => ⟨_, _, hj, rfl⟩⟩
  obtain ⟨dst, op, type, pos, after, guard⟩ := o
  simp only at ho; subst ho
  simp [execOp, Instr.makeMap]

/-! ### Keys -/
theorem keyKind_ok (hE : EnvOk P E) {kt : Nat} {k : CV} {kv : Value} (h : keyKind E kt k = true) (hr : CRel ρ k kv) :
    (∃ ik ik' n, P.underlying kt = some (.int ik) ∧ k = .int ik' n ∧ kv = .int ik' n) ∨ ∃ l a, P.underlying kt = some .string ∧ k = .str l ∧ kv = .string a ∧ a.data.toList.map UInt8.toNat = l := by
  unfold keyKind at h
  split at h
  · rename_i hti
    obtain ⟨⟨i, d, z, hi, hd, hz, hk, -⟩⟩ := hE.types _ _ hti
    have := ak_int hk; subst this
    exact .inl ⟨_, _, _, hd, rfl, hr⟩
  · rename_i hti
    obtain ⟨⟨i, d, z, hi, hd, hz, hk, -⟩⟩ := hE.types _ _ hti
    have := ak_str hk; subst this
    obtain ⟨a, e, ha⟩ := hr
    exact .inr ⟨_, _, hd, rfl, e, ha⟩
  · cases h
theorem checkKey_run (hE : EnvOk P E) {kt : Nat} {k : CV} {kv : Value} (w : World) (h : keyKind E kt k = true) (hr : CRel ρ k kv) (e : Bool) : (Instr.checkKey e 10000 kt kv).run P w = .ok () w := by
  have g : ∀ n, (Instr.checkKey e (n + 1) kt kv).run P w = .ok () w := by
    intro n
    rcases keyKind_ok hE h hr with ⟨_, _, _, hd, rfl, rfl⟩ | ⟨_, _, hd, rfl, rfl, _⟩
    · simp [Instr.checkKey, run_und w hd]
    · simp [Instr.checkKey, run_und w hd]
  exact g 9999
theorem keyStays_run (hE : EnvOk P E) {kt : Nat} {k : CV} {kv : Value} (w : World) (h : keyKind E kt k = true) (hr : CRel ρ k kv) : (Instr.keyThatStays kv kv).run P w = .ok kv w := by
  rcases keyKind_ok hE h hr with ⟨_, ik, _, hd, rfl, rfl⟩ | ⟨_, _, hd, rfl, rfl, _⟩
  · exact MapKept.run_keyThatStays (d := .int ik) rfl
  · exact MapKept.run_keyThatStays (d := .string) trivial

theorem findKeyA_run {d : TypeDesc} {k : CV} {kv : Value} (hk : (∃ ik ik' n, d = .int ik ∧ k = .int ik' n ∧ kv = .int ik' n) ∨ ∃ l a, d = .string ∧ k = .str l ∧ kv = .string a ∧ a.data.toList.map UInt8.toNat = l) :
    ∀ {es : List (CV × Bool × List CV)} {ms : List MapEntry} {i : Nat} {r : Option (Nat × Bool × List CV)}, ERel ρ es ms → findKeyA k es i = some r →
      (r = none ∧ Instr.findNow d kv ms i = some none) ∨ ∃ j p m, r = some (i + j, p) ∧ Instr.findNow d kv ms i = some (some (i + j, m.val)) ∧ ms[j]? = some m ∧ m.key = kv ∧ PtRel ρ p m.val
  | [], _, _, _, hr, h => by cases hr; cases h; exact .inl ⟨rfl, rfl⟩
  | e :: es, _, i, r, ⟨m, ms, rfl, h1, h2, h3⟩, h => by
    have h' : (obind (sameKey k e.1) fun b => bsel b (some (some (i, e.2))) (findKeyA k es (i + 1))) = some r := h
    obtain ⟨b, hb, h4⟩ := obind_some h'
    have hs : Instr.sameNow d kv m.key = some b ∧ (b = true → m.key = kv) := by
      rcases hk with ⟨ik, ik', n, rfl, rfl, rfl⟩ | ⟨l, a, rfl, rfl, rfl, ha⟩
      · revert hb h1
        cases e.1 <;> intro h1 hb <;> first | (cases hb; done) | skip
        rename_i k2 n2
        have h1 : m.key = .int k2 n2 := h1
        have hb : (if ik' = k2 then some (decide (n = n2)) else none) = some b := hb
        rw [h1]
        split at hb
        · rename_i hkk
          cases hb; subst hkk
          refine ⟨by simp [Instr.sameNow]; by_cases q : n = n2 <;> simp [q], fun q => ?_⟩
          have q := of_decide_eq_true q
          rw [q]
        · cases hb
      · revert hb h1
        cases e.1 <;> intro h1 hb <;> first | (cases hb; done) | skip
        rename_i l2
        obtain ⟨a2, e2, ha2⟩ := h1
        have hb : some (decide (l = l2)) = some b := hb
        cases hb
        rw [e2]
        have hiff : (a == a2) = decide (l = l2) := by
          rw [Bool.eq_iff_iff, MapKept.bytes_beq, decide_eq_true_eq, ← ha, ← ha2]
          exact ⟨fun q => by rw [q], bytes_inj⟩
        refine ⟨by simp [Instr.sameNow, hiff], fun q => ?_⟩
        rw [← hiff] at q
        rw [(MapKept.bytes_beq _ _).1 q]
    cases b with
    | true =>
      cases h4
      exact .inr ⟨0, e.2, m, rfl, by simp [Instr.findNow, hs.1], rfl, hs.2 rfl, h2⟩
    | false =>
      rcases findKeyA_run hk h3 h4 with ⟨q1, q2⟩ | ⟨j, p, m', q1, q2, q3, q4, q5⟩
      · exact .inl ⟨q1, by simp [Instr.findNow, hs.1, q2]⟩
      · exact .inr ⟨j + 1, p, m', by rw [q1]; congr 2; omega, by simp [Instr.findNow, hs.1, q2]; omega, by simpa using q3, q4, q5⟩

theorem keyD (hE : EnvOk P E) {kt : Nat} {k : CV} {kv : Value} (h : keyKind E kt k = true) (hr : CRel ρ k kv) :
    ∃ d, P.underlying kt = some d ∧ ((∃ ik ik' n, d = .int ik ∧ k = .int ik' n ∧ kv = .int ik' n) ∨ ∃ l a, d = .string ∧ k = .str l ∧ kv = .string a ∧ a.data.toList.map UInt8.toNat = l) := by
  rcases keyKind_ok hE h hr with ⟨a, b, c, hd, e, f⟩ | ⟨a, b, hd, e, f, g⟩
  · exact ⟨_, hd, .inl ⟨_, _, _, rfl, e, f⟩⟩
  · exact ⟨_, hd, .inr ⟨_, _, rfl, e, f, g⟩⟩

/-- a map's entries -/
theorem entriesOf_run (m : StMod ρ st w) {x : CV} {a : Value} {es : List (CV × Bool × List CV)} (h : entriesOf st x = some es) (hx : CRel ρ x a) :
    (a = .map none ∧ es = [] ∧ x = .nilmap) ∨ ∃ id b z ms clock, x = .map id ∧ a = .map (some b) ∧ st.h.get id = some (.map es) ∧ ρ id = some (b, z) ∧ w.heap[b]? = some (.map ms clock) ∧ ERel ρ es ms.toList := by
  unfold entriesOf at h
  split at h
  · cases h; exact .inl ⟨hx, rfl, rfl⟩
  · rename_i id
    split at h
    · rename_i es' hg
      cases h
      obtain ⟨b, z, hb, rfl⟩ := hx
      obtain ⟨b', z', ob, h1, h2, ms, k, rfl, h3⟩ := m.obj id _ hg
      rw [hb] at h1; cases h1
      exact .inr ⟨id, b, z, ms, k, rfl, rfl, hg, hb, h2, h3⟩
    · cases h
  · cases h

theorem lookRes_run {ok b : Bool} {p : Bool × List CV} {u : Value} {v : TV} (h : lookRes ok st p b = some (v, st')) (hp : PtRel ρ p u) : st' = st ∧ TRel ρ v (if ok then .tuple #[u, .bool b] else u) := by
  cases ok with
  | true =>
    cases h
    exact ⟨rfl, #[u, .bool b], rfl, u, [.bool b], rfl, hp, .bool b, [], rfl, .inr ⟨rfl, _, rfl, rfl⟩, rfl⟩
  | false =>
    obtain ⟨h1, h2⟩ := keep_some (show keep st (TV.ofPart p) = some (v, st') from h)
    exact ⟨h2, hp.ofPart h1⟩

theorem aLookup_run (hE : EnvOk P E) (m : StMod ρ st w) {t : Nat} {x k : Operand} {ok : Bool} {o : Oper} (ho : o.op = .lookup t x k ok) (he : EvRel ρ ev σ) {v : TV}
    (h : aLookup E st t (ev x) (ev k) ok = some (v, st')) : MemOk P lo ρ st w (execOp σ o) v st' := by
  unfold aLookup at h
  obtain ⟨xv, hxv, hq'⟩ := obind_some h
  clear h
  have h := hq'
  clear hq'
  obtain ⟨xc, hxc, hq'⟩ := obind_some h
  clear h
  have h := hq'
  clear hq'
  obtain ⟨kv, hkv, hq'⟩ := obind_some h
  clear h
  have h := hq'
  clear hq'
  obtain ⟨kc, hkc, hq'⟩ := obind_some h
  clear h
  have h := hq'
  clear hq'
  obtain ⟨ti, hti, hq'⟩ := obind_some h
  clear h
  have h := hq'
  clear hq'
  obtain ⟨⟨i1, d1, z1, hi1, hd1, hz1, hk1, -⟩⟩ := hE.types _ _ hti
  have hxr : CRel ρ xc (σ x) := by
    cases xv with
    | one _ => cases hxc; exact he _ _ hxv
    | _ => cases hxc
  have hkr : CRel ρ kc (σ k) := by
    cases kv with
    | one _ => cases hkc; exact he _ _ hkv
    | _ => cases hkc
  split at h
  · rename_i kt et hk
    rw [hk] at hk1
    have := ak_map hk1; subst this
    obtain ⟨hkk, hq'⟩ := bsel_some h
    clear h
    have h := hq'
    clear hq'
    obtain ⟨es, hes, hq'⟩ := obind_some h
    clear h
    have h := hq'
    clear hq'
    obtain ⟨r, hr, hq'⟩ := obind_some h
    clear h
    have h := hq'
    clear hq'
    obtain ⟨te, hte, hq'⟩ := obind_some h
    clear h
    have h := hq'
    clear hq'
    obtain ⟨⟨i2, d2, z2, hi2, hd2, hz2, hk2, hsz2, hby2, hzr2, hzl2⟩⟩ := hE.types _ _ hte
    obtain ⟨dk, hdk, hkey⟩ := keyD hE hkk hkr
    have fin : ∀ ms : Array MapEntry, ERel ρ es ms.toList → ((σ x = .map none ∧ ms = #[]) ∨ ∃ b ck, σ x = .map (some b) ∧ w.heap[b]? = some (.map ms ck)) → MemOk P lo ρ st w (execOp σ o) v st' := by
      intro ms hms hx
      obtain ⟨dst, op, type, pos, after, guard⟩ := o
      simp only at ho; subst ho
      rcases findKeyA_run hkey hms hr with ⟨rfl, hf⟩ | ⟨j, p, me, rfl, hf, _, _, hp⟩
      · obtain ⟨e1, e2⟩ := lookRes_run h (hzr2 ρ)
        subst e1
        refine ⟨ρ, w, _, .inl ?_, e2, Ext.refl m⟩
        rcases hx with ⟨e1, rfl⟩ | ⟨b, ck, e1, hb⟩
        · have hf' : (Instr.findKey kt (σ k) []).run P w = .ok none w := MapKept.run_findKey hdk hf
          simp [execOp, Instr.lookup, run_und w hd1, e1, checkKey_run hE w hkk hkr, hf', run_zero w hi2 hz2]
        · simp [execOp, Instr.lookup, run_und w hd1, e1, MapKept.run_getObj_map hb, checkKey_run hE w hkk hkr, MapKept.run_findKey hdk hf, run_zero w hi2 hz2]
      · obtain ⟨e1, e2⟩ := lookRes_run h hp
        subst e1
        refine ⟨ρ, w, _, .inl ?_, e2, Ext.refl m⟩
        rcases hx with ⟨e1, rfl⟩ | ⟨b, ck, e1, hb⟩
        · cases hf
        · simp [execOp, Instr.lookup, run_und w hd1, e1, MapKept.run_getObj_map hb, checkKey_run hE w hkk hkr, MapKept.run_findKey hdk hf]
    rcases entriesOf_run m hes hxr with ⟨e1, rfl, _⟩ | ⟨id, b, z, ms, clock, _, e1, _, _, hb, hms⟩
    · exact fin #[] rfl (.inl ⟨e1, rfl⟩)
    · exact fin ms hms (.inr ⟨b, clock, e1, hb⟩)
  · cases h

theorem setC_eq {α : Type} (l : List α) : ∀ n v, setC l n v = l.set n v := by
  induction l with
  | nil => intro n v; rfl
  | cons x xs ih =>
    intro n v
    cases n with
    | zero => rfl
    | succ n => show x :: setC xs n v = _; rw [ih]; rfl
theorem ERel.append : ∀ {l l' : List (CV × Bool × List CV)} {m m' : List MapEntry}, ERel ρ l m → ERel ρ l' m' → ERel ρ (l ++ l') (m ++ m')
  | [], _, _, _, r, s => by cases r; exact s
  | _ :: _, _, _, _, ⟨y, ys, e, p, q, r⟩, s => by subst e; exact ⟨y, _, rfl, p, q, ERel.append r s⟩
theorem ERel.set {e : CV × Bool × List CV} {f : MapEntry → MapEntry} (hf : ∀ m, CRel ρ e.1 (f m).key ∧ PtRel ρ e.2 (f m).val) :
    ∀ {l : List (CV × Bool × List CV)} {m : List MapEntry} (i : Nat), ERel ρ l m → ERel ρ (l.set i e) (m.modify i f)
  | [], _, _, r => by cases r; cases ‹Nat› <;> rfl
  | _ :: _, _, 0, ⟨y, ys, e, p, q, r⟩ => by subst e; exact ⟨_, _, rfl, (hf y).1, (hf y).2, r⟩
  | _ :: _, _, i + 1, ⟨y, ys, e, p, q, r⟩ => by subst e; exact ⟨y, _, rfl, p, q, ERel.set hf i r⟩

theorem aMapUpdate_run (hE : EnvOk P E) (m : StMod ρ st w) {t : Nat} {mm k x : Operand} {o : Oper} (ho : o.op = .mapUpdate t mm k x ∨ o.op = .insert t mm k x) (he : EvRel ρ ev σ) {v : TV}
    (h : aMapUpdate E lo st t (ev mm) (ev k) (ev x) = some (v, st')) : MemOk P lo ρ st w (execOp σ o) v st' := by
  unfold aMapUpdate at h
  obtain ⟨xv, hxv, hq'⟩ := obind_some h
  clear h
  have h := hq'
  clear hq'
  obtain ⟨xp, hxp, hq'⟩ := obind_some h
  clear h
  have h := hq'
  clear hq'
  obtain ⟨kv, hkv, hq'⟩ := obind_some h
  clear h
  have h := hq'
  clear hq'
  obtain ⟨kc, hkc, hq'⟩ := obind_some h
  clear h
  have h := hq'
  clear hq'
  obtain ⟨ti, hti, hq'⟩ := obind_some h
  clear h
  have h := hq'
  clear hq'
  obtain ⟨⟨i1, d1, z1, hi1, hd1, hz1, hk1, -⟩⟩ := hE.types _ _ hti
  have hxr : PtRel ρ xp (σ x) := (he _ _ hxv).part hxp
  have hkr : CRel ρ kc (σ k) := by
    cases kv with
    | one _ => cases hkc; exact he _ _ hkv
    | _ => cases hkc
  have hex : ∀ w', (Instr.mapUpdate t (σ mm) (σ k) (σ x)).run P w = .ok () w' → OpOk P (execOp σ o) w undef w' := by
    intro w' hu
    obtain ⟨dst, op', type, pos, after, guard⟩ := o
    simp only at ho
    rcases ho with ho | ho <;> subst ho <;> exact .inr ⟨by simp [execOp, hu], rfl⟩
  split at h
  · rename_i kt et id hk hmm
    rw [hk] at hk1
    have := ak_map hk1; subst this
    obtain ⟨hkk, hq'⟩ := bsel_some h
    clear h
    have h := hq'
    clear hq'
    obtain ⟨hli, hq'⟩ := bsel_some h
    clear h
    have h := hq'
    clear hq'
    have hli := Nat.le_of_ble_eq_true hli
    split at h
    · rename_i es hg
      obtain ⟨r, hr, hq'⟩ := obind_some h
      clear h
      have h := hq'
      clear hq'
      obtain ⟨b, z, hb, hσ⟩ := he _ _ hmm
      obtain ⟨b', z', ob, h1, h2, ms, clock, rfl, hms⟩ := m.obj id _ hg
      rw [hb] at h1; cases h1
      obtain ⟨dk, hdk, hkey⟩ := keyD hE hkk hkr
      have hheap : ∀ ob' : Obj, (∀ j, ({ w with heap := w.heap.setIfInBounds b ob' } : World).heap[j]? = if j = b then some ob' else w.heap[j]?) ∧ ({ w with heap := w.heap.setIfInBounds b ob' } : World).heap.size = w.heap.size := by
        intro ob'
        obtain ⟨q1, q2⟩ := MapKept.heap_set (o' := ob') h2
        refine ⟨fun j => ?_, by simp⟩
        split
        · rename_i e; subst e; exact q1
        · rename_i e; exact q2 j e
      have hput : ∀ o' : AO, (setH st id (some o')).h.get = hset st.h.get id (some o') := fun o' => put_eq _ _ _
      rcases findKeyA_run hkey hms hr with ⟨rfl, hf⟩ | ⟨j, p, me, rfl, hf, hj, hjk, hp⟩
      · have h' : putEntry st id (appC es [(kc, xp)]) = some (v, st') := h
        cases h'
        obtain ⟨q1, q2⟩ := hheap (.map (ms.push { key := σ k, val := σ x, born := clock }) (clock + 1))
        refine ⟨ρ, { w with heap := w.heap.setIfInBounds b (.map (ms.push { key := σ k, val := σ x, born := clock }) (clock + 1)) }, undef, hex _ ?_, undef_rel ρ, ?_⟩
        rotate_left
        · show Ext lo ρ st.h.get st.c w ρ (setH st id (some (.map (appC es [(kc, xp)])))).h.get st.c _
          rw [hput]
          refine Ext.write m hli hg hb ⟨_, _, rfl, ?_⟩ q1 q2
          rw [appC_eq, Array.toList_push]
          exact hms.append ⟨_, _, rfl, hkr, hxr, rfl⟩
        · rw [hσ]
          simp [Instr.mapUpdate, run_und w hd1, MapKept.run_getObj_map h2, checkKey_run hE w hkk hkr, MapKept.run_findKey hdk hf, MapKept.run_setObj_map _ h2]
      · have h' : putEntry st id (setC es (0 + j) (kc, xp)) = some (v, st') := h
        cases h'
        obtain ⟨q1, q2⟩ := hheap (.map (ms.modify (0 + j) fun e => { e with key := σ k, val := σ x }) clock)
        refine ⟨ρ, { w with heap := w.heap.setIfInBounds b (.map (ms.modify (0 + j) fun e => { e with key := σ k, val := σ x }) clock) }, undef, hex _ ?_, undef_rel ρ, ?_⟩
        rotate_left
        · show Ext lo ρ st.h.get st.c w ρ (setH st id (some (.map (setC es (0 + j) (kc, xp))))).h.get st.c _
          rw [hput]
          refine Ext.write m hli hg hb ⟨_, _, rfl, ?_⟩ q1 q2
          rw [setC_eq, Array.toList_modify]
          exact ERel.set (fun m => ⟨hkr, hxr⟩) _ hms
        · have hj' : ms[j]? = some me := by simpa using hj
          rw [hσ]
          simp [Instr.mapUpdate, run_und w hd1, MapKept.run_getObj_map h2, checkKey_run hE w hkk hkr, MapKept.run_findKey hdk hf, MapKept.run_setObj_map _ h2, hj', hjk, keyStays_run hE w hkk hkr]
    · cases h
  · cases h

theorem aRange_run (hE : EnvOk P E) (m : StMod ρ st w) (hlo : lo ≤ st.c) {t : Nat} {x : Operand} {o : Oper} (ho : o.op = .range t x) (he : EvRel ρ ev σ) {v : TV}
    (h : aRange E st t (ev x) = some (v, st')) : MemOk P lo ρ st w (execOp σ o) v st' := by
  unfold aRange at h
  obtain ⟨ti, hti, hq'⟩ := obind_some h
  clear h
  have h := hq'
  clear hq'
  obtain ⟨⟨i1, d1, z1, hi1, hd1, hz1, hk1, -⟩⟩ := hE.types _ _ hti
  obtain ⟨dst, op, type, pos, after, guard⟩ := o
  simp only at ho; subst ho
  have ptr : ∀ z, TRel (Rho.set ρ st.c (w.heap.size, z)) (.one (.ptr st.c 0)) (.pointer (some ⟨w.heap.size, 0, none⟩)) := fun z => ⟨_, _, set_self _ _ _, rfl⟩
  split at h
  · rename_i mc hk hx
    rw [hk] at hk1
    have := ak_map hk1; subst this
    obtain ⟨es, hes, hq'⟩ := obind_some h
    clear h
    have h := hq'
    clear hq'
    cases es with
    | cons _ _ => cases h
    | nil =>
      rcases entriesOf_run m hes (he _ _ hx) with ⟨e1, _, rfl⟩ | ⟨id, b, z, ms, clock, rfl, e1, hg, hb, hh, hms⟩
      · refine laid_ok m hlo h (x := .pointer (some ⟨w.heap.size, 0, none⟩)) (w' := { w with heap := w.heap.push (.mapIter none 0 #[] 0) }) (ob := .mapIter none 0 #[] 0) (z := 0) (.inl ?_) rfl (.inl ⟨rfl, rfl⟩) (ptr 0)
        simp [execOp, Instr.range, run_und w hd1, e1]
      · refine laid_ok m hlo h (x := .pointer (some ⟨w.heap.size, 0, none⟩)) (w' := { w with heap := w.heap.push (.mapIter (some b) clock #[] clock) }) (ob := .mapIter (some b) clock #[] clock) (z := 0) (.inl ?_) rfl
          (.inr ⟨id, b, z, clock, rfl, Rho.le_set m _ _ _ hb, rfl⟩) (ptr 0)
        simp [execOp, Instr.range, run_und w hd1, e1, MapKept.run_getObj_map hh]
  · rename_i s hk hx
    rw [hk] at hk1
    have := ak_str hk1; subst this
    obtain ⟨a, e1, ha⟩ := he _ _ hx
    refine laid_ok m hlo h (x := .pointer (some ⟨w.heap.size, 0, none⟩)) (w' := { w with heap := w.heap.push (.stringIter a 0) }) (ob := .stringIter a 0) (z := 0) (.inl ?_) rfl ⟨a, rfl, ha⟩ (ptr 0)
    simp [execOp, Instr.range, run_und w hd1, e1]
  · cases h

theorem run_getObj {r : Nat} {o : Obj} (hn : ∀ c e f, o ≠ .cells c e f) (hb : w.heap[r]? = some o) : (getObj r).run P w = .ok o w := by
  cases o <;> first | (exact absurd rfl (hn _ _ _)) | simp [getObj, Sem.run, hb]
theorem run_setObj {r : Nat} {o o' : Obj} (hn : ∀ c e f, o ≠ .cells c e f) (hb : w.heap[r]? = some o) : (setObj r o').run P w = .ok () { w with heap := w.heap.setIfInBounds r o' } := by
  cases o <;> first | (exact absurd rfl (hn _ _ _)) | simp [setObj, Sem.run, hb]

theorem aNext_run (m : StMod ρ st w) {x : Operand} {isS : Bool} {o : Oper} (ho : o.op = .next x isS) (he : EvRel ρ ev σ) {v : TV}
    (h : aNext lo st (ev x) isS = some (v, st')) : MemOk P lo ρ st w (execOp σ o) v st' := by
  obtain ⟨dst, op, type, pos, after, guard⟩ := o
  simp only at ho; subst ho
  have over : TRel ρ (.tup [(false, [.bool false])]) (.tuple #[.bool false]) := ⟨_, rfl, _, _, rfl, .inr ⟨rfl, _, rfl, rfl⟩, rfl⟩
  unfold aNext at h
  split at h
  · rename_i id hx
    obtain ⟨b, z, hb, hσ⟩ := he _ _ hx
    split at h
    · rename_i s p hg
      obtain ⟨b', z', ob, h1, h2, a, rfl, ha⟩ := m.obj id _ hg
      rw [hb] at h1; cases h1
      unfold nextStr at h
      rw [nthC_eq] at h
      cases hq : s[p]? with
      | none =>
        rw [hq] at h
        cases h
        have hp : ¬ p < a.size := by
          intro hp
          rw [← ha, List.getElem?_map, Array.getElem?_toList, Array.getElem?_eq_getElem hp] at hq
          cases hq
        exact ⟨ρ, w, _, .inl (by simp [execOp, Instr.next, hσ, run_getObj (by simp) h2, hp]), over, Ext.refl m⟩
      | some c =>
        rw [hq] at h
        obtain ⟨hc, h⟩ := bsel_some (show bsel (Nat.blt c 128) (bsel (Nat.ble lo id) (some (.tup [(false, [.bool true]), (false, [intI p]), (false, [.int .i32 (Int.ofNat c)])], setH st id (some (.strIter s (Nat.succ p))))) none) none = some (v, st') from h)
        obtain ⟨hli, hq'⟩ := bsel_some h
        clear h
        have h := hq'
        clear hq'
        cases h
        have hc := blt_lt hc
        have hli := Nat.le_of_ble_eq_true hli
        have hp : p < a.size := by
          have := (List.getElem?_eq_some_iff.1 hq).1
          rw [← ha] at this; simpa using this
        have hget : (a.get! p).toNat = c := by
          rw [← ha, List.getElem?_map, Array.getElem?_toList, Array.getElem?_eq_getElem hp] at hq
          simp only [Option.map_some, Option.some.injEq] at hq
          rw [← hq]
          show (a.data[p]!).toNat = _
          rw [getElem!_pos a.data p hp]
        have hdec : Utf8.decode a p = (c, 1) := by
          unfold Utf8.decode
          simp only [Nat.add_zero, hget]
          rw [if_pos hc]
        have hheap : ∀ ob' : Obj, (∀ j, ({ w with heap := w.heap.setIfInBounds b ob' } : World).heap[j]? = if j = b then some ob' else w.heap[j]?) ∧ ({ w with heap := w.heap.setIfInBounds b ob' } : World).heap.size = w.heap.size := by
          intro ob'
          obtain ⟨q1, q2⟩ := MapKept.heap_set (o' := ob') h2
          refine ⟨fun j => ?_, by simp⟩
          split
          · rename_i e; subst e; exact q1
          · rename_i e; exact q2 j e
        obtain ⟨q1, q2⟩ := hheap (.stringIter a (p + 1))
        refine ⟨ρ, { w with heap := w.heap.setIfInBounds b (.stringIter a (p + 1)) }, .tuple #[.bool true, goInt p, .int .i32 c], .inl ?_, ⟨_, rfl, _, _, rfl, .inr ⟨rfl, _, rfl, rfl⟩, _, _, rfl, .inr ⟨rfl, _, rfl, rfl⟩, _, _, rfl, .inr ⟨rfl, _, rfl, rfl⟩, rfl⟩, ?_⟩
        rotate_left
        · show Ext lo ρ st.h.get st.c w ρ (setH st id (some (.strIter s (Nat.succ p)))).h.get st.c _
          rw [show (setH st id (some (.strIter s (Nat.succ p)))).h.get = hset st.h.get id (some (.strIter s (Nat.succ p))) from put_eq _ _ _]
          exact Ext.write m hli hg hb ⟨a, rfl, ha⟩ q1 q2
        · simp [execOp, Instr.next, hσ, run_getObj (by simp) h2, hp, hdec, run_setObj (by simp) h2]
    · cases h
  · rename_i id hx
    obtain ⟨b, z, hb, hσ⟩ := he _ _ hx
    split at h
    · rename_i hg
      cases h
      obtain ⟨b', z', ob, h1, h2, h3⟩ := m.obj id _ hg
      rw [hb] at h1; cases h1
      rcases h3 with ⟨_, rfl⟩ | ⟨_, _, _, _, h3, _⟩
      · exact ⟨ρ, w, _, .inl (by simp [execOp, Instr.next, hσ, run_getObj (by simp) h2]), over, Ext.refl m⟩
      · cases h3
    · rename_i mid hg
      split at h
      · rename_i hgm
        cases h
        obtain ⟨b', z', ob, h1, h2, h3⟩ := m.obj id _ hg
        rw [hb] at h1; cases h1
        rcases h3 with ⟨h3, _⟩ | ⟨_, bm, zm, k, h3, h4, rfl⟩
        · cases h3
        · cases h3
          obtain ⟨b2, z2, ob2, g1, g2, ms, ck, rfl, g3⟩ := m.obj mid _ hgm
          rw [h4] at g1; cases g1
          have : ms = #[] := by
            have g3 : ms.toList = [] := g3
            simpa using g3
          subst this
          exact ⟨ρ, w, _, .inl (by simp [execOp, Instr.next, hσ, run_getObj (by simp) h2, run_getObj (by simp) g2, Question.forced]), over, Ext.refl m⟩
      · cases h
    · cases h
  · cases h

/-- what is laid -/
theorem alaid_ok (hE : EnvOk P E) (w : World) (he : EvRel ρ ev σ) {o : Oper} {ob : AO} {k : Nat → TV} (h : alaid E ev o.op = some (ob, k)) : LaidOk P ρ w (execOp σ o) ob k := by
  generalize hop : o.op = op at h
  cases op <;> simp only [alaid] at h <;> try (cases h; done)
  case alloc => exact alAlloc_ok hE ρ w hop h
  case box => exact alBox_ok w hop he h
  case buildSlice => exact alBuildSlice_ok hE w hop he h
  case convert => exact alConv_ok hE w hop he h
  case makeMap t r =>
    cases r with
    | none => exact alMap_ok w hop h
    | some _ => cases h
  case makeSlice => exact alMakeSlice_ok hE w hop he h
/-- all of them together -/
theorem amem_run (hE : EnvOk P E) (m : StMod ρ st w) (hlo : lo ≤ st.c) (he : EvRel ρ ev σ) {o : Oper} {v : TV} (h : amem E lo ev st o.op = some (v, st')) : MemOk P lo ρ st w (execOp σ o) v st' := by
  generalize hop : o.op = op at h
  cases op <;> simp only [amem] at h <;> try (cases h; done)
  case alloc => exact lay_mem (fun o' k hx => alAlloc_ok hE ρ w hop hx) m hlo h
  case box => exact lay_mem (fun o' k hx => alBox_ok w hop he hx) m hlo h
  case buildSlice => exact lay_mem (fun o' k hx => alBuildSlice_ok hE w hop he hx) m hlo h
  case load => exact aLoad_run hE m hop he h
  case store => exact aStore_run hE m hop he h
  case binOp => exact aBinS_run hE m hop he h
  case convert => exact aConvS_run hE m hlo hop he h
  case makeMap t r =>
    cases r with
    | none => exact lay_mem (fun o' k hx => alMap_ok w hop hx) m hlo h
    | some _ => cases h
  case makeSlice => exact lay_mem (fun o' k hx => alMakeSlice_ok hE w hop he hx) m hlo h
  case lookup => exact aLookup_run hE m hop he h
  case mapUpdate => exact aMapUpdate_run hE m (.inl hop) he h
  case insert => exact aMapUpdate_run hE m (.inr hop) he h
  case range => exact aRange_run hE m hlo hop he h
  case next => exact aNext_run m hop he h
end Go.Abs
