/- The operations that hang on their operands alone: slicing, addresses, parts, lengths; all of them together. -/
import Derived.Test.YtgdgknjhhgkabaaGreatDoorMPure3
set_option linter.unusedVariables false
set_option linter.unusedSimpArgs false
namespace Go.Abs
variable {P : Program} {E : Env} {ρ : Rho}

theorem aConvert_run (hE : EnvOk P E) {s d : Nat} {x : Option TV} {c : TV} {a : Value} (w : World) (h : aConvert E s d x = some c) (hx : ∀ v, x = some v → TRel ρ v a) :
    ∃ v, (Go.convert s d a).run P w = .ok v w ∧ TRel ρ c v := by
  unfold aConvert at h
  obtain ⟨v, hxv, hq'⟩ := obind_some h
  clear h
  have h := hq'
  clear hq'
  subst hxv
  obtain ⟨td, htd, hq'⟩ := obind_some h
  clear h
  have h := hq'
  clear hq'
  obtain ⟨ts, hts, hq'⟩ := obind_some h
  clear h
  have h := hq'
  clear hq'
  obtain ⟨⟨i, dd, z, hi, hd, hz, hk, -⟩⟩ := hE.types _ _ htd
  obtain ⟨⟨i2, ds, z2, hi2, hd2, hz2, hk2, -⟩⟩ := hE.types _ _ hts
  unfold aConv at h
  split at h
  · rename_i k k' n hkk
    rw [hkk] at hk
    have := ak_int hk; subst this
    have := hx _ rfl
    cases this
    cases h
    refine ⟨.int k (k.wrap n), ?_, rfl⟩
    simp only [Go.convert, Sem.run_bind, run_und w hd, run_und w hd2, Result.andThen_ok]
    cases ds <;> rfl
  · cases h

theorem aArrPtr_run (hE : EnvOk P E) {t : Nat} {x : Option TV} {c : TV} {a : Value} (w : World) (h : aArrPtr E t x = some c) (hx : ∀ v, x = some v → TRel ρ v a) :
    ∃ v, (Instr.arrayAt t a).run P w = .ok v w ∧ TRel ρ c v := by
  unfold aArrPtr at h
  obtain ⟨ti, hti, hq'⟩ := obind_some h
  clear h
  have h := hq'
  clear hq'
  obtain ⟨⟨i, d, z, hi, hd, hz, hk, -⟩⟩ := hE.types _ _ hti
  split at h
  · rename_i n e id off len cap hkk
    rw [hkk] at hk
    have := ak_arr hk; subst this
    obtain ⟨hl, hq'⟩ := bsel_some h
    clear h
    have h := hq'
    clear hq'
    have hl := Nat.le_of_ble_eq_true hl
    obtain ⟨b, z', h1, rfl, -⟩ := hx _ rfl
    cases h
    exact ⟨.pointer (some ⟨b, off, none⟩), by simp [Instr.arrayAt, run_und w hd, Nat.not_lt.2 hl], b, z', h1, rfl⟩
  · rename_i n e id off len cap es hkk
    rw [hkk] at hk
    have := ak_arr hk; subst this
    obtain ⟨hl, hq'⟩ := bsel_some h
    clear h
    have h := hq'
    clear hq'
    have hl := Nat.le_of_ble_eq_true hl
    obtain ⟨b, z', c', h1, rfl, -⟩ := hx _ rfl
    cases h
    exact ⟨.pointer (some ⟨b, off, none⟩), by simp [Instr.arrayAt, run_und w hd, Nat.not_lt.2 hl], b, z', h1, rfl⟩
  · cases h

theorem ptrsOf_rel {ev : Operand → Option TV} {σ : Operand → Value} (he : EvRel ρ ev σ) : ∀ {l : List Operand} {r : List (Nat × Nat)}, ptrsOf ev l = some r → PRel ρ r (l.map σ)
  | [], r, h => by have := optAll_nil h; subst this; rfl
  | x :: xs, r, h => by
    obtain ⟨y, ys, hy, hs, e⟩ := optAll_cons h
    subst e
    obtain ⟨v, hv, e⟩ := obind_some hy
    have hr := he _ _ hv
    unfold asPtr at e
    split at e
    · cases e
      obtain ⟨b, z, h1, h2⟩ := hr
      exact ⟨b, z, _, h1, by rw [List.map_cons, h2], ptrsOf_rel he hs⟩
    · cases e

theorem aMakeFunc_run {ev : Operand → Option TV} {σ : Operand → Value} (he : EvRel ρ ev σ) {f : Fn} {fs cs : Array Operand} {c : TV} (w : World) (h : aMakeFunc ev f fs.toList cs.toList = some c) :
    ∃ v, (Instr.makeFunc f (fs.map σ) (cs.map σ)).run P w = .ok v w ∧ TRel ρ c v := by
  unfold aMakeFunc at h
  split at h
  · obtain ⟨a, ha, h⟩ := obind_some h
    obtain ⟨b, hb, hq'⟩ := obind_some h
    clear h
    have h := hq'
    clear hq'
    cases h
    exact ⟨_, rfl, _, _, rfl, by simpa using ptrsOf_rel he ha, by simpa using ptrsOf_rel he hb⟩
  · cases h

/-! slicing -/
def ORelV (ρ : Rho) : Option TV → Option Value → Prop
  | none, none => True
  | some t, some y => TRel ρ t y
  | _, _ => False
theorem bnd_run {v : Option TV} {x : Option Value} {d top n : Nat} (h : bnd v d top = some n) (hv : ORelV ρ v x) :
    (match v with | none => n = d ∧ x = none | some _ => n ≤ top ∧ ∃ k, x = some (.int k n)) := by
  cases v with
  | none => cases x with
    | none => cases h; exact ⟨rfl, rfl⟩
    | some y => exact hv.elim
  | some t => cases x with
    | none => exact hv.elim
    | some y =>
      have h' : (obind (asNat t) fun n => bsel (Nat.ble n top) (some n) none) = some n := h
      obtain ⟨m, hm, h1⟩ := obind_some h'
      obtain ⟨h2, h3⟩ := bsel_some h1
      cases h3
      obtain ⟨k, hk⟩ := asNat_rel hm hv
      exact ⟨Nat.le_of_ble_eq_true h2, k, by rw [hk]⟩
theorem sliceBound_run {k : IntKind} {n y : Nat} {code : BoundsCode} (w : World) (h : n ≤ y) : (Instr.sliceBound (.int k n) y code).run P w = .ok n w := by
  have : (0 : Int) ≤ n ∧ (n : Int) ≤ y := by omega
  simp [Instr.sliceBound, asIntOf, this]
/-- two bounds -/
theorem sl2_run {k : Nat → Nat → Nat → Option CV} {len m : Nat} {lo hi : Option TV} {xl xh : Option Value} {c : CV} (isS : Bool) (w : World) (h : sl2 k len lo hi m = some c) (hl : ORelV ρ lo xl) (hh : ORelV ρ hi xh) (hm : len ≤ m) :
    ∃ l hh', l ≤ hh' ∧ hh' ≤ m ∧ k l hh' m = some c ∧ (Instr.sliceBounds isS len m xl xh none).run P w = .ok (l, hh', m) w := by
  unfold sl2 at h
  obtain ⟨h', hb, hq'⟩ := obind_some h
  clear h
  have h := hq'
  clear hq'
  obtain ⟨l, lb, hq'⟩ := obind_some h
  clear h
  have h := hq'
  clear hq'
  have e1 := bnd_run hb hh
  have e2 := bnd_run lb hl
  refine ⟨l, h', ?_, ?_, h, ?_⟩
  · cases lo with
    | none => obtain ⟨rfl, _⟩ := e2; omega
    | some _ => exact e2.1
  · cases hi with
    | none => obtain ⟨rfl, _⟩ := e1; exact hm
    | some _ => exact e1.1
  · cases hi with
    | none =>
      obtain ⟨rfl, rfl⟩ := e1
      cases lo with
      | none => obtain ⟨rfl, rfl⟩ := e2; simp [Instr.sliceBounds]
      | some _ => obtain ⟨a, kk, rfl⟩ := e2; simp [Instr.sliceBounds, sliceBound_run w a]
    | some _ =>
      obtain ⟨a, kk, rfl⟩ := e1
      cases lo with
      | none => obtain ⟨rfl, rfl⟩ := e2; simp [Instr.sliceBounds, sliceBound_run w a]
      | some _ => obtain ⟨a', kk', rfl⟩ := e2; simp [Instr.sliceBounds, sliceBound_run w a, sliceBound_run w a']
/-- three bounds -/
theorem sl3_run {k : Nat → Nat → Nat → Option CV} {len m cap : Nat} {lo : Option TV} {h v : TV} {xl : Option Value} {xh xm : Value} {c : CV} (isS : Bool) (w : World) (hmm : bnd (some v) 0 cap = some m)
    (hs : sl2 k len lo (some h) m = some c) (hl : ORelV ρ lo xl) (hh : TRel ρ h xh) (hv : TRel ρ v xm) :
    ∃ l hh', l ≤ hh' ∧ hh' ≤ m ∧ m ≤ cap ∧ k l hh' m = some c ∧ ∀ cap', cap ≤ cap' → (Instr.sliceBounds isS len cap' xl (some xh) (some xm)).run P w = .ok (l, hh', m) w := by
  unfold sl2 at hs
  obtain ⟨h', hb, hs⟩ := obind_some hs
  obtain ⟨l, lb, hs⟩ := obind_some hs
  obtain ⟨a1, k1, e1⟩ := bnd_run (ρ := ρ) (x := some xh) hb hh
  obtain ⟨a3, k3, e3⟩ := bnd_run (ρ := ρ) (x := some xm) hmm hv
  have e2 := bnd_run lb hl
  cases e1; cases e3
  have hle : l ≤ h' := by
    cases lo with
    | none => obtain ⟨rfl, _⟩ := e2; omega
    | some _ => exact e2.1
  refine ⟨l, h', hle, a1, a3, hs, fun cap' hc => ?_⟩
  have a3' : m ≤ cap' := by omega
  cases lo with
  | none => obtain ⟨rfl, rfl⟩ := e2; simp [Instr.sliceBounds, sliceBound_run w a1, sliceBound_run w a3']
  | some _ => obtain ⟨a', kk', rfl⟩ := e2; simp [Instr.sliceBounds, sliceBound_run w a1, sliceBound_run w a3', sliceBound_run w a']

theorem add_eq (b o n : Nat) : (⟨b, o, none⟩ : Addr).add n = ⟨b, o + n, none⟩ := by
  unfold Addr.add
  split
  · rename_i h; subst h; rfl
  · rfl
end Go.Abs
