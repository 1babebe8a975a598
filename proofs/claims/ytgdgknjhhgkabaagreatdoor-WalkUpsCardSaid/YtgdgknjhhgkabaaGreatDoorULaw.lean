/- WalkUps tells true, whatever its two bytes. -/
import Derived.Test.YtgdgknjhhgkabaaGreatDoorUPre
set_option linter.unusedVariables false
set_option linter.unusedSimpArgs false
set_option linter.unusedVariables false
set_option maxRecDepth 1000000
namespace Go.Abs.Tryz
open Go.Abs Go.Proofs

theorem regs_sub {r : Regs} : ∀ {l : List (Nat × TV)}, (∀ p ∈ l, r.get p.1 = some p.2) → ∀ t v, (⟨l, .nil⟩ : Regs).get t = some v → r.get t = some v
  | [], _, t, v, h => by
    have h : (T.nil : T TV).get t = some v := h
    cases h
  | (t', x) :: l, hl, t, v, h => by
    replace h : bsel (Nat.beq t' t) (some x) ((⟨l, .nil⟩ : Regs).get t) = some v := h
    cases hb : Nat.beq t' t with
    | true =>
      rw [hb, bsel_true] at h
      cases h
      have := Nat.eq_of_beq_eq_true hb
      subst this
      exact hl (t', x) List.mem_cons_self
    | false =>
      rw [hb, bsel_false] at h
      exact regs_sub (fun p hp => hl p (List.mem_cons_of_mem _ hp)) t v h
theorem kval : ∀ d : Fin 256, IntKind.wrap .i64 ((Int.ofNat d.val).tmod 7) = Int.ofNat (d.val % 7) := by decide +kernel
theorem uval : ∀ d : Fin 256, IntKind.wrap .i64 ((Int.ofNat d.val).tmod 10) = Int.ofNat (d.val % 10) := by decide +kernel

theorem ups_calls {W : World} {e1 e2 : Nat} (h1 : W.heap[1]? = some (.cells (vals .u32 kList).toArray e1 (0, 0))) (h2 : W.heap[2]? = some (.cells (vals .i64 qList).toArray e2 (0, 0))) (d e : Nat) (hd : d < 256) (he : e < 256) :
    Calls Tryz.prog 4 #[.int .u8 (Int.ofNat d), .int .u8 (Int.ofNat e)] W fun x W' => x = .returned (.bool true) ∧ Kept W W' := by
  have m := start h1 h2
  have hp := pre_run d e e1 e2
  cases hr : pre d e e1 e2 with
  | none => rw [hr] at hp; cases hp
  | some r =>
    obtain ⟨fr1, st1⟩ := r
    rw [hr] at hp
    simp only [Option.map_some, Option.some.injEq, Prod.mk.injEq] at hp
    obtain ⟨hc, hk, hu⟩ := hp
    obtain ⟨c1, hc⟩ := bselF hc
    obtain ⟨c2, hc⟩ := bselF hc
    obtain ⟨c3, hc⟩ := bselF hc
    obtain ⟨c4, hc⟩ := bselF hc
    obtain ⟨c5, hc⟩ := bselF hc
    obtain ⟨c6, hc⟩ := bselF hc
    rw [kval ⟨d, hd⟩] at hk
    rw [uval ⟨e, he⟩] at hu
    obtain ⟨fr2, st2, hrest, hv, hm2⟩ := chkRest_spec (runs (d % 7) (e % 10) (Nat.mod_lt _ (by decide)) (Nat.mod_lt _ (by decide)))
    have hn := Nat.eq_of_beq_eq_true c4
    have hf : FrOk (startR 64 32) (fr0 d e) { tmps := #[.int .u8 (Int.ofNat d), .int .u8 (Int.ofNat e)] ++ Array.replicate (Tryz.f4.ntmps - (#[.int .u8 (Int.ofNat d), .int .u8 (Int.ofNat e)] : Array Value).size) undef, defers := [] } := by
      rw [Tryz.ntmps4]
      exact frameOf_ok (by simp) ⟨_, _, rfl, rfl, _, _, rfl, rfl, rfl⟩
    have hregs : ∀ t v, (L (d % 7) (e % 10)).get t = some v → fr1.regs.get t = some v := regs_sub (fun p hp => by
      simp only [List.mem_cons, List.not_mem_nil, or_false] at hp
      rcases hp with rfl | rfl | rfl | rfl
      · exact isReg_spec c5
      · exact isReg_spec c6
      · exact hk
      · exact hu)
    rw [← hn] at hrest
    refine (law_ok (P := Tryz.prog) (n := 9) (e := run E2 100000) (e' := run E3 100000) Tryz.func4 lawC_eq rfl (sound2 100000).code (sound3 100000).code m (start_glob _ _) (Nat.le_refl _) hf hr
      (fun id o h => (hasAll_spec c1 id o h).1) (Nat.le_of_ble_eq_true c2) hregs rfl (isNilM_spec c3) hrest hv hm2).mono fun x W' hx => ?_
    obtain ⟨rfl, ρ1, w1, ρ2, x1, x2⟩ := hx
    exact ⟨rfl, parts_kept m (start_kept (intCVs_nats _ kList) (intCVs_nats _ qList) m x1) x1 x2 (fun id hid => by
      rcases (by omega : id = 0 ∨ id = 1 ∨ id = 2) with rfl | rfl | rfl <;> rfl)⟩
end Go.Abs.Tryz
