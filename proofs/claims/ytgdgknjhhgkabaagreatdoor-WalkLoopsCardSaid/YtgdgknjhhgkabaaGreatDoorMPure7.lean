/- The operations that hang on their operands alone: all of them together. -/
import Derived.Test.YtgdgknjhhgkabaaGreatDoorMPure6
set_option linter.unusedVariables false
set_option linter.unusedSimpArgs false
namespace Go.Abs
variable {P : Program} {E : Env} {ρ : Rho}

theorem eqGuard_run {x : CV} {a b : Value} (op : BinOp) (t : Nat) (p q : Operand) (w : World) (h : CRel ρ x a) : (eqGuard op t p q a b).run P w = .ok () w := by
  have h1 : a ≠ .nilIface := by
    intro e; subst e
    cases x <;> simp [CRel] at h
  have h2 : ∀ l, a ≠ .agg l := by
    intro l e; subst e
    cases x <;> simp [CRel] at h
  unfold eqGuard
  cases op <;> simp only [] <;> first | rfl | skip
  all_goals
    cases a <;> first | (exact absurd rfl h1) | (exact absurd rfl (h2 _)) | rfl

theorem apure_run (hE : EnvOk P E) {ev : Operand → Option TV} {σ : Operand → Value} (he : EvRel ρ ev σ) {o : Oper} {c : TV} (w : World) (h : apure E ev o.op = some c) :
    ∃ v, (execOp σ o).run P w = .ok (.value v) w ∧ TRel ρ c v := by
  obtain ⟨dst, op, type, pos, after, guard⟩ := o
  have lift : ∀ (s : Sem Value), (∃ v, s.run P w = .ok v w ∧ TRel ρ c v) → ∃ v, (do pure (Next.value (← s)) : Sem Next).run P w = .ok (.value v) w ∧ TRel ρ c v := by
    rintro s ⟨v, hv, hr⟩
    exact ⟨v, by simp [hv], hr⟩
  cases op <;> simp only [apure] at h <;> try (cases h; done)
  case move x => exact ⟨σ x, rfl, he _ _ h⟩
  case assign x => exact ⟨σ x, rfl, he _ _ h⟩
  case pick x a b =>
    unfold aPick at h
    split at h
    · rename_i t hx
      have := he _ _ hx
      have e : σ x = .bool t := this
      cases t with
      | true => exact ⟨σ a, by simp [execOp, e, asBool], he _ _ h⟩
      | false => exact ⟨σ b, by simp [execOp, e, asBool], he _ _ h⟩
    · cases h
  case build t ps => exact lift _ (aBuild_run hE he w h)
  case nilCheck x =>
    unfold aNilCheck at h
    split at h
    · rename_i i f hx
      have hr := he _ _ hx
      obtain ⟨b, z, hb, e⟩ := hr
      cases h
      exact ⟨σ x, by simp [execOp, e], b, z, hb, e⟩
    · rename_i f a b hx
      have hr := he _ _ hx
      obtain ⟨a', c', e, h1, h2⟩ := hr
      cases h
      exact ⟨σ x, by simp [execOp, e], a', c', e, h1, h2⟩
    · cases h
  case binOp op t x y yt =>
    unfold aBin at h
    split at h
    · rename_i a b hx hy
      have hxr := he _ _ hx
      have hyr := he _ _ hy
      obtain ⟨v, hv, hr⟩ := binCV_run hE w h hxr hyr
      exact ⟨v, by simp [execOp, eqGuard_run op t x y w hxr, hv], hr⟩
    · cases h
  case unOp op t x =>
    obtain ⟨a, ha, hq'⟩ := obind_some h
    clear h
    have h := hq'
    clear hq'
    exact lift _ (unop_run w h (he _ _ ha))
  case convert s d x => exact lift _ (aConvert_run hE w h fun v hv => he _ _ hv)
  case sliceToArrayPointer t x => exact lift _ (aArrPtr_run hE w h fun v hv => he _ _ hv)
  case makeFunc f fs cs => exact lift _ (aMakeFunc_run he w h)
  case slice t x l hh m =>
    unfold aSlice at h
    obtain ⟨xv, hxv, hq'⟩ := obind_some h
    clear h
    have h := hq'
    clear hq'
    obtain ⟨xc, hxc, hq'⟩ := obind_some h
    clear h
    have h := hq'
    clear hq'
    obtain ⟨a, ha, hq'⟩ := obind_some h
    clear h
    have h := hq'
    clear hq'
    obtain ⟨b, hb, hq'⟩ := obind_some h
    clear h
    have h := hq'
    clear hq'
    obtain ⟨c', hc', hq'⟩ := obind_some h
    clear h
    have h := hq'
    clear hq'
    obtain ⟨q, hq, hq'⟩ := obind_some h
    clear h
    have h := hq'
    clear hq'
    cases h
    cases xv with
    | one v =>
      cases hxc
      exact lift _ (sliceOp_run hE w hq (he _ _ hxv) (aOpt_rel he ha) (aOpt_rel he hb) (aOpt_rel he hc'))
    | _ => cases hxc
  case fieldAddr s x f => exact lift _ (aFieldAddr_run hE w h fun v hv => he _ _ hv)
  case field s x f => exact lift _ (aField_run hE w h fun v hv => he _ _ hv)
  case indexAddr t x i => exact lift _ (aIndexAddr_run hE w h (fun v hv => he _ _ hv) fun v hv => he _ _ hv)
  case index t x i => exact lift _ (aIndex_run hE w h (fun v hv => he _ _ hv) fun v hv => he _ _ hv)
  case extract x i => exact lift _ (aExtract_run w h fun v hv => he _ _ hv)
  case call cl =>
    unfold aPureCall at h
    split at h
    · rename_i b hb
      obtain ⟨args, ha, hq'⟩ := obind_some h
      clear h
      have h := hq'
      clear hq'
      have hr := optAll_ev he ha
      have key := fun cs => pureBuiltin_run hE type w h (as := cl.args.map σ) (by simpa using hr) cs
      simp only [execOp, resolve, hb, invoke, Sem.run_bind, Sem.run_pure, Result.andThen_ok]
      exact key _
    · cases h
end Go.Abs
