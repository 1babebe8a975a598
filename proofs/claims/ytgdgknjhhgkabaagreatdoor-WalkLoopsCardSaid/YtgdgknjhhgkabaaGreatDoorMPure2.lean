/- The operations that hang on their operands alone, continued. -/
import Derived.Test.YtgdgknjhhgkabaaGreatDoorMPure
set_option linter.unusedVariables false
set_option linter.unusedSimpArgs false
namespace Go.Abs
variable {P : Program} {E : Env} {ρ : Rho}

theorem eqOp_run (hE : EnvOk P E) {op : BinOp} {t : Nat} {x y : CV} {c : TV} {a b : Value} (w : World) (h : eqOp E op t x y = some c) (hx : CRel ρ x a) (hy : CRel ρ y b) :
    ∃ v, (binOp op t a b).run P w = .ok v w ∧ TRel ρ c v := by
  unfold eqOp at h
  have key : ∀ ti, E.types t = some ti → (fitsKind ti.k x && fitsKind ti.k y) = true → ∀ r, sameCV x y = some r →
      (∀ dp, (Op.equalIn (dp + 1) t a b).run P w = .ok r w) ∧ (∀ k n, a ≠ .int k n) ∧ (∀ s, a ≠ .string s) ∧ (∀ k n, a ≠ .float k n) ∧ (∀ k n m, a ≠ .complex k n m) := by
    intro ti hti hf r hr
    obtain ⟨⟨i, d, z, hi, hd, hz, hk, -⟩⟩ := hE.types t ti hti
    rw [Bool.and_eq_true] at hf
    obtain ⟨hf1, hf2⟩ := hf
    generalize hkk : ti.k = k at hf1 hf2 hk
    cases x <;> cases y <;> simp only [sameCV] at hr <;> try (cases hr; done)
    all_goals (cases k <;> simp only [fitsKind] at hf1 hf2 <;> try (cases hf1; done))
    all_goals (try (cases hf2; done))
    all_goals (simp only [CRel] at hx hy)
    case bool.bool =>
      subst hx hy; cases hr
      have := ak_bool hk; subst this
      exact ⟨by intro dp; simp [Op.equalIn, run_und w hd], by simp, by simp, by simp, by simp⟩
    case ptr.nilp.ptr =>
      obtain ⟨_, _, _, rfl⟩ := hx; subst hy; cases hr
      have := ak_ptr hk; subst this
      exact ⟨by intro dp; simp [Op.equalIn, run_und w hd], by simp, by simp, by simp, by simp⟩
    case nilp.ptr.ptr =>
      obtain ⟨_, _, _, rfl⟩ := hy; subst hx; cases hr
      have := ak_ptr hk; subst this
      exact ⟨by intro dp; simp [Op.equalIn, run_und w hd], by simp, by simp, by simp, by simp⟩
    case nilp.nilp.ptr =>
      subst hx hy; cases hr
      have := ak_ptr hk; subst this
      exact ⟨by intro dp; simp [Op.equalIn, run_und w hd], by simp, by simp, by simp, by simp⟩
    case sl.nils.sl =>
      obtain ⟨_, _, _, rfl, _⟩ := hx; subst hy; cases hr
      have := ak_sl hk; subst this
      exact ⟨by intro dp; simp [Op.equalIn, run_und w hd], by simp, by simp, by simp, by simp⟩
    case slr.nils.sl =>
      obtain ⟨_, _, _, _, rfl, _⟩ := hx; subst hy; cases hr
      have := ak_sl hk; subst this
      exact ⟨by intro dp; simp [Op.equalIn, run_und w hd], by simp, by simp, by simp, by simp⟩
    case nils.sl.sl =>
      obtain ⟨_, _, _, rfl, _⟩ := hy; subst hx; cases hr
      have := ak_sl hk; subst this
      exact ⟨by intro dp; simp [Op.equalIn, run_und w hd], by simp, by simp, by simp, by simp⟩
    case nils.slr.sl =>
      obtain ⟨_, _, _, _, rfl, _⟩ := hy; subst hx; cases hr
      have := ak_sl hk; subst this
      exact ⟨by intro dp; simp [Op.equalIn, run_und w hd], by simp, by simp, by simp, by simp⟩
    case nils.nils.sl =>
      subst hx hy; cases hr
      have := ak_sl hk; subst this
      exact ⟨by intro dp; simp [Op.equalIn, run_und w hd], by simp, by simp, by simp, by simp⟩
    case map.nilmap.map =>
      obtain ⟨_, _, _, rfl⟩ := hx; subst hy; cases hr
      have := ak_map hk; subst this
      exact ⟨by intro dp; simp [Op.equalIn, run_und w hd], by simp, by simp, by simp, by simp⟩
    case nilmap.map.map =>
      obtain ⟨_, _, _, rfl⟩ := hy; subst hx; cases hr
      have := ak_map hk; subst this
      exact ⟨by intro dp; simp [Op.equalIn, run_und w hd], by simp, by simp, by simp, by simp⟩
    case nilmap.nilmap.map =>
      subst hx hy; cases hr
      have := ak_map hk; subst this
      exact ⟨by intro dp; simp [Op.equalIn, run_und w hd], by simp, by simp, by simp, by simp⟩
    case fn.nilfn.func =>
      obtain ⟨_, _, rfl, _⟩ := hx; subst hy; cases hr
      obtain ⟨_, _, _, rfl⟩ := ak_func hk
      exact ⟨by intro dp; simp [Op.equalIn, run_und w hd], by simp, by simp, by simp, by simp⟩
    case nilfn.fn.func =>
      obtain ⟨_, _, rfl, _⟩ := hy; subst hx; cases hr
      obtain ⟨_, _, _, rfl⟩ := ak_func hk
      exact ⟨by intro dp; simp [Op.equalIn, run_und w hd], by simp, by simp, by simp, by simp⟩
    case nilfn.nilfn.func =>
      subst hx hy; cases hr
      obtain ⟨_, _, _, rfl⟩ := ak_func hk
      exact ⟨by intro dp; simp [Op.equalIn, run_und w hd], by simp, by simp, by simp, by simp⟩
  split at h
  · rename_i ti hti
    obtain ⟨hf, h⟩ := bsel_some h
    obtain ⟨r, hr, h⟩ := obind_some h
    cases h
    obtain ⟨h1, h2, h3, h4, h5⟩ := key ti hti hf r hr
    refine ⟨.bool r, ?_, rfl⟩
    have e : binOp .eql t a b = (do pure (.bool (← Op.equal t a b))) := by
      cases a <;> first | rfl | (exact absurd rfl (h2 _ _)) | (exact absurd rfl (h3 _)) | (exact absurd rfl (h4 _ _)) | (exact absurd rfl (h5 _ _ _))
    have h1' : (Op.equal t a b).run P w = .ok r w := h1 9999
    rw [e]; simp [h1']
  · rename_i ti hti
    obtain ⟨hf, h⟩ := bsel_some h
    obtain ⟨r, hr, h⟩ := obind_some h
    cases h
    obtain ⟨h1, h2, h3, h4, h5⟩ := key ti hti hf r hr
    refine ⟨.bool (!r), ?_, rfl⟩
    have e : binOp .neq t a b = (do pure (.bool (!(← Op.equal t a b)))) := by
      cases a <;> first | rfl | (exact absurd rfl (h2 _ _)) | (exact absurd rfl (h3 _)) | (exact absurd rfl (h4 _ _)) | (exact absurd rfl (h5 _ _ _))
    have h1' : (Op.equal t a b).run P w = .ok r w := h1 9999
    rw [e]; simp [h1']
  · cases h

theorem geOp_run {op : BinOp} {t n : Nat} {k : IntKind} {a : Int} {c : TV} {b : Value} (w : World) (h : geOp op k a n = some c) (hy : CRel ρ (.ige n) b) :
    ∃ v, (binOp op t (.int k a) b).run P w = .ok v w ∧ TRel ρ c v := by
  obtain ⟨m, rfl, hm⟩ := hy
  unfold geOp at h
  split at h
  · split at h
    · rename_i hle
      cases h
      refine ⟨.bool false, ?_, rfl⟩
      have : ¬ (m : Int) < a := by have : (Int.ofNat n) = (n : Int) := rfl; omega
      simp [binOp, Op.intCmp, this]
    · cases h
  · cases h

theorem binCV_run (hE : EnvOk P E) {op : BinOp} {t : Nat} {x y : CV} {c : TV} {a b : Value} (w : World) (h : binCV E op t x y = some c) (hx : CRel ρ x a) (hy : CRel ρ y b) :
    ∃ v, (binOp op t a b).run P w = .ok v w ∧ TRel ρ c v := by
  unfold binCV at h
  split at h
  · cases hx; cases hy; exact intOp_run t w h
  · obtain ⟨s, rfl, rfl⟩ := hx; obtain ⟨s', rfl, rfl⟩ := hy; exact strOp_run t w h
  · cases hx; exact geOp_run w h hy
  · exact eqOp_run hE w h hx hy

theorem unop_run {op : UnOp} {x c : TV} {a : Value} (w : World) (h : unop op x = some c) (hx : TRel ρ x a) : ∃ v, (Op.unary op a).run P w = .ok v w ∧ TRel ρ c v := by
  unfold unop at h
  split at h
  · cases hx; cases h; exact ⟨_, by simp [Op.unary, Op.intArith], rfl⟩
  · cases hx
    rename_i k n
    obtain ⟨q, h1, h2⟩ := obind_some h; cases h2
    refine ⟨_, by simp [Op.unary, Op.intBits]; rfl, ?_⟩
    cases h1
    rfl
  · cases hx; cases h; exact ⟨_, by simp [Op.unary], rfl⟩
  · cases h
end Go.Abs
