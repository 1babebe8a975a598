/- The code of a function, and calls: what the abstract interpreter computes is what every run computes. -/
import Derived.Test.YtgdgknjhhgkabaaGreatDoorMStep
import Derived.LoopNIn
set_option linter.unusedVariables false
set_option linter.unusedSimpArgs false
namespace Go.Abs
variable {P : Program} {E : Env}

def ExRel : AX → Exit → Prop
  | .normal, .normal => True
  | .exit i, .exit j => i = j
  | .ret, .ret => True
  | _, _ => False
def CodePost (lo : Nat) (ρ : Rho) (st : St) (w : World) (x : AX) (f' : Fr) (st' : St) : Exit → Act → World → Prop := fun ex a' w' =>
  ExRel x ex ∧ ∃ ρ', FrOk ρ' f' a' ∧ Ext lo ρ st.h.get st.c w ρ' st'.h.get st'.c w'
theorem CodePost.trans {lo : Nat} {ρ ρ1 : Rho} {st st1 st' : St} {w w1 w' : World} {x : AX} {f' : Fr} {ex : Exit} {a' : Act} (m : StMod ρ st w) (e : Ext lo ρ st.h.get st.c w ρ1 st1.h.get st1.c w1)
    (h : CodePost lo ρ1 st1 w1 x f' st' ex a' w') : CodePost lo ρ st w x f' st' ex a' w' :=
  let ⟨h1, ρ', h2, h3⟩ := h; ⟨h1, ρ', h2, e.trans m h3⟩
def RdRel (ρ : Rho) : Option Nat → Option Nat → Prop
  | none, r => r = none
  | some l, r => ∃ b z, ρ l = some (b, z) ∧ r = some b
theorem RdRel.mono {ρ ρ' : Rho} (l : Le ρ ρ') {rd r : Option Nat} (h : RdRel ρ rd r) : RdRel ρ' rd r := by
  cases rd with
  | none => exact h
  | some _ => obtain ⟨b, z, h1, h2⟩ := h; exact ⟨b, z, l _ _ h1, h2⟩

abbrev CodeF := Nat → Option Nat → Code → Fr → St → RC
def CodeSound (P : Program) (code : CodeF) : Prop :=
  ∀ {lo rd c f st x f' st' ρ w a r}, code lo rd c f st = some (x, f', st') → StMod ρ st w → lo ≤ st.c → GlobOk ρ → FrOk ρ f a → RdRel ρ rd r → c.wpIn (Fw r) 0 P (CodePost lo ρ st w x f' st') a w
def LoopSound (P : Program) (n : Nat) (code : CodeF) : Prop :=
  ∀ {lo rd b f st x f' st' ρ w a r}, code lo rd (.loop b) f st = some (x, f', st') → StMod ρ st w → lo ≤ st.c → GlobOk ρ → FrOk ρ f a → RdRel ρ rd r → Code.roundsIn (Fw r) 0 P b (CodePost lo ρ st w x f' st') n a w
/-- of a region that draws -/
def DrawSound (P : Program) (E : Env) : Prop :=
  ∀ {e : Ev} {lo : Nat} {ops : Array Oper} {id f st x f' st' ρ w a r}, CallSound P e.call → YieldSound P e.yield → cDraw E e lo ops.toList f st = some (x, f', st') → StMod ρ st w → lo ≤ st.c → GlobOk ρ → FrOk ρ f a →
    (Code.region id ops true).wpIn (Fw r) 0 P (CodePost lo ρ st w x f' st') a w

theorem roundsIn_mono {F : Fence} {n : Nat} {b : Code} {Q Q' : Exit → Act → World → Prop} (h : ∀ e a w, Q e a w → Q' e a w) : ∀ (m : Nat) {a : Act} {w : World}, Code.roundsIn F n P b Q m a w → Code.roundsIn F n P b Q' m a w
  | 0, _, _, q => q
  | m + 1, a, w, q => by
    rw [roundsIn_succ] at q ⊢
    refine wpIn_mono q fun e a w q => ?_
    cases e <;> first | exact roundsIn_mono h m q | exact h _ _ _ q

theorem stepR_scope {b : Frame} {a : Act} {k : List Item} {cs : List Frame} {w : World} {c : Code} : step P (lone (b.atR a (.code (.scope c) :: k)) cs w) = .next (lone (b.atR a (.code c :: .inScope c :: k)) cs w) :=
  step_lone_go (by simp [stepG, stepG.exec, Frame.atR])
theorem stepR_inScope {b : Frame} {a : Act} {k : List Item} {cs : List Frame} {w : World} {c : Code} : step P (lone (b.atR a (.inScope c :: k)) cs w) = .next (lone (b.atR a k) cs w) :=
  step_lone_go (by simp [stepG, stepG.exec, Frame.atR])
/-- a scope through which the run goes without a goto -/
theorem wpIn_scope {F : Fence} {n : Nat} {c : Code} {Q : Exit → Act → World → Prop} {a : Act} {w : World} (hq : ∀ l a w, ¬ Q (.goto l) a w) (h : c.wpIn F n P Q a w) : (Code.scope c).wpIn F n P Q a w := by
  intro b k cs hro hb hr
  have h0 : (lone (b.atR a (.code (.scope c) :: k)) cs w).fenced P F := fenced_calm hb hr rfl
  obtain ⟨e, a₁, w₁, q, harr⟩ := h b (.inScope c :: k) cs hro hb hr
  cases e with
  | normal => exact ⟨.normal, a₁, w₁, q, .head h0 stepR_scope (StepsIn.trans harr (.one (fenced_calm (fr := b.atR a₁ (.inScope c :: k)) hb hr rfl) stepR_inScope))⟩
  | exit id => exact ⟨_, a₁, w₁, q, fun k' hk => .head h0 stepR_scope (harr.1 k' (by simp [exitTo, hk])), fun hr hk => let ⟨k₁, h1, h2⟩ := harr.2 hr (by simp [exitTo, hk]); ⟨k₁, h1, .head h0 stepR_scope h2⟩⟩
  | goto l => exact absurd q (hq l _ _)
  | ret => exact ⟨_, a₁, w₁, q, ArrivesIn.of_steps (.one h0 stepR_scope) (e := .ret) harr⟩
  | panic ch => exact ⟨_, a₁, w₁, q, ArrivesIn.of_steps (.one h0 stepR_scope) (e := .panic ch) harr⟩
  | outgrown => exact ⟨_, a₁, w₁, q, ArrivesIn.of_steps (.one h0 stepR_scope) (e := .outgrown) harr⟩

/-- one code behind another -/
theorem cSeq_ok {e : Ev} {lo : Nat} {rd r : Option Nat} {c1 c2 : Code} {f f' : Fr} {st st' : St} {x : AX} {ρ : Rho} {w : World} {a : Act} (hcode : CodeSound P e.code) (h : cSeq e lo rd c2 (e.code lo rd c1 f st) = some (x, f', st'))
    (m : StMod ρ st w) (hlo : lo ≤ st.c) (hg : GlobOk ρ) (hf : FrOk ρ f a) (hrd : RdRel ρ rd r) (N : Act → World → Prop)
    (hN : ∀ f1 st1 ρ1 a1 w1, e.code lo rd c2 f1 st1 = some (x, f', st') → StMod ρ1 st1 w1 → lo ≤ st1.c → GlobOk ρ1 → FrOk ρ1 f1 a1 → RdRel ρ1 rd r → Ext lo ρ st.h.get st.c w ρ1 st1.h.get st1.c w1 → N a1 w1) :
    c1.wpIn (Fw r) 0 P (Exit.then N (CodePost lo ρ st w x f' st')) a w := by
  unfold cSeq at h
  split at h
  · rename_i f1 st1 hr
    refine wpIn_mono (hcode hr m hlo hg hf hrd) fun ex a1 w1 hp => ?_
    obtain ⟨h1, ρ1, h2, h3⟩ := hp
    have hle := h3.le m
    cases ex <;> simp only [ExRel] at h1
    exact hN _ _ _ _ _ h h3.mod (Nat.le_trans hlo h3.cc) (hg.mono hle) h2 (hrd.mono hle) h3
  · rename_i hne
    refine wpIn_mono (hcode h m hlo hg hf hrd) fun ex a1 w1 hp => ?_
    cases ex with
    | normal =>
      obtain ⟨h1, _⟩ := hp
      cases x <;> simp only [ExRel] at h1
      exact (hne _ _ h).elim
    | _ => exact hp

theorem sCode_ok (hP : ProgOk P E) (hD : DrawSound P E) {n : Nat} {e : Ev} (hC : CallSound P e.call) (hcode : CodeSound P e.code) (hloop : LoopSound P n e.code) (hY : YieldSound P e.yield)
    (hrange : ∀ {lo rd g ps as bd f st x f' st' ρ w a r}, cRange E e lo rd g ps.toList as bd f st = some (x, f', st') → StMod ρ st w → lo ≤ st.c → GlobOk ρ → FrOk ρ f a → RdRel ρ rd r → (Code.rangeFunc g ps as bd).wpIn (Fw r) 0 P (CodePost lo ρ st w x f' st') a w) :
    CodeSound P (sCode E e) ∧ LoopSound P (n + 1) (sCode E e) := by
  have hl : LoopSound P (n + 1) (sCode E e) := by
    intro lo rd b f st x f' st' ρ w a r h m hlo hg hf hrd
    rw [roundsIn_succ]
    exact cSeq_ok (e := e) hcode h m hlo hg hf hrd _ fun f1 st1 ρ1 a1 w1 h1 m1 hlo1 hg1 hf1 hrd1 hext =>
      roundsIn_mono (fun ex a2 w2 q => q.trans m hext) n (hloop h1 m1 hlo1 hg1 hf1 hrd1)
  refine ⟨?_, hl⟩
  intro lo rd c f st x f' st' ρ w a r h m hlo hg hf hrd
  cases c with
  | skip => cases h; exact wpIn_skip ⟨trivial, ρ, hf, Ext.refl m⟩
  | label l => cases h; exact wpIn_label ⟨trivial, ρ, hf, Ext.refl m⟩
  | ret => cases h; exact wpIn_ret ⟨trivial, ρ, hf, Ext.refl m⟩
  | exit id => cases h; exact wpIn_exit ⟨rfl, ρ, hf, Ext.refl m⟩
  | seq c1 c2 =>
    exact wpIn_seq (cSeq_ok (e := e) hcode h m hlo hg hf hrd _ fun f1 st1 ρ1 a1 w1 h1 m1 hlo1 hg1 hf1 hrd1 hext =>
      wpIn_mono (hcode h1 m1 hlo1 hg1 hf1 hrd1) fun ex a2 w2 q => q.trans m hext)
  | cond o c1 c2 =>
    replace h : cCond e lo rd (eval f.regs o) c1 c2 f st = some (x, f', st') := h
    unfold cCond at h
    split at h
    · rename_i t ht
      have hv : a.eval o = .bool t := eval_rel hg hf _ _ ht
      refine wpIn_cond hv ?_
      cases t with
      | true => exact hcode h m hlo hg hf hrd
      | false => exact hcode h m hlo hg hf hrd
    · cases h
  | block id c1 =>
    replace h : cBlock id (e.code lo rd c1 f st) = some (x, f', st') := h
    refine wpIn_block ?_
    unfold cBlock at h
    split at h
    · rename_i id' f1 st1 hr
      rw [bsel_eq] at h
      refine wpIn_mono (hcode hr m hlo hg hf hrd) fun ex a1 w1 hp => ?_
      obtain ⟨h1, h2⟩ := hp
      cases ex <;> simp only [ExRel] at h1
      subst h1
      split at h
      · rename_i he
        have := Nat.eq_of_beq_eq_true he; subst this
        cases h
        simp only [Exit.inBlock, if_true]
        exact ⟨trivial, h2⟩
      · rename_i he
        cases h
        have hne : ¬ id' = id := fun q => he (by rw [q]; exact Nat.beq_refl _)
        simp only [Exit.inBlock, if_neg hne]
        exact ⟨rfl, h2⟩
    · rename_i hne
      refine wpIn_mono (hcode h m hlo hg hf hrd) fun ex a1 w1 hp => ?_
      cases ex with
      | exit j =>
        obtain ⟨h1, _⟩ := hp
        cases x <;> simp only [ExRel] at h1
        exact (hne _ _ _ h).elim
      | _ => exact hp
  | loop b => exact wpIn_loop_rounds (n + 1) (hl h m hlo hg hf hrd)
  | scope c1 =>
    refine wpIn_scope (fun l a w q => ?_) (hcode h m hlo hg hf hrd)
    obtain ⟨h1, _⟩ := q
    cases x <;> exact h1
  | region id ops dr =>
    replace h : bsel dr (cDraw E e lo ops.toList f st) (cOps (seqOps E e lo ops.toList ops.toList f st)) = some (x, f', st') := h
    cases dr with
    | true => exact hD hC hY h m hlo hg hf
    | false =>
      rw [bsel_false] at h
      obtain ⟨f1, st1, h1, h2⟩ := ob2_some (show ob2 (seqOps E e lo ops.toList ops.toList f st) (fun f st => some (AX.normal, f.flush, st)) = some (x, f', st') from h)
      cases h2
      exact wpIn_region_list (seqOps_ok hP hC hY r ops.toList h1 m hlo hg hf fun ρ1 a1 w1 hf1 hext => ⟨trivial, ρ1, hf1.flush, hext⟩)
  | rangeFunc g ps as bd => exact hrange h m hlo hg hf hrd
  | goto l => cases h
  | refuse w => cases h
end Go.Abs
