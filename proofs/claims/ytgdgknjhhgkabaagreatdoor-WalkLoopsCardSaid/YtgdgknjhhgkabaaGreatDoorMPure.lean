/- The operations that hang on their operands alone: what the interpreter gives is what the model gives. -/
import Derived.Test.YtgdgknjhhgkabaaGreatDoorMExt
import Derived.Laws.Sem
import Derived.Laws.Strings
set_option linter.unusedVariables false
set_option linter.unusedSimpArgs false
namespace Go.Abs
variable {P : Program} {E : Env} {ρ : Rho}

theorem optAll_map {α β : Type} {f : α → Option β} : ∀ {l : List α} {r : List β}, optAll f l = some r → r.length = l.length ∧ ∀ (i : Nat) (x : α), l[i]? = some x → ∃ y, r[i]? = some y ∧ f x = some y
  | [], r, h => by have := optAll_nil h; subst this; exact ⟨rfl, fun i x hx => by simp at hx⟩
  | x :: xs, r, h => by
    obtain ⟨y, ys, hy, hs, e⟩ := optAll_cons h
    subst e
    obtain ⟨hl, hg⟩ := optAll_map hs
    refine ⟨by simp [hl], fun i z hz => ?_⟩
    cases i with
    | zero => simp at hz; subst hz; exact ⟨y, rfl, hy⟩
    | succ i => simpa using hg i z (by simpa using hz)

theorem ofValueC_rel {v : Value} {c : CV} (h : ofValueC v = some c) : CRel ρ c v := by
  unfold ofValueC at h
  split at h <;> first | (cases h; rfl) | skip
  · cases h; exact ⟨_, rfl, by rw [mapC_eq]⟩
  · cases h
theorem ofValue_rel {v : Value} {c : TV} (h : ofValue v = some c) : TRel ρ c v := by
  unfold ofValue at h
  split at h
  · rename_i a0
    obtain ⟨l, hl, e⟩ := obind_some h
    cases e
    obtain ⟨h1, h2⟩ := optAll_map hl
    exact ⟨_, rfl, LRel.of_get h1.symm fun i x hx => by
      have hi : i < l.length := (List.getElem?_eq_some_iff.1 hx).1
      obtain ⟨y, hy⟩ : ∃ y, a0.toList[i]? = some y := ⟨_, List.getElem?_eq_getElem (by omega)⟩
      obtain ⟨z, hz, hc⟩ := h2 i y hy
      rw [hx] at hz; cases hz
      exact ⟨y, hy, ofValueC_rel hc⟩⟩
  · rename_i a0
    split at h
    · rename_i e; cases h; exact ⟨a0, rfl, e⟩
    · cases h
  · obtain ⟨l, hl, e⟩ := obind_some h
    cases e
    exact ofValueC_rel hl

/-- what a row of the table says of the program -/
structure TyOk (P : Program) (t : Nat) (ti : TI) : Prop where
  ex : ∃ i d z, P.info? t = some i ∧ P.underlying t = some d ∧ i.zero = some z ∧ akOf P d = some ti.k ∧ i.size = ti.size ∧ i.bytes = ti.bytes ∧
    (∀ ρ, PtRel ρ (ti.zagg, ti.zero) z) ∧ ti.zero.length = ti.size
theorem tyOf_ok {t : Nat} {ti : TI} (h : tyOf P t = some ti) : TyOk P t ti := by
  unfold tyOf at h
  obtain ⟨i, hi, h⟩ := obind_some h
  obtain ⟨d, hd, h⟩ := obind_some h
  obtain ⟨z, hz, h⟩ := obind_some h
  obtain ⟨b, l, hb, h⟩ := ob2_some h
  obtain ⟨k, hk, h⟩ := obind_some h
  obtain ⟨hs, h⟩ := bsel_some h
  cases h
  obtain ⟨tv, h1, h2⟩ := obind_some hb
  exact ⟨⟨i, d, z, hi, hd, hz, hk, rfl, rfl, fun ρ => (ofValue_rel h1).part h2, by have := Nat.eq_of_beq_eq_true hs; rw [lenC_eq] at this; exact this⟩⟩

structure EnvOk (P : Program) (E : Env) : Prop where
  types : ∀ t ti, E.types t = some ti → TyOk P t ti
  fns : ∀ f fn, E.fns f = some fn → ∃ g, P.funcs[f]? = some g ∧ g.body = some fn.body ∧ g.ntmps = fn.n ∧ g.results.toList = fn.results

section
variable (w : World)
theorem run_und {t : Nat} {d : TypeDesc} (h : P.underlying t = some d) : (underlying t).run P w = .ok d w := by simp [underlying, h]
theorem run_info {t : Nat} {i : TypeInfo} (h : P.info? t = some i) : (typeInfo t).run P w = .ok i w := by simp [typeInfo, h]
theorem run_size {t : Nat} {i : TypeInfo} (h : P.info? t = some i) : (Go.sizeOf t).run P w = .ok i.size w := by simp [Go.sizeOf, run_info w h]
theorem run_zero {t : Nat} {i : TypeInfo} {z : Value} (h : P.info? t = some i) (hz : i.zero = some z) : (zeroValue t).run P w = .ok z w := by simp [zeroValue, run_info w h, hz]
end

/-- the kinds back -/
theorem ak_int {d : TypeDesc} {k : IntKind} (h : akOf P d = some (.int k)) : d = .int k := by
  cases d <;> simp [akOf] at h
  · exact congrArg _ h
  · obtain ⟨_, _, h⟩ := obind_some h; cases h
theorem ak_bool {d : TypeDesc} (h : akOf P d = some .bool) : d = .bool := by
  cases d <;> simp [akOf] at h
  · rfl
  · obtain ⟨_, _, h⟩ := obind_some h; cases h
theorem ak_str {d : TypeDesc} (h : akOf P d = some .str) : d = .string := by
  cases d <;> simp [akOf] at h
  · rfl
  · obtain ⟨_, _, h⟩ := obind_some h; cases h
theorem ak_ptr {d : TypeDesc} {e : Nat} (h : akOf P d = some (.ptr e)) : d = .pointer e := by
  cases d <;> simp [akOf] at h
  · exact congrArg _ h
  · obtain ⟨_, _, h⟩ := obind_some h; cases h
theorem ak_sl {d : TypeDesc} {e : Nat} (h : akOf P d = some (.sl e)) : d = .slice e := by
  cases d <;> simp [akOf] at h
  · exact congrArg _ h
  · obtain ⟨_, _, h⟩ := obind_some h; cases h
theorem ak_arr {d : TypeDesc} {n e : Nat} (h : akOf P d = some (.arr n e)) : d = .array n e := by
  cases d <;> simp [akOf] at h
  · obtain ⟨rfl, rfl⟩ := h; rfl
  · obtain ⟨_, _, h⟩ := obind_some h; cases h
theorem ak_map {d : TypeDesc} {n e : Nat} (h : akOf P d = some (.map n e)) : d = .map n e := by
  cases d <;> simp [akOf] at h
  · obtain ⟨rfl, rfl⟩ := h; rfl
  · obtain ⟨_, _, h⟩ := obind_some h; cases h
theorem ak_func {d : TypeDesc} (h : akOf P d = some .func) : ∃ a b c, d = .func a b c := by
  cases d <;> simp [akOf] at h
  · obtain ⟨_, _, h⟩ := obind_some h; cases h
  · exact ⟨_, _, _, rfl⟩
theorem ak_struct {d : TypeDesc} {fs : List (Nat × Nat × Nat)} (h : akOf P d = some (.struct fs)) : ∃ a : Array Field, d = .struct a ∧ fs.length = a.size ∧
    ∀ (i : Nat) (f : Field), a[i]? = some f → ∃ inf, P.info? f.type = some inf ∧ fs[i]? = some (f.type, f.offset, inf.size) := by
  cases d <;> simp [akOf] at h
  rename_i a
  obtain ⟨l, hl, h⟩ := obind_some h
  cases h
  obtain ⟨h1, h2⟩ := optAll_map hl
  refine ⟨a, rfl, by simpa using h1, fun i f hf => ?_⟩
  obtain ⟨y, hy, hq⟩ := h2 i f (by simpa using hf)
  obtain ⟨inf, hi, e⟩ := obind_some hq
  cases e
  exact ⟨inf, hi, hy⟩

abbrev EvRel (ρ : Rho) (ev : Operand → Option TV) (σ : Operand → Value) : Prop := ∀ x v, ev x = some v → TRel ρ v (σ x)

theorem one_int {k : IntKind} {n : Int} {v : Value} (r : TRel ρ (.one (.int k n)) v) : v = .int k n := r

/-! ### Numbers -/
theorem asNat_rel {x : TV} {n : Nat} {v : Value} (h : asNat x = some n) (r : TRel ρ x v) : ∃ k, v = .int k n := by
  unfold asNat at h
  split at h
  · cases h; exact ⟨_, r⟩
  · cases h

theorem intBin_run {op : BinOp} {k : IntKind} {x y : Int} {c : CV} (t : Nat) (w : World) (h : intBin op k x y = some c) (hs : op ≠ .shl ∧ op ≠ .shr) :
    ∃ v, (binOp op t (.int k x) (.int k y)).run P w = .ok v w ∧ CRel ρ c v := by
  cases op <;> simp only [intBin] at h
  case shl => cases h
  case shr => cases h
  case eql =>
    cases h
    refine ⟨.bool (x == y), by simp [binOp, Op.intCmp], congrArg Value.bool (Bool.eq_iff_iff.2 ?_)⟩
    simp
  case neq =>
    cases h
    refine ⟨.bool (x != y), by simp [binOp, Op.intCmp], congrArg Value.bool (Bool.eq_iff_iff.2 ?_)⟩
    simp [bne]
  case quo =>
    split at h
    · cases h
    · rename_i hy; cases h; exact ⟨_, by simp [binOp, Op.intDiv, hy], rfl⟩
  case rem =>
    split at h
    · cases h
    · rename_i hy; cases h; exact ⟨_, by simp [binOp, Op.intDiv, hy], rfl⟩
  all_goals (cases h; exact ⟨_, by simp [binOp, Op.intArith, Op.intBits, Op.intCmp], rfl⟩)

theorem shiftBin_run {op : BinOp} {k k' : IntKind} {x y : Int} {c : CV} (t : Nat) (w : World) (h : shiftBin op k x y = some c) :
    ∃ v, (binOp op t (.int k x) (.int k' y)).run P w = .ok v w ∧ CRel ρ c v := by
  unfold shiftBin at h
  split at h
  · cases h
  · rename_i hy
    cases op <;> simp only [] at h <;> first
      | (cases h; done)
      | (cases h; exact ⟨_, by simp [binOp, Op.shift, hy], rfl⟩)
theorem mk1_some {c : CV} {x : TV} (h : mk1 c = some x) : x = .one c := by cases h; rfl
theorem intOp_run {op : BinOp} {k k' : IntKind} {x y : Int} {c : TV} (t : Nat) (w : World) (h : intOp op k x k' y = some c) :
    ∃ v, (binOp op t (.int k x) (.int k' y)).run P w = .ok v w ∧ TRel ρ c v := by
  unfold intOp at h
  split at h
  · obtain ⟨q, h1, h2⟩ := obind_some h; cases h2; exact shiftBin_run t w h1
  · obtain ⟨q, h1, h2⟩ := obind_some h; cases h2; exact shiftBin_run t w h1
  · rename_i h1 h2
    split at h
    · rename_i e; subst e
      obtain ⟨q, h3, h4⟩ := obind_some h; cases h4
      exact intBin_run t w h3 ⟨h1, h2⟩
    · cases h
theorem eqL_eq (a : List Nat) : ∀ b, eqL a b = decide (a = b) := by
  induction a with
  | nil => intro b; cases b <;> rfl
  | cons x xs ih =>
    intro b
    cases b with
    | nil => rfl
    | cons y ys =>
      show bsel (Nat.beq x y) (eqL xs ys) false = _
      rw [ih, bsel_eq]
      by_cases e : x = y
      · subst e; simp
      · rw [if_neg (by intro h; exact e (Nat.eq_of_beq_eq_true h))]; simp [e]
theorem bytes_inj {a b : ByteArray} (h : a.data.toList.map UInt8.toNat = b.data.toList.map UInt8.toNat) : a = b := by
  have e : a.data.toList = b.data.toList := by
    have inj : Function.Injective UInt8.toNat := fun x y h => UInt8.toNat_inj.1 h
    exact (List.map_inj_right (fun _ _ h => inj h)).1 h
  cases a; cases b
  simp only [ByteArray.mk.injEq]
  exact Array.toList_inj.1 e
theorem strOp_run {op : BinOp} {a b : ByteArray} {c : TV} (t : Nat) (w : World) (h : strOp op (a.data.toList.map UInt8.toNat) (b.data.toList.map UInt8.toNat) = some c) :
    ∃ v, (binOp op t (.string a) (.string b)).run P w = .ok v w ∧ TRel ρ c v := by
  have eqs : (a.toList == b.toList) = decide (a.data.toList.map UInt8.toNat = b.data.toList.map UInt8.toNat) := by
    rw [Bool.eq_iff_iff]
    simp only [beq_iff_eq, decide_eq_true_eq]
    constructor
    · intro h; rw [ByteArray.toList_eq, ByteArray.toList_eq] at h; rw [h]
    · intro h; rw [bytes_inj h]
  cases op <;> simp only [strOp] at h <;> first | (cases h; done) | skip
  · obtain ⟨h1, h2⟩ := bsel_some h
    cases h2
    have hl : a.size + b.size ≤ 9223372036854775807 := by
      have := Nat.le_of_ble_eq_true h1
      simpa [lenC_eq] using this
    have hm : IntKind.i64.max = 9223372036854775807 := rfl
    refine ⟨.string (a ++ b), ?_, ⟨_, rfl, by rw [appC_eq]; simp⟩⟩
    simp only [binOp, Op.stringOp, hm]
    rw [if_neg (by omega)]
    rfl
  · cases h; exact ⟨.bool (a.toList == b.toList), by simp [binOp, Op.stringOp], by rw [eqL_eq]; exact congrArg Value.bool eqs⟩
  · cases h; exact ⟨.bool (!(a.toList == b.toList)), by simp [binOp, Op.stringOp], by rw [eqL_eq]; exact congrArg (fun x => Value.bool (!x)) eqs⟩
end Go.Abs
