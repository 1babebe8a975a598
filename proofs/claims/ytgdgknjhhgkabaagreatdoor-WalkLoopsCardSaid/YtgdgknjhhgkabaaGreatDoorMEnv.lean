/- By gen_env.py: the program's tables, the two package-level variables, and that they are told truly. -/
import Derived.Test.YtgdgknjhhgkabaaGreatDoorMMemo
import Derived.Test.YtgdgknjhhgkabaaGreatDoorMTab
import Derived.KernelRfl
import Derived.Laws.Externs
set_option linter.unusedVariables false
set_option linter.unusedSimpArgs false
namespace Go.Abs.Tryz
open Go.Abs Go.Proofs
set_option maxRecDepth 1000000
noncomputable def nats (k : IntKind) (l : List Nat) : List CV := mapC (fun n => .int k (Int.ofNat n)) l
def kList : List Nat := [1116352408, 1899447441, 3049323471, 3921009573, 961987163, 1508970993, 2453635748, 2870763221, 3624381080, 310598401, 607225278, 1426881987, 1925078388, 2162078206, 2614888103, 3248222580, 3835390401, 4022224774, 264347078, 604807628, 770255983, 1249150122, 1555081692, 1996064986, 2554220882, 2821834349, 2952996808, 3210313671, 3336571891, 3584528711, 113926993, 338241895, 666307205, 773529912, 1294757372, 1396182291, 1695183700, 1986661051, 2177026350, 2456956037, 2730485921, 2820302411, 3259730800, 3345764771, 3516065817, 3600352804, 4094571909, 275423344, 430227734, 506948616, 659060556, 883997877, 958139571, 1322822218, 1537002063, 1747873779, 1955562222, 2024104815, 2227730452, 2361852424, 2428436474, 2756734187, 3204031479, 3329325298]
def qList : List Nat := [0, 4, 8, 12, 1, 5, 9, 13, 2, 6, 10, 14, 3, 7, 11, 15, 0, 5, 10, 15, 1, 6, 11, 12, 2, 7, 8, 13, 3, 4, 9, 14]
noncomputable def kdata : List CV := nats .u32 kList
noncomputable def qdata : List CV := nats .i64 qList
noncomputable def idx (b : Nat) (l : List Nat) : Nat → Int := List.rec (fun _ => -1) (fun x _ ih i => bsel (Nat.beq x b) (Int.ofNat i) (ih (Nat.succ i))) l
noncomputable def indexG (l : List TV) : Option TV :=
  match l with
  | [.one (.str s), .one (.int .u8 (.ofNat b))] => bsel (Nat.blt b 256) (mk1 (.int .i64 (idx b s 0))) none
  | _ => none
noncomputable def ext (f : Nat) : Option (List TV → Option TV) := bsel (Nat.beq f 224) (some indexG) none
noncomputable def mkE (sums : Nat → Option (Nat → List TV → St → Option (TV × St))) : Env := { types := tyOf Tryz.prog, fns := fnOf Tryz.prog escL, ext := ext, sums := sums }

theorem idx_eq (c : UInt8) : ∀ (l : List UInt8) (k : Nat), idx c.toNat (l.map UInt8.toNat) k = match (List.range l.length).find? (fun i => l[i]! == c) with | some i => (k : Int) + i | none => -1 := by
  intro l
  induction l with
  | nil => intro k; rfl
  | cons x l ih =>
    intro k
    have e : idx c.toNat ((x :: l).map UInt8.toNat) k = bsel (Nat.beq x.toNat c.toNat) (Int.ofNat k) (idx c.toNat (l.map UInt8.toNat) (k + 1)) := rfl
    rw [e, ih, List.length_cons, List.range_succ_eq_map, List.find?_cons]
    by_cases h : x = c
    · subst h
      rw [Nat.beq_refl]; simp
    · have h1 : Nat.beq x.toNat c.toNat = false := by
        cases hb : Nat.beq x.toNat c.toNat with
        | true => exact absurd (UInt8.toNat_inj.1 (Nat.eq_of_beq_eq_true hb)) h
        | false => rfl
      have h2 : ((x :: l)[0]! == c) = false := by simp [h]
      rw [h1, h2, bsel_false, List.find?_map]
      have h3 : ((fun i => (x :: l)[i]! == c) ∘ Nat.succ) = fun i => l[i]! == c := by funext i; simp
      rw [h3]
      cases (List.range l.length).find? (fun i => l[i]! == c) with
      | none => rfl
      | some i => show ((k + 1 : Nat) : Int) + (i : Int) = (k : Int) + ((i + 1 : Nat) : Int); omega
theorem size_toList (a : ByteArray) : a.data.toList.length = a.size := by rw [Array.length_toList]; rfl
theorem get_toList (a : ByteArray) (i : Nat) : a.data.toList[i]! = a[i]! := by
  by_cases hi : i < a.size
  · rw [getElem!_pos a i hi, getElem!_pos a.data.toList i (by rw [size_toList]; exact hi)]; rfl
  · rw [getElem!_neg a i hi, getElem!_neg a.data.toList i (by rw [size_toList]; exact hi)]
theorem idx_first (a : ByteArray) (b : Nat) (hb : b < 256) : idx b (a.data.toList.map UInt8.toNat) 0 = firstIdx a (Int.ofNat b).toNat.toUInt8 := by
  have hc : (Int.ofNat b).toNat.toUInt8.toNat = b := by
    show (Nat.toUInt8 b).toNat = b
    rw [Nat.toUInt8, UInt8.toNat_ofNat']
    exact Nat.mod_eq_of_lt hb
  have := idx_eq (Int.ofNat b).toNat.toUInt8 a.data.toList 0
  rw [hc] at this
  rw [this, size_toList]
  unfold firstIdx
  have e : (fun i : Nat => a.data.toList[i]! == (Int.ofNat b).toNat.toUInt8) = fun i : Nat => a[i]! == (Int.ofNat b).toNat.toUInt8 := by funext i; rw [get_toList]
  rw [e]
  cases (List.range a.size).find? (fun i : Nat => a[i]! == (Int.ofNat b).toNat.toUInt8) <;> simp

theorem fnOf_ok {P : Program} {esc : List Nat} {f : Nat} {fn : AFn} (h : fnOf P esc f = some fn) : ∃ g, P.funcs[f]? = some g ∧ g.body = some fn.body ∧ g.ntmps = fn.n ∧ g.results.toList = fn.results := by
  obtain ⟨g, h1, h2⟩ := obind_some h
  obtain ⟨c, h3, h4⟩ := obind_some h2
  cases h4
  exact ⟨g, h1, h3, rfl, rfl⟩
theorem allNames : (Tryz.prog.funcs.toList.all fun fn => !(fn.name == "runtime.NumGoroutine")) = true := by kernel_rfl
theorem fnIndex : (Tryz.prog.funcs[224]?).map (fun fn => (fn.name == "runtime.NumGoroutine", fn.body.isNone)) = some (false, true) := by kernel_rfl
theorem progOk (sums : Nat → Option (Nat → List TV → St → Option (TV × St))) : ProgOk Tryz.prog (mkE sums) where
  env := ⟨fun t ti h => tyOf_ok h, fun f fn h => fnOf_ok h⟩
  mixed := by kernel_rfl
  num := fun f fn h => by
    have hm : fn ∈ Tryz.prog.funcs.toList := List.mem_of_getElem? (by rw [Array.getElem?_toList]; exact h)
    simpa using List.all_eq_true.1 allNames fn hm
  ext := fun f g h => by
    intro args v ρ w vs hv hr
    obtain ⟨h1, h2⟩ := bsel_some (show bsel (Nat.beq f 224) (some indexG) none = some g from h)
    cases h2
    have := Nat.eq_of_beq_eq_true h1; subst this
    unfold indexG at hv
    split at hv
    · rename_i s b
      obtain ⟨h3, h4⟩ := bsel_some hv
      cases h4
      have h3 := blt_lt h3
      obtain ⟨y, ys, e1, ⟨a, rfl, ha⟩, y2, ys2, e2, rfl, e3⟩ := hr
      have e3 : ys2 = [] := e3
      subst e3
      have has : vs = #[.string a, .int .u8 (Int.ofNat b)] := by apply Array.ext'; rw [e1, e2]
      subst has
      cases hf : Tryz.prog.funcs[224]? with
      | none => have := fnIndex; rw [hf] at this; cases this
      | some fn =>
        have hi := fnIndex
        rw [hf] at hi
        simp only [Option.map_some, Option.some.injEq, Prod.mk.injEq] at hi
        have q1 : (Tryz.prog.funcs[224]?).map (fun fn => (Extern.findNext fn).isNone) = some true := by kernel_rfl
        have q2 : (Tryz.prog.funcs[224]?).map Extern.find = some (some Extern.BytealgIndexByte.indexByte) := by kernel_rfl
        rw [hf] at q1 q2
        simp only [Option.map_some, Option.some.injEq, Option.isNone_iff_eq_none] at q1 q2
        refine ⟨_, ?_, rfl⟩
        rw [run_callFunc_extern hf hi.1 hi.2 q1 q2, run_indexByte_string, Result.andThen_ok, ← ha, idx_first a b h3]
    · cases hv

/-! ### The start -/
/-- the small heap that the facts on single calls are told on -/
noncomputable def hs (e1 e2 : Nat) (o : AO) : T AO := hc (.cells kdata 64 e1 true false) (.cells qdata 32 e2 true false) o
noncomputable def E0 : Env := mkE fun _ => none
theorem sound0 : CallSound Tryz.prog (run E0 100000).call := (run_sound (progOk _) (fun f g h => by cases h) (draw_sound (progOk _)) 100000).call
end Go.Abs.Tryz
