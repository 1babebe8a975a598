/- An abstract interpreter of the model's code: definitions only. Its soundness is proved in the texts that follow. Recursions go by the recursors themselves and cases stand in small functions of their own, because the kernel is to run it. -/
import Derived.RangeFuncLeaves
import Derived.OrdersIn
import Derived.TacticsIn
set_option linter.unusedVariables false
set_option linter.unusedSimpArgs false
namespace Go.Abs

section basics
variable {α β : Type}
noncomputable def bsel (b : Bool) (x y : α) : α := Bool.rec y x b

/-! ### Lists -/
noncomputable def nthC (l : List α) : Nat → Option α :=
  List.rec (fun _ => none) (fun x _ ih n => Nat.rec (some x) (fun m _ => ih m) n) l
noncomputable def setC (l : List α) : Nat → α → List α :=
  List.rec (fun _ _ => []) (fun x xs ih n v => Nat.rec (v :: xs) (fun m _ => x :: ih m v) n) l
noncomputable def takeC (n : Nat) : List α → List α :=
  Nat.rec (fun _ => []) (fun _ ih l => List.rec [] (fun x xs _ => x :: ih xs) l) n
noncomputable def dropC (n : Nat) : List α → List α :=
  Nat.rec (fun l => l) (fun _ ih l => List.rec [] (fun _ xs _ => ih xs) l) n
noncomputable def splice (l : List α) : Nat → List α → List α :=
  List.rec (fun _ _ => []) (fun x xs ih n ys => Nat.rec (List.rec (x :: xs) (fun y ys' _ => y :: ih 0 ys') ys) (fun m _ => x :: ih m ys) n) l
noncomputable def lenC (l : List α) : Nat := List.rec 0 (fun _ _ ih => Nat.succ ih) l
noncomputable def appC (l m : List α) : List α := List.rec m (fun x _ ih => x :: ih) l
noncomputable def mapC (f : α → β) (l : List α) : List β := List.rec [] (fun x _ ih => f x :: ih) l
noncomputable def optCons (x : Option β) (l : Option (List β)) : Option (List β) :=
  Option.rec none (fun y => Option.rec none (fun ys => some (y :: ys)) l) x
noncomputable def optAll (f : α → Option β) (l : List α) : Option (List β) := List.rec (some []) (fun x _ ih => optCons (f x) ih) l
noncomputable def obind (x : Option α) (f : α → Option β) : Option β := Option.rec none f x
variable {γ δ : Type}
/-- pairs are taken apart by their recursor: a projection that waits would be done again and again -/
noncomputable def ob2 (x : Option (α × β)) (k : α → β → Option γ) : Option γ := Option.rec none (fun p => Prod.rec k p) x
noncomputable def ob3 (x : Option (α × β × γ)) (k : α → β → γ → Option δ) : Option δ := Option.rec none (fun p => Prod.rec (fun a q => Prod.rec (k a) q) p) x
noncomputable def rep (n : Nat) (z : List α) : List α := Nat.rec [] (fun _ ih => appC z ih) n

/-! ### A map from numbers, as a tree -/
inductive T (α : Type) where
  | nil
  | node (l : T α) (v : Option α) (r : T α)
noncomputable def T.get (t : T α) : Nat → Option α :=
  T.rec (fun _ => none) (fun _ v _ ihl ihr k => Nat.rec v (fun m _ => bsel (Nat.beq (Nat.mod m 2) 0) (ihl (Nat.div m 2)) (ihr (Nat.div m 2))) k) t
noncomputable def T.one (n : Nat) : Nat → Option α → T α :=
  Nat.rec (fun _ _ => .nil) (fun _ ih k o => Nat.rec (.node .nil o .nil) (fun m _ => bsel (Nat.beq (Nat.mod m 2) 0) (.node (ih (Nat.div m 2) o) none .nil) (.node .nil none (ih (Nat.div m 2) o))) k) n
noncomputable def T.put (t : T α) : Nat → Option α → T α :=
  T.rec (fun k o => T.one (Nat.succ k) k o)
    (fun l v r ihl ihr k o => Nat.rec (.node l o r) (fun m _ => bsel (Nat.beq (Nat.mod m 2) 0) (.node (ihl (Nat.div m 2) o) v r) (.node l v (ihr (Nat.div m 2) o))) k) t
/-- a tree told to what follows when it is there (the kernel would else go through it again and again) -/
noncomputable def forceT (t : T α) (k : T α → β) : β := T.rec (k .nil) (fun l v r _ _ => k (.node l v r)) t
noncomputable def T.ofList (l : List α) : Nat → T α → T α :=
  List.rec (fun _ t => t) (fun x _ ih k t => ih (Nat.succ k) (t.put k (some x))) l
end basics

/-! ### Values -/
/-- What one cell holds; 'ige': an int not below that. A slice: its object, where it begins there, its length, its capacity (or a bound below it, and how many cells an element has). -/
inductive CV where
  | int (k : IntKind) (n : Int)
  | bool (b : Bool)
  | str (s : List Nat)
  | ptr (id off : Nat)
  | nilp
  | sl (id off len cap : Nat)
  | slr (id off len cap es : Nat)
  | nils
  | esl
  | map (id : Nat)
  | nilmap
  | fn (f : Nat) (first caps : List (Nat × Nat))
  | yield (id : Nat)
  | nilfn
  | ige (n : Nat)

inductive TV where
  | one (v : CV)
  | agg (l : List CV)
  | tup (l : List (Bool × List CV))

/-- The objects of the heap. 'len': the length of 'data'. 'exact': there are no more cells. 'fz': one cell behind the last may be marked (a conversion of a string). -/
inductive AO where
  | cells (data : List CV) (len : Nat) (elem : Nat) (exact : Bool) (fz : Bool)
  | map (es : List (CV × Bool × List CV))
  | deferred
  | loop (st : LoopState) (pending : Option Code) (regs : T TV) (n esc : Nat) (params : List Nat) (assign body : Code) (dfr : Nat)
  | mapIter0 (m : Option Nat)
  | strIter (s : List Nat) (pos : Nat)

structure St where
  h : T AO
  c : Nat

/-! ### Tables -/
inductive AK where
  | int (k : IntKind) | bool | str | ptr (e : Nat) | sl (e : Nat) | arr (n e : Nat) | map (k e : Nat) | struct (fs : List (Nat × Nat × Nat)) | func

structure TI where
  k : AK
  size : Nat
  bytes : Nat
  zagg : Bool
  zero : List CV

structure AFn where
  n : Nat
  esc : Nat
  body : Code
  results : List ResultVar

structure Env where
  types : Nat → Option TI
  fns : Nat → Option AFn
  ext : Nat → Option (List TV → Option TV)
  sums : Nat → Option (Nat → List TV → St → Option (TV × St))

/-! ### Small things -/
def undefV : TV := .tup []
def TV.cells : TV → Option (List CV)
  | .one v => some [v]
  | .agg l => some l
  | .tup _ => none
def TV.part : TV → Option (Bool × List CV)
  | .one v => some (false, [v])
  | .agg l => some (true, l)
  | .tup _ => none
def TV.ofPart : Bool × List CV → Option TV
  | (true, l) => some (.agg l)
  | (false, [v]) => some (.one v)
  | _ => none
def TV.toOne : TV → Option CV
  | .one v => some v
  | _ => none

noncomputable def ofValueC : Value → Option CV
  | .bool b => some (.bool b)
  | .int k n => some (.int k n)
  | .string s => some (.str (mapC UInt8.toNat s.data.toList))
  | .pointer none => some .nilp
  | .slice none 0 0 => some .nils
  | .map none => some .nilmap
  | .nilFunc => some .nilfn
  | _ => none
noncomputable def ofValue : Value → Option TV
  | .agg a => obind (optAll ofValueC a.toList) fun l => some (.agg l)
  | .tuple a => match a.toList with | [] => some (.tup []) | _ => none
  | v => obind (ofValueC v) fun c => some (.one c)

/-- A frame's variables: those of the region that runs, the last first; the others. Of one that stands in neither nothing is known. -/
structure Regs where
  loc : List (Nat × TV)
  base : T TV
noncomputable def locGet (l : List (Nat × TV)) (t : Nat) (d : Option TV) : Option TV := List.rec d (fun p _ ih => Prod.rec (fun t' v => bsel (Nat.beq t' t) (some v) ih) p) l
noncomputable def Regs.get (r : Regs) (t : Nat) : Option TV := Regs.rec (fun loc base => locGet loc t (base.get t)) r
noncomputable def Regs.put (r : Regs) (t : Nat) (v : TV) : Regs := Regs.rec (fun loc base => ⟨(t, v) :: loc, base⟩) r
noncomputable def bit (m j : Nat) : Bool := Nat.beq (Nat.mod (Nat.shiftRight m j) 2) 1
/-- a region's end: what is asked for elsewhere is kept -/
noncomputable def locFlush (l : List (Nat × TV)) (esc : Nat) (base : T TV) : T TV := List.rec base (fun p _ ih => Prod.rec (fun t v => bsel (bit esc t) (ih.put t (some v)) ih) p) l
noncomputable def Regs.flush (r : Regs) (esc : Nat) : Regs := Regs.rec (fun loc base => forceT (locFlush loc esc base) fun b => ⟨[], b⟩) r

/-- how many package-level variables the program has -/
def globN : Nat := 3
noncomputable def eval (r : Regs) (x : Operand) : Option TV :=
  match x with
  | .tmp t => r.get t
  | .const v => ofValue v
  | .global g => bsel (Nat.blt g globN) (some (.one (.ptr g 0))) none
  | .func f => some (.one (.fn f [] []))

noncomputable def getCells (st : St) (id : Nat) : Option (List CV × Nat × Bool × Bool) :=
  match st.h.get id with
  | some (.cells d n _ x z) => some (d, n, x, z)
  | _ => none
noncomputable def alloc (st : St) (o : AO) : St := St.rec (fun h c => ⟨h.put c (some o), Nat.succ c⟩) st
noncomputable def setH (st : St) (id : Nat) (o : Option AO) : St := St.rec (fun h c => ⟨h.put id o, c⟩) st
/-- what is laid, with where it lies -/
noncomputable def laid (st : St) (o : AO) (k : Nat → TV) : Option (TV × St) := St.rec (fun h c => some (k c, ⟨h.put c (some o), Nat.succ c⟩)) st

noncomputable def readN (st : St) (id off n : Nat) : Option (List CV) :=
  match st.h.get id with
  | some (.cells d len _ _ _) => bsel (Nat.ble (Nat.add off n) len) (some (takeC n (dropC off d))) none
  | _ => none
noncomputable def read1 (st : St) (id off : Nat) : Option CV :=
  match st.h.get id with
  | some (.cells d _ _ _ _) => nthC d off
  | _ => none
noncomputable def writeN (lo : Nat) (st : St) (id off : Nat) (l : List CV) (n : Nat) : Option St :=
  Nat.rec (some st) (fun _ _ =>
    match st.h.get id with
    | some (.cells d len e x z) => bsel (Nat.ble lo id) (bsel (Nat.ble (Nat.add off n) len) (some (setH st id (some (.cells (splice d off l) len e x z)))) none) none
    | _ => none) n

/-! ### Numbers -/
def asNat : TV → Option Nat
  | .one (.int _ (.ofNat n)) => some n
  | _ => none
def mk1 (v : CV) : Option TV := some (.one v)

noncomputable def intBin (op : BinOp) (k : IntKind) (x y : Int) : Option CV :=
  match op with
  | .add => some (.int k (k.wrap (x + y)))
  | .sub => some (.int k (k.wrap (x - y)))
  | .mul => some (.int k (k.wrap (x * y)))
  | .quo => if y = 0 then none else some (.int k (k.wrap (x.tdiv y)))
  | .rem => if y = 0 then none else some (.int k (x.tmod y))
  | .and => some (.int k (k.wrap (BitVec.ofInt k.bits x &&& BitVec.ofInt k.bits y).toNat))
  | .or => some (.int k (k.wrap (BitVec.ofInt k.bits x ||| BitVec.ofInt k.bits y).toNat))
  | .xor => some (.int k (k.wrap (BitVec.ofInt k.bits x ^^^ BitVec.ofInt k.bits y).toNat))
  | .andNot => some (.int k (k.wrap (BitVec.ofInt k.bits x &&& ~~~ BitVec.ofInt k.bits y).toNat))
  | .eql => some (.bool (decide (x = y)))
  | .neq => some (.bool (!(decide (x = y))))
  | .lss => some (.bool (decide (x < y)))
  | .leq => some (.bool (decide (x ≤ y)))
  | .gtr => some (.bool (decide (x > y)))
  | .geq => some (.bool (decide (x ≥ y)))
  | _ => none
noncomputable def shiftBin (op : BinOp) (k : IntKind) (x y : Int) : Option CV :=
  if y < 0 then none else
  match op with
  | .shl => some (.int k (k.wrap (x * 2 ^ (min y.toNat k.bits))))
  | .shr => some (.int k (x.fdiv (2 ^ (min y.toNat k.bits))))
  | _ => none
noncomputable def intOp (op : BinOp) (k : IntKind) (a : Int) (k' : IntKind) (b : Int) : Option TV :=
  match op with
  | .shl => obind (shiftBin .shl k a b) mk1
  | .shr => obind (shiftBin .shr k a b) mk1
  | op => if k = k' then obind (intBin op k a b) mk1 else none
noncomputable def eqL (l : List Nat) : List Nat → Bool :=
  List.rec (fun m => List.rec true (fun _ _ _ => false) m) (fun x _ ih m => List.rec false (fun y ys _ => bsel (Nat.beq x y) (ih ys) false) m) l
noncomputable def strOp (op : BinOp) (a b : List Nat) : Option TV :=
  match op with
  | .add => bsel (Nat.ble (Nat.add (lenC a) (lenC b)) 9223372036854775807) (mk1 (.str (appC a b))) none
  | .eql => mk1 (.bool (eqL a b))
  | .neq => mk1 (.bool (!(eqL a b)))
  | _ => none
def sameCV : CV → CV → Option Bool
  | .bool a, .bool b => some (a == b)
  | .nilp, .nilp => some true
  | .nilp, .ptr .. => some false
  | .ptr .., .nilp => some false
  | .nils, .nils => some true
  | .nils, .sl .. => some false
  | .nils, .slr .. => some false
  | .sl .., .nils => some false
  | .slr .., .nils => some false
  | .nilmap, .nilmap => some true
  | .nilmap, .map _ => some false
  | .map _, .nilmap => some false
  | .nilfn, .nilfn => some true
  | .nilfn, .fn .. => some false
  | .fn .., .nilfn => some false
  | _, _ => none
def fitsKind : AK → CV → Bool
  | .bool, .bool _ => true
  | .ptr _, .nilp => true
  | .ptr _, .ptr .. => true
  | .sl _, .nils => true
  | .sl _, .sl .. => true
  | .sl _, .slr .. => true
  | .map .., .nilmap => true
  | .map .., .map _ => true
  | .func, .nilfn => true
  | .func, .fn .. => true
  | _, _ => false
noncomputable def eqOp (E : Env) (op : BinOp) (t : Nat) (x y : CV) : Option TV :=
  match E.types t, op with
  | some ti, .eql => bsel (fitsKind ti.k x && fitsKind ti.k y) (obind (sameCV x y) fun b => mk1 (.bool b)) none
  | some ti, .neq => bsel (fitsKind ti.k x && fitsKind ti.k y) (obind (sameCV x y) fun b => mk1 (.bool (!b))) none
  | _, _ => none
/-- against a number of which a bound below is known -/
noncomputable def geOp (op : BinOp) (k : IntKind) (a : Int) (n : Nat) : Option TV :=
  match op, k with
  | .gtr, .i64 => if a ≤ Int.ofNat n then mk1 (.bool false) else none
  | _, _ => none
noncomputable def binCV (E : Env) (op : BinOp) (t : Nat) (x y : CV) : Option TV :=
  match x, y with
  | .int k a, .int k' b => intOp op k a k' b
  | .str a, .str b => strOp op a b
  | .int k a, .ige n => geOp op k a n
  | x, y => eqOp E op t x y
/-- two pointers, neither nil -/
noncomputable def samePtr (st : St) (a o b p : Nat) : Option Bool :=
  bsel (Nat.beq a b) (some (Nat.beq o p))
    (match getCells st a, getCells st b with
    | some (_, _, _, false), some (_, _, _, false) => some false
    | _, _ => none)
noncomputable def ptrOp (E : Env) (st : St) (op : BinOp) (t : Nat) (a o b p : Nat) : Option TV :=
  match E.types t, op with
  | some ⟨.ptr e, _, _, _, _⟩, .eql => obind (E.types e) fun ti => bsel (Nat.blt 0 ti.size) (obind (samePtr st a o b p) fun b => mk1 (.bool b)) none
  | some ⟨.ptr e, _, _, _, _⟩, .neq => obind (E.types e) fun ti => bsel (Nat.blt 0 ti.size) (obind (samePtr st a o b p) fun b => mk1 (.bool (!b))) none
  | _, _ => none
noncomputable def binS (E : Env) (st : St) (op : BinOp) (t : Nat) (x y : CV) : Option TV :=
  match x, y with
  | .ptr a o, .ptr b p => ptrOp E st op t a o b p
  | x, y => binCV E op t x y

noncomputable def unop (op : UnOp) (x : TV) : Option TV :=
  match op, x with
  | .neg, .one (.int k n) => mk1 (.int k (k.wrap (0 - n)))
  | .xor, .one (.int k n) => obind (intBin .xor k (if k.signed then -1 else k.max) n) mk1
  | .not, .one (.bool b) => mk1 (.bool (!b))
  | _, _ => none

def isAggK : AK → Bool
  | .struct _ => true
  | .arr _ _ => true
  | _ => false
def isU8 : AK → Bool
  | .int .u8 => true
  | _ => false

noncomputable def fillOne (cells : List CV) (off size : Nat) (cs : List CV) : Option (List CV) :=
  bsel (Nat.beq (lenC cs) size) (bsel (Nat.ble (Nat.add off size) (lenC cells)) (some (splice cells off cs)) none) none
noncomputable def fillA (place : Nat → Option (Nat × Nat)) (l : List (Nat × TV)) : List CV → Option (List CV) :=
  List.rec (fun cells => some cells) (fun p _ ih cells => obind (place p.1) fun q => obind (TV.cells p.2) fun cs => obind (fillOne cells q.1 q.2 cs) ih) l
noncomputable def partsV (ev : Operand → Option TV) (ps : List (Nat × Operand)) : Option (List (Nat × TV)) :=
  optAll (fun p => obind (ev p.2) fun v => some (p.1, v)) ps

/-- bounds of a slicing: low, high, cap -/
noncomputable def bnd (v : Option TV) (d : Nat) (top : Nat) : Option Nat :=
  Option.rec (some d) (fun v => obind (asNat v) fun n => bsel (Nat.ble n top) (some n) none) v
noncomputable def sl2 (k : Nat → Nat → Nat → Option CV) (len : Nat) (lo hi : Option TV) (m : Nat) : Option CV :=
  obind (bnd hi len m) fun h => obind (bnd lo 0 h) fun l => k l h m

noncomputable def slStr (s : List Nat) (lo hi mx : Option TV) : Option CV :=
  match mx with
  | some _ => none
  | none => sl2 (fun l h _ => some (.str (takeC (Nat.sub h l) (dropC l s)))) (lenC s) lo hi (lenC s)
noncomputable def slAt (sz id off : Nat) (l h m : Nat) : Option CV :=
  some (.sl id (bsel (Nat.beq m l) off (Nat.add off (Nat.mul l sz))) (Nat.sub h l) (Nat.sub m l))
noncomputable def slRoom (sz id off es : Nat) (l h m : Nat) : Option CV :=
  some (bsel (Nat.blt l m) (.slr id (Nat.add off (Nat.mul l sz)) (Nat.sub h l) (Nat.sub m l) es) .esl)
noncomputable def slGen (k : Nat → Nat → Nat → Option CV) (kx : Nat → Nat → Nat → Option CV) (len cap : Nat) (lo hi mx : Option TV) : Option CV :=
  match mx with
  | none => sl2 k len lo hi cap
  | some v => match hi with
    | none => none
    | some h => obind (bnd (some v) 0 cap) fun m => sl2 kx len lo (some h) m
noncomputable def slSlice (sz : Nat) (v : CV) (lo hi mx : Option TV) : Option CV :=
  match v with
  | .nils => slGen (fun _ _ _ => some .nils) (fun _ _ _ => some .nils) 0 0 lo hi mx
  | .sl id off len cap => slGen (slAt sz id off) (slAt sz id off) len cap lo hi mx
  | .slr id off len cap es => bsel (Nat.beq es sz) (slGen (slRoom sz id off es) (slAt sz id off) len cap lo hi mx) none
  | _ => none
noncomputable def sliceOp (E : Env) (t : Nat) (x : CV) (lo hi mx : Option TV) : Option CV :=
  obind (E.types t) fun ti => match ti.k with
    | .str => match x with | .str s => slStr s lo hi mx | _ => none
    | .sl e => obind (E.types e) fun te => slSlice te.size x lo hi mx
    | .arr n e => match x with | .ptr id off => obind (E.types e) fun te => slGen (slAt te.size id off) (slAt te.size id off) n n lo hi mx | _ => none
    | _ => none

def sameKey : CV → CV → Option Bool
  | .int k a, .int k' b => if k = k' then some (decide (a = b)) else none
  | .str a, .str b => some (decide (a = b))
  | _, _ => none
noncomputable def findKeyA (k : CV) (es : List (CV × Bool × List CV)) : Nat → Option (Option (Nat × Bool × List CV)) :=
  List.rec (fun _ => some none) (fun e _ ih i => obind (sameKey k e.1) fun b => bsel b (some (some (i, e.2))) (ih (Nat.succ i))) es
noncomputable def keyKind (E : Env) (kt : Nat) (k : CV) : Bool :=
  match E.types kt, k with
  | some ⟨.int _, _, _, _, _⟩, .int .. => true
  | some ⟨.str, _, _, _, _⟩, .str _ => true
  | _, _ => false

noncomputable def intI (n : Nat) : CV := .int .i64 (Int.ofNat n)
noncomputable def lenOp (k : AK) (x : CV) : Option TV :=
  match k, x with
  | .str, .str s => mk1 (intI (lenC s))
  | .arr n _, _ => mk1 (intI n)
  | .sl _, .nils => mk1 (intI 0)
  | .sl _, .esl => mk1 (intI 0)
  | .sl _, .sl _ _ n _ => mk1 (intI n)
  | .sl _, .slr _ _ n _ _ => mk1 (intI n)
  | _, _ => none
noncomputable def capOp (k : AK) (x : CV) : Option TV :=
  match k, x with
  | .sl _, .nils => mk1 (intI 0)
  | .sl _, .sl _ _ _ n => mk1 (intI n)
  | .sl _, .slr _ _ _ n _ => mk1 (.ige n)
  | _, _ => none
noncomputable def lenTV (E : Env) (t : Nat) (x : TV) : Option TV :=
  obind (E.types t) fun ti => match x with
    | .one v => lenOp ti.k v
    | .agg _ => match ti.k with | .arr n _ => mk1 (intI n) | _ => none
    | .tup _ => none
noncomputable def minOp (k : IntKind) (x : Int) (k' : IntKind) (y : Int) : Option TV := if k = k' then mk1 (.int k (if y < x then y else x)) else none
noncomputable def maxOp (k : IntKind) (x : Int) (k' : IntKind) (y : Int) : Option TV := if k = k' then mk1 (.int k (if y > x then y else x)) else none
noncomputable def pureBuiltin (E : Env) (b : Builtin) (ts : List Nat) (args : List TV) : Option TV :=
  match b, ts, args with
  | .len, t :: _, x :: _ => lenTV E t x
  | .cap, t :: _, .one x :: _ => obind (E.types t) fun ti => capOp ti.k x
  | .min, _, [.one (.int k x), .one (.int k' y)] => minOp k x k' y
  | .max, _, [.one (.int k x), .one (.int k' y)] => maxOp k x k' y
  | _, _, _ => none

noncomputable def bytesOf (l : List CV) : Option (List Nat) :=
  optAll (fun c => match c with | .int .u8 (.ofNat n) => bsel (Nat.ble n 255) (some n) none | _ => none) l

/-! ### A program's tables -/
noncomputable def akOf (P : Program) (d : TypeDesc) : Option AK :=
  match d with
  | .int k => some (.int k)
  | .bool => some .bool
  | .string => some .str
  | .pointer e => some (.ptr e)
  | .slice e => some (.sl e)
  | .array n e => some (.arr n e)
  | .map k e => some (.map k e)
  | .struct fs => obind (optAll (fun f => obind (P.info? f.type) fun i => some (f.type, f.offset, i.size)) fs.toList) fun l => some (.struct l)
  | .func .. => some .func
  | _ => none
noncomputable def zeroOf (v : Value) : Option (Bool × List CV) := obind (ofValue v) TV.part
noncomputable def tyOf (P : Program) (t : Nat) : Option TI :=
  obind (P.info? t) fun i => obind (P.underlying t) fun d => obind i.zero fun z => ob2 (zeroOf z) fun b l =>
    obind (akOf P d) fun k => bsel (Nat.beq (lenC l) i.size) (some ⟨k, i.size, i.bytes, b, l⟩) none
noncomputable def fnOf (P : Program) (esc : List Nat) (f : Nat) : Option AFn :=
  obind P.funcs[f]? fun fn => obind fn.body fun c => some ⟨fn.ntmps, Option.rec 0 (fun x => x) (nthC esc f), c, fn.results.toList⟩

/-! ### Operations that hang on their operands alone -/
noncomputable def aPick (c a b : Option TV) : Option TV :=
  match c with
  | some (.one (.bool x)) => bsel x a b
  | _ => none
noncomputable def aBuild (E : Env) (ev : Operand → Option TV) (t : Nat) (ps : List (Nat × Operand)) : Option TV :=
  obind (E.types t) fun ti => obind (partsV ev ps) fun l => match ti.k with
    | .struct fs => obind (fillA (fun i => obind (nthC fs i) fun f => some f.2) l ti.zero) fun cs => some (.agg cs)
    | .arr _ e => obind (E.types e) fun te => obind (fillA (fun i => some (Nat.mul i te.size, te.size)) l ti.zero) fun cs => some (.agg cs)
    | _ => none
def aNilCheck (x : Option TV) : Option TV :=
  match x with
  | some (.one (.ptr i o)) => some (.one (.ptr i o))
  | some (.one (.fn f a b)) => some (.one (.fn f a b))
  | _ => none
noncomputable def aBin (E : Env) (op : BinOp) (t : Nat) (x y : Option TV) : Option TV :=
  match x, y with
  | some (.one a), some (.one b) => binCV E op t a b
  | _, _ => none
noncomputable def aConv (k : AK) (x : TV) : Option TV :=
  match k, x with
  | .int k, .one (.int _ n) => mk1 (.int k (k.wrap n))
  | _, _ => none
noncomputable def aConvert (E : Env) (s d : Nat) (x : Option TV) : Option TV :=
  obind x fun v => obind (E.types d) fun td => obind (E.types s) fun _ => aConv td.k v
noncomputable def aArrPtr (E : Env) (t : Nat) (x : Option TV) : Option TV :=
  obind (E.types t) fun ti => match ti.k, x with
    | .arr n _, some (.one (.sl id off len _)) => bsel (Nat.ble n len) (mk1 (.ptr id off)) none
    | .arr n _, some (.one (.slr id off len _ _)) => bsel (Nat.ble n len) (mk1 (.ptr id off)) none
    | _, _ => none
def asPtr : TV → Option (Nat × Nat)
  | .one (.ptr i o) => some (i, o)
  | _ => none
noncomputable def ptrsOf (ev : Operand → Option TV) (l : List Operand) : Option (List (Nat × Nat)) := optAll (fun x => obind (ev x) asPtr) l
noncomputable def aMakeFunc (ev : Operand → Option TV) (f : Fn) (fs cs : List Operand) : Option TV :=
  match f with
  | .func f => obind (ptrsOf ev fs) fun a => obind (ptrsOf ev cs) fun b => mk1 (.fn f a b)
  | _ => none
noncomputable def aOpt (ev : Operand → Option TV) (x : Option Operand) : Option (Option TV) :=
  match x with
  | none => some none
  | some y => obind (ev y) fun v => some (some v)
noncomputable def aSlice (E : Env) (ev : Operand → Option TV) (t : Nat) (x : Operand) (l h m : Option Operand) : Option TV :=
  obind (ev x) fun v => obind (TV.toOne v) fun v => obind (aOpt ev l) fun a => obind (aOpt ev h) fun b => obind (aOpt ev m) fun c => obind (sliceOp E t v a b c) mk1
noncomputable def aFieldAddr (E : Env) (s : Nat) (x : Option TV) (f : Nat) : Option TV :=
  match x with
  | some (.one (.ptr id off)) => obind (E.types s) fun ti => match ti.k with
    | .struct fs => obind (nthC fs f) fun q => bsel (Nat.blt 0 q.2.2) (mk1 (.ptr id (Nat.add off q.2.1))) none
    | _ => none
  | _ => none
noncomputable def cutV (agg : Bool) (cs : List CV) (off n : Nat) : Option TV :=
  bsel agg (bsel (Nat.ble (Nat.add off n) (lenC cs)) (some (.agg (takeC n (dropC off cs)))) none) (obind (nthC cs off) mk1)
noncomputable def aField (E : Env) (s : Nat) (x : Option TV) (f : Nat) : Option TV :=
  match x with
  | some (.agg cs) => obind (E.types s) fun ti => match ti.k with
    | .struct fs => obind (nthC fs f) fun q => obind (E.types q.1) fun tf => cutV (isAggK tf.k) cs q.2.1 tf.size
    | _ => none
  | _ => none
noncomputable def aIndexAddr (E : Env) (t : Nat) (x i : Option TV) : Option TV :=
  obind i fun iv => obind (asNat iv) fun i => obind x fun x => obind (E.types t) fun ti => match ti.k, x with
    | .arr n e, .one (.ptr id off) => obind (E.types e) fun te => bsel (Nat.blt i n) (mk1 (.ptr id (Nat.add off (Nat.mul i te.size)))) none
    | .sl e, .one (.sl id off len _) => obind (E.types e) fun te => bsel (Nat.blt i len) (mk1 (.ptr id (Nat.add off (Nat.mul i te.size)))) none
    | .sl e, .one (.slr id off len _ _) => obind (E.types e) fun te => bsel (Nat.blt i len) (mk1 (.ptr id (Nat.add off (Nat.mul i te.size)))) none
    | _, _ => none
noncomputable def aIndex (E : Env) (t : Nat) (x i : Option TV) : Option TV :=
  obind i fun iv => obind (asNat iv) fun i => obind x fun x => obind (E.types t) fun ti => match ti.k, x with
    | .arr n e, .agg cs => obind (E.types e) fun te => bsel (Nat.blt i n) (cutV (isAggK te.k) cs (Nat.mul i te.size) te.size) none
    | .str, .one (.str s) => obind (nthC s i) fun b => mk1 (.int .u8 (Int.ofNat b))
    | _, _ => none
noncomputable def aExtract (x : Option TV) (i : Nat) : Option TV :=
  match x with
  | some (.tup l) => obind (nthC l i) TV.ofPart
  | _ => none
noncomputable def aPureCall (E : Env) (ev : Operand → Option TV) (c : Call) : Option TV :=
  match c.callee with
  | .builtin b => obind (optAll ev c.args.toList) fun args => pureBuiltin E b c.argTypes.toList args
  | _ => none

noncomputable def apure (E : Env) (ev : Operand → Option TV) (op : Op) : Option TV :=
  match op with
  | .move x => ev x
  | .assign x => ev x
  | .pick c a b => aPick (ev c) (ev a) (ev b)
  | .build t ps => aBuild E ev t ps.toList
  | .nilCheck x => aNilCheck (ev x)
  | .binOp op t x y _ => aBin E op t (ev x) (ev y)
  | .unOp op _ x => obind (ev x) (unop op)
  | .convert s d x => aConvert E s d (ev x)
  | .sliceToArrayPointer t x => aArrPtr E t (ev x)
  | .makeFunc f fs cs => aMakeFunc ev f fs.toList cs.toList
  | .slice t x l h m => aSlice E ev t x l h m
  | .fieldAddr s x f => aFieldAddr E s (ev x) f
  | .field s x f => aField E s (ev x) f
  | .indexAddr t x i => aIndexAddr E t (ev x) (ev i)
  | .index t x i => aIndex E t (ev x) (ev i)
  | .extract x i => aExtract (ev x) i
  | .call c => aPureCall E ev c
  | _ => none

/-- which operations are taken so, by their form -/
noncomputable def pureBin (E : Env) (t : Nat) : Bool :=
  match E.types t with
  | some ⟨.ptr _, _, _, _, _⟩ => false
  | _ => true
noncomputable def pureConv (E : Env) (d : Nat) : Bool :=
  match E.types d with
  | some ⟨.int _, _, _, _, _⟩ => true
  | _ => false
noncomputable def pureLen (E : Env) (ts : List Nat) : Bool :=
  match ts with
  | t :: _ => match E.types t with
    | some ⟨.map .., _, _, _, _⟩ => false
    | _ => true
  | [] => false
noncomputable def pureCallee (E : Env) (c : Call) : Bool :=
  match c.callee with
  | .builtin .len => pureLen E c.argTypes.toList
  | .builtin .cap => true
  | .builtin .min => true
  | .builtin .max => true
  | _ => false
noncomputable def isPure (E : Env) (op : Op) : Bool :=
  match op with
  | .move _ => true
  | .assign _ => true
  | .pick .. => true
  | .build .. => true
  | .nilCheck _ => true
  | .unOp .. => true
  | .sliceToArrayPointer .. => true
  | .makeFunc .. => true
  | .slice .. => true
  | .fieldAddr .. => true
  | .field .. => true
  | .indexAddr .. => true
  | .index .. => true
  | .extract .. => true
  | .binOp _ t _ _ _ => pureBin E t
  | .convert _ d _ => pureConv E d
  | .call c => pureCallee E c
  | _ => false

/-! ### What looks at the memory, or lays something there; but calls -/
abbrev R := Option (TV × St)
noncomputable def keep (st : St) (x : Option TV) : R := obind x fun v => some (v, st)
/-- what is laid by an operation that looks at its operands alone -/
abbrev AL := Option (AO × (Nat → TV))
noncomputable def lay (st : St) (x : AL) : R := ob2 x fun o k => laid st o k
noncomputable def alAlloc (E : Env) (t : Nat) : AL :=
  obind (E.types t) fun ti => some (.cells ti.zero ti.size t true false, fun c => .one (.ptr c 0))
noncomputable def alBox (t : Nat) (x : Option TV) : AL :=
  obind x fun v => obind (TV.cells v) fun cs => some (.cells cs (lenC cs) t true false, fun c => .one (.ptr c 0))
noncomputable def alBuildSlice (E : Env) (ev : Operand → Option TV) (t len : Nat) (ps : List (Nat × Operand)) : AL :=
  obind (E.types t) fun ti => match ti.k with
    | .sl e => obind (E.types e) fun te => obind (partsV ev ps) fun l =>
        bsel (Nat.ble (Nat.mul len te.size) 65536)
          (obind (fillA (fun i => some (Nat.mul i te.size, te.size)) l (rep len te.zero)) fun cs => some (.cells cs (Nat.mul len te.size) e true (isU8 te.k), fun c => .one (.sl c 0 len len)))
          none
    | _ => none
noncomputable def alMakeSlice (E : Env) (t : Nat) (l c : Option TV) : AL :=
  obind l fun l => obind (asNat l) fun l => obind c fun c => obind (asNat c) fun c => obind (E.types t) fun ti => match ti.k with
    | .sl e => obind (E.types e) fun te =>
        bsel (Nat.ble l c) (bsel (Nat.ble c 65536) (bsel (Nat.ble te.bytes 65536) (some (.cells (rep c te.zero) (Nat.mul c te.size) e true false, fun i => .one (.sl i 0 l c))) none) none) none
    | _ => none
noncomputable def alMap : AL := some (.map [], fun c => .one (.map c))
noncomputable def alBytes (E : Env) (e : Nat) (s : List Nat) : AL :=
  obind (E.types e) fun te => bsel (isU8 te.k) (some (.cells (mapC (fun n => .int .u8 (Int.ofNat n)) s) (lenC s) e false true, fun c => .one (.slr c 0 (lenC s) (lenC s) 1))) none
noncomputable def alConv2 (E : Env) (v : CV) (ks kd : AK) : AL :=
  match v, ks, kd with
  | .str l, .str, .sl e => alBytes E e l
  | _, _, _ => none
noncomputable def alConv (E : Env) (s d : Nat) (x : Option TV) : AL :=
  obind x fun v => obind (TV.toOne v) fun v => obind (E.types s) fun ts => obind (E.types d) fun td => alConv2 E v ts.k td.k
noncomputable def alaid (E : Env) (ev : Operand → Option TV) (op : Op) : AL :=
  match op with
  | .alloc t => alAlloc E t
  | .box t x => alBox t (ev x)
  | .buildSlice t len ps => alBuildSlice E ev t len ps.toList
  | .convert s d x => alConv E s d (ev x)
  | .makeMap _ none => alMap
  | .makeSlice t l c => alMakeSlice E t (ev l) (ev c)
  | _ => none
noncomputable def isStrK (k : AK) : Bool := match k with | .str => true | _ => false
noncomputable def isSlK (k : AK) : Bool := match k with | .sl _ => true | _ => false
noncomputable def isAl (E : Env) (op : Op) : Bool :=
  match op with
  | .alloc _ => true
  | .box .. => true
  | .buildSlice .. => true
  | .makeMap _ none => true
  | .makeSlice .. => true
  | .convert s d _ => Option.rec false (fun ts => Option.rec false (fun td => bsel (isStrK ts.k) (isSlK td.k) false) (E.types d)) (E.types s)
  | _ => false
noncomputable def aLoad (E : Env) (st : St) (t : Nat) (a : Option TV) : R :=
  match a with
  | some (.one (.ptr id off)) => obind (E.types t) fun ti =>
      bsel (isAggK ti.k) (obind (readN st id off ti.size) fun l => some (.agg l, st)) (obind (read1 st id off) fun v => some (.one v, st))
  | _ => none
noncomputable def aStore (E : Env) (lo : Nat) (st : St) (t : Nat) (a x : Option TV) : R :=
  match a with
  | some (.one (.ptr id off)) => obind x fun v => obind (TV.cells v) fun cs => obind (E.types t) fun ti =>
      bsel (Nat.beq (lenC cs) ti.size) (obind (writeN lo st id off cs ti.size) fun st' => some (undefV, st')) none
  | _ => none
noncomputable def aBinS (E : Env) (st : St) (op : BinOp) (t : Nat) (x y : Option TV) : R :=
  match x, y with
  | some (.one a), some (.one b) => keep st (binS E st op t a b)
  | _, _ => none
noncomputable def toStr (st : St) (id off len : Nat) : R :=
  obind (readN st id off len) fun l => obind (bytesOf l) fun s => some (.one (.str s), st)
noncomputable def convSl (st : St) (same : Bool) (d : AK) (x : CV) : R :=
  match d, x with
  | .str, .nils => some (.one (.str []), st)
  | .str, .esl => some (.one (.str []), st)
  | .str, .sl id off len _ => toStr st id off len
  | .str, .slr id off len _ _ => toStr st id off len
  | .sl _, .sl id off len cap => bsel same (match st.h.get id with | some (.cells _ _ _ _ true) => some (.one (.sl id off len cap), st) | _ => none) none
  | _, _ => none
noncomputable def convStr (E : Env) (st : St) (d : AK) (s : List Nat) : R :=
  match d with
  | .str => some (.one (.str s), st)
  | .sl e => lay st (alBytes E e s)
  | _ => none
noncomputable def aConvS (E : Env) (st : St) (s d : Nat) (x : Option TV) : R :=
  obind x fun v => obind (TV.toOne v) fun v => obind (E.types s) fun ts => obind (E.types d) fun td =>
    match v with
    | .str l => (match ts.k with
      | .str => convStr E st td.k l
      | _ => none)
    | v => match ts.k with
      | .sl e => obind (E.types e) fun te => bsel (isU8 te.k) (convSl st (Nat.beq s d) td.k v) none
      | _ => none
noncomputable def entriesOf (st : St) (m : CV) : Option (List (CV × Bool × List CV)) :=
  match m with
  | .nilmap => some []
  | .map id => match st.h.get id with
    | some (.map es) => some es
    | _ => none
  | _ => none
noncomputable def lookRes (ok : Bool) (st : St) (v : Bool × List CV) (b : Bool) : R :=
  bsel ok (some (.tup [v, (false, [.bool b])], st)) (keep st (TV.ofPart v))
noncomputable def aLookup (E : Env) (st : St) (t : Nat) (x k : Option TV) (ok : Bool) : R :=
  obind x fun x => obind (TV.toOne x) fun m => obind k fun k => obind (TV.toOne k) fun k => obind (E.types t) fun ti => match ti.k with
    | .map kt et => bsel (keyKind E kt k) (obind (entriesOf st m) fun es => obind (findKeyA k es 0) fun r => obind (E.types et) fun te =>
        Option.rec (lookRes ok st (te.zagg, te.zero) false) (fun p => lookRes ok st p.2 true) r) none
    | _ => none
noncomputable def putEntry (st : St) (id : Nat) (es : List (CV × Bool × List CV)) : R := some (undefV, setH st id (some (.map es)))
noncomputable def aMapUpdate (E : Env) (lo : Nat) (st : St) (t : Nat) (m k x : Option TV) : R :=
  obind x fun x => obind (TV.part x) fun v => obind k fun k => obind (TV.toOne k) fun k => obind (E.types t) fun ti => match ti.k, m with
    | .map kt _, some (.one (.map id)) => bsel (keyKind E kt k) (bsel (Nat.ble lo id)
        (match st.h.get id with
        | some (.map es) => obind (findKeyA k es 0) fun r => Option.rec (putEntry st id (appC es [(k, v)])) (fun p => putEntry st id (setC es p.1 (k, v))) r
        | _ => none) none) none
    | _, _ => none
noncomputable def aRange (E : Env) (st : St) (t : Nat) (x : Option TV) : R :=
  obind (E.types t) fun ti => match ti.k, x with
    | .map .., some (.one m) => obind (entriesOf st m) fun es => List.rec (laid st (.mapIter0 (match m with | .map id => some id | _ => none)) fun c => .one (.ptr c 0)) (fun _ _ _ => none) es
    | .str, some (.one (.str s)) => laid st (.strIter s 0) fun c => .one (.ptr c 0)
    | _, _ => none
noncomputable def nextStr (lo : Nat) (st : St) (id : Nat) (s : List Nat) (pos : Nat) : R :=
  Option.rec (some (.tup [(false, [.bool false])], st))
    (fun b => bsel (Nat.blt b 128) (bsel (Nat.ble lo id) (some (.tup [(false, [.bool true]), (false, [intI pos]), (false, [.int .i32 (Int.ofNat b)])], setH st id (some (.strIter s (Nat.succ pos))))) none) none)
    (nthC s pos)
noncomputable def aNext (lo : Nat) (st : St) (x : Option TV) (isStr : Bool) : R :=
  match isStr, x with
  | true, some (.one (.ptr id 0)) => match st.h.get id with
    | some (.strIter s pos) => nextStr lo st id s pos
    | _ => none
  | false, some (.one (.ptr id 0)) => match st.h.get id with
    | some (.mapIter0 none) => some (.tup [(false, [.bool false])], st)
    | some (.mapIter0 (some m)) => match st.h.get m with
      | some (.map []) => some (.tup [(false, [.bool false])], st)
      | _ => none
    | _ => none
  | _, _ => none

noncomputable def amem (E : Env) (lo : Nat) (ev : Operand → Option TV) (st : St) (op : Op) : R :=
  match op with
  | .alloc t => lay st (alAlloc E t)
  | .box t x => lay st (alBox t (ev x))
  | .buildSlice t len ps => lay st (alBuildSlice E ev t len ps.toList)
  | .load t a => aLoad E st t (ev a)
  | .store t a x => aStore E lo st t (ev a) (ev x)
  | .binOp op t x y _ => aBinS E st op t (ev x) (ev y)
  | .convert s d x => aConvS E st s d (ev x)
  | .makeMap _ none => lay st alMap
  | .makeSlice t l c => lay st (alMakeSlice E t (ev l) (ev c))
  | .lookup t x k ok => aLookup E st t (ev x) (ev k) ok
  | .mapUpdate t m k x => aMapUpdate E lo st t (ev m) (ev k) (ev x)
  | .insert t m k x => aMapUpdate E lo st t (ev m) (ev k) (ev x)
  | .range t x => aRange E st t (ev x)
  | .next x s => aNext lo st (ev x) s
  | _ => none

/-- what is appended: how many elements, their cells -/
noncomputable def srcCells (st : St) (sz : Nat) (x : CV) : Option (Nat × List CV) :=
  match x with
  | .nils => some (0, [])
  | .esl => some (0, [])
  | .str s => bsel (Nat.beq sz 1) (some (lenC s, mapC (fun n => .int .u8 (Int.ofNat n)) s)) none
  | .sl id off len _ => obind (readN st id off (Nat.mul len sz)) fun l => some (len, l)
  | .slr id off len _ _ => obind (readN st id off (Nat.mul len sz)) fun l => some (len, l)
  | _ => none
/-- as an append's second operand: a number where it is a made slice's length -/
noncomputable def appendSrc (st : St) (ti : TI) (k2 : AK) (x : CV) : Option (Nat × List CV) :=
  match k2, x with
  | .int _, .int .i64 (.ofNat n) => bsel (Nat.ble n 65536) (some (n, rep n ti.zero)) none
  | .int _, _ => none
  | _, x => srcCells st ti.size x
noncomputable def small (n : Nat) : Bool := Nat.ble n 4294967296

noncomputable def appNil (st : St) (te : TI) (e n : Nat) (new : List CV) : R :=
  Nat.rec (some (.one .nils, st)) (fun _ _ => laid st (.cells new (Nat.mul n te.size) e false false) fun c => .one (.slr c 0 n n te.size)) n
noncomputable def appFit (lo : Nat) (st : St) (te : TI) (id off len n : Nat) (new : List CV) (v : CV) : R :=
  obind (writeN lo st id (Nat.add off (Nat.mul len te.size)) new (Nat.mul n te.size)) fun st' => some (.one v, st')
noncomputable def appGrow (st : St) (te : TI) (e id off len cap n : Nat) (new : List CV) : R :=
  bsel (small (Nat.mul (Nat.add (Nat.add len n) cap) te.bytes))
    (obind (readN st id off (Nat.mul len te.size)) fun old => laid st (.cells (appC old new) (Nat.mul (Nat.add len n) te.size) e false false) fun c => .one (.slr c 0 (Nat.add len n) (Nat.add len n) te.size))
    none
noncomputable def appOver (lo : Nat) (st : St) (te : TI) (e id off len cap n : Nat) (new : List CV) : R :=
  bsel (small (Nat.mul (Nat.add (Nat.add len n) cap) te.bytes)) (bsel (Nat.ble lo id) (bsel (Nat.beq off 0)
    (match st.h.get id with
    | some (.cells d dl e' false z) => bsel (Nat.beq dl (Nat.mul len te.size)) (bsel (Nat.beq e' e)
        (laid (setH st id none) (.cells (appC d new) (Nat.mul (Nat.add len n) te.size) e false z) fun c => .one (.slr c 0 (Nat.add len n) (Nat.add len n) te.size)) none) none
    | _ => none) none) none) none
noncomputable def aAppend (lo : Nat) (st : St) (te : TI) (e : Nat) (s : CV) (n : Nat) (new : List CV) : R :=
  bsel (Nat.blt 0 te.size) (bsel (Nat.blt 0 te.bytes) (bsel (small (Nat.mul (Nat.succ n) te.bytes))
    (match s with
    | .nils => appNil st te e n new
    | .sl id off len cap => bsel (Nat.ble (Nat.add len n) cap) (appFit lo st te id off len n new (.sl id off (Nat.add len n) cap)) (appGrow st te e id off len cap n new)
    | .slr id off len cap es => bsel (Nat.beq es te.size)
        (bsel (Nat.ble (Nat.add len n) cap) (appFit lo st te id off len n new (.slr id off (Nat.add len n) cap es)) (appOver lo st te e id off len cap n new)) none
    | _ => none) none) none) none
noncomputable def bAppend (E : Env) (lo : Nat) (st : St) (t t2 : Nat) (s x : CV) : R :=
  obind (E.types t) fun ti => obind (E.types t2) fun t2 => match ti.k with
    | .sl e => obind (E.types e) fun te => ob2 (appendSrc st te t2.k x) fun n new => aAppend lo st te e s n new
    | _ => none
noncomputable def copyTo (lo : Nat) (st : St) (sz id off dl : Nat) (n : Nat) (new : List CV) : R :=
  obind (writeN lo st id off (takeC (Nat.mul (Nat.min n dl) sz) new) (Nat.mul (Nat.min n dl) sz)) fun st' => some (.one (intI (Nat.min n dl)), st')
noncomputable def bCopy (E : Env) (lo : Nat) (st : St) (t : Nat) (d x : CV) : R :=
  obind (E.types t) fun ti => match ti.k with
    | .sl e => obind (E.types e) fun te => ob2 (srcCells st te.size x) fun n new => match d with
      | .nils => some (.one (intI 0), st)
      | .sl id off len _ => copyTo lo st te.size id off len n new
      | .slr id off len _ _ => copyTo lo st te.size id off len n new
      | _ => none
    | _ => none
noncomputable def bClear (E : Env) (lo : Nat) (st : St) (t : Nat) (x : CV) : R :=
  obind (E.types t) fun ti => match ti.k, x with
    | .map .., .nilmap => some (.tup [], st)
    | .sl _, .nils => some (.tup [], st)
    | .sl _, .esl => some (.tup [], st)
    | .map .., .map id => match st.h.get id with
      | some (.map _) => bsel (Nat.ble lo id) (some (.tup [], setH st id (some (.map [])))) none
      | _ => none
    | .sl e, .sl id off len _ => obind (E.types e) fun te => obind (writeN lo st id off (rep len te.zero) (Nat.mul len te.size)) fun st' => some (.tup [], st')
    | .sl e, .slr id off len _ _ => obind (E.types e) fun te => obind (writeN lo st id off (rep len te.zero) (Nat.mul len te.size)) fun st' => some (.tup [], st')
    | _, _ => none
noncomputable def bLen (st : St) (x : CV) : R :=
  obind (entriesOf st x) fun es => some (.one (intI (lenC es)), st)
noncomputable def abuiltin (E : Env) (lo : Nat) (b : Builtin) (ts : List Nat) (args : List TV) (st : St) : R :=
  match b, ts, args with
  | .append, t :: t2 :: _, [.one s, .one x] => bAppend E lo st t t2 s x
  | .copy, t :: _, [.one d, .one x] => bCopy E lo st t d x
  | .clear, t :: _, [.one x] => bClear E lo st t x
  | .len, t :: _, .one x :: _ => obind (E.types t) fun ti => match ti.k with | .map .. => bLen st x | _ => none
  | _, _, _ => none

/-! ### Code -/
structure Fr where
  regs : Regs
  n : Nat
  esc : Nat
  marks : List Nat

inductive AX where
  | normal | exit (id : Nat) | ret

noncomputable def Fr.put (f : Fr) (d : Option Nat) (v : TV) : Option Fr :=
  Option.rec (some f) (fun t => Fr.rec (fun regs n esc marks => bsel (Nat.blt t n) (some ⟨regs.put t v, n, esc, marks⟩) none) f) d

/-- is an operation's guard met? none: not known -/
noncomputable def boolAt (regs : Regs) (t : Nat) (want : Bool) : Option Bool :=
  match regs.get t with
  | some (.one (.bool b)) => some (b == want)
  | some (.tup []) => some false
  | _ => none
noncomputable def wantedG (ops : List Oper) (regs : Regs) (g : Nat × Bool) : Option Bool :=
  Option.rec (some false) (fun t => boolAt regs t g.2) (obind (nthC ops g.1) Oper.dst)
noncomputable def wantedA (ops : List Oper) (regs : Regs) (o : Oper) : Option Bool := Option.rec (some true) (fun g => wantedG ops regs g) o.guard

structure Ev where
  call : Nat → Nat → List TV → St → R                                     -- lo f args
  code : Nat → Option Nat → Code → Fr → St → Option (AX × Fr × St)        -- lo round
  yield : Nat → Nat → List TV → St → R                                    -- lo loop args

noncomputable def ptrs (l : List (Nat × Nat)) : List TV := mapC (fun p => .one (.ptr p.1 p.2)) l
noncomputable def callFn (E : Env) (e : Ev) (lo : Nat) (f : Nat) (args : List TV) (st : St) : R :=
  Option.rec (e.call lo f args st) (fun g => keep st (g args)) (E.ext f)
noncomputable def callVal (E : Env) (e : Ev) (lo : Nat) (fv : Option TV) (args : List TV) (st : St) : R :=
  match fv with
  | some (.one (.fn f first caps)) => callFn E e lo f (appC (ptrs first) (appC args (ptrs caps))) st
  | some (.one (.yield l)) => e.yield lo l args st
  | _ => none
noncomputable def callOp (E : Env) (e : Ev) (lo : Nat) (ev : Operand → Option TV) (c : Call) (st : St) : R :=
  obind (optAll ev c.args.toList) fun args => match c.callee with
    | .builtin b => abuiltin E lo b c.argTypes.toList args st
    | .invoke _ _ => none
    | .value f => callVal E e lo (ev f) args st
noncomputable def heavyStep (E : Env) (e : Ev) (lo : Nat) (ev : Operand → Option TV) (st : St) (op : Op) : R :=
  match op with
  | .call c => callOp E e lo ev c st
  | op => amem E lo ev st op
noncomputable def opStep (E : Env) (e : Ev) (lo : Nat) (ev : Operand → Option TV) (o : Oper) (st : St) : R :=
  bsel (isPure E o.op) (keep st (apure E ev o.op)) (heavyStep E e lo ev st o.op)

noncomputable def resCell (E : Env) (st : St) (p : Option TV) (ty : Nat) : Option (Bool × List CV) :=
  match p with
  | some (.one (.ptr id off)) => obind (E.types ty) fun ti =>
      bsel (isAggK ti.k) (obind (readN st id off ti.size) fun x => some (true, x)) (obind (read1 st id off) fun v => some (false, [v]))
  | _ => none
noncomputable def resOne (E : Env) (regs : Regs) (st : St) (r : ResultVar) : Option (Bool × List CV) :=
  match r with
  | .tmp t => obind (eval regs (.tmp t)) TV.part
  | .cell t ty => resCell E st (eval regs (.tmp t)) ty
noncomputable def resultVal (l : List (Bool × List CV)) : Option TV :=
  match l with
  | [p] => TV.ofPart p
  | l => some (.tup l)

noncomputable def takeMarks (lo : Nat) (ms : List Nat) : St → Option St :=
  List.rec (fun st => some st) (fun m _ ih st => match st.h.get m with
    | some .deferred => bsel (Nat.ble lo m) (ih (setH st m none)) none
    | _ => none) ms
noncomputable def setParams (es : Nat) (ts : List Nat) : List TV → T TV → Nat → Option (T TV) :=
  List.rec (fun vs r _ => List.rec (some r) (fun _ _ _ => none) vs)
    (fun t _ ih vs r n => List.rec none (fun v vs' _ => bsel (Nat.blt t n) (bsel (bit es t) (ih vs' (r.put t (some v)) n) none) none) vs) ts
noncomputable def Fr.flush (f : Fr) : Fr := Fr.rec (fun regs n esc marks => ⟨regs.flush esc, n, esc, marks⟩) f
/-- operations one behind the other -/
noncomputable def seqOps (E : Env) (e : Ev) (lo : Nat) (all l : List Oper) : Fr → St → Option (Fr × St) :=
  List.rec (fun f st => some (f, st)) (fun o _ ih f st =>
    obind (wantedA all f.regs o) fun b => bsel b
      (ob2 (opStep E e lo (eval f.regs) o st) fun v st' => obind (f.put o.dst v) fun f' => ih f' st')
      (obind (f.put o.dst undefV) fun f' => ih f' st)) l

/-! the regions that draw: for each operation those that come ahead of it, as bits -/
def bindsE (e : Edge) : Bool := match e.ground with | .textOnly _ => false | .gcOnly _ => false | _ => true
noncomputable def maskOf (ms : List Nat) (l : List Edge) : Nat :=
  List.rec 0 (fun e _ ih => bsel (bindsE e) (Nat.lor (Nat.lor (Nat.shiftLeft 1 e.on) (Option.rec 0 (fun x => x) (nthC ms e.on))) ih) ih) l
noncomputable def masksFrom (l : List Oper) : List Nat → List Nat := List.rec (fun ms => ms) (fun o _ ih ms => ih (appC ms [maskOf ms o.after.toList])) l
noncomputable def masks (ops : List Oper) : List Nat := masksFrom ops []
def tmpOf : Operand → List Nat
  | .tmp t => [t]
  | _ => []
noncomputable def guardOf (ops : List Oper) (o : Oper) : List Nat :=
  Option.rec [] (fun g => Option.rec [] (fun t => [t]) (obind (nthC ops g.1) Oper.dst)) o.guard
noncomputable def looks (ops : List Oper) (o : Oper) : List Nat := appC (List.rec [] (fun x _ ih => appC (tmpOf x) ih) o.op.operands.toList) (guardOf ops o)
noncomputable def memN (n : Nat) (l : List Nat) : Bool := List.rec false (fun x _ ih => bsel (Nat.beq n x) true ih) l
noncomputable def notIn (d : Option Nat) (l : List Nat) : Bool := Option.rec true (fun d => !(memN d l)) d
noncomputable def differ (d d' : Option Nat) : Bool := Option.rec true (fun d => Option.rec true (fun d' => !(Nat.beq d d')) d') d
/-- two operations in no order: neither writes what the other reads or writes -/
noncomputable def apartA (ops : List Oper) (x y : Oper) : Bool :=
  bsel (notIn x.dst (looks ops y)) (bsel (notIn y.dst (looks ops x)) (differ x.dst y.dst) false) false
noncomputable def okPairs (ops : List Oper) (o : Oper) (m : Nat) (l : List Oper) : Nat → Bool :=
  List.rec (fun _ => true) (fun x _ ih i => bsel (bsel (bit m i) true (apartA ops x o)) (ih (Nat.succ i)) false) l
/-- whatever comes ahead of an operation stands ahead of it -/
noncomputable def okEdges (i : Nat) (l : List Edge) : Bool := List.rec true (fun e _ ih => bsel (bsel (bindsE e) (Nat.blt e.on i) true) ih false) l
noncomputable def okDraw (all : List Oper) (l : List Oper) : List Nat → List Oper → Nat → Bool :=
  List.rec (fun ms _ _ => List.rec true (fun _ _ _ => false) ms)
    (fun o _ ih ms before i => List.rec false (fun m ms' _ => bsel (okPairs all o m before 0) (bsel (okEdges i o.after.toList) (ih ms' (appC before [o]) (Nat.succ i)) false) false) ms) l
/-- for each operation: the operations that all later ones that are not pure wait for -/
noncomputable def sufs (E : Env) (l : List Oper) : List Nat → List Nat :=
  List.rec (fun _ => [Nat.sub (Nat.shiftLeft 1 256) 1])
    (fun o _ ih ms => List.rec [] (fun m ms' _ => List.rec [] (fun s ss _ => (bsel (isPure E o.op) s (Nat.land m s)) :: s :: ss) (ih ms')) ms) l

abbrev CE := Nat × Nat × Nat × T AO
/-- A region that draws, on its way: the frame; the heap behind the last operation that may write; the next id; what is laid and in no operation's heap yet (by the operation's number); all that is laid so; what was loaded from (operation, id); the operations that may write, the last one first: (operation, those ahead of it, what it may write: 0 nothing old, 1 all, n + 2: the object n; the heap behind it). -/
structure DS where
  f : Fr
  h : T AO
  c : Nat
  pend : List (Nat × AO)
  als : List (Nat × AO)
  lds : List (Nat × Nat)
  cs : List CE
noncomputable def addPend (c0 : Nat) (l : List (Nat × AO)) (h : T AO) : T AO := List.rec h (fun p _ ih => Prod.rec (fun i o => ih.put (Nat.add c0 i) (some o)) p) l
noncomputable def pendIn (m : Nat) (l : List (Nat × AO)) : List (Nat × AO) := List.rec [] (fun p _ ih => Prod.rec (fun i o => bsel (bit m i) ((i, o) :: ih) ih) p) l
noncomputable def pendOut (m : Nat) (l : List (Nat × AO)) : List (Nat × AO) := List.rec [] (fun p _ ih => Prod.rec (fun i o => bsel (bit m i) ih ((i, o) :: ih)) p) l
/-- the loads that are in no order with an operation: all from other objects than W? -/
noncomputable def ldsApart (m W : Nat) (l : List (Nat × Nat)) : Bool := List.rec true (fun p _ ih => Prod.rec (fun i a => bsel (bit m i) ih (bsel (Nat.beq a W) false ih)) p) l
noncomputable def ldsNone (m : Nat) (l : List (Nat × Nat)) : Bool := List.rec true (fun p _ ih => Prod.rec (fun i _ => bsel (bit m i) ih false) p) l
/-- may an operation that writes so come behind a load of a? -/
noncomputable def wrOk (k a : Nat) : Bool := Nat.rec true (fun k _ => Nat.rec false (fun W _ => !(Nat.beq W a)) k) k
/-- the heap that a load of a reads: behind the last of the operations that it waits for -/
noncomputable def snap (m a : Nat) (h0 : T AO) (l : List CE) : Option (T AO) :=
  List.rec (some h0) (fun p _ ih => Prod.rec (fun i q => Prod.rec (fun _ q => Prod.rec (fun k h => bsel (bit m i) (some h) (bsel (wrOk k a) ih none)) q) q) p) l
/-- has one of the operations that m waits for found what j laid? -/
noncomputable def absd (m j : Nat) (l : List CE) : Bool :=
  List.rec false (fun p _ ih => Prod.rec (fun i q => Prod.rec (fun mk _ => bsel (bit m i) (bsel (bit mk j) true ih) ih) q) p) l
noncomputable def tmpsO (o : Oper) : List Nat := List.rec [] (fun x _ ih => appC (tmpOf x) ih) o.op.operands.toList
/-- an operation's operands alone -/
noncomputable def evO (o : Oper) (f : Fr) (x : Operand) : Option TV :=
  match x with
  | .tmp t => bsel (memN t (tmpsO o)) (f.regs.get t) none
  | x => eval f.regs x
/-- what a store or a copy writes -/
noncomputable def wrId (ev : Operand → Option TV) (op : Op) : Option Nat :=
  match op with
  | .store _ a _ => match ev a with
    | some (.one (.ptr id _)) => some id
    | _ => none
  | .call c => match c.callee with
    | .builtin .copy => match optAll ev c.args.toList with
      | some [.one (.sl id _ _ _), _] => some id
      | some [.one (.slr id _ _ _ _), _] => some id
      | _ => none
    | _ => none
  | _ => none
noncomputable def dPut (ds : Option DS) (dst : Option Nat) (v : TV) : Option DS :=
  obind ds fun ds => DS.rec (fun f h c pend als lds cs => obind (f.put dst v) fun f' => some ⟨f', h, c, pend, als, lds, cs⟩) ds
/-- which object an operation looks at that looks at one alone -/
noncomputable def fpOf (ev : Operand → Option TV) (op : Op) : Option Nat :=
  match op with
  | .load _ a => match ev a with
    | some (.one (.ptr id _)) => some id
    | _ => none
  | .convert _ _ x => match ev x with
    | some (.one (.sl id _ _ _)) => some id
    | some (.one (.slr id _ _ _ _)) => some id
    | _ => none
  | _ => none
noncomputable def isLd (E : Env) (op : Op) : Bool :=
  match op with
  | .load .. => true
  | .convert s _ _ => Option.rec false (fun ts => isSlK ts.k) (E.types s)
  | _ => false
noncomputable def alsFind (m a c0 : Nat) (cs : List CE) (l : List (Nat × AO)) : Option AO :=
  List.rec none (fun p _ ih => Prod.rec (fun k o => bsel (Nat.beq (Nat.add c0 k) a) (bsel (bit m k) (bsel (absd m k cs) none (some o)) none) ih) p) l
/-- an object as an operation finds it that waits for those of its mask -/
noncomputable def seen (m a c0 : Nat) (h0 : T AO) (als : List (Nat × AO)) (cs : List CE) : Option AO :=
  obind (snap m a h0 cs) fun hs => Option.rec (alsFind m a c0 cs als) (fun o => some o) (hs.get a)
noncomputable def dLoad (E : Env) (c0 : Nat) (h0 : T AO) (m i : Nat) (ev : Operand → Option TV) (o : Oper) (ds : DS) : Option DS :=
  DS.rec (fun f h c pend als lds cs => Option.rec
    (ob2 (amem E c ev ⟨.nil, c⟩ o.op) fun v _ => obind (f.put o.dst v) fun f' => some ⟨f', h, c, pend, als, lds, cs⟩)
    (fun a => obind (seen m a c0 h0 als cs) fun ob => ob2 (amem E c ev ⟨T.nil.put a (some ob), c⟩ o.op) fun v _ => obind (f.put o.dst v) fun f' => some ⟨f', h, c, pend, als, (i, a) :: lds, cs⟩)
    (fpOf ev o.op)) ds
/-- how an operation that may write is run: what of the elder it may write; the mark of it -/
noncomputable def cKind (lo c m s i : Nat) (W : Option Nat) (lds : List (Nat × Nat)) : Nat × Nat :=
  bsel (bsel (bit s i) (ldsNone m lds) false) (lo, 1) (Option.rec (c, 0) (fun W => bsel (ldsApart m W lds) (lo, Nat.succ (Nat.succ W)) (c, 0)) W)
noncomputable def lastIn (m : Nat) (l : List CE) : Bool := List.rec true (fun p _ _ => bit m p.1) l
noncomputable def dHeavy (E : Env) (e : Ev) (lo c0 : Nat) (ev : Operand → Option TV) (o : Oper) (m s i : Nat) (ds : DS) : Option DS :=
  DS.rec (fun f h c pend als lds cs => bsel (lastIn m cs)
    (Prod.rec (fun lo' k => forceT (addPend c0 (pendIn m pend) h) fun hr => ob2 (heavyStep E e lo' ev ⟨hr, c⟩ o.op) fun v st => obind (f.put o.dst v) fun f' =>
      St.rec (fun h' c' => some ⟨f', h', c', pendOut m pend, als, lds, (i, m, k, h') :: cs⟩) st) (cKind lo c m s i (wrId ev o.op) lds)) none) ds
noncomputable def dLay (c0 : Nat) (dst : Option Nat) (i : Nat) (x : AL) (ds : DS) : Option DS :=
  ob2 x fun ob k => DS.rec (fun f h c pend als lds cs => obind (f.put dst (k (Nat.add c0 i))) fun f' => some ⟨f', h, c, (i, ob) :: pend, (i, ob) :: als, lds, cs⟩) ds
noncomputable def dRun (E : Env) (e : Ev) (lo c0 : Nat) (h0 : T AO) (o : Oper) (m s i : Nat) (ds : DS) : Option DS :=
  bsel (isPure E o.op) (obind (apure E (evO o ds.f) o.op) fun v => dPut (some ds) o.dst v)
    (bsel (isAl E o.op) (dLay c0 o.dst i (alaid E (evO o ds.f) o.op) ds)
      (bsel (isLd E o.op) (dLoad E c0 h0 m i (evO o ds.f) o ds) (dHeavy E e lo c0 (evO o ds.f) o m s i ds)))
noncomputable def drawStep (E : Env) (e : Ev) (all : List Oper) (lo c0 : Nat) (h0 : T AO) (o : Oper) (m s i : Nat) (ds : DS) : Option DS :=
  obind (wantedA all ds.f.regs o) fun b => bsel b (dRun E e lo c0 h0 o m s i ds) (dPut (some ds) o.dst undefV)
noncomputable def drawOps (E : Env) (e : Ev) (all : List Oper) (lo c0 : Nat) (h0 : T AO) (l : List Oper) : List Nat → List Nat → Nat → DS → Option DS :=
  List.rec (fun _ _ _ ds => some ds)
    (fun o _ ih ms ss i ds => List.rec none (fun m ms' _ => List.rec none (fun s ss' _ => obind (drawStep E e all lo c0 h0 o m s i ds) (ih ms' ss' (Nat.succ i))) ss) ms) l

abbrev RC := Option (AX × Fr × St)
noncomputable def cSeq (e : Ev) (lo : Nat) (rd : Option Nat) (b : Code) (r : RC) : RC :=
  match r with
  | some (.normal, f, st) => e.code lo rd b f st
  | r => r
noncomputable def cCond (e : Ev) (lo : Nat) (rd : Option Nat) (x : Option TV) (a b : Code) (f : Fr) (st : St) : RC :=
  match x with
  | some (.one (.bool t)) => bsel t (e.code lo rd a f st) (e.code lo rd b f st)
  | _ => none
noncomputable def cBlock (id : Nat) (r : RC) : RC :=
  match r with
  | some (.exit id', f, st) => bsel (Nat.beq id' id) (some (.normal, f, st)) (some (.exit id', f, st))
  | r => r
noncomputable def cOps (r : Option (Fr × St)) : RC := ob2 r fun f st => some (.normal, f.flush, st)
noncomputable def dropOne (l : List Nat) : List Nat := List.rec [] (fun _ xs _ => xs) l
noncomputable def cDraw2 (E : Env) (e : Ev) (lo : Nat) (l : List Oper) (ms : List Nat) (f : Fr) (st : St) : RC :=
  St.rec (fun h c => obind (drawOps E e l lo c h l ms (dropOne (sufs E l ms)) 0 ⟨f, h, Nat.add c (lenC l), [], [], [], []⟩) fun ds =>
    DS.rec (fun f h' c' pend _ _ _ => forceT (addPend c pend h') fun h'' => some (.normal, f.flush, ⟨h'', c'⟩)) ds) st
noncomputable def cDraw (E : Env) (e : Ev) (lo : Nat) (l : List Oper) (f : Fr) (st : St) : RC :=
  bsel (okDraw l l (masks l) [] 0) (cDraw2 E e lo l (masks l) f st) none
noncomputable def cAfter (f : Fr) (st : St) (pend : Option Code) : RC :=
  match pend with
  | none => some (.normal, f, st)
  | some .ret => some (.ret, f, st)
  | some (.exit id) => some (.exit id, f, st)
  | _ => none
noncomputable def cLeave (l : Nat) (f : Fr) (st : St) : RC :=
  match st.h.get l with
  | some (.loop .busy _ _ _ _ _ _ _ _) => none
  | some (.loop _ pend rg n es ps as bd d) => cAfter f (setH st l (some (.loop .exhausted pend rg n es ps as bd d))) pend
  | _ => none
noncomputable def cRange2 (E : Env) (e : Ev) (lo : Nat) (g : Option TV) (ps : List Nat) (as bd : Code) (d : Nat) (f : Fr) (st : St) : RC :=
  match g with
  | some (.one (.fn fn first caps)) => Option.rec (St.rec (fun h c => Fr.rec (fun regs n esc marks => Regs.rec (fun loc base => List.rec
      (ob2 (e.call lo fn (appC (ptrs first) (appC [.one (.yield c)] (ptrs caps))) ⟨h.put c (some (.loop .ready none base n esc ps as bd d)), Nat.succ c⟩) fun _ st' => cLeave c ⟨⟨[], base⟩, n, esc, marks⟩ st')
      (fun _ _ _ => none) loc) regs) f) st)
      (fun _ => none) (E.ext fn)
  | _ => none
noncomputable def cRange (E : Env) (e : Ev) (lo : Nat) (rd : Option Nat) (g : Operand) (ps : List Nat) (as bd : Code) (f : Fr) (st : St) : RC :=
  Option.rec (St.rec (fun h c => Fr.rec (fun regs n esc marks => cRange2 E e lo (eval regs g) ps as bd c ⟨regs, n, esc, c :: marks⟩ ⟨h.put c (some .deferred), Nat.succ c⟩) f) st)
    (fun l => match st.h.get l with
      | some (.loop _ _ _ _ _ _ _ _ d) => cRange2 E e lo (eval f.regs g) ps as bd d f st
      | _ => none) rd
noncomputable def yEnd (l : Nat) (x : AX) (st : St) : R :=
  match st.h.get l with
  | some (.loop _ _ rg n es ps as bd d) => match x with
    | .normal => some (.one (.bool true), setH st l (some (.loop .ready none rg n es ps as bd d)))
    | .ret => some (.one (.bool false), setH st l (some (.loop .done (some .ret) rg n es ps as bd d)))
    | .exit id => some (.one (.bool false), setH st l (some (.loop .done (some (.exit id)) rg n es ps as bd d)))
  | _ => none
noncomputable def yBody (e : Ev) (lo l : Nat) (bd : Code) (r : RC) : R :=
  match r with
  | some (.normal, f, st) => match st.h.get l with
    | some (.loop .ready pd rg n es ps as bd' d) => ob3 (e.code lo (some l) bd f (setH st l (some (.loop .busy pd rg n es ps as bd' d)))) fun x _ st' => yEnd l x st'
    | _ => none
  | _ => none
noncomputable def callBody (E : Env) (e : Ev) (lo : Nat) (fn : AFn) (r : RC) : R :=
  match r with
  | some (x, fr, st) => match x with
    | .exit _ => none
    | _ => Fr.rec (fun regs _ _ marks => obind (takeMarks lo marks st) fun st2 => obind (optAll (resOne E regs st2) fn.results) fun l => obind (resultVal l) fun v => some (v, st2)) fr
  | none => none

noncomputable def oelse {α : Type} (a b : Option α) : Option α := Option.rec b (fun x => some x) a
noncomputable def sBody (E : Env) (e : Ev) (lo f : Nat) (args : List TV) (st : St) : R :=
  obind (E.fns f) fun fn => bsel (Nat.ble (lenC args) fn.n) (callBody E e lo fn (e.code lo none fn.body ⟨⟨[], T.ofList args 0 .nil⟩, fn.n, Nat.lor fn.esc (Nat.sub (Nat.shiftLeft 1 (lenC args)) 1), []⟩ st)) none
noncomputable def sCall (E : Env) (e : Ev) (lo f : Nat) (args : List TV) (st : St) : R :=
  Option.rec (sBody E e lo f args st) (fun g => oelse (g lo args st) (sBody E e lo f args st)) (E.sums f)
noncomputable def sCode (E : Env) (e : Ev) (lo : Nat) (rd : Option Nat) (c : Code) (f : Fr) (st : St) : RC :=
  match c with
  | .skip => some (.normal, f, st)
  | .label _ => some (.normal, f, st)
  | .ret => some (.ret, f, st)
  | .exit id => some (.exit id, f, st)
  | .seq a b => cSeq e lo rd b (e.code lo rd a f st)
  | .cond x a b => cCond e lo rd (eval f.regs x) a b f st
  | .block id b => cBlock id (e.code lo rd b f st)
  | .loop b => cSeq e lo rd (.loop b) (e.code lo rd b f st)
  | .scope b => e.code lo rd b f st
  | .region _ ops draw => bsel draw (cDraw E e lo ops.toList f st) (cOps (seqOps E e lo ops.toList ops.toList f st))
  | .rangeFunc g ps assign body => cRange E e lo rd g ps.toList assign body f st
  | .goto _ => none
  | .refuse _ => none
noncomputable def sYield (e : Ev) (lo l : Nat) (args : List TV) (st : St) : R :=
  match st.h.get l with
  | some (.loop .ready _ rg n es ps as bd _) => bsel (Nat.ble lo l) (obind (setParams es ps args rg n) fun regs => yBody e lo l bd (e.code lo (some l) as ⟨⟨[], regs⟩, n, es, []⟩ st)) none
  | _ => none
noncomputable def stepEv (E : Env) (e : Ev) : Ev := ⟨sCall E e, sCode E e, sYield e⟩
def bot : Ev := ⟨fun _ _ _ _ => none, fun _ _ _ _ _ => none, fun _ _ _ _ => none⟩
noncomputable def run (E : Env) (n : Nat) : Ev := Nat.rec bot (fun _ e => stepEv E e) n

end Go.Abs
