/- An evaluator of code over plain values, proved sound: what a function computes, as a plain function. No condition. -/
import GoSem.Step
import GoSem.Step
import Derived.Laws.Sem
import Derived.Laws.World
import Derived.Laws.Cells
import Derived.Laws.Sem
import Derived.Laws.World
import Derived.Laws.Cells
import Derived.Laws.MakeOwn
import Derived.Laws.Append
import Derived.Laws.MakeOwn
import Derived.Laws.Append
set_option linter.unusedVariables false
set_option linter.unusedSimpArgs false
set_option maxRecDepth 100000
section
namespace Ev
open Go

/-! ## Types of plain values -/
inductive Ty where
  | int (k : IntKind)
  | bool
  | str
  | sl (t : Ty)
  | pair (a b : Ty)
  | unit
  | st (t : Ty)
  | arr (n : Nat) (t : Ty)
  | ip (t : Ty)
  | fn (g : Nat) (t : Ty)
  deriving DecidableEq

@[reducible] def Ty.den : Ty → Type
  | .int _ => Int
  | .bool => Bool
  | .str => ByteArray
  | .sl t => List t.den
  | .pair a b => a.den × b.den
  | .unit => Unit
  | .st t => t.den
  | .arr _ t => List t.den
  | .ip t => t.den
  | .fn _ t => t.den

def Ty.dflt : (t : Ty) → t.den
  | .int _ => (0 : Int)
  | .bool => false
  | .str => ByteArray.empty
  | .sl _ => []
  | .pair a b => (a.dflt, b.dflt)
  | .unit => ()
  | .st t => t.dflt
  | .arr n t => List.replicate n t.dflt
  | .ip t => t.dflt
  | .fn _ t => t.dflt

/-- The cells that a value takes. -/
def Ty.size : Ty → Nat
  | .pair a b => a.size + b.size
  | .unit => 0
  | .st t => t.size
  | .arr n t => n * t.size
  | _ => 1

/-- Is it written as an aggregate? -/
def Ty.agg : Ty → Bool
  | .st _ | .arr _ _ => true
  | _ => false

/-- What of a value is owned: its rows lie in blocks that nobody else knows. -/
inductive Mask where
  | sh
  | sl (m : Mask)
  | pr (a b : Mask)
  | ar (m : Mask)
  deriving DecidableEq

def Mask.l : Mask → Mask | .pr a _ => a | _ => .sh
def Mask.r : Mask → Mask | .pr _ b => b | _ => .sh
def Mask.el : Mask → Mask | .sl m => m | .ar m => m | _ => .sh
/-- An address of one's own: of a pointer, the mask of what it leads to is told as that of an array. -/
def isPt : Ty → Mask → Bool | .ip _, .ar _ => true | _, _ => false
def Mask.isSh : Mask → Bool | .sh => true | _ => false
def Mask.mkpr (a b : Mask) : Mask := match a, b with | .sh, .sh => .sh | a, b => .pr a b
def Mask.mkar (a : Mask) : Mask := match a with | .sh => .sh | a => .ar a

/-- A zero value owns its rows (there are none). -/
def Ty.own1 : Ty → Mask
  | .sl _ => .sl .sh
  | .pair a b => .mkpr a.own1 b.own1
  | .st t => t.own1
  | .arr _ t => .mkar t.own1
  | _ => .sh

/-- The whole of it is owned, as deep as it goes. -/
def Ty.ownAll : Ty → Mask
  | .sl t => .sl t.ownAll
  | .pair a b => .mkpr a.ownAll b.ownAll
  | .st t => t.ownAll
  | .arr _ t => .mkar t.ownAll
  | _ => .sh

/-- Does it hold a row, a pointer or a function? -/
def Ty.refs : Ty → Bool
  | .sl _ | .ip _ | .fn _ _ => true
  | .pair a b => a.refs || b.refs
  | .st t => t.refs
  | .arr _ t => t.refs
  | _ => false

structure Sub where
  τ : Ty
  x : τ.den
  m : Mask

inductive Stp where
  | f (k : Nat)
  | e (i : Nat)

/-- A field of a chain. -/
def fld : (τ : Ty) → τ.den → Mask → Nat → Option Sub
  | .pair a _, x, m, 0 => some ⟨a, x.1, m.l⟩
  | .pair _ b, x, m, k + 1 => fld b x.2 m.r k
  | τ, x, m, 0 => some ⟨τ, x, m⟩
  | _, _, _, _ => none

def cast? (σ τ : Ty) (x : σ.den) : Option τ.den := if h : σ = τ then some (h ▸ x) else none

/-- A field of a chain, turned; its type stays. -/
def setFld : (τ : Ty) → τ.den → Mask → Nat → Sub → Option (τ.den × Mask)
  | .pair a _, x, m, 0, s => (cast? s.τ a s.x).map fun y => ((y, x.2), .mkpr s.m m.r)
  | .pair _ b, x, m, k + 1, s => (setFld b x.2 m.r k s).map fun u => ((x.1, u.1), .mkpr m.l u.2)
  | τ, _, _, 0, s => (cast? s.τ τ s.x).map fun y => (y, s.m)
  | _, _, _, _, _ => none

def getP : (τ : Ty) → τ.den → Mask → List Stp → Option Sub
  | τ, x, m, [] => some ⟨τ, x, m⟩
  | .st t, x, m, .f k :: p => (fld t x m k).bind fun s => getP s.τ s.x s.m p
  | .sl t, x, m, .e i :: p => getP t (List.getD x i t.dflt) m.el p
  | .arr _ t, x, m, .e i :: p => getP t (List.getD x i t.dflt) m.el p
  | _, _, _, _ :: _ => none
termination_by structural _ _ _ p => p

def setP : (τ : Ty) → τ.den → Mask → List Stp → Sub → Option (τ.den × Mask)
  | τ, _, _, [], s => (cast? s.τ τ s.x).map fun y => (y, s.m)
  | .st t, x, m, .f k :: p, s => (fld t x m k).bind fun u => (setP u.τ u.x u.m p s).bind fun y => setFld t x m k ⟨u.τ, y.1, y.2⟩
  | .sl t, x, m, .e i :: p, s => (setP t (List.getD x i t.dflt) m.el p s).bind fun y =>
    if y.2 = m.el then some (List.set x i y.1, m) else none
  | .arr _ t, x, m, .e i :: p, s => (setP t (List.getD x i t.dflt) m.el p s).bind fun y =>
    if y.2 = m.el then some (List.set x i y.1, m) else none
  | _, _, _, _ :: _, _ => none
termination_by structural _ _ _ p => p

/-- Does a path go through a row or an array? -/
def deref : List Stp → Bool
  | [] => false
  | .f _ :: p => deref p
  | .e _ :: _ => true

/-! ## States -/
inductive AV where
  | imm (τ : Ty) (x : τ.den)
  | ref (l : Nat) (p : List Stp) (v : Nat)
  | adr (l : Nat) (p : List Stp) (v : Nat)

structure Entry where
  τ : Ty
  x : τ.den
  m : Mask
  mem : Bool
  fz : Bool
  v : Nat

structure St where
  t : List (Nat × List AV)
  h : List (Nat × Entry)
  n : Nat

def slot : List (Nat × List AV) → Nat → List AV
  | [], _ => []
  | (k, v) :: r, d => cond (Nat.beq k d) v (slot r d)

def putT (t : List (Nat × List AV)) (d : Option Nat) (v : List AV) : List (Nat × List AV) :=
  match d with
  | some d => (d, v) :: t
  | none => t

def hget : List (Nat × Entry) → Nat → Option Entry
  | [], _ => none
  | (k, v) :: r, d => cond (Nat.beq k d) (some v) (hget r d)
def hdel : List (Nat × Entry) → Nat → List (Nat × Entry)
  | [], _ => []
  | (k, v) :: r, d => cond (Nat.beq k d) (hdel r d) ((k, v) :: hdel r d)
abbrev Ups := List (Nat × Option Entry)
def app : Ups → List (Nat × Entry) → List (Nat × Entry)
  | [], h => h
  | (k, some e) :: r, h => app r ((k, e) :: h)
  | (k, none) :: r, h => app r (hdel h k)

/-! ## Tables -/
inductive TD where
  | int (k : IntKind) | bool | str
  | slice (e : TypeId)
  | struct (fs : List (TypeId × Nat))
  | array (n : Nat) (e : TypeId)
  | ptr (e : TypeId)
  | other
structure TI where
  d : TD
  bytes : Nat
  size : Nat
  agg : Bool
  τ : Option Ty

inductive Prm where
  | imm (τ : Ty)
  | io (τ : Ty) (m : Mask) (mem : Bool)
  | take (τ : Ty) (m : Mask)
def Prm.ty : Prm → Ty | .imm τ => τ | .io τ _ _ => τ | .take τ _ => τ
def chain : List Ty → Ty
  | [] => .unit
  | [a] => a
  | a :: r => .pair a (chain r)
def chainU : List Ty → Ty
  | [] => .unit
  | a :: r => .pair a (chainU r)
def outsOf : List Prm → List Ty
  | [] => []
  | .io τ _ _ :: r => τ :: outsOf r
  | .imm _ :: r => outsOf r
  | .take _ _ :: r => outsOf r
def resTy (rs : List Ty) : List Ty → Ty
  | [] => chain rs
  | o :: os => .pair (chain rs) (chainU (o :: os))
/-- What a function computes. -/
structure FM where
  g : Nat
  ps : List Prm
  rs : List (Ty × Mask)
  f : (chain (ps.map Prm.ty)).den → Option (resTy (rs.map (·.1)) (outsOf ps)).den

structure Env where
  TT : TypeId → Option TI
  Φ : List FM
  A : List (Nat × Nat × Ty × Mask)

end Ev
end

section
namespace Ev
open Go

variable {R : Type}

/-! ## Operands -/
def opd (t : List (Nat × List AV)) : Operand → List AV
  | .tmp d => slot t d
  | .const (.int k n) => [.imm (.int k) n]
  | .const (.bool b) => [.imm .bool b]
  | .const (.string b) => [.imm .str b]
  | .func f => [.imm (.fn f .unit) ()]
  | _ => []

def isNil : List Stp → Bool | [] => true | _ => false
/-- Does a name with a path still mean what it meant? v counts the stores into the entry. -/
def aliveR (e : Entry) (p : List Stp) (v : Nat) : Bool := (!e.mem && isNil p) || Nat.beq v e.v
/-- Addresses outlive stores that turn no row; so the count of stores is told in two parts. -/
def vUp (v : Nat) : Nat := (v / 65536 + 1) * 65536
def vSt (τ : Ty) (v : Nat) : Nat := cond τ.refs (vUp v) (v + 1)
def aliveA (e : Entry) (p : List Stp) (v : Nat) : Bool := !deref p || Nat.beq (v / 65536) (e.v / 65536)

/-- The content at a path. -/
def atR (look : Nat → Option Entry) (l : Nat) (p : List Stp) (v : Nat) : Option Sub :=
  match look l with
  | some e => match getP e.τ e.x e.m p with
    | some u => cond (aliveR e p v) (some u) none
    | none => none
  | none => none
def atA (look : Nat → Option Entry) (l : Nat) (p : List Stp) (v : Nat) : Option Sub :=
  match look l with
  | some e => cond (aliveA e p v) (getP e.τ e.x e.m p) none
  | none => none
def isFz (look : Nat → Option Entry) (l : Nat) : Bool := match look l with | some e => e.fz | none => false
def verOf (look : Nat → Option Entry) (l : Nat) : Nat := match look l with | some e => e.v | none => 0
def mkRef (look : Nat → Option Entry) (l : Nat) (p : List Stp) : AV := .ref l p (verOf look l)

/-- What a value is, now. -/
def res (look : Nat → Option Entry) : AV → Option AV
  | .imm .unit _ => none
  | .imm τ x => some (.imm τ x)
  | .ref l p v => match atR look l p v with
    | some u => some (cond (isFz look l || u.m.isSh) (.imm u.τ u.x) (.ref l p v))
    | none => none
  | .adr l p v => match atA look l p v with
    | some u => some (cond (isFz look l) (.imm (.ip u.τ) u.x) (.adr l p v))
    | none => none

/-- Its content, az something that stays. -/
def cont (look : Nat → Option Entry) : AV → Option Sub
  | .imm .unit _ => none
  | .imm τ x => some ⟨τ, x, .sh⟩
  | .ref l p v => atR look l p v
  | .adr l p v => match atA look l p v with
    | some u => some ⟨.ip u.τ, u.x, u.m⟩
    | none => none

def AV.ids : List AV → List Nat
  | [] => []
  | .imm _ _ :: r => AV.ids r
  | .ref l _ _ :: r => l :: AV.ids r
  | .adr l _ _ :: r => l :: AV.ids r

abbrev Kt (R : Type) := List AV → Ups → Option R

/-! ## Numbers -/
def ibits (op : BinOp) (k : IntKind) (x y : Int) : Int :=
  match op with
  | .and => k.wrap ((BitVec.ofInt k.bits x &&& BitVec.ofInt k.bits y).toNat)
  | .or => k.wrap ((BitVec.ofInt k.bits x ||| BitVec.ofInt k.bits y).toNat)
  | .xor => k.wrap ((BitVec.ofInt k.bits x ^^^ BitVec.ofInt k.bits y).toNat)
  | _ => k.wrap ((BitVec.ofInt k.bits x &&& ~~~BitVec.ofInt k.bits y).toNat)

def intOp (op : BinOp) (k : IntKind) (a b : Int) (K : AV → Option R) : Option R :=
  match op with
  | .add => K (.imm (.int k) (k.wrap (a + b)))
  | .sub => K (.imm (.int k) (k.wrap (a - b)))
  | .mul => K (.imm (.int k) (k.wrap (a * b)))
  | .quo => cond (decide (b = 0)) none (K (.imm (.int k) (k.wrap (a.tdiv b))))
  | .rem => cond (decide (b = 0)) none (K (.imm (.int k) (a.tmod b)))
  | .lss => K (.imm .bool (decide (a < b)))
  | .leq => K (.imm .bool (decide (a ≤ b)))
  | .gtr => K (.imm .bool (decide (a > b)))
  | .geq => K (.imm .bool (decide (a ≥ b)))
  | .eql => K (.imm .bool (a == b))
  | .neq => K (.imm .bool (a != b))
  | .and => K (.imm (.int k) (ibits .and k a b))
  | .or => K (.imm (.int k) (ibits .or k a b))
  | .xor => K (.imm (.int k) (ibits .xor k a b))
  | .andNot => K (.imm (.int k) (ibits .andNot k a b))
  | _ => none

def shOp (op : BinOp) (k : IntKind) (a b : Int) (K : AV → Option R) : Option R :=
  cond (decide (b < 0)) none
    (match op with
    | .shl => K (.imm (.int k) (k.wrap (a * 2 ^ (min b.toNat k.bits))))
    | .shr => K (.imm (.int k) (a.fdiv (2 ^ (min b.toNat k.bits))))
    | _ => none)

def strOp (op : BinOp) (x y : ByteArray) (K : AV → Option R) : Option R :=
  match op with
  | .add => cond (decide (x.size + y.size ≤ 9223372036854775807)) (K (.imm .str (x ++ y))) none
  | .eql => K (.imm .bool (x.toList == y.toList))
  | .neq => K (.imm .bool (!(x.toList == y.toList)))
  | .lss => K (.imm .bool (Op.bytesLess x.toList y.toList))
  | .leq => K (.imm .bool (Op.bytesLess x.toList y.toList || x.toList == y.toList))
  | .gtr => K (.imm .bool (!(Op.bytesLess x.toList y.toList || x.toList == y.toList)))
  | .geq => K (.imm .bool (!Op.bytesLess x.toList y.toList))
  | _ => none

def una (op : UnOp) (a : AV) (K : AV → Option R) : Option R :=
  match op, a with
  | .not, .imm .bool b => K (.imm .bool (!b))
  | .neg, .imm (.int k) n => K (.imm (.int k) (k.wrap (0 - n)))
  | .xor, .imm (.int k) n => K (.imm (.int k) (ibits .xor k (if k.signed then -1 else k.max) n))
  | _, _ => none

def isBool (E : Env) (T : TypeId) : Bool :=
  match E.TT T with
  | some { d := .bool, .. } => true
  | _ => false
/-- Equality of plain values of numbers, bools and strings. -/
def eqDen : (τ : Ty) → τ.den → τ.den → Bool
  | .int _, a, b => a == b
  | .bool, a, b => a == b
  | .str, a, b => a.toList == b.toList
  | .pair s t, a, b => eqDen s a.1 b.1 && eqDen t a.2 b.2
  | _, _, _ => true
def eqSc (E : Env) (T : TypeId) (t : Ty) : Bool :=
  match E.TT T, t with
  | some { d := .int k, .. }, .int k' => decide (k = k')
  | some { d := .bool, .. }, .bool => true
  | _, _ => false
def eqFlat (E : Env) : List (TypeId × Nat) → Ty → Nat → Bool
  | [(T, off)], t, o => Nat.beq off o && eqSc E T t
  | (T, off) :: r, .pair a b, o => Nat.beq off o && (eqSc E T a && eqFlat E r b (o + 1))
  | _, _, _ => false
def eqOk (E : Env) (T : TypeId) (t : Ty) : Bool :=
  match E.TT T with
  | some { d := .struct fs, τ := some _, .. } => eqFlat E fs t 0
  | _ => false
def bin (E : Env) (T : TypeId) (op : BinOp) (a b : AV) (K : AV → Option R) : Option R :=
  match op, a, b with
  | .shl, .imm (.int k) a, .imm (.int _) b => shOp .shl k a b K
  | .shr, .imm (.int k) a, .imm (.int _) b => shOp .shr k a b K
  | op, .imm (.int k) a, .imm (.int k') b => cond (decide (k = k')) (intOp op k a b K) none
  | op, .imm .str a, .imm .str b => strOp op a b K
  | .eql, .imm .bool a, .imm .bool b => cond (isBool E T) (K (.imm .bool (a == b))) none
  | .neq, .imm .bool a, .imm .bool b => cond (isBool E T) (K (.imm .bool (!(a == b)))) none
  | .eql, .imm (.st t) a, .imm (.st u) b => match cast? (.st u) (.st t) b with
    | some b => cond (eqOk E T t) (K (.imm .bool (eqDen t a b))) none
    | none => none
  | .neq, .imm (.st t) a, .imm (.st u) b => match cast? (.st u) (.st t) b with
    | some b => cond (eqOk E T t) (K (.imm .bool (!eqDen t a b))) none
    | none => none
  | _, _, _ => none


/-! ## Memory -/
/-- Types of values (not of chains of fields). -/
def Ty.isV : Ty → Bool | .pair _ _ => false | .unit => false | _ => true

def inRange (n : Int) (len : Nat) (K : Option R) : Option R := cond (decide (0 ≤ n)) (cond (decide (n < (len : Int))) K none) none

def szOf (E : Env) (t : TypeId) : Nat := match E.TT t with | some i => i.size | none => 0
def aggOf (E : Env) (t : TypeId) : Bool := match E.TT t with | some i => i.agg | none => false

def elemSz (E : Env) (T : TypeId) (t : Ty) : Bool :=
  match E.TT T with
  | some { d := .slice e, .. } => Nat.ble 1 t.size && Nat.beq (szOf E e) t.size
  | some { d := .array _ e, .. } => Nat.ble 1 t.size && Nat.beq (szOf E e) t.size
  | _ => false
def elemId (E : Env) (T : TypeId) : TypeId :=
  match E.TT T with
  | some { d := .array _ e, .. } => e
  | some { d := .slice e, .. } => e
  | _ => 0
def elAgg (E : Env) (T : TypeId) (t : Ty) : Bool :=
  match E.TT (elemId E T) with
  | some i => Nat.beq i.size t.size && cond i.agg t.agg (!t.agg)
  | none => false
def isArr (E : Env) (T : TypeId) (n : Nat) : Bool :=
  match E.TT T with
  | some { d := .array n' _, .. } => Nat.beq n n'
  | _ => false
def isStr (E : Env) (T : TypeId) : Bool :=
  match E.TT T with
  | some { d := .str, .. } => true
  | _ => false
def isSl (E : Env) (T : TypeId) : Bool :=
  match E.TT T with
  | some { d := .slice _, .. } => true
  | _ => false

def idxAddr (E : Env) (look : Nat → Option Entry) (T : TypeId) (a : AV) (n : Int) (K : Kt R) : Option R :=
  match res look a with
  | some (.imm (.sl t) xs) => cond (isSl E T && elemSz E T t) (inRange n (List.length xs) (K [.imm (.ip t) (List.getD xs n.toNat t.dflt)] [])) none
  | some (.imm (.ip (.arr k t)) xs) => cond (isArr E T k && elemSz E T t && Nat.ble 2 k) (inRange n k (K [.imm (.ip t) (List.getD xs n.toNat t.dflt)] [])) none
  | some (.ref l p v) =>
    match atR look l p v with
    | some ⟨.sl t, xs, .sl _⟩ => cond (isSl E T && elemSz E T t) (inRange n (List.length xs) (K [.adr l (p ++ [.e n.toNat]) (verOf look l)] [])) none
    | _ => none
  | some (.adr l p v) =>
    match atA look l p v with
    | some ⟨.arr k t, _, _⟩ => cond (isArr E T k && elemSz E T t && Nat.ble 2 k) (inRange n k (K [.adr l (p ++ [.e n.toNat]) (verOf look l)] [])) none
    | _ => none
  | _ => none

def offOf : (τ : Ty) → Nat → Nat
  | .pair a b, k + 1 => a.size + offOf b k
  | _, _ => 0

def fldOk (E : Env) (T : TypeId) (t : Ty) (k : Nat) (u : Ty) : Bool :=
  match E.TT T with
  | some { d := .struct fs, .. } =>
    match fs[k]? with
    | some (ft, off) => Nat.beq off (offOf t k) && (Nat.beq (szOf E ft) u.size && (Nat.ble 1 u.size && (cond (aggOf E ft) u.agg (!u.agg))))
    | none => false
  | _ => false

def fAddr (E : Env) (look : Nat → Option Entry) (T : TypeId) (a : AV) (k : Nat) (K : Kt R) : Option R :=
  match res look a with
  | some (.imm (.ip (.st t)) x) => match fld t x .sh k with
    | some u => cond (fldOk E T t k u.τ) (K [.imm (.ip u.τ) u.x] []) none
    | none => none
  | some (.adr l p v) => match atA look l p v with
    | some ⟨.st t, x, m⟩ => match fld t x m k with
      | some u => cond (fldOk E T t k u.τ) (K [.adr l (p ++ [.f k]) v] []) none
      | none => none
    | _ => none
  | _ => none

def fVal (E : Env) (look : Nat → Option Entry) (T : TypeId) (a : AV) (k : Nat) (K : Kt R) : Option R :=
  match res look a with
  | some (.imm (.st t) x) => match fld t x .sh k with
    | some u => cond (fldOk E T t k u.τ) (K [.imm u.τ u.x] []) none
    | none => none
  | some (.ref l p v) => match atR look l p v with
    | some ⟨.st t, x, m⟩ => match fld t x m k with
      | some u => cond (fldOk E T t k u.τ) (K [cond u.m.isSh (.imm u.τ u.x) (mkRef look l (p ++ [.f k]))] []) none
      | none => none
    | _ => none
  | _ => none

def loadA (E : Env) (look : Nat → Option Entry) (T : TypeId) (a : AV) (K : Kt R) : Option R :=
  match res look a with
  | some (.imm (.ip t) x) => cond (Nat.ble 1 t.size && (Nat.beq (szOf E T) t.size && cond (aggOf E T) t.agg (!t.agg))) (K [.imm t x] []) none
  | some (.adr l p v) => match atA look l p v with
    | some ⟨t, x, m⟩ => cond (Nat.ble 1 t.size && (Nat.beq (szOf E T) t.size && cond (aggOf E T) t.agg (!t.agg))) (K [cond m.isSh (.imm t x) (mkRef look l p)] []) none
    | _ => none
  | _ => none

/-- A value to be laid into a place: az one's own if it can be, else frozen. -/
def laid {A : Type} (look : Nat → Option Entry) (v : AV) (own : Sub → Option A) (K : A → Ups → Option R) : Option R :=
  match res look v with
  | some (.imm τ x) => match own ⟨τ, x, .sh⟩ with
    | some u => K u []
    | none => none
  | some (.ref l [] _) => match look l with
    | some e => cond e.mem none (match own ⟨e.τ, e.x, e.m⟩ with
      | some u => K u [(l, none)]
      | none => match own ⟨e.τ, e.x, .sh⟩ with
        | some u => K u [(l, some { e with fz := true })]
        | none => none)
    | none => none
  | _ => none

def storeA (E : Env) (look : Nat → Option Entry) (T : TypeId) (a v : AV) (K : Kt R) : Option R :=
  match a with
  | .adr l p w => match look l with
    | some e => cond (e.fz || !aliveA e p w) none (match getP e.τ e.x e.m p with
      | some u => cond (Nat.beq (szOf E T) u.τ.size && (Nat.ble 1 u.τ.size && u.τ.isV))
        (laid look v (fun s => setP e.τ e.x e.m p s)
          fun q ups => cond (ups.any fun c => Nat.beq c.1 l) none (K [] (ups ++ [(l, some ⟨e.τ, q.1, q.2, e.mem, false, vSt u.τ e.v⟩)]))) none
      | none => none)
    | none => none
  | _ => none

def mkRes (id : Nat) (u : Sub) (K : Kt R) (ups : Ups) : Option R :=
  cond u.m.isSh (K [.imm u.τ u.x] ups) (K [.ref id [] 0] (ups ++ [(id, some ⟨u.τ, u.x, u.m, false, false, 0⟩)]))

def tyI (E : Env) (t : TypeId) : Option Ty := (E.TT t).bind TI.τ

def partsIn (look : Nat → Option Entry) (mk : Nat → Stp) (chk : Nat → Ty → Bool) : List (Nat × List AV) → Sub → Ups → (Sub → Ups → Option R) → Option R
  | [], u, ups, K => K u ups
  | (i, [v]) :: r, u, ups, K => laid look v (fun s => cond (chk i s.τ) (setP u.τ u.x u.m [mk i] s) none)
      fun y ups' => partsIn look mk chk r ⟨u.τ, y.1, y.2⟩ (ups ++ ups') K
  | _ :: _, _, _, _ => none

def distinct : Ups → Bool
  | [] => true
  | (k, _) :: r => !(r.any fun q => Nat.beq q.1 k) && distinct r

def fieldsIn (E : Env) (T : TypeId) : Bool :=
  match E.TT T with
  | some { d := .struct fs, .. } => fs.all fun q => (E.TT q.1).isSome
  | _ => false

def build (E : Env) (look : Nat → Option Entry) (id : Nat) (T : TypeId) (parts : List (Nat × List AV)) (K : Kt R) : Option R :=
  match tyI E T with
  | some (.st t) => cond (fieldsIn E T) (partsIn look .f (fun k u => fldOk E T t k u && u.isV) parts ⟨.st t, t.dflt, (Ty.st t).own1⟩ [] fun u ups => cond (distinct ups) (mkRes id u K ups) none) none
  | some (.arr n t) => cond (isArr E T n && elemSz E T t && t.isV) (partsIn look .e (fun i _ => Nat.blt i n) parts ⟨.arr n t, (Ty.arr n t).dflt, (Ty.arr n t).own1⟩ [] fun u ups => cond (distinct ups) (mkRes id u K ups) none) none
  | _ => none

def annOf (E : Env) (reg i : Nat) : List (Nat × Nat × Ty × Mask) → Option (Ty × Mask)
  | [] => none
  | (r, j, q) :: l => cond (Nat.beq r reg && Nat.beq j i) (some q) (annOf E reg i l)

def elTy (E : Env) (T : TypeId) : Option (Ty × TI) :=
  match E.TT T with
  | some { d := .slice e, .. } => (E.TT e).bind fun i => i.τ.bind fun t => cond t.isV (some (t, i)) none
  | _ => none

def annM (E : Env) (reg i : Nat) : Mask := match annOf E reg i E.A with | some q => q.2 | none => .sh

def buildSl (E : Env) (look : Nat → Option Entry) (reg i id : Nat) (T : TypeId) (len : Nat) (parts : List (Nat × List AV)) (K : Kt R) : Option R :=
  match elTy E T with
  | some (t, _) => cond (elemSz E T t && Nat.ble (len * t.size) 16777216)
      (partsIn look .e (fun i _ => Nat.blt i len) parts ⟨.arr len t, (Ty.arr len t).dflt, .ar (annM E reg i)⟩ [] fun u ups => cond (distinct ups) (match cast? u.τ (.arr len t) u.x with
        | some xs => K [.ref id [] 0] (ups ++ [(id, some ⟨.sl t, xs, .sl (annM E reg i), false, false, 0⟩)])
        | none => none) none) none
  | none => none

def lim (b : Nat) : Nat := 140737488355328 / b

def makeSl (E : Env) (reg i id : Nat) (T : TypeId) (len cap : AV) (K : Kt R) : Option R :=
  match elTy E T, len, cap with
  | some (t, ti), .imm (.int _) n, .imm (.int _) c => match (match annOf E reg i E.A with | some q => q | none => (t, t.own1)) with
    | (t', m) => cond (decide (t' = t) && (Nat.ble 1 ti.bytes && Nat.ble 1 t.size))
      (cond (decide (0 ≤ n)) (cond (decide (n ≤ c)) (cond (decide (c ≤ (lim ti.bytes : Int))) (K [.ref id [] 0] [(id, some ⟨.sl t, List.replicate n.toNat t.dflt, .sl m, false, false, 0⟩)]) none) none) none) none
  | _, _, _ => none

def numOf : Option AV → Nat → Option Int
  | none, d => some (d : Int)
  | some (.imm (.int _) n), _ => some n
  | _, _ => none

def sliceV (E : Env) (look : Nat → Option Entry) (id : Nat) (T : TypeId) (a : AV) (lo hi : Option AV) (K : Kt R) : Option R :=
  match res look a with
  | some (.imm .str s) => match numOf lo 0, numOf hi s.size with
    | some l, some h => cond (isStr E T) (cond (decide (0 ≤ l)) (cond (decide (l ≤ h)) (cond (decide (h ≤ (s.size : Int))) (K [.imm .str (s.extract l.toNat h.toNat)] []) none) none) none) none
    | _, _ => none
  | some (.imm (.sl t) xs) => match numOf lo 0, numOf hi (List.length xs) with
    | some l, some h => cond (isSl E T && elemSz E T t) (cond (decide (0 ≤ l)) (cond (decide (l ≤ h)) (cond (decide (h ≤ (List.length xs : Int))) (K [.imm (.sl t) (List.drop l.toNat (List.take h.toNat xs))] []) none) none) none) none
    | _, _ => none
  | some (.ref k [] _) => match look k with
    | some ⟨.sl t, xs, .sl m, false, false, _⟩ => match numOf lo 0, numOf hi (List.length xs) with
      | some l, some h => cond (isSl E T && elemSz E T t) (cond (decide (0 ≤ l)) (cond (decide (l ≤ h)) (cond (decide (h ≤ (List.length xs : Int)))
          (K [.ref id [] 0] [(k, none), (id, some ⟨.sl t, List.drop l.toNat (List.take h.toNat xs), .sl m, false, false, 0⟩)]) none) none) none) none
      | _, _ => none
    | _ => none
  | _ => none

/-- x[:0:0]: an empty row. -/
def slice0 (E : Env) (look : Nat → Option Entry) (reg i id : Nat) (T : TypeId) (a : AV) (K : Kt R) : Option R :=
  match cont look a with
  | some ⟨.sl t, _, _⟩ => cond (isSl E T && elemSz E T t) (K [.ref id [] 0] [(id, some ⟨.sl t, [], .sl (annM E reg i), false, false, 0⟩)]) none
  | _ => none

/-- What is appended: its elements; what becomes of its entry. -/
def srcV (look : Nat → Option Entry) (k : Nat) (b : AV) (t : Ty) (m : Mask) (K : List t.den → Ups → Option R) : Option R :=
  match res look b with
  | some (.imm (.sl u) ys) => match cast? (.sl u) (.sl t) ys with
    | some ys => cond m.isSh (K ys []) none
    | none => none
  | some (.imm .str s) => match cast? (.sl (.int .u8)) (.sl t) (s.toList.map fun c => (c.toNat : Int)) with
    | some ys => cond m.isSh (K ys []) none
    | none => none
  | some (.ref l [] _) => match look l with
    | some ⟨.sl u, ys, .sl m', false, false, v⟩ => match cast? (.sl u) (.sl t) ys with
      | some zs => cond (Nat.beq k l) none
          (cond (!t.refs && m.isSh) (K zs [])
            (cond (decide (m = m')) (K zs [(l, none)])
              (cond m.isSh (K zs [(l, some ⟨.sl u, ys, .sl m', false, true, v⟩)]) none)))
      | none => none
    | _ => none
  | _ => none
def okArg (E : Env) (T : TypeId) : Bool := isSl E T || isStr E T
def appendV (E : Env) (look : Nat → Option Entry) (id : Nat) (T T' : TypeId) (a b : AV) (K : Kt R) : Option R :=
  match a, elTy E T with
  | .ref k [] _, some (_, ti) => match look k with
    | some ⟨.sl t, xs, .sl m, false, false, _⟩ =>
      cond (Nat.beq ti.size t.size && (Nat.ble 1 ti.bytes && (Nat.ble 1 t.size && okArg E T')))
        (srcV look k b t m fun ys ups => cond (decide (List.length xs + List.length ys ≤ lim ti.bytes))
          (K [.ref id [] 0] (ups ++ [(k, none), (id, some ⟨.sl t, xs ++ ys, .sl m, false, false, 0⟩)])) none) none
    | _ => none
  | _, _ => none

/-! string(bytes) -/
def isU8 (E : Env) (T : TypeId) : Bool :=
  match E.TT T with
  | some { d := .int .u8, .. } => true
  | _ => false
def elU8 (E : Env) (T : TypeId) : Bool :=
  match E.TT T with
  | some { d := .slice e, .. } => isU8 E e
  | _ => false
def strOf (ns : List Int) : ByteArray := ns.foldl (fun r n => r.push (UInt8.ofNat n.toNat)) ByteArray.empty
def bytesV (look : Nat → Option Entry) (a : AV) (K : Kt R) : Option R :=
  match cont look a with
  | some ⟨.sl t, xs, _⟩ => match cast? (.sl t) (.sl (.int .u8)) xs with
    | some ys => K [.imm .str (strOf ys)] []
    | none => none
  | _ => none

def lenV (E : Env) (look : Nat → Option Entry) (T : TypeId) (a : AV) (K : Kt R) : Option R :=
  match cont look a with
  | some ⟨.sl _, xs, _⟩ => cond (isSl E T) (K [.imm (.int .i64) (List.length xs : Int)] []) none
  | some ⟨.str, s, _⟩ => cond (isStr E T) (K [.imm (.int .i64) (ByteArray.size s : Int)] []) none
  | some ⟨.arr n _, _, _⟩ => cond (isArr E T n) (K [.imm (.int .i64) (n : Int)] []) none
  | _ => none

/-! ## Calls -/
def unch : (τ : Ty) → τ.den → List AV
  | .unit, _ => []
  | .pair a b, x => .imm a x.1 :: unch b x.2
  | τ, x => [.imm τ x]

def Ty.hasSh : Ty → Mask → Bool
  | .sl t, .sl m => t.hasSh m
  | .sl _, _ => true
  | .pair a b, m => a.hasSh m.l || b.hasSh m.r
  | .st t, m => t.hasSh m
  | .arr _ t, m => t.hasSh m.el
  | .ip _, _ => true
  | .fn _ _, _ => true
  | _, _ => false

def fit1 (look : Nat → Option Entry) : Prm → AV → Bool
  | .imm τ, v => match cont look v with | some u => decide (u.τ = τ) | none => false
  | .io τ m mem, .ref l [] _ => match look l with | some e => !mem && (!e.mem && (!e.fz && (decide (e.τ = τ) && decide (e.m = m)))) | none => false
  | .io τ m mem, .adr l [] _ => match look l with | some e => mem && (e.mem && (!e.fz && (decide (e.τ = τ) && decide (e.m = m)))) | none => false
  | .take τ m, .ref l [] _ => match look l with | some e => !e.mem && (!e.fz && (decide (e.τ = τ) && decide (e.m = m))) | none => false
  | _, _ => false
def fits (look : Nat → Option Entry) : List Prm → List AV → Bool
  | [], [] => true
  | p :: ps, v :: vs => fit1 look p v && fits look ps vs
  | _, _ => false
def findFM (look : Nat → Option Entry) (g : Nat) (vs : List AV) : List FM → Option FM
  | [] => none
  | m :: r => cond (Nat.beq m.g g && fits look m.ps vs) (some m) (findFM look g vs r)

def arg1 (look : Nat → Option Entry) (p : Prm) (v : AV) (K : p.ty.den → Option R) : Option R :=
  match p, v with
  | .imm τ, v => match cont look v with | some u => (match cast? u.τ τ u.x with | some x => K x | none => none) | none => none
  | .io τ _ _, .ref l _ _ => match look l with | some e => (match cast? e.τ τ e.x with | some x => K x | none => none) | none => none
  | .io τ _ _, .adr l _ _ => match look l with | some e => (match cast? e.τ τ e.x with | some x => K x | none => none) | none => none
  | .take τ _, .ref l _ _ => match look l with | some e => (match cast? e.τ τ e.x with | some x => K x | none => none) | none => none
  | _, _ => none
def args (look : Nat → Option Entry) : (ps : List Prm) → List AV → (K : (chain (ps.map Prm.ty)).den → Option R) → Option R
  | [], [], K => K ()
  | [p], [v], K => arg1 look p v K
  | p :: q :: ps, v :: vs, K => arg1 look p v fun x => args look (q :: ps) vs fun y => K (x, y)
  | _, _, _ => none

/-- Entries that are read by a call whose results may share them, and that aren't shared yet. -/
def toFrz (look : Nat → Option Entry) : List Prm → List AV → Ups
  | .imm _ :: ps, .ref l _ _ :: vs => (match look l with | some e => cond (e.fz || (toFrz look ps vs).any fun q => Nat.beq q.1 l) (toFrz look ps vs) ((l, some { e with fz := true }) :: toFrz look ps vs) | none => toFrz look ps vs)
  | .imm _ :: ps, .adr l _ _ :: vs => (match look l with | some e => cond (e.fz || (toFrz look ps vs).any fun q => Nat.beq q.1 l) (toFrz look ps vs) ((l, some { e with fz := true }) :: toFrz look ps vs) | none => toFrz look ps vs)
  | _ :: ps, _ :: vs => toFrz look ps vs
  | _, _ => []

/-- The results: values, and new entries from id on. -/
def ress1 (id : Nat) : (τ : Ty) → Mask → τ.den → AV × Ups
  | .ip t, .ar m, x => (.adr id [] 0, [(id, some ⟨t, x, m, true, false, 0⟩)])
  | τ, m, x => cond m.isSh (.imm τ x, []) (.ref id [] 0, [(id, some ⟨τ, x, m, false, false, 0⟩)])
def ress (id : Nat) : (rs : List (Ty × Mask)) → (chain (rs.map (·.1))).den → List AV × Ups
  | [], _ => ([], [])
  | [(τ, m)], x => ([(ress1 id τ m x).1], (ress1 id τ m x).2)
  | (τ, m) :: r :: rs, x => ((ress1 id τ m x.1).1 :: (ress (id + 1) (r :: rs) x.2).1, (ress1 id τ m x.1).2 ++ (ress (id + 1) (r :: rs) x.2).2)

/-- What becomes of the arguments' entries. -/
def outs (look : Nat → Option Entry) : (ps : List Prm) → List AV → (chainU (outsOf ps)).den → Ups
  | .imm _ :: ps, _ :: vs, x => outs look ps vs x
  | .take _ _ :: ps, .ref l _ _ :: vs, x => (l, none) :: outs look ps vs x
  | .io τ m mem :: ps, .ref l _ _ :: vs, x => (l, some ⟨τ, x.1, m, mem, false, vUp (verOf look l)⟩) :: outs look ps vs x.2
  | .io τ m mem :: ps, .adr l _ _ :: vs, x => (l, some ⟨τ, x.1, m, mem, false, vUp (verOf look l)⟩) :: outs look ps vs x.2
  | _, _, _ => []

def split (rs : List Ty) : (os : List Ty) → (resTy rs os).den → (chain rs).den × (chainU os).den
  | [], x => (x, ())
  | _ :: _, x => x

def hasSh1 : Ty → Mask → Bool
  | .ip t, .ar m => t.hasSh m
  | τ, m => τ.hasSh m
def hasShR : List (Ty × Mask) → Bool
  | [] => false
  | (τ, m) :: r => hasSh1 τ m || hasShR r

def hasShP : List Prm → Bool
  | [] => false
  | .io τ m _ :: r => τ.hasSh m || hasShP r
  | .imm _ :: r => hasShP r
  | .take _ _ :: r => hasShP r

def callG (look : Nat → Option Entry) (id : Nat) (Φ : List FM) (g : Nat) (vs : List AV) (K : Kt R) : Option R :=
  match findFM look g vs Φ with
  | none => none
  | some m => args look m.ps vs fun x => (m.f x).bind fun r =>
    match ress id m.rs (split (m.rs.map (·.1)) (outsOf m.ps) r).1, toFrz look m.ps vs, outs look m.ps vs (split (m.rs.map (·.1)) (outsOf m.ps) r).2 with
    | (avs, new), fz, ups => cond (distinct (fz ++ ups) && Nat.ble m.rs.length 16) (K avs (cond (hasShR m.rs || hasShP m.ps) fz [] ++ (ups ++ new))) none

/-- Are these the variables that a function value takes along? -/
def capsOk : Ty → Bool
  | .unit => true
  | .ip _ => true
  | .pair (.ip _) b => capsOk b
  | _ => false

/-! ## One operation -/
def sing : List (List AV) → Option (List AV)
  | [] => some []
  | [v] :: r => (sing r).map (v :: ·)
  | _ => none

/-- An operand of a type: nil is an empty row. -/
def opdT (E : Env) (t : List (Nat × List AV)) (T : TypeId) : Operand → List AV
  | .const (.slice none 0 0) => match elTy E T with
    | some (u, _) => [.imm (.sl u) []]
    | none => []
  | x => opd t x

def opdsT (E : Env) (t : List (Nat × List AV)) : List Operand → List TypeId → List (List AV)
  | x :: xs, T :: Ts => opdT E t T x :: opdsT E t xs Ts
  | _, _ => []

def optV (t : List (Nat × List AV)) : Option Operand → Option (Option AV)
  | none => some none
  | some x => match opd t x with
    | [v] => some (some v)
    | _ => none

def minmax (isMax : Bool) (K : Kt R) : List AV → Option R
  | [.imm (.int k) a, .imm (.int k') b] => cond (decide (k = k')) (K [.imm (.int k) (cond isMax (if a < b then b else a) (if b < a then b else a))] []) none
  | _ => none

def moveV (E : Env) (reg i id : Nat) (t : List (Nat × List AV)) (T : TypeId) (x : Operand) (K : Kt R) : Option R :=
  match x with
  | .const (.slice none 0 0) => match elTy E T with
    | some (u, _) => K [.ref id [] 0] [(id, some ⟨.sl u, [], .sl (annM E reg i), false, false, 0⟩)]
    | none => none
  | x => K (opd t x) []

def sliceOp (E : Env) (reg i id : Nat) (t : List (Nat × List AV)) (look : Nat → Option Entry) (T : TypeId) (x : Operand) (lo hi mx : Option Operand) (K : Kt R) : Option R :=
  match mx with
  | none => match opd t x, optV t lo, optV t hi with
    | [a], some lo, some hi => sliceV E look id T a lo hi K
    | _, _, _ => none
  | some mx => match lo, hi with
    | none, some hi => match opd t x, opd t hi, opd t mx with
      | [a], [.imm (.int _) h], [.imm (.int _) m] => cond (decide (h = 0)) (cond (decide (m = 0)) (slice0 E look reg i id T a K) none) none
      | _, _, _ => none
    | _, _ => none

def evOp (E : Env) (reg i id : Nat) (t : List (Nat × List AV)) (look : Nat → Option Entry) (o : Oper) (K : Kt R) : Option R :=
  match o.op with
  | .move x => moveV E reg i id t o.type x K
  | .assign x => moveV E reg i id t o.type x K
  | .pick c a b => match opd t c with
    | [.imm .bool c] => cond c (K (opd t a) []) (K (opd t b) [])
    | _ => none
  | .binOp op T x y _ => match sing [opd t x, opd t y] with
    | some [a, b] => bin E T op a b fun v => K [v] []
    | _ => none
  | .unOp op _ x => match opd t x with
    | [a] => una op a fun v => K [v] []
    | _ => none
  | .convert s d x => cond (elU8 E s && isStr E d) (match opd t x with
    | [a] => bytesV look a K
    | _ => none) (match opd t x, E.TT s, E.TT d with
    | [.imm (.int _) n], some _, some { d := .int k, .. } => K [.imm (.int k) (k.wrap n)] []
    | [.imm .str n], some _, some { d := .str, .. } => K [.imm .str n] []
    | _, _, _ => none)
  | .nilCheck x => match opd t x with
    | [.imm (.ip u) x] => K [.imm (.ip u) x] []
    | [.imm (.fn g u) x] => K [.imm (.fn g u) x] []
    | [.adr l p v] => match atA look l p v with
      | some _ => K [.adr l p v] []
      | none => none
    | _ => none
  | .indexAddr T x n => match sing [opdT E t T x, opd t n] with
    | some [a, .imm (.int _) n] => idxAddr E look T a n K
    | _ => none
  | .index T x n => match sing [opd t x, opd t n] with
    | some [.imm .str s, .imm (.int _) n] => cond (isStr E T) (inRange n s.size (K [.imm (.int .u8) ((s.data.getD n.toNat 0).toNat : Int)] [])) none
    | some [.imm (.arr k u) xs, .imm (.int _) n] => cond (isArr E T k && elemSz E T u && elAgg E T u) (inRange n k (K [.imm u (List.getD xs n.toNat u.dflt)] [])) none
    | _ => none
  | .fieldAddr T x k => match opd t x with
    | [a] => fAddr E look T a k K
    | _ => none
  | .field T x k => match opd t x with
    | [a] => fVal E look T a k K
    | _ => none
  | .load T a => match opd t a with
    | [a] => loadA E look T a K
    | _ => none
  | .store T a v => match sing [opd t a, opdT E t T v] with
    | some [a, v] => storeA E look T a v K
    | _ => none
  | .alloc T => match tyI E T with
    | some u => cond u.isV (K [.adr id [] 0] [(id, some ⟨u, u.dflt, u.own1, true, false, 0⟩)]) none
    | none => none
  | .box T v => match opdT E t T v with
    | [v] => laid look v some fun u ups => cond (u.τ.isV) (K [.adr id [] 0] (ups ++ [(id, some ⟨u.τ, u.x, u.m, true, false, 0⟩)])) none
    | _ => none
  | .build T ps => build E look id T (ps.toList.map fun q => (q.1, opd t q.2)) K
  | .buildSlice T n ps => buildSl E look reg i id T n (ps.toList.map fun q => (q.1, opd t q.2)) K
  | .makeSlice T l c => match sing [opd t l, opd t c] with
    | some [l, c] => makeSl E reg i id T l c K
    | _ => none
  | .slice T x lo hi mx => sliceOp E reg i id t look T x lo hi mx K
  | .extract x k => match x with
    | .tmp d => match slot t d with
      | _ :: _ :: _ => match (slot t d)[k]? with
        | some v => K [v] []
        | none => none
      | _ => none
    | _ => none
  | .makeFunc (.func g) first caps => match first.toList, sing (caps.toList.map (opd t)) with
    | [], some vs => capsIn look vs (fun c ups => cond (distinct ups) (K [.imm (.fn g c.τ) c.x] ups) none)
    | _, _ => none
  | .call { callee := .builtin .len, args := az, argTypes := Ts } => match az.toList, Ts.toList with
    | [a], [T] => match opd t a with
      | [v] => lenV E look T v K
      | _ => none
    | _, _ => none
  | .call { callee := .builtin .append, args := az, argTypes := Ts } => match az.toList, Ts.toList with
    | [a, b], [T, T'] => match sing [opd t a, opdT E t T' b] with
      | some [a, b] => appendV E look id T T' a b K
      | _ => none
    | _, _ => none
  | .call { callee := .builtin .min, args := az, argTypes := _ } => match sing (az.toList.map (opd t)) with
    | some vs => minmax false K vs
    | none => none
  | .call { callee := .builtin .max, args := az, argTypes := _ } => match sing (az.toList.map (opd t)) with
    | some vs => minmax true K vs
    | none => none
  | .call { callee := .value f, args := az, argTypes := Ts } => match opd t f, sing (opdsT E t az.toList Ts.toList) with
    | [.imm (.fn g u) c], some vs => cond (capsOk u && Nat.beq az.size Ts.size) (callG look id E.Φ g (vs ++ unch u c) K) none
    | _, _ => none
  | _ => none
where
  /-- What a function value takes along: addresses of variables that stay as they are from now on. -/
  capsIn (look : Nat → Option Entry) : List AV → (Sub → Ups → Option R) → Option R
    | [], K => K ⟨.unit, (), .sh⟩ []
    | [v], K => cap1 look v K
    | v :: w :: r, K => cap1 look v fun a ups => capsIn look (w :: r) fun b ups' => K ⟨.pair a.τ b.τ, (a.x, b.x), .sh⟩ (ups ++ ups')
  cap1 (look : Nat → Option Entry) (v : AV) (K : Sub → Ups → Option R) : Option R :=
    match v with
    | .imm (.ip u) x => K ⟨.ip u, x, .sh⟩ []
    | .adr l [] _ => match look l with
      | some e => cond e.fz (K ⟨.ip e.τ, e.x, .sh⟩ []) (K ⟨.ip e.τ, e.x, .sh⟩ [(l, some { e with fz := true })])
      | none => none
    | _ => none

/-- The entries that an operation may look at. -/
def opIds (t : List (Nat × List AV)) (o : Oper) : List Nat :=
  match o.op with
  | .move _ | .assign _ | .pick .. | .extract .. => []
  | op => (op.operands.toList.map fun x => AV.ids (opd t x)).flatten

/-! ## A region, in the text's order -/
/-- What an operation did: its place, what it looked at, what it turned. -/
structure Rec where
  i : Nat
  a : List Nat
  u : List Nat

def meets (a b : List Nat) : Bool := a.any fun x => b.any fun y => Nat.beq x y

def evOps (E : Env) (reg : Nat) (all : List Oper) (n : Nat) : (i : Nat) → List Oper → List (Nat × List AV) → List (Nat × Entry) → List Rec → (List (Nat × List AV) → List (Nat × Entry) → List Rec → Option R) → Option R
  | _, [], t, h, r, K => K t h r
  | i, o :: os, t, h, r, K =>
    match o.guard with
    | none => evOp E reg i (n + 16 * i) t (hget h) o fun v ups => evOps E reg all n (i + 1) os (putT t o.dst v) (app ups h) (⟨i, opIds t o, ups.map (·.1)⟩ :: r) K
    | some (j, want) =>
      match (all[j]?).bind (·.dst) with
      | some d => match slot t d with
        | [.imm .bool b] =>
          cond b
            (cond want (evOp E reg i (n + 16 * i) ((d, [.imm .bool true]) :: t) (hget h) o fun v ups => evOps E reg all n (i + 1) os (putT ((d, [.imm .bool true]) :: t) o.dst v) (app ups h) (⟨i, opIds t o, ups.map (·.1)⟩ :: r) K)
              (evOps E reg all n (i + 1) os (putT ((d, [.imm .bool true]) :: t) o.dst [.imm .unit ()]) h (⟨i, [], []⟩ :: r) K))
            (cond want (evOps E reg all n (i + 1) os (putT ((d, [.imm .bool false]) :: t) o.dst [.imm .unit ()]) h (⟨i, [], []⟩ :: r) K)
              (evOp E reg i (n + 16 * i) ((d, [.imm .bool false]) :: t) (hget h) o fun v ups => evOps E reg all n (i + 1) os (putT ((d, [.imm .bool false]) :: t) o.dst v) (app ups h) (⟨i, opIds t o, ups.map (·.1)⟩ :: r) K))
        | [.imm .unit _] => evOps E reg all n (i + 1) os (putT t o.dst [.imm .unit ()]) h (⟨i, [], []⟩ :: r) K
        | _ => none
      | none => none

/-! ## Code -/
inductive It where
  | c (c : Code)
  | blk (id : Nat)
  | lp (c : Code)
  | cut

def falls : Code → Bool
  | .exit _ | .ret | .goto _ | .loop _ => false
  | .seq a b => falls a && falls b
  | .cond _ a b => falls a || falls b
  | .block id c => falls c || exits id c
  | _ => true
where
  exits (id : Nat) : Code → Bool
    | .exit j => Nat.beq j id
    | .seq a b => exits id a || exits id b
    | .cond _ a b => exits id a || exits id b
    | .block _ c => exits id c
    | .loop c => exits id c
    | _ => false

def nExits (id : Nat) : Code → Nat
  | .exit j => cond (Nat.beq j id) 1 0
  | .seq a b => nExits id a + nExits id b
  | .cond _ a b => nExits id a + nExits id b
  | .block _ c => nExits id c
  | .loop c => nExits id c
  | _ => 0

def bit (d : Nat) : Nat := 2 ^ d
def useX : Operand → Nat
  | .tmp d => bit d
  | _ => 0
def without (m d : Nat) : Nat := m ^^^ (m &&& bit d)
def lvOps (all : List Oper) : List Oper → Nat → Nat
  | [], m => m
  | o :: r, m =>
    let m := lvOps all r m
    let m := match o.dst with
      | some d => without m d
      | none => m
    let m := match o.guard with
      | some (j, _) => match (all[j]?).bind (·.dst) with | some d => m ||| bit d | none => m
      | none => m
    o.op.operands.toList.foldl (fun m x => m ||| useX x) m
def exLv : List (Nat × Nat) → Nat → Nat
  | [], _ => 0
  | (k, m) :: r, id => cond (Nat.beq k id) m (exLv r id)
def lvC (rm : Nat) : Code → Nat → List (Nat × Nat) → Nat
  | .region _ ops _, m, _ => lvOps ops.toList ops.toList m
  | .seq a b, m, x => lvC rm a (lvC rm b m x) x
  | .cond c a b, m, x => useX c ||| lvC rm a m x ||| lvC rm b m x
  | .block id c, m, x => lvC rm c m ((id, m) :: x)
  | .loop c, _, x => lvC rm c 0 x
  | .exit id, _, x => exLv x id
  | .ret, _, _ => rm
  | _, m, _ => m
def lvK (rm : Nat) : List It → Nat × List (Nat × Nat)
  | [] => (rm, [])
  | .c c :: k => let q := lvK rm k; (lvC rm c q.1 q.2, q.2)
  | .blk id :: k => let q := lvK rm k; (q.1, (id, q.1) :: q.2)
  | .lp c :: k => let q := lvK rm k; (lvC rm c 0 q.2, q.2)
  | .cut :: k => lvK rm k

def bits : Nat → Nat → Nat → List Nat
  | 0, _, _ => []
  | f + 1, i, m => cond (Nat.beq m 0) [] (cond (Nat.beq (m % 2) 1) (i :: bits f (i + 1) (m / 2)) (bits f (i + 1) (m / 2)))

/-- The entries that values name, in order; each once. -/
def mem? (l : Nat) : List Nat → Bool
  | [] => false
  | k :: r => Nat.beq k l || mem? l r
def names : List AV → List Nat → List Nat
  | [], acc => acc
  | .imm _ _ :: r, acc => names r acc
  | .ref l _ _ :: r, acc => names r (cond (mem? l acc) acc (acc ++ [l]))
  | .adr l _ _ :: r, acc => names r (cond (mem? l acc) acc (acc ++ [l]))
def namesT : List (Nat × List AV) → List Nat → List Nat
  | [], acc => acc
  | q :: r, acc => namesT r (names q.2 acc)
def idx (l : Nat) : List Nat → Nat → Nat
  | [], i => i
  | k :: r, i => cond (Nat.beq k l) i (idx l r (i + 1))
def AV.ren (ns : List Nat) : AV → AV
  | .imm τ x => .imm τ x
  | .ref l p _ => .ref (idx l ns 0) p 0
  | .adr l p _ => .adr (idx l ns 0) p 0
def hren (h : List (Nat × Entry)) : List Nat → Nat → List (Nat × Entry)
  | [], _ => []
  | l :: r, i => match hget h l with
    | some e => (i, { e with v := 0 }) :: hren h r (i + 1)
    | none => hren h r (i + 1)
/-- Values of entries that stay as they are: no names of entries any more. -/
def normL (look : Nat → Option Entry) : List AV → Option (List AV)
  | [] => some []
  | v :: r => match res look v with
    | some v => match normL look r with
      | some l => some (v :: l)
      | none => none
    | none => none
def pick (look : Nat → Option Entry) (t : List (Nat × List AV)) : List Nat → List (Nat × List AV)
  | [] => []
  | d :: r => match normL look (slot t d) with
    | some (v :: l) => (d, v :: l) :: pick look t r
    | _ => pick look t r
/-- What is still wanted, under new numbers. io: the slots (beyond all of the code's) that hold the arguments that are handed back. -/
def clean (io : List Nat) (live : Nat) (s : St) : St :=
  let t := pick (hget s.h) s.t (io ++ bits 4096 0 live)
  let ns := namesT t []
  ⟨t.map fun q => (q.1, q.2.map (AV.ren ns)), hren s.h ns 0, ns.length⟩

def unwind (id : Nat) : List It → Option (List It)
  | [] => none
  | .blk j :: k => cond (Nat.beq j id) (some k) (unwind id k)
  | _ :: k => unwind id k

/-- Are two operations of a region that no edge orders free of each other? -/
def looks (all : List Oper) (o : Oper) : List Nat :=
  (match o.guard with | some (j, _) => ((all[j]?).bind (·.dst)).toList | none => []) ++ (o.op.operands.toList.map fun | .tmp d => [d] | _ => []).flatten
def apart (all : List Oper) (x y : Oper) : Bool :=
  !(meets x.dst.toList (looks all y)) && (!(meets y.dst.toList (looks all x)) && !(meets x.dst.toList y.dst.toList))
def pairOk (all : List Oper) (bs : List Nat) (x y : Rec) : Bool :=   -- x behind y in the text
  Nat.testBit (bs.getD x.i 0) y.i ||
  ((match all[x.i]?, all[y.i]? with | some p, some q => apart all p q | _, _ => false) && (!(meets x.u y.a) && (!(meets y.u x.a) && !(meets x.u y.u))))
def recsOk (all : List Oper) (bs : List Nat) : List Rec → Bool
  | [] => true
  | x :: r => r.all (pairOk all bs x) && recsOk all bs r

def edgesBack : Nat → List Oper → Bool
  | _, [] => true
  | i, o :: os => o.after.toList.all (fun e => !Region.binds .any e || Nat.blt e.on i) && edgesBack (i + 1) os

structure FEnv where
  E : Env
  io : List Nat
  rm : Nat

def segRun (F : FEnv) (fin : St → Option R) (r : List It → St → Option R) : Nat → List It → St → Option R
  | 0, _, _ => none
  | _ + 1, [], s => fin s
  | n + 1, .c c :: k, s => match c with
    | .skip => segRun F fin r n k s
    | .region id ops d => evOps F.E id ops.toList s.n 0 ops.toList s.t s.h [] fun t h rs =>
      cond (!d || (recsOk ops.toList (Region.before ops).toList rs && edgesBack 0 ops.toList)) (segRun F fin r n k ⟨t, h, s.n + 16 * ops.toList.length⟩) none
    | .seq a b => segRun F fin r n (.c a :: .c b :: k) s
    | .cond c a b => match c with
      | .tmp d => match slot s.t d with
        | [.imm .bool t] => cond (falls a && falls b)
          (cond t (segRun F fin r n (.c a :: .cut :: k) s) (segRun F fin r n (.c b :: .cut :: k) s))
          (cond t (segRun F fin r n (.c a :: k) s) (segRun F fin r n (.c b :: k) s))
        | _ => none
      | .const (.bool t) => cond t (segRun F fin r n (.c a :: k) s) (segRun F fin r n (.c b :: k) s)
      | _ => none
    | .block id c => cond (Nat.ble 2 (nExits id c + cond (falls c) 1 0)) (segRun F fin r n (.c c :: .blk id :: .cut :: k) s) (segRun F fin r n (.c c :: .blk id :: k) s)
    | .loop c => r (.lp c :: k) (clean F.io (lvK F.rm (.lp c :: k)).1 s)
    | .exit id => match unwind id k with
      | some k => segRun F fin r n k s
      | none => none
    | .ret => fin s
    | _ => none
  | n + 1, .blk _ :: k, s => segRun F fin r n k s
  | _ + 1, .lp c :: k, s => r (.lp c :: k) (clean F.io (lvK F.rm (.lp c :: k)).1 s)
  | _ + 1, .cut :: k, s => r k (clean F.io (lvK F.rm k).1 s)

def enter : List It → List It
  | .lp c :: k => .c c :: .lp c :: k
  | k => k

/-- The places where a piece of a function's code begins: loops' heads, and where ways meet again. -/
def cuts : Code → List It → List (List It)
  | .seq a b, k => cuts a (.c b :: k) ++ cuts b k
  | .cond _ a b, k => cond (falls a && falls b) (k :: (cuts a (.cut :: k) ++ cuts b (.cut :: k))) (cuts a k ++ cuts b k)
  | .block id c, k => cond (Nat.ble 2 (nExits id c + cond (falls c) 1 0)) (k :: cuts c (.blk id :: .cut :: k)) (cuts c (.blk id :: k))
  | .loop c, k => (.lp c :: k) :: cuts c (.lp c :: k)
  | _, _ => []
def bodyOf (f : Func) : Code := f.body.getD .skip
def lab (f : Func) : Nat → List It
  | 0 => [.c (bodyOf f)]
  | i + 1 => (cuts (bodyOf f) []).getD i []

def fuel : Nat := 100000
def seg (F : FEnv) (fin : St → Option R) (r : List It → St → Option R) (k : List It) (s : St) : Option R := segRun F fin r fuel (enter k) s

/-- The results, read where they lie, and what has become of the arguments that are handed back. -/
def resSlots (f : Func) : List Nat := f.results.toList.map fun | .tmp t => t | .cell a _ => a
def resMask (f : Func) : Nat := (resSlots f).foldl (fun m d => m ||| bit d) 0
def ret1 (look : Nat → Option Entry) (τ : Ty) (m : Mask) (v : ResultVar) (t : List (Nat × List AV)) : Option τ.den :=
  match v with
  | .tmp d => match slot t d with
    | [v] => match cont look v with
      | some u => cond (decide (u.m = m) || m.isSh) (cast? u.τ τ u.x) none
      | none => none
    | _ => none
  | .cell d _ => match slot t d with
    | [v] => match cont look v with
      | some ⟨.ip u, x, m'⟩ => cond (decide (m' = m) || m.isSh) (cast? u τ x) none
      | _ => none
    | _ => none
def rets (look : Nat → Option Entry) (t : List (Nat × List AV)) : (rs : List (Ty × Mask)) → List ResultVar → Option (chain (rs.map (·.1))).den
  | [], [] => some ()
  | [(τ, m)], [v] => ret1 look τ m v t
  | (τ, m) :: r :: rs, v :: vs => match ret1 look τ m v t with
    | some x => match rets look t (r :: rs) vs with
      | some y => some (x, y)
      | none => none
    | none => none
  | _, _ => none

end Ev
end

section
namespace Ev
open Go

/-- Cells: of memory's blocks (inl), and of values that lie in no block (inr). -/
structure CF where
  cl : Nat ⊕ Nat → Nat → Option Value
  bk : Nat → Option Nat

def ImmAt (c : CF) (S : Nat → Prop) : (τ : Ty) → Nat ⊕ Nat → Nat → τ.den → Prop
  | .int k, B, o, n => c.cl B o = some (.int k n)
  | .bool, B, o, b => c.cl B o = some (.bool b)
  | .str, B, o, s => c.cl B o = some (.string s)
  | .sl t, B, o, xs => ∃ A cap, c.cl B o = some (.slice A (List.length xs) cap) ∧ List.length xs ≤ cap ∧
      ∀ i, i < List.length xs → ∃ b q, A = some ⟨b, q, none⟩ ∧ S b ∧ ImmAt c S t (.inl b) (q + i * t.size) (List.getD xs i t.dflt)
  | .pair a b, B, o, x => ImmAt c S a B o x.1 ∧ ImmAt c S b B (o + a.size) x.2
  | .unit, _, _, _ => True
  | .st t, B, o, x => ImmAt c S t B o x
  | .arr n t, B, o, xs => List.length xs = n ∧ ∀ i, i < n → ImmAt c S t B (o + i * t.size) (List.getD xs i t.dflt)
  | .ip t, B, o, x => ∃ b q, c.cl B o = some (.pointer (some ⟨b, q, none⟩)) ∧ S b ∧ ImmAt c S t (.inl b) q x
  | .fn g t, B, o, x => ∃ cs : Array Value, c.cl B o = some (.func (.func g) #[] cs) ∧ cs.size = t.size ∧
      ImmAt ⟨fun B j => match B with | .inr _ => cs[j]? | .inl b => c.cl (.inl b) j, c.bk⟩ S t (.inr 0) 0 x

/-- It depends on its own cells and on the blocks of S alone. -/
theorem ImmAt.move {S S' : Nat → Prop} : ∀ {τ : Ty} {c c' : CF} {B B' : Nat ⊕ Nat} {o o' : Nat} {x : τ.den},
    ImmAt c S τ B o x → (∀ i, i < τ.size → c'.cl B' (o' + i) = c.cl B (o + i)) →
    (∀ b, S b → S' b ∧ ∀ j, c'.cl (.inl b) j = c.cl (.inl b) j) → ImmAt c' S' τ B' o' x := by
  intro τ
  induction τ with
  | int k => intro c c' B B' o o' x h hc _; simp only [ImmAt] at *; (have e : c'.cl B' o' = c.cl B o := by simpa using hc 0 (by simp [Ty.size])); rw [e]; exact h
  | bool => intro c c' B B' o o' x h hc _; simp only [ImmAt] at *; (have e : c'.cl B' o' = c.cl B o := by simpa using hc 0 (by simp [Ty.size])); rw [e]; exact h
  | str => intro c c' B B' o o' x h hc _; simp only [ImmAt] at *; (have e : c'.cl B' o' = c.cl B o := by simpa using hc 0 (by simp [Ty.size])); rw [e]; exact h
  | sl t ih =>
    intro c c' B B' o o' x h hc hS
    simp only [ImmAt] at *
    obtain ⟨A, cap, h1, h2, h3⟩ := h
    have e0 : c'.cl B' o' = c.cl B o := by simpa using hc 0 (by simp [Ty.size])
    refine ⟨A, cap, by rw [e0]; exact h1, h2, fun i hi => ?_⟩
    obtain ⟨b, q, e, hb, hi⟩ := h3 i hi
    exact ⟨b, q, e, (hS b hb).1, ih hi (fun j _ => (hS b hb).2 _) hS⟩
  | pair a b iha ihb =>
    intro c c' B B' o o' x h hc hS
    simp only [ImmAt] at *
    refine ⟨iha h.1 (fun i hi => hc i (by simp [Ty.size]; omega)) hS, ihb h.2 (fun i hi => ?_) hS⟩
    have := hc (a.size + i) (by simp [Ty.size]; omega)
    simpa [Nat.add_assoc] using this
  | unit => intros; simp [ImmAt]
  | st t ih => intro c c' B B' o o' x h hc hS; simp only [ImmAt] at *; exact ih h hc hS
  | arr n t ih =>
    intro c c' B B' o o' x h hc hS
    simp only [ImmAt] at *
    refine ⟨h.1, fun i hi => ih (h.2 i hi) (fun j hj => ?_) hS⟩
    have hlt : i * t.size + j < n * t.size := by
      have : (i + 1) * t.size ≤ n * t.size := Nat.mul_le_mul_right _ hi
      rw [Nat.add_mul] at this; omega
    have := hc (i * t.size + j) (by simpa [Ty.size] using hlt)
    simpa [Nat.add_assoc] using this
  | ip t ih =>
    intro c c' B B' o o' x h hc hS
    simp only [ImmAt] at *
    obtain ⟨b, q, h1, hb, h2⟩ := h
    have e0 : c'.cl B' o' = c.cl B o := by simpa using hc 0 (by simp [Ty.size])
    exact ⟨b, q, by rw [e0]; exact h1, (hS b hb).1, ih h2 (fun j _ => (hS b hb).2 _) hS⟩
  | fn g t ih =>
    intro c c' B B' o o' x h hc hS
    simp only [ImmAt] at *
    obtain ⟨cs, h1, h2, h3⟩ := h
    have e0 : c'.cl B' o' = c.cl B o := by simpa using hc 0 (by simp [Ty.size])
    refine ⟨cs, by rw [e0]; exact h1, h2, ih h3 (fun j _ => rfl) fun b hb => ⟨(hS b hb).1, fun j => (hS b hb).2 j⟩⟩

/-- What is owned: F are the blocks that hold it (those of its own cells not among them). -/
def OwnAt (c : CF) (S : Nat → Prop) : (τ : Ty) → Mask → Nat ⊕ Nat → Nat → τ.den → (Nat → Prop) → Prop
  | .sl t, m, B, o, xs, F =>
    match m with
    | .sl m => ((∃ A, c.cl B o = some (.slice A 0 0)) ∧ xs = [] ∧ ∀ b, ¬ F b) ∨
      ∃ b q cap n, c.cl B o = some (.slice (some ⟨b, q, none⟩) (List.length xs) cap) ∧ List.length xs ≤ cap ∧ c.bk b = some n ∧ q + cap * t.size ≤ n ∧ B ≠ .inl b ∧
        ∃ Fs : Nat → Nat → Prop, (∀ k, F k ↔ k = b ∨ ∃ i, i < List.length xs ∧ Fs i k) ∧ (∀ i, i < List.length xs → ¬ Fs i b) ∧
          (∀ i j k, i < List.length xs → j < List.length xs → Fs i k → Fs j k → i = j) ∧
          ∀ i, i < List.length xs → OwnAt c S t m (.inl b) (q + i * t.size) (List.getD xs i t.dflt) (Fs i)
    | _ => (∀ b, ¬ F b) ∧ ImmAt c S (.sl t) B o xs
  | .pair a b, m, B, o, x, F => ∃ F1 F2 : Nat → Prop, (∀ k, F k ↔ F1 k ∨ F2 k) ∧ (∀ k, F1 k → ¬ F2 k) ∧ OwnAt c S a m.l B o x.1 F1 ∧ OwnAt c S b m.r B (o + a.size) x.2 F2
  | .st t, m, B, o, x, F => OwnAt c S t m B o x F
  | .arr n t, m, B, o, xs, F => List.length xs = n ∧ ∃ Fs : Nat → Nat → Prop, (∀ k, F k ↔ ∃ i, i < n ∧ Fs i k) ∧
      (∀ i j k, i < n → j < n → Fs i k → Fs j k → i = j) ∧ ∀ i, i < n → OwnAt c S t m.el B (o + i * t.size) (List.getD xs i t.dflt) (Fs i)
  | τ, _, B, o, x, F => (∀ b, ¬ F b) ∧ ImmAt c S τ B o x

theorem OwnAt.congr {c : CF} {S : Nat → Prop} {τ : Ty} {m : Mask} {B : Nat ⊕ Nat} {o : Nat} {x : τ.den} {F F' : Nat → Prop}
    (h : OwnAt c S τ m B o x F) (e : ∀ k, F' k ↔ F k) : OwnAt c S τ m B o x F' := by
  have : F' = F := funext fun k => propext (e k)
  rw [this]; exact h

/-- What is shared throughout is just what stays az it is. -/
theorem OwnAt.sh_iff {c : CF} {S : Nat → Prop} : ∀ {τ : Ty} {B : Nat ⊕ Nat} {o : Nat} {x : τ.den} {F : Nat → Prop},
    OwnAt c S τ .sh B o x F ↔ (∀ b, ¬ F b) ∧ ImmAt c S τ B o x := by
  intro τ
  induction τ with
  | sl t ih => intros; simp only [OwnAt]
  | int k => intros; simp only [OwnAt]
  | bool => intros; simp only [OwnAt]
  | str => intros; simp only [OwnAt]
  | unit => intros; simp only [OwnAt]
  | ip t ih => intros; simp only [OwnAt]
  | fn g t ih => intros; simp only [OwnAt]
  | st t ih => intro B o x F; simp only [OwnAt, ImmAt]; exact ih
  | pair a b iha ihb =>
    intro B o x F
    simp only [OwnAt, ImmAt, Mask.l, Mask.r]
    constructor
    · rintro ⟨F1, F2, hF, _, h1, h2⟩
      rw [iha] at h1; rw [ihb] at h2
      exact ⟨fun k hk => by exact ((hF k).mp hk).elim (h1.1 k) (h2.1 k), h1.2, h2.2⟩
    · rintro ⟨hF, h1, h2⟩
      exact ⟨fun _ => False, fun _ => False, fun k => by simp [hF k], fun _ h => h.elim, iha.mpr ⟨fun _ h => h, h1⟩, ihb.mpr ⟨fun _ h => h, h2⟩⟩
  | arr n t ih =>
    intro B o x F
    simp only [OwnAt, ImmAt, Mask.el]
    constructor
    · rintro ⟨hn, Fs, hF, _, h⟩
      refine ⟨fun k hk => ?_, hn, fun i hi => ((ih).mp (h i hi)).2⟩
      obtain ⟨i, hi, hk⟩ := (hF k).mp hk
      exact ((ih).mp (h i hi)).1 k hk
    · rintro ⟨hF, hn, h⟩
      exact ⟨hn, fun _ _ => False, fun k => by simp [hF k], fun _ _ _ _ _ h => h.elim, fun i hi => ih.mpr ⟨fun _ h => h, h i hi⟩⟩

theorem OwnAt.move {S S' : Nat → Prop} : ∀ {τ : Ty} {m : Mask} {c c' : CF} {B B' : Nat ⊕ Nat} {o o' : Nat} {x : τ.den} {F : Nat → Prop},
    OwnAt c S τ m B o x F → (∀ i, i < τ.size → c'.cl B' (o' + i) = c.cl B (o + i)) →
    (∀ b, F b → B' ≠ .inl b ∧ c'.bk b = c.bk b ∧ ∀ j, c'.cl (.inl b) j = c.cl (.inl b) j) →
    (∀ b, S b → S' b ∧ ∀ j, c'.cl (.inl b) j = c.cl (.inl b) j) → OwnAt c' S' τ m B' o' x F := by
  intro τ
  induction τ with
  | int k => intro m c c' B B' o o' x F h hc _ hS; simp only [OwnAt] at *; exact ⟨h.1, h.2.move hc hS⟩
  | bool => intro m c c' B B' o o' x F h hc _ hS; simp only [OwnAt] at *; exact ⟨h.1, h.2.move hc hS⟩
  | str => intro m c c' B B' o o' x F h hc _ hS; simp only [OwnAt] at *; exact ⟨h.1, h.2.move hc hS⟩
  | unit => intro m c c' B B' o o' x F h hc _ hS; simp only [OwnAt] at *; exact ⟨h.1, h.2.move hc hS⟩
  | ip t ih => intro m c c' B B' o o' x F h hc _ hS; simp only [OwnAt] at *; exact ⟨h.1, h.2.move hc hS⟩
  | fn g t ih => intro m c c' B B' o o' x F h hc _ hS; simp only [OwnAt] at *; exact ⟨h.1, h.2.move hc hS⟩
  | st t ih => intro m c c' B B' o o' x F h hc hF hS; simp only [OwnAt] at *; exact ih h hc hF hS
  | pair a b iha ihb =>
    intro m c c' B B' o o' x F h hc hF hS
    simp only [OwnAt] at *
    obtain ⟨F1, F2, e, d, h1, h2⟩ := h
    refine ⟨F1, F2, e, d, iha h1 (fun i hi => hc i (by simp [Ty.size]; omega)) (fun k hk => hF k ((e k).mpr (.inl hk))) hS,
      ihb h2 (fun i hi => ?_) (fun k hk => hF k ((e k).mpr (.inr hk))) hS⟩
    have := hc (a.size + i) (by simp [Ty.size]; omega)
    simpa [Nat.add_assoc] using this
  | arr n t ih =>
    intro m c c' B B' o o' x F h hc hF hS
    simp only [OwnAt] at *
    obtain ⟨hn, Fs, e, d, h⟩ := h
    refine ⟨hn, Fs, e, d, fun i hi => ih (h i hi) (fun j hj => ?_) (fun k hk => hF k ((e k).mpr ⟨i, hi, hk⟩)) hS⟩
    have hlt : i * t.size + j < n * t.size := by
      have : (i + 1) * t.size ≤ n * t.size := Nat.mul_le_mul_right _ hi
      rw [Nat.add_mul] at this; omega
    have := hc (i * t.size + j) (by simpa [Ty.size] using hlt)
    simpa [Nat.add_assoc] using this
  | sl t ih =>
    intro m c c' B B' o o' x F h hc hF hS
    cases m with
    | sl m =>
      simp only [OwnAt] at *
      have e0 : c'.cl B' o' = c.cl B o := by simpa using hc 0 (by simp [Ty.size])
      rcases h with ⟨h1, h2, h3⟩ | ⟨b, q, cap, n, h1, h2, h3, h4, _, Fs, e, d, dd, h⟩
      · exact .inl ⟨by rw [e0]; exact h1, h2, h3⟩
      · have hb := hF b ((e b).mpr (.inl rfl))
        refine .inr ⟨b, q, cap, n, by rw [e0]; exact h1, h2, by rw [hb.2.1]; exact h3, h4, hb.1, Fs, e, d, dd, fun i hi => ?_⟩
        refine ih (h i hi) (fun j _ => hb.2.2 _) (fun k hk => ⟨fun he => d i hi (by injection he with he; rw [he]; exact hk), (hF k ((e k).mpr (.inr ⟨i, hi, hk⟩))).2⟩) hS
    | sh => simp only [OwnAt] at *; exact ⟨h.1, h.2.move hc hS⟩
    | pr p q => simp only [OwnAt] at *; exact ⟨h.1, h.2.move hc hS⟩
    | ar p => simp only [OwnAt] at *; exact ⟨h.1, h.2.move hc hS⟩

/-- Frozen: what was owned stays az it is from now on. -/
theorem OwnAt.freeze {S S' : Nat → Prop} {c : CF} : ∀ {τ : Ty} {m : Mask} {B : Nat ⊕ Nat} {o : Nat} {x : τ.den} {F : Nat → Prop},
    OwnAt c S τ m B o x F → (∀ b, S b → S' b) → (∀ b, F b → S' b) → ImmAt c S' τ B o x := by
  intro τ
  have triv : ∀ {τ : Ty} {B : Nat ⊕ Nat} {o : Nat} {x : τ.den}, ImmAt c S τ B o x → (∀ b, S b → S' b) → ImmAt c S' τ B o x :=
    fun h hS => h.move (fun _ _ => rfl) (fun b hb => ⟨hS b hb, fun _ => rfl⟩)
  induction τ with
  | int k => intro m B o x F h hS hF; simp only [OwnAt] at h; exact triv h.2 hS
  | bool => intro m B o x F h hS hF; simp only [OwnAt] at h; exact triv h.2 hS
  | str => intro m B o x F h hS hF; simp only [OwnAt] at h; exact triv h.2 hS
  | unit => intro m B o x F h hS hF; simp only [OwnAt] at h; exact triv h.2 hS
  | ip t ih => intro m B o x F h hS hF; simp only [OwnAt] at h; exact triv h.2 hS
  | fn g t ih => intro m B o x F h hS hF; simp only [OwnAt] at h; exact triv h.2 hS
  | st t ih => intro m B o x F h hS hF; simp only [OwnAt, ImmAt] at *; exact ih h hS hF
  | pair a b iha ihb =>
    intro m B o x F h hS hF
    simp only [OwnAt, ImmAt] at *
    obtain ⟨F1, F2, e, d, h1, h2⟩ := h
    exact ⟨iha h1 hS fun k hk => hF k ((e k).mpr (.inl hk)), ihb h2 hS fun k hk => hF k ((e k).mpr (.inr hk))⟩
  | arr n t ih =>
    intro m B o x F h hS hF
    simp only [OwnAt, ImmAt] at *
    obtain ⟨hn, Fs, e, d, h⟩ := h
    exact ⟨hn, fun i hi => ih (h i hi) hS fun k hk => hF k ((e k).mpr ⟨i, hi, hk⟩)⟩
  | sl t ih =>
    intro m B o x F h hS hF
    cases m with
    | sl m =>
      simp only [OwnAt, ImmAt] at *
      rcases h with ⟨h1, h2, h3⟩ | ⟨b, q, cap, n, h1, h2, h3, h4, _, Fs, e, d, dd, h⟩
      · subst h2; obtain ⟨A, h1⟩ := h1; exact ⟨A, 0, h1, by simp, fun i hi => by simp at hi⟩
      · exact ⟨some ⟨b, q, none⟩, cap, h1, h2, fun i hi => ⟨b, q, rfl, hF b ((e b).mpr (.inl rfl)), ih (h i hi) hS fun k hk => hF k ((e k).mpr (.inr ⟨i, hi, hk⟩))⟩⟩
    | sh => simp only [OwnAt] at h; exact triv h.2 hS
    | pr p q => simp only [OwnAt] at h; exact triv h.2 hS
    | ar p => simp only [OwnAt] at h; exact triv h.2 hS

end Ev
end

section
namespace Ev
open Go

def fldTy : Ty → Nat → Option Ty
  | .pair a _, 0 => some a
  | .pair _ b, k + 1 => fldTy b k
  | τ, 0 => some τ
  | _, _ => none

theorem fldTy_of {τ : Ty} {x : τ.den} {m : Mask} {k : Nat} {u : Sub} (h : fld τ x m k = some u) : fldTy τ k = some u.τ := by
  induction k generalizing τ m u with
  | zero => cases τ <;> simp [fld, fldTy] at h ⊢ <;> subst h <;> rfl
  | succ k ih => cases τ <;> simp [fld, fldTy] at h ⊢; exact ih h

def loc (c : CF) : List Stp → Ty → Nat ⊕ Nat → Nat → Option (Ty × (Nat ⊕ Nat) × Nat)
  | [], τ, B, o => some (τ, B, o)
  | .f k :: p, .st t, B, o => match fldTy t k with
    | some u => loc c p u B (o + offOf t k)
    | none => none
  | .e i :: p, .sl t, B, o => match c.cl B o with
    | some (.slice (some ⟨b, q, none⟩) _ _) => loc c p t (.inl b) (q + i * t.size)
    | _ => none
  | .e i :: p, .arr _ t, B, o => loc c p t B (o + i * t.size)
  | _ :: _, _, _, _ => none

def pathOk : List Stp → (τ : Ty) → τ.den → Mask → Prop
  | [], _, _, _ => True
  | .f k :: p, .st t, x, m => ∃ u, fld t x m k = some u ∧ pathOk p u.τ u.x u.m
  | .e i :: p, .sl t, x, m => (∃ m', m = .sl m') ∧ i < List.length x ∧ pathOk p t (List.getD x i t.dflt) m.el
  | .e i :: p, .arr n t, x, m => i < n ∧ pathOk p t (List.getD x i t.dflt) m.el
  | _ :: _, _, _, _ => False

theorem mkpr_l (a b : Mask) : (Mask.mkpr a b).l = a := by cases a <;> cases b <;> rfl
theorem mkpr_r (a b : Mask) : (Mask.mkpr a b).r = b := by cases a <;> cases b <;> rfl

theorem cast?_some {σ τ : Ty} {x : σ.den} {y : τ.den} (h : cast? σ τ x = some y) : ∃ e : σ = τ, y = e ▸ x := by
  unfold cast? at h
  split at h
  · rename_i e; exact ⟨e, (Option.some.inj h).symm⟩
  · cases h

/-- c' is az c in S. -/
def AgreeS (c c' : CF) (S S' : Nat → Prop) : Prop := ∀ b, S b → S' b ∧ ∀ j, c'.cl (.inl b) j = c.cl (.inl b) j

theorem OwnAt.fldWand {c : CF} {S : Nat → Prop} : ∀ {τ : Ty} {k : Nat} {x : τ.den} {m : Mask} {B : Nat ⊕ Nat} {o : Nat} {F : Nat → Prop} {u : Sub},
    OwnAt c S τ m B o x F → fld τ x m k = some u →
    ∃ F' : Nat → Prop, OwnAt c S u.τ u.m B (o + offOf τ k) u.x F' ∧ (∀ b, F' b → F b) ∧ offOf τ k + u.τ.size ≤ τ.size ∧
      ∀ (c' : CF) (S' : Nat → Prop) (s : Sub) (F'' : Nat → Prop) (y : τ.den × Mask), setFld τ x m k s = some y → s.τ = u.τ →
        (∀ j, j < τ.size → ¬ (offOf τ k ≤ j ∧ j < offOf τ k + u.τ.size) → c'.cl B (o + j) = c.cl B (o + j)) →
        (∀ b, F b → ¬ F' b → B ≠ .inl b ∧ c'.bk b = c.bk b ∧ ∀ j, c'.cl (.inl b) j = c.cl (.inl b) j) → AgreeS c c' S S' →
        OwnAt c' S' s.τ s.m B (o + offOf τ k) s.x F'' → (∀ b, F'' b → F b → F' b) →
        OwnAt c' S' τ y.2 B o y.1 (fun b => (F b ∧ ¬ F' b) ∨ F'' b) := by
  intro τ
  have last : ∀ {τ : Ty} {x : τ.den} {m : Mask} {B : Nat ⊕ Nat} {o : Nat} {F : Nat → Prop} {u : Sub}, OwnAt c S τ m B o x F → u = ⟨τ, x, m⟩ →
      offOf τ 0 = 0 → (∀ s : Sub, setFld τ x m 0 s = (cast? s.τ τ s.x).map fun y => (y, s.m)) →
      ∃ F' : Nat → Prop, OwnAt c S u.τ u.m B (o + offOf τ 0) u.x F' ∧ (∀ b, F' b → F b) ∧ offOf τ 0 + u.τ.size ≤ τ.size ∧
      ∀ (c' : CF) (S' : Nat → Prop) (s : Sub) (F'' : Nat → Prop) (y : τ.den × Mask), setFld τ x m 0 s = some y → s.τ = u.τ →
        (∀ j, j < τ.size → ¬ (offOf τ 0 ≤ j ∧ j < offOf τ 0 + u.τ.size) → c'.cl B (o + j) = c.cl B (o + j)) →
        (∀ b, F b → ¬ F' b → B ≠ .inl b ∧ c'.bk b = c.bk b ∧ ∀ j, c'.cl (.inl b) j = c.cl (.inl b) j) → AgreeS c c' S S' →
        OwnAt c' S' s.τ s.m B (o + offOf τ 0) s.x F'' → (∀ b, F'' b → F b → F' b) →
        OwnAt c' S' τ y.2 B o y.1 (fun b => (F b ∧ ¬ F' b) ∨ F'' b) := by
    intro τ x m B o F u h hu h0 hset
    subst hu
    refine ⟨F, by simpa [h0] using h, fun _ h => h, by simp [h0], ?_⟩
    intro c' S' s F'' y hy _ _ _ _ hs hd
    rw [hset] at hy
    simp only [Option.map_eq_some_iff] at hy
    obtain ⟨z, hz, rfl⟩ := hy
    obtain ⟨sτ, sx, sm⟩ := s
    obtain ⟨e, rfl⟩ := cast?_some hz
    simp only at e; subst e
    simp only [h0, Nat.add_zero] at hs
    exact hs.congr fun b => by simp
  induction τ with
  | pair a b iha ihb =>
    intro k x m B o F u h hf
    simp only [OwnAt] at h
    obtain ⟨F1, F2, e, d, h1, h2⟩ := h
    cases k with
    | zero =>
      simp only [fld, Option.some.injEq] at hf
      subst hf
      refine ⟨F1, by simpa [offOf] using h1, fun k hk => (e k).mpr (.inl hk), by simp [offOf, Ty.size], ?_⟩
      intro c' S' s F'' y hy hτ hc hF hS hs hd
      simp only [setFld, Option.map_eq_some_iff] at hy
      obtain ⟨z, hz, rfl⟩ := hy
      obtain ⟨sτ, sx, sm⟩ := s
      obtain ⟨e', rfl⟩ := cast?_some hz
      simp only at e'; subst e'
      simp only [OwnAt, mkpr_l, mkpr_r]
      refine ⟨F'', F2, fun k => ?_, fun k hk hk2 => d k (hd k hk ((e k).mpr (.inr hk2))) hk2, by simpa [offOf] using hs, ?_⟩
      · constructor
        · rintro (⟨hk, hn⟩ | hk)
          · exact ((e k).mp hk).elim (fun h => (hn h).elim) .inr
          · exact .inl hk
        · rintro (hk | hk)
          · exact .inr hk
          · exact .inl ⟨(e k).mpr (.inr hk), fun h1 => d k h1 hk⟩
      · refine h2.move (fun i hi => ?_) (fun k hk => hF k ((e k).mpr (.inr hk)) fun h1 => d k h1 hk) hS
        have := hc (sτ.size + i) (by simp [Ty.size]; omega) (by simp [offOf])
        simpa [Nat.add_assoc] using this
    | succ k =>
      simp only [fld] at hf
      obtain ⟨F', g1, g2, g3, g4⟩ := ihb h2 hf
      refine ⟨F', by simpa [offOf, Nat.add_assoc] using g1, fun k hk => (e k).mpr (.inr (g2 k hk)), by simp [offOf, Ty.size]; omega, ?_⟩
      intro c' S' s F'' y hy hτ hc hF hS hs hd
      simp only [setFld, Option.map_eq_some_iff] at hy
      obtain ⟨z, hz, rfl⟩ := hy
      have hb := g4 c' S' s F'' z hz hτ (fun j hj hn => by
          have := hc (a.size + j) (by simp [Ty.size]; omega) (by simp [offOf]; intro h1; simp at hn; have := hn (by omega); omega)
          simpa [Nat.add_assoc] using this)
        (fun k hk hn => hF k ((e k).mpr (.inr hk)) hn) hS (by simpa [offOf, Nat.add_assoc] using hs) (fun k hk hk2 => hd k hk ((e k).mpr (.inr hk2)))
      simp only [OwnAt, mkpr_l, mkpr_r]
      refine ⟨F1, _, fun k => ?_, fun k hk hk2 => ?_, ?_, hb⟩
      · constructor
        · rintro (⟨hk, hn⟩ | hk)
          · exact ((e k).mp hk).elim .inl fun h => .inr (.inl ⟨h, hn⟩)
          · exact .inr (.inr hk)
        · rintro (hk | ⟨hk, hn⟩ | hk)
          · exact .inl ⟨(e k).mpr (.inl hk), fun h => d k hk (g2 k h)⟩
          · exact .inl ⟨(e k).mpr (.inr hk), hn⟩
          · exact .inr hk
      · rcases hk2 with ⟨hk2, _⟩ | hk2
        · exact d k hk hk2
        · exact d k hk (g2 k (hd k hk2 ((e k).mpr (.inl hk))))
      · refine h1.move (fun i hi => hc i (by simp [Ty.size]; omega) (by simp [offOf]; omega)) (fun k hk => hF k ((e k).mpr (.inl hk)) fun h => d k hk (g2 k h)) hS
  | int k' => intro k x m B o F u h hf; cases k <;> simp [fld] at hf; exact last h hf.symm rfl (fun _ => rfl)
  | bool => intro k x m B o F u h hf; cases k <;> simp [fld] at hf; exact last h hf.symm rfl (fun _ => rfl)
  | str => intro k x m B o F u h hf; cases k <;> simp [fld] at hf; exact last h hf.symm rfl (fun _ => rfl)
  | sl t _ => intro k x m B o F u h hf; cases k <;> simp [fld] at hf; exact last h hf.symm rfl (fun _ => rfl)
  | unit => intro k x m B o F u h hf; cases k <;> simp [fld] at hf; exact last h hf.symm rfl (fun _ => rfl)
  | st t _ => intro k x m B o F u h hf; cases k <;> simp [fld] at hf; exact last h hf.symm rfl (fun _ => rfl)
  | arr n t _ => intro k x m B o F u h hf; cases k <;> simp [fld] at hf; exact last h hf.symm rfl (fun _ => rfl)
  | ip t _ => intro k x m B o F u h hf; cases k <;> simp [fld] at hf; exact last h hf.symm rfl (fun _ => rfl)
  | fn g t _ => intro k x m B o F u h hf; cases k <;> simp [fld] at hf; exact last h hf.symm rfl (fun _ => rfl)

/-- Where a path leads: into the value's own cells, or into a block of F. -/
def Lies (c : CF) (F : Nat → Prop) (B : Nat ⊕ Nat) (o n : Nat) (B' : Nat ⊕ Nat) (o' n' : Nat) : Prop :=
  (B' = B ∧ o ≤ o' ∧ o' + n' ≤ o + n) ∨ ∃ b k, F b ∧ B' = .inl b ∧ c.bk b = some k ∧ o' + n' ≤ k

theorem mul_le_of_lt {i n s : Nat} (h : i < n) : i * s + s ≤ n * s := by
  have : (i + 1) * s ≤ n * s := Nat.mul_le_mul_right _ h
  rwa [Nat.add_mul, Nat.one_mul] at this

theorem apart_elems {i j s a b : Nat} (h : i ≠ j) (ha : a < s) (hb : b < s) : i * s + a ≠ j * s + b := by
  rcases Nat.lt_or_gt_of_ne h with h | h
  · have := mul_le_of_lt (s := s) h; omega
  · have := mul_le_of_lt (s := s) h; omega

theorem OwnAt.wand {c : CF} {S : Nat → Prop} : ∀ {p : List Stp} {τ : Ty} {x : τ.den} {m : Mask} {B : Nat ⊕ Nat} {o : Nat} {F : Nat → Prop} {u : Sub},
    OwnAt c S τ m B o x F → pathOk p τ x m → getP τ x m p = some u → (∀ b, F b → B ≠ .inl b) →
    ∃ B' o' F', loc c p τ B o = some (u.τ, B', o') ∧ OwnAt c S u.τ u.m B' o' u.x F' ∧ (∀ b, F' b → F b) ∧ Lies c F B o τ.size B' o' u.τ.size ∧ (∀ b, F' b → B' ≠ .inl b) ∧
      ∀ (c' : CF) (S' : Nat → Prop) (s : Sub) (F'' : Nat → Prop) (y : τ.den × Mask), setP τ x m p s = some y →
        (∀ B1 j, (B1 = B ∨ ∃ b, F b ∧ B1 = .inl b) → ¬ (B1 = B' ∧ o' ≤ j ∧ j < o' + u.τ.size) → (∀ b, F' b → B1 ≠ .inl b) → c'.cl B1 j = c.cl B1 j) →
        (∀ b, F b → ¬ F' b → c'.bk b = c.bk b) → AgreeS c c' S S' →
        OwnAt c' S' s.τ s.m B' o' s.x F'' → (∀ b, F'' b → F b → F' b) →
        OwnAt c' S' τ y.2 B o y.1 (fun b => (F b ∧ ¬ F' b) ∨ F'' b) := by
  intro p
  induction p with
  | nil =>
    intro τ x m B o F u h _ hg hB
    simp only [getP, Option.some.injEq] at hg
    subst hg
    refine ⟨B, o, F, rfl, h, fun _ h => h, .inl ⟨rfl, Nat.le_refl _, Nat.le_refl _⟩, hB, ?_⟩
    intro c' S' s F'' y hy _ _ _ hs _
    simp only [setP, Option.map_eq_some_iff] at hy
    obtain ⟨z, hz, rfl⟩ := hy
    obtain ⟨sτ, sx, sm⟩ := s
    obtain ⟨e, rfl⟩ := cast?_some hz
    simp only at e; subst e
    exact hs.congr fun b => by simp
  | cons st p ih =>
    intro τ x m B o F u h hp hg hB
    cases st with
    | f k =>
      cases τ with
      | st t =>
        simp only [pathOk] at hp
        obtain ⟨w, hw, hp⟩ := hp
        simp only [getP, hw, Option.bind_some] at hg
        simp only [OwnAt] at h
        obtain ⟨F1, a1, a2, a3, a4⟩ := OwnAt.fldWand h hw
        obtain ⟨B', o', F', g1, g2, g3, g4, g5, g6⟩ := ih a1 hp hg (fun b hb => hB b (a2 b hb))
        refine ⟨B', o', F', by simp only [loc, fldTy_of hw]; exact g1, g2, fun b hb => a2 b (g3 b hb), ?_, g5, ?_⟩
        · rcases g4 with ⟨e, h1, h2⟩ | ⟨b, n, h1, h2, h3⟩
          · exact .inl ⟨e, by omega, by simp only [Ty.size]; omega⟩
          · exact .inr ⟨b, n, a2 b h1, h2, h3⟩
        · intro c' S' s F'' y hy hc hbk hS hs hd
          simp only [setP, hw, Option.bind_some, Option.bind_eq_some_iff] at hy
          obtain ⟨z, hz, hy⟩ := hy
          have hin := g6 c' S' s F'' z hz (fun B1 j h1 h2 h3 => hc B1 j (h1.imp id fun ⟨b, hb, e⟩ => ⟨b, a2 b hb, e⟩) h2 h3)
            (fun b hb hn => hbk b (a2 b hb) hn) hS hs (fun b hb hb2 => hd b hb (a2 b hb2))
          have hout := a4 c' S' ⟨w.τ, z.1, z.2⟩ _ y hy rfl (fun j hj hn => hc B (o + j) (.inl rfl) (by
              rintro ⟨e, h1, h2⟩
              rcases g4 with ⟨_, h3, h4⟩ | ⟨b, n, h3, h4, _⟩
              · exact hn (by omega)
              · exact hB b (a2 b h3) (e.trans h4)) (fun b hb => hB b (a2 b (g3 b hb))))
            (fun b hb hn => ⟨hB b hb, hbk b hb (fun h => hn (g3 b h)), fun j => hc (.inl b) j (.inr ⟨b, hb, rfl⟩) (by
              rintro ⟨e, _⟩
              rcases g4 with ⟨h3, _⟩ | ⟨b', n, h3, h4, _⟩
              · exact hB b hb (e.trans h3).symm
              · rw [h4] at e; injection e with e; subst e; exact hn h3) (fun b' hb' e => by injection e with e; subst e; exact hn (g3 _ hb'))⟩) hS hin
            (fun b hb hb2 => hb.elim (fun h1 => h1.1) fun h1 => g3 b (hd b h1 hb2))
          simp only [OwnAt]
          refine hout.congr fun b => ?_
          constructor
          · rintro (⟨h1, h2⟩ | h1)
            · by_cases h3 : F1 b
              · exact .inr (.inl ⟨h3, h2⟩)
              · exact .inl ⟨h1, h3⟩
            · exact .inr (.inr h1)
          · rintro (⟨h1, h2⟩ | ⟨h1, h2⟩ | h1)
            · exact .inl ⟨h1, fun h => h2 (g3 b h)⟩
            · exact .inl ⟨a2 b h1, h2⟩
            · exact .inr h1
      | _ => simp [getP] at hg
    | e i =>
      cases τ with
      | sl t =>
        simp only [pathOk] at hp
        obtain ⟨⟨m', rfl⟩, hi, hp⟩ := hp
        simp only [getP] at hg
        simp only [OwnAt] at h
        rcases h with ⟨_, h2, _⟩ | ⟨b, q, cap, n, h1, h2, h3, h4, hne, Fs, e, d, dd, h⟩
        · subst h2; simp at hi
        · obtain ⟨B', o', F', g1, g2, g3, g4, g5, g6⟩ := ih (h i hi) hp hg (fun k hk he => d i hi (by injection he with he; rw [he]; exact hk))
          have hFs : ∀ k, Fs i k → F k := fun k hk => (e k).mpr (.inr ⟨i, hi, hk⟩)
          have hFb : F b := (e b).mpr (.inl rfl)
          have hcap := mul_le_of_lt (s := t.size) (Nat.lt_of_lt_of_le hi h2)
          refine ⟨B', o', F', by simp only [loc, h1]; exact g1, g2, fun k hk => hFs k (g3 k hk), ?_, g5, ?_⟩
          · rcases g4 with ⟨e', h5, h6⟩ | ⟨b', n', h5, h6, h7⟩
            · exact .inr ⟨b, n, hFb, e', h3, by omega⟩
            · exact .inr ⟨b', n', hFs _ h5, h6, h7⟩
          · intro c' S' s F'' y hy hc hbk hS hs hd
            simp only [setP, Option.bind_eq_some_iff] at hy
            obtain ⟨z, hz, hy⟩ := hy
            split at hy
            · rename_i hm
              simp only [Option.some.injEq] at hy
              subst hy
              have hin := g6 c' S' s F'' z hz (fun B1 j h1 h2 h3 => hc B1 j (.inr (h1.elim (fun h => ⟨b, hFb, h⟩) fun ⟨b', hb', h⟩ => ⟨b', hFs _ hb', h⟩)) h2 h3)
                (fun k hk hn => hbk k (hFs k hk) hn) hS hs (fun k hk hk2 => hd k hk (hFs k hk2))
              rw [hm] at hin
              have hB' : ∀ k, F k → ¬ Fs i k → k ≠ b → B' ≠ .inl k := by
                intro k hk hn hkb e'
                rcases g4 with ⟨h5, _⟩ | ⟨b', n', h5, h6, _⟩
                · rw [h5] at e'; injection e' with e'; exact hkb e'.symm
                · rw [h6] at e'; injection e' with e'; subst e'; exact hn h5
              simp only [OwnAt]
              refine .inr ⟨b, q, cap, n, ?_, by simpa using h2, by rw [hbk b hFb fun h => d i hi (g3 b h)]; exact h3, h4, hne, fun j => if j = i then (fun k => (Fs i k ∧ ¬ F' k) ∨ F'' k) else Fs j, fun k => ?_, fun j hj hk => ?_, fun j1 j2 k hj1 hj2 hk1 hk2 => ?_, fun j hj => ?_⟩
              · rw [hc B o (.inl rfl) (by
                  rintro ⟨e', _⟩
                  rcases g4 with ⟨h5, _⟩ | ⟨b', n', h5, h6, _⟩
                  · exact hne (e'.trans h5)
                  · exact hB b' (hFs _ h5) (e'.trans h6)) (fun k hk => hB k (hFs k (g3 k hk))), h1]; simp
              · simp only [List.length_set]
                constructor
                · rintro (⟨hk, hn⟩ | hk)
                  · rcases (e k).mp hk with h | ⟨j, hj, h⟩
                    · exact .inl h
                    · refine .inr ⟨j, hj, ?_⟩
                      by_cases hji : j = i
                      · subst hji; simp only [if_true]; exact .inl ⟨h, hn⟩
                      · simp only [hji, if_false]; exact h
                  · exact .inr ⟨i, hi, by simp only [if_true]; exact .inr hk⟩
                · rintro (rfl | ⟨j, hj, h⟩)
                  · exact .inl ⟨hFb, fun h => d i hi (g3 _ h)⟩
                  · by_cases hji : j = i
                    · subst hji; simp only [if_true] at h
                      exact h.imp (fun h => ⟨hFs k h.1, h.2⟩) id
                    · simp only [hji, if_false] at h
                      exact .inl ⟨(e k).mpr (.inr ⟨j, hj, h⟩), fun h' => hji (dd j i k hj hi h (g3 k h'))⟩
              · simp only [List.length_set] at hj
                by_cases hji : j = i
                · subst hji; simp only [if_true] at hk
                  rcases hk with hk | hk
                  · exact d _ hi hk.1
                  · exact d _ hi (g3 _ (hd _ hk hFb))
                · simp only [hji, if_false] at hk; exact d j hj hk
              · simp only [List.length_set] at hj1 hj2
                have key : ∀ j, j < List.length x → j ≠ i → ∀ k, Fs j k → ((Fs i k ∧ ¬ F' k) ∨ F'' k) → False := by
                  intro j hj hji k h5 h6
                  rcases h6 with h6 | h6
                  · exact hji (dd j i k hj hi h5 h6.1)
                  · exact hji (dd j i k hj hi h5 (g3 k (hd k h6 ((e k).mpr (.inr ⟨j, hj, h5⟩)))))
                by_cases h5 : j1 = i <;> by_cases h6 : j2 = i
                · rw [h5, h6]
                · simp only [h5, h6, if_true, if_false] at hk1 hk2; exact (key j2 hj2 h6 k hk2 hk1).elim
                · simp only [h5, h6, if_true, if_false] at hk1 hk2; exact (key j1 hj1 h5 k hk1 hk2).elim
                · simp only [h5, h6, if_false] at hk1 hk2; exact dd j1 j2 k hj1 hj2 hk1 hk2
              · simp only [List.length_set] at hj
                by_cases hji : j = i
                · subst hji
                  simp only [if_true]
                  rw [show List.getD (List.set x j z.1) j t.dflt = z.1 by simp [List.getD, hj]]
                  exact hin
                · simp only [hji, if_false]
                  rw [show List.getD (List.set x i z.1) j t.dflt = List.getD x j t.dflt by simp [List.getD, List.getElem?_set_ne (Ne.symm hji)]]
                  refine (h j hj).move (fun a ha => hc (.inl b) _ (.inr ⟨b, hFb, rfl⟩) (by
                      rintro ⟨e', h7, h8⟩
                      rcases g4 with ⟨h5, h6, h9⟩ | ⟨b', n', h5, h6, _⟩
                      · have h10 := mul_le_of_lt (s := t.size) hi
                        rcases Nat.lt_or_gt_of_ne hji with hlt | hlt
                        · have := mul_le_of_lt (s := t.size) hlt; omega
                        · have := mul_le_of_lt (s := t.size) hlt; omega
                      · rw [h6] at e'; injection e' with e'; subst e'; exact d i hi h5) (fun k hk e' => by injection e' with e'; subst e'; exact d i hi (g3 _ hk))) (fun k hk => ?_) hS
                  have hnk : ¬ Fs i k := fun h5 => hji (dd j i k hj hi hk h5)
                  have hkF : F k := (e k).mpr (.inr ⟨j, hj, hk⟩)
                  refine ⟨fun e' => d j hj (by injection e' with e'; rw [e']; exact hk), hbk k hkF (fun h => hnk (g3 k h)), fun a => hc (.inl k) a (.inr ⟨k, hkF, rfl⟩) ?_ (fun k' hk' e' => by injection e' with e'; subst e'; exact hnk (g3 _ hk'))⟩
                  rintro ⟨e', _⟩
                  exact hB' k hkF hnk (fun h5 => d j hj (h5 ▸ hk)) e'.symm
            · cases hy
      | arr n t =>
        simp only [pathOk] at hp
        obtain ⟨hi, hp⟩ := hp
        simp only [getP] at hg
        simp only [OwnAt] at h
        obtain ⟨hn, Fs, e, dd, h⟩ := h
        have hFs : ∀ k, Fs i k → F k := fun k hk => (e k).mpr ⟨i, hi, hk⟩
        obtain ⟨B', o', F', g1, g2, g3, g4, g5, g6⟩ := ih (h i hi) hp hg (fun k hk => hB k (hFs k hk))
        have hcap := mul_le_of_lt (s := t.size) hi
        refine ⟨B', o', F', by simp only [loc]; exact g1, g2, fun k hk => hFs k (g3 k hk), ?_, g5, ?_⟩
        · rcases g4 with ⟨e', h5, h6⟩ | ⟨b', n', h5, h6, h7⟩
          · exact .inl ⟨e', by omega, by simp only [Ty.size]; omega⟩
          · exact .inr ⟨b', n', hFs _ h5, h6, h7⟩
        · intro c' S' s F'' y hy hc hbk hS hs hd
          simp only [setP, Option.bind_eq_some_iff] at hy
          obtain ⟨z, hz, hy⟩ := hy
          split at hy
          · rename_i hm
            simp only [Option.some.injEq] at hy
            subst hy
            have hin := g6 c' S' s F'' z hz (fun B1 j h1 h2 h3 => hc B1 j (h1.imp id fun ⟨b', hb', h⟩ => ⟨b', hFs _ hb', h⟩) h2 h3)
              (fun k hk hn => hbk k (hFs k hk) hn) hS hs (fun k hk hk2 => hd k hk (hFs k hk2))
            rw [hm] at hin
            simp only [OwnAt]
            refine ⟨by simpa using hn, fun j => if j = i then (fun k => (Fs i k ∧ ¬ F' k) ∨ F'' k) else Fs j, fun k => ?_, fun j1 j2 k hj1 hj2 hk1 hk2 => ?_, fun j hj => ?_⟩
            · constructor
              · rintro (⟨hk, hn'⟩ | hk)
                · obtain ⟨j, hj, h⟩ := (e k).mp hk
                  refine ⟨j, hj, ?_⟩
                  by_cases hji : j = i
                  · subst hji; simp only [if_true]; exact .inl ⟨h, hn'⟩
                  · simp only [hji, if_false]; exact h
                · exact ⟨i, hi, by simp only [if_true]; exact .inr hk⟩
              · rintro ⟨j, hj, h⟩
                by_cases hji : j = i
                · subst hji; simp only [if_true] at h
                  exact h.imp (fun h => ⟨hFs k h.1, h.2⟩) id
                · simp only [hji, if_false] at h
                  exact .inl ⟨(e k).mpr ⟨j, hj, h⟩, fun h' => hji (dd j i k hj hi h (g3 k h'))⟩
            · have key : ∀ j, j < n → j ≠ i → ∀ k, Fs j k → ((Fs i k ∧ ¬ F' k) ∨ F'' k) → False := by
                intro j hj hji k h5 h6
                rcases h6 with h6 | h6
                · exact hji (dd j i k hj hi h5 h6.1)
                · exact hji (dd j i k hj hi h5 (g3 k (hd k h6 ((e k).mpr ⟨j, hj, h5⟩))))
              by_cases h5 : j1 = i <;> by_cases h6 : j2 = i
              · rw [h5, h6]
              · simp only [h5, h6, if_true, if_false] at hk1 hk2; exact (key j2 hj2 h6 k hk2 hk1).elim
              · simp only [h5, h6, if_true, if_false] at hk1 hk2; exact (key j1 hj1 h5 k hk1 hk2).elim
              · simp only [h5, h6, if_false] at hk1 hk2; exact dd j1 j2 k hj1 hj2 hk1 hk2
            · by_cases hji : j = i
              · subst hji
                simp only [if_true]
                rw [show List.getD (List.set x j z.1) j t.dflt = z.1 by simp [List.getD, hn, hj]]
                exact hin
              · simp only [hji, if_false]
                rw [show List.getD (List.set x i z.1) j t.dflt = List.getD x j t.dflt by simp [List.getD, List.getElem?_set_ne (Ne.symm hji)]]
                refine (h j hj).move (fun a ha => hc B _ (.inl rfl) (by
                    rintro ⟨e', h7, h8⟩
                    rcases g4 with ⟨h5, h6, h9⟩ | ⟨b', n', h5, h6, _⟩
                    · rcases Nat.lt_or_gt_of_ne hji with hlt | hlt
                      · have := mul_le_of_lt (s := t.size) hlt; omega
                      · have := mul_le_of_lt (s := t.size) hlt; omega
                    · exact hB b' (hFs _ h5) (e'.trans h6)) (fun k hk => hB k (hFs k (g3 k hk)))) (fun k hk => ?_) hS
                have hnk : ¬ Fs i k := fun h5 => hji (dd j i k hj hi hk h5)
                have hkF : F k := (e k).mpr ⟨j, hj, hk⟩
                refine ⟨hB k hkF, hbk k hkF (fun h => hnk (g3 k h)), fun a => hc (.inl k) a (.inr ⟨k, hkF, rfl⟩) ?_ (fun k' hk' e' => by injection e' with e'; subst e'; exact hnk (g3 _ hk'))⟩
                rintro ⟨e', _⟩
                rcases g4 with ⟨h5, _⟩ | ⟨b', n', h5, h6, _⟩
                · exact hB k hkF (e'.trans h5).symm
                · rw [h6] at e'; injection e' with e'; subst e'; exact hnk h5
          · cases hy
      | _ => simp [getP] at hg

end Ev
end

section
namespace Ev
open Go

/-! ## Cells of a world -/
def bkOf (w : World) (b : Nat) : Option Nat :=
  match w.heap[b]? with
  | some (.cells c _ fr) => if fr.2 ≤ fr.1 ∨ c.size ≤ fr.1 then some c.size else none
  | _ => none

def wcf (w : World) (G : Nat → List Value) : CF :=
  ⟨fun B j => match B with | .inl b => w.cell? ⟨b, j, none⟩ | .inr l => (G l)[j]?, bkOf w⟩

@[simp] theorem wcf_inl (w : World) (G : Nat → List Value) (b j : Nat) : (wcf w G).cl (.inl b) j = w.cell? ⟨b, j, none⟩ := rfl
@[simp] theorem wcf_inr (w : World) (G : Nat → List Value) (l j : Nat) : (wcf w G).cl (.inr l) j = (G l)[j]? := rfl
@[simp] theorem wcf_bk (w : World) (G : Nat → List Value) (b : Nat) : (wcf w G).bk b = bkOf w b := rfl

theorem bkOf_cell {w : World} {b n j : Nat} (h : bkOf w b = some n) (hj : j < n) : ∃ v, w.cell? ⟨b, j, none⟩ = some v := by
  unfold bkOf at h
  split at h
  · rename_i c e fr hb
    split at h
    · simp only [Option.some.injEq] at h
      subst h
      exact ⟨c[j], by simp [World.cell?, hb, hj]⟩
    · cases h
  · cases h
theorem bkOf_frozen {w : World} {b n j : Nat} (h : bkOf w b = some n) (hj : j < n) : w.frozen? ⟨b, j, none⟩ = false := by
  unfold bkOf at h
  split at h
  · rename_i c e fr hb
    split at h
    · rename_i hf
      simp only [Option.some.injEq] at h
      subst h
      obtain ⟨lo, hi⟩ := fr
      simp only [World.frozen?, hb]
      simp only at hf
      rw [Bool.and_eq_false_iff]
      simp only [decide_eq_false_iff_not]
      omega
    · cases h
  · cases h
theorem bkOf_lt {w : World} {b n : Nat} (h : bkOf w b = some n) : b < w.heap.size := by
  unfold bkOf at h
  split at h
  · rename_i hb
    exact (Array.getElem?_eq_some_iff.mp hb).1
  · cases h
theorem bkOf_congr {w w' : World} {b : Nat} (h : w'.heap[b]? = w.heap[b]?) : bkOf w' b = bkOf w b := by simp only [bkOf, h]
theorem cell?_congr {w w' : World} {b j : Nat} (h : w'.heap[b]? = w.heap[b]?) : w'.cell? ⟨b, j, none⟩ = w.cell? ⟨b, j, none⟩ := by simp only [World.cell?, h]

/-! ## Values -/
def valOf (τ : Ty) (vs : List Value) (v : Value) : Prop := if τ.agg then v = .agg vs.toArray else vs = [v]

/-- Cells that a list has, above those of memory. -/
def gh (c : CF) (vs : List Value) : CF := ⟨fun B j => match B with | .inr _ => vs[j]? | .inl b => c.cl (.inl b) j, c.bk⟩
@[simp] theorem gh_inl (c : CF) (vs : List Value) (b j : Nat) : (gh c vs).cl (.inl b) j = c.cl (.inl b) j := rfl
@[simp] theorem gh_inr (c : CF) (vs : List Value) (l j : Nat) : (gh c vs).cl (.inr l) j = vs[j]? := rfl

def ImmV (c : CF) (S : Nat → Prop) (τ : Ty) (vs : List Value) (x : τ.den) : Prop := vs.length = τ.size ∧ ImmAt (gh c vs) S τ (.inr 0) 0 x

theorem ImmV.mono {c c' : CF} {S S' : Nat → Prop} {τ : Ty} {vs : List Value} {x : τ.den} (h : ImmV c S τ vs x) (hS : AgreeS c c' S S') : ImmV c' S' τ vs x :=
  ⟨h.1, h.2.move (fun _ _ => rfl) fun b hb => hS b hb⟩

/-- A value of cells that lie somewhere. -/
theorem ImmV.of_at {c : CF} {S : Nat → Prop} {τ : Ty} {B : Nat ⊕ Nat} {o : Nat} {x : τ.den} {vs : List Value} (h : ImmAt c S τ B o x) (hn : vs.length = τ.size)
    (hv : ∀ i, i < τ.size → c.cl B (o + i) = vs[i]?) : ImmV c S τ vs x :=
  ⟨hn, h.move (fun i hi => by simp [hv i hi]) fun _ hb => ⟨hb, fun _ => rfl⟩⟩
theorem ImmV.at {c : CF} {S : Nat → Prop} {τ : Ty} {B : Nat ⊕ Nat} {o : Nat} {x : τ.den} {vs : List Value} (h : ImmV c S τ vs x)
    (hv : ∀ i, i < τ.size → c.cl B (o + i) = vs[i]?) : ImmAt c S τ B o x :=
  h.2.move (fun i hi => by simp [hv i hi]) fun _ hb => ⟨hb, fun _ => rfl⟩

/-! ## Entries, names, slots -/
def base (e : Entry) (l : Nat) (P : Nat × Nat) : (Nat ⊕ Nat) × Nat := if e.mem then (.inl P.1, P.2) else (.inr l, 0)

def EntOk (c : CF) (S : Nat → Prop) (e : Entry) (l : Nat) (P : Nat × Nat) (F : Nat → Prop) : Prop :=
  if e.fz then (∀ b, ¬ F b) ∧ (e.mem = true → S P.1) ∧ ImmAt c S e.τ (base e l P).1 (base e l P).2 e.x
  else ∃ F' : Nat → Prop, OwnAt c S e.τ e.m (base e l P).1 (base e l P).2 e.x F' ∧ (∀ b, F' b → (base e l P).1 ≠ .inl b) ∧
    (if e.mem then (∀ k, F k ↔ k = P.1 ∨ F' k) ∧ ∃ n, c.bk P.1 = some n ∧ P.2 + e.τ.size ≤ n else ∀ k, F k ↔ F' k)

structure Rl (U : Nat → Prop) (h : Nat → Option Entry) (O S : Nat → Prop) (w : World) (G : Nat → List Value) (P : Nat → Nat × Nat) (ft : Nat → Nat → Prop) : Prop where
  us : ∀ l e, h l = some e → U l
  ent : ∀ l e, h l = some e → EntOk (wcf w G) S e l (P l) (ft l)
  gl : ∀ l e, h l = some e → e.mem = false → (G l).length = e.τ.size
  dis : ∀ l l' b, (h l).isSome = true → (h l').isSome = true → ft l b → ft l' b → l = l'
  own : ∀ l b, (h l).isSome = true → ft l b → O b ∧ ¬ S b
  new : ∀ b, w.heap.size ≤ b → O b ∧ ¬ S b

def AvOk (U : Nat → Prop) (h : Nat → Option Entry) (c : CF) (S : Nat → Prop) (P : Nat → Nat × Nat) : AV → Value → Prop
  | .imm τ x, v => (τ = .unit ∧ v = undef) ∨ ∃ vs, valOf τ vs v ∧ ImmV c S τ vs x
  | .ref l p k, v => U l ∧ ∀ e, h l = some e → k ≤ e.v ∧ (aliveR e p k = true → ∃ u, getP e.τ e.x e.m p = some u ∧ pathOk p e.τ e.x e.m ∧
      ∃ B o vs, loc c p e.τ (base e l (P l)).1 (base e l (P l)).2 = some (u.τ, B, o) ∧ vs.length = u.τ.size ∧ (∀ i, i < u.τ.size → c.cl B (o + i) = vs[i]?) ∧ valOf u.τ vs v)
  | .adr l p k, v => U l ∧ ∀ e, h l = some e → k ≤ e.v ∧ (aliveA e p k = true → pathOk p e.τ e.x e.m ∧ (e.mem = true ∨ deref p = true) ∧
      ∃ u b o, loc c p e.τ (base e l (P l)).1 (base e l (P l)).2 = some (u, .inl b, o) ∧ v = .pointer (some ⟨b, o, none⟩))

def SlOk (U : Nat → Prop) (h : Nat → Option Entry) (c : CF) (S : Nat → Prop) (P : Nat → Nat × Nat) : List AV → Value → Prop
  | [], _ => True
  | [v], V => AvOk U h c S P v V
  | vs, V => ∃ Vs : List Value, V = .tuple Vs.toArray ∧ Vs.length = vs.length ∧ ∀ (i : Nat) (a : AV) (b : Value), vs[i]? = some a → Vs[i]? = some b → AvOk U h c S P a b

/-- What an operation leaves az it was. -/
structure Kp (O S S' : Nat → Prop) (w w' : World) : Prop where
  os : w'.os = w.os
  tape : w'.tape = w.tape
  output : w'.output = w.output
  size : w.heap.size ≤ w'.heap.size
  block : ∀ b, b < w.heap.size → ¬ O b → w'.heap[b]? = w.heap[b]?
  sh : ∀ b, S b → S' b ∧ w'.heap[b]? = w.heap[b]?
  up : ∀ b, S' b → S b ∨ O b

theorem Kp.refl (O S : Nat → Prop) (w : World) : Kp O S S w w := ⟨rfl, rfl, rfl, Nat.le_refl _, fun _ _ _ => rfl, fun _ h => ⟨h, rfl⟩, fun _ h => .inl h⟩
theorem Kp.trans {O S S' S'' : Nat → Prop} {w w' w'' : World} (h : Kp O S S' w w') (k : Kp O S' S'' w' w'') : Kp O S S'' w w'' :=
  ⟨k.os.trans h.os, k.tape.trans h.tape, k.output.trans h.output, Nat.le_trans h.size k.size,
    fun b hb ho => (k.block b (Nat.lt_of_lt_of_le hb h.size) ho).trans (h.block b hb ho),
    fun b hb => ⟨(k.sh b (h.sh b hb).1).1, (k.sh b (h.sh b hb).1).2.trans (h.sh b hb).2⟩, fun b hb => (k.up b hb).elim (h.up b) .inr⟩
theorem Kp.agree {O S S' : Nat → Prop} {w w' : World} (h : Kp O S S' w w') (G G' : Nat → List Value) : AgreeS (wcf w G) (wcf w' G') S S' :=
  fun b hb => ⟨(h.sh b hb).1, fun j => cell?_congr (h.sh b hb).2⟩

/-- The numbers that an operation may give to new entries. -/
def Us (U : Nat → Prop) (id : Nat) : Nat → Prop := fun l => U l ∨ (id ≤ l ∧ l < id + 16)

theorem beq_ne {a b : Nat} (h : a ≠ b) : Nat.beq a b = false := by
  cases e : Nat.beq a b
  · rfl
  · exact (h (Nat.eq_of_beq_eq_true e)).elim

def updF : Ups → (Nat → Option Entry) → Nat → Option Entry
  | [], h => h
  | (k, e) :: r, h => updF r fun l => if l = k then e else h l

theorem hget_hdel (h : List (Nat × Entry)) (k l : Nat) : hget (hdel h k) l = if l = k then none else hget h l := by
  induction h with
  | nil => simp [hdel, hget]
  | cons q r ih =>
    obtain ⟨j, e⟩ := q
    by_cases hj : j = k
    · subst hj
      simp only [hdel, Nat.beq_refl, cond_true, ih, hget]
      by_cases hl : l = j
      · simp [hl]
      · have : Nat.beq j l = false := beq_ne fun h => hl h.symm
        simp [hl, this]
    · have hb : Nat.beq j k = false := beq_ne hj
      simp only [hdel, hb, cond_false, hget, ih]
      by_cases hl : j = l
      · subst hl; simp [hj, Nat.beq_refl]
      · have : Nat.beq j l = false := beq_ne hl
        simp [this]

theorem hget_app (ups : Ups) : ∀ h : List (Nat × Entry), hget (app ups h) = updF ups (hget h) := by
  induction ups with
  | nil => intro h; rfl
  | cons q r ih =>
    intro h
    obtain ⟨k, e⟩ := q
    cases e with
    | none => simp only [app, updF, ih]; congr 1; funext l; exact hget_hdel h k l
    | some e =>
      simp only [app, updF, ih]; congr 1; funext l
      by_cases hl : l = k
      · subst hl; simp [hget, Nat.beq_refl]
      · have : Nat.beq k l = false := beq_ne fun h => hl h.symm
        simp [hget, this, hl]

/-- What holds behind an operation. -/
structure Af (U : Nat → Prop) (id : Nat) (h : Nat → Option Entry) (O S : Nat → Prop) (w : World) (G : Nat → List Value) (Pl : Nat → Nat × Nat) (avs : List AV) (ups : Ups) (v : Value)
    (w' : World) (S' : Nat → Prop) (G' : Nat → List Value) (Pl' : Nat → Nat × Nat) (ft' : Nat → Nat → Prop) : Prop where
  rl : Rl (Us U id) (updF ups h) O S' w' G' Pl' ft'
  av : ∀ av V, AvOk U h (wcf w G) S Pl av V → AvOk (Us U id) (updF ups h) (wcf w' G') S' Pl' av V
  val : SlOk (Us U id) (updF ups h) (wcf w' G') S' Pl' avs v
  kp : Kp O S S' w w'

def OpOk (P : Program) (o : Oper) (a : Act) (U : Nat → Prop) (id : Nat) (h : Nat → Option Entry) (O S : Nat → Prop) (w : World) (G : Nat → List Value) (Pl : Nat → Nat × Nat) (avs : List AV) (ups : Ups) : Prop :=
  ∀ (next : Act → World → Prop) (Q : Exit → Act → World → Prop),
    (∀ v w' S' G' Pl' ft', Af U id h O S w G Pl avs ups v w' S' G' Pl' ft' → next (a.put o.dst v) w') → o.wp P a w next Q

theorem AvOk.mono {U U' : Nat → Prop} {h : Nat → Option Entry} {c : CF} {S : Nat → Prop} {Pl : Nat → Nat × Nat} {av : AV} {V : Value} (hU : ∀ l, U l → U' l) (k : AvOk U h c S Pl av V) : AvOk U' h c S Pl av V := by
  cases av with
  | imm τ x => exact k
  | ref l p n => exact ⟨hU l k.1, k.2⟩
  | adr l p n => exact ⟨hU l k.1, k.2⟩

theorem SlOk.map {U U' : Nat → Prop} {h h' : Nat → Option Entry} {c c' : CF} {S S' : Nat → Prop} {Pl Pl' : Nat → Nat × Nat} {avs : List AV} {V : Value}
    (hav : ∀ av V, AvOk U h c S Pl av V → AvOk U' h' c' S' Pl' av V) (k : SlOk U h c S Pl avs V) : SlOk U' h' c' S' Pl' avs V := by
  match avs, k with
  | [], _ => trivial
  | [v], k => exact hav _ _ k
  | v :: w :: r, ⟨Vs, h1, h2, h3⟩ => exact ⟨Vs, h1, h2, fun i a b ha hb => hav _ _ (h3 i a b ha hb)⟩

theorem Rl.mono {U U' : Nat → Prop} {h : Nat → Option Entry} {O S : Nat → Prop} {w : World} {G : Nat → List Value} {Pl : Nat → Nat × Nat} {ft : Nat → Nat → Prop} (hU : ∀ l, U l → U' l)
    (k : Rl U h O S w G Pl ft) : Rl U' h O S w G Pl ft := ⟨fun l e he => hU l (k.us l e he), k.ent, k.gl, k.dis, k.own, k.new⟩

/-- An operation that only computes. -/
theorem OpOk.value {P : Program} {o : Oper} {a : Act} {U : Nat → Prop} {id : Nat} {h : Nat → Option Entry} {O S : Nat → Prop} {w : World} {G : Nat → List Value} {Pl : Nat → Nat × Nat} {ft : Nat → Nat → Prop} {avs : List AV} {v : Value}
    (hr : Rl U h O S w G Pl ft) (hrun : (execOp a.eval o).run P w = .ok (.value v) w) (hv : SlOk U h (wcf w G) S Pl avs v) : OpOk P o a U id h O S w G Pl avs [] := by
  intro next Q hn
  unfold Oper.wp
  rw [hrun]
  exact hn v w S G Pl ft ⟨hr.mono fun _ h => .inl h, fun _ _ k => k.mono fun _ h => .inl h, hv.map fun _ _ k => k.mono fun _ h => .inl h, Kp.refl _ _ _⟩

end Ev
end

section
namespace Ev
open Go

section
variable {U : Nat → Prop} {h : Nat → Option Entry} {c : CF} {S : Nat → Prop} {Pl : Nat → Nat × Nat}

theorem av_int {k : IntKind} {n : Int} {v : Value} : AvOk U h c S Pl (.imm (.int k) n) v ↔ v = .int k n := by
  constructor
  · rintro (⟨h, _⟩ | ⟨vs, h1, h2, h3⟩)
    · cases h
    simp only [valOf, Ty.agg, Bool.false_eq_true, if_false] at h1
    subst h1
    simp only [ImmAt, gh_inr, List.getElem?_cons_zero, Option.some.injEq] at h3
    exact h3
  · rintro rfl
    exact .inr ⟨[.int k n], by simp [valOf, Ty.agg], rfl, by simp [ImmAt]⟩
theorem av_bool {b : Bool} {v : Value} : AvOk U h c S Pl (.imm .bool b) v ↔ v = .bool b := by
  constructor
  · rintro (⟨h, _⟩ | ⟨vs, h1, h2, h3⟩)
    · cases h
    simp only [valOf, Ty.agg, Bool.false_eq_true, if_false] at h1
    subst h1
    simp only [ImmAt, gh_inr, List.getElem?_cons_zero, Option.some.injEq] at h3
    exact h3
  · rintro rfl
    exact .inr ⟨[.bool b], by simp [valOf, Ty.agg], rfl, by simp [ImmAt]⟩
theorem av_str {s : ByteArray} {v : Value} : AvOk U h c S Pl (.imm .str s) v ↔ v = .string s := by
  constructor
  · rintro (⟨h, _⟩ | ⟨vs, h1, h2, h3⟩)
    · cases h
    simp only [valOf, Ty.agg, Bool.false_eq_true, if_false] at h1
    subst h1
    simp only [ImmAt, gh_inr, List.getElem?_cons_zero, Option.some.injEq] at h3
    exact h3
  · rintro rfl
    exact .inr ⟨[.string s], by simp [valOf, Ty.agg], rfl, by simp [ImmAt]⟩
theorem av_fn {g : Nat} {t : Ty} {x : t.den} {v : Value} : AvOk U h c S Pl (.imm (.fn g t) x) v ↔ ∃ cs : Array Value, v = .func (.func g) #[] cs ∧ ImmV c S t cs.toList x := by
  constructor
  · rintro (⟨h, _⟩ | ⟨vs, h1, h2, h3⟩)
    · cases h
    simp only [valOf, Ty.agg, Bool.false_eq_true, if_false] at h1
    subst h1
    simp only [ImmAt, gh_inr, List.getElem?_cons_zero, Option.some.injEq] at h3
    obtain ⟨cs, h3, h4, h5⟩ := h3
    exact ⟨cs, h3, by simpa using h4, h5.move (fun i hi => by simp) fun b hb => ⟨hb, fun _ => rfl⟩⟩
  · rintro ⟨cs, rfl, h1, h2⟩
    refine .inr ⟨[.func (.func g) #[] cs], by simp [valOf, Ty.agg], rfl, ?_⟩
    simp only [ImmAt, gh_inr, List.getElem?_cons_zero, Option.some.injEq]
    exact ⟨cs, rfl, by simpa using h1, h2.move (fun i hi => by simp) fun b hb => ⟨hb, fun _ => rfl⟩⟩
theorem av_ip {t : Ty} {x : t.den} {v : Value} : AvOk U h c S Pl (.imm (.ip t) x) v ↔ ∃ b q, v = .pointer (some ⟨b, q, none⟩) ∧ S b ∧ ImmAt c S t (.inl b) q x := by
  constructor
  · rintro (⟨h, _⟩ | ⟨vs, h1, h2, h3⟩)
    · cases h
    simp only [valOf, Ty.agg, Bool.false_eq_true, if_false] at h1
    subst h1
    simp only [ImmAt, gh_inr, List.getElem?_cons_zero, Option.some.injEq] at h3
    obtain ⟨b, q, h3, h4, h5⟩ := h3
    exact ⟨b, q, h3, h4, h5.move (fun i hi => by simp) fun b hb => ⟨hb, fun _ => rfl⟩⟩
  · rintro ⟨b, q, rfl, h1, h2⟩
    refine .inr ⟨[.pointer (some ⟨b, q, none⟩)], by simp [valOf, Ty.agg], rfl, ?_⟩
    simp only [ImmAt, gh_inr, List.getElem?_cons_zero, Option.some.injEq]
    exact ⟨b, q, rfl, h1, h2.move (fun i hi => by simp) fun b hb => ⟨hb, fun _ => rfl⟩⟩
theorem av_sl {t : Ty} {x : List t.den} {v : Value} : AvOk U h c S Pl (.imm (.sl t) x) v ↔ ∃ A cap, v = .slice A x.length cap ∧ x.length ≤ cap ∧
    ∀ i, i < x.length → ∃ b q, A = some ⟨b, q, none⟩ ∧ S b ∧ ImmAt c S t (.inl b) (q + i * t.size) (x.getD i t.dflt) := by
  constructor
  · rintro (⟨h, _⟩ | ⟨vs, h1, h2, h3⟩)
    · cases h
    simp only [valOf, Ty.agg, Bool.false_eq_true, if_false] at h1
    subst h1
    simp only [ImmAt, gh_inr, List.getElem?_cons_zero, Option.some.injEq] at h3
    obtain ⟨A, cap, h3, h4, h5⟩ := h3
    refine ⟨A, cap, h3, h4, fun i hi => ?_⟩
    obtain ⟨b, q, h6, h7, h8⟩ := h5 i hi
    exact ⟨b, q, h6, h7, h8.move (fun i hi => by simp) fun b hb => ⟨hb, fun _ => rfl⟩⟩
  · rintro ⟨A, cap, rfl, h1, h2⟩
    refine .inr ⟨[.slice A x.length cap], by simp [valOf, Ty.agg], rfl, ?_⟩
    simp only [ImmAt, gh_inr, List.getElem?_cons_zero, Option.some.injEq]
    refine ⟨A, cap, rfl, h1, fun i hi => ?_⟩
    obtain ⟨b, q, h6, h7, h8⟩ := h2 i hi
    exact ⟨b, q, h6, h7, h8.move (fun i hi => by simp) fun b hb => ⟨hb, fun _ => rfl⟩⟩

/-! ## Operands -/
variable {t : List (Nat × List AV)} {a : Act}

theorem opd_ok (hs : ∀ d, SlOk U h c S Pl (slot t d) (a.tmps.getD d undef)) (x : Operand) : SlOk U h c S Pl (opd t x) (a.eval x) := by
  cases x with
  | tmp d => exact hs d
  | const v =>
    cases v <;> simp only [opd] <;> first | trivial | skip
    · exact (av_bool (U := U) (h := h) (Pl := Pl)).mpr rfl
    · exact (av_int (U := U) (h := h) (Pl := Pl)).mpr rfl
    · exact (av_str (U := U) (h := h) (Pl := Pl)).mpr rfl
  | global g => trivial
  | func f => exact (av_fn (U := U) (h := h) (Pl := Pl)).mpr ⟨#[], rfl, rfl, by simp [ImmAt]⟩

theorem opd_one (hs : ∀ d, SlOk U h c S Pl (slot t d) (a.tmps.getD d undef)) {x : Operand} {v : AV} (e : opd t x = [v]) : AvOk U h c S Pl v (a.eval x) := by
  have := opd_ok (a := a) hs x
  rw [e] at this
  exact this

theorem sing_two {p q : List AV} {a b : AV} (h : sing [p, q] = some [a, b]) : p = [a] ∧ q = [b] := by
  match p, q, h with
  | [x], [y], h => simp [sing] at h; obtain ⟨rfl, rfl⟩ := h; exact ⟨rfl, rfl⟩
  | [], _, h => simp [sing] at h
  | _ :: _ :: _, _, h => simp [sing] at h
  | [_], [], h => simp [sing] at h
  | [_], _ :: _ :: _, h => simp [sing] at h

theorem sing_map {vs : List (List AV)} : ∀ {avs : List AV}, sing vs = some avs → vs = avs.map fun v => [v] := by
  induction vs with
  | nil => intro avs h; simp [sing] at h; subst h; rfl
  | cons p r ih =>
    intro avs h
    match p, h with
    | [v], h =>
      simp only [sing, Option.map_eq_some_iff] at h
      obtain ⟨l, hl, rfl⟩ := h
      rw [ih hl]; rfl
    | [], h => simp [sing] at h
    | _ :: _ :: _, h => simp [sing] at h
end

/-! ## Numbers, strings, bools -/
section
variable {P : Program} {w : World} {R : Type} {out : R}

theorem cond_none {b : Bool} {x : Option R} (h : cond b none x = some out) : b = false ∧ x = some out := by cases b <;> simp_all
theorem cond_some {b : Bool} {x : Option R} (h : cond b x none = some out) : b = true ∧ x = some out := by cases b <;> simp_all

theorem intOp_ok {op : BinOp} {k : IntKind} {a b : Int} {K : AV → Option R} (h : intOp op k a b K = some out) (xT : TypeId) :
    ∃ r v, K r = some out ∧ (binOp op xT (.int k a) (.int k b)).run P w = .ok v w ∧ ∀ U h c S Pl, AvOk U h c S Pl r v := by
  cases op <;> simp only [intOp] at h
  case quo =>
    obtain ⟨h1, h2⟩ := cond_none h
    exact ⟨_, _, h2, by simp [binOp, Op.intDiv, of_decide_eq_false h1], fun _ _ _ _ _ => av_int.mpr rfl⟩
  case rem =>
    obtain ⟨h1, h2⟩ := cond_none h
    exact ⟨_, _, h2, by simp [binOp, Op.intDiv, of_decide_eq_false h1], fun _ _ _ _ _ => av_int.mpr rfl⟩
  all_goals first
    | cases h; done
    | exact ⟨_, _, h, by simp [binOp, Op.intArith, Op.intCmp, Op.intBits, ibits]; done, fun _ _ _ _ _ => av_int.mpr rfl⟩
    | exact ⟨_, _, h, by simp [binOp, Op.intArith, Op.intCmp, Op.intBits, ibits]; done, fun _ _ _ _ _ => av_bool.mpr rfl⟩
    | exact ⟨_, _, h, by simp [binOp, Op.intArith, Op.intCmp, Op.intBits, ibits]; rfl, fun _ _ _ _ _ => av_int.mpr rfl⟩
    | exact ⟨_, _, h, by simp [binOp, Op.intArith, Op.intCmp, Op.intBits, ibits]; rfl, fun _ _ _ _ _ => av_bool.mpr rfl⟩

theorem shOp_ok {op : BinOp} (hop : op = .shl ∨ op = .shr) {k k' : IntKind} {a b : Int} {K : AV → Option R} (h : shOp op k a b K = some out) (xT : TypeId) :
    ∃ r v, K r = some out ∧ (binOp op xT (.int k a) (.int k' b)).run P w = .ok v w ∧ ∀ U h c S Pl, AvOk U h c S Pl r v := by
  unfold shOp at h
  obtain ⟨h1, h2⟩ := cond_none h
  have h1 := of_decide_eq_false h1
  rcases hop with rfl | rfl
  · exact ⟨_, _, h2, by simp [binOp, Op.shift, h1], fun _ _ _ _ _ => av_int.mpr rfl⟩
  · exact ⟨_, _, h2, by simp [binOp, Op.shift, h1], fun _ _ _ _ _ => av_int.mpr rfl⟩

theorem strOp_ok {op : BinOp} {a b : ByteArray} {K : AV → Option R} (h : strOp op a b K = some out) (xT : TypeId) :
    ∃ r v, K r = some out ∧ (binOp op xT (.string a) (.string b)).run P w = .ok v w ∧ ∀ U h c S Pl, AvOk U h c S Pl r v := by
  cases op <;> simp only [strOp] at h
  case add =>
    obtain ⟨h1, h2⟩ := cond_some h
    have h1 := of_decide_eq_true h1
    refine ⟨_, _, h2, ?_, fun _ _ _ _ _ => av_str.mpr rfl⟩
    have : ¬ (((a.size + b.size : Nat) : Int) > IntKind.i64.max) := by
      have : IntKind.i64.max = 9223372036854775807 := by decide
      rw [this]; omega
    simp only [binOp, Op.stringOp, if_neg this]
    rfl
  all_goals first
    | cases h; done
    | exact ⟨_, _, h, by simp [binOp, Op.stringOp]; rfl, fun _ _ _ _ _ => av_bool.mpr rfl⟩
    | exact ⟨_, _, h, by simp [binOp, Op.stringOp]; done, fun _ _ _ _ _ => av_bool.mpr rfl⟩

end

end Ev
end

section
namespace Ev
open Go

theorem ImmAt.fldAt {c : CF} {S : Nat → Prop} : ∀ {τ : Ty} {k : Nat} {x : τ.den} {m : Mask} {B : Nat ⊕ Nat} {o : Nat} {u : Sub},
    ImmAt c S τ B o x → fld τ x m k = some u → ImmAt c S u.τ B (o + offOf τ k) u.x := by
  intro τ
  induction τ with
  | pair a b iha ihb =>
    intro k x m B o u h hf
    cases k with
    | zero => simp only [fld, Option.some.injEq] at hf; subst hf; simpa [offOf] using h.1
    | succ k => simp only [fld] at hf; simpa [offOf, Nat.add_assoc] using ihb h.2 hf
  | int k' => intro k x m B o u h hf; cases k <;> simp [fld] at hf; subst hf; simpa [offOf] using h
  | bool => intro k x m B o u h hf; cases k <;> simp [fld] at hf; subst hf; simpa [offOf] using h
  | str => intro k x m B o u h hf; cases k <;> simp [fld] at hf; subst hf; simpa [offOf] using h
  | sl t _ => intro k x m B o u h hf; cases k <;> simp [fld] at hf; subst hf; simpa [offOf] using h
  | unit => intro k x m B o u h hf; cases k <;> simp [fld] at hf; subst hf; simpa [offOf] using h
  | st t _ => intro k x m B o u h hf; cases k <;> simp [fld] at hf; subst hf; simpa [offOf] using h
  | arr n t _ => intro k x m B o u h hf; cases k <;> simp [fld] at hf; subst hf; simpa [offOf] using h
  | ip t _ => intro k x m B o u h hf; cases k <;> simp [fld] at hf; subst hf; simpa [offOf] using h
  | fn g t _ => intro k x m B o u h hf; cases k <;> simp [fld] at hf; subst hf; simpa [offOf] using h

theorem ImmAt.get {c : CF} {S : Nat → Prop} : ∀ {p : List Stp} {τ : Ty} {x : τ.den} {m : Mask} {B : Nat ⊕ Nat} {o : Nat} {u : Sub},
    ImmAt c S τ B o x → pathOk p τ x m → getP τ x m p = some u → ∃ B' o', loc c p τ B o = some (u.τ, B', o') ∧ ImmAt c S u.τ B' o' u.x ∧ (B' = B ∨ ∃ b, S b ∧ B' = .inl b) := by
  intro p
  induction p with
  | nil => intro τ x m B o u h _ hg; simp only [getP, Option.some.injEq] at hg; subst hg; exact ⟨B, o, rfl, h, .inl rfl⟩
  | cons st p ih =>
    intro τ x m B o u h hp hg
    cases st with
    | f k =>
      cases τ with
      | st t =>
        simp only [pathOk] at hp
        obtain ⟨w, hw, hp⟩ := hp
        simp only [getP, hw, Option.bind_some] at hg
        simp only [ImmAt] at h
        obtain ⟨B', o', g1, g2, g3⟩ := ih (h.fldAt hw) hp hg
        exact ⟨B', o', by simp only [loc, fldTy_of hw]; exact g1, g2, g3⟩
      | _ => simp [getP] at hg
    | e i =>
      cases τ with
      | sl t =>
        simp only [pathOk] at hp
        obtain ⟨_, hi, hp⟩ := hp
        simp only [getP] at hg
        simp only [ImmAt] at h
        obtain ⟨A, cap, h1, h2, h3⟩ := h
        obtain ⟨b, q, rfl, hb, h4⟩ := h3 i hi
        obtain ⟨B', o', g1, g2, g3⟩ := ih h4 hp hg
        exact ⟨B', o', by simp only [loc, h1]; exact g1, g2, .inr (g3.elim (fun e => ⟨b, hb, e⟩) id)⟩
      | arr n t =>
        simp only [pathOk] at hp
        obtain ⟨hi, hp⟩ := hp
        simp only [getP] at hg
        simp only [ImmAt] at h
        obtain ⟨B', o', g1, g2, g3⟩ := ih (h.2 i hi) hp hg
        exact ⟨B', o', by simp only [loc]; exact g1, g2, g3⟩
      | _ => simp [getP] at hg

/-- Where a path of an entry leads, and what lies there. -/
theorem EntOk.at {c : CF} {S : Nat → Prop} {e : Entry} {l : Nat} {P : Nat × Nat} {F : Nat → Prop} {p : List Stp} {u : Sub}
    (h : EntOk c S e l P F) (hp : pathOk p e.τ e.x e.m) (hg : getP e.τ e.x e.m p = some u) :
    ∃ B o, loc c p e.τ (base e l P).1 (base e l P).2 = some (u.τ, B, o) ∧
      ((e.fz = true ∧ ImmAt c S u.τ B o u.x ∧ (B = (base e l P).1 ∨ ∃ b, S b ∧ B = .inl b)) ∨ (e.fz = false ∧ ∃ F' : Nat → Prop, OwnAt c S u.τ u.m B o u.x F' ∧ (∀ b, F' b → F b) ∧ (B = (base e l P).1 ∨ ∃ b, F b ∧ B = .inl b))) := by
  unfold EntOk at h
  by_cases hf : e.fz = true
  · rw [if_pos hf] at h
    obtain ⟨_, _, h⟩ := h
    obtain ⟨B, o, h1, h2, h3⟩ := h.get hp hg
    exact ⟨B, o, h1, .inl ⟨hf, h2, h3⟩⟩
  · rw [if_neg hf] at h
    obtain ⟨F1, h1, h2, h3⟩ := h
    have hF : ∀ b, F1 b → F b := by
      intro b hb
      by_cases hm : e.mem = true
      · rw [if_pos hm] at h3; exact (h3.1 b).mpr (.inr hb)
      · rw [if_neg hm] at h3; exact (h3 b).mpr hb
    obtain ⟨B, o, F', g1, g2, g3, g4, g5, _⟩ := h1.wand hp hg h2
    exact ⟨B, o, g1, .inr ⟨by simpa using hf, F', g2, fun b hb => hF b (g3 b hb), g4.elim (fun h => .inl h.1) fun ⟨b, k, h4, h5, _⟩ => .inr ⟨b, hF b h4, h5⟩⟩⟩

theorem EntOk.imm {c : CF} {S S' : Nat → Prop} {e : Entry} {l : Nat} {P : Nat × Nat} {F : Nat → Prop} {p : List Stp} {u : Sub}
    (h : EntOk c S e l P F) (hp : pathOk p e.τ e.x e.m) (hg : getP e.τ e.x e.m p = some u) (hS : ∀ b, S b → S' b) (hF : ∀ b, F b → S' b) :
    ∃ B o, loc c p e.τ (base e l P).1 (base e l P).2 = some (u.τ, B, o) ∧ ImmAt c S' u.τ B o u.x ∧ (B = (base e l P).1 ∨ ∃ b, S' b ∧ B = .inl b) := by
  obtain ⟨B, o, h1, ⟨_, h2, h3⟩ | ⟨_, F', h2, h3, h4⟩⟩ := h.at hp hg
  · exact ⟨B, o, h1, h2.move (fun _ _ => rfl) fun b hb => ⟨hS b hb, fun _ => rfl⟩, h3.imp id fun ⟨b, hb, e⟩ => ⟨b, hS b hb, e⟩⟩
  · exact ⟨B, o, h1, h2.freeze hS fun b hb => hF b (h3 b hb), h4.imp id fun ⟨b, hb, e⟩ => ⟨b, hF b hb, e⟩⟩

section
variable {U : Nat → Prop} {h : Nat → Option Entry} {O S : Nat → Prop} {w : World} {G : Nat → List Value} {Pl : Nat → Nat × Nat} {ft : Nat → Nat → Prop}

theorem atR_some {l : Nat} {p : List Stp} {k : Nat} {u : Sub} (e : atR h l p k = some u) : ∃ n, h l = some n ∧ getP n.τ n.x n.m p = some u ∧ aliveR n p k = true := by
  unfold atR at e
  split at e
  · rename_i n hn
    split at e
    · rename_i u' hu
      obtain ⟨h1, h2⟩ := cond_some e
      injection h2 with h2; subst h2
      exact ⟨n, hn, hu, h1⟩
    · cases e
  · cases e
theorem atA_some {l : Nat} {p : List Stp} {k : Nat} {u : Sub} (e : atA h l p k = some u) : ∃ n, h l = some n ∧ getP n.τ n.x n.m p = some u ∧ aliveA n p k = true := by
  unfold atA at e
  split at e
  · rename_i n hn
    obtain ⟨h1, h2⟩ := cond_some e
    exact ⟨n, hn, h2, h1⟩
  · cases e

/-- What a value is, az something that stays, in a world where what its entry owns stays. -/
theorem cont_ok {S' : Nat → Prop} {av : AV} {v : Value} {u : Sub} (hr : Rl U h O S w G Pl ft) (hv : AvOk U h (wcf w G) S Pl av v) (hc : cont h av = some u)
    (hS : ∀ b, S b → S' b) (hF : ∀ l b, l ∈ AV.ids [av] → (h l).isSome = true → ft l b → S' b) : ∃ vs, valOf u.τ vs v ∧ ImmV (wcf w G) S' u.τ vs u.x := by
  cases av with
  | imm τ x =>
    have hu : τ ≠ .unit := by rintro rfl; simp [cont] at hc
    have hc : (⟨τ, x, .sh⟩ : Sub) = u := by cases τ <;> simp only [cont, reduceCtorEq, Option.some.injEq] at hc <;> exact hc
    subst hc
    obtain ⟨vs, h1, h2⟩ := hv.resolve_left fun h => hu h.1
    exact ⟨vs, h1, h2.mono fun b hb => ⟨hS b hb, fun _ => rfl⟩⟩
  | ref l p k =>
    simp only [cont] at hc
    obtain ⟨n, hn, hg, ha⟩ := atR_some hc
    obtain ⟨_, hv⟩ := hv
    obtain ⟨_, hv⟩ := hv n hn
    obtain ⟨u', hg', hp, B, o, vs, hl, h1, h2, h3⟩ := hv ha
    rw [hg] at hg'; injection hg' with hg'; subst hg'
    obtain ⟨B', o', hl', h4, _⟩ := (hr.ent l n hn).imm hp hg hS (fun b hb => hF l b (by simp [AV.ids]) (by simp [hn]) hb)
    rw [hl] at hl'; simp only [Option.some.injEq, Prod.mk.injEq, true_and] at hl'
    obtain ⟨rfl, rfl⟩ := hl'
    exact ⟨vs, h3, ImmV.of_at h4 h1 h2⟩
  | adr l p k =>
    simp only [cont] at hc
    split at hc
    · rename_i u' hu
      injection hc with hc; subst hc
      obtain ⟨n, hn, hg, ha⟩ := atA_some hu
      obtain ⟨_, hv⟩ := hv
      obtain ⟨_, hv⟩ := hv n hn
      obtain ⟨hp, hm, τ, b, o, hl, rfl⟩ := hv ha
      obtain ⟨B', o', hl', h4, h5⟩ := (hr.ent l n hn).imm hp hg hS (fun b hb => hF l b (by simp [AV.ids]) (by simp [hn]) hb)
      rw [hl] at hl'; simp only [Option.some.injEq, Prod.mk.injEq] at hl'
      obtain ⟨rfl, rfl, rfl⟩ := hl'
      refine (av_ip (U := U) (h := h) (Pl := Pl)).mpr ⟨b, o, rfl, ?_, h4⟩ |>.resolve_left fun h => by cases h.1
      rcases h5 with h5 | ⟨b', h5, h6⟩
      · have hmem : n.mem = true := by
          by_cases hm : n.mem = true
          · exact hm
          · simp only [base, hm, if_false, Bool.false_eq_true] at h5; cases h5
        simp only [base, hmem, if_true] at h5
        injection h5 with h5
        have hE := hr.ent l n hn
        unfold EntOk at hE
        split at hE
        · rw [h5]; exact hS _ (hE.2.1 hmem)
        · obtain ⟨F', _, _, hE⟩ := hE
          exact hF l b (by simp [AV.ids]) (by simp [hn]) ((hE.1 b).mpr (.inl h5))
      · injection h6 with h6; subst h6; exact h5
    · cases hc

theorem isFz_eq {l : Nat} {n : Entry} (hn : h l = some n) : isFz h l = n.fz := by simp [isFz, hn]

/-- A value, told to be one. -/
def AvR (U : Nat → Prop) (h : Nat → Option Entry) (c : CF) (S : Nat → Prop) (P : Nat → Nat × Nat) : AV → Value → Prop
  | .imm τ x, v => ∃ vs, valOf τ vs v ∧ ImmV c S τ vs x
  | .ref l p k, v => AvOk U h c S P (.ref l p k) v
  | .adr l p k, v => AvOk U h c S P (.adr l p k) v
theorem AvR.imm {U : Nat → Prop} {h : Nat → Option Entry} {c : CF} {S : Nat → Prop} {P : Nat → Nat × Nat} {τ : Ty} {x : τ.den} {v : Value} (k : AvR U h c S P (.imm τ x) v) : ∃ vs, valOf τ vs v ∧ ImmV c S τ vs x := k
theorem AvR.ok {U : Nat → Prop} {h : Nat → Option Entry} {c : CF} {S : Nat → Prop} {P : Nat → Nat × Nat} {av : AV} {v : Value} (k : AvR U h c S P av v) : AvOk U h c S P av v := by
  cases av with
  | imm τ x => exact .inr k
  | ref l p n => exact k
  | adr l p n => exact k

/-- What a value is, now. -/
theorem res_ok {av av' : AV} {v : Value} (hr : Rl U h O S w G Pl ft) (hv : AvOk U h (wcf w G) S Pl av v) (hc : res h av = some av') : AvR U h (wcf w G) S Pl av' v := by
  cases av with
  | imm τ x =>
    have hu : τ ≠ .unit := by rintro rfl; simp [res] at hc
    have hc : AV.imm τ x = av' := by cases τ <;> simp only [res, reduceCtorEq, Option.some.injEq] at hc <;> exact hc
    subst hc; exact hv.resolve_left fun h => hu h.1
  | ref l p k =>
    simp only [res] at hc
    split at hc
    · rename_i u hu
      injection hc with hc; subst hc
      by_cases hf : (isFz h l || u.m.isSh) = true
      · simp only [hf, cond_true]
        obtain ⟨n, hn, hg, ha⟩ := atR_some hu
        obtain ⟨_, hv⟩ := hv
        obtain ⟨_, hv⟩ := hv n hn
        obtain ⟨u', hg', hp, B, o, vs, hl, h1, h2, h3⟩ := hv ha
        rw [hg] at hg'; injection hg' with hg'; subst hg'
        obtain ⟨B', o', hl', h4⟩ := (hr.ent l n hn).at hp hg
        rw [hl] at hl'; simp only [Option.some.injEq, Prod.mk.injEq, true_and] at hl'
        obtain ⟨rfl, rfl⟩ := hl'
        refine ⟨vs, h3, ImmV.of_at (B := B) (o := o) ?_ h1 h2⟩
        rcases h4 with ⟨_, h4, _⟩ | ⟨h5, F', h4, _, _⟩
        · exact h4
        · rw [isFz_eq hn, h5] at hf
          simp only [Bool.false_or] at hf
          have : u.m = .sh := by cases hm : u.m <;> simp [hm, Mask.isSh] at hf ⊢
          rw [this] at h4
          exact (OwnAt.sh_iff.mp h4).2
      · simp only [Bool.not_eq_true] at hf
        simp only [hf, cond_false]
        exact hv
    · cases hc
  | adr l p k =>
    simp only [res] at hc
    split at hc
    · rename_i u hu
      injection hc with hc; subst hc
      by_cases hf : isFz h l = true
      · simp only [hf, cond_true]
        obtain ⟨n, hn, hg, ha⟩ := atA_some hu
        have := cont_ok (S' := S) (u := ⟨.ip u.τ, u.x, u.m⟩) hr hv (by simp only [cont, hu]) (fun _ h => h) (fun l' b hl' _ hb => by
          simp only [AV.ids, List.mem_cons, List.not_mem_nil, or_false] at hl'
          subst hl'
          have hE := hr.ent l' n hn
          unfold EntOk at hE
          rw [isFz_eq hn] at hf
          rw [if_pos hf] at hE
          exact (hE.1 b hb).elim)
        exact this
      · simp only [Bool.not_eq_true] at hf
        simp only [hf, cond_false]
        exact hv
    · cases hc
end
end Ev
end

section
namespace Ev
open Go

/-! ## The table of types holds -/
inductive DOk : TypeDesc → TD → Prop
  | int (k) : DOk (.int k) (.int k)
  | bool : DOk .bool .bool
  | str : DOk .string .str
  | slice (e) : DOk (.slice e) (.slice e)
  | array (n e) : DOk (.array n e) (.array n e)
  | struct (fs gs) : fs.toList.map (fun f => (f.type, f.offset)) = gs → DOk (.struct fs) (.struct gs)
  | ptr (e) : DOk (.pointer e) (.ptr e)
  | other (d) : DOk d .other

def zeroCells : Ty → List Value
  | .int k => [.int k 0]
  | .bool => [.bool false]
  | .str => [.string ByteArray.empty]
  | .sl _ => [.slice none 0 0]
  | .pair a b => zeroCells a ++ zeroCells b
  | .unit => []
  | .st t => zeroCells t
  | .arr n t => (List.replicate n (zeroCells t)).flatten
  | _ => []
/-- Types that a zero value can be told of. -/
def Ty.plain : Ty → Bool
  | .ip _ | .fn _ _ => false
  | .pair a b => a.plain && b.plain
  | .st t => t.plain
  | .arr _ t => t.plain
  | _ => true

def aggD : TypeDesc → Bool
  | .struct _ | .array _ _ => true
  | _ => false

structure TOne (P : Program) (t : TypeId) (i : TI) : Prop where
  info : ∃ f, P.info? t = some f ∧ f.size = i.size ∧ f.bytes = i.bytes ∧ ∀ τ, i.τ = some τ → τ.plain = true ∧ τ.size = i.size ∧ τ.agg = i.agg ∧ ∃ z, f.zero = some z ∧ valOf τ (zeroCells τ) z
  under : ∃ d, P.underlying t = some d ∧ DOk d i.d ∧ i.agg = aggD d
  one : i.agg = false → i.size = 1
  eqs : ∀ gs, i.d = .struct gs → i.τ.isSome = true → P.stoodInHeld t = false ∧ P.eqGuardType P.depth t = false ∧ ∀ fs, P.underlying t = some (.struct fs) → fs.toList.all (fun f => f.name != "_") = true

def TOk (P : Program) (TT : TypeId → Option TI) : Prop := ∀ t i, TT t = some i → TOne P t i

section
variable {P : Program} {w : World}
theorem run_underlying' {t : TypeId} {d : TypeDesc} (h : P.underlying t = some d) : (underlying t).run P w = .ok d w := by simp [underlying, h]
theorem run_typeInfo' {t : TypeId} {f : TypeInfo} (h : P.info? t = some f) : (typeInfo t).run P w = .ok f w := by simp [typeInfo, h]
theorem run_sizeOf' {t : TypeId} {f : TypeInfo} (h : P.info? t = some f) : (Go.sizeOf t).run P w = .ok f.size w := by simp [Go.sizeOf, run_typeInfo' h]
theorem run_isAgg' {t : TypeId} {d : TypeDesc} (h : P.underlying t = some d) : (isAgg t).run P w = .ok (aggD d) w := by
  simp only [isAgg, Sem.run_bind, run_underlying' h, Result.andThen_ok]
  cases d <;> simp [aggD]
theorem add_eq (b q i : Nat) : (⟨b, q, none⟩ : Addr).add i = ⟨b, q + i, none⟩ := by unfold Addr.add; split <;> simp_all
end

theorem ImmAt.cells1 {c : CF} {S : Nat → Prop} : ∀ {τ : Ty} {B : Nat ⊕ Nat} {o : Nat} {x : τ.den}, ImmAt c S τ B o x → ∀ i, i < τ.size → ∃ v, c.cl B (o + i) = some v ∧ v.oneCell' = true := by
  intro τ
  induction τ with
  | int k => intro B o x h i hi; simp only [Ty.size] at hi; obtain rfl : i = 0 := by omega
             exact ⟨_, h, rfl⟩
  | bool => intro B o x h i hi; simp only [Ty.size] at hi; obtain rfl : i = 0 := by omega
            exact ⟨_, h, rfl⟩
  | str => intro B o x h i hi; simp only [Ty.size] at hi; obtain rfl : i = 0 := by omega
           exact ⟨_, h, rfl⟩
  | sl t _ => intro B o x h i hi; simp only [Ty.size] at hi; obtain rfl : i = 0 := by omega
              obtain ⟨A, cap, h, _⟩ := h; exact ⟨_, h, rfl⟩
  | ip t _ => intro B o x h i hi; simp only [Ty.size] at hi; obtain rfl : i = 0 := by omega
              obtain ⟨b, q, h, _⟩ := h; exact ⟨_, h, rfl⟩
  | fn g t _ => intro B o x h i hi; simp only [Ty.size] at hi; obtain rfl : i = 0 := by omega
                obtain ⟨cs, h, _⟩ := h; exact ⟨_, h, rfl⟩
  | unit => intro B o x h i hi; simp [Ty.size] at hi
  | st t ih => intro B o x h i hi; exact ih h i hi
  | pair a b iha ihb =>
    intro B o x h i hi
    simp only [Ty.size] at hi
    by_cases hlt : i < a.size
    · exact iha h.1 i hlt
    · obtain ⟨v, hv, h1⟩ := ihb h.2 (i - a.size) (by omega)
      exact ⟨v, by rw [← hv]; congr 1; omega, h1⟩
  | arr n t ih =>
    intro B o x h i hi
    simp only [Ty.size] at hi
    have hpos : 0 < t.size := Nat.pos_of_ne_zero fun h0 => by simp [h0] at hi
    have hd := Nat.div_add_mod i t.size
    have hlt : i / t.size < n := Nat.div_lt_of_lt_mul (by rw [Nat.mul_comm]; exact hi)
    obtain ⟨v, hv, h1⟩ := ih (h.2 (i / t.size) hlt) (i % t.size) (Nat.mod_lt _ hpos)
    refine ⟨v, ?_, h1⟩
    rw [← hv]; congr 1
    have : i / t.size * t.size = t.size * (i / t.size) := Nat.mul_comm _ _
    omega

theorem ImmAt.cells {c : CF} {S : Nat → Prop} {τ : Ty} {B : Nat ⊕ Nat} {o : Nat} {x : τ.den} (h : ImmAt c S τ B o x) : ∀ i, i < τ.size → ∃ v, c.cl B (o + i) = some v :=
  fun i hi => let ⟨v, h, _⟩ := h.cells1 i hi; ⟨v, h⟩

theorem OwnAt.cells1 {c : CF} {S : Nat → Prop} {τ : Ty} {m : Mask} {B : Nat ⊕ Nat} {o : Nat} {x : τ.den} {F : Nat → Prop} (h : OwnAt c S τ m B o x F) : ∀ i, i < τ.size → ∃ v, c.cl B (o + i) = some v ∧ v.oneCell' = true :=
  (h.freeze (S' := fun _ => True) (fun _ _ => trivial) fun _ _ => trivial).cells1

theorem OwnAt.cells {c : CF} {S : Nat → Prop} {τ : Ty} {m : Mask} {B : Nat ⊕ Nat} {o : Nat} {x : τ.den} {F : Nat → Prop} (h : OwnAt c S τ m B o x F) : ∀ i, i < τ.size → ∃ v, c.cl B (o + i) = some v :=
  (h.freeze (S' := fun _ => True) (fun _ _ => trivial) fun _ _ => trivial).cells

/-- The values of some cells. -/
theorem vals_of {c : CF} {B : Nat ⊕ Nat} {o n : Nat} (h : ∀ i, i < n → ∃ v, c.cl B (o + i) = some v) : ∃ vs : List Value, vs.length = n ∧ ∀ i, i < n → c.cl B (o + i) = vs[i]? := by
  induction n with
  | zero => exact ⟨[], rfl, fun i hi => by omega⟩
  | succ n ih =>
    obtain ⟨vs, h1, h2⟩ := ih fun i hi => h i (by omega)
    obtain ⟨v, hv⟩ := h n (by omega)
    refine ⟨vs ++ [v], by simp [h1], fun i hi => ?_⟩
    by_cases hin : i < n
    · rw [h2 i hin, List.getElem?_append_left (by omega)]
    · obtain rfl : i = n := by omega
      rw [hv, ← h1, List.getElem?_concat_length]

/-- A load of cells that are there. -/
theorem run_loadVar' {P : Program} {w : World} {G : Nat → List Value} {T : TypeId} {i : TI} {b o : Nat} {vs : List Value} (ht : TOne P T i) (hn : vs.length = i.size)
    (hv : ∀ j, j < i.size → (wcf w G).cl (.inl b) (o + j) = vs[j]?) :
    ∃ v, (loadVar T ⟨b, o, none⟩).run P w = .ok v w ∧ (if i.agg then v = .agg vs.toArray else vs = [v]) := by
  obtain ⟨f, hf, hsz, _⟩ := ht.info
  obtain ⟨d, hd, _, hagg⟩ := ht.under
  simp only [loadVar, Sem.run_bind, run_isAgg' hd, Result.andThen_ok]
  rw [← hagg]
  by_cases ha : i.agg = true
  · simp only [ha, if_true, Sem.run_bind, run_sizeOf' hf, Result.andThen_ok]
    have := run_loadCells_list (P := P) (w := w) ⟨b, o, none⟩ vs fun j v hj => by
      have hlt : j < vs.length := by
        rcases Nat.lt_or_ge j vs.length with h | h
        · exact h
        · rw [List.getElem?_eq_none h] at hj; cases hj
      have := hv j (by omega)
      rw [hj] at this
      rw [add_eq]; exact this
    rw [hsz, ← hn, this]
    exact ⟨_, by simp, rfl⟩
  · simp only [ha, if_false, Bool.false_eq_true]
    have h1 := ht.one (by simpa using ha)
    match vs, hn, hv with
    | [v], _, hv =>
      have := hv 0 (by omega)
      simp only [Nat.add_zero, wcf_inl, List.getElem?_cons_zero] at this
      exact ⟨v, by simp [this], rfl⟩
    | [], hn, _ => simp [h1] at hn
    | _ :: _ :: _, hn, _ => simp [h1] at hn

theorem loc_append {c : CF} : ∀ {p q : List Stp} {τ : Ty} {B : Nat ⊕ Nat} {o : Nat}, loc c (p ++ q) τ B o = (loc c p τ B o).bind fun r => loc c q r.1 r.2.1 r.2.2 := by
  intro p
  induction p with
  | nil => intro q τ B o; rfl
  | cons st p ih =>
    intro q τ B o
    cases st with
    | f k =>
      cases τ <;> simp only [List.cons_append, loc, Option.bind_none]
      split <;> simp only [ih, Option.bind_none]
    | e i =>
      cases τ <;> simp only [List.cons_append, loc, Option.bind_none, ih]
      split <;> simp only [ih, Option.bind_none]
theorem getP_append : ∀ {p q : List Stp} {τ : Ty} {x : τ.den} {m : Mask}, getP τ x m (p ++ q) = (getP τ x m p).bind fun u => getP u.τ u.x u.m q := by
  intro p
  induction p with
  | nil => intro q τ x m; rfl
  | cons st p ih =>
    intro q τ x m
    cases st with
    | f k =>
      cases τ <;> simp only [List.cons_append, getP, Option.bind_none]
      rename_i t
      cases h : fld t x m k with
      | none => rfl
      | some u => simp only [Option.bind_some, ih]
    | e i => cases τ <;> simp only [List.cons_append, getP, Option.bind_none, ih]
theorem pathOk_append : ∀ {p q : List Stp} {τ : Ty} {x : τ.den} {m : Mask} {u : Sub}, pathOk p τ x m → getP τ x m p = some u → pathOk q u.τ u.x u.m → pathOk (p ++ q) τ x m := by
  intro p
  induction p with
  | nil => intro q τ x m u _ hg hq; simp only [getP, Option.some.injEq] at hg; subst hg; exact hq
  | cons st p ih =>
    intro q τ x m u hp hg hq
    cases st with
    | f k =>
      cases τ <;> simp only [pathOk] at hp
      obtain ⟨v, hv, hp⟩ := hp
      simp only [getP, hv, Option.bind_some] at hg
      exact ⟨v, hv, ih hp hg hq⟩
    | e i =>
      cases τ <;> simp only [pathOk] at hp <;> simp only [getP] at hg
      · exact ⟨hp.1, hp.2.1, ih hp.2.2 hg hq⟩
      · exact ⟨hp.1, ih hp.2 hg hq⟩
theorem deref_append_e {p : List Stp} {i : Nat} : deref (p ++ [.e i]) = true := by
  induction p with
  | nil => rfl
  | cons st p ih => cases st <;> simp [deref, ih]
theorem deref_append_f {p : List Stp} {k : Nat} : deref (p ++ [.f k]) = deref p := by
  induction p with
  | nil => rfl
  | cons st p ih => cases st <;> simp [deref, ih]

end Ev
end

section
namespace Ev
open Go

section
variable {P : Program} {E : Env} {U : Nat → Prop} {h : Nat → Option Entry} {O S : Nat → Prop} {w : World} {G : Nat → List Value} {Pl : Nat → Nat × Nat} {ft : Nat → Nat → Prop} {R : Type} {out : R}

theorem szOf_pos {t : TypeId} {n : Nat} (hT : TOk P E.TT) (hn : Nat.beq (szOf E t) n = true) (hp : 1 ≤ n) : ∃ i f, E.TT t = some i ∧ P.info? t = some f ∧ f.size = n ∧ i.size = n := by
  unfold szOf at hn
  split at hn
  · rename_i i hi
    have hn := Nat.eq_of_beq_eq_true hn
    obtain ⟨f, hf, hs, _⟩ := (hT t i hi).info
    exact ⟨i, f, hi, hf, hs.trans hn, hn⟩
  · have := Nat.eq_of_beq_eq_true hn; omega

/-- The size of an element: read, or (where it is no cell) of no account. -/
theorem run_elem {e : TypeId} {n : Nat} (hT : TOk P E.TT) (hn : Nat.beq (szOf E e) n = true) (hp : 1 ≤ n) : (Go.sizeOf e).run P w = .ok n w := by
  obtain ⟨i, f, _, hf, hs, _⟩ := szOf_pos hT hn hp
  rw [run_sizeOf' hf, hs]

theorem sl_facts {T : TypeId} {t : Ty} (hT : TOk P E.TT) (h1 : isSl E T = true) (h2 : elemSz E T t = true) :
    ∃ e, P.underlying T = some (.slice e) ∧ ∀ w, (Go.sizeOf e).run P w = .ok t.size w := by
  unfold isSl at h1
  split at h1
  · rename_i e a b c d hi
    obtain ⟨d', hd, hk, _⟩ := (hT T _ hi).under
    cases hk
    simp only [elemSz, hi, Bool.and_eq_true] at h2
    exact ⟨e, hd, fun w => run_elem hT h2.2 (Nat.le_of_ble_eq_true h2.1)⟩
  · cases h1

theorem arr_facts {T : TypeId} {t : Ty} {k : Nat} (hT : TOk P E.TT) (h1 : isArr E T k = true) (h2 : elemSz E T t = true) :
    ∃ e, P.underlying T = some (.array k e) ∧ ∀ w, (Go.sizeOf e).run P w = .ok t.size w := by
  unfold isArr at h1
  split at h1
  · rename_i n e a b c d hi
    obtain rfl := Nat.eq_of_beq_eq_true h1
    obtain ⟨d', hd, hk, _⟩ := (hT T _ hi).under
    cases hk
    simp only [elemSz, hi, Bool.and_eq_true] at h2
    exact ⟨e, hd, fun w => run_elem hT h2.2 (Nat.le_of_ble_eq_true h2.1)⟩
  · cases h1

theorem inRange_some {n : Int} {len : Nat} {K : Option R} (e : inRange n len K = some out) : 0 ≤ n ∧ n < (len : Int) ∧ K = some out := by
  unfold inRange at e
  obtain ⟨h1, e⟩ := cond_some e
  obtain ⟨h2, e⟩ := cond_some e
  exact ⟨of_decide_eq_true h1, of_decide_eq_true h2, e⟩

theorem run_indexAt_slice {T e : TypeId} {A : Option Addr} {len cap n : Nat} {k : IntKind} {i : Int} {b q : Nat} (hu : P.underlying T = some (.slice e)) (hs : (Go.sizeOf e).run P w = .ok n w)
    (hA : A = some ⟨b, q, none⟩) (h0 : 0 ≤ i) (h1 : i < (len : Int)) :
    (Instr.indexAt T (.slice A len cap) (.int k i)).run P w = .ok (.pointer (some ⟨b, q + i.toNat * n, none⟩)) w := by
  subst hA
  simp [Instr.indexAt, asIntOf, run_underlying' hu, h0, h1, hs, add_eq]

theorem run_indexAt_array {T e : TypeId} {len n : Nat} {k : IntKind} {i : Int} {b q : Nat} (hu : P.underlying T = some (.array len e)) (hs : (Go.sizeOf e).run P w = .ok n w)
    (h0 : 0 ≤ i) (h1 : i < (len : Int)) :
    (Instr.indexAt T (.pointer (some ⟨b, q, none⟩)) (.int k i)).run P w = .ok (.pointer (some ⟨b, q + i.toNat * n, none⟩)) w := by
  simp [Instr.indexAt, asIntOf, run_underlying' hu, h0, h1, hs, add_eq, Instr.sureAddr]

theorem toNat_lt {n : Int} {len : Nat} (h0 : 0 ≤ n) (h1 : n < (len : Int)) : n.toNat < len := by omega

/-- The names that a reading makes. -/
theorem loc_e_sl {c : CF} {t : Ty} {B : Nat ⊕ Nat} {o b q len cap i : Nat} (h1 : c.cl B o = some (.slice (some ⟨b, q, none⟩) len cap)) :
    loc c [.e i] (.sl t) B o = some (t, .inl b, q + i * t.size) := by simp only [loc, h1]

theorem idxAddr_ok {T : TypeId} {a : AV} {v : Value} {n : Int} {k : IntKind} {K : Kt R} (hT : TOk P E.TT) (hr : Rl U h O S w G Pl ft) (hv : AvOk U h (wcf w G) S Pl a v)
    (e : idxAddr E h T a n K = some out) :
    ∃ avs V, K avs [] = some out ∧ (Instr.indexAt T v (.int k n)).run P w = .ok V w ∧ SlOk U h (wcf w G) S Pl avs V := by
  unfold idxAddr at e
  split at e
  · -- a row that stays
    rename_i t xs hres
    obtain ⟨hc, e⟩ := cond_some e
    rw [Bool.and_eq_true] at hc
    obtain ⟨h0, h1, e⟩ := inRange_some e
    obtain ⟨el, hu, hsz⟩ := sl_facts hT hc.1 hc.2
    obtain ⟨A, cap, rfl, hcap, hx⟩ := av_sl.mp (res_ok hr hv hres).ok
    obtain ⟨b, q, rfl, hb, hi⟩ := hx n.toNat (toNat_lt h0 h1)
    exact ⟨_, _, e, run_indexAt_slice hu (hsz w) rfl h0 h1, (av_ip (U := U) (h := h) (Pl := Pl)).mpr ⟨b, _, rfl, hb, hi⟩⟩
  · -- an array that stays
    rename_i len t xs hres
    obtain ⟨hc, e⟩ := cond_some e
    simp only [Bool.and_eq_true] at hc
    obtain ⟨h0, h1, e⟩ := inRange_some e
    obtain ⟨el, hu, hsz⟩ := arr_facts hT hc.1.1 hc.1.2
    obtain ⟨b, q, rfl, hb, hx⟩ := av_ip.mp (res_ok hr hv hres).ok
    exact ⟨_, _, e, run_indexAt_array hu (hsz w) h0 h1, (av_ip (U := U) (h := h) (Pl := Pl)).mpr ⟨b, _, rfl, hb, hx.2 _ (toNat_lt h0 h1)⟩⟩
  · -- a row of an entry
    rename_i l p kv hres
    split at e
    · rename_i t xs m hat
      obtain ⟨hc, e⟩ := cond_some e
      rw [Bool.and_eq_true] at hc
      obtain ⟨h0, h1, e⟩ := inRange_some e
      obtain ⟨el, hu, hsz⟩ := sl_facts hT hc.1 hc.2
      obtain ⟨nn, hn, hg, ha⟩ := atR_some hat
      obtain ⟨hU, hv⟩ := res_ok hr hv hres
      obtain ⟨hk, hv⟩ := hv nn hn
      obtain ⟨u', hg', hp, B, o, vs, hl, hlen, hcl, hval⟩ := hv ha
      rw [hg] at hg'; injection hg' with hg'; subst hg'
      have hvs : vs = [v] := by simpa [valOf, Ty.agg] using hval
      subst hvs
      have hcell : (wcf w G).cl B o = some v := by simpa using hcl 0 (by simp [Ty.size])
      have hlt := toNat_lt h0 h1
      obtain ⟨B', o', hl', hE⟩ := (hr.ent l nn hn).at hp hg
      rw [hl] at hl'; simp only [Option.some.injEq, Prod.mk.injEq, true_and] at hl'
      obtain ⟨rfl, rfl⟩ := hl'
      have hsl : ∃ b q cap, v = .slice (some ⟨b, q, none⟩) (List.length xs) cap := by
        rcases hE with ⟨_, hE, _⟩ | ⟨_, F', hE, _, _⟩
        · obtain ⟨A, cap, hA, _, hx⟩ := hE
          obtain ⟨b, q, rfl, _⟩ := hx _ hlt
          rw [hcell] at hA; injection hA with hA
          exact ⟨b, q, cap, hA⟩
        · simp only [OwnAt] at hE
          rcases hE with ⟨_, h2, _⟩ | ⟨b, q, cap, _, hA, _⟩
          · subst h2; simp at hlt
          · rw [hcell] at hA; injection hA with hA
            exact ⟨b, q, cap, hA⟩
      obtain ⟨b, q, cap, rfl⟩ := hsl
      refine ⟨_, _, e, run_indexAt_slice hu (hsz w) rfl h0 h1, hU, fun e' he' => ?_⟩
      rw [hn] at he'; injection he' with he'; subst he'
      refine ⟨by simp [verOf, hn], fun _ => ⟨pathOk_append hp hg ⟨⟨m, rfl⟩, hlt, trivial⟩, .inr deref_append_e, t, b, q + n.toNat * t.size, ?_, rfl⟩⟩
      rw [loc_append, hl]
      exact loc_e_sl hcell
    · cases e
  · -- an array of an entry
    rename_i l p kv hres
    split at e
    · rename_i len t xs m hat
      obtain ⟨hc, e⟩ := cond_some e
      simp only [Bool.and_eq_true] at hc
      obtain ⟨h0, h1, e⟩ := inRange_some e
      obtain ⟨el, hu, hsz⟩ := arr_facts hT hc.1.1 hc.1.2
      obtain ⟨nn, hn, hg, ha⟩ := atA_some hat
      obtain ⟨hU, hv⟩ := res_ok hr hv hres
      obtain ⟨hk, hv⟩ := hv nn hn
      obtain ⟨hp, hm, u, b, o, hl, rfl⟩ := hv ha
      obtain ⟨B', o', hl', _⟩ := (hr.ent l nn hn).at hp hg
      rw [hl] at hl'; simp only [Option.some.injEq, Prod.mk.injEq] at hl'
      obtain ⟨rfl, rfl, rfl⟩ := hl'
      refine ⟨_, _, e, run_indexAt_array hu (hsz w) h0 h1, hU, fun e' he' => ?_⟩
      rw [hn] at he'; injection he' with he'; subst he'
      refine ⟨by simp [verOf, hn], fun _ => ⟨pathOk_append hp hg ⟨toNat_lt h0 h1, trivial⟩, .inr deref_append_e, t, b, o + n.toNat * t.size, ?_, rfl⟩⟩
      rw [loc_append, hl]
      rfl
    · cases e
  · cases e

theorem fld_facts {T : TypeId} {t u : Ty} {k : Nat} (hT : TOk P E.TT) (e : fldOk E T t k u = true) :
    ∃ fs f i fi, P.underlying T = some (.struct fs) ∧ fs[k]? = some f ∧ f.offset = offOf t k ∧ E.TT f.type = some i ∧ P.info? f.type = some fi ∧ fi.size = u.size ∧ i.size = u.size ∧ 1 ≤ u.size ∧ i.agg = u.agg := by
  unfold fldOk at e
  split at e
  · rename_i gs a b c d hi
    split at e
    · rename_i ft off hk
      simp only [Bool.and_eq_true] at e
      obtain ⟨h1, h2, h3, h4⟩ := e
      have h3 := Nat.le_of_ble_eq_true h3
      obtain ⟨i, fi, hti, hfi, hs, hs'⟩ := szOf_pos hT h2 h3
      obtain ⟨d', hd, hdk, _⟩ := (hT T _ hi).under
      cases hdk with
      | struct fs gs hgs =>
        have : (fs.toList.map fun f => (f.type, f.offset))[k]? = some (ft, off) := by rw [hgs]; exact hk
        rw [List.getElem?_map, Option.map_eq_some_iff] at this
        obtain ⟨f, hf, hfe⟩ := this
        simp only [Prod.mk.injEq] at hfe
        obtain ⟨rfl, rfl⟩ := hfe
        refine ⟨fs, f, i, fi, hd, by simpa using hf, Nat.eq_of_beq_eq_true h1, hti, hfi, hs, hs', h3, ?_⟩
        simp only [aggOf, hti] at h4
        cases hia : i.agg <;> cases hua : u.agg <;> simp_all
    · cases e
  · cases e

theorem run_fieldAt {T : TypeId} {fs : Array Field} {f : Field} {fi : TypeInfo} {k b q : Nat} (hu : P.underlying T = some (.struct fs)) (hf : fs[k]? = some f) (hi : P.info? f.type = some fi) (hp : 1 ≤ fi.size) :
    (Instr.fieldAt T (.pointer (some ⟨b, q, none⟩)) k).run P w = .ok (.pointer (some ⟨b, q + f.offset, none⟩)) w := by
  have h0 : ¬ fi.size = 0 := by omega
  simp [Instr.fieldAt, run_underlying' hu, hf, Instr.sureAddr, fieldPlace, run_sizeOf' hi, h0, add_eq]

theorem fAddr_ok {T : TypeId} {a : AV} {v : Value} {k : Nat} {K : Kt R} (hT : TOk P E.TT) (hr : Rl U h O S w G Pl ft) (hv : AvOk U h (wcf w G) S Pl a v)
    (e : fAddr E h T a k K = some out) :
    ∃ avs V, K avs [] = some out ∧ (Instr.fieldAt T v k).run P w = .ok V w ∧ SlOk U h (wcf w G) S Pl avs V := by
  unfold fAddr at e
  split at e
  · rename_i t x hres
    split at e
    · rename_i u hu
      obtain ⟨hc, e⟩ := cond_some e
      obtain ⟨fs, f, i, fi, h1, h2, h3, _, h4, h5, _, h6, _⟩ := fld_facts hT hc
      obtain ⟨b, q, rfl, hb, hx⟩ := av_ip.mp (res_ok hr hv hres).ok
      refine ⟨_, _, e, run_fieldAt h1 h2 h4 (by omega), (av_ip (U := U) (h := h) (Pl := Pl)).mpr ⟨b, _, rfl, hb, ?_⟩⟩
      rw [h3]
      simp only [ImmAt] at hx
      exact hx.fldAt hu
    · cases e
  · rename_i l p kv hres
    split at e
    · rename_i t x m hat
      split at e
      · rename_i u hu
        obtain ⟨hc, e⟩ := cond_some e
        obtain ⟨fs, f, i, fi, h1, h2, h3, _, h4, h5, _, h6, _⟩ := fld_facts hT hc
        obtain ⟨nn, hn, hg, ha⟩ := atA_some hat
        obtain ⟨hU, hv⟩ := res_ok hr hv hres
        obtain ⟨hk, hv⟩ := hv nn hn
        obtain ⟨hp, hm, u', b, o, hl, rfl⟩ := hv ha
        obtain ⟨B', o', hl', _⟩ := (hr.ent l nn hn).at hp hg
        rw [hl] at hl'; simp only [Option.some.injEq, Prod.mk.injEq] at hl'
        obtain ⟨rfl, rfl, rfl⟩ := hl'
        refine ⟨_, _, e, run_fieldAt h1 h2 h4 (by omega), hU, fun e' he' => ?_⟩
        rw [hn] at he'; injection he' with he'; subst he'
        refine ⟨hk, fun _ => ⟨pathOk_append hp hg ⟨u, hu, trivial⟩, by rw [deref_append_f]; exact hm, u.τ, b, o + f.offset, ?_, rfl⟩⟩
        rw [loc_append, hl]
        simp only [Option.bind_some, loc, fldTy_of hu, h3]
      · cases e
    · cases e
  · cases e

theorem load_facts {T : TypeId} {t : Ty} (hT : TOk P E.TT) (hc : (Nat.beq (szOf E T) t.size && cond (aggOf E T) t.agg (!t.agg)) = true) (hp : 1 ≤ t.size) :
    ∃ i, TOne P T i ∧ i.size = t.size ∧ i.agg = t.agg := by
  rw [Bool.and_eq_true] at hc
  obtain ⟨i, f, hi, _, _, hs⟩ := szOf_pos hT hc.1 hp
  refine ⟨i, hT T i hi, hs, ?_⟩
  have h := hc.2
  simp only [aggOf, hi] at h
  cases h1 : i.agg <;> cases h2 : t.agg <;> simp_all

theorem loadA_ok {T : TypeId} {a : AV} {v : Value} {K : Kt R} (hT : TOk P E.TT) (hr : Rl U h O S w G Pl ft) (hv : AvOk U h (wcf w G) S Pl a v)
    (e : loadA E h T a K = some out) :
    ∃ avs V, K avs [] = some out ∧ (Instr.loadAt T v).run P w = .ok V w ∧ SlOk U h (wcf w G) S Pl avs V := by
  unfold loadA at e
  split at e
  · rename_i t x hres
    obtain ⟨hc, e⟩ := cond_some e
    simp only [Bool.and_eq_true] at hc
    have hp := Nat.le_of_ble_eq_true hc.1
    obtain ⟨i, ht, hs, ha⟩ := load_facts hT (by rw [Bool.and_eq_true]; exact hc.2) hp
    obtain ⟨b, q, rfl, hb, hx⟩ := av_ip.mp (res_ok hr hv hres).ok
    obtain ⟨vs, hn, hvs⟩ := vals_of hx.cells
    obtain ⟨V, hV, hval⟩ := run_loadVar' (G := G) ht (by rw [hn, hs]) (by rw [hs]; exact hvs)
    refine ⟨_, V, e, by simp [Instr.loadAt, Instr.sureAddr, hV], .inr ⟨vs, ?_, ImmV.of_at hx hn hvs⟩⟩
    unfold valOf; rw [← ha]; exact hval
  · rename_i l p kv hres
    split at e
    · rename_i t x m hat
      obtain ⟨hc, e⟩ := cond_some e
      simp only [Bool.and_eq_true] at hc
      have hp1 := Nat.le_of_ble_eq_true hc.1
      obtain ⟨i, ht, hs, ha'⟩ := load_facts hT (by rw [Bool.and_eq_true]; exact hc.2) hp1
      obtain ⟨nn, hn, hg, ha⟩ := atA_some hat
      obtain ⟨hU, hv⟩ := res_ok hr hv hres
      obtain ⟨hk, hv⟩ := hv nn hn
      obtain ⟨hp, hm, u', b, o, hl, rfl⟩ := hv ha
      obtain ⟨B', o', hl', hE⟩ := (hr.ent l nn hn).at hp hg
      rw [hl] at hl'; simp only [Option.some.injEq, Prod.mk.injEq] at hl'
      obtain ⟨rfl, rfl, rfl⟩ := hl'
      have hcells : ∀ j, j < u'.size → ∃ v, (wcf w G).cl (.inl b) (o + j) = some v := by
        rcases hE with ⟨_, hE, _⟩ | ⟨_, F', hE, _, _⟩
        · exact hE.cells
        · exact hE.cells
      obtain ⟨vs, hlen, hvs⟩ := vals_of hcells
      obtain ⟨V, hV, hval⟩ := run_loadVar' (G := G) ht (by rw [hlen, hs]) (by rw [hs]; exact hvs)
      have hval' : valOf u' vs V := by unfold valOf; rw [← ha']; exact hval
      refine ⟨_, V, e, by simp [Instr.loadAt, Instr.sureAddr, hV], ?_⟩
      show AvOk U h (wcf w G) S Pl _ V
      by_cases hsh : m.isSh = true
      · simp only [hsh, cond_true]
        have hmm : m = .sh := by cases m <;> simp [Mask.isSh] at hsh ⊢
        subst hmm
        refine .inr ⟨vs, hval', ImmV.of_at (B := .inl b) (o := o) ?_ hlen hvs⟩
        rcases hE with ⟨_, hE, _⟩ | ⟨_, F', hE, _, _⟩
        · exact hE
        · exact (OwnAt.sh_iff.mp hE).2
      · simp only [Bool.not_eq_true] at hsh
        simp only [hsh, cond_false, mkRef]
        refine ⟨hU, fun e' he' => ?_⟩
        rw [hn] at he'; injection he' with he'; subst he'
        exact ⟨by simp [verOf, hn], fun _ => ⟨_, hg, hp, .inl b, o, vs, hl, hlen, hvs, hval'⟩⟩
    · cases e
  · cases e
end
end Ev
end

section
namespace Ev
open Go

section
variable {P : Program} {E : Env} {U : Nat → Prop} {h : Nat → Option Entry} {O S : Nat → Prop} {w : World} {G : Nat → List Value} {Pl : Nat → Nat × Nat} {ft : Nat → Nat → Prop} {R : Type} {out : R}

theorem run_part {T : TypeId} {i : TI} {vs : List Value} {off : Nat} (ht : TOne P T i) (hlen : off + i.size ≤ vs.length) :
    ∃ V vs', (part T vs.toArray off).run P w = .ok V w ∧ vs'.length = i.size ∧ (∀ j, j < i.size → vs'[j]? = vs[off + j]?) ∧ (if i.agg then V = .agg vs'.toArray else vs' = [V]) := by
  obtain ⟨f, hf, hsz, _⟩ := ht.info
  obtain ⟨d, hd, _, hagg⟩ := ht.under
  simp only [part, Sem.run_bind, run_isAgg' hd, Result.andThen_ok]
  rw [← hagg]
  by_cases ha : i.agg = true
  · simp only [ha, if_true, Sem.run_bind, run_sizeOf' hf, Result.andThen_ok, hsz, Sem.run_pure]
    refine ⟨_, (vs.toArray.extract off (off + i.size)).toList, rfl, ?_, fun j hj => ?_, ?_⟩
    · simp; omega
    · have h1 : j < (List.take i.size (List.drop off vs)).length := by simp; omega
      simp only [List.extract_toArray, List.extract_eq_take_drop]
      simp only [Nat.add_sub_cancel_left]
      rw [List.getElem?_take_of_lt hj, List.getElem?_drop]
    · simp
  · have h1 := ht.one (by simpa using ha)
    simp only [ha, if_false, Bool.false_eq_true]
    have hlt : off < vs.length := by omega
    refine ⟨vs[off], [vs[off]], by simp [hlt], by simp [h1], fun j hj => ?_, rfl⟩
    obtain rfl : j = 0 := by omega
    simp [hlt]

theorem fVal_ok {T : TypeId} {a : AV} {v : Value} {k : Nat} {K : Kt R} (hT : TOk P E.TT) (hr : Rl U h O S w G Pl ft) (hv : AvOk U h (wcf w G) S Pl a v)
    (e : fVal E h T a k K = some out) :
    ∃ avs V, K avs [] = some out ∧ (Instr.field T v k).run P w = .ok V w ∧ SlOk U h (wcf w G) S Pl avs V := by
  unfold fVal at e
  split at e
  · rename_i t x hres
    split at e
    · rename_i u hu
      obtain ⟨hc, e⟩ := cond_some e
      obtain ⟨fs, f, i, fi, h1, h2, h3, hti, h4, h5, hs, h6, hag⟩ := fld_facts hT hc
      obtain ⟨vs, hval, hn, hx⟩ := (res_ok hr hv hres).imm
      simp only [valOf, Ty.agg, if_true] at hval
      subst hval
      simp only [ImmAt] at hx
      have hx' := hx.fldAt hu
      have hle : offOf t k + u.τ.size ≤ vs.length := by
        have := (OwnAt.fldWand (c := gh (wcf w G) vs) (S := S) (F := fun _ => False) (OwnAt.sh_iff.mpr ⟨fun _ h => h, hx⟩) hu)
        obtain ⟨_, _, _, hle, _⟩ := this
        rw [hn]; exact hle
      obtain ⟨V, vs', hV, hlen, hget, hval⟩ := run_part (w := w) (hT _ _ hti) (vs := vs) (off := f.offset) (by rw [h3, hs]; exact hle)
      refine ⟨_, V, e, by simp [Instr.field, run_underlying' h1, h2, asAgg, hV], .inr ⟨vs', ?_, ?_⟩⟩
      · unfold valOf; rw [← hag]; exact hval
      · refine ⟨by rw [hlen, hs], hx'.move (fun j hj => ?_) fun b hb => ⟨hb, fun _ => rfl⟩⟩
        simp only [gh_inr, Nat.zero_add]
        rw [hget j (by omega), h3]
    · cases e
  · rename_i l p kv hres
    split at e
    · rename_i t x m hat
      split at e
      · rename_i u hu
        obtain ⟨hc, e⟩ := cond_some e
        obtain ⟨fs, f, i, fi, h1, h2, h3, hti, h4, h5, hs, h6, hag⟩ := fld_facts hT hc
        obtain ⟨nn, hn, hg, ha⟩ := atR_some hat
        obtain ⟨hU, hv⟩ := res_ok hr hv hres
        obtain ⟨hk, hv⟩ := hv nn hn
        obtain ⟨u', hg', hp, B, o, vs, hl, hlen, hcl, hval⟩ := hv ha
        rw [hg] at hg'; injection hg' with hg'; subst hg'
        simp only [valOf, Ty.agg, if_true] at hval
        subst hval
        obtain ⟨B', o', hl', hE⟩ := (hr.ent l nn hn).at hp hg
        rw [hl] at hl'; simp only [Option.some.injEq, Prod.mk.injEq, true_and] at hl'
        obtain ⟨rfl, rfl⟩ := hl'
        have hE2 : ∃ F' : Nat → Prop, OwnAt (wcf w G) S t m B o x F' ∨ ImmAt (wcf w G) S t B o x := by
          rcases hE with ⟨_, hE, _⟩ | ⟨_, F', hE, _, _⟩
          · exact ⟨fun _ => False, .inr hE⟩
          · exact ⟨F', .inl hE⟩
        have hle : offOf t k + u.τ.size ≤ t.size := by
          obtain ⟨F', hE | hE⟩ := hE2
          · obtain ⟨_, _, _, hle, _⟩ := hE.fldWand hu; exact hle
          · obtain ⟨_, hu'⟩ : ∃ u', fld t x .sh k = some u' ∧ u'.τ = u.τ := by
              have : ∀ {τ : Ty} {x : τ.den} {m m' : Mask} {k : Nat} {u : Sub}, fld τ x m k = some u → ∃ u', fld τ x m' k = some u' ∧ u'.τ = u.τ := by
                intro τ
                induction τ with
                | pair a b iha ihb => intro x m m' k u hu; cases k with
                  | zero => simp only [fld, Option.some.injEq] at hu ⊢; subst hu; exact ⟨_, rfl, rfl⟩
                  | succ k => simp only [fld] at hu ⊢; exact ihb hu
                | _ => intro x m m' k u hu; cases k <;> simp [fld] at hu ⊢; subst hu; rfl
              exact this hu
            obtain ⟨_, _, _, hle, _⟩ := (OwnAt.fldWand (F := fun _ => False) (OwnAt.sh_iff.mpr ⟨fun _ h => h, hE⟩) hu'.1)
            rw [← hu'.2]; exact hle
        obtain ⟨V, vs', hV, hlen', hget, hval⟩ := run_part (w := w) (hT _ _ hti) (vs := vs) (off := f.offset) (by rw [h3, hs, hlen]; exact hle)
        have hcl' : ∀ j, j < u.τ.size → (wcf w G).cl B (o + f.offset + j) = vs'[j]? := by
          intro j hj
          rw [hget j (by omega), h3, Nat.add_assoc]
          exact hcl _ (by simp only [Ty.size]; omega)
        have hval' : valOf u.τ vs' V := by unfold valOf; rw [← hag]; exact hval
        have hl2 : loc (wcf w G) (p ++ [.f k]) nn.τ (base nn l (Pl l)).1 (base nn l (Pl l)).2 = some (u.τ, B, o + f.offset) := by
          rw [loc_append, hl]; simp only [Option.bind_some, loc, fldTy_of hu, h3]
        have hg2 : getP nn.τ nn.x nn.m (p ++ [.f k]) = some u := by rw [getP_append, hg]; simp only [Option.bind_some, getP, hu]
        have hp2 := pathOk_append (q := [.f k]) hp hg ⟨u, hu, trivial⟩
        refine ⟨_, V, e, by simp [Instr.field, run_underlying' h1, h2, asAgg, hV], ?_⟩
        show AvOk U h (wcf w G) S Pl _ V
        by_cases hsh : u.m.isSh = true
        · simp only [hsh, cond_true]
          have hmm : u.m = .sh := by cases hm : u.m <;> simp [hm, Mask.isSh] at hsh ⊢
          obtain ⟨B', o', hl', hE⟩ := (hr.ent l nn hn).at hp2 hg2
          rw [hl2] at hl'; simp only [Option.some.injEq, Prod.mk.injEq, true_and] at hl'
          obtain ⟨rfl, rfl⟩ := hl'
          refine .inr ⟨vs', hval', ImmV.of_at (B := B) (o := o + f.offset) ?_ (by rw [hlen', hs]) hcl'⟩
          rcases hE with ⟨_, hE, _⟩ | ⟨_, F', hE, _, _⟩
          · exact hE
          · rw [hmm] at hE; exact (OwnAt.sh_iff.mp hE).2
        · simp only [Bool.not_eq_true] at hsh
          simp only [hsh, cond_false, mkRef]
          refine ⟨hU, fun e' he' => ?_⟩
          rw [hn] at he'; injection he' with he'; subst he'
          exact ⟨by simp [verOf, hn], fun _ => ⟨u, hg2, hp2, B, _, vs', hl2, by rw [hlen', hs], hcl', hval'⟩⟩
      · cases e
    · cases e
  · cases e
end
end Ev
end

section
namespace Ev
open Go

section
variable {P : Program} {E : Env} {U : Nat → Prop} {h : Nat → Option Entry} {O S : Nat → Prop} {w : World} {G : Nat → List Value} {Pl : Nat → Nat × Nat} {ft : Nat → Nat → Prop} {R : Type} {out : R}

theorem index_str_ok {T : TypeId} {s : ByteArray} {k : IntKind} {n : Int} (hu : P.underlying T = some .string) (h0 : 0 ≤ n) (h1 : n < (s.size : Int)) :
    (Instr.index T (.string s) (.int k n)).run P w = .ok (.int .u8 ((s.data.getD n.toNat 0).toNat : Int)) w := by
  have hlt := toNat_lt h0 h1
  have hlt' : n.toNat < s.data.size := hlt
  have hb : s[n.toNat]? = some (s.data.getD n.toNat 0) := by
    rw [getElem?_pos s n.toNat hlt]
    have : s[n.toNat] = s.data[n.toNat] := rfl
    simp only [this, Array.getD_eq_getD_getElem?, Array.getElem?_eq_getElem hlt', Option.getD_some]
  simp [Instr.index, asIntOf, run_underlying' hu, h0, hb]

theorem index_arr_ok {T : TypeId} {t : Ty} {len : Nat} {xs : List t.den} {v : Value} {k : IntKind} {n : Int} (hT : TOk P E.TT) (hc : (isArr E T len && elemSz E T t && elAgg E T t) = true) (h0 : 0 ≤ n) (h1 : n < (len : Int))
    (hv : AvOk U h (wcf w G) S Pl (.imm (.arr len t) xs) v) :
    ∃ V, (Instr.index T v (.int k n)).run P w = .ok V w ∧ AvOk U h (wcf w G) S Pl (.imm t (List.getD xs n.toNat t.dflt)) V := by
  simp only [Bool.and_eq_true] at hc
  obtain ⟨⟨hc1, hc2⟩, hc3⟩ := hc
  obtain ⟨el, hu, hsz⟩ := arr_facts hT hc1 hc2
  obtain ⟨vs, hval, hn, hx⟩ := hv.resolve_left fun h => by cases h.1
  simp only [valOf, Ty.agg, if_true] at hval
  subst hval
  simp only [ImmAt] at hx
  have hlt := toNat_lt h0 h1
  have hle := mul_le_of_lt (s := t.size) hlt
  simp only [Ty.size] at hn
  unfold elAgg at hc3
  split at hc3
  · rename_i i hi
    simp only [Bool.and_eq_true] at hc3
    obtain ⟨f, hf, hfs, _⟩ := (hT _ i hi).info
    have he : el = elemId E T := by
      unfold isArr at hc1
      split at hc1
      · rename_i n' e' a b c d hi'
        obtain ⟨d', hd, hk, _⟩ := (hT T _ hi').under
        rw [hu] at hd; injection hd with hd; subst hd
        cases hk
        simp [elemId, hi']
      · cases hc1
    rw [← he] at hi
    have his : i.size = t.size := Nat.eq_of_beq_eq_true hc3.1
    obtain ⟨V, vs', hV, hlen, hget, hval⟩ := run_part (P := P) (w := w) (hT _ _ hi) (vs := vs) (off := n.toNat * t.size) (by rw [his, hn]; exact hle)
    refine ⟨V, by simp [Instr.index, asIntOf, run_underlying' hu, h0, h1, hsz, hV], .inr ⟨vs', ?_, ?_⟩⟩
    · unfold valOf
      have : i.agg = t.agg := by cases h1 : i.agg <;> cases h2 : t.agg <;> simp_all
      rw [← this]; exact hval
    · refine ⟨by rw [hlen, his], (hx.2 _ hlt).move (fun j hj => ?_) fun b hb => ⟨hb, fun _ => rfl⟩⟩
      simp only [gh_inr, Nat.zero_add]
      exact hget j (by omega)
  · cases hc3

theorem run_sliceBound {y : Nat} {k : IntKind} {n : Int} {code : BoundsCode} (h0 : 0 ≤ n) (h1 : n ≤ (y : Int)) : (Instr.sliceBound (.int k n) y code).run P w = .ok n.toNat w := by
  simp [Instr.sliceBound, asIntOf, h0, h1]

/-- A bound of a slice expression, and what it is. -/
def NumOk (U : Nat → Prop) (h : Nat → Option Entry) (c : CF) (S : Nat → Prop) (Pl : Nat → Nat × Nat) : Option AV → Option Value → Prop
  | none, none => True
  | some a, some v => AvOk U h c S Pl a v
  | _, _ => False

theorem run_bound {a : Option AV} {v : Option Value} {d y : Nat} {l : Int} {code : BoundsCode} (hn : NumOk U h (wcf w G) S Pl a v) (e : numOf a d = some l) (h0 : 0 ≤ l) (h1 : l ≤ (y : Int)) :
    (match v with | some v => Instr.sliceBound v y code | none => pure d : Sem Nat).run P w = .ok l.toNat w := by
  cases a with
  | none =>
    cases v with
    | some v => exact hn.elim
    | none => simp only [numOf, Option.some.injEq] at e; subst e; simp
  | some a =>
    cases v with
    | none => exact hn.elim
    | some v =>
      cases a with
      | imm τ x =>
        cases τ <;> simp only [numOf] at e <;> try (cases e; done)
        simp only [Option.some.injEq] at e; subst e
        obtain rfl := (av_int (U := U) (h := h) (Pl := Pl)).mp hn
        exact run_sliceBound h0 h1
      | ref _ _ _ => simp [numOf] at e
      | adr _ _ _ => simp [numOf] at e

theorem run_sliceBounds {s : Bool} {len cap : Nat} {lo hi : Option AV} {vlo vhi : Option Value} {l k : Int} (hlo : NumOk U h (wcf w G) S Pl lo vlo) (hhi : NumOk U h (wcf w G) S Pl hi vhi)
    (el : numOf lo 0 = some l) (eh : numOf hi len = some k) (h0 : 0 ≤ l) (h1 : l ≤ k) (h2 : k ≤ (len : Int)) (h3 : len ≤ cap) :
    (Instr.sliceBounds s len cap vlo vhi none).run P w = .ok (l.toNat, k.toNat, cap) w := by
  have hh := run_bound (P := P) (y := cap) (code := (if s then .sliceAcap else .sliceAlen)) hhi eh (by omega) (by omega)
  have hl := run_bound (P := P) (y := k.toNat) (code := .sliceB) hlo el h0 (by omega)
  unfold Instr.sliceBounds
  simp only [Sem.run_bind, Sem.run_pure, Result.andThen_ok, Option.isSome_none, Bool.false_eq_true, if_false]
  cases vhi with
  | none =>
    simp only at hh
    simp only [Sem.run_bind, hh, Result.andThen_ok]
    cases vlo with
    | none => simp only at hl; simp only [Sem.run_bind, hl, Result.andThen_ok, Sem.run_pure]
    | some v => simp only at hl; simp only [Sem.run_bind, hl, Result.andThen_ok, Sem.run_pure]
  | some v' =>
    simp only at hh
    simp only [Sem.run_bind, hh, Result.andThen_ok]
    cases vlo with
    | none => simp only at hl; simp only [Sem.run_bind, hl, Result.andThen_ok, Sem.run_pure]
    | some v => simp only at hl; simp only [Sem.run_bind, hl, Result.andThen_ok, Sem.run_pure]

theorem slice_str_ok {T : TypeId} {s : ByteArray} {lo hi : Option AV} {vlo vhi : Option Value} {l k : Int} (hu : P.underlying T = some .string) (hlo : NumOk U h (wcf w G) S Pl lo vlo) (hhi : NumOk U h (wcf w G) S Pl hi vhi)
    (el : numOf lo 0 = some l) (eh : numOf hi s.size = some k) (h0 : 0 ≤ l) (h1 : l ≤ k) (h2 : k ≤ (s.size : Int)) :
    (Instr.sliceAt T (.string s) vlo vhi none).run P w = .ok (.string (s.extract l.toNat k.toNat)) w := by
  simp [Instr.sliceAt, Instr.slice, run_underlying' hu, run_sliceBounds hlo hhi el eh h0 h1 h2 (Nat.le_refl _)]

theorem slice_sl_ok {T e : TypeId} {t : Ty} {xs : List t.den} {v : Value} {lo hi : Option AV} {vlo vhi : Option Value} {l k : Int} (hu : P.underlying T = some (.slice e)) (hs : ∀ w, (Go.sizeOf e).run P w = .ok t.size w)
    (hv : AvOk U h (wcf w G) S Pl (.imm (.sl t) xs) v) (hlo : NumOk U h (wcf w G) S Pl lo vlo) (hhi : NumOk U h (wcf w G) S Pl hi vhi)
    (el : numOf lo 0 = some l) (eh : numOf hi xs.length = some k) (h0 : 0 ≤ l) (h1 : l ≤ k) (h2 : k ≤ (xs.length : Int)) :
    ∃ V, (Instr.sliceAt T v vlo vhi none).run P w = .ok V w ∧ AvOk U h (wcf w G) S Pl (.imm (.sl t) (List.drop l.toNat (List.take k.toNat xs))) V := by
  obtain ⟨A, cap, rfl, hcap, hx⟩ := av_sl.mp hv
  have hlen : (List.drop l.toNat (List.take k.toNat xs)).length = k.toNat - l.toNat := by simp; omega
  refine ⟨.slice (if cap = l.toNat then A else A.map (·.add (l.toNat * t.size))) (k.toNat - l.toNat) (cap - l.toNat), ?_, ?_⟩
  · simp [Instr.sliceAt, Instr.slice, run_underlying' hu, run_sliceBounds hlo hhi el eh h0 h1 h2 hcap, hs]
  · refine av_sl.mpr ⟨_, _, by rw [hlen], by rw [hlen]; omega, fun i hi => ?_⟩
    rw [hlen] at hi
    have hne : ¬ cap = l.toNat := by omega
    obtain ⟨b, q, rfl, hb, hI⟩ := hx (l.toNat + i) (by omega)
    refine ⟨b, q + l.toNat * t.size, by simp only [if_neg hne, Option.map_some, add_eq], hb, ?_⟩
    have hg : List.getD (List.drop l.toNat (List.take k.toNat xs)) i t.dflt = List.getD xs (l.toNat + i) t.dflt := by
      simp only [List.getD_eq_getElem?_getD, List.getElem?_drop]
      rw [List.getElem?_take_of_lt (by omega)]
    rw [hg, Nat.add_assoc, ← Nat.add_mul]
    exact hI
end
end Ev
end

section
namespace Ev
open Go

theorem OwnAt.loc_move {c c' : CF} {S : Nat → Prop} : ∀ {p : List Stp} {τ : Ty} {x : τ.den} {m : Mask} {B : Nat ⊕ Nat} {o : Nat} {F : Nat → Prop},
    OwnAt c S τ m B o x F → pathOk p τ x m → (∀ i, i < τ.size → c'.cl B (o + i) = c.cl B (o + i)) → (∀ b, F b → ∀ j, c'.cl (.inl b) j = c.cl (.inl b) j) →
    loc c' p τ B o = loc c p τ B o := by
  intro p
  induction p with
  | nil => intros; rfl
  | cons st p ih =>
    intro τ x m B o F h hp hc hF
    cases st with
    | f k =>
      cases τ <;> simp only [pathOk] at hp
      rename_i t
      obtain ⟨u, hu, hp⟩ := hp
      simp only [OwnAt] at h
      obtain ⟨F', h1, h2, h3, _⟩ := h.fldWand hu
      simp only [loc, fldTy_of hu]
      exact ih h1 hp (fun i hi => by have := hc (offOf t k + i) (by simp only [Ty.size]; omega); simpa [Nat.add_assoc] using this) fun b hb => hF b (h2 b hb)
    | e i =>
      cases τ <;> simp only [pathOk] at hp
      · rename_i t
        obtain ⟨⟨m', rfl⟩, hi, hp⟩ := hp
        simp only [OwnAt] at h
        rcases h with ⟨_, h2, _⟩ | ⟨b, q, cap, n, h1, h2, h3, h4, hne, Fs, e, d, dd, h⟩
        · subst h2; simp at hi
        · have h0 := hc 0 (by simp [Ty.size])
          simp only [Nat.add_zero] at h0
          simp only [loc, h0, h1]
          exact ih (h i hi) hp (fun j _ => hF b ((e b).mpr (.inl rfl)) _) fun k hk => hF k ((e k).mpr (.inr ⟨i, hi, hk⟩))
      · rename_i n t
        obtain ⟨hi, hp⟩ := hp
        simp only [OwnAt] at h
        obtain ⟨hn, Fs, e, dd, h⟩ := h
        simp only [loc]
        refine ih (h i hi) hp (fun j hj => ?_) fun k hk => hF k ((e k).mpr ⟨i, hi, hk⟩)
        have := mul_le_of_lt (s := t.size) hi
        have := hc (i * t.size + j) (by simp only [Ty.size]; omega)
        simpa [Nat.add_assoc] using this

theorem ImmAt.loc_move {c c' : CF} {S : Nat → Prop} : ∀ {p : List Stp} {τ : Ty} {x : τ.den} {m : Mask} {B : Nat ⊕ Nat} {o : Nat},
    ImmAt c S τ B o x → pathOk p τ x m → (∀ i, i < τ.size → c'.cl B (o + i) = c.cl B (o + i)) → (∀ b, S b → ∀ j, c'.cl (.inl b) j = c.cl (.inl b) j) →
    loc c' p τ B o = loc c p τ B o := by
  intro p
  induction p with
  | nil => intros; rfl
  | cons st p ih =>
    intro τ x m B o h hp hc hF
    cases st with
    | f k =>
      cases τ <;> simp only [pathOk] at hp
      rename_i t
      obtain ⟨u, hu, hp⟩ := hp
      have hle : offOf t k + u.τ.size ≤ t.size := by
        simp only [ImmAt] at h
        obtain ⟨u', hu', he⟩ : ∃ u', fld t x .sh k = some u' ∧ u'.τ = u.τ := by
          have : ∀ {τ : Ty} {x : τ.den} {m m' : Mask} {k : Nat} {u : Sub}, fld τ x m k = some u → ∃ u', fld τ x m' k = some u' ∧ u'.τ = u.τ := by
            intro τ
            induction τ with
            | pair a b iha ihb => intro x m m' k u hu; cases k with
              | zero => simp only [fld, Option.some.injEq] at hu ⊢; subst hu; exact ⟨_, rfl, rfl⟩
              | succ k => simp only [fld] at hu ⊢; exact ihb hu
            | _ => intro x m m' k u hu; cases k <;> simp [fld] at hu ⊢; subst hu; rfl
          exact this hu
        obtain ⟨_, _, _, hle, _⟩ := (OwnAt.fldWand (F := fun _ => False) (OwnAt.sh_iff.mpr ⟨fun _ h => h, h⟩) hu')
        rw [← he]; exact hle
      simp only [ImmAt] at h
      simp only [loc, fldTy_of hu]
      exact ih (h.fldAt hu) hp (fun i hi => by have := hc (offOf t k + i) (by simp only [Ty.size]; omega); simpa [Nat.add_assoc] using this) hF
    | e i =>
      cases τ <;> simp only [pathOk] at hp
      · rename_i t
        obtain ⟨_, hi, hp⟩ := hp
        simp only [ImmAt] at h
        obtain ⟨A, cap, h1, h2, h3⟩ := h
        obtain ⟨b, q, rfl, hb, h4⟩ := h3 i hi
        have h0 := hc 0 (by simp [Ty.size])
        simp only [Nat.add_zero] at h0
        simp only [loc, h0, h1]
        exact ih h4 hp (fun j _ => hF b hb _) hF
      · rename_i n t
        obtain ⟨hi, hp⟩ := hp
        simp only [ImmAt] at h
        simp only [loc]
        refine ih (h.2 i hi) hp (fun j hj => ?_) hF
        have := mul_le_of_lt (s := t.size) hi
        have := hc (i * t.size + j) (by simp only [Ty.size]; omega)
        simpa [Nat.add_assoc] using this

/-- c' is az c for an entry: its own cells, its blocks. -/
structure Un (c c' : CF) (S : Nat → Prop) (e : Entry) (l : Nat) (P : Nat × Nat) (F : Nat → Prop) : Prop where
  root : ∀ i, i < e.τ.size → c'.cl (base e l P).1 ((base e l P).2 + i) = c.cl (base e l P).1 ((base e l P).2 + i)
  blk : ∀ b, F b → c'.bk b = c.bk b ∧ ∀ j, c'.cl (.inl b) j = c.cl (.inl b) j

theorem EntOk.sub {c : CF} {e : Entry} {P : Nat × Nat} {F F' : Nat → Prop} (hf : ¬ e.fz = true)
    (h : if e.mem then (∀ k, F k ↔ k = P.1 ∨ F' k) ∧ ∃ n, c.bk P.1 = some n ∧ P.2 + e.τ.size ≤ n else ∀ k, F k ↔ F' k) : ∀ b, F' b → F b := by
  intro b hb
  by_cases hm : e.mem = true
  · rw [if_pos hm] at h; exact (h.1 b).mpr (.inr hb)
  · rw [if_neg hm] at h; exact (h b).mpr hb

theorem EntOk.move {c c' : CF} {S S' : Nat → Prop} {e : Entry} {l : Nat} {P : Nat × Nat} {F : Nat → Prop} (h : EntOk c S e l P F) (hu : Un c c' S e l P F) (hS : AgreeS c c' S S') : EntOk c' S' e l P F := by
  unfold EntOk at h ⊢
  by_cases hf : e.fz = true
  · rw [if_pos hf] at h ⊢
    exact ⟨h.1, fun hm => (hS _ (h.2.1 hm)).1, h.2.2.move hu.root hS⟩
  · rw [if_neg hf] at h ⊢
    obtain ⟨F', h1, h2, h3⟩ := h
    have hsub := EntOk.sub hf h3
    refine ⟨F', h1.move hu.root (fun b hb => ⟨h2 b hb, hu.blk b (hsub b hb)⟩) hS, h2, ?_⟩
    by_cases hm : e.mem = true
    · rw [if_pos hm] at h3 ⊢
      exact ⟨h3.1, by rw [(hu.blk P.1 ((h3.1 _).mpr (.inl rfl))).1]; exact h3.2⟩
    · rw [if_neg hm] at h3 ⊢; exact h3

/-- Where a path leads is az it was, and what lies there, too. -/
theorem EntOk.keep {c c' : CF} {S S' : Nat → Prop} {e : Entry} {l : Nat} {P : Nat × Nat} {F : Nat → Prop} (h : EntOk c S e l P F) (hu : Un c c' S e l P F) (hS : AgreeS c c' S S')
    {p : List Stp} (hp : pathOk p e.τ e.x e.m) : loc c' p e.τ (base e l P).1 (base e l P).2 = loc c p e.τ (base e l P).1 (base e l P).2 := by
  unfold EntOk at h
  by_cases hf : e.fz = true
  · rw [if_pos hf] at h
    exact h.2.2.loc_move hp hu.root fun b hb => (hS b hb).2
  · rw [if_neg hf] at h
    obtain ⟨F', h1, h2, h3⟩ := h
    exact h1.loc_move hp hu.root fun b hb => (hu.blk b (EntOk.sub hf h3 b hb)).2

/-- Where a path leads lies in the entry's own cells or its blocks. -/
theorem EntOk.lies {c : CF} {S : Nat → Prop} {e : Entry} {l : Nat} {P : Nat × Nat} {F : Nat → Prop} (h : EntOk c S e l P F) {p : List Stp} {u : Sub} (hp : pathOk p e.τ e.x e.m) (hg : getP e.τ e.x e.m p = some u) {t : Ty} {B : Nat ⊕ Nat} {o : Nat}
    (hl : loc c p e.τ (base e l P).1 (base e l P).2 = some (t, B, o)) :
    t = u.τ ∧ ((B = (base e l P).1 ∧ (base e l P).2 ≤ o ∧ o + u.τ.size ≤ (base e l P).2 + e.τ.size) ∨ ∃ b, (F b ∨ S b) ∧ B = .inl b) := by
  unfold EntOk at h
  by_cases hf : e.fz = true
  · rw [if_pos hf] at h
    have key : ∀ {p : List Stp} {τ : Ty} {x : τ.den} {m : Mask} {B0 : Nat ⊕ Nat} {o0 : Nat} {u : Sub} {t : Ty} {B : Nat ⊕ Nat} {o : Nat}, ImmAt c S τ B0 o0 x → pathOk p τ x m → getP τ x m p = some u → loc c p τ B0 o0 = some (t, B, o) →
        t = u.τ ∧ ((B = B0 ∧ o0 ≤ o ∧ o + u.τ.size ≤ o0 + τ.size) ∨ ∃ b, S b ∧ B = .inl b) := by
      intro p
      induction p with
      | nil =>
        intro τ x m B0 o0 u t B o _ _ hg hl
        simp only [getP, Option.some.injEq] at hg; subst hg
        simp only [loc, Option.some.injEq, Prod.mk.injEq] at hl
        obtain ⟨rfl, rfl, rfl⟩ := hl
        exact ⟨rfl, .inl ⟨rfl, Nat.le_refl _, Nat.le_refl _⟩⟩
      | cons st p ih =>
        intro τ x m B0 o0 u t B o hI hp hg hl
        cases st with
        | f k =>
          cases τ <;> simp only [pathOk] at hp
          rename_i t'
          obtain ⟨v, hv, hp⟩ := hp
          simp only [getP, hv, Option.bind_some] at hg
          simp only [loc, fldTy_of hv] at hl
          have hle : offOf t' k + v.τ.size ≤ t'.size := by
            simp only [ImmAt] at hI
            obtain ⟨v', hv', he⟩ : ∃ u', fld t' x .sh k = some u' ∧ u'.τ = v.τ := by
              have : ∀ {τ : Ty} {x : τ.den} {m m' : Mask} {k : Nat} {u : Sub}, fld τ x m k = some u → ∃ u', fld τ x m' k = some u' ∧ u'.τ = u.τ := by
                intro τ
                induction τ with
                | pair a b iha ihb => intro x m m' k u hu; cases k with
                  | zero => simp only [fld, Option.some.injEq] at hu ⊢; subst hu; exact ⟨_, rfl, rfl⟩
                  | succ k => simp only [fld] at hu ⊢; exact ihb hu
                | _ => intro x m m' k u hu; cases k <;> simp [fld] at hu ⊢; subst hu; rfl
              exact this hv
            obtain ⟨_, _, _, hle, _⟩ := (OwnAt.fldWand (F := fun _ => False) (OwnAt.sh_iff.mpr ⟨fun _ h => h, hI⟩) hv')
            rw [← he]; exact hle
          simp only [ImmAt] at hI
          obtain ⟨e1, e2⟩ := ih (hI.fldAt hv) hp hg hl
          exact ⟨e1, e2.imp (fun ⟨h1, h2, h3⟩ => ⟨h1, by omega, by simp only [Ty.size]; omega⟩) id⟩
        | e i =>
          cases τ <;> simp only [pathOk] at hp
          · rename_i t'
            obtain ⟨_, hi, hp⟩ := hp
            simp only [getP] at hg
            simp only [ImmAt] at hI
            obtain ⟨A, cap, h1, h2, h3⟩ := hI
            obtain ⟨b, q, rfl, hb, h4⟩ := h3 i hi
            simp only [loc, h1] at hl
            obtain ⟨e1, e2⟩ := ih h4 hp hg hl
            exact ⟨e1, .inr (e2.elim (fun ⟨h, _⟩ => ⟨b, hb, h⟩) id)⟩
          · rename_i n t'
            obtain ⟨hi, hp⟩ := hp
            simp only [getP] at hg
            simp only [ImmAt] at hI
            simp only [loc] at hl
            obtain ⟨e1, e2⟩ := ih (hI.2 i hi) hp hg hl
            have := mul_le_of_lt (s := t'.size) hi
            exact ⟨e1, e2.imp (fun ⟨h1, h2, h3⟩ => ⟨h1, by omega, by simp only [Ty.size]; omega⟩) id⟩
    obtain ⟨e1, e2⟩ := key h.2.2 hp hg hl
    exact ⟨e1, e2.imp id fun ⟨b, hb, e⟩ => ⟨b, .inr hb, e⟩⟩
  · rw [if_neg hf] at h
    obtain ⟨F', h1, h2, h3⟩ := h
    obtain ⟨B', o', F'', g1, _, _, g4, _, _⟩ := h1.wand hp hg h2
    rw [hl] at g1; simp only [Option.some.injEq, Prod.mk.injEq] at g1
    obtain ⟨rfl, rfl, rfl⟩ := g1
    refine ⟨rfl, g4.imp id fun ⟨b, k, h4, h5, _⟩ => ⟨b, .inl (EntOk.sub hf h3 b h4), h5⟩⟩

/-- A name keeps its meaning where its entry is az it was (or has gone, or has been frozen). -/
theorem AvOk.keep {U U' : Nat → Prop} {h h' : Nat → Option Entry} {c c' : CF} {S S' : Nat → Prop} {Pl Pl' : Nat → Nat × Nat} {ft : Nat → Nat → Prop} {av : AV} {v : Value}
    (hE : ∀ l e, h l = some e → EntOk c S e l (Pl l) (ft l)) (hU : ∀ l, U l → U' l) (hS : AgreeS c c' S S')
    (hh : ∀ l e', U l → h' l = some e' → ∃ e, h l = some e ∧ e' = { e with fz := e'.fz } ∧ Pl' l = Pl l ∧ Un c c' S e l (Pl l) (ft l)) (k : AvOk U h c S Pl av v) : AvOk U' h' c' S' Pl' av v := by
  cases av with
  | imm τ x => exact k.imp id fun ⟨vs, h1, h2⟩ => ⟨vs, h1, h2.mono hS⟩
  | ref l p n =>
    obtain ⟨hl, k⟩ := k
    refine ⟨hU l hl, fun e' he' => ?_⟩
    obtain ⟨e, he, hee, hP, hun⟩ := hh l e' hl he'
    obtain ⟨hk, k⟩ := k e he
    rw [hee]
    refine ⟨hk, fun ha => ?_⟩
    obtain ⟨u, hg, hp, B, o, vs, hloc, hlen, hcl, hval⟩ := k ha
    refine ⟨u, hg, hp, B, o, vs, ?_, hlen, fun i hi => ?_, hval⟩
    · show loc c' p e.τ (base e l (Pl' l)).1 (base e l (Pl' l)).2 = _
      rw [hP, (hE l e he).keep hun hS hp, hloc]
    · rw [← hcl i hi]
      obtain ⟨_, ⟨rfl, h1, h2⟩ | ⟨b, hb, rfl⟩⟩ := (hE l e he).lies hp hg hloc
      · have := hun.root (o - (base e l (Pl l)).2 + i) (by omega)
        rw [show (base e l (Pl l)).2 + (o - (base e l (Pl l)).2 + i) = o + i by omega] at this
        exact this
      · exact hb.elim (fun hb => (hun.blk b hb).2 _) fun hb => (hS b hb).2 _
  | adr l p n =>
    obtain ⟨hl, k⟩ := k
    refine ⟨hU l hl, fun e' he' => ?_⟩
    obtain ⟨e, he, hee, hP, hun⟩ := hh l e' hl he'
    obtain ⟨hk, k⟩ := k e he
    rw [hee]
    refine ⟨hk, fun ha => ?_⟩
    obtain ⟨hp, hm, u, b, o, hloc, hv⟩ := k ha
    refine ⟨hp, hm, u, b, o, ?_, hv⟩
    show loc c' p e.τ (base e l (Pl' l)).1 (base e l (Pl' l)).2 = _
    rw [hP, (hE l e he).keep hun hS hp, hloc]

end Ev
end

section
namespace Ev
open Go

structure Bd where
  U : Nat → Prop
  h : Nat → Option Entry
  S : Nat → Prop
  w : World
  G : Nat → List Value
  Pl : Nat → Nat × Nat
  ft : Nat → Nat → Prop

@[reducible] def Bd.c (b : Bd) : CF := wcf b.w b.G
def Bd.rl (O : Nat → Prop) (b : Bd) : Prop := Rl b.U b.h O b.S b.w b.G b.Pl b.ft
@[reducible] def Bd.av (b : Bd) (av : AV) (V : Value) : Prop := AvOk b.U b.h b.c b.S b.Pl av V

structure Mv (O : Nat → Prop) (b b' : Bd) : Prop where
  rl : b'.rl O
  av : ∀ av V, b.av av V → b'.av av V
  kp : Kp O b.S b'.S b.w b'.w
  us : ∀ l, b.U l → b'.U l

theorem Mv.refl {O : Nat → Prop} {b : Bd} (h : b.rl O) : Mv O b b := ⟨h, fun _ _ h => h, Kp.refl _ _ _, fun _ h => h⟩
theorem Mv.trans {O : Nat → Prop} {a b c : Bd} (h : Mv O a b) (k : Mv O b c) : Mv O a c :=
  ⟨k.rl, fun av V q => k.av av V (h.av av V q), h.kp.trans k.kp, fun l q => k.us l (h.us l q)⟩

def upd {α : Type} (f : Nat → α) (l : Nat) (x : α) : Nat → α := fun k => if k = l then x else f k
@[simp] theorem upd_same {α : Type} (f : Nat → α) (l : Nat) (x : α) : upd f l x l = x := by simp [upd]
theorem upd_ne {α : Type} (f : Nat → α) {l k : Nat} (x : α) (h : k ≠ l) : upd f l x k = f k := by simp [upd, h]

theorem agree_refl {c : CF} {S S' : Nat → Prop} (h : ∀ b, S b → S' b) : AgreeS c c S S' := fun b hb => ⟨h b hb, fun _ => rfl⟩
theorem Un.refl {c : CF} {S : Nat → Prop} {e : Entry} {l : Nat} {P : Nat × Nat} {F : Nat → Prop} : Un c c S e l P F := ⟨fun _ _ => rfl, fun _ _ => ⟨rfl, fun _ => rfl⟩⟩

/-- An entry goes. -/
theorem Mv.del {O : Nat → Prop} {b : Bd} (hr : b.rl O) (l : Nat) : Mv O b { b with h := upd b.h l none } := by
  refine ⟨⟨fun k e he => ?_, fun k e he => ?_, fun k e he => ?_, fun k k' x hk hk' h1 h2 => ?_, fun k x hk h1 => ?_, hr.new⟩, fun av V h => ?_, Kp.refl _ _ _, fun _ h => h⟩
  · by_cases hkl : k = l
    · subst hkl; simp at he
    · simp only [upd_ne _ _ hkl] at he; exact hr.us k e he
  · by_cases hkl : k = l
    · subst hkl; simp at he
    · simp only [upd_ne _ _ hkl] at he; exact hr.ent k e he
  · by_cases hkl : k = l
    · subst hkl; simp at he
    · simp only [upd_ne _ _ hkl] at he; exact hr.gl k e he
  · by_cases hkl : k = l
    · subst hkl; simp at hk
    · by_cases hkl' : k' = l
      · subst hkl'; simp at hk'
      · simp only [upd_ne _ _ hkl, upd_ne _ _ hkl'] at hk hk'; exact hr.dis k k' x hk hk' h1 h2
  · by_cases hkl : k = l
    · subst hkl; simp at hk
    · simp only [upd_ne _ _ hkl] at hk; exact hr.own k x hk h1
  · refine AvOk.keep hr.ent (fun _ h => h) (agree_refl fun _ h => h) (fun k e' hU he => ?_) h
    by_cases hkl : k = l
    · subst hkl; simp at he
    · simp only [upd_ne _ _ hkl] at he
      exact ⟨e', he, rfl, rfl, Un.refl⟩

theorem EntOk.frz {c : CF} {S S' : Nat → Prop} {e : Entry} {l : Nat} {P : Nat × Nat} {F : Nat → Prop} (h : EntOk c S e l P F) (hS : ∀ b, S b → S' b) (hF : ∀ b, F b → S' b) :
    EntOk c S' { e with fz := true } l P (fun _ => False) := by
  unfold EntOk at h ⊢
  simp only [if_true]
  by_cases hf : e.fz = true
  · rw [if_pos hf] at h
    exact ⟨fun _ h => h, fun hm => hS _ (h.2.1 hm), h.2.2.move (fun _ _ => rfl) (agree_refl hS)⟩
  · rw [if_neg hf] at h
    obtain ⟨F', h1, h2, h3⟩ := h
    refine ⟨fun _ h => h, fun hm => ?_, h1.freeze hS fun b hb => hF b (EntOk.sub hf h3 b hb)⟩
    rw [if_pos hm] at h3
    exact hF _ ((h3.1 _).mpr (.inl rfl))

theorem OwnAt.blocks {c : CF} {S : Nat → Prop} : ∀ {τ : Ty} {m : Mask} {B : Nat ⊕ Nat} {o : Nat} {x : τ.den} {F : Nat → Prop}, OwnAt c S τ m B o x F → ∀ b, F b → ∃ n, c.bk b = some n := by
  intro τ
  induction τ with
  | st t ih => intro m B o x F h b hb; simp only [OwnAt] at h; exact ih h b hb
  | pair a c iha ihc =>
    intro m B o x F h b hb
    simp only [OwnAt] at h
    obtain ⟨F1, F2, e, _, h1, h2⟩ := h
    exact ((e b).mp hb).elim (iha h1 b) (ihc h2 b)
  | arr n t ih =>
    intro m B o x F h b hb
    simp only [OwnAt] at h
    obtain ⟨_, Fs, e, _, h⟩ := h
    obtain ⟨i, hi, hk⟩ := (e b).mp hb
    exact ih (h i hi) b hk
  | sl t ih =>
    intro m B o x F h b hb
    cases m <;> simp only [OwnAt] at h
    · exact (h.1 b hb).elim
    · rcases h with ⟨_, _, h3⟩ | ⟨b', q, cap, n, h1, h2, h3, h4, _, Fs, e, d, dd, h⟩
      · exact (h3 b hb).elim
      · rcases (e b).mp hb with rfl | ⟨i, hi, hk⟩
        · exact ⟨n, h3⟩
        · exact ih (h i hi) b hk
    · exact (h.1 b hb).elim
    · exact (h.1 b hb).elim
  | _ => intro m B o x F h b hb; simp only [OwnAt] at h; exact (h.1 b hb).elim

theorem EntOk.lt {w : World} {G : Nat → List Value} {S : Nat → Prop} {e : Entry} {l : Nat} {P : Nat × Nat} {F : Nat → Prop} (h : EntOk (wcf w G) S e l P F) {b : Nat} (hb : F b) : b < w.heap.size := by
  unfold EntOk at h
  by_cases hf : e.fz = true
  · rw [if_pos hf] at h; exact (h.1 b hb).elim
  · rw [if_neg hf] at h
    obtain ⟨F', h1, _, h3⟩ := h
    have key : ∀ k, F' k → k < w.heap.size := fun k hk => by obtain ⟨n, hn⟩ := h1.blocks k hk; exact bkOf_lt hn
    by_cases hm : e.mem = true
    · rw [if_pos hm] at h3
      rcases (h3.1 b).mp hb with rfl | h
      · obtain ⟨n, hn, _⟩ := h3.2; exact bkOf_lt hn
      · exact key b h
    · rw [if_neg hm] at h3; exact key b ((h3 b).mp hb)

/-- An entry is frozen. -/
theorem Mv.frz {O : Nat → Prop} {b : Bd} (hr : b.rl O) {l : Nat} {e : Entry} (he : b.h l = some e) :
    Mv O b { b with h := upd b.h l (some { e with fz := true }), S := fun x => b.S x ∨ b.ft l x, ft := upd b.ft l fun _ => False } := by
  have hd : ∀ k e', b.h k = some e' → k ≠ l → ∀ x, b.ft k x → ¬ b.ft l x := fun k e' hk hne x h1 h2 => hne (hr.dis k l x (by simp [hk]) (by simp [he]) h1 h2)
  refine ⟨⟨fun k e' he' => ?_, fun k e' he' => ?_, fun k e' he' => ?_, fun k k' x hk hk' h1 h2 => ?_, fun k x hk h1 => ?_, fun x hx => ?_⟩, fun av V h => ?_,
    ⟨rfl, rfl, rfl, Nat.le_refl _, fun _ _ _ => rfl, fun _ h => ⟨.inl h, rfl⟩, fun x hx => hx.elim .inl fun hx => .inr (hr.own l x (by simp [he]) hx).1⟩, fun _ h => h⟩
  · by_cases hkl : k = l
    · subst hkl; exact hr.us _ _ he
    · simp only [upd_ne _ _ hkl] at he'; exact hr.us k e' he'
  · by_cases hkl : k = l
    · subst hkl
      simp only [upd_same, Option.some.injEq] at he' ⊢
      subst he'
      exact (hr.ent _ _ he).frz (fun _ h => .inl h) fun _ h => .inr h
    · simp only [upd_ne _ _ hkl] at he' ⊢
      exact (hr.ent k e' he').move Un.refl (agree_refl fun _ h => .inl h)
  · by_cases hkl : k = l
    · subst hkl
      simp only [upd_same, Option.some.injEq] at he'
      subst he'
      exact fun hm => hr.gl _ e he hm
    · simp only [upd_ne _ _ hkl] at he'; exact hr.gl k e' he'
  · by_cases hkl : k = l
    · subst hkl; simp at h1
    · by_cases hkl' : k' = l
      · subst hkl'; simp at h2
      · simp only [upd_ne _ _ hkl, upd_ne _ _ hkl'] at hk hk' h1 h2; exact hr.dis k k' x hk hk' h1 h2
  · by_cases hkl : k = l
    · subst hkl; simp at h1
    · simp only [upd_ne _ _ hkl] at hk h1
      obtain ⟨e', he'⟩ := Option.isSome_iff_exists.mp hk
      obtain ⟨h2, h3⟩ := hr.own k x hk h1
      exact ⟨h2, fun h => h.elim h3 (hd k e' he' hkl x h1)⟩
  · obtain ⟨h1, h2⟩ := hr.new x hx
    refine ⟨h1, fun h => h.elim h2 fun h => ?_⟩
    have : x < b.w.heap.size := (hr.ent l e he).lt h
    exact absurd hx (Nat.not_le.mpr this)
  · refine AvOk.keep hr.ent (fun _ h => h) (agree_refl fun _ h => .inl h) (fun k e' hU he' => ?_) h
    by_cases hkl : k = l
    · subst hkl
      simp only [upd_same, Option.some.injEq] at he'
      subst he'
      exact ⟨e, he, rfl, rfl, Un.refl⟩
    · simp only [upd_ne _ _ hkl] at he'
      exact ⟨e', he', rfl, rfl, Un.refl⟩

/-- New blocks (and draws): nothing that was there has turned. -/
theorem Mv.grow {O : Nat → Prop} {b : Bd} (hr : b.rl O) {w' : World} (h1 : w'.os = b.w.os) (h2 : w'.tape = b.w.tape) (h3 : w'.output = b.w.output) (h4 : b.w.heap.size ≤ w'.heap.size)
    (h5 : ∀ k, k < b.w.heap.size → w'.heap[k]? = b.w.heap[k]?) : Mv O b { b with w := w' } := by
  have hS : AgreeS b.c (wcf w' b.G) b.S b.S := fun k hk => by
    have : k < b.w.heap.size := by
      rcases Nat.lt_or_ge k b.w.heap.size with h | h
      · exact h
      · exact ((hr.new k h).2 hk).elim
    exact ⟨hk, fun j => cell?_congr (h5 k this)⟩
  have hun : ∀ l e, b.h l = some e → Un b.c (wcf w' b.G) b.S e l (b.Pl l) (b.ft l) := fun l e he => by
    refine ⟨fun i hi => ?_, fun k hk => ⟨bkOf_congr (h5 k ((hr.ent l e he).lt hk)), fun j => cell?_congr (h5 k ((hr.ent l e he).lt hk))⟩⟩
    by_cases hm : e.mem = true
    · simp only [base, hm, if_true, wcf_inl]
      refine cell?_congr (h5 _ ?_)
      have hE := hr.ent l e he
      unfold EntOk at hE
      by_cases hf : e.fz = true
      · rw [if_pos hf] at hE
        have := hE.2.1 hm
        rcases Nat.lt_or_ge (b.Pl l).1 b.w.heap.size with h | h
        · exact h
        · exact ((hr.new _ h).2 this).elim
      · rw [if_neg hf] at hE
        obtain ⟨F', _, _, h6⟩ := hE
        rw [if_pos hm] at h6
        obtain ⟨n, hn, _⟩ := h6.2
        exact bkOf_lt hn
    · simp only [base, hm, if_false, Bool.false_eq_true, wcf_inr]
  exact ⟨⟨hr.us, fun l e he => (hr.ent l e he).move (hun l e he) hS, hr.gl, hr.dis, hr.own, fun k hk => hr.new k (Nat.le_trans h4 hk)⟩,
    fun av V h => AvOk.keep hr.ent (fun _ h => h) hS (fun l e' _ he => ⟨e', he, rfl, rfl, hun l e' he⟩) h,
    ⟨h1, h2, h3, h4, fun k hk _ => h5 k hk, fun k hk => ⟨hk, by
      rcases Nat.lt_or_ge k b.w.heap.size with h | h
      · exact h5 k h
      · exact ((hr.new k h).2 hk).elim⟩, fun _ h => .inl h⟩, fun _ h => h⟩

/-- A new entry. -/
theorem Mv.add {O : Nat → Prop} {b : Bd} (hr : b.rl O) {l : Nat} {e : Entry} {vs : List Value} {p : Nat × Nat} {F : Nat → Prop} (hl : ¬ b.U l)
    (he : EntOk (wcf b.w (upd b.G l vs)) b.S e l p F) (hg : e.mem = false → vs.length = e.τ.size) (hF : ∀ k, F k → O k ∧ ¬ b.S k) (hd : ∀ k e' x, b.h k = some e' → b.ft k x → ¬ F x) :
    Mv O b { b with U := fun k => b.U k ∨ k = l, h := upd b.h l (some e), G := upd b.G l vs, Pl := upd b.Pl l p, ft := upd b.ft l F } := by
  have hne : ∀ k e', b.h k = some e' → k ≠ l := fun k e' hk h => hl (h ▸ hr.us k e' hk)
  have hun : ∀ k e', b.h k = some e' → Un b.c (wcf b.w (upd b.G l vs)) b.S e' k (b.Pl k) (b.ft k) := fun k e' hk => by
    refine ⟨fun i hi => ?_, fun _ _ => ⟨rfl, fun _ => rfl⟩⟩
    by_cases hm : e'.mem = true
    · simp only [base, hm, if_true, wcf_inl]
    · simp only [base, hm, if_false, Bool.false_eq_true, wcf_inr, upd_ne _ _ (hne k e' hk)]
  have hS : AgreeS b.c (wcf b.w (upd b.G l vs)) b.S b.S := fun k hk => ⟨hk, fun _ => rfl⟩
  refine ⟨⟨fun k e' hk => ?_, fun k e' hk => ?_, fun k e' hk => ?_, fun k k' x hk hk' h1 h2 => ?_, fun k x hk h1 => ?_, hr.new⟩, fun av V h => ?_, Kp.refl _ _ _, fun _ h => .inl h⟩
  · by_cases hkl : k = l
    · exact .inr hkl
    · simp only [upd_ne _ _ hkl] at hk; exact .inl (hr.us k e' hk)
  · by_cases hkl : k = l
    · subst hkl; simp only [upd_same, Option.some.injEq] at hk ⊢; subst hk; exact he
    · simp only [upd_ne _ _ hkl] at hk ⊢; exact (hr.ent k e' hk).move (hun k e' hk) hS
  · by_cases hkl : k = l
    · subst hkl; simp only [upd_same, Option.some.injEq] at hk ⊢; subst hk; exact hg
    · simp only [upd_ne _ _ hkl] at hk ⊢; exact hr.gl k e' hk
  · by_cases hkl : k = l
    · by_cases hkl' : k' = l
      · rw [hkl, hkl']
      · subst hkl
        simp only [upd_same, upd_ne _ _ hkl'] at h1 h2 hk'
        obtain ⟨e', he'⟩ := Option.isSome_iff_exists.mp hk'
        exact (hd k' e' x he' h2 h1).elim
    · by_cases hkl' : k' = l
      · subst hkl'
        simp only [upd_same, upd_ne _ _ hkl] at h1 h2 hk
        obtain ⟨e', he'⟩ := Option.isSome_iff_exists.mp hk
        exact (hd k e' x he' h1 h2).elim
      · simp only [upd_ne _ _ hkl, upd_ne _ _ hkl'] at hk hk' h1 h2; exact hr.dis k k' x hk hk' h1 h2
  · by_cases hkl : k = l
    · subst hkl; simp only [upd_same] at h1; exact hF x h1
    · simp only [upd_ne _ _ hkl] at hk h1; exact hr.own k x hk h1
  · refine AvOk.keep hr.ent (fun _ h => .inl h) hS (fun k e' hU hk => ?_) h
    have hkl : k ≠ l := fun h => hl (h ▸ hU)
    simp only [upd_ne _ _ hkl] at hk
    exact ⟨e', hk, rfl, upd_ne _ _ hkl, hun k e' hk⟩

end Ev
end

section
namespace Ev
open Go

theorem updF_append (a b : Ups) : ∀ h : Nat → Option Entry, updF (a ++ b) h = updF b (updF a h) := by
  induction a with
  | nil => intro h; rfl
  | cons q r ih => intro h; obtain ⟨k, e⟩ := q; simp only [List.cons_append, updF, ih]
theorem updF_one (k : Nat) (e : Option Entry) (h : Nat → Option Entry) : updF [(k, e)] h = upd h k e := rfl

/-- An operation's end, out of steps of the state. -/
theorem OpOk.of {P : Program} {o : Oper} {a : Act} {id : Nat} {O : Nat → Prop} {b b' : Bd} {avs : List AV} {ups : Ups} {v : Value}
    (hrun : (execOp a.eval o).run P b.w = .ok (.value v) b'.w) (hm : Mv O b b') (hU : ∀ l, b'.U l → Us b.U id l) (hh : updF ups b.h = b'.h) (hv : SlOk b'.U b'.h b'.c b'.S b'.Pl avs v) :
    OpOk P o a b.U id b.h O b.S b.w b.G b.Pl avs ups := by
  intro next Q hn
  unfold Oper.wp
  rw [hrun]
  refine hn v b'.w b'.S b'.G b'.Pl b'.ft ⟨?_, fun av V h => ?_, ?_, hm.kp⟩
  · rw [hh]; exact hm.rl.mono hU
  · rw [hh]; exact (hm.av av V h).mono hU
  · rw [hh]; exact hv.map fun _ _ h => h.mono hU

theorem OpOk.skip {P : Program} {o : Oper} {a : Act} {id : Nat} {O : Nat → Prop} {b b' : Bd} {ups : Ups}
    (hrun : (execOp a.eval o).run P b.w = .ok .skip b'.w) (hm : Mv O b b') (hU : ∀ l, b'.U l → Us b.U id l) (hh : updF ups b.h = b'.h) :
    OpOk P o a b.U id b.h O b.S b.w b.G b.Pl [] ups := by
  intro next Q hn
  unfold Oper.wp
  rw [hrun]
  refine hn undef b'.w b'.S b'.G b'.Pl b'.ft ⟨?_, fun av V h => ?_, ?_, hm.kp⟩
  · rw [hh]; exact hm.rl.mono hU
  · rw [hh]; exact (hm.av av V h).mono hU
  · trivial

/-- A value that owns its rows, or has none. -/
structure Own (c : CF) (S : Nat → Prop) (s : Sub) (V : Value) (vs : List Value) (F : Nat → Prop) : Prop where
  val : valOf s.τ vs V
  len : vs.length = s.τ.size
  own : OwnAt (gh c vs) S s.τ s.m (.inr 0) 0 s.x F

theorem Own.cells {c : CF} {S : Nat → Prop} {s : Sub} {V : Value} {vs : List Value} {F : Nat → Prop} (h : Own c S s V vs F) (hv : s.τ.isV = true) : V.cells = vs.toArray ∧ ∀ (i : Nat) (v : Value), vs[i]? = some v → v.oneCell' = true := by
  have h1 : ∀ (i : Nat) (v : Value), vs[i]? = some v → v.oneCell' = true := fun i v hi => by
    have hlt : i < s.τ.size := by
      rw [← h.len]
      rcases Nat.lt_or_ge i vs.length with h | h
      · exact h
      · rw [List.getElem?_eq_none h] at hi; cases hi
    obtain ⟨v', h2, h3⟩ := h.own.cells1 i hlt
    simp only [Nat.zero_add, gh_inr, hi, Option.some.injEq] at h2
    rw [h2]; exact h3
  refine ⟨?_, h1⟩
  have := h.val
  unfold valOf at this
  by_cases ha : s.τ.agg = true
  · rw [if_pos ha] at this; subst this; rfl
  · rw [if_neg ha] at this
    subst this
    have := h1 0 V (by simp)
    cases V <;> simp_all [Value.cells, Value.oneCell']

/-- At cells that hold these values. -/
theorem Own.at {c c' : CF} {S S' : Nat → Prop} {s : Sub} {V : Value} {vs : List Value} {F : Nat → Prop} (h : Own c S s V vs F) {B : Nat ⊕ Nat} {o : Nat} (hc : ∀ i, i < s.τ.size → c'.cl B (o + i) = vs[i]?)
    (hF : ∀ b, F b → B ≠ .inl b ∧ c'.bk b = c.bk b ∧ ∀ j, c'.cl (.inl b) j = c.cl (.inl b) j) (hS : AgreeS c c' S S') : OwnAt c' S' s.τ s.m B o s.x F :=
  h.own.move (fun i hi => by rw [hc i hi]; simp) (fun b hb => hF b hb) fun b hb => hS b hb

theorem Own.of {c : CF} {S : Nat → Prop} {s : Sub} {V : Value} {vs : List Value} {F : Nat → Prop} {B : Nat ⊕ Nat} {o : Nat} (h : OwnAt c S s.τ s.m B o s.x F) (hv : valOf s.τ vs V) (hn : vs.length = s.τ.size)
    (hc : ∀ i, i < s.τ.size → c.cl B (o + i) = vs[i]?) : Own c S s V vs F :=
  ⟨hv, hn, h.move (fun i hi => by rw [hc i hi]; simp) (fun b hb => ⟨(fun e => by cases e), rfl, fun _ => rfl⟩) fun b hb => ⟨hb, fun _ => rfl⟩⟩

/-- What is free to be owned: no entry's, nothing that stays. -/
def Free (O : Nat → Prop) (b : Bd) (F : Nat → Prop) : Prop := ∀ k, F k → O k ∧ ¬ b.S k ∧ ∀ l e, b.h l = some e → ¬ b.ft l k

theorem isSh_eq {m : Mask} (h : m.isSh = true) : m = .sh := by cases m <;> simp [Mask.isSh] at h ⊢

theorem laid_ok {O : Nat → Prop} {b : Bd} {R A : Type} {out : R} {v : AV} {V : Value} {own : Sub → Option A} {K : A → Ups → Option R} (hr : b.rl O) (hv : b.av v V) (e : laid b.h v own K = some out) :
    ∃ u ups b' s vs F, K u ups = some out ∧ own s = some u ∧ Mv O b b' ∧ updF ups b.h = b'.h ∧ b'.w = b.w ∧ b'.U = b.U ∧ b'.G = b.G ∧ b'.Pl = b.Pl ∧ Own b'.c b'.S s V vs F ∧ Free O b' F ∧
      (∀ q, q ∈ ups → ∃ k, v = .ref q.1 [] k) ∧ ∀ Fx, Free O b Fx → Free O b' Fx ∧ ∀ k, Fx k → ¬ F k := by
  unfold laid at e
  split at e
  · rename_i τ x hres
    split at e
    · rename_i u hu
      obtain ⟨vs, h1, h2⟩ := res_ok hr hv hres
      exact ⟨u, [], b, ⟨τ, x, .sh⟩, vs, fun _ => False, e, hu, Mv.refl hr, rfl, rfl, rfl, rfl, rfl, ⟨h1, h2.1, OwnAt.sh_iff.mpr ⟨fun _ h => h, h2.2⟩⟩, fun _ h => h.elim, fun q hq => by simp at hq, fun Fx hFx => ⟨hFx, fun _ _ h => h⟩⟩
    · cases e
  · rename_i l kv hres
    split at e
    · rename_i en hen
      obtain ⟨hmem, e⟩ := cond_none e
      have hav := res_ok hr hv hres
      obtain ⟨_, hav⟩ := hav
      obtain ⟨_, hav⟩ := hav en hen
      obtain ⟨u', hg, hp, B, o, vs, hl, h1, h2, h3⟩ := hav (by simp [aliveR, hmem, isNil])
      simp only [getP, Option.some.injEq] at hg
      subst hg
      simp only [loc, base, hmem, Bool.false_eq_true, if_false, Option.some.injEq, Prod.mk.injEq, true_and] at hl
      obtain ⟨rfl, rfl⟩ := hl
      have hvv : ∃ k, v = .ref l [] k := by
        cases v with
        | imm τ x => cases τ <;> simp [res] at hres
        | ref l' p' k' =>
          simp only [res] at hres
          split at hres
          · rename_i s' _
            injection hres with hres
            by_cases hc : (isFz b.h l' || s'.m.isSh) = true
            · simp only [hc, cond_true] at hres; cases hres
            · simp only [Bool.not_eq_true] at hc
              simp only [hc, cond_false, AV.ref.injEq] at hres
              obtain ⟨rfl, rfl, rfl⟩ := hres; exact ⟨_, rfl⟩
          · cases hres
        | adr l' p' k' =>
          simp only [res] at hres
          split at hres
          · injection hres with hres
            by_cases hc : isFz b.h l' = true
            · simp only [hc, cond_true] at hres; cases hres
            · simp only [Bool.not_eq_true] at hc
              simp only [hc, cond_false] at hres; cases hres
          · cases hres
      have hE := hr.ent l en hen
      have hfz : ¬ en.fz = true := by
        intro hf
        obtain ⟨k', rfl⟩ := hvv
        simp only [res] at hres
        split at hres
        · simp only [isFz_eq hen, hf, Bool.true_or, cond_true, Option.some.injEq] at hres; cases hres
        · cases hres
      split at e
      · rename_i u hu
        have hE' := hE
        unfold EntOk at hE'
        rw [if_neg hfz] at hE'
        obtain ⟨F', h4, h5, h6⟩ := hE'
        rw [if_neg (by simp [hmem])] at h6
        simp only [base, hmem, Bool.false_eq_true, if_false] at h4
        refine ⟨u, [(l, none)], { b with h := upd b.h l none }, ⟨en.τ, en.x, en.m⟩, vs, F', e, hu, Mv.del hr l, rfl, rfl, rfl, rfl, rfl, Own.of h4 h3 h1 h2, fun k hk => ?_, fun q hq => by simp at hq; rw [hq]; exact hvv, fun Fx hFx => ⟨fun k hk => ?_, fun k hk hk' => (hFx k hk).2.2 l en hen ((h6 k).mpr hk')⟩⟩
        rotate_left
        · obtain ⟨q1, q2, q3⟩ := hFx k hk
          refine ⟨q1, q2, fun l' e' he' => ?_⟩
          by_cases hne : l' = l
          · subst hne; simp at he'
          · simp only [upd_ne _ _ hne] at he'; exact q3 l' e' he'
        have hk' := (h6 k).mpr hk
        obtain ⟨h7, h8⟩ := hr.own l k (by simp [hen]) hk'
        refine ⟨h7, h8, fun l' e' he' hf => ?_⟩
        by_cases hne : l' = l
        · subst hne; simp at he'
        · simp only [upd_ne _ _ hne] at he'
          exact hne (hr.dis l' l k (by simp [he']) (by simp [hen]) hf hk')
      · split at e
        · rename_i _ u hu
          refine ⟨u, _, _, ⟨en.τ, en.x, .sh⟩, vs, fun _ => False, e, hu, Mv.frz hr hen, rfl, rfl, rfl, rfl, rfl, ?_, fun _ h => h.elim, fun q hq => by simp at hq; rw [hq]; exact hvv, fun Fx hFx => ⟨fun k hk => ?_, fun _ _ h => h⟩⟩
          rotate_left
          · obtain ⟨q1, q2, q3⟩ := hFx k hk
            refine ⟨q1, fun hS => hS.elim q2 (q3 l en hen), fun l' e' he' => ?_⟩
            by_cases hne : l' = l
            · subst hne; simp
            · simp only [upd_ne _ _ hne] at he' ⊢; exact q3 l' e' he'
          have hE2 := hE.frz (S' := fun x => b.S x ∨ b.ft l x) (fun _ h => .inl h) fun _ h => .inr h
          unfold EntOk at hE2
          simp only [if_true] at hE2
          have h4 := hE2.2.2
          simp only [base, hmem, Bool.false_eq_true, if_false] at h4
          exact Own.of (OwnAt.sh_iff.mpr ⟨fun _ h => h, h4⟩) h3 h1 h2
        · cases e
    · cases e
  · cases e

end Ev
end

section
namespace Ev
open Go

theorem alloc_block (w : World) (o : Obj) {k : Nat} (h : k < w.heap.size) : (w.alloc o).heap[k]? = w.heap[k]? := by
  show (w.heap.push o)[k]? = _
  rw [Array.getElem?_push, if_neg (by omega)]
theorem alloc_new (w : World) (o : Obj) : (w.alloc o).heap[w.heap.size]? = some o := by
  show (w.heap.push o)[w.heap.size]? = _
  simp
theorem bkOf_alloc_new (w : World) (c : Array Value) (t : TypeId) : bkOf (w.alloc (.cells c t)) w.heap.size = some c.size := by
  unfold bkOf
  rw [alloc_new]
  simp

theorem Mv.alloc {O : Nat → Prop} {b : Bd} (hr : b.rl O) (o : Obj) : Mv O b { b with w := b.w.alloc o } :=
  Mv.grow hr rfl rfl rfl (by simp) fun k hk => alloc_block _ _ hk
theorem Mv.drew {O : Nat → Prop} {b : Bd} (hr : b.rl O) : Mv O b { b with w := b.w.drew } :=
  Mv.grow hr rfl rfl rfl (Nat.le_refl _) fun _ _ => rfl

theorem Free.lt {O : Nat → Prop} {b : Bd} {F : Nat → Prop} {s : Sub} {V : Value} {vs : List Value} (h : Own b.c b.S s V vs F) {k : Nat} (hk : F k) : k < b.w.heap.size := by
  obtain ⟨n, hn⟩ := h.own.blocks k hk
  exact bkOf_lt hn

/-- A value that is its own entry. -/
theorem Mv.newDet {O : Nat → Prop} {b : Bd} {s : Sub} {V : Value} {vs : List Value} {F : Nat → Prop} {id v : Nat} (hr : b.rl O) (hid : ¬ b.U id) (ho : Own b.c b.S s V vs F) (hf : Free O b F) :
    ∃ b', Mv O b b' ∧ b'.h = upd b.h id (some ⟨s.τ, s.x, s.m, false, false, v⟩) ∧ b'.w = b.w ∧ b'.U = (fun k => b.U k ∨ k = id) ∧ b'.S = b.S ∧ (∀ k, k ≠ id → b'.ft k = b.ft k) ∧ b'.av (.ref id [] 0) V := by
  have hadd := Mv.add (l := id) (e := ⟨s.τ, s.x, s.m, false, false, v⟩) (vs := vs) (p := (0, 0)) (F := F) hr hid ?_ (fun _ => ho.len) (fun k hk => ⟨(hf k hk).1, (hf k hk).2.1⟩) (fun k e' x he hx hF => (hf x hF).2.2 k e' he hx)
  · refine ⟨_, hadd, rfl, rfl, rfl, rfl, fun k hk => upd_ne _ _ hk, .inr rfl, fun e he => ?_⟩
    simp only [upd_same, Option.some.injEq] at he
    subst he
    refine ⟨Nat.zero_le _, fun _ => ⟨⟨s.τ, s.x, s.m⟩, rfl, trivial, .inr id, 0, vs, rfl, ho.len, fun i hi => ?_, ho.val⟩⟩
    simp
  · unfold EntOk
    simp only [Bool.false_eq_true, if_false, base]
    exact ⟨F, ho.at (fun i hi => by simp) (fun k hk => ⟨(fun e => by cases e), rfl, fun _ => rfl⟩) fun k hk => ⟨hk, fun _ => rfl⟩, fun k hk e => (by cases e), fun k => Iff.rfl⟩

/-- A new variable in memory. -/
theorem Mv.newMem {O : Nat → Prop} {b : Bd} {s : Sub} {V : Value} {vs : List Value} {F : Nat → Prop} {id : Nat} {T : TypeId} (hr : b.rl O) (hid : ¬ b.U id) (ho : Own b.c b.S s V vs F) (hf : Free O b F) :
    ∃ b', Mv O b b' ∧ b'.h = upd b.h id (some ⟨s.τ, s.x, s.m, true, false, 0⟩) ∧ b'.w = b.w.alloc (.cells vs.toArray T) ∧ b'.U = (fun k => b.U k ∨ k = id) ∧ b'.av (.adr id [] 0) (.pointer (some ⟨b.w.heap.size, 0, none⟩)) := by
  have hg := Mv.alloc hr (.cells vs.toArray T)
  have hlt : ∀ k, F k → k < b.w.heap.size := fun k hk => Free.lt (O := O) ho hk
  have hadd := Mv.add (b := { b with w := b.w.alloc (.cells vs.toArray T) }) (l := id) (e := ⟨s.τ, s.x, s.m, true, false, 0⟩) (vs := []) (p := (b.w.heap.size, 0)) (F := fun k => k = b.w.heap.size ∨ F k) hg.rl hid ?_ (fun h => by cases h)
    (fun k hk => hk.elim (fun h => h ▸ hr.new _ (Nat.le_refl _)) fun h => ⟨(hf k h).1, (hf k h).2.1⟩)
    (fun k e' x he hx hF => hF.elim (fun h => by have := (hr.ent k e' he).lt hx; omega) fun h => (hf x h).2.2 k e' he hx)
  · refine ⟨_, hg.trans hadd, rfl, rfl, rfl, .inr rfl, fun e he => ?_⟩
    simp only [upd_same, Option.some.injEq] at he
    subst he
    refine ⟨Nat.zero_le _, fun _ => ⟨trivial, .inl rfl, s.τ, b.w.heap.size, 0, ?_, rfl⟩⟩
    simp [loc, base]
  · unfold EntOk
    simp only [Bool.false_eq_true, if_false, base, if_true]
    refine ⟨F, ho.at (fun i hi => ?_) (fun k hk => ⟨fun e => by injection e with e; have := hlt k hk; omega, bkOf_congr (alloc_block _ _ (hlt k hk)), fun j => cell?_congr (alloc_block _ _ (hlt k hk))⟩) fun k hk => ⟨hk, fun j => ?_⟩,
      fun k hk e => by injection e with e; have := hlt k hk; omega, fun k => Iff.rfl, vs.length, ?_, ?_⟩
    · simp only [wcf_inl, Nat.zero_add, World.cell?_alloc_new]
      simp
    · have : k < b.w.heap.size := by
        rcases Nat.lt_or_ge k b.w.heap.size with h | h
        · exact h
        · exact ((hr.new k h).2 hk).elim
      exact cell?_congr (alloc_block _ _ this)
    · simp [bkOf_alloc_new]
    · simp [ho.len]

section
variable {P : Program} {E : Env} {O : Nat → Prop} {b : Bd} {R : Type} {out : R}

theorem Us.of_or {U U' : Nat → Prop} {id : Nat} (h : U' = fun k => U k ∨ k = id) : ∀ l, U' l → Us U id l := by
  subst h; rintro l (h | rfl)
  · exact .inl h
  · exact .inr ⟨Nat.le_refl _, by omega⟩

/-- A box: a value gets a variable of its own. -/
theorem box_ok {o : Oper} {a : Act} {T : TypeId} {x : Operand} {id : Nat} {v : AV} {K : Kt R} (ho : o.op = .box T x) (hr : b.rl O) (hid : ¬ b.U id) (hv : b.av v (a.eval x))
    (e : laid b.h v some (fun u ups => cond u.τ.isV (K [.adr id [] 0] (ups ++ [(id, some ⟨u.τ, u.x, u.m, true, false, 0⟩)])) none) = some out) :
    ∃ avs ups, K avs ups = some out ∧ OpOk P o a b.U id b.h O b.S b.w b.G b.Pl avs ups := by
  obtain ⟨u, ups, b', s, vs, F, e, hs, hm, hh, hw, hU, _, _, hown, hfree, _⟩ := laid_ok hr hv e
  injection hs with hs; subst hs
  obtain ⟨hV, e⟩ := cond_some e
  obtain ⟨b2, hm2, hh2, hw2, hU2, hav⟩ := Mv.newMem (T := T) hm.rl (by rw [hU]; exact hid) hown hfree
  refine ⟨_, _, e, OpOk.of (v := .pointer (some ⟨b.w.heap.size, 0, none⟩)) (b' := b2) ?_ (hm.trans hm2) ?_ ?_ ?_⟩
  · simp only [execOp, ho, Sem.run_bind, Instr.box, newVar, newRow, run_newObj, Result.andThen_ok, Sem.run_pure, (hown.cells hV).1, World.alloc_eq, hw2, hw]
  · rw [hU] at hU2; exact Us.of_or hU2
  · rw [updF_append, hh, updF_one, hh2]
  · rw [← hw]; exact hav

theorem zero_len : ∀ {τ : Ty}, τ.plain = true → (zeroCells τ).length = τ.size := by
  intro τ
  induction τ with
  | pair a d iha ihd => intro h; simp only [Ty.plain, Bool.and_eq_true] at h; simp [zeroCells, Ty.size, iha h.1, ihd h.2]
  | st t ih => intro h; simpa [zeroCells, Ty.size] using ih (by simpa [Ty.plain] using h)
  | arr n t ih => intro h; simp [zeroCells, Ty.size, ih (by simpa [Ty.plain] using h)]
  | ip t _ => intro h; simp [Ty.plain] at h
  | fn g t _ => intro h; simp [Ty.plain] at h
  | _ => intro _; rfl

theorem flat_get {t : List Value} {s : Nat} (hs : t.length = s) : ∀ n i j, i < n → j < s → ((List.replicate n t).flatten)[i * s + j]? = t[j]? := by
  intro n
  induction n with
  | zero => intro i j hi; omega
  | succ n ihn =>
    intro i j hi hj
    rw [List.replicate_succ, List.flatten_cons]
    cases i with
    | zero => rw [List.getElem?_append_left (by omega)]; simp
    | succ i =>
      rw [List.getElem?_append_right (by rw [hs, Nat.add_mul]; omega), hs, ← ihn i j (by omega) hj]
      congr 1; rw [Nat.add_mul]; omega

/-- A zero value, however much of it is to be owned. -/
theorem own_zero : ∀ {τ : Ty} (h : τ.plain = true) {m : Mask} {c : CF} {S : Nat → Prop} {B : Nat ⊕ Nat} {o : Nat}, (∀ i, i < τ.size → c.cl B (o + i) = (zeroCells τ)[i]?) → OwnAt c S τ m B o τ.dflt (fun _ => False) := by
  intro τ
  induction τ with
  | int k => intro _ m c S B o hc; have := hc 0 (by simp [Ty.size]); simp [OwnAt, ImmAt, Ty.dflt, zeroCells] at this ⊢; exact this
  | bool => intro _ m c S B o hc; have := hc 0 (by simp [Ty.size]); simp [OwnAt, ImmAt, Ty.dflt, zeroCells] at this ⊢; exact this
  | str => intro _ m c S B o hc; have := hc 0 (by simp [Ty.size]); simp [OwnAt, ImmAt, Ty.dflt, zeroCells] at this ⊢; exact this
  | unit => intro _ m c S B o hc; simp [OwnAt, ImmAt]
  | sl t _ =>
    intro _ m c S B o hc
    have := hc 0 (by simp [Ty.size])
    simp [zeroCells] at this
    cases m <;> simp only [OwnAt, Ty.dflt, ImmAt]
    case sl m' => exact .inl ⟨⟨_, this⟩, trivial, fun _ h => h⟩
    all_goals exact ⟨fun _ h => h, none, 0, this, Nat.le_refl _, fun i hi => by simp at hi⟩
  | ip t _ => intro h; simp [Ty.plain] at h
  | fn g t _ => intro h; simp [Ty.plain] at h
  | st t ih => intro h m c S B o hc; simp only [OwnAt, Ty.dflt]; exact ih (by simpa [Ty.plain] using h) hc
  | pair a d iha ihd =>
    intro h m c S B o hc
    simp only [Ty.plain, Bool.and_eq_true] at h
    have hla := zero_len h.1
    simp only [OwnAt, Ty.dflt]
    refine ⟨fun _ => False, fun _ => False, fun k => by simp, fun _ h => h.elim, iha h.1 fun i hi => ?_, ihd h.2 fun i hi => ?_⟩
    · rw [hc i (by simp only [Ty.size]; omega)]
      simp only [zeroCells]
      rw [List.getElem?_append_left (by omega)]
    · have := hc (a.size + i) (by simp only [Ty.size]; omega)
      rw [Nat.add_assoc, this]
      simp only [zeroCells]
      rw [List.getElem?_append_right (by omega), hla]; simp
  | arr n t ih =>
    intro h m c S B o hc
    simp only [Ty.plain] at h
    simp only [OwnAt, Ty.dflt]
    refine ⟨by simp, fun _ _ => False, fun k => by simp, fun _ _ _ _ _ h => h.elim, fun i hi => ?_⟩
    rw [show List.getD (List.replicate n t.dflt) i t.dflt = t.dflt by simp [List.getD, hi]]
    refine ih h fun j hj => ?_
    have := mul_le_of_lt (s := t.size) hi
    rw [Nat.add_assoc, hc _ (by simp only [Ty.size]; omega)]
    exact flat_get (zero_len h) n i j hi hj

/-- A variable that begins az zero. -/
theorem alloc_ok {o : Oper} {a : Act} {T : TypeId} {id : Nat} {K : Kt R} (ho : o.op = .alloc T) (hT : TOk P E.TT) (hr : b.rl O) (hid : ¬ b.U id)
    (e : (match tyI E T with | some u => cond u.isV (K [.adr id [] 0] [(id, some ⟨u, u.dflt, u.own1, true, false, 0⟩)]) none | none => none) = some out) :
    ∃ avs ups, K avs ups = some out ∧ OpOk P o a b.U id b.h O b.S b.w b.G b.Pl avs ups := by
  split at e
  · rename_i u hu
    obtain ⟨hV, e⟩ := cond_some e
    unfold tyI at hu
    rw [Option.bind_eq_some_iff] at hu
    obtain ⟨i, hi, hu⟩ := hu
    obtain ⟨f, hf, hsz, _, hz⟩ := (hT T i hi).info
    obtain ⟨hp, hus, hag, z, hz, hval⟩ := hz u hu
    have hown : Own b.c b.S ⟨u, u.dflt, u.own1⟩ z (zeroCells u) (fun _ => False) :=
      ⟨hval, zero_len hp, own_zero hp fun i _ => by simp⟩
    obtain ⟨b2, hm2, hh2, hw2, hU2, hav⟩ := Mv.newMem (T := T) (id := id) hr hid hown fun _ h => h.elim
    refine ⟨_, _, e, OpOk.of (v := .pointer (some ⟨b.w.heap.size, 0, none⟩)) (b' := b2) ?_ hm2 (Us.of_or hU2) ?_ hav⟩
    · simp only [execOp, ho, Sem.run_bind, Instr.alloc, zeroValue, run_typeInfo' hf, hz, newVar, newRow, run_newObj, Result.andThen_ok, Sem.run_pure, (hown.cells hV).1, World.alloc_eq, hw2]
    · rw [updF_one, hh2]
  · cases e

/-- A row in a new block, az an entry. -/
theorem Mv.newRow {O : Nat → Prop} {b b1 : Bd} {id n len cap : Nat} {t : Ty} {xs : List t.den} {m : Mask} {F : Nat → Prop} (hr : b1.rl O) (hid : ¬ b1.U id) (hn : bkOf b1.w n = some (cap * t.size)) (hl : xs.length ≤ cap)
    (hx : ∃ Fs : Nat → Nat → Prop, (∀ k, F k ↔ k = n ∨ ∃ i, i < xs.length ∧ Fs i k) ∧ (∀ i, i < xs.length → ¬ Fs i n) ∧ (∀ i j k, i < xs.length → j < xs.length → Fs i k → Fs j k → i = j) ∧
      ∀ i, i < xs.length → OwnAt b1.c b1.S t m (.inl n) (i * t.size) (xs.getD i t.dflt) (Fs i)) (hf : Free O b1 F) :
    ∃ b', Mv O b1 b' ∧ b'.h = upd b1.h id (some ⟨.sl t, xs, .sl m, false, false, 0⟩) ∧ b'.w = b1.w ∧ b'.U = (fun k => b1.U k ∨ k = id) ∧ b'.av (.ref id [] 0) (.slice (some ⟨n, 0, none⟩) xs.length cap) := by
  obtain ⟨Fs, e, d, dd, hx⟩ := hx
  obtain ⟨b', h1, h2, h3, h4, _, _, h5⟩ := Mv.newDet (v := 0) (s := ⟨.sl t, xs, .sl m⟩) (V := .slice (some ⟨n, 0, none⟩) xs.length cap) (vs := [.slice (some ⟨n, 0, none⟩) xs.length cap]) (F := F) hr hid
    ⟨by simp [valOf, Ty.agg], rfl, by
      simp only [OwnAt, gh_inr, List.getElem?_cons_zero]
      refine .inr ⟨n, 0, cap, _, rfl, hl, hn, by omega, (fun e => by cases e), Fs, e, d, dd, fun i hi => ?_⟩
      rw [Nat.zero_add]
      exact (hx i hi).move (fun _ _ => rfl) (fun k hk => ⟨fun e' => d i hi (by injection e' with e'; rw [e']; exact hk), rfl, fun _ => rfl⟩) fun k hk => ⟨hk, fun _ => rfl⟩⟩ hf
  exact ⟨b', h1, h2, h3, h4, h5⟩

theorem elTy_some {T : TypeId} {t : Ty} {ti : TI} (hT : TOk P E.TT) (e : elTy E T = some (t, ti)) : ∃ el f, P.underlying T = some (.slice el) ∧ E.TT el = some ti ∧ P.info? el = some f ∧ f.size = t.size ∧ f.bytes = ti.bytes ∧ t.plain = true ∧ ti.size = t.size ∧ t.agg = ti.agg ∧ t.isV = true ∧
    ∃ z, f.zero = some z ∧ valOf t (zeroCells t) z := by
  unfold elTy at e
  split at e
  · rename_i el a b' c d hi
    rw [Option.bind_eq_some_iff] at e
    obtain ⟨i, hi', e⟩ := e
    rw [Option.bind_eq_some_iff] at e
    obtain ⟨t', ht', e⟩ := e
    obtain ⟨hV, e⟩ := cond_some e
    simp only [Option.some.injEq, Prod.mk.injEq] at e
    obtain ⟨rfl, rfl⟩ := e
    obtain ⟨dd, hd, hk, _⟩ := (hT T _ hi).under
    cases hk
    obtain ⟨f, hf, hs, hb, hz⟩ := (hT el i hi').info
    obtain ⟨hp, hsz, hag, z, hz1, hz2⟩ := hz t' ht'
    exact ⟨el, f, hd, hi', hf, hs.trans hsz.symm, hb, hp, hsz.symm, hag, hV, z, hz1, hz2⟩
  · cases e

theorem made_get {z : Array Value} {n s k : Nat} (hz : z.size = s) (hk : k < n) (hs : 0 < s) : (madeCells z n)[k]? = z[k % s]? := by
  have hlt : k % z.size < z.size := Nat.mod_lt _ (by omega)
  subst hz
  simp [madeCells, hk, Array.getElem?_eq_getElem hlt, getElem!_pos, hlt]

theorem zero_cells {c : CF} {S : Nat → Prop} {t : Ty} {z : Value} (hp : t.plain = true) (hV : t.isV = true) (hval : valOf t (zeroCells t) z) : z.cells = (zeroCells t).toArray :=
  ((⟨hval, zero_len hp, own_zero hp fun i _ => by simp⟩ : Own c S ⟨t, t.dflt, .sh⟩ z (zeroCells t) fun _ => False).cells hV).1

/-- An empty row, nil. -/
theorem nil_ok {o : Oper} {a : Act} {x : Operand} {c : Nat} {id : Nat} {t : Ty} {m : Mask} (ho : o.op = .move x ∨ o.op = .assign x) (hx : x = .const (.slice none 0 0)) (hr : b.rl O) (hid : ¬ b.U id) :
    OpOk P o a b.U id b.h O b.S b.w b.G b.Pl [.ref id [] 0] [(id, some ⟨.sl t, [], .sl m, false, false, 0⟩)] := by
  obtain ⟨b', h1, h2, h3, h4, _, _, h5⟩ := Mv.newDet (v := 0) (s := ⟨.sl t, [], .sl m⟩) (V := .slice none 0 0) (vs := [.slice none 0 0]) (F := fun _ => False) hr hid
    ⟨by simp [valOf, Ty.agg], rfl, by simp only [OwnAt, gh_inr, List.getElem?_cons_zero]; exact .inl ⟨⟨_, rfl⟩, trivial, fun _ h => h⟩⟩ fun _ h => h.elim
  refine OpOk.of (v := .slice none 0 0) (b' := b') ?_ h1 (Us.of_or h4) (by rw [updF_one, h2]) h5
  subst hx
  rcases ho with ho | ho <;> simp [execOp, ho, h3, Act.eval]

theorem makeSl_core {o : Oper} {a : Act} {T : TypeId} {l c : Operand} {id : Nat} {t : Ty} {ti : TI} {m : Mask} {kl kc : IntKind} {n cc : Int} (ho : o.op = .makeSlice T l c) (hT : TOk P E.TT) (hr : b.rl O) (hid : ¬ b.U id)
    (hlv : a.eval l = .int kl n) (hcv : a.eval c = .int kc cc) (hel : elTy E T = some (t, ti)) (h1 : 1 ≤ ti.bytes) (h2 : 1 ≤ t.size) (h3 : 0 ≤ n) (h4 : n ≤ cc) (h5 : cc ≤ (lim ti.bytes : Int)) :
    OpOk P o a b.U id b.h O b.S b.w b.G b.Pl [.ref id [] 0] [(id, some ⟨.sl t, List.replicate n.toNat t.dflt, .sl m, false, false, 0⟩)] := by
  obtain ⟨el, f, hu, hti, hf, hfs, hfb, hp, _, _, hV, z, hz, hval⟩ := elTy_some hT hel
  have hzc := zero_cells (c := b.c) (S := b.S) hp hV hval
  have hlim : (f.bytes : Int) * cc ≤ 281474976710656 := by
    rw [hfb]
    have hc0 : 0 ≤ cc := by omega
    obtain ⟨k, rfl⟩ := Int.eq_ofNat_of_zero_le hc0
    have h6 : k ≤ 140737488355328 / ti.bytes := by unfold lim at h5; omega
    have h7 : ti.bytes * k ≤ 140737488355328 := Nat.le_trans (Nat.mul_le_mul_left _ h6) (Nat.mul_div_le _ _)
    have h8 : ((ti.bytes : Int) * (k : Int)) = ((ti.bytes * k : Nat) : Int) := by push_cast; rfl
    rw [h8]; omega
  have h63 : cc ≤ 9223372036854775807 := by
    have : lim ti.bytes ≤ 140737488355328 := Nat.div_le_self _ _
    omega
  have hrun := run_make (P := P) b.w T el f z hu hf hz kl kc n cc h3 h4 hlim h63
  have hg := Mv.alloc hr (.cells (madeCells z.cells (cc.toNat * f.size)) el)
  have hlen : (List.replicate n.toNat t.dflt).length ≤ cc.toNat := by simp; omega
  obtain ⟨b', m1, m2, m3, m4, m5⟩ := Mv.newRow (b := b) (m := m) (F := fun k => k = b.w.heap.size) (n := b.w.heap.size) (len := n.toNat) (cap := cc.toNat) (xs := List.replicate n.toNat t.dflt) (id := id) hg.rl hid
    (by rw [bkOf_alloc_new, size_madeCells, hfs]) hlen
    ⟨fun _ _ => False, fun k => by simp, fun _ _ h => h, fun _ _ _ _ _ h => h.elim, fun i hi => by
      simp only [List.length_replicate] at hi
      rw [show List.getD (List.replicate n.toNat t.dflt) i t.dflt = t.dflt by simp [List.getD, hi]]
      refine own_zero hp fun j hj => ?_
      have hlt := mul_le_of_lt (s := t.size) (show i < cc.toNat by omega)
      have hzs : z.cells.size = t.size := by rw [hzc]; simp [zero_len hp]
      simp only [wcf_inl]
      rw [World.cell?_alloc_new, made_get hzs (by rw [hfs]; omega) (by omega), Nat.mul_comm, Nat.mul_add_mod, Nat.mod_eq_of_lt hj, hzc]
      simp⟩
    (fun k hk => by
      subst hk
      obtain ⟨q1, q2⟩ := hr.new _ (Nat.le_refl _)
      exact ⟨q1, q2, fun l e' he' hf' => by have := (hr.ent l e' he').lt hf'; omega⟩)
  rw [List.length_replicate] at m5
  refine OpOk.of (v := .slice (some ⟨b.w.heap.size, 0, none⟩) n.toNat cc.toNat) (b' := b') ?_ (hg.trans m1) (Us.of_or m4) (by rw [updF_one, m2]) m5
  simp only [execOp, ho, Sem.run_bind, hlv, hcv, hrun, Result.andThen_ok, Sem.run_pure, m3]

theorem makeSl_ok {o : Oper} {a : Act} {T : TypeId} {l c : Operand} {lv cv : AV} {reg i id : Nat} {K : Kt R} (ho : o.op = .makeSlice T l c) (hT : TOk P E.TT) (hr : b.rl O) (hid : ¬ b.U id)
    (hl : b.av lv (a.eval l)) (hc : b.av cv (a.eval c)) (e : makeSl E reg i id T lv cv K = some out) :
    ∃ avs ups, K avs ups = some out ∧ OpOk P o a b.U id b.h O b.S b.w b.G b.Pl avs ups := by
  unfold makeSl at e
  split at e
  · rename_i _ _ _ t ti kl n kc cc hel
    split at e
    rename_i t' m _
    obtain ⟨h1, e⟩ := cond_some e
    simp only [Bool.and_eq_true, decide_eq_true_eq] at h1
    obtain ⟨_, h1, h2⟩ := h1
    obtain ⟨h3, e⟩ := cond_some e
    obtain ⟨h4, e⟩ := cond_some e
    obtain ⟨h5, e⟩ := cond_some e
    exact ⟨_, _, e, makeSl_core ho hT hr hid (av_int.mp hl) (av_int.mp hc) hel (Nat.le_of_ble_eq_true h1) (Nat.le_of_ble_eq_true h2) (of_decide_eq_true h3) (of_decide_eq_true h4) (of_decide_eq_true h5)⟩
  · cases e
end
end Ev
end

section
namespace Ev
open Go

theorem fld_type : ∀ {τ : Ty} {x x' : τ.den} {m m' : Mask} {k : Nat} {u : Sub}, fld τ x m k = some u → ∃ u', fld τ x' m' k = some u' ∧ u'.τ = u.τ := by
  intro τ
  induction τ with
  | pair a b iha ihb => intro x x' m m' k u hu; cases k with
    | zero => simp only [fld, Option.some.injEq] at hu ⊢; subst hu; exact ⟨_, rfl, rfl⟩
    | succ k => simp only [fld] at hu ⊢; exact ihb hu
  | _ => intro x x' m m' k u hu; cases k <;> simp [fld] at hu ⊢; subst hu; rfl

/-- A path of fields alone leads where it leads, whatever lies there. -/
theorem fields_path : ∀ {p : List Stp} {τ : Ty} {x x' : τ.den} {m m' : Mask}, deref p = false → pathOk p τ x m → pathOk p τ x' m' ∧ ∀ (c c' : CF) B o, loc c' p τ B o = loc c p τ B o := by
  intro p
  induction p with
  | nil => intros; exact ⟨trivial, fun _ _ _ _ => rfl⟩
  | cons st p ih =>
    intro τ x x' m m' hd hp
    cases st with
    | e i => simp [deref] at hd
    | f k =>
      cases τ <;> simp only [pathOk] at hp
      rename_i t
      obtain ⟨u, hu, hp⟩ := hp
      obtain ⟨u', hu', he⟩ := fld_type (τ := t) (x' := x') (m' := m') hu
      obtain ⟨uτ, ux, um⟩ := u
      obtain ⟨uτ', ux', um'⟩ := u'
      simp only at he; subst he
      obtain ⟨h1, h2⟩ := ih (x' := ux') (m' := um') (by simpa [deref] using hd) hp
      exact ⟨⟨_, hu', h1⟩, fun c c' B o => by simp only [loc, fldTy_of hu]; exact h2 c c' B _⟩

theorem setFld_type : ∀ {τ : Ty} {x : τ.den} {m : Mask} {k : Nat} {s u : Sub} {y : τ.den × Mask}, setFld τ x m k s = some y → fld τ x m k = some u → s.τ = u.τ := by
  intro τ
  induction τ with
  | pair a b iha ihb => intro x m k s u y hy hu; cases k with
    | zero =>
      simp only [fld, Option.some.injEq] at hu; subst hu
      simp only [setFld, Option.map_eq_some_iff] at hy
      obtain ⟨z, hz, _⟩ := hy
      exact (cast?_some hz).1
    | succ k =>
      simp only [fld] at hu
      simp only [setFld, Option.map_eq_some_iff] at hy
      obtain ⟨z, hz, _⟩ := hy
      exact ihb hz hu
  | _ =>
    intro x m k s u y hy hu
    cases k <;> simp only [fld, Option.some.injEq, reduceCtorEq] at hu
    subst hu
    simp only [setFld, Option.map_eq_some_iff] at hy
    obtain ⟨z, hz, _⟩ := hy
    exact (cast?_some hz).1

theorem setP_type : ∀ {p : List Stp} {τ : Ty} {x : τ.den} {m : Mask} {s u : Sub} {y : τ.den × Mask}, setP τ x m p s = some y → getP τ x m p = some u → s.τ = u.τ := by
  intro p
  induction p with
  | nil =>
    intro τ x m s u y hy hu
    simp only [getP, Option.some.injEq] at hu; subst hu
    simp only [setP, Option.map_eq_some_iff] at hy
    obtain ⟨z, hz, _⟩ := hy
    exact (cast?_some hz).1
  | cons st p ih =>
    intro τ x m s u y hy hu
    cases st with
    | f k =>
      cases τ <;> simp only [getP, reduceCtorEq] at hu
      rename_i t
      rw [Option.bind_eq_some_iff] at hu
      obtain ⟨v, hv, hu⟩ := hu
      simp only [setP, hv, Option.bind_some, Option.bind_eq_some_iff] at hy
      obtain ⟨z, hz, _⟩ := hy
      exact ih hz hu
    | e i =>
      cases τ <;> simp only [getP, reduceCtorEq] at hu <;> simp only [setP, Option.bind_eq_some_iff] at hy <;> obtain ⟨z, hz, _⟩ := hy
      · exact ih hz hu
      · exact ih hz hu

/-! Stores that turn no row -/
theorem lt_vUp (v : Nat) : v < vUp v := by unfold vUp; omega
theorem lt_vSt (τ : Ty) (v : Nat) : v < vSt τ v := by unfold vSt; have := lt_vUp v; cases τ.refs <;> simp only [cond_true, cond_false] <;> omega
theorem vUp_era {k v : Nat} (h : k ≤ v) : k / 65536 ≠ vUp v / 65536 := by unfold vUp; omega

theorem fld_refs : ∀ {τ : Ty} {x : τ.den} {m : Mask} {k : Nat} {u : Sub}, fld τ x m k = some u → τ.refs = false → u.τ.refs = false := by
  intro τ
  induction τ with
  | pair a b iha ihb =>
    intro x m k u hu h
    simp only [Ty.refs, Bool.or_eq_false_iff] at h
    cases k with
    | zero => simp only [fld, Option.some.injEq] at hu; subst hu; exact h.1
    | succ k => simp only [fld] at hu; exact ihb hu h.2
  | _ => intro x m k u hu h; cases k <;> simp [fld] at hu; subst hu; exact h

theorem pathOk_flat : ∀ {q : List Stp} {τ : Ty} {x x' : τ.den} {m m' : Mask}, τ.refs = false → pathOk q τ x m → pathOk q τ x' m' := by
  intro q
  induction q with
  | nil => intros; trivial
  | cons st q ih =>
    intro τ x x' m m' hr hp
    cases st with
    | f k =>
      cases τ <;> simp only [pathOk] at hp
      rename_i t
      obtain ⟨u, hu, hp⟩ := hp
      have hr2 := fld_refs hu (by simpa [Ty.refs] using hr)
      obtain ⟨u', hu', he⟩ := fld_type (τ := t) (x' := x') (m' := m') hu
      obtain ⟨uτ, ux, um⟩ := u
      obtain ⟨uτ', ux', um'⟩ := u'
      simp only at he; subst he
      exact ⟨_, hu', ih hr2 hp⟩
    | e i =>
      cases τ <;> simp only [pathOk] at hp
      · simp [Ty.refs] at hr
      · exact ⟨hp.1, ih (by simpa [Ty.refs] using hr) hp.2⟩

theorem fld_set_same : ∀ {τ : Ty} {x : τ.den} {m : Mask} {k : Nat} {s : Sub} {y : τ.den × Mask}, setFld τ x m k s = some y → fld τ y.1 y.2 k = some s := by
  intro τ
  induction τ with
  | pair a b iha ihb =>
    intro x m k s y hy
    cases k with
    | zero =>
      simp only [setFld, Option.map_eq_some_iff] at hy
      obtain ⟨z, hz, rfl⟩ := hy
      obtain ⟨sτ, sx, sm⟩ := s
      obtain ⟨e, rfl⟩ := cast?_some hz
      simp only at e; subst e
      simp [fld, mkpr_l]
    | succ k =>
      simp only [setFld, Option.map_eq_some_iff] at hy
      obtain ⟨z, hz, rfl⟩ := hy
      simp only [fld, mkpr_r]
      exact ihb hz
  | _ =>
    intro x m k s y hy
    cases k with
    | succ k => simp [setFld] at hy
    | zero =>
      simp only [setFld, Option.map_eq_some_iff] at hy
      obtain ⟨z, hz, rfl⟩ := hy
      obtain ⟨sτ, sx, sm⟩ := s
      obtain ⟨e, rfl⟩ := cast?_some hz
      simp only at e; subst e
      simp [fld]

theorem fld_set_ne : ∀ {τ : Ty} {x : τ.den} {m : Mask} {k k' : Nat} {s u : Sub} {y : τ.den × Mask}, setFld τ x m k s = some y → k' ≠ k → fld τ x m k' = some u → fld τ y.1 y.2 k' = some u := by
  intro τ
  induction τ with
  | pair a b iha ihb =>
    intro x m k k' s u y hy hne hu
    cases k with
    | zero =>
      simp only [setFld, Option.map_eq_some_iff] at hy
      obtain ⟨z, hz, rfl⟩ := hy
      cases k' with
      | zero => exact (hne rfl).elim
      | succ k' => simp only [fld, mkpr_r] at hu ⊢; exact hu
    | succ k =>
      simp only [setFld, Option.map_eq_some_iff] at hy
      obtain ⟨z, hz, rfl⟩ := hy
      cases k' with
      | zero => simp only [fld, mkpr_l] at hu ⊢; exact hu
      | succ k' => simp only [fld, mkpr_r] at hu ⊢; exact ihb hz (by omega) hu
  | _ =>
    intro x m k k' s u y hy hne hu
    cases k with
    | succ k => simp [setFld] at hy
    | zero =>
      cases k' with
      | zero => exact (hne rfl).elim
      | succ k' => simp [fld] at hu

theorem pathOk_set : ∀ {p : List Stp} {τ : Ty} {x : τ.den} {m : Mask} {s : Sub} {y : τ.den × Mask} {q : List Stp}, setP τ x m p s = some y → s.τ.refs = false → pathOk q τ x m → pathOk q τ y.1 y.2 := by
  intro p
  induction p with
  | nil =>
    intro τ x m s y q hy hs hp
    simp only [setP, Option.map_eq_some_iff] at hy
    obtain ⟨z, hz, rfl⟩ := hy
    obtain ⟨e, _⟩ := cast?_some hz
    exact pathOk_flat (by rw [← e]; exact hs) hp
  | cons st p ih =>
    intro τ x m s y q hy hs hp
    cases q with
    | nil => trivial
    | cons st' q =>
      cases st with
      | f k =>
        cases τ <;> simp only [setP, reduceCtorEq] at hy
        rename_i t
        rw [Option.bind_eq_some_iff] at hy
        obtain ⟨v, hv, hy⟩ := hy
        rw [Option.bind_eq_some_iff] at hy
        obtain ⟨z, hz, hy⟩ := hy
        cases st' with
        | e j => simp only [pathOk] at hp
        | f k' =>
          simp only [pathOk] at hp ⊢
          obtain ⟨u, hu, hp⟩ := hp
          by_cases hk : k' = k
          · subst hk
            rw [hv] at hu
            injection hu with hu
            subst hu
            exact ⟨_, fld_set_same hy, ih hz hs hp⟩
          · exact ⟨u, fld_set_ne hy hk hu, hp⟩
      | e i =>
        cases τ <;> simp only [setP, reduceCtorEq, Option.bind_eq_some_iff] at hy <;> obtain ⟨z, hz, hy⟩ := hy <;> split at hy <;> cases hy
        · rename_i t hzm
          cases st' with
          | f k' => simp only [pathOk] at hp
          | e j =>
            simp only [pathOk, List.length_set] at hp ⊢
            refine ⟨hp.1, hp.2.1, ?_⟩
            by_cases hj : i = j
            · subst hj
              have hj2 := hp.2.1
              have : List.getD (List.set x i z.1) i t.dflt = z.1 := by simp [List.getD_eq_getElem?_getD, hj2]
              rw [this, ← hzm]
              exact ih hz hs hp.2.2
            · have : List.getD (List.set x i z.1) j t.dflt = List.getD x j t.dflt := by simp [List.getD_eq_getElem?_getD, List.getElem?_set_ne hj]
              rw [this]; exact hp.2.2
        · rename_i n t hzm
          cases st' with
          | f k' => simp only [pathOk] at hp
          | e j =>
            simp only [pathOk] at hp ⊢
            refine ⟨hp.1, ?_⟩
            by_cases hj : i = j
            · subst hj
              by_cases hl : i < List.length x
              · have : List.getD (List.set x i z.1) i t.dflt = z.1 := by simp [List.getD_eq_getElem?_getD, hl]
                rw [this, ← hzm]
                exact ih hz hs hp.2
              · have : List.getD (List.set x i z.1) i t.dflt = List.getD x i t.dflt := by rw [List.set_eq_of_length_le (by omega)]
                rw [this]; exact hp.2
            · have : List.getD (List.set x i z.1) j t.dflt = List.getD x j t.dflt := by simp [List.getD_eq_getElem?_getD, List.getElem?_set_ne hj]
              rw [this]; exact hp.2

theorem loc_slices {c c' : CF} (hc : ∀ B j A n cap, c.cl B j = some (.slice A n cap) → c'.cl B j = c.cl B j) : ∀ {q : List Stp} {τ : Ty} {B : Nat ⊕ Nat} {o : Nat} {z : Ty × (Nat ⊕ Nat) × Nat}, loc c q τ B o = some z → loc c' q τ B o = some z := by
  intro q
  induction q with
  | nil => intro τ B o z h; exact h
  | cons st q ih =>
    intro τ B o z h
    cases st with
    | f k =>
      cases τ <;> simp only [loc, reduceCtorEq] at h ⊢
      split at h
      · exact ih h
      · cases h
    | e i =>
      cases τ <;> simp only [loc, reduceCtorEq] at h ⊢
      · split at h
        · rename_i hcl
          rw [hc _ _ _ _ _ hcl, hcl]
          exact ih h
        · cases h
      · exact ih h

theorem ImmAt.noSlice {c : CF} {S : Nat → Prop} : ∀ {τ : Ty} {B : Nat ⊕ Nat} {o : Nat} {x : τ.den}, τ.refs = false → ImmAt c S τ B o x → ∀ j, j < τ.size → ∀ A n cap, c.cl B (o + j) ≠ some (.slice A n cap) := by
  intro τ
  induction τ with
  | int k => intro B o x _ h j hj A n cap; simp only [Ty.size] at hj; obtain rfl : j = 0 := by omega
             simp only [ImmAt] at h; rw [Nat.add_zero, h]; simp
  | bool => intro B o x _ h j hj A n cap; simp only [Ty.size] at hj; obtain rfl : j = 0 := by omega
            simp only [ImmAt] at h; rw [Nat.add_zero, h]; simp
  | str => intro B o x _ h j hj A n cap; simp only [Ty.size] at hj; obtain rfl : j = 0 := by omega
           simp only [ImmAt] at h; rw [Nat.add_zero, h]; simp
  | sl t _ => intro B o x h; simp [Ty.refs] at h
  | ip t _ => intro B o x h; simp [Ty.refs] at h
  | fn g t _ => intro B o x h; simp [Ty.refs] at h
  | unit => intro B o x _ h j hj; simp [Ty.size] at hj
  | st t ih => intro B o x h hI; exact ih (by simpa [Ty.refs] using h) hI
  | pair a b iha ihb =>
    intro B o x h hI j hj A n cap
    simp only [Ty.refs, Bool.or_eq_false_iff] at h
    simp only [ImmAt] at hI
    simp only [Ty.size] at hj
    by_cases hja : j < a.size
    · exact iha h.1 hI.1 j hja A n cap
    · have := ihb h.2 hI.2 (j - a.size) (by omega) A n cap
      rwa [show o + a.size + (j - a.size) = o + j by omega] at this
  | arr k t ih =>
    intro B o x h hI j hj A n cap
    simp only [Ty.refs] at h
    simp only [ImmAt] at hI
    simp only [Ty.size] at hj
    have ht : 0 < t.size := by
      rcases Nat.eq_zero_or_pos t.size with h0 | h0
      · rw [h0] at hj; omega
      · exact h0
    have h1 : j / t.size < k := by rw [Nat.div_lt_iff_lt_mul ht]; omega
    have := ih h (hI.2 (j / t.size) h1) (j % t.size) (Nat.mod_lt _ ht) A n cap
    have e : o + j / t.size * t.size + j % t.size = o + j := by
      have := Nat.div_add_mod j t.size
      rw [Nat.mul_comm] at this
      omega
    rwa [e] at this

theorem OwnAt.noSlice {c : CF} {S : Nat → Prop} : ∀ {τ : Ty} {m : Mask} {B : Nat ⊕ Nat} {o : Nat} {x : τ.den} {F : Nat → Prop}, OwnAt c S τ m B o x F → τ.refs = false → ∀ j, j < τ.size → ∀ A n cap, c.cl B (o + j) ≠ some (.slice A n cap) := by
  intro τ
  induction τ with
  | int k => intro m B o x F h hr; simp only [OwnAt] at h; exact h.2.noSlice hr
  | bool => intro m B o x F h hr; simp only [OwnAt] at h; exact h.2.noSlice hr
  | str => intro m B o x F h hr; simp only [OwnAt] at h; exact h.2.noSlice hr
  | unit => intro m B o x F h hr; simp only [OwnAt] at h; exact h.2.noSlice hr
  | sl t _ => intro m B o x F _ hr; simp [Ty.refs] at hr
  | ip t _ => intro m B o x F _ hr; simp [Ty.refs] at hr
  | fn g t _ => intro m B o x F _ hr; simp [Ty.refs] at hr
  | st t ih => intro m B o x F h hr; exact ih h (by simpa [Ty.refs] using hr)
  | pair a b iha ihb =>
    intro m B o x F h hr j hj A n cap
    simp only [Ty.refs, Bool.or_eq_false_iff] at hr
    obtain ⟨F1, F2, _, _, h1, h2⟩ := h
    simp only [Ty.size] at hj
    by_cases hja : j < a.size
    · exact iha h1 hr.1 j hja A n cap
    · have := ihb h2 hr.2 (j - a.size) (by omega) A n cap
      rwa [show o + a.size + (j - a.size) = o + j by omega] at this
  | arr k t ih =>
    intro m B o x F h hr j hj A n cap
    simp only [Ty.refs] at hr
    obtain ⟨_, Fs, _, _, hI⟩ := h
    simp only [Ty.size] at hj
    have ht : 0 < t.size := by
      rcases Nat.eq_zero_or_pos t.size with h0 | h0
      · rw [h0] at hj; omega
      · exact h0
    have h1 : j / t.size < k := by rw [Nat.div_lt_iff_lt_mul ht]; omega
    have := ih (hI (j / t.size) h1) hr (j % t.size) (Nat.mod_lt _ ht) A n cap
    have e : o + j / t.size * t.size + j % t.size = o + j := by
      have := Nat.div_add_mod j t.size
      rw [Nat.mul_comm] at this
      omega
    rwa [e] at this

/-- Cells of a block that may be written are written one by one. -/
theorem run_storeCells {P : Program} {b o n : Nat} : ∀ (vs : List Value) (i : Nat) (w : World), bkOf w b = some n → o + i + vs.length ≤ n → (∀ (j : Nat) (v : Value), vs[j]? = some v → v.oneCell' = true) →
    ∃ w', (storeCells ⟨b, o, none⟩ vs i).run P w = .ok () w' ∧ w'.os = w.os ∧ w'.tape = w.tape ∧ w'.output = w.output ∧ w'.heap.size = w.heap.size ∧ (∀ k, k ≠ b → w'.heap[k]? = w.heap[k]?) ∧ bkOf w' b = some n ∧
      ∀ j, w'.cell? ⟨b, j, none⟩ = if o + i ≤ j ∧ j < o + i + vs.length then vs[j - (o + i)]? else w.cell? ⟨b, j, none⟩ := by
  intro vs
  induction vs with
  | nil => intro i w hb _ _; exact ⟨w, by simp [storeCells], rfl, rfl, rfl, rfl, fun _ _ => rfl, hb, fun j => by rw [if_neg (by simp)]⟩
  | cons v vs ih =>
    intro i w hb hn h1
    simp only [List.length_cons] at hn
    obtain ⟨old, hold⟩ := bkOf_cell (j := o + i) hb (by omega)
    have hfr := bkOf_frozen (j := o + i) hb (by omega)
    have hst := run_store P w ⟨b, o + i, none⟩ v .plain (h1 0 v (by simp))
    rw [hold] at hst
    simp only [hfr, Bool.false_eq_true, if_false] at hst
    have hb' : bkOf (w.setCell ⟨b, o + i, none⟩ v) b = some n := by
      unfold bkOf at hb ⊢
      split at hb
      · rename_i c el fr hc
        simp only [World.setCell, Array.getElem?_modify, hc, if_true, Option.map_some]
        simpa using hb
      · cases hb
    obtain ⟨w', r1, r2, r3, r4, r5, r6, r7, r8⟩ := ih (i + 1) (w.setCell ⟨b, o + i, none⟩ v) hb' (by omega) (fun j v' hj => h1 (j + 1) v' (by simpa using hj))
    refine ⟨w', ?_, r2, r3, r4, by rw [r5]; simp, fun k hk => ?_, r7, fun j => ?_⟩
    · simp only [storeCells, Sem.run_bind, add_eq, hst, Result.andThen_ok, r1]
    · rw [r6 k hk]
      simp only [World.setCell, Array.getElem?_modify]
      rw [if_neg (by exact fun h => hk h.symm)]
    · rw [r8 j]
      simp only [List.length_cons]
      by_cases hj : j = o + i
      · subst hj
        rw [if_neg (by omega), if_pos (by omega), Nat.sub_self]
        rw [World.cell?_setCell_same (h := hold)]; simp
      · have hne : (⟨b, o + i, none⟩ : Addr) ≠ ⟨b, j, none⟩ := fun h => hj (by injection h with _ h; exact h.symm)
        by_cases hin : o + (i + 1) ≤ j ∧ j < o + (i + 1) + vs.length
        · rw [if_pos hin, if_pos (by omega)]
          rw [show j - (o + i) = (j - (o + (i + 1))) + 1 by omega, List.getElem?_cons_succ]
        · rw [if_neg hin, if_neg (by omega), World.cell?_setCell_other (h := hne)]

section
variable {P : Program} {E : Env} {O : Nat → Prop} {b : Bd} {R : Type} {out : R}

/-- The entry's block at a place, turned. -/
theorem Mv.store {l : Nat} {e : Entry} {p : List Stp} {u s : Sub} {y : e.τ.den × Mask} {V : Value} {vs : List Value} {Fs : Nat → Prop} {k o : Nat} {w2 : World} (hr : b.rl O) (he : b.h l = some e) (hfz : e.fz = false)
    (hp : pathOk p e.τ e.x e.m) (hg : getP e.τ e.x e.m p = some u) (hl : loc b.c p e.τ (base e l (b.Pl l)).1 (base e l (b.Pl l)).2 = some (u.τ, .inl k, o)) (hy : setP e.τ e.x e.m p s = some y)
    (ho : Own b.c b.S s V vs Fs) (hf : Free O b Fs) (q1 : w2.os = b.w.os) (q2 : w2.tape = b.w.tape) (q3 : w2.output = b.w.output) (q4 : w2.heap.size = b.w.heap.size) (q5 : ∀ j, j ≠ k → w2.heap[j]? = b.w.heap[j]?)
    (q6 : bkOf w2 k = bkOf b.w k) (q7 : ∀ j, w2.cell? ⟨k, j, none⟩ = if o ≤ j ∧ j < o + vs.length then vs[j - o]? else b.w.cell? ⟨k, j, none⟩) :
    b.ft l k ∧ ∃ b', Mv O b b' ∧ b'.h = upd b.h l (some ⟨e.τ, y.1, y.2, e.mem, false, vSt u.τ e.v⟩) ∧ b'.w = w2 ∧ b'.U = b.U := by
  have hE := hr.ent l e he
  have hst : s.τ = u.τ := setP_type hy hg
  have hvl : vs.length = u.τ.size := by rw [ho.len, hst]
  unfold EntOk at hE
  rw [if_neg (by simp [hfz])] at hE
  obtain ⟨F', h1, h2, h3⟩ := hE
  have hsub : ∀ x, F' x → b.ft l x := EntOk.sub (by simp [hfz]) h3
  obtain ⟨B', o', Fu, g1, g2, g3, g4, g5, g6⟩ := h1.wand hp hg h2
  rw [hl] at g1
  simp only [Option.some.injEq, Prod.mk.injEq, true_and] at g1
  obtain ⟨rfl, rfl⟩ := g1
  have hkl : b.ft l k := by
    rcases g4 with ⟨g4, _⟩ | ⟨x, n', g4, g5', _⟩
    · by_cases hm : e.mem = true
      · simp only [base, hm, if_true] at g4
        injection g4 with g4
        rw [if_pos hm] at h3
        exact (h3.1 k).mpr (.inl g4)
      · simp only [base, hm, if_false, Bool.false_eq_true] at g4; cases g4
    · injection g5' with g5'; rw [g5']; exact hsub x g4
  have hne : ∀ l' e', b.h l' = some e' → l' ≠ l → ∀ x, b.ft l' x → x ≠ k := fun l' e' he' hll x hx hxk => hll (hr.dis l' l x (by simp [he']) (by simp [he]) hx (hxk ▸ hkl))
  have hSk : ∀ x, b.S x → x ≠ k := fun x hx hxk => (hr.own l k (by simp [he]) hkl).2 (hxk ▸ hx)
  have hFk : ∀ x, Fs x → x ≠ k := fun x hx hxk => (hf x hx).2.2 l e he (hxk ▸ hkl)
  have hS : AgreeS b.c (wcf w2 b.G) b.S b.S := fun x hx => ⟨hx, fun j => cell?_congr (q5 x (hSk x hx))⟩
  have hbk : ∀ x, bkOf w2 x = bkOf b.w x := fun x => by
    by_cases hx : x = k
    · rw [hx, q6]
    · exact bkOf_congr (q5 x hx)
  have hun : ∀ l' e', b.h l' = some e' → l' ≠ l → Un b.c (wcf w2 b.G) b.S e' l' (b.Pl l') (b.ft l') := fun l' e' he' hll => by
    refine ⟨fun i hi => ?_, fun x hx => ⟨hbk x, fun j => cell?_congr (q5 x (hne l' e' he' hll x hx))⟩⟩
    by_cases hm : e'.mem = true
    · simp only [base, hm, if_true, wcf_inl]
      refine cell?_congr (q5 _ ?_)
      have hE := hr.ent l' e' he'
      unfold EntOk at hE
      by_cases hf : e'.fz = true
      · rw [if_pos hf] at hE; exact hSk _ (hE.2.1 hm)
      · rw [if_neg hf] at hE
        obtain ⟨F2, _, _, h6⟩ := hE
        rw [if_pos hm] at h6
        exact hne l' e' he' hll _ ((h6.1 _).mpr (.inl rfl))
    · simp only [base, hm, if_false, Bool.false_eq_true, wcf_inr]
  have hnew := g6 (wcf w2 b.G) b.S s Fs y hy (fun B1 j _ hnot hnF => by
      cases B1 with
      | inr x => rfl
      | inl x =>
        simp only [wcf_inl]
        by_cases hx : x = k
        · subst hx
          rw [q7 j, if_neg (fun hj => hnot ⟨rfl, by omega, by omega⟩)]
        · exact cell?_congr (q5 x hx)) (fun x _ _ => hbk x) hS
    (ho.at (fun i hi => by
        simp only [wcf_inl]
        rw [q7 (o + i), if_pos (by rw [hst] at hi; omega), Nat.add_sub_cancel_left]) (fun x hx => ⟨fun e => hFk x hx (by injection e with e; exact e.symm), hbk x, fun j => cell?_congr (q5 x (hFk x hx))⟩) hS)
    (fun x hx hx' => ((hf x hx).2.2 l e he (hsub x hx')).elim)
  refine ⟨hkl, { b with h := upd b.h l (some ⟨e.τ, y.1, y.2, e.mem, false, vSt u.τ e.v⟩), w := w2, ft := upd b.ft l fun x => (e.mem = true ∧ x = (b.Pl l).1) ∨ (F' x ∧ ¬ Fu x) ∨ Fs x }, ⟨⟨fun l' e' he' => ?_, fun l' e' he' => ?_, fun l' e' he' => ?_, fun l1 l2 x hl1 hl2 hx1 hx2 => ?_, fun l' x hl' hx => ?_, fun x hx => hr.new x (by rw [← q4]; exact hx)⟩, fun av W hav => ?_,
    ⟨q1, q2, q3, Nat.le_of_eq q4.symm, fun x hx hO => q5 x fun hxk => hO (hxk ▸ (hr.own l k (by simp [he]) hkl).1), fun x hx => ⟨hx, q5 x (hSk x hx)⟩, fun _ h => .inl h⟩, fun _ h => h⟩, rfl, rfl, rfl⟩
  · by_cases hll : l' = l
    · subst hll; exact hr.us _ e he
    · simp only [upd_ne _ _ hll] at he'; exact hr.us l' e' he'
  · by_cases hll : l' = l
    · subst hll
      simp only [upd_same, Option.some.injEq] at he' ⊢
      subst he'
      unfold EntOk
      simp only [Bool.false_eq_true, if_false]
      refine ⟨_, hnew, fun x hx hbx => ?_, ?_⟩
      · rcases hx with ⟨hx, _⟩ | hx
        · exact h2 x hx hbx
        · by_cases hm : e.mem = true
          · simp only [base, hm, if_true] at hbx
            injection hbx with hbx
            rw [if_pos hm] at h3
            exact (hf x hx).2.2 l' e he ((h3.1 x).mpr (.inl hbx.symm))
          · simp only [base, hm, if_false, Bool.false_eq_true] at hbx; cases hbx
      · by_cases hm : e.mem = true
        · rw [if_pos hm] at h3 ⊢
          refine ⟨fun x => by simp [hm], ?_⟩
          obtain ⟨n', hn', hle⟩ := h3.2
          exact ⟨n', by simp only [wcf_bk, hbk]; exact hn', hle⟩
        · rw [if_neg hm]; exact fun x => by simp [hm]
    · simp only [upd_ne _ _ hll] at he' ⊢
      exact (hr.ent l' e' he').move (hun l' e' he' hll) hS
  · by_cases hll : l' = l
    · subst hll
      simp only [upd_same, Option.some.injEq] at he'
      subst he'
      exact fun hm => hr.gl _ e he hm
    · simp only [upd_ne _ _ hll] at he'; exact hr.gl l' e' he'
  · have key : ∀ l2 x, (b.h l2).isSome = true → l2 ≠ l → b.ft l2 x → ((e.mem = true ∧ x = (b.Pl l).1) ∨ (F' x ∧ ¬ Fu x) ∨ Fs x) → False := by
      intro l2 x hl2 hne2 hx2 hx1
      obtain ⟨e2, he2⟩ := Option.isSome_iff_exists.mp hl2
      rcases hx1 with ⟨hm, hx1⟩ | ⟨hx1, _⟩ | hx1
      · rw [if_pos hm] at h3
        exact hne2 (hr.dis l2 l x hl2 (by simp [he]) hx2 ((h3.1 x).mpr (.inl hx1)))
      · exact hne2 (hr.dis l2 l x hl2 (by simp [he]) hx2 (hsub x hx1))
      · exact (hf x hx1).2.2 l2 e2 he2 hx2
    by_cases h5 : l1 = l <;> by_cases h6 : l2 = l
    · rw [h5, h6]
    · subst h5; simp only [upd_same, upd_ne _ _ h6] at hx1 hx2 hl2; exact (key l2 x hl2 h6 hx2 hx1).elim
    · subst h6; simp only [upd_same, upd_ne _ _ h5] at hx1 hx2 hl1; exact (key l1 x hl1 h5 hx1 hx2).elim
    · simp only [upd_ne _ _ h5, upd_ne _ _ h6] at hl1 hl2 hx1 hx2; exact hr.dis l1 l2 x hl1 hl2 hx1 hx2
  · by_cases hll : l' = l
    · subst hll
      simp only [upd_same] at hx
      rcases hx with ⟨hm, hx⟩ | ⟨hx, _⟩ | hx
      · rw [if_pos hm] at h3
        exact hr.own l' x (by simp [he]) ((h3.1 x).mpr (.inl hx))
      · exact hr.own l' x (by simp [he]) (hsub x hx)
      · exact ⟨(hf x hx).1, (hf x hx).2.1⟩
    · simp only [upd_ne _ _ hll] at hl' hx; exact hr.own l' x hl' hx
  · -- names
    have other : ∀ l', l' ≠ l → ∀ e', upd b.h l (some ⟨e.τ, y.1, y.2, e.mem, false, vSt u.τ e.v⟩) l' = some e' → ∃ e0, b.h l' = some e0 ∧ e' = { e0 with fz := e'.fz } ∧ b.Pl l' = b.Pl l' ∧ Un b.c (wcf w2 b.G) b.S e0 l' (b.Pl l') (b.ft l') := by
      intro l' hll e' he'
      rw [upd_ne _ _ hll] at he'
      exact ⟨e', he', rfl, rfl, hun l' e' he' hll⟩
    cases av with
    | imm τ x => exact hav.imp id fun ⟨vs', a1, a2⟩ => ⟨vs', a1, a2.mono hS⟩
    | ref l' q kv =>
      by_cases hll : l' = l
      · subst hll
        obtain ⟨hU, hav⟩ := hav
        obtain ⟨hkv, hav⟩ := hav e he
        refine ⟨hU, fun e' he' => ?_⟩
        simp only [upd_same, Option.some.injEq] at he'
        subst he'
        refine ⟨by have := lt_vSt u.τ e.v; simp only; omega, fun ha => ?_⟩
        simp only [aliveR] at ha
        have hb : Nat.beq kv (vSt u.τ e.v) = false := beq_ne (by have := lt_vSt u.τ e.v; omega)
        simp only [hb, Bool.or_false, Bool.and_eq_true, Bool.not_eq_true'] at ha
        have hq : q = [] := by cases q <;> simp [isNil] at ha ⊢
        subst hq
        obtain ⟨u0, hg0, hp0, B0, o0, vs0, hl0, hn0, hc0, hv0⟩ := hav (by simp [aliveR, ha.1, isNil])
        simp only [getP, Option.some.injEq] at hg0; subst hg0
        simp only [loc, base, ha.1, Bool.false_eq_true, if_false, Option.some.injEq, Prod.mk.injEq, true_and] at hl0
        obtain ⟨rfl, rfl⟩ := hl0
        refine ⟨⟨e.τ, y.1, y.2⟩, rfl, trivial, .inr l', 0, vs0, ?_, hn0, fun i hi => ?_, hv0⟩
        · simp [loc, base, ha.1]
        · rw [← hc0 i hi]; rfl
      · exact AvOk.keep (av := .ref l' q kv) (ft := b.ft) (h := fun j => if j = l' then b.h j else none) (h' := fun j => if j = l' then upd b.h l (some ⟨e.τ, y.1, y.2, e.mem, false, vSt u.τ e.v⟩) j else none) (Pl := b.Pl) (Pl' := b.Pl)
          (fun j ej hj => by
            by_cases hjl : j = l'
            · simp only [hjl, if_true] at hj; rw [hjl]; exact hr.ent l' ej hj
            · simp only [hjl, if_false] at hj; cases hj) (fun _ h => h) hS
          (fun j ej hU hj => by
            by_cases hjl : j = l'
            · subst hjl
              simp only [if_true] at hj ⊢
              simpa using other j hll ej hj
            · simp only [hjl, if_false] at hj; cases hj)
          (by obtain ⟨hU, hav⟩ := hav; exact ⟨hU, fun e0 he0 => hav e0 (by simpa using he0)⟩) |> fun ⟨hU, h⟩ => ⟨hU, fun e0 he0 => h e0 (by simpa using he0)⟩
    | adr l' q kv =>
      by_cases hll : l' = l
      · subst hll
        obtain ⟨hU, hav⟩ := hav
        obtain ⟨hkv, hav⟩ := hav e he
        refine ⟨hU, fun e' he' => ?_⟩
        simp only [upd_same, Option.some.injEq] at he'
        subst he'
        refine ⟨by have := lt_vSt u.τ e.v; simp only; omega, fun ha => ?_⟩
        cases hrf : u.τ.refs with
        | true =>
          simp only [aliveA, vSt, hrf, cond_true] at ha
          have hb : Nat.beq (kv / 65536) (vUp e.v / 65536) = false := beq_ne (vUp_era (by omega))
          simp only [hb, Bool.or_false, Bool.not_eq_true'] at ha
          obtain ⟨hp0, hm0, u0, b0, o0, hl0, hv0⟩ := hav (by simp [aliveA, ha])
          obtain ⟨hp1, hl1⟩ := fields_path (x' := y.1) (m' := y.2) ha hp0
          refine ⟨hp1, hm0, u0, b0, o0, ?_, hv0⟩
          rw [← hl0]
          exact hl1 b.c (wcf w2 b.G) _ _
        | false =>
          have ha2 : aliveA e q kv = true := by
            simp only [aliveA, vSt, hrf, cond_false] at ha ⊢
            rw [Bool.or_eq_true] at ha ⊢
            refine ha.imp id fun h => ?_
            have h := Nat.eq_of_beq_eq_true h
            have h1 : kv / 65536 ≤ e.v / 65536 := Nat.div_le_div_right hkv
            have h2 : e.v / 65536 ≤ (e.v + 1) / 65536 := Nat.div_le_div_right (by omega)
            have : kv / 65536 = e.v / 65536 := by omega
            rw [this]; exact Nat.beq_refl _
          obtain ⟨hp0, hm0, u0, b0, o0, hl0, hv0⟩ := hav ha2
          refine ⟨pathOk_set hy (by rw [hst]; exact hrf) hp0, hm0, u0, b0, o0, ?_, hv0⟩
          refine loc_slices (fun B1 j A1 n1 c1 h1 => ?_) hl0
          cases B1 with
          | inr x => rfl
          | inl x =>
            simp only [wcf_inl]
            by_cases hx : x = k
            · subst hx
              rw [q7 j, if_neg]
              intro hj
              have := g2.noSlice hrf (j - o) (by omega) A1 n1 c1
              rw [show o + (j - o) = j by omega] at this
              exact this h1
            · exact cell?_congr (q5 x hx)
      · exact AvOk.keep (av := .adr l' q kv) (ft := b.ft) (h := fun j => if j = l' then b.h j else none) (h' := fun j => if j = l' then upd b.h l (some ⟨e.τ, y.1, y.2, e.mem, false, vSt u.τ e.v⟩) j else none) (Pl := b.Pl) (Pl' := b.Pl)
          (fun j ej hj => by
            by_cases hjl : j = l'
            · simp only [hjl, if_true] at hj; rw [hjl]; exact hr.ent l' ej hj
            · simp only [hjl, if_false] at hj; cases hj) (fun _ h => h) hS
          (fun j ej hU hj => by
            by_cases hjl : j = l'
            · subst hjl
              simp only [if_true] at hj ⊢
              simpa using other j hll ej hj
            · simp only [hjl, if_false] at hj; cases hj)
          (by obtain ⟨hU, hav⟩ := hav; exact ⟨hU, fun e0 he0 => hav e0 (by simpa using he0)⟩) |> fun ⟨hU, h⟩ => ⟨hU, fun e0 he0 => h e0 (by simpa using he0)⟩

theorem store_ok {o : Oper} {a : Act} {T : TypeId} {A X : Operand} {av xv : AV} {id : Nat} {K : Kt R} (ho : o.op = .store T A X) (hT : TOk P E.TT) (hr : b.rl O)
    (ha : b.av av (a.eval A)) (hx : b.av xv (a.eval X)) (e : storeA E b.h T av xv K = some out) :
    ∃ avs ups, K avs ups = some out ∧ OpOk P o a b.U id b.h O b.S b.w b.G b.Pl avs ups := by
  unfold storeA at e
  split at e
  · rename_i l p kv
    split at e
    · rename_i en hen
      obtain ⟨hc, e⟩ := cond_none e
      rw [Bool.or_eq_false_iff] at hc
      obtain ⟨hfz, hal⟩ := hc
      simp only [Bool.not_eq_false'] at hal
      split at e
      · rename_i u hu
        obtain ⟨hsz, e⟩ := cond_some e
        simp only [Bool.and_eq_true] at hsz
        obtain ⟨hs1, hs2, hs3⟩ := hsz
        obtain ⟨y, ups, b', s, vs, Fs, e, hy, hm, hh, hw, hU, hG, hPl, hown, hfree, _⟩ := laid_ok hr hx e
        obtain ⟨hany, e⟩ := cond_none e
        have hen' : b'.h l = some en := by
          rw [← hh]
          have : ∀ (ups : Ups) (h : Nat → Option Entry), (ups.any fun c => Nat.beq c.1 l) = false → updF ups h l = h l := by
            intro ups
            induction ups with
            | nil => intro h _; rfl
            | cons q r ih =>
              intro h hq
              obtain ⟨k, e'⟩ := q
              simp only [List.any_cons, Bool.or_eq_false_iff] at hq
              simp only [updF]
              rw [ih _ hq.2]
              rw [if_neg]
              intro hlk
              rw [← hlk, Nat.beq_refl] at hq
              cases hq.1
          rw [this ups b.h hany]; exact hen
        obtain ⟨hUl, hav⟩ := hm.av _ _ ha
        obtain ⟨hkv, hav⟩ := hav en hen'
        obtain ⟨hp, hmm, u', k, oo, hl, haddr⟩ := hav hal
        obtain ⟨B', o', hl', hat⟩ := (hm.rl.ent l en hen').at hp hu
        rw [hl] at hl'
        simp only [Option.some.injEq, Prod.mk.injEq] at hl'
        obtain ⟨rfl, rfl, rfl⟩ := hl'
        have hst : s.τ = u.τ := setP_type hy hu
        have hV : s.τ.isV = true := by rw [hst]; exact hs3
        obtain ⟨hcells, hone⟩ := hown.cells hV
        -- the block
        have hblk : ∃ n, bkOf b'.w k = some n ∧ oo + u.τ.size ≤ n := by
          have hE := hm.rl.ent l en hen'
          unfold EntOk at hE
          rw [if_neg (by simp [hfz])] at hE
          obtain ⟨F', h1, h2, h3⟩ := hE
          obtain ⟨B', o', Fu, g1, _, _, g4, _, _⟩ := h1.wand hp hu h2
          rw [hl] at g1
          simp only [Option.some.injEq, Prod.mk.injEq, true_and] at g1
          obtain ⟨rfl, rfl⟩ := g1
          rcases g4 with ⟨g4, g7, g8⟩ | ⟨x, n', g4, g5', g6, g7⟩
          · by_cases hme : en.mem = true
            · simp only [base, hme, if_true] at g4 g7 g8
              injection g4 with g4
              rw [if_pos hme] at h3
              obtain ⟨n, hn, hle⟩ := h3.2
              exact ⟨n, by rw [g4]; exact hn, by omega⟩
            · simp only [base, hme, if_false, Bool.false_eq_true] at g4; cases g4
          · injection g5' with g5'; subst g5'; exact ⟨n', g6, g7⟩
        obtain ⟨n, hn, hle⟩ := hblk
        have hvl : vs.length = u.τ.size := by rw [hown.len, hst]
        obtain ⟨w2, r1, r2, r3, r4, r5, r6, r7, r8⟩ := run_storeCells (P := P) (b := k) (o := oo) vs 0 b'.w hn (by omega) hone
        obtain ⟨_, b2, m1, m2, m3, m4⟩ := Mv.store (w2 := w2) hm.rl hen' hfz hp hu hl hy hown hfree r2 r3 r4 r5 r6 (by rw [r7, hn]) (fun j => by rw [r8 j]; simp)
        refine ⟨[], _, e, OpOk.skip (b' := b2) ?_ (hm.trans m1) (fun l h => .inl (by rw [m4, hU] at h; exact h)) ?_⟩
        · obtain ⟨i, f, hti, hf, hfs, _⟩ := szOf_pos hT hs1 (Nat.le_of_ble_eq_true hs2)
          have hsz' : vs.toArray.size = u.τ.size := by simpa using hvl
          simp only [execOp, ho, Sem.run_bind, Instr.storeAt, haddr, Instr.sureAddr, Sem.run_pure, Result.andThen_ok, storeVar, run_sizeOf' hf, hfs, hsz', ne_eq, not_true_eq_false, if_false, hcells, ← hw, r1, m3]
        · rw [updF_append, hh, updF_one, m2]
      · cases e
    · cases e
  · cases e
end
end Ev
end

