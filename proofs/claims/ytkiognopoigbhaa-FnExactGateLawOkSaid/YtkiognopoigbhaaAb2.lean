/- The abstract machine, part 2: the evaluator. It is a plain function on abstract states; nothing is proved here. -/
import Derived.Test.YtkiognopoigbhaaAb1
set_option linter.unusedVariables false
namespace Go.Proofs.Ytkiognopoigbhaa.Ab
open Go Go.RowKit

def lk {α : Type} : List (Nat × α) → Nat → Option α
  | [], _ => none
  | (m, v) :: r, n => cond (Nat.beq n m) (some v) (lk r n)
def rm {α : Type} : List (Nat × α) → Nat → List (Nat × α)
  | [], _ => []
  | (m, v) :: r, n => cond (Nat.beq n m) (rm r n) ((m, v) :: rm r n)

/-- One cell's zero. -/
inductive ZL (Ty : Type) : Type where
  | int (k : IntKind)
  | bool
  | str
  | sli (t : Ty)
  | ptr
  | fnc
  | nk (k : NK)
inductive TK (Ty : Type) : Type where
  | one (z : ZL Ty)
  | agg (fs : List (Nat × Nat × Bool)) (zs : List (ZL Ty))

section
variable {Ty : Type} {C : Ty → Type}
def ZL.lf : ZL Ty → Lf C
  | .int k => .int k 0
  | .bool => .bool false
  | .str => .str ⟨#[]⟩
  | .sli t => .nil t
  | .ptr => .nilp
  | .fnc => .fnc none
  | .nk k => .nilv k
def ZL.val : ZL Ty → Value
  | .int k => .int k 0
  | .bool => .bool false
  | .str => .string ⟨#[]⟩
  | .sli _ => .slice none 0 0
  | .ptr => .pointer none
  | .fnc => .nilFunc
  | .nk k => k.val

structure St (C : Ty → Type) where
  env : List (Nat × SV C)
  objs : List (Nat × Ob C)
  base : Nat

inductive Ex where
  | norm
  | exit (id : Nat)
  | ret

/-- A contract: a function that only reads and hands back what is new. Its results: of each whether it is an aggregate, and its cells. -/
structure Con (C : Ty → Type) where
  R0 : Type
  pt : List (Option Ty) := []
  g : List (SV C) → Option R0
  ret : R0 → List (Bool × List (Lf C))

/-- A contract of a function that may write through what it is handed: each row is the caller's own. g: of the arguments' cells; out: the rows behind the call, in order. -/
structure ConW (C : Ty → Type) where
  R0 : Type
  g : List (Bool × List (Lf C)) → Option R0
  out : R0 → List (Lf C)
  ret : R0 → List (Bool × List (Lf C))

/-- A function whose code is run in place: the arguments, the state with what the caller holds put by; then on with the results. -/
structure Inl (C : Ty → Type) where
  go : (R : Type) → List (SV C) → St C → (List (Bool × List (Lf C)) → St C → Option R) → Option R

/-- A map's type: keys, values. -/
structure MT (Ty : Type) where
  fl : MK
  kt : Ty
  vt : Ty

structure Cx (C : Ty → Type) where
  K : Cd C
  tk : Nat → Option (TK Ty)
  con : Nat → Option (Con C)
  conw : Nat → Option (ConW C) := fun _ => none
  inl : Nat → Option (Inl C) := fun _ => none
  mp : Nat → Option (MT Ty) := fun _ => none
  meth : Nat → String → Option Nat := fun _ _ => none
  hold : List Nat := []
  off : Nat := 0

def opd (S : St C) : Operand → Option (SV C)
  | .tmp t => lk S.env t
  | .const (.int k n) => some (.one (.int k n))
  | .const (.bool b) => some (.one (.bool b))
  | .const (.string s) => some (.one (.str s))
  | .const (.pointer none) => some (.one .nilp)
  | .const .nilFunc => some (.one (.fnc none))
  | .const .nilIface => some (.one (.nilv .ifc))
  | .const (.map none) => some (.one (.nilv .map))
  | .func f => some (.one (.fnc (some f)))
  | _ => none

/-- An operand whose type is told: a nil slice can be one. -/
def opdT (X : Cx C) (S : St C) (T : TypeId) (x : Operand) : Option (SV C) :=
  match x with
  | .const (.slice none 0 0) => match X.tk T with
    | some (.one (.sli t)) => some (.one (.nil t))
    | _ => none
  | x => opd S x

def St.put (S : St C) (d : Option Tmp) (v : SV C) : St C :=
  match d with
  | some d => { S with env := (d, v) :: S.env }
  | none => S
/-- A slot that holds nothing of use. -/
def St.drop (S : St C) (d : Option Tmp) : St C :=
  match d with
  | some d => { S with env := rm S.env d }
  | none => S
def St.setObj (S : St C) (id : Nat) (ob : Ob C) : St C := { S with objs := (id, ob) :: S.objs }
def St.delObj (S : St C) (id : Nat) : St C := { S with objs := rm S.objs id }

def SV.leaves : SV C → List (Lf C)
  | .one l => [l]
  | .agg ls => ls
  | _ => []

def isAggT (k : TK Ty) : Bool := match k with | .one _ => false | .agg .. => true
def TK.size (k : TK Ty) : Nat := match k with | .one _ => 1 | .agg _ zs => zs.length
def fits (v : SV C) (k : TK Ty) : Bool := Nat.beq v.leaves.length k.size && Nat.ble 1 k.size
/-- So many cells as the type has, as its value. -/
def mkSV (k : TK Ty) (ls : List (Lf C)) : Option (SV C) :=
  match k with
  | .one _ => match ls with
    | l :: _ => some (.one l)
    | [] => none
  | .agg _ zs => cond (Nat.ble zs.length ls.length) (some (.agg (ls.take zs.length))) none

/-- What the cells of an element of an own row read as: its rows are places in it. -/
def inRow (id : Nat) (p : List (Nat × Nat)) (i : Nat) (sh : Bool) : Nat → List (Lf C) → List (Lf C)
  | _, [] => []
  | o, .row t xs :: r => (cond sh (.row t xs) (.ref id (p ++ [(i, o)]))) :: inRow id p i sh (o + 1) r
  | o, l :: r => l :: inRow id p i sh (o + 1) r

/-- The own row's content at a path. -/
def path (K : Cd C) : List (Nat × Nat) → (t : Ty) → List (C t) → {α : Type} → ((t : Ty) → List (C t) → Option α) → Option α
  | [], t, xs, _, k => k t xs
  | (i, o) :: p, t, xs, _, k => Option.bind xs[i]? fun x => match (K.enc t x)[o]? with
    | some (.row t' ys) => path K p t' ys k
    | _ => none

def Sli (S : St C) (X : Cx C) (l : Lf C) {α : Type} (k : (t : Ty) → List (C t) → Option α) : Option α :=
  match l with
  | .row t xs => k t xs
  | .nil t => k t []
  | .ref id p => match lk S.objs id with
    | some (.row t xs _) => path X.K p t xs k
    | _ => none
  | _ => none

/-- The cells from an address on. -/
def cellsAt (X : Cx C) (S : St C) (a : Lf C) {α : Type} (k : List (Lf C) → Option α) : Option α :=
  match a with
  | .ptr id off => match lk S.objs id with
    | some (.box .mem ls) => k (ls.drop off)
    | _ => none
  | .elt t x o => k ((X.K.enc t x).drop o)
  | .ep id p i o => match lk S.objs id with
    | some (.row t xs sh) => path X.K p t xs fun t' ys => Option.bind ys[i]? fun x => k ((inRow id p i (cond p.isEmpty sh false) 0 (X.K.enc t' x)).drop o)
    | _ => none
  | _ => none

def setAt {α : Type} : List α → Nat → List α → List α
  | l, _, [] => l
  | l, o, v :: r => setAt (l.set o v) (o + 1) r

/-- Cells that are to lie in an element: an own row moves in; what is read stays shared. -/
def absorb (S : St C) : List (Lf C) → Option (List (Lf C) × St C × Bool)
  | [] => some ([], S, false)
  | .ref id [] :: r => match lk S.objs id with
    | some (.row t xs false) => match absorb (S.delObj id) r with
      | some (r', S', b) => some (.row t xs :: r', S', b)
      | none => none
    | _ => none
  | .nil t :: r => match absorb S r with
    | some (r', S', b) => some (.row t [] :: r', S', b)
    | none => none
  | .row t xs :: r => match absorb S r with
    | some (r', S', _) => some (.row t xs :: r', S', true)
    | none => none
  | .int k n :: r => match absorb S r with
    | some (r', S', b) => some (.int k n :: r', S', b)
    | none => none
  | .bool c :: r => match absorb S r with
    | some (r', S', b) => some (.bool c :: r', S', b)
    | none => none
  | .str s :: r => match absorb S r with
    | some (r', S', b) => some (.str s :: r', S', b)
    | none => none
  | .fnc s :: r => match absorb S r with
    | some (r', S', b) => some (.fnc s :: r', S', b)
    | none => none
  | _ => none

/-- A value as a callee that only reads sees it. -/
def viewL (S : St C) : Lf C → Option (Lf C)
  | .ref id [] => match lk S.objs id with
    | some (.row t xs _) => some (.row t xs)
    | _ => none
  | .nil t => some (.row t [])
  | .row t xs => some (.row t xs)
  | .int k n => some (.int k n)
  | .bool b => some (.bool b)
  | .str s => some (.str s)
  | .fnc f => some (.fnc f)
  | _ => none
def viewLs (S : St C) : List (Lf C) → Option (List (Lf C))
  | [] => some []
  | l :: r => match viewL S l with
    | some l' => match viewLs S r with
      | some r' => some (l' :: r')
      | none => none
    | none => none
def viewV (S : St C) : SV C → Option (SV C)
  | .one l => match viewL S l with
    | some l' => some (.one l')
    | none => none
  | .agg ls => match viewLs S ls with
    | some ls' => some (.agg ls')
    | none => none
  | _ => none

/-- New rows get numbers: the cell's place, counted from the first. -/
def intern (id : Nat) : List (Lf C) → List (Lf C) × List (Nat × Ob C)
  | [] => ([], [])
  | .row t xs :: r => (.ref id [] :: (intern (id + 1) r).1, (id, .row t xs false) :: (intern (id + 1) r).2)
  | l :: r => (l :: (intern (id + 1) r).1, (intern (id + 1) r).2)
def internAll (id : Nat) : List (Bool × List (Lf C)) → List (Bool × List (Lf C)) × List (Nat × Ob C)
  | [] => ([], [])
  | (b, ls) :: r => ((b, (intern id ls).1) :: (internAll (id + ls.length) r).1, (intern id ls).2 ++ (internAll (id + ls.length) r).2)
def toSV (l : List (Bool × List (Lf C))) : Option (SV C) :=
  match l with
  | [(false, [l])] => some (.one l)
  | [(true, ls)] => some (.agg ls)
  | [_] => none
  | vs => some (.tup vs)

def oneL : SV C → Option (Lf C)
  | .one l => some l
  | _ => none

def slt (a b : ByteArray) : Bool := Go.Op.bytesLess a.toList b.toList
def sbt (s : ByteArray) (i : Int) : Int := match s[i.toNat]? with
  | some b => (b.toNat : Int)
  | none => 0

def cmpI (op : BinOp) (a b : Int) : Option Bool :=
  match op with
  | .eql => some (a == b)
  | .neq => some (a != b)
  | .lss => some (decide (a < b))
  | .leq => some (decide (a ≤ b))
  | .gtr => some (decide (a > b))
  | .geq => some (decide (a ≥ b))
  | _ => none
def cmpS (op : BinOp) (a b : ByteArray) : Option Bool :=
  match op with
  | .eql => some (decide (a = b))
  | .neq => some (!decide (a = b))
  | .lss => some (slt a b)
  | .geq => some (!slt a b)
  | .gtr => some (slt b a)
  | .leq => some (!slt b a)
  | _ => none
def arI (op : BinOp) (k : IntKind) (a b : Int) : Option Int :=
  match op with
  | .add => some (k.wrap (a + b))
  | .sub => some (k.wrap (a - b))
  | .mul => some (k.wrap (a * b))
  | _ => none

def isNilP : Lf C → Option Bool
  | .nilp => some true
  | .ptr .. => some false
  | .ep .. => some false
  | .elt .. => some false
  | _ => none
def binL (tk : Option (TK Ty)) (op : BinOp) (x y : SV C) {α : Type} (k : SV C → Option α) : Option α :=
  match x, y with
  | .one (.int ka a), .one (.int kb b) => cond (decide (ka = kb)) (match cmpI op a b with
    | some c => k (.one (.bool c))
    | none => match arI op ka a b with
      | some n => k (.one (.int ka n))
      | none => cond (decide (b = 0)) none (match op with
        | .quo => k (.one (.int ka (ka.wrap (a.tdiv b))))
        | .rem => k (.one (.int ka (a.tmod b)))
        | _ => none)) none
  | .one (.str a), .one (.str b) => match cmpS op a b with
    | some c => k (.one (.bool c))
    | none => match op with
      | .add => cond (decide ((a.size + b.size : Nat) ≤ 9223372036854775807)) (k (.one (.str (a ++ b)))) none
      | _ => none
  | .one (.bool a), .one (.bool b) => match tk, op with
    | some (.one .bool), .eql => k (.one (.bool (a == b)))
    | some (.one .bool), .neq => k (.one (.bool (!(a == b))))
    | _, _ => none
  | .one x, .one .nilp => match isNilP x, tk, op with
    | some c, some (.one .ptr), .eql => k (.one (.bool c))
    | some c, some (.one .ptr), .neq => k (.one (.bool (!c)))
    | _, _, _ => none
  | _, _ => none

/-- Two ways on that must come to one answer. -/
noncomputable def alt {R : Type} (a b : Option R) : Option R := open Classical in a.bind fun x => b.bind fun y => if x = y then some x else none
/-- Is a slice nil? Of an empty one it is not told. -/
noncomputable def nilq {R : Type} (e : Bool) (a b : Option R) : Option R := cond e (alt a b) b
noncomputable def nilB (tk : Option (TK Ty)) (X : Cx C) (S : St C) (op : BinOp) (x : SV C) {R : Type} (k : SV C → Option R) : Option R :=
  match tk, x with
  | some (.one (.sli _)), .one (.nil _) => match op with
    | .eql => k (.one (.bool true))
    | .neq => k (.one (.bool false))
    | _ => none
  | some (.one (.sli _)), .one l => match op with
    | .eql => Sli S X l fun _ xs => nilq xs.isEmpty (k (.one (.bool true))) (k (.one (.bool false)))
    | .neq => Sli S X l fun _ xs => nilq xs.isEmpty (k (.one (.bool false))) (k (.one (.bool true)))
    | _ => none
  | _, _ => none
def byteOf : List (Lf C) → UInt8
  | .int _ n :: _ => UInt8.ofNat n.toNat
  | _ => 0
/-- Bytes as a text. -/
def strOf (K : Cd C) (t : Ty) (xs : List (C t)) : ByteArray := ⟨(xs.map fun x => byteOf (K.enc t x)).toArray⟩

def addOff : Lf C → Nat → Option (Lf C)
  | .ptr id o, n => some (.ptr id (o + n))
  | .elt t x o, n => some (.elt t x (o + n))
  | .ep id p i o, n => some (.ep id p i (o + n))
  | _, _ => none

/-- The numbers of things in memory that a cell names. -/
def idsL : Lf C → List Nat
  | .ref id _ => [id]
  | .ep id _ _ _ => [id]
  | .ptr id _ => [id]
  | .vo id => [id]
  | _ => []
def idsLs : List (Lf C) → List Nat
  | [] => []
  | l :: r => idsL l ++ idsLs r
def idsT : List (Bool × List (Lf C)) → List Nat
  | [] => []
  | (_, ls) :: r => idsLs ls ++ idsT r
def idsV0 : SV C → List Nat
  | .one l => idsL l
  | .agg ls => idsLs ls
  | .tup vs => idsT vs
  | .hdr id _ => [id]
  | .sus x _ => idsLs x.2
  | _ => []
def idsE0 : List (Nat × SV C) → List Nat
  | [] => []
  | (_, v) :: r => idsV0 v ++ idsE0 r
def idsO : List (Nat × Ob C) → List Nat
  | [] => []
  | (id, .box _ ls) :: r => id :: (idsLs ls ++ idsO r)
  | (id, .row ..) :: r => id :: idsO r
  | (id, .map ..) :: r => id :: idsO r
  | (id, .ghost) :: r => id :: idsO r

/-- Does a cell name a place inside an element's row of this thing? -/
def deepL (id : Nat) : Lf C → Bool
  | .ref i (_ :: _) => Nat.beq i id
  | .ep i (_ :: _) _ _ => Nat.beq i id
  | _ => false
def deepV (id : Nat) : SV C → Bool
  | .sus x _ => x.2.any (deepL id)
  | .one l => deepL id l
  | .agg ls => ls.any (deepL id)
  | .tup vs => vs.any fun x => x.2.any (deepL id)
  | _ => false
def deepO (id : Nat) : Ob C → Bool
  | .box _ ls => ls.any (deepL id)
  | .row .. => false
  | .map .. => false
  | .ghost => false
def undeep (id : Nat) : List (Nat × SV C) → List (Nat × SV C)
  | [] => []
  | (t, v) :: r => cond (deepV id v) (rm (undeep id r) t) ((t, v) :: undeep id r)

def newId (X : Cx C) (o : Oper) : Nat := match o.dst with
  | some d => X.off + 64 * d
  | none => X.off
/-- The state with a new thing in memory, its number unused till now. -/
def St.add (S : St C) (id : Nat) (ob : Ob C) : Option (St C) := cond ((idsE0 S.env ++ idsO S.objs).any (Nat.beq id)) none (some (S.setObj id ob))
def St.addAll (S : St C) : List (Nat × Ob C) → Option (St C)
  | [] => some S
  | (id, ob) :: r => match S.add id ob with
    | some S' => S'.addAll r
    | none => none

/-- The elements of a literal: each part in its place, in order. -/
def elems (X : Cx C) (t : Ty) (S : St C) : Nat → List (Nat × Operand) → Option (List (C t) × St C × Bool)
  | _, [] => some ([], S, false)
  | n, (i, x) :: r => match opdT X S (X.K.tid t) x with
    | some v => match absorb S v.leaves with
      | some (ls, S', b) => match X.K.dec t ls with
        | some e => match elems X t S' (n + 1) r with
          | some (es, S'', b') => cond (Nat.beq i n) (some (e :: es, S'', b || b')) none
          | none => none
        | none => none
      | none => none
    | none => none

def partsOf (X : Cx C) (fs : List (Nat × Nat × Bool)) (S : St C) : List (Nat × Operand) → List (Lf C) → Option (List (Lf C))
  | [], ls => some ls
  | (i, x) :: r, ls => match fs[i]?, opd S x with
    | some (off, n, ag), some v => cond (Nat.beq v.leaves.length n && Nat.ble 1 n) (partsOf X fs S r (setAt ls off v.leaves)) none
    | _, _ => none

/-! ### Function values, interface values, maps -/
def argsI (X : Cx C) (S : St C) : List Operand → List TypeId → Option (List (SV C))
  | [], _ => some []
  | x :: r, ts => match opdT X S (ts.headD 0) x with
    | some (.one l) => match argsI X S r ts.tail with
      | some vs => some (.one l :: vs)
      | none => none
    | some (.agg ls) => match argsI X S r ts.tail with
      | some vs => some (.agg ls :: vs)
      | none => none
    | _ => none
def shOf : List (SV C) → List (Bool × Nat)
  | [] => []
  | .one _ :: r => (false, 1) :: shOf r
  | .agg ls :: r => (true, ls.length) :: shOf r
  | _ :: r => (false, 0) :: shOf r
def leavesOf : List (SV C) → List (Lf C)
  | [] => []
  | v :: r => v.leaves ++ leavesOf r
def unSh : List (Bool × Nat) → List (Lf C) → List (SV C)
  | [], _ => []
  | (b, n) :: r, ls => (cond b (.agg (ls.take n)) (.one (ls.headD .nilp))) :: unSh r (ls.drop n)
def shOk : List (Bool × Nat) → Nat → Bool
  | [], n => Nat.beq n 0
  | (b, m) :: r, n => (b || Nat.beq m 1) && Nat.ble m n && shOk r (n - m)
/-- A function value: the function, what stands before the arguments, what behind. -/
def cloOf {R : Type} (S : St C) (l : Lf C) (k : Nat → List (SV C) → List (SV C) → Option R) : Option R := match l with
  | .fnc (some f) => k f [] []
  | .vo id => match lk S.objs id with
    | some (.box (.clo f n sh) ls) => cond (shOk sh ls.length) (k f ((unSh sh ls).take n) ((unSh sh ls).drop n)) none
    | _ => none
  | _ => none
/-- An interface value: its type, what it holds. -/
def ifcOf {R : Type} (S : St C) (v : Option (SV C)) (k : TypeId → SV C → Option R) : Option R := match v with
  | some (.one (.vo id)) => match lk S.objs id with
    | some (.box (.ifc t sh) ls) => cond (shOk sh ls.length) (match unSh sh ls with
      | [v] => k t v
      | _ => none) none
    | _ => none
  | _ => none
def nilV (S : St C) (tk : Option (TK Ty)) (x y : Lf C) : Option Bool := match tk, y, x with
  | some (.one (.nk .ifc)), .nilv .ifc, .nilv .ifc => some true
  | some (.one (.nk .ifc)), .nilv .ifc, .vo id => match lk S.objs id with
    | some (.box (.ifc ..) _) => some false
    | _ => none
  | some (.one .fnc), .fnc none, .fnc o => some o.isNone
  | some (.one .fnc), .fnc none, .vo id => match lk S.objs id with
    | some (.box (.clo ..) _) => some false
    | _ => none
  | some (.one (.nk .map)), .nilv .map, .nilv .map => some true
  | some (.one (.nk .map)), .nilv .map, .vo id => match lk S.objs id with
    | some (.map ..) => some false
    | _ => none
  | _, _, _ => none
def isZeroC : Operand → Bool
  | .const (.int _ n) => decide (n = 0)
  | _ => false
def isConst : Operand → Bool
  | .const _ => true
  | _ => false
/-- Held against a nil that is typed out. -/
def cmpNil {R : Type} (S : St C) (tk : Option (TK Ty)) (op : BinOp) (x y : SV C) (c : Bool) (k : SV C → Option R) : Option R := match x, y with
  | .one x, .one y => match op, nilV S tk x y, c with
    | .eql, some b, true => k (.one (.bool b))
    | .neq, some b, true => k (.one (.bool (!b)))
    | _, _, _ => none
  | _, _ => none
def isNilK : SV C → Bool
  | .one (.nilv _) => true
  | .one (.fnc none) => true
  | _ => false
def notIfc : TK Ty → Bool
  | .one (.nk .ifc) => false
  | _ => true
def okV : SV C → Bool
  | .one _ => true
  | .agg _ => true
  | _ => false
/-- Why a thing that is checked for nil is none. -/
def liveV (S : St C) : SV C → Bool
  | .one (.fnc (some _)) => true
  | .one (.vo id) => match lk S.objs id with
    | some (.box (.clo ..) _) => true
    | some (.box (.ifc ..) _) => true
    | _ => false
  | _ => false

/-- A value as a callee that only reads sees it; a pointer to memory of its own type t. -/
def viewLX (X : Cx C) (S : St C) (l : Lf C) : Option (Lf C) := match l with
  | .ref id (s :: p) => Sli S X (.ref id (s :: p)) fun t xs => some (.row t xs)
  | l => viewL S l
def viewLXs (X : Cx C) (S : St C) : List (Lf C) → Option (List (Lf C))
  | [] => some []
  | l :: r => match viewLX X S l with
    | some l' => match viewLXs X S r with
      | some r' => some (l' :: r')
      | none => none
    | none => none
def viewP (X : Cx C) (S : St C) (pt : Option Ty) (v : SV C) : Option (SV C) := match pt, v with
  | none, v => viewV S v
  | some t, .one l => cellsAt X S l fun ls => match viewLXs X S (ls.take (X.K.sz t)) with
    | some ls' => match X.K.dec t ls' with
      | some x => some (.one (.elt t x 0))
      | none => none
    | none => none
  | _, _ => none
def views (X : Cx C) (S : St C) : List (Option Ty) → List (SV C) → Option (List (SV C))
  | _, [] => some []
  | pt, v :: r => match viewP X S (pt.headD none) v with
    | some v' => match views X S pt.tail r with
      | some r' => some (v' :: r')
      | none => none
    | none => none
def argsC (X : Cx C) (S : St C) (pt : List (Option Ty)) (pre : List (SV C)) (as : List Operand) (ts : List TypeId) (post : List (SV C)) : Option (List (SV C)) := match argsI X S as ts with
  | some vs => views X S pt (pre ++ (vs ++ post))
  | none => none
def callC {R : Type} (X : Cx C) (c : Con C) (S : St C) (pre : List (SV C)) (as : List Operand) (ts : List TypeId) (post : List (SV C)) (o : Oper) (k : St C → Option R) : Option R := match argsC X S c.pt pre as ts post with
  | some vs => Option.bind (c.g vs) fun r => match internAll (newId X o) (c.ret r) with
    | (rs, news) => match toSV rs, S.addAll news with
      | some v, some S' => k (S'.put o.dst v)
      | _, _ => none
  | none => none

def keyEq : Lf C → Lf C → Bool
  | .int _ a, .int _ b => decide (a = b)
  | .str a, .str b => decide (a = b)
  | .bool a, .bool b => a == b
  | _, _ => false
def keysEq : List (Lf C) → List (Lf C) → Bool
  | [], [] => true
  | [a], [b] => keyEq a b
  | a :: r, b :: s => keyEq a b && keysEq r s
  | _, _ => false
def mget (K : Cd C) (kt vt : Ty) (x : C kt) : List (Nat × C kt × C vt) → Option (Nat × C kt × C vt)
  | [] => none
  | e :: r => cond (keysEq (K.enc kt e.2.1) (K.enc kt x)) (some e) (mget K kt vt x r)
def mhas (K : Cd C) (kt vt : Ty) (x : C kt) (xs : List (Nat × C kt × C vt)) : Bool := (mget K kt vt x xs).isSome
def mval (K : Cd C) (kt vt : Ty) (x : C kt) (xs : List (Nat × C kt × C vt)) : C vt := match mget K kt vt x xs with
  | some e => e.2.2
  | none => K.zero vt
def mput (K : Cd C) (kt vt : Ty) (x : C kt) (y : C vt) (clock : Nat) : List (Nat × C kt × C vt) → List (Nat × C kt × C vt)
  | [] => [(clock, x, y)]
  | e :: r => cond (keysEq (K.enc kt e.2.1) (K.enc kt x)) ((e.1, x, y) :: r) (e :: mput K kt vt x y clock r)
def mclk (K : Cd C) (kt vt : Ty) (x : C kt) (clock : Nat) (xs : List (Nat × C kt × C vt)) : Nat := cond (mhas K kt vt x xs) clock (clock + 1)
def mdel (K : Cd C) (kt vt : Ty) (x : C kt) : List (Nat × C kt × C vt) → List (Nat × C kt × C vt)
  | [] => []
  | e :: r => cond (keysEq (K.enc kt e.2.1) (K.enc kt x)) r (e :: mdel K kt vt x r)
/-- A look-up that branches over the entries. -/
def mbr {R : Type} (K : Cd C) (kt vt : Ty) (x : C kt) (yes : C vt → Option R) (no : Option R) : List (Nat × C kt × C vt) → Option R
  | [] => no
  | e :: r => cond (keysEq (K.enc kt e.2.1) (K.enc kt x)) (yes e.2.2) (mbr K kt vt x yes no r)
def mkEq (a b : MK) : Bool := (a.kag == b.kag) && (a.vag == b.vag) && (a.un == b.un) && (a.br == b.br)
def aggV : SV C → Bool
  | .agg _ => true
  | _ => false
/-- A map's content and the key. -/
def mapAt [DecidableEq Ty] {R : Type} (X : Cx C) (S : St C) (m : MT Ty) (l : Lf C) (key : SV C) (k : (kt vt : Ty) → C kt → List (Nat × C kt × C vt) → Nat → Option R) : Option R := cond (okV key && (aggV key == m.fl.kag)) (match l with
  | .nilv .map => match X.K.dec m.kt key.leaves with
    | some x => k m.kt m.vt x [] 0
    | none => none
  | .vo id => match lk S.objs id with
    | some (.map mk kt vt xs c) => cond (decide (kt = m.kt) && decide (vt = m.vt) && mkEq mk m.fl) (match X.K.dec kt key.leaves with
      | some x => k kt vt x xs c
      | none => none) none
    | _ => none
  | _ => none) none
def mvalT (X : Cx C) (mk : MK) (vt : Ty) (y : C vt) : Bool × List (Lf C) := cond mk.un (true, []) (mk.vag, X.K.enc vt y)
def unTup0 (x : Bool × List (Lf C)) : SV C := match x with
  | (true, ls) => .agg ls
  | (false, ls) => .one (ls.headD .nilp)
def lookB [DecidableEq Ty] {R : Type} (X : Cx C) (S : St C) (m : MT Ty) (l : Lf C) (key : SV C) (ok : Bool) (k : SV C → Option R) : Option R :=
  mapAt X S m l key fun kt vt x xs _ => cond ok
    (mbr X.K kt vt x (fun y => k (.tup [mvalT X m.fl vt y, (false, [.bool true])])) (k (.tup [mvalT X m.fl vt (X.K.zero vt), (false, [.bool false])])) xs)
    (mbr X.K kt vt x (fun y => k (unTup0 (mvalT X m.fl vt y))) (k (unTup0 (mvalT X m.fl vt (X.K.zero vt)))) xs)
def lookV [DecidableEq Ty] {R : Type} (X : Cx C) (S : St C) (m : MT Ty) (l : Lf C) (key : SV C) (ok : Bool) (k : SV C → Option R) : Option R :=
  mapAt X S m l key fun kt vt x xs _ => cond ok
    (k (.tup [mvalT X m.fl vt (mval X.K kt vt x xs), (false, [.bool (mhas X.K kt vt x xs)])]))
    (k (unTup0 (mvalT X m.fl vt (mval X.K kt vt x xs))))
def upd1 [DecidableEq Ty] {R : Type} (X : Cx C) (S : St C) (m : MT Ty) (l : Lf C) (key v : SV C) (k : St C → Option R) : Option R := match l with
  | .vo id => mapAt X S m (.vo id) key fun kt vt x xs c => cond (okV v && (aggV v == (m.fl.un || m.fl.vag)) && (!m.fl.un || v.leaves.isEmpty)) (match cond m.fl.un (some (X.K.zero vt)) (X.K.dec vt v.leaves) with
    | some y => k (S.setObj id (.map m.fl kt vt (mput X.K kt vt x y c xs) (mclk X.K kt vt x c xs)))
    | none => none) none
  | _ => none
def del1 [DecidableEq Ty] {R : Type} (X : Cx C) (S : St C) (m : MT Ty) (l : Lf C) (key : SV C) (k : St C → Option R) : Option R := match l with
  | .vo id => mapAt X S m (.vo id) key fun kt vt x xs c => k (S.setObj id (.map m.fl kt vt (mdel X.K kt vt x xs) c))
  | _ => none

def castT [DecidableEq Ty] (t t' : Ty) (xs : List (C t)) : Option (List (C t')) := match decEq t t' with
  | isTrue h => some (h ▸ xs)
  | isFalse _ => none
def delO (S : St C) : Option Nat → St C
  | some id => S.delObj id
  | none => S
/-- Behind an append: the old row and the handed row are gone, the new one has a number of its own. -/
def apnd [DecidableEq Ty] {R : Type} (X : Cx C) (o : Oper) (S : St C) (t t0 t1 : Ty) (xs : List (C t0)) (ys : List (C t1)) (id0 id1 : Option Nat) (sh : Bool) (k : St C → Option R) : Option R :=
  match castT t0 t xs, castT t1 t ys with
  | some xs, some ys => cond (decide ((xs.length + ys.length) * X.K.bytes t ≤ 140737488355328)) (match St.add (delO (delO S id0) id1) (newId X o) (.row t (xs ++ ys) (cond (X.K.flat t) false sh)) with
    | some S' => k (S'.put o.dst (.one (.ref (newId X o) [])))
    | none => none) none
  | _, _ => none

/-! ### Own rows handed to a function that writes through them -/
abbrev Tgt := Option (Nat × List (Nat × Nat))
def ownL {R : Type} (X : Cx C) (S : St C) (l : Lf C) (k : Lf C → Tgt → Option R) : Option R :=
  match l with
  | .ref id p => match lk S.objs id with
    | some (.row t xs false) => path X.K p t xs fun t' zs => k (.row t' zs) (some (id, p))
    | _ => none
  | .nil t => k (.row t []) none
  | .int ki n => k (.int ki n) none
  | .bool b => k (.bool b) none
  | .str s => k (.str s) none
  | _ => none
def ownLs {R : Type} (X : Cx C) (S : St C) : List (Lf C) → (List (Lf C) → List Tgt → Option R) → Option R
  | [], k => k [] []
  | l :: r, k => ownL X S l fun l' t => ownLs X S r fun r' ts => k (l' :: r') (t :: ts)
def ownAll {R : Type} (X : Cx C) (S : St C) : List Operand → List TypeId → (List (Bool × List (Lf C)) → List Tgt → Option R) → Option R
  | [], _, k => k [] []
  | x :: r, ts, k => match opdT X S (ts.headD 0) x with
    | some (.one l) => ownLs X S [l] fun ls t => ownAll X S r ts.tail fun rs t' => k ((false, ls) :: rs) (t ++ t')
    | some (.agg ls) => ownLs X S ls fun ls t => ownAll X S r ts.tail fun rs t' => k ((true, ls) :: rs) (t ++ t')
    | _ => none
def tids : List Tgt → List Nat
  | [] => []
  | some (id, _) :: r => id :: tids r
  | none :: r => tids r
/-- Does a cell name a place in one of these? -/
def touchL (ids : List Nat) : Lf C → Bool
  | .ref i (_ :: _) => ids.any (Nat.beq i)
  | .ep i _ _ _ => ids.any (Nat.beq i)
  | _ => false
def touchV (ids : List Nat) : SV C → Bool
  | .sus x _ => x.2.any (touchL ids)
  | .one l => touchL ids l
  | .agg ls => ls.any (touchL ids)
  | .tup vs => vs.any fun x => x.2.any (touchL ids)
  | _ => false
def untouch (ids : List Nat) : List (Nat × SV C) → List (Nat × SV C)
  | [] => []
  | (t, v) :: r => cond (touchV ids v) (rm (untouch ids r) t) ((t, v) :: untouch ids r)
def touchO (ids : List Nat) : Ob C → Bool
  | .box _ ls => ls.any (touchL ids)
  | .row .. => false
  | .map .. => false
  | .ghost => false
/-- The row with another one at a path. -/
def setPath [DecidableEq Ty] {R : Type} (K : Cd C) : List (Nat × Nat) → (t : Ty) → List (C t) → Lf C → (List (C t) → Option R) → Option R
  | [], t, _, .row t' ys, k => match castT t' t ys with
    | some ys => k ys
    | none => none
  | (i, o) :: p, t, xs, l, k => Option.bind xs[i]? fun x => match (K.enc t x)[o]? with
    | some (.row t' ys) => setPath K p t' ys l fun ys' => match K.dec t ((K.enc t x).set o (.row t' ys')) with
      | some y => k (xs.set i y)
      | none => none
    | _ => none
  | _, _, _, _, _ => none
def putAll [DecidableEq Ty] {R : Type} (K : Cd C) : List (Lf C) → List Tgt → List (Lf C) → St C → (St C → Option R) → Option R
  | [], [], [], S, k => k S
  | .row _ _ :: ls, some (id, p) :: ts, l :: os, S, k => match lk S.objs id with
    | some (.row t xs false) => setPath K p t xs l fun xs' => putAll K ls ts os (S.setObj id (.row t xs' false)) k
    | _ => none
  | .row _ _ :: ls, none :: ts, _ :: os, S, k => putAll K ls ts os S k
  | .int _ _ :: ls, none :: ts, os, S, k => putAll K ls ts os S k
  | .bool _ :: ls, none :: ts, os, S, k => putAll K ls ts os S k
  | .str _ :: ls, none :: ts, os, S, k => putAll K ls ts os S k
  | _, _, _, _, _ => none

def flatten : List (Bool × List (Lf C)) → List (Lf C)
  | [] => []
  | x :: r => x.2 ++ flatten r
def nodupB : List Nat → Bool
  | [] => true
  | n :: r => (!r.any (Nat.beq n)) && nodupB r

def callW [DecidableEq Ty] {R : Type} (X : Cx C) (S : St C) (f : Nat) (as : List Operand) (ts : List TypeId) (o : Oper) (k : St C → Option R) : Option R :=
  match X.conw f with
  | some c' => ownAll X S as ts fun vs ts => cond (nodupB (tids ts) && !(S.objs.any fun x => touchO (tids ts) x.2))
    (Option.bind (c'.g vs) fun r => putAll X.K (flatten vs) ts (c'.out r) { S with env := untouch (tids ts) S.env } fun S' => match internAll (newId X o) (c'.ret r) with
      | (rs, news) => match toSV rs, S'.addAll news with
        | some v, some S'' => k (S''.put o.dst v)
        | _, _ => none) none
  | none => none

/-! ### Code run in place -/
/-- What the caller holds, put by: slot t lies at t + 1000. -/
def suspE (b : Nat) : List (Nat × SV C) → List (Nat × SV C)
  | [] => []
  | (t, .one l) :: r => (t + 1000, .sus (false, [l]) (b + 1000 + t)) :: suspE b r
  | (t, .agg ls) :: r => (t + 1000, .sus (true, ls) (b + 1000 + t)) :: suspE b r
  | (t, .hdr id j) :: r => (t + 1000, .hdr id j) :: suspE b r
  | (t, .frame) :: r => (t + 1000, .frame) :: suspE b r
  | (t, .sus x j) :: r => (t + 1000, .sus x j) :: suspE b r
  | (t, _) :: r => rm (suspE b r) (t + 1000)
def suspOk (b : Nat) : List (Nat × SV C) → Bool
  | [] => true
  | (_, .hdr _ j) :: r => Nat.blt j (b + 1000) && suspOk b r
  | (_, .sus _ j) :: r => Nat.blt j (b + 1000) && suspOk b r
  | _ :: r => suspOk b r
def susp (S : St C) : St C := { env := suspE S.base S.env, objs := S.objs, base := S.base + 1000 }
def unTup (x : Bool × List (Lf C)) : SV C := match x with
  | (false, [l]) => .one l
  | (_, ls) => .agg ls
def resuE (b : Nat) : List (Nat × SV C) → List (Nat × SV C)
  | [] => []
  | (t, .sus x j) :: r => cond (Nat.ble 1000 t) (cond (Nat.beq j (b + t)) ((t - 1000, unTup x) :: resuE b r) (cond (Nat.blt j (b + 1000)) ((t - 1000, .sus x j) :: resuE b r) (rm (resuE b r) (t - 1000)))) (resuE b r)
  | (t, .hdr id j) :: r => cond (Nat.ble 1000 t) (cond (Nat.blt j (b + 1000)) ((t - 1000, .hdr id j) :: resuE b r) (rm (resuE b r) (t - 1000))) (resuE b r)
  | (t, .frame) :: r => cond (Nat.ble 1000 t) ((t - 1000, .frame) :: resuE b r) (resuE b r)
  | (t, _) :: r => rm (resuE b r) (t - 1000)
def resu (b : Nat) (S : St C) : St C := { env := resuE b S.env, objs := S.objs, base := b }
/-- What is kept for others. -/
def ghostsE : List (Nat × SV C) → List (Nat × SV C)
  | [] => []
  | (t, .sus x j) :: r => (t, .sus x j) :: rm (ghostsE r) t
  | (t, .hdr id j) :: r => (t, .hdr id j) :: rm (ghostsE r) t
  | (t, .frame) :: r => (t, .frame) :: rm (ghostsE r) t
  | (t, _) :: r => rm (ghostsE r) t
def tidyE (env : List (Nat × SV C)) : List Nat → List (Nat × SV C)
  | [] => []
  | t :: r => match lk env t with
    | some v => (t, v) :: tidyE env r
    | none => tidyE env r
/-- What is read later, and what is kept for others. -/
def liveE (env : List (Nat × SV C)) (keep : List Nat) : List (Nat × SV C) := tidyE env keep ++ ghostsE env
def St.tidy (S : St C) (keep : List Nat) : St C := { S with env := liveE S.env keep }
/-! ### A state laid out plainly (so that the kernel does not carry what is not reckoned yet) -/
def forceI {R : Type} (n : Nat) (k : Nat → R) : R := match n with
  | 0 => k 0
  | m + 1 => k (m + 1)
theorem forceI_eq {R : Type} (n : Nat) (k : Nat → R) : forceI n k = k n := by cases n <;> rfl
def forceL {R : Type} (l : Lf C) (k : Lf C → R) : R := match l with
  | .int a b => k (.int a b)
  | .bool b => k (.bool b)
  | .str s => k (.str s)
  | .row t xs => k (.row t xs)
  | .nil t => k (.nil t)
  | .nilp => k .nilp
  | .ptr a b => forceI a fun a => k (.ptr a b)
  | .elt t x o => k (.elt t x o)
  | .ref a p => forceI a fun a => k (.ref a p)
  | .ep a p i o => forceI a fun a => k (.ep a p i o)
  | .fnc f => k (.fnc f)
  | .nilv n => k (.nilv n)
  | .vo a => forceI a fun a => k (.vo a)
def forceLs {R : Type} : List (Lf C) → (List (Lf C) → R) → R
  | [], k => k []
  | l :: r, k => forceL l fun l' => forceLs r fun r' => k (l' :: r')
def forceV {R : Type} (v : SV C) (k : SV C → R) : R := match v with
  | .one l => forceL l fun l' => k (.one l')
  | .agg ls => forceLs ls fun ls' => k (.agg ls')
  | .tup vs => k (.tup vs)
  | .und => k .und
  | .hdr a j => k (.hdr a j)
  | .frame => k .frame
  | .sus (b, ls) j => forceLs ls fun ls' => k (.sus (b, ls') j)
def forceVs {R : Type} : List (SV C) → (List (SV C) → R) → R
  | [], k => k []
  | v :: r, k => forceV v fun v' => forceVs r fun r' => k (v' :: r')
def forceE {R : Type} : List (Nat × SV C) → (List (Nat × SV C) → R) → R
  | [], k => k []
  | (t, v) :: r, k => forceV v fun v' => forceE r fun r' => k ((t, v') :: r')
def forceO {R : Type} : List (Nat × Ob C) → (List (Nat × Ob C) → R) → R
  | [], k => k []
  | (t, .box kd ls) :: r, k => forceI t fun t => forceLs ls fun ls' => forceO r fun r' => k ((t, .box kd ls') :: r')
  | (t, .row a xs sh) :: r, k => forceI t fun t => forceO r fun r' => k ((t, .row a xs sh) :: r')
  | (t, .map a b c d e) :: r, k => forceI t fun t => forceO r fun r' => k ((t, .map a b c d e) :: r')
  | (t, .ghost) :: r, k => forceI t fun t => forceO r fun r' => k ((t, .ghost) :: r')
def forceN {R : Type} (n : Nat) (k : Nat → R) : R :=
  cond (Nat.beq n 0) (k 0) (cond (Nat.beq n 1000) (k 1000) (cond (Nat.beq n 2000) (k 2000) (cond (Nat.beq n 3000) (k 3000)
    (cond (Nat.beq n 4000) (k 4000) (k n)))))
theorem condN {R : Type} (n m : Nat) (k : Nat → R) (r : R) (h : r = k n) : cond (Nat.beq n m) (k m) r = k n := by
  cases hb : Nat.beq n m with
  | true => have := Nat.eq_of_beq_eq_true hb; subst this; rfl
  | false => exact h
theorem forceN_eq {R : Type} (n : Nat) (k : Nat → R) : forceN n k = k n :=
  condN _ _ _ _ (condN _ _ _ _ (condN _ _ _ _ (condN _ _ _ _ (condN _ _ _ _ rfl))))
def forceS {R : Type} (S : St C) (k : St C → R) : R := forceN S.base fun b => forceE S.env fun e => forceO S.objs fun o => k ⟨e, o, b⟩
theorem forceL_eq {R : Type} (l : Lf C) (k : Lf C → R) : forceL l k = k l := by cases l <;> simp only [forceL, forceI_eq]
theorem forceLs_eq {R : Type} : ∀ (l : List (Lf C)) (k : List (Lf C) → R), forceLs l k = k l
  | [], _ => rfl
  | l :: r, k => by rw [forceLs, forceL_eq, forceLs_eq r]
theorem forceV_eq {R : Type} (v : SV C) (k : SV C → R) : forceV v k = k v := by
  cases v with
  | one l => exact forceL_eq l fun l' => k (.one l')
  | agg ls => exact forceLs_eq ls fun ls' => k (.agg ls')
  | sus x j => obtain ⟨b, ls⟩ := x; exact forceLs_eq ls fun ls' => k (.sus (b, ls') j)
  | _ => rfl
theorem forceVs_eq {R : Type} : ∀ (l : List (SV C)) (k : List (SV C) → R), forceVs l k = k l
  | [], _ => rfl
  | v :: r, k => by rw [forceVs, forceV_eq, forceVs_eq r]
theorem forceE_eq {R : Type} : ∀ (l : List (Nat × SV C)) (k : List (Nat × SV C) → R), forceE l k = k l
  | [], _ => rfl
  | (t, v) :: r, k => by rw [forceE, forceV_eq, forceE_eq r]
theorem forceO_eq {R : Type} : ∀ (l : List (Nat × Ob C)) (k : List (Nat × Ob C) → R), forceO l k = k l
  | [], _ => rfl
  | (t, .box kd ls) :: r, k => by rw [forceO, forceI_eq, forceLs_eq, forceO_eq r]
  | (t, .row a xs sh) :: r, k => by rw [forceO, forceI_eq, forceO_eq r]
  | (t, .map a b c d e) :: r, k => by rw [forceO, forceI_eq, forceO_eq r]
  | (t, .ghost) :: r, k => by rw [forceO, forceI_eq, forceO_eq r]
theorem forceS_eq {R : Type} (S : St C) (k : St C → R) : forceS S k = k S := by rw [forceS, forceN_eq, forceE_eq, forceO_eq]

def callI {R : Type} (X : Cx C) (S : St C) (f : Nat) (pre : List (SV C)) (as : List Operand) (ts : List TypeId) (post : List (SV C)) (o : Oper) (k : St C → Option R) : Option R :=
  match X.inl f with
  | some I => match argsI X S as ts with
    | some vs => cond (suspOk S.base S.env) (forceVs (pre ++ (vs ++ post)) fun vs' => forceS (susp (S.tidy X.hold)) fun S1 => I.go R vs' S1 (fun rs S' => match toSV rs with
      | some v => k ((resu S.base S').put o.dst v)
      | none => none)) none
    | none => none
  | none => none
def callF {R : Type} (X : Cx C) (S : St C) (f : Nat) (pre : List (SV C)) (as : List Operand) (ts : List TypeId) (post : List (SV C)) (o : Oper) (k : St C → Option R) : Option R :=
  match X.con f with
  | some c => callC X c S pre as ts post o k
  | none => callI X S f pre as ts post o k

/-- A bound of a slice expression. -/
def bnd (S : St C) (n : Nat) : Option Operand → Option Int
  | none => some n
  | some x => match opd S x with
    | some (.one (.int _ m)) => some m
    | _ => none

noncomputable def ev [DecidableEq Ty] {R : Type} (X : Cx C) (o : Oper) (S : St C) (k : St C → Option R) : Option R :=
  match o.op with
  | .move x | .assign x => match opdT X S o.type x with
    | some v => k (S.put o.dst v)
    | none => none
  | .pick c a b => match opd S c, opd S a, opd S b with
    | some (.one (.bool c)), some (.one (.bool x)), some (.one (.bool y)) => k (S.put o.dst (.one (.bool (cond c x y))))
    | some (.one (.bool true)), some v, _ => k (S.put o.dst v)
    | some (.one (.bool false)), _, some v => k (S.put o.dst v)
    | _, _, _ => none
  | .box e x => match opd S x, X.tk e with
    | some v, some tk => cond (fits v tk) (match S.add (newId X o) (.box .mem v.leaves) with
      | some S' => k (S'.put o.dst (.one (.ptr (newId X o) 0)))
      | none => none) none
    | _, _ => none
  | .alloc e => match X.tk e with
    | some (.one z) => match S.add (newId X o) (.box .mem [z.lf]) with
      | some S' => k (S'.put o.dst (.one (.ptr (newId X o) 0)))
      | none => none
    | some (.agg _ zs) => match S.add (newId X o) (.box .mem (zs.map ZL.lf)) with
      | some S' => k (S'.put o.dst (.one (.ptr (newId X o) 0)))
      | none => none
    | none => none
  | .build t parts => match X.tk t with
    | some (.agg fs zs) => match partsOf X fs S parts.toList (zs.map ZL.lf) with
      | some ls => cond (fs.all fun f => Nat.ble (f.1 + f.2.1) zs.length) (k (S.put o.dst (.agg ls))) none
      | none => none
    | _ => none
  | .buildSlice t n parts => match X.tk t with
    | some (.one (.sli t)) => match elems X t S 0 parts.toList with
      | some (es, S', b) => cond (Nat.beq es.length n && Nat.ble (n * X.K.sz t) 16777216) (match S'.add (newId X o) (.row t es (cond (X.K.flat t) false b)) with
        | some S'' => k (S''.put o.dst (.one (.ref (newId X o) [])))
        | none => none) none
      | none => none
    | _ => none
  | .load t a => match X.tk t, opd S a with
    | some tk, some (.one l) => cellsAt X S l fun ls => match mkSV tk ls with
      | some v => k (S.put o.dst v)
      | none => none
    | _, _ => none
  | .store t a x => match X.tk t, opd S a, opdT X S t x with
    | some tk, some (.one (.ptr id off)), some v => cond (fits v tk) (match lk S.objs id with
      | some (.box .mem ls) => cond (Nat.ble (off + tk.size) ls.length) (k ((S.setObj id (.box .mem (setAt ls off v.leaves))).drop o.dst)) none
      | _ => none) none
    | some tk, some (.one (.ep id [] i off)), some v => cond (fits v tk) (match absorb S v.leaves with
      | some (ls, S', b) => match lk S'.objs id with
        | some (.row t xs sh) => cond (b && !sh) none (Option.bind xs[i]? fun x => match X.K.dec t (setAt (X.K.enc t x) off ls) with
          | some y => cond (Nat.ble (off + tk.size) (X.K.sz t)) (cond (S'.objs.any fun x => deepO id x.2) none (k (({ S'.setObj id (.row t (xs.set i y) sh) with env := undeep id S'.env }).drop o.dst))) none
          | none => none)
        | _ => none
      | none => none) none
    | _, _, _ => none
  | .nilCheck x => match opd S x with
    | some (.one (.ptr id off)) => k (S.put o.dst (.one (.ptr id off)))
    | some (.one (.elt t x off)) => k (S.put o.dst (.one (.elt t x off)))
    | some (.one (.ep id p i off)) => k (S.put o.dst (.one (.ep id p i off)))
    | some v => cond (liveV S v) (k (S.put o.dst v)) none
    | none => none
  | .binOp op t x y t' => match opdT X S t x, opdT X S t' y with
    | some a, some (.one (.nil _)) => nilB (X.tk t) X S op a fun v => k (S.put o.dst v)
    | some a, some b => cond (isNilK b) (cmpNil S (X.tk t) op a b (isConst y) fun v => k (S.put o.dst v)) (binL (X.tk t) op a b fun v => k (S.put o.dst v))
    | _, _ => none
  | .unOp op t x => match op, opd S x with
    | .not, some (.one (.bool b)) => k (S.put o.dst (.one (.bool (!b))))
    | .neg, some (.one (.int ki n)) => k (S.put o.dst (.one (.int ki (ki.wrap (0 - n)))))
    | _, _ => none
  | .convert t t' x => match X.tk t, X.tk t', opd S x with
    | some _, some (.one (.int k')), some (.one (.int _ n)) => k (S.put o.dst (.one (.int k' (k'.wrap n))))
    | some _, some (.one .str), some (.one (.str s)) => k (S.put o.dst (.one (.str s)))
    | some (.one (.sli t1)), some (.one .str), some (.one l) => Sli S X l fun t0 xs => cond (decide (t0 = t1)) (cond (X.K.byte t1) (match X.tk (X.K.tid t1) with
      | some (.one (.int .u8)) => k (S.put o.dst (.one (.str (strOf X.K t0 xs))))
      | _ => none) none) none
    | _, _, _ => none
  | .fieldAddr t x f => match X.tk t, opd S x with
    | some (.agg fs _), some (.one l) => match fs[f]? with
      | some (off, _, _) => match addOff l off with
        | some l' => k (S.put o.dst (.one l'))
        | none => none
      | none => none
    | _, _ => none
  | .field t x f => match X.tk t, opd S x with
    | some (.agg fs _), some (.agg ls) => match fs[f]? with
      | some (off, n, true) => k (S.put o.dst (.agg ((ls.drop off).take n)))
      | some (off, _, false) => match ls[off]? with
        | some l => k (S.put o.dst (.one l))
        | none => none
      | none => none
    | _, _ => none
  | .indexAddr t x i => match X.tk t, opd S x, opd S i with
    | some (.one (.sli t1)), some (.one (.row t0 xs)), some (.one (.int _ n)) => cond (decide (t0 = t1)) (cond (decide (0 ≤ n)) (Option.bind xs[n.toNat]? fun e => k (S.put o.dst (.one (.elt t0 e 0)))) none) none
    | some (.one (.sli t1)), some (.one (.ref id p)), some (.one (.int _ n)) => cond (decide (0 ≤ n)) (Sli S X (.ref id p) fun t0 xs =>
        cond (decide (t0 = t1)) (cond (decide (n < (xs.length : Int))) (k (S.put o.dst (.one (.ep id p n.toNat 0)))) none) none) none
    | _, _, _ => none
  | .index t x i => match X.tk t, opd S x, opd S i with
    | some (.one .str), some (.one (.str s)), some (.one (.int _ n)) => cond (decide (0 ≤ n)) (cond (decide (n < (s.size : Int))) (k (S.put o.dst (.one (.int .u8 (sbt s n))))) none) none
    | _, _, _ => none
  | .slice t x lo hi mx => match mx, X.tk t, opd S x with
    | none, some (.one .str), some (.one (.str s)) =>
      match bnd S 0 lo, bnd S s.size hi with
      | some l, some h => cond (decide (0 ≤ l)) (cond (decide (l ≤ h)) (cond (decide (h ≤ (s.size : Int))) (k (S.put o.dst (.one (.str (s.extract l.toNat h.toNat))))) none) none) none
      | _, _ => none
    | none, some (.one (.sli t1)), some (.one (.row t0 xs)) =>
      match bnd S 0 lo, bnd S xs.length hi with
      | some l, some h => cond (decide (t0 = t1)) (cond (decide (0 ≤ l)) (cond (decide (l ≤ h)) (cond (decide (h ≤ (xs.length : Int))) (k (S.put o.dst (.one (.row t0 ((xs.take h.toNat).drop l.toNat))))) none) none) none) none
      | _, _ => none
    | _, _, _ => none
  | .makeSlice t n c => cond (isZeroC n) (match X.tk t, opd S c with
    | some (.one (.sli t)), some (.one (.int _ m)) => cond (decide (0 ≤ m)) (cond (decide (m * (X.K.bytes t : Int) ≤ 140737488355328)) (match S.add (newId X o) (.row t [] false) with
        | some S' => k (S'.put o.dst (.one (.ref (newId X o) [])))
        | none => none) none) none
    | _, _ => none) (match X.tk t, opd S n, opd S c with
    | some (.one (.sli t)), some (.one (.int _ n)), some (.one (.int _ m)) =>
      cond (decide (n = m)) (cond (decide (0 ≤ n)) (cond (decide (n * (X.K.bytes t : Int) ≤ 140737488355328)) (match S.add (newId X o) (.row t (List.replicate n.toNat (X.K.zero t)) false) with
        | some S' => k (S'.put o.dst (.one (.ref (newId X o) [])))
        | none => none) none) none) none
    | _, _, _ => none)
  | .extract t i => match opd S t with
    | some (.tup vs) => match vs[i]? with
      | some (false, [l]) => k (S.put o.dst (.one l))
      | some (true, ls) => k (S.put o.dst (.agg ls))
      | _ => none
    | _ => none
  | .call c => match c.callee with
    | .builtin .len => match c.args.toList, c.argTypes.toList with
      | [x], [t] => match X.tk t, opd S x with
        | some (.one .str), some (.one (.str s)) => k (S.put o.dst (.one (.int .i64 s.size)))
        | some (.one (.sli _)), some (.one l) => Sli S X l fun _ xs => k (S.put o.dst (.one (.int .i64 xs.length)))
        | _, _ => none
      | _, _ => none
    | .builtin .append => match c.args.toList, c.argTypes.toList with
      | [s, x], [t, t'] => match X.tk t, opdT X S t s, opdT X S t' x with
        | some (.one (.sli t)), some (.one l), some (.one m) =>
          cond (Nat.beq (c.argTypes.toList.headD 0) t') (match l with
          | .nil t0 => match m with
            | .ref id [] => match lk S.objs id with
              | some (.row t1 ys sh) => apnd X o S t t0 t1 [] ys none (some id) sh k
              | _ => none
            | .row t1 ys => apnd X o S t t0 t1 [] ys none none true k
            | .nil t1 => apnd X o S t t0 t1 [] [] none none false k
            | _ => none
          | .ref id0 [] => match lk S.objs id0 with
            | some (.row t0 xs sh0) => match m with
              | .ref id [] => cond (Nat.beq id0 id) none (match lk S.objs id with
                | some (.row t1 ys sh) => apnd X o S t t0 t1 xs ys (some id0) (some id) (sh0 || sh) k
                | _ => none)
              | .row t1 ys => apnd X o S t t0 t1 xs ys (some id0) none true k
              | .nil t1 => apnd X o S t t0 t1 xs [] (some id0) none sh0 k
              | _ => none
            | _ => none
          | _ => none) none
        | _, _, _ => none
      | _, _ => none
    | .builtin .delete => match c.args.toList, c.argTypes.toList with
      | [m, x], [t, t'] => match X.mp t, opd S m, opdT X S t' x with
        | some mt, some (.one l), some key => del1 X S mt l key fun S' => k (S'.drop o.dst)
        | _, _, _ => none
      | _, _ => none
    | .value (.func f) => match X.con f with
      | some c' => callC X c' S [] c.args.toList c.argTypes.toList [] o k
      | none => match X.conw f with
        | some _ => callW X S f c.args.toList c.argTypes.toList o k
        | none => callI X S f [] c.args.toList c.argTypes.toList [] o k
    | .value (.tmp t) => match lk S.env t with
      | some (.one l) => cloOf S l fun f pre post => callF X S f pre c.args.toList c.argTypes.toList post o k
      | _ => none
    | .invoke x name => ifcOf S (opd S x) fun t v => match X.meth t name with
      | some f => callF X S f [v] c.args.toList c.argTypes.toList [] o k
      | none => none
    | _ => none
  | .makeFunc fn first captured => match fn with
    | .func f => match argsI X S first.toList [], argsI X S captured.toList [] with
      | some vs, some us => cond ((vs ++ us).isEmpty) (k (S.put o.dst (.one (.fnc (some f))))) (match S.add (newId X o) (.box (.clo f vs.length (shOf (vs ++ us))) (leavesOf (vs ++ us))) with
        | some S' => k (S'.put o.dst (.one (.vo (newId X o))))
        | none => none)
      | _, _ => none
    | _ => none
  | .makeInterface t x => match X.tk t, opdT X S t x with
    | some tk, some v => cond (notIfc tk && okV v) (match S.add (newId X o) (.box (.ifc t (shOf [v])) v.leaves) with
      | some S' => k (S'.put o.dst (.one (.vo (newId X o))))
      | none => none) none
    | _, _ => none
  | .makeMap t n => match n, X.mp t with
    | none, some m => match S.add (newId X o) (.map m.fl m.kt m.vt [] 0) with
      | some S' => k (S'.put o.dst (.one (.vo (newId X o))))
      | none => none
    | _, _ => none
  | .lookup t x i ok => match X.mp t, opd S x, opd S i with
    | some m, some (.one l), some key => cond m.fl.br (lookB X S m l key ok fun v => k (S.put o.dst v)) (lookV X S m l key ok fun v => k (S.put o.dst v))
    | _, _, _ => none
  | .mapUpdate t x i y => match X.mp t, opd S x, opd S i with
    | some m, some (.one l), some key => match opdT X S (X.K.tid m.vt) y with
      | some v => upd1 X S m l key v fun S' => k (S'.drop o.dst)
      | none => none
    | _, _, _ => none
  | .insert t x i y => match X.mp t, opd S x, opd S i with
    | some m, some (.one l), some key => match opdT X S (X.K.tid m.vt) y with
      | some v => upd1 X S m l key v fun S' => k (S'.drop o.dst)
      | none => none
    | _, _, _ => none
  | _ => none

/-- The operations of a region in the text's order. -/
noncomputable def evs [DecidableEq Ty] {R : Type} (X : Cx C) (all : Array Oper) : List Oper → St C → (St C → Option R) → Option R
  | [], S, k => k S
  | o :: r, S, k => match o.guard with
    | none => ev X o S (fun S' => evs X all r S' k)
    | some (j, want) => match (all[j]?).bind (·.dst) with
      | some d => match lk S.env d with
        | some (.one (.bool b)) => cond b
            (match want with
              | true => ev X o (S.put (some d) (.one (.bool true))) (fun S' => evs X all r S' k)
              | false => evs X all r ((S.put (some d) (.one (.bool true))).put o.dst .und) k)
            (match want with
              | true => evs X all r ((S.put (some d) (.one (.bool false))).put o.dst .und) k
              | false => ev X o (S.put (some d) (.one (.bool false))) (fun S' => evs X all r S' k))
        | some .und => evs X all r (S.put o.dst .und) k
        | _ => none
      | none => none

/-! ### Regions whose order is drawn -/
def nodupN : List Nat → Bool
  | [] => true
  | n :: r => (!r.any (Nat.beq n)) && nodupN r
def rmAll {α : Type} : List Nat → List (Nat × α) → List (Nat × α)
  | [], l => l
  | d :: r, l => rmAll r (rm l d)
/-- The own rows that cells move in. -/
def refsL : List (Lf C) → List Nat
  | [] => []
  | .ref id [] :: r => id :: refsL r
  | _ :: r => refsL r
def refsP (X : Cx C) (t : Ty) (S : St C) : List (Nat × Operand) → List Nat
  | [] => []
  | (_, x) :: r => match opdT X S (X.K.tid t) x with
    | some v => refsL v.leaves ++ refsP X t { S with objs := rmAll (refsL v.leaves) S.objs } r
    | none => []
def insList (o : Option Nat) : List Nat := match o with
  | some id => [id]
  | none => []
def apndq [DecidableEq Ty] {R : Type} (X : Cx C) (o : Oper) (S : St C) (t t0 t1 : Ty) (xs : List (C t0)) (ys : List (C t1)) (id0 id1 : Option Nat) (sh : Bool) (k : SV C → List (Nat × Ob C) → List Nat → Option R) : Option R :=
  match castT t0 t xs, castT t1 t ys with
  | some xs, some ys => cond (decide ((xs.length + ys.length) * X.K.bytes t ≤ 140737488355328)) (k (.one (.ref (newId X o) [])) [(newId X o, .row t (xs ++ ys) (cond (X.K.flat t) false sh))] (insList id0 ++ insList id1)) none
  | _, _ => none
def callCq {R : Type} (X : Cx C) (c : Con C) (S : St C) (pre : List (SV C)) (as : List Operand) (ts : List TypeId) (post : List (SV C)) (o : Oper) (k : SV C → List (Nat × Ob C) → List Nat → Option R) : Option R := match argsC X S c.pt pre as ts post with
  | some vs => Option.bind (c.g vs) fun r => match internAll (newId X o) (c.ret r) with
    | (rs, news) => match toSV rs with
      | some v => k v news.reverse []
      | none => none
  | none => none
/-- An operation that writes into nothing: its value, what is new, what has moved. -/
def evq [DecidableEq Ty] {R : Type} (X : Cx C) (o : Oper) (S : St C) (k : SV C → List (Nat × Ob C) → List Nat → Option R) : Option R :=
  match o.op with
  | .move x => match opdT X S o.type x with
    | some v => k v [] []
    | none => none
  | .pick c a b => match opd S c, opd S a, opd S b with
    | some (.one (.bool c)), some (.one (.bool x)), some (.one (.bool y)) => k (.one (.bool (cond c x y))) [] []
    | some (.one (.bool true)), some v, _ => k v [] []
    | some (.one (.bool false)), _, some v => k v [] []
    | _, _, _ => none
  | .box e x => match opd S x, X.tk e with
    | some v, some tk => cond (fits v tk) (k (.one (.ptr (newId X o) 0)) [(newId X o, .box .mem v.leaves)] []) none
    | _, _ => none
  | .alloc e => match X.tk e with
    | some (.one z) => k (.one (.ptr (newId X o) 0)) [(newId X o, .box .mem [z.lf])] []
    | some (.agg _ zs) => k (.one (.ptr (newId X o) 0)) [(newId X o, .box .mem (zs.map ZL.lf))] []
    | none => none
  | .build t parts => match X.tk t with
    | some (.agg fs zs) => match partsOf X fs S parts.toList (zs.map ZL.lf) with
      | some ls => cond (fs.all fun f => Nat.ble (f.1 + f.2.1) zs.length) (k (.agg ls) [] []) none
      | none => none
    | _ => none
  | .buildSlice t n parts => match X.tk t with
    | some (.one (.sli t)) => match elems X t S 0 parts.toList with
      | some (es, _, b) => cond (Nat.beq es.length n && Nat.ble (n * X.K.sz t) 16777216) (k (.one (.ref (newId X o) [])) [(newId X o, .row t es (cond (X.K.flat t) false b))] (refsP X t S parts.toList)) none
      | none => none
    | _ => none
  | .load t a => match X.tk t, opd S a with
    | some tk, some (.one l) => cellsAt X S l fun ls => match mkSV tk ls with
      | some v => k v [] []
      | none => none
    | _, _ => none
  | .nilCheck x => match opd S x with
    | some (.one (.ptr id off)) => k (.one (.ptr id off)) [] []
    | some (.one (.elt t x off)) => k (.one (.elt t x off)) [] []
    | some (.one (.ep id p i off)) => k (.one (.ep id p i off)) [] []
    | some v => cond (liveV S v) (k v [] []) none
    | none => none
  | .binOp op t x y t' => match opdT X S t x, opdT X S t' y with
    | some _, some (.one (.nil _)) => none
    | some a, some b => cond (isNilK b) (cmpNil S (X.tk t) op a b (isConst y) fun v => k v [] []) (binL (X.tk t) op a b fun v => k v [] [])
    | _, _ => none
  | .unOp op t x => match op, opd S x with
    | .not, some (.one (.bool b)) => k (.one (.bool (!b))) [] []
    | .neg, some (.one (.int ki n)) => k (.one (.int ki (ki.wrap (0 - n)))) [] []
    | _, _ => none
  | .convert t t' x => match X.tk t, X.tk t', opd S x with
    | some _, some (.one (.int k')), some (.one (.int _ n)) => k (.one (.int k' (k'.wrap n))) [] []
    | some _, some (.one .str), some (.one (.str s)) => k (.one (.str s)) [] []
    | some (.one (.sli t1)), some (.one .str), some (.one l) => Sli S X l fun t0 xs => cond (decide (t0 = t1)) (cond (X.K.byte t1) (match X.tk (X.K.tid t1) with
      | some (.one (.int .u8)) => k (.one (.str (strOf X.K t0 xs))) [] []
      | _ => none) none) none
    | _, _, _ => none
  | .fieldAddr t x f => match X.tk t, opd S x with
    | some (.agg fs _), some (.one l) => match fs[f]? with
      | some (off, _, _) => match addOff l off with
        | some l' => k (.one l') [] []
        | none => none
      | none => none
    | _, _ => none
  | .field t x f => match X.tk t, opd S x with
    | some (.agg fs _), some (.agg ls) => match fs[f]? with
      | some (off, n, true) => k (.agg ((ls.drop off).take n)) [] []
      | some (off, _, false) => match ls[off]? with
        | some l => k (.one l) [] []
        | none => none
      | none => none
    | _, _ => none
  | .indexAddr t x i => match X.tk t, opd S x, opd S i with
    | some (.one (.sli t1)), some (.one (.row t0 xs)), some (.one (.int _ n)) => cond (decide (t0 = t1)) (cond (decide (0 ≤ n)) (Option.bind xs[n.toNat]? fun e => k (.one (.elt t0 e 0)) [] []) none) none
    | some (.one (.sli t1)), some (.one (.ref id p)), some (.one (.int _ n)) => cond (decide (0 ≤ n)) (Sli S X (.ref id p) fun t0 xs =>
        cond (decide (t0 = t1)) (cond (decide (n < (xs.length : Int))) (k (.one (.ep id p n.toNat 0)) [] []) none) none) none
    | _, _, _ => none
  | .index t x i => match X.tk t, opd S x, opd S i with
    | some (.one .str), some (.one (.str s)), some (.one (.int _ n)) => cond (decide (0 ≤ n)) (cond (decide (n < (s.size : Int))) (k (.one (.int .u8 (sbt s n))) [] []) none) none
    | _, _, _ => none
  | .slice t x lo hi mx => match mx, X.tk t, opd S x with
    | none, some (.one .str), some (.one (.str s)) =>
      match bnd S 0 lo, bnd S s.size hi with
      | some l, some h => cond (decide (0 ≤ l)) (cond (decide (l ≤ h)) (cond (decide (h ≤ (s.size : Int))) (k (.one (.str (s.extract l.toNat h.toNat))) [] []) none) none) none
      | _, _ => none
    | none, some (.one (.sli t1)), some (.one (.row t0 xs)) =>
      match bnd S 0 lo, bnd S xs.length hi with
      | some l, some h => cond (decide (t0 = t1)) (cond (decide (0 ≤ l)) (cond (decide (l ≤ h)) (cond (decide (h ≤ (xs.length : Int))) (k (.one (.row t0 ((xs.take h.toNat).drop l.toNat))) [] []) none) none) none) none
      | _, _ => none
    | _, _, _ => none
  | .makeSlice t n c => cond (isZeroC n) (match X.tk t, opd S c with
    | some (.one (.sli t)), some (.one (.int _ m)) => cond (decide (0 ≤ m)) (cond (decide (m * (X.K.bytes t : Int) ≤ 140737488355328)) (k (.one (.ref (newId X o) [])) [(newId X o, .row t [] false)] []) none) none
    | _, _ => none) (match X.tk t, opd S n, opd S c with
    | some (.one (.sli t)), some (.one (.int _ n)), some (.one (.int _ m)) =>
      cond (decide (n = m)) (cond (decide (0 ≤ n)) (cond (decide (n * (X.K.bytes t : Int) ≤ 140737488355328)) (k (.one (.ref (newId X o) [])) [(newId X o, .row t (List.replicate n.toNat (X.K.zero t)) false)] []) none) none) none
    | _, _, _ => none)
  | .extract t i => match opd S t with
    | some (.tup vs) => match vs[i]? with
      | some (false, [l]) => k (.one l) [] []
      | some (true, ls) => k (.agg ls) [] []
      | _ => none
    | _ => none
  | .call c => match c.callee with
    | .builtin .len => match c.args.toList, c.argTypes.toList with
      | [x], [t] => match X.tk t, opd S x with
        | some (.one .str), some (.one (.str s)) => k (.one (.int .i64 s.size)) [] []
        | some (.one (.sli _)), some (.one l) => Sli S X l fun _ xs => k (.one (.int .i64 xs.length)) [] []
        | _, _ => none
      | _, _ => none
    | .builtin .append => match c.args.toList, c.argTypes.toList with
      | [s, x], [t, t'] => match X.tk t, opdT X S t s, opdT X S t' x with
        | some (.one (.sli t)), some (.one l), some (.one m) =>
          cond (Nat.beq (c.argTypes.toList.headD 0) t') (match l with
          | .nil t0 => match m with
            | .ref id [] => match lk S.objs id with
              | some (.row t1 ys sh) => apndq X o S t t0 t1 [] ys none (some id) sh k
              | _ => none
            | .row t1 ys => apndq X o S t t0 t1 [] ys none none true k
            | .nil t1 => apndq X o S t t0 t1 [] [] none none false k
            | _ => none
          | .ref id0 [] => match lk S.objs id0 with
            | some (.row t0 xs sh0) => match m with
              | .ref id [] => cond (Nat.beq id0 id) none (match lk S.objs id with
                | some (.row t1 ys sh) => apndq X o S t t0 t1 xs ys (some id0) (some id) (sh0 || sh) k
                | _ => none)
              | .row t1 ys => apndq X o S t t0 t1 xs ys (some id0) none true k
              | .nil t1 => apndq X o S t t0 t1 xs [] (some id0) none sh0 k
              | _ => none
            | _ => none
          | _ => none) none
        | _, _, _ => none
      | _, _ => none
    | .value (.func f) => match X.con f with
      | some c' => callCq X c' S [] c.args.toList c.argTypes.toList [] o k
      | none => none
    | .value (.tmp t) => match lk S.env t with
      | some (.one l) => cloOf S l fun f pre post => match X.con f with
        | some c' => callCq X c' S pre c.args.toList c.argTypes.toList post o k
        | none => none
      | _ => none
    | .invoke x name => ifcOf S (opd S x) fun t v => match X.meth t name with
      | some f => match X.con f with
        | some c' => callCq X c' S [v] c.args.toList c.argTypes.toList [] o k
        | none => none
      | none => none
    | _ => none
  | .makeFunc fn first captured => match fn with
    | .func f => match argsI X S first.toList [], argsI X S captured.toList [] with
      | some vs, some us => cond ((vs ++ us).isEmpty) (k (.one (.fnc (some f))) [] []) (k (.one (.vo (newId X o))) [(newId X o, .box (.clo f vs.length (shOf (vs ++ us))) (leavesOf (vs ++ us)))] [])
      | _, _ => none
    | _ => none
  | .makeInterface t x => match X.tk t, opdT X S t x with
    | some tk, some v => cond (notIfc tk && okV v) (k (.one (.vo (newId X o))) [(newId X o, .box (.ifc t (shOf [v])) v.leaves)] []) none
    | _, _ => none
  | .lookup t x i ok => match X.mp t, opd S x, opd S i with
    | some m, some (.one l), some key => cond m.fl.br none (lookV X S m l key ok fun v => k v [] [])
    | _, _, _ => none
  | _ => none

/-- An operation of a drawn region: its value, what is new, what has moved; or that it was passed by. need: the numbers of what it looked at. -/
structure Ent (C : Ty → Type) where
  ix : Nat
  dst : Option Tmp
  eff : Option (SV C × List (Nat × Ob C) × List Nat)
  need : List Nat
  ran : Bool
def Ent.app (S : St C) (e : Ent C) : St C := match e.eff with
  | some (v, news, dels) => St.put { S with objs := news ++ rmAll dels S.objs } e.dst v
  | none => S
def SD (S0 : St C) : List (Ent C) → St C
  | [] => S0
  | e :: es => Ent.app (SD S0 es) e

def anc1 (tab : List (Nat × Nat)) : List Edge → Nat
  | [] => 0
  | e :: r => cond (Region.binds .any e) (Nat.lor (Nat.lor (2 ^ e.on) ((lk tab e.on).getD 0)) (anc1 tab r)) (anc1 tab r)
def ancs : Nat → List Oper → List (Nat × Nat) → List (Nat × Nat)
  | _, [], t => t
  | n, o :: r, t => ancs (n + 1) r ((n, anc1 t o.after.toList) :: t)
def has (tab : List (Nat × Nat)) (i j : Nat) : Bool := Nat.testBit ((lk tab i).getD 0) j
def isE (o : Oper) : Bool := match o.op with
  | .store .. => true
  | .assign _ => true
  | .mapUpdate .. => true
  | .insert .. => true
  | .call c => match c.callee with
    | .builtin .delete => true
    | _ => false
  | _ => false
def isEat (all : Array Oper) (j : Nat) : Bool := match all[j]? with
  | some o => isE o
  | none => false
def below : Nat → List Nat
  | 0 => []
  | n + 1 => n :: below n
def preOp (all : Array Oper) (tab : List (Nat × Nat)) (i : Nat) (o : Oper) : Bool :=
  o.after.toList.all (fun e => !Region.binds .any e || Nat.blt e.on i) && Nat.beq ((lk tab i).getD 0) (anc1 tab o.after.toList) &&
  (below i).all (fun j => !isEat all j || has tab i j) && (!isE o || o.guard.isNone)
def preOps (all : Array Oper) (tab : List (Nat × Nat)) : Nat → List Oper → Bool
  | _, [] => true
  | n, o :: r => preOp all tab n o && preOps all tab (n + 1) r

def tidyA {α : Type} (env : List (Nat × α)) : List Nat → List (Nat × α)
  | [] => []
  | t :: r => match lk env t with
    | some v => (t, v) :: tidyA env r
    | none => tidyA env r
def looks (o : Oper) : List Nat := o.op.operands.toList.filterMap fun x => match x with
  | .tmp t => some t
  | _ => none
def minE (S0 : St C) (ents : List (Ent C)) (tab : List (Nat × Nat)) (n : Nat) (o : Oper) : List (Nat × SV C) := tidyA (SD S0 (ents.filter fun e => has tab n e.ix)).env (looks o)
def minS (S0 : St C) (ents : List (Ent C)) (tab : List (Nat × Nat)) (n : Nat) (o : Oper) : St C :=
  { env := minE S0 ents tab n o, objs := tidyA (SD S0 (ents.filter fun e => has tab n e.ix)).objs (idsE0 (minE S0 ents tab n o)), base := S0.base }

def keysO (l : List (Nat × Ob C)) : List Nat := l.map (·.1)
def Ent.newK (e : Ent C) : List Nat := match e.eff with
  | some (_, news, _) => keysO news
  | none => []
def Ent.dels (e : Ent C) : List Nat := match e.eff with
  | some (_, _, dels) => dels
  | none => []
def Ent.names (e : Ent C) : List Nat := match e.eff with
  | some (v, news, _) => idsV0 v ++ idsO news
  | none => []
def apartN (a b : List Nat) : Bool := a.all fun n => !b.any (Nat.beq n)
def sameD (a b : Option Tmp) : Bool := match a, b with
  | some a, some b => Nat.beq a b
  | _, _ => false
def pairB (tab : List (Nat × Nat)) (e m : Ent C) : Bool :=
  !sameD e.dst m.dst && apartN e.newK m.newK && (has tab m.ix e.ix || (apartN e.newK m.names && apartN e.newK m.dels)) &&
  (has tab e.ix m.ix || has tab m.ix e.ix || apartN m.dels e.need)
def selfB (S0 : St C) (e : Ent C) : Bool :=
  apartN e.newK e.dels && nodupN e.newK && apartN e.newK (idsE0 S0.env ++ idsO S0.objs) && (match e.dst with
    | some d => (lk S0.env d).isNone
    | none => true)
def layB (S0 : St C) (tab : List (Nat × Nat)) (ents : List (Ent C)) : Bool :=
  ents.all fun e => selfB S0 e && ents.all fun m => Nat.beq e.ix m.ix || pairB tab e m

/-- The value of an earlier operation of the layer that is a guard. -/
def grdOf : List (Ent C) → Nat → Option (SV C)
  | [], _ => none
  | e :: r, j => cond (Nat.beq e.ix j) (match e.eff, e.dst with
    | some (v, _, _), some _ => some v
    | _, _ => none) (grdOf r j)
def setGrd : List (Ent C) → Nat → Bool → List (Ent C)
  | [], _, _ => []
  | e :: r, j, b => cond (Nat.beq e.ix j) (match e.eff with
    | some (_, news, dels) => { e with eff := some (.one (.bool b), news, dels) } :: r
    | none => e :: r) (e :: setGrd r j b)

/-- Operations before one that writes which may also come behind it: each choice of late ones. -/
def ups (tab : List (Nat × Nat)) : List Nat → List (List Nat)
  | [] => [[]]
  | j :: r => ups tab r ++ ((ups tab r).filter fun L => r.all fun d => !has tab d j || L.any (Nat.beq d)).map (j :: ·)
def lagIx (tab : List (Nat × Nat)) (n : Nat) (ents : List (Ent C)) : List Nat := ((ents.filter fun e => !has tab n e.ix).map (·.ix)).reverse
noncomputable def altsL {R : Type} : List (Option R) → Option R
  | [] => none
  | [x] => x
  | x :: y :: r => alt x (altsL (y :: r))
def opsAt (all : Array Oper) (L : List Nat) : List (Nat × Oper) := L.filterMap fun i => (all[i]?).map fun o => (i, o)
def numbered : Nat → List Oper → List (Nat × Oper)
  | _, [] => []
  | n, o :: r => (n, o) :: numbered (n + 1) r
noncomputable def dlay [DecidableEq Ty] {R : Type} (X : Cx C) (all : Array Oper) (tab : List (Nat × Nat)) (k : St C → Option R) : Nat → List (Nat × Oper) → St C → List (Ent C) → Option R
  | 0, _, _, _ => none
  | _ + 1, [], S0, ents => cond (layB S0 tab ents) (k (SD S0 ents)) none
  | f + 1, (n, o) :: r, S0, ents => match isE o with
    | true => cond (layB S0 tab ents) (altsL ((ups tab (lagIx tab n ents)).map fun L => ev X o (SD S0 (ents.filter fun e => !L.any (Nat.beq e.ix))) (fun S' => dlay X all tab k f (opsAt all L ++ r) S' []))) none
    | false => match o.guard with
      | none => evq X o (minS S0 ents tab n o) (fun v news dels => dlay X all tab k f r S0 (⟨n, o.dst, some (v, news, dels), idsE0 (minE S0 ents tab n o), true⟩ :: ents))
      | some (j, want) => cond (has tab n j) (match grdOf ents j with
        | some (.one (.bool b)) => cond b
          (match want with
            | true => evq X o (minS S0 (setGrd ents j true) tab n o) (fun v news dels => dlay X all tab k f r S0 (⟨n, o.dst, some (v, news, dels), idsE0 (minE S0 (setGrd ents j true) tab n o), true⟩ :: setGrd ents j true))
            | false => dlay X all tab k f r S0 (⟨n, o.dst, some (.und, [], []), [], false⟩ :: setGrd ents j true))
          (match want with
            | true => dlay X all tab k f r S0 (⟨n, o.dst, some (.und, [], []), [], false⟩ :: setGrd ents j false)
            | false => evq X o (minS S0 (setGrd ents j false) tab n o) (fun v news dels => dlay X all tab k f r S0 (⟨n, o.dst, some (v, news, dels), idsE0 (minE S0 (setGrd ents j false) tab n o), true⟩ :: setGrd ents j false)))
        | some .und => dlay X all tab k f r S0 (⟨n, o.dst, some (.und, [], []), [], false⟩ :: ents)
        | _ => none) none

def qdsts : List Oper → List Nat
  | [] => []
  | o :: r => match isE o, o.dst with
    | false, some d => d :: qdsts r
    | _, _ => qdsts r
noncomputable def drun [DecidableEq Ty] {R : Type} (X : Cx C) (all : Array Oper) (tab : List (Nat × Nat)) (S : St C) (k : St C → Option R) : Option R :=
  cond (preOps all tab 0 all.toList) (dlay X all tab k 4096 (numbered 0 all.toList) { S with env := rmAll (qdsts all.toList) S.env } []) none

/-- The cells of a slot; where they are numbered. -/
def cellsV : SV C → List (Lf C)
  | .one l => [l]
  | .agg ls => ls
  | .sus x _ => x.2
  | _ => []
def placeV (t : Nat) : SV C → Nat
  | .one _ => 100000 + t
  | .sus _ _ => 30000000 + 100 * t
  | _ => 10000000 + 100 * t
def refsAt : Nat → List (Lf C) → List (Nat × Nat)
  | _, [] => []
  | n, .ref id [] :: r => (id, n) :: refsAt (n + 1) r
  | n, _ :: r => refsAt (n + 1) r
def ptrsL : List (Lf C) → List Nat
  | [] => []
  | .ptr id _ :: r => id :: ptrsL r
  | .vo id :: r => id :: ptrsL r
  | _ :: r => ptrsL r
def addN : List Nat → List Nat → List Nat
  | B, [] => B
  | B, n :: r => cond (B.any (Nat.beq n)) (addN B r) (addN (B ++ [n]) r)
def boxLs (S : St C) (id : Nat) : List (Lf C) := match lk S.objs id with
  | some (.box _ ls) => ls
  | _ => []
def ptrsE : List (Nat × SV C) → List Nat
  | [] => []
  | (_, v) :: r => ptrsL (cellsV v) ++ ptrsE r
def ptrsB (S : St C) : List Nat → List Nat
  | [] => []
  | id :: r => ptrsL (boxLs S id) ++ ptrsB S r
/-- The boxes that are reached. -/
def wide (S : St C) : Nat → List Nat → List Nat
  | 0, l => l
  | n + 1, l => wide S n (addN l (ptrsB S l))
def ghO : List (Nat × Ob C) → List Nat
  | [] => []
  | (id, .ghost) :: r => id :: ghO r
  | _ :: r => ghO r
def boxesOf (S : St C) (env : List (Nat × SV C)) : List Nat := addN (wide S 4 (addN [] (ptrsE env))) (ghO S.objs)
def tabE : List (Nat × SV C) → List (Nat × Nat)
  | [] => []
  | (t, v) :: r => refsAt (placeV t v) (cellsV v) ++ tabE r
def tabB (S : St C) : List Nat → List (Nat × Nat)
  | [] => []
  | id :: r => refsAt (1000000 + 100 * id) (boxLs S id) ++ tabB S r
/-- A cell at the head of a loop: an own row is numbered by its first place, a nil slice becomes one. Beside it: new number, old number, content. -/
def canL (S : St C) (nm : List (Nat × Nat)) (B : List Nat) (n : Nat) : Lf C → Option (Lf C × List (Nat × Option Nat × Ob C))
  | .ref id [] => match lk nm id, lk S.objs id with
    | some m, some (.row t xs sh) => some (.ref m [], [(m, some id, .row t xs sh)])
    | _, _ => none
  | .ptr id o => cond (B.any (Nat.beq id)) (some (.ptr id o, [])) none
  | .vo id => cond (B.any (Nat.beq id)) (some (.vo id, [])) none
  | .fnc f => some (.fnc f, [])
  | .nilv n => some (.nilv n, [])
  | .nil t => some (.ref n [], [(n, none, .row t [] false)])
  | .int k m => some (.int k m, [])
  | .bool b => some (.bool b, [])
  | .str s => some (.str s, [])
  | .row t xs => some (.row t xs, [])
  | .nilp => some (.nilp, [])
  | .elt t x o => some (.elt t x o, [])
  | _ => none
def canLs (S : St C) (nm : List (Nat × Nat)) (B : List Nat) : Nat → List (Lf C) → Option (List (Lf C) × List (Nat × Option Nat × Ob C))
  | _, [] => some ([], [])
  | n, l :: r => match canL S nm B n l with
    | some (l', o) => match canLs S nm B (n + 1) r with
      | some (r', o') => some (l' :: r', o ++ o')
      | none => none
    | none => none
/-- The boxes. -/
def canB (S : St C) (nm : List (Nat × Nat)) (B : List Nat) : List Nat → Option (List (Nat × Option Nat × Ob C))
  | [] => some []
  | id :: r => match lk S.objs id with
    | some (.box kd ls) => match canLs S nm B (1000000 + 100 * id) ls with
      | some (ls', os) => match canB S nm B r with
        | some os' => some ((id, some id, .box kd ls') :: os ++ os')
        | none => none
      | none => none
    | some (.map mk kt vt xs c) => match canB S nm B r with
      | some os' => some ((id, some id, .map mk kt vt xs c) :: os')
      | none => none
    | some .ghost => match canB S nm B r with
      | some os' => some ((id, some id, .ghost) :: os')
      | none => none
    | _ => none
def canV (S : St C) (nm : List (Nat × Nat)) (B : List Nat) (t : Nat) : SV C → Option (SV C × List (Nat × Option Nat × Ob C))
  | .one l => match canL S nm B (100000 + t) l with
    | some (l', os) => some (.one l', os)
    | none => none
  | .agg ls => match canLs S nm B (10000000 + 100 * t) ls with
    | some (ls', os) => some (.agg ls', os)
    | none => none
  | .sus (b, ls) j => match canLs S nm B (30000000 + 100 * t) ls with
    | some (ls', os) => some (.sus (b, ls') j, os)
    | none => none
  | .frame => some (.frame, [])
  | _ => none
def canE (S : St C) (nm : List (Nat × Nat)) (B : List Nat) : List (Nat × SV C) → List (Nat × SV C) × List (Nat × Option Nat × Ob C)
  | [] => ([], [])
  | (t, v) :: r => match canE S nm B r with
    | (e, os) => match canV S nm B t v with
      | some (v', os') => ((t, v') :: e, os' ++ os)
      | none => (e, os)
/-- Each thing once. -/
def onceO : List (Nat × Option Nat × Ob C) → List Nat → List (Nat × Option Nat × Ob C)
  | [], _ => []
  | (n, some id, ob) :: r, seen => cond (seen.any (Nat.beq id)) (onceO r seen) ((n, some id, ob) :: onceO r (id :: seen))
  | (n, none, ob) :: r, seen => (n, none, ob) :: onceO r seen
def newN : List (Nat × Option Nat × Ob C) → List Nat
  | [] => []
  | (n, _, _) :: r => n :: newN r
def oldN : List (Nat × Option Nat × Ob C) → List Nat
  | [] => []
  | (_, some n, _) :: r => n :: oldN r
  | (_, none, _) :: r => oldN r
def obsN : List (Nat × Option Nat × Ob C) → List (Nat × Ob C)
  | [] => []
  | (n, _, ob) :: r => (n, ob) :: obsN r
/-- The new number of a thing. -/
def newOf : List (Nat × Option Nat × Ob C) → Nat → Option Nat
  | [], _ => none
  | (n, some m, _) :: r, id => cond (Nat.beq m id) (some n) (newOf r id)
  | (_, none, _) :: r, id => newOf r id
def hdrE (os : List (Nat × Option Nat × Ob C)) : List (Nat × SV C) → List (Nat × SV C)
  | [] => []
  | (t, .hdr id j) :: r => match newOf os id with
    | some n => (t, .hdr n j) :: hdrE os r
    | none => hdrE os r
  | _ :: r => hdrE os r
def canon1 (S : St C) (E : List (Nat × SV C)) (nm : List (Nat × Nat)) (B : List Nat) : Option (St C) :=
  match canE S nm B E, canB S nm B B with
  | (e, os), some ob => cond (nodupN (newN (onceO (os ++ ob) []))) (some { S with env := e ++ hdrE (onceO (os ++ ob) []) E, objs := obsN (onceO (os ++ ob) []) }) none
  | _, none => none
def St.canon (S : St C) (ent : List Nat) : Option (St C) := canon1 S (liveE S.env ent) (tabE (liveE S.env ent) ++ tabB S (boxesOf S (liveE S.env ent))) (boxesOf S (liveE S.env ent))

/-- Canonical, then on. -/
def canThen {R : Type} (ent : List Nat) (rec : St C → Option R) (S : St C) : Option R := match S.canon ent with
  | some S' => forceS S' rec
  | none => none
def iter {R : Type} (f : (St C → Option R) → St C → Option R) (ent : List Nat) : Nat → St C → Option R
  | 0, _ => none
  | n + 1, S => f (canThen ent (iter f ent n)) S
def seqK {R : Type} (rb : St C → (Ex → St C → Option R) → Option R) (k : Ex → St C → Option R) (e : Ex) (S : St C) : Option R := match e with
  | .norm => rb S k
  | e => k e S
def blkK {R : Type} (id : Nat) (k : Ex → St C → Option R) (e : Ex) (S : St C) : Option R := match e with
  | .exit j => cond (Nat.beq j id) (k .norm S) (k (.exit j) S)
  | e => k e S
def lopK {R : Type} (rec : St C → Option R) (k : Ex → St C → Option R) (e : Ex) (S : St C) : Option R := match e with
  | .norm => rec S
  | e => k e S

def keysIn (env : List (Nat × SV C)) : List Nat := env.map (·.1)

structure Cf where
  N : Nat
  keep : List Nat
  live : Nat → Option (List Nat)

def Cf.ent (F : Cf) (cur : Nat) (S : St C) : List Nat := match F.live cur with
  | some l => l
  | none => keysIn S.env

noncomputable def run [DecidableEq Ty] {R : Type} (X : Cx C) (F : Cf) : Code → Nat → St C → (Ex → St C → Option R) → Option R
  | .skip, _, S, k => k .norm S
  | .region _ ops draw, _, S, k => match draw with
    | false => evs X ops ops.toList S (fun S' => forceS (S'.tidy F.keep) fun S2 => k .norm S2)
    | true => drun X ops (ancs 0 ops.toList []) S (fun S' => forceS (S'.tidy F.keep) fun S2 => k .norm S2)
  | .seq a b, cur, S, k => run X F a cur S (seqK (run X F b cur) k)
  | .cond c x y, cur, S, k => match c with
    | .tmp t => match lk S.env t with
      | some (.one (.bool b)) => cond b (run X F x cur (S.drop (some t)) k) (run X F y cur (S.drop (some t)) k)
      | _ => none
    | _ => none
  | .block id c, _, S, k => run X F c id S (blkK id k)
  | .loop body, cur, S, k => canThen (F.ent cur S) (iter (fun rec S => run X F body cur S (lopK rec k)) (F.ent cur S) F.N) S
  | .exit id, _, S, k => k (.exit id) S
  | .ret, _, S, k => k .ret S
  | .label _, _, S, k => k .norm S
  | .scope c, cur, S, k => run X F c cur S k
  | _, _, _, _ => none

/-- A function's results. -/
def resOf (X : Cx C) (S : St C) : List ResultVar → Option (List (Bool × List (Lf C)))
  | [] => some []
  | .tmp t :: r => match lk S.env t with
    | some (.one l) => match resOf X S r with
      | some rs => some ((false, [l]) :: rs)
      | none => none
    | some (.agg ls) => match resOf X S r with
      | some rs => some ((true, ls) :: rs)
      | none => none
    | _ => none
  | .cell a t :: r => match lk S.env a, X.tk t with
    | some (.one l), some tk => cellsAt X S l fun ls => match mkSV tk ls, resOf X S r with
      | some (.one l), some rs => some ((false, [l]) :: rs)
      | some (.agg ls), some rs => some ((true, ls) :: rs)
      | _, _ => none
    | _, _ => none

def reshape : List (Bool × List (Lf C)) → List (Lf C) → List (Bool × List (Lf C))
  | [], _ => []
  | x :: r, ls => (x.1, ls.take x.2.length) :: reshape r (ls.drop x.2.length)
/-- Results that are the caller's: each row is an own one and moves out. -/
def outs (S : St C) (rs : List (Bool × List (Lf C))) : Option (List (Bool × List (Lf C))) :=
  match absorb S (flatten rs) with
  | some (ls', _, false) => some (reshape rs ls')
  | _ => none

def argEnv : Nat → List (SV C) → List (Nat × SV C)
  | _, [] => []
  | n, v :: r => (n, v) :: argEnv (n + 1) r
def start (vs : List (SV C)) : St C := { env := argEnv 0 vs, objs := [], base := 0 }

noncomputable def runFn [DecidableEq Ty] {R : Type} (X : Cx C) (F : Cf) (fn : Func) (vs : List (SV C)) (k : List (Bool × List (Lf C)) → Option R) : Option R :=
  match fn.body with
  | some c => run X F c 0 (start vs) (fun e S => match e with
    | .exit _ => none
    | _ => match resOf X S fn.results.toList with
      | some rs => match outs S rs with
        | some rs' => k rs'
        | none => none
      | none => none)
  | none => none
/-- A function's code, to be run in place. -/
noncomputable def inlOf [DecidableEq Ty] (X : Cx C) (F : Cf) (fn : Func) : Inl C :=
  ⟨fun R vs S k => match fn.body with
    | some c => cond (Nat.ble vs.length fn.ntmps && Nat.ble fn.ntmps 1000) (run X F c 0 { env := argEnv 0 vs ++ S.env, objs := S.objs, base := S.base } (fun e S' => match e with
      | .exit _ => none
      | _ => match resOf X S' fn.results.toList with
        | some rs => k rs { S' with env := ghostsE S'.env }
        | none => none)) none
    | none => none⟩
end
end Go.Proofs.Ytkiognopoigbhaa.Ab
