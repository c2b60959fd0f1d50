/- The abstract machine, part 2: the evaluator. It is a plain function on abstract states; nothing is proved here. -/
import Derived.Test.YtgpopgfidphheaaAb1
set_option linter.unusedVariables false
namespace Go.Proofs.Ytgpopgfidphheaa.Ab
open Go Go.RowKit

def lk {α : Type} : List (Nat × α) → Nat → Option α
  | [], _ => none
  | (m, v) :: r, n => cond (Nat.beq n m) (some v) (lk r n)
def rm {α : Type} : List (Nat × α) → Nat → List (Nat × α)
  | [], _ => []
  | (m, v) :: r, n => cond (Nat.beq n m) (rm r n) ((m, v) :: rm r n)

/-- One cell's zero. -/
inductive ZL (Ty : Type) : Type where
  | int (k : IntKind)
  | bool
  | str
  | sli (t : Ty)
  | ptr
inductive TK (Ty : Type) : Type where
  | one (z : ZL Ty)
  | agg (fs : List (Nat × Nat × Bool)) (zs : List (ZL Ty))

section
variable {Ty : Type} {C : Ty → Type}
def ZL.lf : ZL Ty → Lf C
  | .int k => .int k 0
  | .bool => .bool false
  | .str => .str ⟨#[]⟩
  | .sli t => .nil t
  | .ptr => .nilp
def ZL.val : ZL Ty → Value
  | .int k => .int k 0
  | .bool => .bool false
  | .str => .string ⟨#[]⟩
  | .sli _ => .slice none 0 0
  | .ptr => .pointer none

structure St (C : Ty → Type) where
  env : List (Nat × SV C)
  objs : List (Nat × Ob C)
  base : Nat

inductive Ex where
  | norm
  | exit (id : Nat)
  | ret

/-- A contract: a function that only reads and hands back what is new. Its results: of each whether it is an aggregate, and its cells. -/
structure Con (C : Ty → Type) where
  R0 : Type
  g : List (SV C) → Option R0
  ret : R0 → List (Bool × List (Lf C))

/-- A contract of a function that may write through what it is handed: each row is the caller's own. g: of the arguments' cells; out: the rows behind the call, in order. -/
structure ConW (C : Ty → Type) where
  R0 : Type
  g : List (Bool × List (Lf C)) → Option R0
  out : R0 → List (Lf C)
  ret : R0 → List (Bool × List (Lf C))

structure Cx (C : Ty → Type) where
  K : Cd C
  tk : Nat → Option (TK Ty)
  con : Nat → Option (Con C)
  conw : Nat → Option (ConW C) := fun _ => none

def opd (S : St C) : Operand → Option (SV C)
  | .tmp t => lk S.env t
  | .const (.int k n) => some (.one (.int k n))
  | .const (.bool b) => some (.one (.bool b))
  | .const (.string s) => some (.one (.str s))
  | .const (.pointer none) => some (.one .nilp)
  | _ => none

/-- An operand whose type is told: a nil slice can be one. -/
def opdT (X : Cx C) (S : St C) (T : TypeId) (x : Operand) : Option (SV C) :=
  match x with
  | .const (.slice none 0 0) => match X.tk T with
    | some (.one (.sli t)) => some (.one (.nil t))
    | _ => none
  | x => opd S x

def St.put (S : St C) (d : Option Tmp) (v : SV C) : St C :=
  match d with
  | some d => { S with env := (d, v) :: S.env }
  | none => S
/-- A slot that holds nothing of use. -/
def St.drop (S : St C) (d : Option Tmp) : St C :=
  match d with
  | some d => { S with env := rm S.env d }
  | none => S
def St.setObj (S : St C) (id : Nat) (ob : Ob C) : St C := { S with objs := (id, ob) :: S.objs }
def St.delObj (S : St C) (id : Nat) : St C := { S with objs := rm S.objs id }

def SV.leaves : SV C → List (Lf C)
  | .one l => [l]
  | .agg ls => ls
  | _ => []

def isAggT (k : TK Ty) : Bool := match k with | .one _ => false | .agg .. => true
def TK.size (k : TK Ty) : Nat := match k with | .one _ => 1 | .agg _ zs => zs.length
def fits (v : SV C) (k : TK Ty) : Bool := Nat.beq v.leaves.length k.size && Nat.ble 1 k.size
/-- So many cells as the type has, as its value. -/
def mkSV (k : TK Ty) (ls : List (Lf C)) : Option (SV C) :=
  match k with
  | .one _ => match ls with
    | l :: _ => some (.one l)
    | [] => none
  | .agg _ zs => cond (Nat.ble zs.length ls.length) (some (.agg (ls.take zs.length))) none

/-- What the cells of an element of an own row read as: its rows are places in it. -/
def inRow (id : Nat) (p : List (Nat × Nat)) (i : Nat) (sh : Bool) : Nat → List (Lf C) → List (Lf C)
  | _, [] => []
  | o, .row t xs :: r => (cond sh (.row t xs) (.ref id (p ++ [(i, o)]))) :: inRow id p i sh (o + 1) r
  | o, l :: r => l :: inRow id p i sh (o + 1) r

/-- The own row's content at a path. -/
def path (K : Cd C) : List (Nat × Nat) → (t : Ty) → List (C t) → {α : Type} → ((t : Ty) → List (C t) → Option α) → Option α
  | [], t, xs, _, k => k t xs
  | (i, o) :: p, t, xs, _, k => Option.bind xs[i]? fun x => match (K.enc t x)[o]? with
    | some (.row t' ys) => path K p t' ys k
    | _ => none

def Sli (S : St C) (X : Cx C) (l : Lf C) {α : Type} (k : (t : Ty) → List (C t) → Option α) : Option α :=
  match l with
  | .row t xs => k t xs
  | .nil t => k t []
  | .ref id p => match lk S.objs id with
    | some (.row t xs _) => path X.K p t xs k
    | _ => none
  | _ => none

/-- The cells from an address on. -/
def cellsAt (X : Cx C) (S : St C) (a : Lf C) {α : Type} (k : List (Lf C) → Option α) : Option α :=
  match a with
  | .ptr id off => match lk S.objs id with
    | some (.box ls) => k (ls.drop off)
    | _ => none
  | .elt t x o => k ((X.K.enc t x).drop o)
  | .ep id p i o => match lk S.objs id with
    | some (.row t xs sh) => path X.K p t xs fun t' ys => Option.bind ys[i]? fun x => k ((inRow id p i (cond p.isEmpty sh false) 0 (X.K.enc t' x)).drop o)
    | _ => none
  | _ => none

def setAt {α : Type} : List α → Nat → List α → List α
  | l, _, [] => l
  | l, o, v :: r => setAt (l.set o v) (o + 1) r

/-- Cells that are to lie in an element: an own row moves in; what is read stays shared. -/
def absorb (S : St C) : List (Lf C) → Option (List (Lf C) × St C × Bool)
  | [] => some ([], S, false)
  | .ref id [] :: r => match lk S.objs id with
    | some (.row t xs false) => match absorb (S.delObj id) r with
      | some (r', S', b) => some (.row t xs :: r', S', b)
      | none => none
    | _ => none
  | .nil t :: r => match absorb S r with
    | some (r', S', b) => some (.row t [] :: r', S', b)
    | none => none
  | .row t xs :: r => match absorb S r with
    | some (r', S', _) => some (.row t xs :: r', S', true)
    | none => none
  | .int k n :: r => match absorb S r with
    | some (r', S', b) => some (.int k n :: r', S', b)
    | none => none
  | .bool c :: r => match absorb S r with
    | some (r', S', b) => some (.bool c :: r', S', b)
    | none => none
  | .str s :: r => match absorb S r with
    | some (r', S', b) => some (.str s :: r', S', b)
    | none => none
  | _ => none

/-- A value as a callee that only reads sees it. -/
def viewL (S : St C) : Lf C → Option (Lf C)
  | .ref id [] => match lk S.objs id with
    | some (.row t xs _) => some (.row t xs)
    | _ => none
  | .nil t => some (.row t [])
  | .row t xs => some (.row t xs)
  | .int k n => some (.int k n)
  | .bool b => some (.bool b)
  | .str s => some (.str s)
  | _ => none
def viewLs (S : St C) : List (Lf C) → Option (List (Lf C))
  | [] => some []
  | l :: r => match viewL S l with
    | some l' => match viewLs S r with
      | some r' => some (l' :: r')
      | none => none
    | none => none
def viewV (S : St C) : SV C → Option (SV C)
  | .one l => match viewL S l with
    | some l' => some (.one l')
    | none => none
  | .agg ls => match viewLs S ls with
    | some ls' => some (.agg ls')
    | none => none
  | _ => none

/-- New rows get numbers: the cell's place, counted from the first. -/
def intern (id : Nat) : List (Lf C) → List (Lf C) × List (Nat × Ob C)
  | [] => ([], [])
  | .row t xs :: r => (.ref id [] :: (intern (id + 1) r).1, (id, .row t xs false) :: (intern (id + 1) r).2)
  | l :: r => (l :: (intern (id + 1) r).1, (intern (id + 1) r).2)
def internAll (id : Nat) : List (Bool × List (Lf C)) → List (Bool × List (Lf C)) × List (Nat × Ob C)
  | [] => ([], [])
  | (b, ls) :: r => ((b, (intern id ls).1) :: (internAll (id + ls.length) r).1, (intern id ls).2 ++ (internAll (id + ls.length) r).2)
def toSV (l : List (Bool × List (Lf C))) : Option (SV C) :=
  match l with
  | [(false, [l])] => some (.one l)
  | [(true, ls)] => some (.agg ls)
  | [_] => none
  | vs => some (.tup vs)

def oneL : SV C → Option (Lf C)
  | .one l => some l
  | _ => none

def slt (a b : ByteArray) : Bool := Go.Op.bytesLess a.toList b.toList
def sbt (s : ByteArray) (i : Int) : Int := match s[i.toNat]? with
  | some b => (b.toNat : Int)
  | none => 0

def cmpI (op : BinOp) (a b : Int) : Option Bool :=
  match op with
  | .eql => some (a == b)
  | .neq => some (a != b)
  | .lss => some (decide (a < b))
  | .leq => some (decide (a ≤ b))
  | .gtr => some (decide (a > b))
  | .geq => some (decide (a ≥ b))
  | _ => none
def cmpS (op : BinOp) (a b : ByteArray) : Option Bool :=
  match op with
  | .eql => some (decide (a = b))
  | .neq => some (!decide (a = b))
  | .lss => some (slt a b)
  | .geq => some (!slt a b)
  | .gtr => some (slt b a)
  | .leq => some (!slt b a)
  | _ => none
def arI (op : BinOp) (k : IntKind) (a b : Int) : Option Int :=
  match op with
  | .add => some (k.wrap (a + b))
  | .sub => some (k.wrap (a - b))
  | .mul => some (k.wrap (a * b))
  | _ => none

def isNilP : Lf C → Option Bool
  | .nilp => some true
  | .ptr .. => some false
  | .ep .. => some false
  | .elt .. => some false
  | _ => none
def binL (tk : Option (TK Ty)) (op : BinOp) (x y : SV C) {α : Type} (k : SV C → Option α) : Option α :=
  match x, y with
  | .one (.int ka a), .one (.int kb b) => cond (decide (ka = kb)) (match cmpI op a b with
    | some c => k (.one (.bool c))
    | none => match arI op ka a b with
      | some n => k (.one (.int ka n))
      | none => cond (decide (b = 0)) none (match op with
        | .quo => k (.one (.int ka (ka.wrap (a.tdiv b))))
        | .rem => k (.one (.int ka (a.tmod b)))
        | _ => none)) none
  | .one (.str a), .one (.str b) => match cmpS op a b with
    | some c => k (.one (.bool c))
    | none => match op with
      | .add => cond (decide ((a.size + b.size : Nat) ≤ 9223372036854775807)) (k (.one (.str (a ++ b)))) none
      | _ => none
  | .one (.bool a), .one (.bool b) => match tk, op with
    | some (.one .bool), .eql => k (.one (.bool (a == b)))
    | some (.one .bool), .neq => k (.one (.bool (!(a == b))))
    | _, _ => none
  | .one x, .one .nilp => match isNilP x, tk, op with
    | some c, some (.one .ptr), .eql => k (.one (.bool c))
    | some c, some (.one .ptr), .neq => k (.one (.bool (!c)))
    | _, _, _ => none
  | _, _ => none

/-- Two ways on that must come to one answer. -/
noncomputable def alt {R : Type} (a b : Option R) : Option R := open Classical in a.bind fun x => b.bind fun y => if x = y then some x else none
/-- Is a slice nil? Of an empty one it is not told. -/
noncomputable def nilq {R : Type} (e : Bool) (a b : Option R) : Option R := cond e (alt a b) b
noncomputable def nilB (tk : Option (TK Ty)) (X : Cx C) (S : St C) (op : BinOp) (x : SV C) {R : Type} (k : SV C → Option R) : Option R :=
  match tk, x with
  | some (.one (.sli _)), .one (.nil _) => match op with
    | .eql => k (.one (.bool true))
    | .neq => k (.one (.bool false))
    | _ => none
  | some (.one (.sli _)), .one l => match op with
    | .eql => Sli S X l fun _ xs => nilq xs.isEmpty (k (.one (.bool true))) (k (.one (.bool false)))
    | .neq => Sli S X l fun _ xs => nilq xs.isEmpty (k (.one (.bool false))) (k (.one (.bool true)))
    | _ => none
  | _, _ => none
def byteOf : List (Lf C) → UInt8
  | .int _ n :: _ => UInt8.ofNat n.toNat
  | _ => 0
/-- Bytes as a text. -/
def strOf (K : Cd C) (t : Ty) (xs : List (C t)) : ByteArray := ⟨(xs.map fun x => byteOf (K.enc t x)).toArray⟩

def addOff : Lf C → Nat → Option (Lf C)
  | .ptr id o, n => some (.ptr id (o + n))
  | .elt t x o, n => some (.elt t x (o + n))
  | .ep id p i o, n => some (.ep id p i (o + n))
  | _, _ => none

/-- The numbers of things in memory that a cell names. -/
def idsL : Lf C → List Nat
  | .ref id _ => [id]
  | .ep id _ _ _ => [id]
  | .ptr id _ => [id]
  | _ => []
def idsLs : List (Lf C) → List Nat
  | [] => []
  | l :: r => idsL l ++ idsLs r
def idsT : List (Bool × List (Lf C)) → List Nat
  | [] => []
  | (_, ls) :: r => idsLs ls ++ idsT r
def idsV0 : SV C → List Nat
  | .one l => idsL l
  | .agg ls => idsLs ls
  | .tup vs => idsT vs
  | .hdr id _ => [id]
  | _ => []
def idsE0 : List (Nat × SV C) → List Nat
  | [] => []
  | (_, v) :: r => idsV0 v ++ idsE0 r
def idsO : List (Nat × Ob C) → List Nat
  | [] => []
  | (id, .box ls) :: r => id :: (idsLs ls ++ idsO r)
  | (id, .row ..) :: r => id :: idsO r

/-- Does a cell name a place inside an element's row of this thing? -/
def deepL (id : Nat) : Lf C → Bool
  | .ref i (_ :: _) => Nat.beq i id
  | .ep i (_ :: _) _ _ => Nat.beq i id
  | _ => false
def deepV (id : Nat) : SV C → Bool
  | .one l => deepL id l
  | .agg ls => ls.any (deepL id)
  | .tup vs => vs.any fun x => x.2.any (deepL id)
  | _ => false
def deepO (id : Nat) : Ob C → Bool
  | .box ls => ls.any (deepL id)
  | .row .. => false
def undeep (id : Nat) : List (Nat × SV C) → List (Nat × SV C)
  | [] => []
  | (t, v) :: r => cond (deepV id v) (rm (undeep id r) t) ((t, v) :: undeep id r)

def newId (o : Oper) : Nat := match o.dst with
  | some d => 64 * d
  | none => 0
/-- The state with a new thing in memory, its number unused till now. -/
def St.add (S : St C) (id : Nat) (ob : Ob C) : Option (St C) := cond ((idsE0 S.env ++ idsO S.objs).any (Nat.beq id)) none (some (S.setObj id ob))
def St.addAll (S : St C) : List (Nat × Ob C) → Option (St C)
  | [] => some S
  | (id, ob) :: r => match S.add id ob with
    | some S' => S'.addAll r
    | none => none

/-- The elements of a literal: each part in its place, in order. -/
def elems (X : Cx C) (t : Ty) (S : St C) : Nat → List (Nat × Operand) → Option (List (C t) × St C × Bool)
  | _, [] => some ([], S, false)
  | n, (i, x) :: r => match opdT X S (X.K.tid t) x with
    | some v => match absorb S v.leaves with
      | some (ls, S', b) => match X.K.dec t ls with
        | some e => match elems X t S' (n + 1) r with
          | some (es, S'', b') => cond (Nat.beq i n) (some (e :: es, S'', b || b')) none
          | none => none
        | none => none
      | none => none
    | none => none

def evalAll (S : St C) (X : Cx C) : List Operand → List TypeId → Option (List (SV C))
  | [], _ => some []
  | x :: r, ts => match opdT X S (ts.headD 0) x with
    | some v => match viewV S v with
      | some v' => match evalAll S X r ts.tail with
        | some vs => some (v' :: vs)
        | none => none
      | none => none
    | none => none

def partsOf (X : Cx C) (fs : List (Nat × Nat × Bool)) (S : St C) : List (Nat × Operand) → List (Lf C) → Option (List (Lf C))
  | [], ls => some ls
  | (i, x) :: r, ls => match fs[i]?, opd S x with
    | some (off, n, ag), some v => cond (Nat.beq v.leaves.length n && Nat.ble 1 n) (partsOf X fs S r (setAt ls off v.leaves)) none
    | _, _ => none

def castT [DecidableEq Ty] (t t' : Ty) (xs : List (C t)) : Option (List (C t')) := match decEq t t' with
  | isTrue h => some (h ▸ xs)
  | isFalse _ => none
def delO (S : St C) : Option Nat → St C
  | some id => S.delObj id
  | none => S
/-- Behind an append: the old row and the handed row are gone, the new one has a number of its own. -/
def apnd [DecidableEq Ty] {R : Type} (X : Cx C) (o : Oper) (S : St C) (t t0 t1 : Ty) (xs : List (C t0)) (ys : List (C t1)) (id0 id1 : Option Nat) (sh : Bool) (k : St C → Option R) : Option R :=
  match castT t0 t xs, castT t1 t ys with
  | some xs, some ys => cond (decide ((xs.length + ys.length) * X.K.bytes t ≤ 140737488355328)) (match St.add (delO (delO S id0) id1) (newId o) (.row t (xs ++ ys) (cond (X.K.flat t) false sh)) with
    | some S' => k (S'.put o.dst (.one (.ref (newId o) [])))
    | none => none) none
  | _, _ => none

/-! ### Own rows handed to a function that writes through them -/
abbrev Tgt := Option (Nat × List (Nat × Nat))
def ownL {R : Type} (X : Cx C) (S : St C) (l : Lf C) (k : Lf C → Tgt → Option R) : Option R :=
  match l with
  | .ref id p => match lk S.objs id with
    | some (.row t xs false) => path X.K p t xs fun t' zs => k (.row t' zs) (some (id, p))
    | _ => none
  | .nil t => k (.row t []) none
  | .int ki n => k (.int ki n) none
  | .bool b => k (.bool b) none
  | .str s => k (.str s) none
  | _ => none
def ownLs {R : Type} (X : Cx C) (S : St C) : List (Lf C) → (List (Lf C) → List Tgt → Option R) → Option R
  | [], k => k [] []
  | l :: r, k => ownL X S l fun l' t => ownLs X S r fun r' ts => k (l' :: r') (t :: ts)
def ownAll {R : Type} (X : Cx C) (S : St C) : List Operand → List TypeId → (List (Bool × List (Lf C)) → List Tgt → Option R) → Option R
  | [], _, k => k [] []
  | x :: r, ts, k => match opdT X S (ts.headD 0) x with
    | some (.one l) => ownLs X S [l] fun ls t => ownAll X S r ts.tail fun rs t' => k ((false, ls) :: rs) (t ++ t')
    | some (.agg ls) => ownLs X S ls fun ls t => ownAll X S r ts.tail fun rs t' => k ((true, ls) :: rs) (t ++ t')
    | _ => none
def tids : List Tgt → List Nat
  | [] => []
  | some (id, _) :: r => id :: tids r
  | none :: r => tids r
/-- Does a cell name a place in one of these? -/
def touchL (ids : List Nat) : Lf C → Bool
  | .ref i (_ :: _) => ids.any (Nat.beq i)
  | .ep i _ _ _ => ids.any (Nat.beq i)
  | _ => false
def touchV (ids : List Nat) : SV C → Bool
  | .one l => touchL ids l
  | .agg ls => ls.any (touchL ids)
  | .tup vs => vs.any fun x => x.2.any (touchL ids)
  | _ => false
def untouch (ids : List Nat) : List (Nat × SV C) → List (Nat × SV C)
  | [] => []
  | (t, v) :: r => cond (touchV ids v) (rm (untouch ids r) t) ((t, v) :: untouch ids r)
def touchO (ids : List Nat) : Ob C → Bool
  | .box ls => ls.any (touchL ids)
  | .row .. => false
/-- The row with another one at a path. -/
def setPath [DecidableEq Ty] {R : Type} (K : Cd C) : List (Nat × Nat) → (t : Ty) → List (C t) → Lf C → (List (C t) → Option R) → Option R
  | [], t, _, .row t' ys, k => match castT t' t ys with
    | some ys => k ys
    | none => none
  | (i, o) :: p, t, xs, l, k => Option.bind xs[i]? fun x => match (K.enc t x)[o]? with
    | some (.row t' ys) => setPath K p t' ys l fun ys' => match K.dec t ((K.enc t x).set o (.row t' ys')) with
      | some y => k (xs.set i y)
      | none => none
    | _ => none
  | _, _, _, _, _ => none
def putAll [DecidableEq Ty] {R : Type} (K : Cd C) : List (Lf C) → List Tgt → List (Lf C) → St C → (St C → Option R) → Option R
  | [], [], [], S, k => k S
  | .row _ _ :: ls, some (id, p) :: ts, l :: os, S, k => match lk S.objs id with
    | some (.row t xs false) => setPath K p t xs l fun xs' => putAll K ls ts os (S.setObj id (.row t xs' false)) k
    | _ => none
  | .row _ _ :: ls, none :: ts, _ :: os, S, k => putAll K ls ts os S k
  | .int _ _ :: ls, none :: ts, os, S, k => putAll K ls ts os S k
  | .bool _ :: ls, none :: ts, os, S, k => putAll K ls ts os S k
  | .str _ :: ls, none :: ts, os, S, k => putAll K ls ts os S k
  | _, _, _, _, _ => none

def flatten : List (Bool × List (Lf C)) → List (Lf C)
  | [] => []
  | x :: r => x.2 ++ flatten r
def nodupB : List Nat → Bool
  | [] => true
  | n :: r => (!r.any (Nat.beq n)) && nodupB r

def callW [DecidableEq Ty] {R : Type} (X : Cx C) (S : St C) (f : Nat) (as : List Operand) (ts : List TypeId) (o : Oper) (k : St C → Option R) : Option R :=
  match X.conw f with
  | some c' => ownAll X S as ts fun vs ts => cond (nodupB (tids ts) && !(S.objs.any fun x => touchO (tids ts) x.2))
    (Option.bind (c'.g vs) fun r => putAll X.K (flatten vs) ts (c'.out r) { S with env := untouch (tids ts) S.env } fun S' => match internAll (newId o) (c'.ret r) with
      | (rs, news) => match toSV rs, S'.addAll news with
        | some v, some S'' => k (S''.put o.dst v)
        | _, _ => none) none
  | none => none

/-- A bound of a slice expression. -/
def bnd (S : St C) (n : Nat) : Option Operand → Option Int
  | none => some n
  | some x => match opd S x with
    | some (.one (.int _ m)) => some m
    | _ => none

noncomputable def ev [DecidableEq Ty] {R : Type} (X : Cx C) (o : Oper) (S : St C) (k : St C → Option R) : Option R :=
  match o.op with
  | .move x | .assign x => match opdT X S o.type x with
    | some v => k (S.put o.dst v)
    | none => none
  | .pick c a b => match opd S c, opd S a, opd S b with
    | some (.one (.bool c)), some (.one (.bool x)), some (.one (.bool y)) => k (S.put o.dst (.one (.bool (cond c x y))))
    | some (.one (.bool true)), some v, _ => k (S.put o.dst v)
    | some (.one (.bool false)), _, some v => k (S.put o.dst v)
    | _, _, _ => none
  | .box e x => match opd S x, X.tk e with
    | some v, some tk => cond (fits v tk) (match S.add (newId o) (.box v.leaves) with
      | some S' => k (S'.put o.dst (.one (.ptr (newId o) 0)))
      | none => none) none
    | _, _ => none
  | .alloc e => match X.tk e with
    | some (.one z) => match S.add (newId o) (.box [z.lf]) with
      | some S' => k (S'.put o.dst (.one (.ptr (newId o) 0)))
      | none => none
    | some (.agg _ zs) => match S.add (newId o) (.box (zs.map ZL.lf)) with
      | some S' => k (S'.put o.dst (.one (.ptr (newId o) 0)))
      | none => none
    | none => none
  | .build t parts => match X.tk t with
    | some (.agg fs zs) => match partsOf X fs S parts.toList (zs.map ZL.lf) with
      | some ls => cond (fs.all fun f => Nat.ble (f.1 + f.2.1) zs.length) (k (S.put o.dst (.agg ls))) none
      | none => none
    | _ => none
  | .buildSlice t n parts => match X.tk t with
    | some (.one (.sli t)) => match elems X t S 0 parts.toList with
      | some (es, S', b) => cond (Nat.beq es.length n && Nat.ble (n * X.K.sz t) 16777216) (match S'.add (newId o) (.row t es (cond (X.K.flat t) false b)) with
        | some S'' => k (S''.put o.dst (.one (.ref (newId o) [])))
        | none => none) none
      | none => none
    | _ => none
  | .load t a => match X.tk t, opd S a with
    | some tk, some (.one l) => cellsAt X S l fun ls => match mkSV tk ls with
      | some v => k (S.put o.dst v)
      | none => none
    | _, _ => none
  | .store t a x => match X.tk t, opd S a, opdT X S t x with
    | some tk, some (.one (.ptr id off)), some v => cond (fits v tk) (match lk S.objs id with
      | some (.box ls) => cond (Nat.ble (off + tk.size) ls.length) (k ((S.setObj id (.box (setAt ls off v.leaves))).drop o.dst)) none
      | _ => none) none
    | some tk, some (.one (.ep id [] i off)), some v => cond (fits v tk) (match absorb S v.leaves with
      | some (ls, S', b) => match lk S'.objs id with
        | some (.row t xs sh) => cond (b && !sh) none (Option.bind xs[i]? fun x => match X.K.dec t (setAt (X.K.enc t x) off ls) with
          | some y => cond (Nat.ble (off + tk.size) (X.K.sz t)) (cond (S'.objs.any fun x => deepO id x.2) none (k (({ S'.setObj id (.row t (xs.set i y) sh) with env := undeep id S'.env }).drop o.dst))) none
          | none => none)
        | _ => none
      | none => none) none
    | _, _, _ => none
  | .nilCheck x => match opd S x with
    | some (.one (.ptr id off)) => k (S.put o.dst (.one (.ptr id off)))
    | some (.one (.elt t x off)) => k (S.put o.dst (.one (.elt t x off)))
    | some (.one (.ep id p i off)) => k (S.put o.dst (.one (.ep id p i off)))
    | _ => none
  | .binOp op t x y t' => match opdT X S t x, opdT X S t' y with
    | some a, some (.one (.nil _)) => nilB (X.tk t) X S op a fun v => k (S.put o.dst v)
    | some a, some b => binL (X.tk t) op a b fun v => k (S.put o.dst v)
    | _, _ => none
  | .unOp op t x => match op, opd S x with
    | .not, some (.one (.bool b)) => k (S.put o.dst (.one (.bool (!b))))
    | .neg, some (.one (.int ki n)) => k (S.put o.dst (.one (.int ki (ki.wrap (0 - n)))))
    | _, _ => none
  | .convert t t' x => match X.tk t, X.tk t', opd S x with
    | some _, some (.one (.int k')), some (.one (.int _ n)) => k (S.put o.dst (.one (.int k' (k'.wrap n))))
    | some _, some (.one .str), some (.one (.str s)) => k (S.put o.dst (.one (.str s)))
    | some (.one (.sli t1)), some (.one .str), some (.one l) => Sli S X l fun t0 xs => cond (decide (t0 = t1)) (cond (X.K.byte t1) (match X.tk (X.K.tid t1) with
      | some (.one (.int .u8)) => k (S.put o.dst (.one (.str (strOf X.K t0 xs))))
      | _ => none) none) none
    | _, _, _ => none
  | .fieldAddr t x f => match X.tk t, opd S x with
    | some (.agg fs _), some (.one l) => match fs[f]? with
      | some (off, _, _) => match addOff l off with
        | some l' => k (S.put o.dst (.one l'))
        | none => none
      | none => none
    | _, _ => none
  | .field t x f => match X.tk t, opd S x with
    | some (.agg fs _), some (.agg ls) => match fs[f]? with
      | some (off, n, true) => k (S.put o.dst (.agg ((ls.drop off).take n)))
      | some (off, _, false) => match ls[off]? with
        | some l => k (S.put o.dst (.one l))
        | none => none
      | none => none
    | _, _ => none
  | .indexAddr t x i => match X.tk t, opd S x, opd S i with
    | some (.one (.sli t1)), some (.one (.row t0 xs)), some (.one (.int _ n)) => cond (decide (t0 = t1)) (cond (decide (0 ≤ n)) (Option.bind xs[n.toNat]? fun e => k (S.put o.dst (.one (.elt t0 e 0)))) none) none
    | some (.one (.sli t1)), some (.one (.ref id p)), some (.one (.int _ n)) => cond (decide (0 ≤ n)) (Sli S X (.ref id p) fun t0 xs =>
        cond (decide (t0 = t1)) (cond (decide (n < (xs.length : Int))) (k (S.put o.dst (.one (.ep id p n.toNat 0)))) none) none) none
    | _, _, _ => none
  | .index t x i => match X.tk t, opd S x, opd S i with
    | some (.one .str), some (.one (.str s)), some (.one (.int _ n)) => cond (decide (0 ≤ n)) (cond (decide (n < (s.size : Int))) (k (S.put o.dst (.one (.int .u8 (sbt s n))))) none) none
    | _, _, _ => none
  | .slice t x lo hi mx => match mx, X.tk t, opd S x with
    | none, some (.one .str), some (.one (.str s)) =>
      match bnd S 0 lo, bnd S s.size hi with
      | some l, some h => cond (decide (0 ≤ l)) (cond (decide (l ≤ h)) (cond (decide (h ≤ (s.size : Int))) (k (S.put o.dst (.one (.str (s.extract l.toNat h.toNat))))) none) none) none
      | _, _ => none
    | none, some (.one (.sli t1)), some (.one (.row t0 xs)) =>
      match bnd S 0 lo, bnd S xs.length hi with
      | some l, some h => cond (decide (t0 = t1)) (cond (decide (0 ≤ l)) (cond (decide (l ≤ h)) (cond (decide (h ≤ (xs.length : Int))) (k (S.put o.dst (.one (.row t0 ((xs.take h.toNat).drop l.toNat))))) none) none) none) none
      | _, _ => none
    | _, _, _ => none
  | .makeSlice t n c => match X.tk t, opd S n, opd S c with
    | some (.one (.sli t)), some (.one (.int _ n)), some (.one (.int _ m)) =>
      cond (decide (n = m)) (cond (decide (0 ≤ n)) (cond (decide (n * (X.K.bytes t : Int) ≤ 140737488355328)) (match S.add (newId o) (.row t (List.replicate n.toNat (X.K.zero t)) false) with
        | some S' => k (S'.put o.dst (.one (.ref (newId o) [])))
        | none => none) none) none) none
    | _, _, _ => none
  | .extract t i => match opd S t with
    | some (.tup vs) => match vs[i]? with
      | some (false, [l]) => k (S.put o.dst (.one l))
      | some (true, ls) => k (S.put o.dst (.agg ls))
      | _ => none
    | _ => none
  | .call c => match c.callee with
    | .builtin .len => match c.args.toList, c.argTypes.toList with
      | [x], [t] => match X.tk t, opd S x with
        | some (.one .str), some (.one (.str s)) => k (S.put o.dst (.one (.int .i64 s.size)))
        | some (.one (.sli _)), some (.one l) => Sli S X l fun _ xs => k (S.put o.dst (.one (.int .i64 xs.length)))
        | _, _ => none
      | _, _ => none
    | .builtin .append => match c.args.toList, c.argTypes.toList with
      | [s, x], [t, t'] => match X.tk t, opdT X S t s, opdT X S t' x with
        | some (.one (.sli t)), some (.one l), some (.one m) =>
          cond (Nat.beq (c.argTypes.toList.headD 0) t') (match l with
          | .nil t0 => match m with
            | .ref id [] => match lk S.objs id with
              | some (.row t1 ys sh) => apnd X o S t t0 t1 [] ys none (some id) sh k
              | _ => none
            | .row t1 ys => apnd X o S t t0 t1 [] ys none none true k
            | .nil t1 => apnd X o S t t0 t1 [] [] none none false k
            | _ => none
          | .ref id0 [] => match lk S.objs id0 with
            | some (.row t0 xs sh0) => match m with
              | .ref id [] => cond (Nat.beq id0 id) none (match lk S.objs id with
                | some (.row t1 ys sh) => apnd X o S t t0 t1 xs ys (some id0) (some id) (sh0 || sh) k
                | _ => none)
              | .row t1 ys => apnd X o S t t0 t1 xs ys (some id0) none true k
              | .nil t1 => apnd X o S t t0 t1 xs [] (some id0) none sh0 k
              | _ => none
            | _ => none
          | _ => none) none
        | _, _, _ => none
      | _, _ => none
    | .value (.func f) => match X.con f with
      | some c' => match evalAll S X c.args.toList c.argTypes.toList with
        | some vs => Option.bind (c'.g vs) fun r => match internAll (newId o) (c'.ret r) with
          | (rs, news) => match toSV rs, S.addAll news with
            | some v, some S' => k (S'.put o.dst v)
            | _, _ => none
        | none => none
      | none => callW X S f c.args.toList c.argTypes.toList o k
    | _ => none
  | _ => none

/-- The operations of a region in the text's order. -/
noncomputable def evs [DecidableEq Ty] {R : Type} (X : Cx C) (all : Array Oper) : List Oper → St C → (St C → Option R) → Option R
  | [], S, k => k S
  | o :: r, S, k => match o.guard with
    | none => ev X o S (fun S' => evs X all r S' k)
    | some (j, want) => match (all[j]?).bind (·.dst) with
      | some d => match lk S.env d with
        | some (.one (.bool b)) => cond b
            (match want with
              | true => ev X o (S.put (some d) (.one (.bool true))) (fun S' => evs X all r S' k)
              | false => evs X all r ((S.put (some d) (.one (.bool true))).put o.dst .und) k)
            (match want with
              | true => evs X all r ((S.put (some d) (.one (.bool false))).put o.dst .und) k
              | false => ev X o (S.put (some d) (.one (.bool false))) (fun S' => evs X all r S' k))
        | some .und => evs X all r (S.put o.dst .und) k
        | _ => none
      | none => none

/-! ### Regions whose order is drawn -/
def nodupN : List Nat → Bool
  | [] => true
  | n :: r => (!r.any (Nat.beq n)) && nodupN r
def rmAll {α : Type} : List Nat → List (Nat × α) → List (Nat × α)
  | [], l => l
  | d :: r, l => rmAll r (rm l d)
/-- The own rows that cells move in. -/
def refsL : List (Lf C) → List Nat
  | [] => []
  | .ref id [] :: r => id :: refsL r
  | _ :: r => refsL r
def refsP (X : Cx C) (t : Ty) (S : St C) : List (Nat × Operand) → List Nat
  | [] => []
  | (_, x) :: r => match opdT X S (X.K.tid t) x with
    | some v => refsL v.leaves ++ refsP X t { S with objs := rmAll (refsL v.leaves) S.objs } r
    | none => []
def insList (o : Option Nat) : List Nat := match o with
  | some id => [id]
  | none => []
def apndq [DecidableEq Ty] {R : Type} (X : Cx C) (o : Oper) (S : St C) (t t0 t1 : Ty) (xs : List (C t0)) (ys : List (C t1)) (id0 id1 : Option Nat) (sh : Bool) (k : SV C → List (Nat × Ob C) → List Nat → Option R) : Option R :=
  match castT t0 t xs, castT t1 t ys with
  | some xs, some ys => cond (decide ((xs.length + ys.length) * X.K.bytes t ≤ 140737488355328)) (k (.one (.ref (newId o) [])) [(newId o, .row t (xs ++ ys) (cond (X.K.flat t) false sh))] (insList id0 ++ insList id1)) none
  | _, _ => none
/-- An operation that writes into nothing: its value, what is new, what has moved. -/
def evq [DecidableEq Ty] {R : Type} (X : Cx C) (o : Oper) (S : St C) (k : SV C → List (Nat × Ob C) → List Nat → Option R) : Option R :=
  match o.op with
  | .move x => match opdT X S o.type x with
    | some v => k v [] []
    | none => none
  | .pick c a b => match opd S c, opd S a, opd S b with
    | some (.one (.bool c)), some (.one (.bool x)), some (.one (.bool y)) => k (.one (.bool (cond c x y))) [] []
    | some (.one (.bool true)), some v, _ => k v [] []
    | some (.one (.bool false)), _, some v => k v [] []
    | _, _, _ => none
  | .box e x => match opd S x, X.tk e with
    | some v, some tk => cond (fits v tk) (k (.one (.ptr (newId o) 0)) [(newId o, .box v.leaves)] []) none
    | _, _ => none
  | .alloc e => match X.tk e with
    | some (.one z) => k (.one (.ptr (newId o) 0)) [(newId o, .box [z.lf])] []
    | some (.agg _ zs) => k (.one (.ptr (newId o) 0)) [(newId o, .box (zs.map ZL.lf))] []
    | none => none
  | .build t parts => match X.tk t with
    | some (.agg fs zs) => match partsOf X fs S parts.toList (zs.map ZL.lf) with
      | some ls => cond (fs.all fun f => Nat.ble (f.1 + f.2.1) zs.length) (k (.agg ls) [] []) none
      | none => none
    | _ => none
  | .buildSlice t n parts => match X.tk t with
    | some (.one (.sli t)) => match elems X t S 0 parts.toList with
      | some (es, _, b) => cond (Nat.beq es.length n && Nat.ble (n * X.K.sz t) 16777216) (k (.one (.ref (newId o) [])) [(newId o, .row t es (cond (X.K.flat t) false b))] (refsP X t S parts.toList)) none
      | none => none
    | _ => none
  | .load t a => match X.tk t, opd S a with
    | some tk, some (.one l) => cellsAt X S l fun ls => match mkSV tk ls with
      | some v => k v [] []
      | none => none
    | _, _ => none
  | .nilCheck x => match opd S x with
    | some (.one (.ptr id off)) => k (.one (.ptr id off)) [] []
    | some (.one (.elt t x off)) => k (.one (.elt t x off)) [] []
    | some (.one (.ep id p i off)) => k (.one (.ep id p i off)) [] []
    | _ => none
  | .binOp op t x y t' => match opdT X S t x, opdT X S t' y with
    | some _, some (.one (.nil _)) => none
    | some a, some b => binL (X.tk t) op a b fun v => k v [] []
    | _, _ => none
  | .unOp op t x => match op, opd S x with
    | .not, some (.one (.bool b)) => k (.one (.bool (!b))) [] []
    | .neg, some (.one (.int ki n)) => k (.one (.int ki (ki.wrap (0 - n)))) [] []
    | _, _ => none
  | .convert t t' x => match X.tk t, X.tk t', opd S x with
    | some _, some (.one (.int k')), some (.one (.int _ n)) => k (.one (.int k' (k'.wrap n))) [] []
    | some _, some (.one .str), some (.one (.str s)) => k (.one (.str s)) [] []
    | some (.one (.sli t1)), some (.one .str), some (.one l) => Sli S X l fun t0 xs => cond (decide (t0 = t1)) (cond (X.K.byte t1) (match X.tk (X.K.tid t1) with
      | some (.one (.int .u8)) => k (.one (.str (strOf X.K t0 xs))) [] []
      | _ => none) none) none
    | _, _, _ => none
  | .fieldAddr t x f => match X.tk t, opd S x with
    | some (.agg fs _), some (.one l) => match fs[f]? with
      | some (off, _, _) => match addOff l off with
        | some l' => k (.one l') [] []
        | none => none
      | none => none
    | _, _ => none
  | .field t x f => match X.tk t, opd S x with
    | some (.agg fs _), some (.agg ls) => match fs[f]? with
      | some (off, n, true) => k (.agg ((ls.drop off).take n)) [] []
      | some (off, _, false) => match ls[off]? with
        | some l => k (.one l) [] []
        | none => none
      | none => none
    | _, _ => none
  | .indexAddr t x i => match X.tk t, opd S x, opd S i with
    | some (.one (.sli t1)), some (.one (.row t0 xs)), some (.one (.int _ n)) => cond (decide (t0 = t1)) (cond (decide (0 ≤ n)) (Option.bind xs[n.toNat]? fun e => k (.one (.elt t0 e 0)) [] []) none) none
    | some (.one (.sli t1)), some (.one (.ref id p)), some (.one (.int _ n)) => cond (decide (0 ≤ n)) (Sli S X (.ref id p) fun t0 xs =>
        cond (decide (t0 = t1)) (cond (decide (n < (xs.length : Int))) (k (.one (.ep id p n.toNat 0)) [] []) none) none) none
    | _, _, _ => none
  | .index t x i => match X.tk t, opd S x, opd S i with
    | some (.one .str), some (.one (.str s)), some (.one (.int _ n)) => cond (decide (0 ≤ n)) (cond (decide (n < (s.size : Int))) (k (.one (.int .u8 (sbt s n))) [] []) none) none
    | _, _, _ => none
  | .slice t x lo hi mx => match mx, X.tk t, opd S x with
    | none, some (.one .str), some (.one (.str s)) =>
      match bnd S 0 lo, bnd S s.size hi with
      | some l, some h => cond (decide (0 ≤ l)) (cond (decide (l ≤ h)) (cond (decide (h ≤ (s.size : Int))) (k (.one (.str (s.extract l.toNat h.toNat))) [] []) none) none) none
      | _, _ => none
    | none, some (.one (.sli t1)), some (.one (.row t0 xs)) =>
      match bnd S 0 lo, bnd S xs.length hi with
      | some l, some h => cond (decide (t0 = t1)) (cond (decide (0 ≤ l)) (cond (decide (l ≤ h)) (cond (decide (h ≤ (xs.length : Int))) (k (.one (.row t0 ((xs.take h.toNat).drop l.toNat))) [] []) none) none) none) none
      | _, _ => none
    | _, _, _ => none
  | .makeSlice t n c => match X.tk t, opd S n, opd S c with
    | some (.one (.sli t)), some (.one (.int _ n)), some (.one (.int _ m)) =>
      cond (decide (n = m)) (cond (decide (0 ≤ n)) (cond (decide (n * (X.K.bytes t : Int) ≤ 140737488355328)) (k (.one (.ref (newId o) [])) [(newId o, .row t (List.replicate n.toNat (X.K.zero t)) false)] []) none) none) none
    | _, _, _ => none
  | .extract t i => match opd S t with
    | some (.tup vs) => match vs[i]? with
      | some (false, [l]) => k (.one l) [] []
      | some (true, ls) => k (.agg ls) [] []
      | _ => none
    | _ => none
  | .call c => match c.callee with
    | .builtin .len => match c.args.toList, c.argTypes.toList with
      | [x], [t] => match X.tk t, opd S x with
        | some (.one .str), some (.one (.str s)) => k (.one (.int .i64 s.size)) [] []
        | some (.one (.sli _)), some (.one l) => Sli S X l fun _ xs => k (.one (.int .i64 xs.length)) [] []
        | _, _ => none
      | _, _ => none
    | .builtin .append => match c.args.toList, c.argTypes.toList with
      | [s, x], [t, t'] => match X.tk t, opdT X S t s, opdT X S t' x with
        | some (.one (.sli t)), some (.one l), some (.one m) =>
          cond (Nat.beq (c.argTypes.toList.headD 0) t') (match l with
          | .nil t0 => match m with
            | .ref id [] => match lk S.objs id with
              | some (.row t1 ys sh) => apndq X o S t t0 t1 [] ys none (some id) sh k
              | _ => none
            | .row t1 ys => apndq X o S t t0 t1 [] ys none none true k
            | .nil t1 => apndq X o S t t0 t1 [] [] none none false k
            | _ => none
          | .ref id0 [] => match lk S.objs id0 with
            | some (.row t0 xs sh0) => match m with
              | .ref id [] => cond (Nat.beq id0 id) none (match lk S.objs id with
                | some (.row t1 ys sh) => apndq X o S t t0 t1 xs ys (some id0) (some id) (sh0 || sh) k
                | _ => none)
              | .row t1 ys => apndq X o S t t0 t1 xs ys (some id0) none true k
              | .nil t1 => apndq X o S t t0 t1 xs [] (some id0) none sh0 k
              | _ => none
            | _ => none
          | _ => none) none
        | _, _, _ => none
      | _, _ => none
    | .value (.func f) => match X.con f with
      | some c' => match evalAll S X c.args.toList c.argTypes.toList with
        | some vs => Option.bind (c'.g vs) fun r => match internAll (newId o) (c'.ret r) with
          | (rs, news) => match toSV rs with
            | some v => k v news.reverse []
            | none => none
        | none => none
      | none => none
    | _ => none
  | _ => none

/-- An operation of a drawn region: its value, what is new, what has moved; or that it was passed by. need: the numbers of what it looked at. -/
structure Ent (C : Ty → Type) where
  ix : Nat
  dst : Option Tmp
  eff : Option (SV C × List (Nat × Ob C) × List Nat)
  need : List Nat
  ran : Bool
def Ent.app (S : St C) (e : Ent C) : St C := match e.eff with
  | some (v, news, dels) => St.put { S with objs := news ++ rmAll dels S.objs } e.dst v
  | none => S
def SD (S0 : St C) : List (Ent C) → St C
  | [] => S0
  | e :: es => Ent.app (SD S0 es) e

def anc1 (tab : List (Nat × Nat)) : List Edge → Nat
  | [] => 0
  | e :: r => cond (Region.binds .any e) (Nat.lor (Nat.lor (2 ^ e.on) ((lk tab e.on).getD 0)) (anc1 tab r)) (anc1 tab r)
def ancs : Nat → List Oper → List (Nat × Nat) → List (Nat × Nat)
  | _, [], t => t
  | n, o :: r, t => ancs (n + 1) r ((n, anc1 t o.after.toList) :: t)
def has (tab : List (Nat × Nat)) (i j : Nat) : Bool := Nat.testBit ((lk tab i).getD 0) j
def isE (o : Oper) : Bool := match o.op with
  | .store .. => true
  | .assign _ => true
  | _ => false
def isEat (all : Array Oper) (j : Nat) : Bool := match all[j]? with
  | some o => isE o
  | none => false
def below : Nat → List Nat
  | 0 => []
  | n + 1 => n :: below n
def preOp (all : Array Oper) (tab : List (Nat × Nat)) (i : Nat) (o : Oper) : Bool :=
  o.after.toList.all (fun e => !Region.binds .any e || Nat.blt e.on i) && Nat.beq ((lk tab i).getD 0) (anc1 tab o.after.toList) &&
  (below i).all (fun j => !isEat all j || has tab i j) && (!isE o || o.guard.isNone)
def preOps (all : Array Oper) (tab : List (Nat × Nat)) : Nat → List Oper → Bool
  | _, [] => true
  | n, o :: r => preOp all tab n o && preOps all tab (n + 1) r

def tidyA {α : Type} (env : List (Nat × α)) : List Nat → List (Nat × α)
  | [] => []
  | t :: r => match lk env t with
    | some v => (t, v) :: tidyA env r
    | none => tidyA env r
def looks (o : Oper) : List Nat := o.op.operands.toList.filterMap fun x => match x with
  | .tmp t => some t
  | _ => none
def minE (S0 : St C) (ents : List (Ent C)) (tab : List (Nat × Nat)) (n : Nat) (o : Oper) : List (Nat × SV C) := tidyA (SD S0 (ents.filter fun e => has tab n e.ix)).env (looks o)
def minS (S0 : St C) (ents : List (Ent C)) (tab : List (Nat × Nat)) (n : Nat) (o : Oper) : St C :=
  { env := minE S0 ents tab n o, objs := tidyA (SD S0 (ents.filter fun e => has tab n e.ix)).objs (idsE0 (minE S0 ents tab n o)), base := S0.base }

def keysO (l : List (Nat × Ob C)) : List Nat := l.map (·.1)
def Ent.newK (e : Ent C) : List Nat := match e.eff with
  | some (_, news, _) => keysO news
  | none => []
def Ent.dels (e : Ent C) : List Nat := match e.eff with
  | some (_, _, dels) => dels
  | none => []
def Ent.names (e : Ent C) : List Nat := match e.eff with
  | some (v, news, _) => idsV0 v ++ idsO news
  | none => []
def apartN (a b : List Nat) : Bool := a.all fun n => !b.any (Nat.beq n)
def sameD (a b : Option Tmp) : Bool := match a, b with
  | some a, some b => Nat.beq a b
  | _, _ => false
def pairB (tab : List (Nat × Nat)) (e m : Ent C) : Bool :=
  !sameD e.dst m.dst && apartN e.newK m.newK && (has tab m.ix e.ix || (apartN e.newK m.names && apartN e.newK m.dels)) &&
  (has tab e.ix m.ix || has tab m.ix e.ix || apartN m.dels e.need)
def selfB (S0 : St C) (e : Ent C) : Bool :=
  apartN e.newK e.dels && nodupN e.newK && apartN e.newK (idsE0 S0.env ++ idsO S0.objs) && (match e.dst with
    | some d => (lk S0.env d).isNone
    | none => true)
def layB (S0 : St C) (tab : List (Nat × Nat)) (ents : List (Ent C)) : Bool :=
  ents.all fun e => selfB S0 e && ents.all fun m => Nat.beq e.ix m.ix || pairB tab e m

/-- The value of an earlier operation of the layer that is a guard. -/
def grdOf : List (Ent C) → Nat → Option (SV C)
  | [], _ => none
  | e :: r, j => cond (Nat.beq e.ix j) (match e.eff, e.dst with
    | some (v, _, _), some _ => some v
    | _, _ => none) (grdOf r j)
def setGrd : List (Ent C) → Nat → Bool → List (Ent C)
  | [], _, _ => []
  | e :: r, j, b => cond (Nat.beq e.ix j) (match e.eff with
    | some (_, news, dels) => { e with eff := some (.one (.bool b), news, dels) } :: r
    | none => e :: r) (e :: setGrd r j b)

/-- Operations before one that writes which may also come behind it: each choice of late ones. -/
def ups (tab : List (Nat × Nat)) : List Nat → List (List Nat)
  | [] => [[]]
  | j :: r => ups tab r ++ ((ups tab r).filter fun L => r.all fun d => !has tab d j || L.any (Nat.beq d)).map (j :: ·)
def lagIx (tab : List (Nat × Nat)) (n : Nat) (ents : List (Ent C)) : List Nat := ((ents.filter fun e => !has tab n e.ix).map (·.ix)).reverse
noncomputable def altsL {R : Type} : List (Option R) → Option R
  | [] => none
  | [x] => x
  | x :: y :: r => alt x (altsL (y :: r))
def opsAt (all : Array Oper) (L : List Nat) : List (Nat × Oper) := L.filterMap fun i => (all[i]?).map fun o => (i, o)
def numbered : Nat → List Oper → List (Nat × Oper)
  | _, [] => []
  | n, o :: r => (n, o) :: numbered (n + 1) r
noncomputable def dlay [DecidableEq Ty] {R : Type} (X : Cx C) (all : Array Oper) (tab : List (Nat × Nat)) (k : St C → Option R) : Nat → List (Nat × Oper) → St C → List (Ent C) → Option R
  | 0, _, _, _ => none
  | _ + 1, [], S0, ents => cond (layB S0 tab ents) (k (SD S0 ents)) none
  | f + 1, (n, o) :: r, S0, ents => match isE o with
    | true => cond (layB S0 tab ents) (altsL ((ups tab (lagIx tab n ents)).map fun L => ev X o (SD S0 (ents.filter fun e => !L.any (Nat.beq e.ix))) (fun S' => dlay X all tab k f (opsAt all L ++ r) S' []))) none
    | false => match o.guard with
      | none => evq X o (minS S0 ents tab n o) (fun v news dels => dlay X all tab k f r S0 (⟨n, o.dst, some (v, news, dels), idsE0 (minE S0 ents tab n o), true⟩ :: ents))
      | some (j, want) => cond (has tab n j) (match grdOf ents j with
        | some (.one (.bool b)) => cond b
          (match want with
            | true => evq X o (minS S0 (setGrd ents j true) tab n o) (fun v news dels => dlay X all tab k f r S0 (⟨n, o.dst, some (v, news, dels), idsE0 (minE S0 (setGrd ents j true) tab n o), true⟩ :: setGrd ents j true))
            | false => dlay X all tab k f r S0 (⟨n, o.dst, some (.und, [], []), [], false⟩ :: setGrd ents j true))
          (match want with
            | true => dlay X all tab k f r S0 (⟨n, o.dst, some (.und, [], []), [], false⟩ :: setGrd ents j false)
            | false => evq X o (minS S0 (setGrd ents j false) tab n o) (fun v news dels => dlay X all tab k f r S0 (⟨n, o.dst, some (v, news, dels), idsE0 (minE S0 (setGrd ents j false) tab n o), true⟩ :: setGrd ents j false)))
        | some .und => dlay X all tab k f r S0 (⟨n, o.dst, some (.und, [], []), [], false⟩ :: ents)
        | _ => none) none

def qdsts : List Oper → List Nat
  | [] => []
  | o :: r => match isE o, o.dst with
    | false, some d => d :: qdsts r
    | _, _ => qdsts r
noncomputable def drun [DecidableEq Ty] {R : Type} (X : Cx C) (all : Array Oper) (tab : List (Nat × Nat)) (S : St C) (k : St C → Option R) : Option R :=
  cond (preOps all tab 0 all.toList) (dlay X all tab k 4096 (numbered 0 all.toList) { S with env := rmAll (qdsts all.toList) S.env } []) none

def tidyE (env : List (Nat × SV C)) : List Nat → List (Nat × SV C)
  | [] => []
  | t :: r => match lk env t with
    | some v => (t, v) :: tidyE env r
    | none => tidyE env r
def St.tidy (S : St C) (keep : List Nat) : St C := { S with env := tidyE S.env keep }

/-- A cell at the head of a loop: an own row is numbered by its place, a nil slice becomes one. Beside it: new number, old number, content. -/
def canL (S : St C) (n : Nat) : Lf C → Option (Lf C × List (Nat × Option Nat × Ob C))
  | .ref id [] => match lk S.objs id with
    | some (.row t xs sh) => some (.ref n [], [(n, some id, .row t xs sh)])
    | _ => none
  | .nil t => some (.ref n [], [(n, none, .row t [] false)])
  | .int k m => some (.int k m, [])
  | .bool b => some (.bool b, [])
  | .str s => some (.str s, [])
  | .row t xs => some (.row t xs, [])
  | .nilp => some (.nilp, [])
  | .elt t x o => some (.elt t x o, [])
  | _ => none
def canLs (S : St C) : Nat → List (Lf C) → Option (List (Lf C) × List (Nat × Option Nat × Ob C))
  | _, [] => some ([], [])
  | n, l :: r => match canL S n l with
    | some (l', o) => match canLs S (n + 1) r with
      | some (r', o') => some (l' :: r', o ++ o')
      | none => none
    | none => none
def canV (S : St C) (t : Nat) : SV C → Option (SV C × List (Nat × Option Nat × Ob C))
  | .one (.ptr id o) => match lk S.objs id with
    | some (.box ls) => match canLs S (1000000 + 100 * id) ls with
      | some (ls', os) => some (.one (.ptr id o), (id, some id, .box ls') :: os)
      | none => none
    | _ => none
  | .one l => match canL S (100000 + t) l with
    | some (l', os) => some (.one l', os)
    | none => none
  | .agg ls => match canLs S (10000000 + 100 * t) ls with
    | some (ls', os) => some (.agg ls', os)
    | none => none
  | .frame => some (.frame, [])
  | _ => none
def canE (S : St C) : List (Nat × SV C) → List (Nat × SV C) × List (Nat × Option Nat × Ob C)
  | [] => ([], [])
  | (t, v) :: r => match canE S r with
    | (e, os) => match canV S t v with
      | some (v', os') => ((t, v') :: e, os' ++ os)
      | none => (e, os)
def newN : List (Nat × Option Nat × Ob C) → List Nat
  | [] => []
  | (n, _, _) :: r => n :: newN r
def oldN : List (Nat × Option Nat × Ob C) → List Nat
  | [] => []
  | (_, some n, _) :: r => n :: oldN r
  | (_, none, _) :: r => oldN r
def obsN : List (Nat × Option Nat × Ob C) → List (Nat × Ob C)
  | [] => []
  | (n, _, ob) :: r => (n, ob) :: obsN r
/-- The new number of a thing. -/
def newOf : List (Nat × Option Nat × Ob C) → Nat → Option Nat
  | [], _ => none
  | (n, some m, _) :: r, id => cond (Nat.beq m id) (some n) (newOf r id)
  | (_, none, _) :: r, id => newOf r id
def hdrE (os : List (Nat × Option Nat × Ob C)) : List (Nat × SV C) → List (Nat × SV C)
  | [] => []
  | (t, .hdr id j) :: r => match newOf os id with
    | some n => (t, .hdr n j) :: hdrE os r
    | none => hdrE os r
  | _ :: r => hdrE os r
def St.canon (S : St C) (ent : List Nat) : Option (St C) :=
  match canE S (tidyE S.env ent) with
  | (e, os) => cond (nodupN (newN os) && nodupN (oldN os)) (some { S with env := e ++ hdrE os (tidyE S.env ent), objs := obsN os }) none

/-- Canonical, then on. -/
def canThen {R : Type} (ent : List Nat) (rec : St C → Option R) (S : St C) : Option R := match S.canon ent with
  | some S' => rec S'
  | none => none
def iter {R : Type} (f : (St C → Option R) → St C → Option R) (ent : List Nat) : Nat → St C → Option R
  | 0, _ => none
  | n + 1, S => f (canThen ent (iter f ent n)) S
def seqK {R : Type} (rb : St C → (Ex → St C → Option R) → Option R) (k : Ex → St C → Option R) (e : Ex) (S : St C) : Option R := match e with
  | .norm => rb S k
  | e => k e S
def blkK {R : Type} (id : Nat) (k : Ex → St C → Option R) (e : Ex) (S : St C) : Option R := match e with
  | .exit j => cond (Nat.beq j id) (k .norm S) (k (.exit j) S)
  | e => k e S
def lopK {R : Type} (rec : St C → Option R) (k : Ex → St C → Option R) (e : Ex) (S : St C) : Option R := match e with
  | .norm => rec S
  | e => k e S

def keysIn (env : List (Nat × SV C)) : List Nat := env.map (·.1)

structure Cf where
  N : Nat
  keep : List Nat
  live : Nat → Option (List Nat)

def Cf.ent (F : Cf) (cur : Nat) (S : St C) : List Nat := match F.live cur with
  | some l => l
  | none => keysIn S.env

noncomputable def run [DecidableEq Ty] {R : Type} (X : Cx C) (F : Cf) : Code → Nat → St C → (Ex → St C → Option R) → Option R
  | .skip, _, S, k => k .norm S
  | .region _ ops draw, _, S, k => match draw with
    | false => evs X ops ops.toList S (fun S' => k .norm (S'.tidy F.keep))
    | true => drun X ops (ancs 0 ops.toList []) S (fun S' => k .norm (S'.tidy F.keep))
  | .seq a b, cur, S, k => run X F a cur S (seqK (run X F b cur) k)
  | .cond c x y, cur, S, k => match c with
    | .tmp t => match lk S.env t with
      | some (.one (.bool b)) => cond b (run X F x cur (S.drop (some t)) k) (run X F y cur (S.drop (some t)) k)
      | _ => none
    | _ => none
  | .block id c, _, S, k => run X F c id S (blkK id k)
  | .loop body, cur, S, k => canThen (F.ent cur S) (iter (fun rec S => run X F body cur S (lopK rec k)) (F.ent cur S) F.N) S
  | .exit id, _, S, k => k (.exit id) S
  | .ret, _, S, k => k .ret S
  | .label _, _, S, k => k .norm S
  | _, _, _, _ => none

/-- A function's results. -/
def resOf (X : Cx C) (S : St C) : List ResultVar → Option (List (Bool × List (Lf C)))
  | [] => some []
  | .tmp t :: r => match lk S.env t with
    | some (.one l) => match resOf X S r with
      | some rs => some ((false, [l]) :: rs)
      | none => none
    | some (.agg ls) => match resOf X S r with
      | some rs => some ((true, ls) :: rs)
      | none => none
    | _ => none
  | .cell a t :: r => match lk S.env a, X.tk t with
    | some (.one l), some tk => cellsAt X S l fun ls => match mkSV tk ls, resOf X S r with
      | some (.one l), some rs => some ((false, [l]) :: rs)
      | some (.agg ls), some rs => some ((true, ls) :: rs)
      | _, _ => none
    | _, _ => none

def reshape : List (Bool × List (Lf C)) → List (Lf C) → List (Bool × List (Lf C))
  | [], _ => []
  | x :: r, ls => (x.1, ls.take x.2.length) :: reshape r (ls.drop x.2.length)
/-- Results that are the caller's: each row is an own one and moves out. -/
def outs (S : St C) (rs : List (Bool × List (Lf C))) : Option (List (Bool × List (Lf C))) :=
  match absorb S (flatten rs) with
  | some (ls', _, false) => some (reshape rs ls')
  | _ => none

def argEnv : Nat → List (SV C) → List (Nat × SV C)
  | _, [] => []
  | n, v :: r => (n, v) :: argEnv (n + 1) r
def start (vs : List (SV C)) : St C := { env := argEnv 0 vs, objs := [], base := 0 }

noncomputable def runFn [DecidableEq Ty] {R : Type} (X : Cx C) (F : Cf) (fn : Func) (vs : List (SV C)) (k : List (Bool × List (Lf C)) → Option R) : Option R :=
  match fn.body with
  | some c => run X F c 0 (start vs) (fun e S => match e with
    | .exit _ => none
    | _ => match resOf X S fn.results.toList with
      | some rs => match outs S rs with
        | some rs' => k rs'
        | none => none
      | none => none)
  | none => none
end
end Go.Proofs.Ytgpopgfidphheaa.Ab
