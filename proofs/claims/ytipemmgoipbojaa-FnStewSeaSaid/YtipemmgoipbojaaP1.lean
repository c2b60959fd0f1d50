/- Part 1 of the proof: an abstract machine proved sound over the model, the functions that it reckons, the plain law. Names made short by a program. No conditions. -/
import Derived.Calls
import Derived.Orders
import Derived.Below
import Derived.Laws.AppendOwn
import Derived.Laws.Cells
import Derived.KernelRfl
import Derived.Laws.Slices
import Derived.Laws.Strings
import Derived.Laws.StructEq
import Derived.Tactics
import Derived.Laws.BytesString
import Derived.Laws.MakeOwn
import Derived.Laws.OwnMore
import Derived.Maps.AppendAt
set_option linter.unusedVariables false
set_option linter.unusedSimpArgs false
set_option linter.unusedSectionVars false
namespace Go.Proofs.Ytipemmgoipbojaa.Ab
open Go Go.RowKit
inductive NK where
 | lX
 | map
def nK:Nat:=1099511627776
def vP:Option Nat→Value
 | none=>.nilFunc
 | some f=>cond (Nat.ble nK f) (cond (Nat.beq f nK) .nilIface (.iface (f-(nK+1)) (.agg #[]))) (.func (.func f) #[] #[])
theorem Ap (f:Option Nat):(vP f).oneCell'=true:=by
 cases f with
 | none=>rfl
 | some f=>
  show (cond (Nat.ble nK f) (cond (Nat.beq f nK) Value.nilIface (.iface (f-(nK+1)) (.agg #[]))) (.func (.func f) #[] #[])).oneCell'=true;cases Nat.ble nK f<;>cases Nat.beq f nK<;>rfl
theorem oo {f:Nat} (h:Nat.ble nK f=false):vP (some f) = .func (.func f) #[] #[]:=by simp only [vP,h,cond_false]
theorem QW:vP (some nK) = .nilIface:=rfl
theorem Aq {f:Nat} (h:Nat.ble (nK+1) f=true):vP (some f) = .iface (f-(nK+1)) (.agg #[]):=by
 have h0:=Nat.le_of_ble_eq_true h;have h1:Nat.ble nK f=true:=Nat.ble_eq_true_of_le (by omega)
 have h2:Nat.beq f nK=false:=by
  cases e:Nat.beq f nK with
  | false=>rfl
  | true=>have:=Nat.eq_of_beq_eq_true e;omega
 simp only [vP,h1,h2,cond_true,cond_false]
def NK.val:NK→Value
 | .lX=>.nilIface
 | .map=>.map none
inductive VT where
 | mem
 | sM (f n:Nat) (sh:List (Bool×Nat))
 | lX (t:TypeId) (sh:List (Bool×Nat))
inductive Lf {Ty:Type} (C:Ty→Type):Type where
 | int (k:IntKind) (n:Int)
 | bool (b:Bool)
 | str (s:ByteArray)
 | row (t:Ty) (xs:List (C t))
 | nil (t:Ty)
 | pP
 | ptr (id off:Nat)
 | nH (t:Ty) (x:C t) (o:Nat)
 | ref (id:Nat) (p:List (Nat×Nat))
 | ep (id:Nat) (p:List (Nat×Nat)) (i o:Nat)
 | bP (f:Option Nat)
 | lF (k:NK)
 | vo (id:Nat)
 | sub (id lo hi:Nat)
inductive SV {Ty:Type} (C:Ty→Type):Type where
 | one (l:Lf C)
 | agg (ls:List (Lf C))
 | qg (vs:List (Bool×List (Lf C)))
 | mN
 | jf (id j:Nat)
 | frame
 | bQ (x:Bool×List (Lf C)) (j:Nat)
structure MK where
 kag:Bool
 Uy:Bool
 un:Bool
 br:Bool
inductive Ob {Ty:Type} (C:Ty→Type):Type where
 | box (kd:VT) (ls:List (Lf C))
 | row (t:Ty) (xs:List (C t)) (sh:Bool)
 | map (mk:MK) (kt vt:Ty) (xs:List (Nat×C kt×C vt)) (clock:Nat)
 | ghost
def Lf.plain {Ty:Type} {C:Ty→Type}:Lf C→Bool
 | .int .. | .bool _ | .str _ | .row .. | .bP _=>true
 | _=>false
structure Cd {Ty:Type} (C:Ty→Type) where
 enc:(t:Ty)→C t→List (Lf C)
 dec:(t:Ty)→List (Lf C)→Option (C t)
 sz:Ty→Nat
 tid:Ty→TypeId
 bytes:Ty→Nat
 zero:(t:Ty)→C t
 pos:∀ t,0<sz t
 gA:∀ t x,(enc t x).length=sz t
 js:∀ t cs x,dec t cs=some x→enc t x=cs
 yN:∀ t x l,l∈enc t x→l.plain=true
 flat:Ty→Bool
 vU:∀ t,flat t=true→∀ x t' (ys:List (C t')),Lf.row t' ys∉enc t x
 byte:Ty→Bool:=fun _=>false
 rh:∀ t,byte t=true→∀ x,∃ n,enc t x=[Lf.int .u8 n]:=by intro t h;cases h
 kp:Nat→Prop:=fun _=>False
 kh:Nat→Option Obj:=fun _=>none
 hd:Nat→Value:=fun _=>undef
 inv:World→Prop:=fun _=>True
 yC:∀ w w':World,inv w→Below w.heap.size w w'→inv w':=by intros;trivial
section
variable {Ty:Type} {C:Ty→Type} (K:Cd C)
inductive gT (w:World) (F:Nat→Prop):Lf C→Value→Prop
 | int (k n):gT w F (.int k n) (.int k n)
 | bool (b):gT w F (.bool b) (.bool b)
 | str (s):gT w F (.str s) (.string s)
 | bP (f):gT w F (.bP f) (vP f)
 | row (t:Ty) (xs:List (C t)) (A:Option Addr) (c:Nat) (a:Addr) (U:Nat→Value) (hc:xs.length≤c)
   (hA:xs≠[]→A=some a∧F a.block)
   (hcell:xs≠[]→∀ m,m<xs.length*K.sz t→w.cell? (a.add m)=some (U m))
   (m4:∀ j (hj:j<xs.length) i l,(K.enc t xs[j])[i]?=some l→gT w F l (U (j*K.sz t+i))) :
   gT w F (.row t xs) (.slice A xs.length c)
inductive Own (w:World) (base:Nat):(Nat→Prop)→Lf C→Value→Prop
 | int (F k n):Own w base F (.int k n) (.int k n)
 | bool (F b):Own w base F (.bool b) (.bool b)
 | str (F s):Own w base F (.str s) (.string s)
 | bP (F f):Own w base F (.bP f) (vP f)
 | row (F:Nat→Prop) (t:Ty) (xs:List (C t)) (v:Value) (cells:List Value) (G:Nat→Nat→Nat→Prop)
   (h:w.ownsRow base (K.tid t) (K.sz t) v xs.length cells)
   (hF:∀ g,v.ownBlock=some g→F g)
   (hG:∀ j i k,G j i k→F k∧v.ownBlock≠some k)
   (hd:∀ j i j' i' k,G j i k→G j' i' k→j=j'∧i=i')
   (hn:∀ j (hj:j<xs.length) i l,(K.enc t xs[j])[i]?=some l→Own w base (G j i) l (cells.getD (j*K.sz t+i) undef)) :
   Own w base F (.row t xs) v
variable {K}
theorem gT.mono {w:World} {F F':Nat→Prop} {l:Lf C} {v:Value} (h:gT K w F l v) (hF:∀ k,F k→F' k):gT K w F' l v:=by
 induction h with
 | int k n=>exact .int k n
 | bool b=>exact .bool b
 | str s=>exact .str s
 | bP f=>exact .bP f
 | row t xs A c a U hc hA hcell _ ih=>exact .row t xs A c a U hc (fun h=>⟨(hA h).1,hF _ (hA h).2⟩) hcell ih
theorem gT.frame {w w':World} {F:Nat→Prop} {l:Lf C} {v:Value} (h:gT K w F l v) (hw:∀ k,F k→w'.heap[k]?=w.heap[k]?):gT K w' F l v:=by
 induction h with
 | int k n=>exact .int k n
 | bool b=>exact .bool b
 | str s=>exact .str s
 | bP f=>exact .bP f
 | row t xs A c a U hc hA hcell _ ih=>
  refine .row t xs A c a U hc hA (fun hx m hm=>?_) ih
  have hb:(a.add m).block=a.block:=by unfold Addr.add;split<;>rfl
  rw [World.cell?_of_block (w:=w) (by rw [hb];exact hw _ (hA hx).2)];exact hcell hx m hm
theorem Own.mono {w:World} {base:Nat} {F F':Nat→Prop} {l:Lf C} {v:Value} (h:Own K w base F l v) (hF:∀ k,F k→F' k):Own K w base F' l v:=by
 cases h with
 | int=>exact .int ..
 | bool=>exact .bool ..
 | str=>exact .str ..
 | bP=>exact .bP ..
 | row _ t xs _ cells G h JP hG hd hn=>exact .row F' t xs v cells G h (fun g hg=>hF _ (JP g hg)) (fun j i k hk=>⟨hF _ (hG j i k hk).1,(hG j i k hk).2⟩) hd hn
theorem lT {w w':World} {base:Nat} {e:TypeId} {size n:Nat} {v:Value} {xs:List Value} (h:w.ownsRow base e size v n xs) (hw:∀ g,v.ownBlock=some g→w'.heap[g]?=w.heap[g]?):w'.ownsRow base e size v n xs:=by
 obtain ⟨h1,h2⟩:=h;refine ⟨h1,?_⟩
 rcases h2 with h2 | ⟨g,cap,cur,rfl,hb,hh,r⟩
 ·exact .inl h2
 ·exact .inr ⟨g,cap,cur,rfl,hb,(hw g rfl).trans hh,r⟩
theorem Own.frame {w w':World} {base:Nat} {F:Nat→Prop} {l:Lf C} {v:Value} (h:Own K w base F l v) (hw:∀ k,F k→w'.heap[k]?=w.heap[k]?):Own K w' base F l v:=by
 induction h with
 | int=>exact .int ..
 | bool=>exact .bool ..
 | str=>exact .str ..
 | bP=>exact .bP ..
 | row F t xs v cells G h hF hG hd _ ih=>
  refine .row F t xs v cells G (lT h fun g hg=>hw g (hF g hg)) hF hG hd fun j hj i l hl=>ih j hj i l hl fun k hk=>hw k (hG j i k hk).1
theorem Own.one {w:World} {base:Nat} {F:Nat→Prop} {l:Lf C} {v:Value} (h:Own K w base F l v):v.oneCell'=true:=by
 cases h with
 | int=>rfl
 | bool=>rfl
 | str=>rfl
 | bP F f=>exact Ap f
 | row _ t xs _ cells G h=>rcases h.2 with ⟨rfl,_⟩ | ⟨g,cap,cur,rfl,_⟩<;>rfl
theorem gT.one {w:World} {F:Nat→Prop} {l:Lf C} {v:Value} (h:gT K w F l v):v.oneCell'=true:=by
 cases h with
 | bP f=>exact Ap f
 | _=>rfl
theorem j8 {w:World} {base:Nat} {e:TypeId} {size n:Nat} {v:Value} {cells:List Value} (h:w.ownsRow base e size v n cells) (hs:0<n*size) :
  ∃ g cap,v = .slice (some ⟨g,0,none⟩) n cap∧base≤g∧n≤cap∧∀ m,m<n*size→w.cell? ((⟨g,0,none⟩:Addr).add m)=some (cells.getD m undef):=by
 have hc:=h;obtain ⟨h1,h2⟩:=h
 rcases h2 with ⟨_,rfl⟩ | ⟨g,cap,cur,rfl,hb,hh,hn,r⟩
 ·omega
 ·refine ⟨g,cap,rfl,hb,hn,fun m hm=>hc.cells (g:=g) rfl m _ ?_⟩
  rw [List.getD_eq_getElem?_getD,List.getElem?_eq_getElem (by omega)];rfl
theorem Own.rep {w:World} {base:Nat} {F:Nat→Prop} {l:Lf C} {v:Value} (h:Own K w base F l v):gT K w F l v:=by
 induction h with
 | int=>exact .int ..
 | bool=>exact .bool ..
 | str=>exact .str ..
 | bP=>exact .bP ..
 | row F t xs v cells G h hF hG hd _ ih=>
  by_cases hx:xs=[]
  ·subst hx
   rcases h.2 with ⟨rfl,_⟩ | ⟨g,cap,cur,rfl,_⟩
   ·exact .row t [] none 0 default (fun _=>undef) (Nat.le_refl _) (fun h=>absurd rfl h) (fun h=>absurd rfl h) (fun j hj=>absurd hj (by simp))
   ·exact .row t [] _ cap default (fun _=>undef) (Nat.zero_le _) (fun h=>absurd rfl h) (fun h=>absurd rfl h) (fun j hj=>absurd hj (by simp))
  ·have hp:0<xs.length*K.sz t:=Nat.mul_pos (List.length_pos_iff.2 hx) (K.pos t)
   obtain ⟨g,cap,rfl,hb,hn,hcell⟩:=j8 h hp
   refine .row t xs _ cap ⟨g,0,none⟩ (fun m=>cells.getD m undef) hn (fun _=>⟨rfl,hF g rfl⟩) (fun _=>hcell) fun j hj i l hl=>?_
   exact (ih j hj i l hl).mono fun k hk=>(hG j i k hk).1
end
def lk {α:Type}:List (Nat×α)→Nat→Option α
 | [],_=>none
 | (m,v)::r,n=>cond (Nat.beq n m) (some v) (lk r n)
def rm {α:Type}:List (Nat×α)→Nat→List (Nat×α)
 | [],_=>[]
 | (m,v)::r,n=>cond (Nat.beq n m) (rm r n) ((m,v)::rm r n)
inductive ZL (Ty:Type):Type where
 | int (k:IntKind)
 | bool
 | str
 | dR (t:Ty)
 | ptr
 | bP
 | nk (k:NK)
inductive EK:Type where
 | int (k:IntKind)
 | bool
 | str
inductive TK (Ty:Type):Type where
 | one (z:ZL Ty)
 | agg (fs:List (Nat×Nat×Bool)) (zs:List (ZL Ty))
 | arr (n sz:Nat) (ag:Bool) (zs:List (ZL Ty))
section
variable {Ty:Type} {C:Ty→Type}
def ZL.lf:ZL Ty→Lf C
 | .int k=>.int k 0
 | .bool=>.bool false
 | .str=>.str ⟨#[]⟩
 | .dR t=>.nil t
 | .ptr=>.pP
 | .bP=>.bP none
 | .nk k=>.lF k
def ZL.val:ZL Ty→Value
 | .int k=>.int k 0
 | .bool=>.bool false
 | .str=>.string ⟨#[]⟩
 | .dR _=>.slice none 0 0
 | .ptr=>.pointer none
 | .bP=>.nilFunc
 | .nk k=>k.val
structure St (C:Ty→Type) where
 env:List (Nat×SV C)
 ah:List (Nat×Ob C)
 base:Nat
inductive Ex where
 | norm
 | exit (id:Nat)
 | ret
structure iK (C:Ty→Type) where
 R0:Type
 pt:List (Option Ty):=[]
 g:List (SV C)→Option R0
 ret:R0→List (Bool×List (Lf C))
 frz:Bool:=false
 nz:Bool:=false
def ML (c:iK C):iK C:={ c with frz:=true }
structure qd (C:Ty→Type) where
 R0:Type
 g:List (Bool×List (Lf C))→Option R0
 out:R0→List (Lf C)
 ret:R0→List (Bool×List (Lf C))
structure jw (C:Ty→Type) where
 ids:List Nat
 roots:List (Lf C)
 fQ:List Nat
 R0:Type
 g:List (SV C)→List (Nat×Ob C)→Option R0
 out:R0→List (Nat×Ob C)
 ret:R0→List (Bool×List (Lf C))
structure mP (C:Ty→Type) where
 go:(R:Type)→List (SV C)→St C→(List (Bool×List (Lf C))→St C→Option R)→Option R
 sum:Option (jw C):=none
structure MT (Ty:Type) where
 fl:MK
 kt:Ty
 vt:Ty
structure Cx (C:Ty→Type) where
 K:Cd C
 tk:Nat→Option (TK Ty)
 HU:Nat→Option (iK C)
 vZ:Nat→Option (qd C):=fun _=>none
 inl:Nat→Option (mP C):=fun _=>none
 mp:Nat→Option (MT Ty):=fun _=>none
 Ff:Nat→String→Option Nat:=fun _ _=>none
 ext:Nat→Option (List Value→Option Value):=fun _=>none
 ins:Nat→Option Ty:=fun _=>none
 Q0:Nat→Option (List EK):=fun _=>none
 view:List Nat:=[]
 hold:List Nat:=[]
 off:Nat:=0
def eG (S:St C):Operand→Option (SV C)
 | .tmp t=>lk S.env t
 | .const (.int k n)=>some (.one (.int k n))
 | .const (.bool b)=>some (.one (.bool b))
 | .const (.string s)=>some (.one (.str s))
 | .const (.pointer none)=>some (.one .pP)
 | .const .nilFunc=>some (.one (.bP none))
 | .const .nilIface=>some (.one (.lF .lX))
 | .const (.map none)=>some (.one (.lF .map))
 | .func f=>cond (Nat.ble nK f) none (some (.one (.bP (some f))))
 | _=>none
def gb (X:Cx C) (S:St C) (T:TypeId) (x:Operand):Option (SV C):=
 match x with
 | .const (.slice none 0 0)=>match X.tk T with
  | some (.one (.dR t))=>some (.one (.nil t))
  | _=>none
 | x=>eG S x
def St.put (S:St C) (d:Option Tmp) (v:SV C):St C:=
 match d with
 | some d=>{ S with env:=(d,v)::S.env }
 | none=>S
def St.drop (S:St C) (d:Option Tmp):St C:=
 match d with
 | some d=>{ S with env:=rm S.env d }
 | none=>S
def St.setObj (S:St C) (id:Nat) (ob:Ob C):St C:={ S with ah:=(id,ob)::S.ah }
def St.kr (S:St C) (id:Nat):St C:={ S with ah:=rm S.ah id }
def SV.leaves:SV C→List (Lf C)
 | .one l=>[l]
 | .agg ls=>ls
 | _=>[]
def lj (k:TK Ty):Bool:=match k with | .one _=>false | .agg .. =>true | .arr .. =>true
def TK.size (k:TK Ty):Nat:=match k with | .one _=>1 | .agg _ zs=>zs.length | .arr _ _ _ zs=>zs.length
def wi (sz:Nat) (ag:Bool):Nat→Nat→List (Nat×Nat×Bool)
 | _,0=>[]
 | off,n+1=>(off,sz,ag)::wi sz ag (off+sz) n
def fits (v:SV C) (k:TK Ty):Bool:=Nat.beq v.leaves.length k.size&&Nat.ble 1 k.size
def HF (v:SV C) (k:TK Ty):Bool:=match v,k with
 | .agg [],.agg [] []=>true
 | v,k=>fits v k
def Aa (k:TK Ty) (ls:List (Lf C)):Option (SV C):=
 match k with
 | .one _=>match ls with
  | l::_=>some (.one l)
  | []=>none
 | .agg _ zs=>cond (Nat.ble zs.length ls.length) (some (.agg (ls.take zs.length))) none
 | .arr _ _ _ zs=>cond (Nat.ble zs.length ls.length) (some (.agg (ls.take zs.length))) none
def og (id:Nat) (p:List (Nat×Nat)) (i:Nat) (sh:Bool):Nat→List (Lf C)→List (Lf C)
 | _,[]=>[]
 | o,.row t xs::r=>(cond sh (.row t xs) (.ref id (p++[(i,o)])))::og id p i sh (o+1) r
 | o,l::r=>l::og id p i sh (o+1) r
def path (K:Cd C):List (Nat×Nat)→(t:Ty)→List (C t)→{α:Type}→((t:Ty)→List (C t)→Option α)→Option α
 | [],t,xs,_,k=>k t xs
 | (i,o)::p,t,xs,_,k=>Option.bind xs[i]? fun x=>match (K.enc t x)[o]? with
  | some (.row t' ys)=>path K p t' ys k
  | _=>none
def nO (S:St C) (X:Cx C) (l:Lf C) {α:Type} (k:(t:Ty)→List (C t)→Option α):Option α:=
 match l with
 | .row t xs=>k t xs
 | .nil t=>k t []
 | .ref id p=>match lk S.ah id with
  | some (.row t xs _)=>path X.K p t xs k
  | _=>none
 | .sub id lo hi=>match lk S.ah id with
  | some (.row t xs _)=>k t ((xs.take hi).drop lo)
  | _=>none
 | _=>none
def ez (X:Cx C) (S:St C) (a:Lf C) {α:Type} (k:List (Lf C)→Option α):Option α:=
 match a with
 | .ptr id off=>match lk S.ah id with
  | some (.box .mem ls)=>k (ls.drop off)
  | _=>none
 | .nH t x o=>k ((X.K.enc t x).drop o)
 | .ep id p i o=>match lk S.ah id with
  | some (.row t xs sh)=>path X.K p t xs fun t' ys=>Option.bind ys[i]? fun x=>k ((og id p i (cond p.isEmpty sh false) 0 (X.K.enc t' x)).drop o)
  | _=>none
 | _=>none
def setAt {α:Type}:List α→Nat→List α→List α
 | l,_,[]=>l
 | l,o,v::r=>setAt (l.set o v) (o+1) r
def di (S:St C):List (Lf C)→Option (List (Lf C)×St C×Bool)
 | []=>some ([],S,false)
 | .ref id []::r=>match lk S.ah id with
  | some (.row t xs false)=>match di (S.kr id) r with
   | some (r',S',b)=>some (.row t xs::r',S',b)
   | none=>none
  | _=>none
 | .nil t::r=>match di S r with
  | some (r',S',b)=>some (.row t []::r',S',b)
  | none=>none
 | .row t xs::r=>match di S r with
  | some (r',S',_)=>some (.row t xs::r',S',true)
  | none=>none
 | .int k n::r=>match di S r with
  | some (r',S',b)=>some (.int k n::r',S',b)
  | none=>none
 | .bool c::r=>match di S r with
  | some (r',S',b)=>some (.bool c::r',S',b)
  | none=>none
 | .str s::r=>match di S r with
  | some (r',S',b)=>some (.str s::r',S',b)
  | none=>none
 | .bP s::r=>match di S r with
  | some (r',S',b)=>some (.bP s::r',S',b)
  | none=>none
 | .lF .lX::r=>match di S r with
  | some (r',S',b)=>some (.bP (some nK)::r',S',b)
  | none=>none
 | _=>none
def iC (S:St C):Lf C→Option (Lf C)
 | .ref id []=>match lk S.ah id with
  | some (.row t xs _)=>some (.row t xs)
  | _=>none
 | .sub id lo hi=>match lk S.ah id with
  | some (.row t xs _)=>some (.row t ((xs.take hi).drop lo))
  | _=>none
 | .nil t=>some (.row t [])
 | .row t xs=>some (.row t xs)
 | .int k n=>some (.int k n)
 | .bool b=>some (.bool b)
 | .str s=>some (.str s)
 | .bP f=>some (.bP f)
 | _=>none
def nP (S:St C):List (Lf C)→Option (List (Lf C))
 | []=>some []
 | l::r=>match iC S l with
  | some l'=>match nP S r with
   | some r'=>some (l'::r')
   | none=>none
  | none=>none
def nA (S:St C):SV C→Option (SV C)
 | .one l=>match iC S l with
  | some l'=>some (.one l')
  | none=>none
 | .agg ls=>match nP S ls with
  | some ls'=>some (.agg ls')
  | none=>none
 | _=>none
def intern (id:Nat):List (Lf C)→List (Lf C)×List (Nat×Ob C)
 | []=>([],[])
 | .row t xs::r=>(.ref id []::(intern (id+1) r).1,(id,.row t xs false)::(intern (id+1) r).2)
 | l::r=>(l::(intern (id+1) r).1,(intern (id+1) r).2)
def bY (id:Nat):List (Bool×List (Lf C))→List (Bool×List (Lf C))×List (Nat×Ob C)
 | []=>([],[])
 | (b,ls)::r=>((b,(intern id ls).1)::(bY (id+ls.length) r).1,(intern id ls).2++(bY (id+ls.length) r).2)
def rJ (l:List (Bool×List (Lf C))):Option (SV C):=
 match l with
 | [(false,[l])]=>some (.one l)
 | [(true,ls)]=>some (.agg ls)
 | [_]=>none
 | vs=>some (.qg vs)
def slt (a b:ByteArray):Bool:=Go.Op.bytesLess a.toList b.toList
def s5 (s:ByteArray) (i:Int):Int:=match s[i.toNat]? with
 | some b=>(b.toNat:Int)
 | none=>0
def W6 (op:BinOp) (a b:Int):Option Bool:=
 match op with
 | .eql=>some (a==b)
 | .neq=>some (a != b)
 | .lss=>some (decide (a<b))
 | .leq=>some (decide (a≤b))
 | .gtr=>some (decide (a>b))
 | .geq=>some (decide (a≥b))
 | _=>none
def W5 (op:BinOp) (a b:ByteArray):Option Bool:=
 match op with
 | .eql=>some (decide (a=b))
 | .neq=>some (!decide (a=b))
 | .lss=>some (slt a b)
 | .geq=>some (!slt a b)
 | .gtr=>some (slt b a)
 | .leq=>some (!slt b a)
 | _=>none
def J7 (k:IntKind) (a b:Int):Int:=k.wrap ((BitVec.ofInt k.bits a ^^^ BitVec.ofInt k.bits b).toNat)
def arI (op:BinOp) (k:IntKind) (a b:Int):Option Int:=
 match op with
 | .xor=>some (J7 k a b)
 | .add=>some (k.wrap (a+b))
 | .sub=>some (k.wrap (a-b))
 | .mul=>some (k.wrap (a*b))
 | _=>none
def Fm:Lf C→Option Bool
 | .pP=>some true
 | .ptr .. =>some false
 | .ep .. =>some false
 | .nH .. =>some false
 | _=>none
def sD:List EK→List (Lf C)→List (Lf C)→Option Bool
 | [],[],[]=>some true
 | .int _::ks,.int k a::r,.int k' b::s=>cond (decide (k=k')) (match sD ks r s with
  | some c=>some (decide (a=b)&&c)
  | none=>none) none
 | .bool::ks,.bool a::r,.bool b::s=>match sD ks r s with
  | some c=>some ((a==b)&&c)
  | none=>none
 | .str::ks,.str a::r,.str b::s=>match sD ks r s with
  | some c=>some (decide (a=b)&&c)
  | none=>none
 | _,_,_=>none
def FY (ek:Option (List EK)) (tk:Option (TK Ty)) (op:BinOp) (x y:SV C) {α:Type} (k:SV C→Option α):Option α:=
 match x,y with
 | .agg as,.agg bs=>match ek with
  | some ks=>match sD ks as bs,op with
   | some c,.eql=>k (.one (.bool c))
   | some c,.neq=>k (.one (.bool (!c)))
   | _,_=>none
  | none=>none
 | .one (.int ka a),.one (.int kb b)=>cond (decide (ka=kb)) (match W6 op a b with
  | some c=>k (.one (.bool c))
  | none=>match arI op ka a b with
   | some n=>k (.one (.int ka n))
   | none=>cond (decide (b=0)) none (match op with
    | .quo=>k (.one (.int ka (ka.wrap (a.tdiv b))))
    | .rem=>k (.one (.int ka (a.tmod b)))
    | _=>none)) none
 | .one (.str a),.one (.str b)=>match W5 op a b with
  | some c=>k (.one (.bool c))
  | none=>match op with
   | .add=>cond (decide ((a.size+b.size:Nat)≤9223372036854775807)) (k (.one (.str (a++b)))) none
   | _=>none
 | .one (.bool a),.one (.bool b)=>match tk,op with
  | some (.one .bool),.eql=>k (.one (.bool (a==b)))
  | some (.one .bool),.neq=>k (.one (.bool (!(a==b))))
  | _,_=>none
 | .one x,.one .pP=>match Fm x,tk,op with
  | some c,some (.one .ptr),.eql=>k (.one (.bool c))
  | some c,some (.one .ptr),.neq=>k (.one (.bool (!c)))
  | _,_,_=>none
 | _,_=>none
noncomputable def altD {R:Type} (a b:Option R):Option R:=open Classical in a.bind fun x=>b.bind fun y=>if x=y then some x else none
theorem altE:∃ f:∀ R:Type,Option R→Option R→Option R,∀ (R:Type) (a b:Option R),f R a b=altD a b:=⟨fun _ a b=>altD a b,fun _ _ _=>rfl⟩
noncomputable def alt {R:Type} (a b:Option R):Option R:=Classical.choose altE R a b
theorem AJ {R:Type} (a b:Option R):alt a b=open Classical in a.bind fun x=>b.bind fun y=>if x=y then some x else none:=Classical.choose_spec altE R a b
noncomputable def LM {R:Type} (e:Bool) (a b:Option R):Option R:=cond e (alt a b) b
noncomputable def vq (tk:Option (TK Ty)) (X:Cx C) (S:St C) (op:BinOp) (x:SV C) {R:Type} (k:SV C→Option R):Option R:=
 match tk,x with
 | some (.one (.dR _)),.one (.nil _)=>match op with
  | .eql=>k (.one (.bool true))
  | .neq=>k (.one (.bool false))
  | _=>none
 | some (.one (.dR _)),.one l=>match op with
  | .eql=>nO S X l fun _ xs=>LM xs.isEmpty (k (.one (.bool true))) (k (.one (.bool false)))
  | .neq=>nO S X l fun _ xs=>LM xs.isEmpty (k (.one (.bool false))) (k (.one (.bool true)))
  | _=>none
 | _,_=>none
def byteOf:List (Lf C)→UInt8
 | .int _ n::_=>UInt8.ofNat n.toNat
 | _=>0
def strOf (K:Cd C) (t:Ty) (xs:List (C t)):ByteArray:=⟨(xs.map fun x=>byteOf (K.enc t x)).toArray⟩
def AK:Lf C→Nat→Option (Lf C)
 | .ptr id o,n=>some (.ptr id (o+n))
 | .nH t x o,n=>some (.nH t x (o+n))
 | .ep id p i o,n=>some (.ep id p i (o+n))
 | _,_=>none
def fq:Lf C→List Nat
 | .ref id _=>[id]
 | .ep id _ _ _=>[id]
 | .ptr id _=>[id]
 | .vo id=>[id]
 | .sub id _ _=>[id]
 | _=>[]
def ey:List (Lf C)→List Nat
 | []=>[]
 | l::r=>fq l++ey r
def tL:List (Bool×List (Lf C))→List Nat
 | []=>[]
 | (_,ls)::r=>ey ls++tL r
def fG:SV C→List Nat
 | .one l=>fq l
 | .agg ls=>ey ls
 | .qg vs=>tL vs
 | .jf id _=>[id]
 | .bQ x _=>ey x.2
 | _=>[]
def gg:List (Nat×SV C)→List Nat
 | []=>[]
 | (_,v)::r=>fG v++gg r
def eB:List (Nat×Ob C)→List Nat
 | []=>[]
 | (id,.box _ ls)::r=>id::(ey ls++eB r)
 | (id,.row ..)::r=>id::eB r
 | (id,.map ..)::r=>id::eB r
 | (id,.ghost)::r=>id::eB r
def lp (id:Nat):Lf C→Bool
 | .ref i (_::_)=>Nat.beq i id
 | .ep i (_::_) _ _=>Nat.beq i id
 | _=>false
def vW (id:Nat):SV C→Bool
 | .bQ x _=>x.2.any (lp id)
 | .one l=>lp id l
 | .agg ls=>ls.any (lp id)
 | .qg vs=>vs.any fun x=>x.2.any (lp id)
 | _=>false
def yP (id:Nat):Ob C→Bool
 | .box _ ls=>ls.any (lp id)
 | .row .. =>false
 | .map .. =>false
 | .ghost=>false
def jg (id:Nat):List (Nat×SV C)→List (Nat×SV C)
 | []=>[]
 | (t,v)::r=>cond (vW id v) (rm (jg id r) t) ((t,v)::jg id r)
def iV {R:Type} (n:Nat) (k:Nat→R):R:=match n with
 | 0=>k 0
 | m+1=>k (m+1)
theorem ja {R:Type} (n:Nat) (k:Nat→R):iV n k=k n:=by cases n<;>rfl
def cg (X:Cx C) (S:St C) (o:Oper):Nat:=iV S.base fun b=>iV X.off fun q=>match o.dst with
 | some d=>q+64*d+4294967296*b
 | none=>q+4294967296*b
def St.add (S:St C) (id:Nat) (ob:Ob C):Option (St C):=cond ((gg S.env++eB S.ah).any (Nat.beq id)) none (some (S.setObj id ob))
def St.kv (S:St C):List (Nat×Ob C)→Option (St C)
 | []=>some S
 | (id,ob)::r=>match S.add id ob with
  | some S'=>S'.kv r
  | none=>none
def elems (X:Cx C) (t:Ty) (S:St C):Nat→List (Nat×Operand)→Option (List (C t)×St C×Bool)
 | _,[]=>some ([],S,false)
 | n,(i,x)::r=>match gb X S (X.K.tid t) x with
  | some v=>match di S v.leaves with
   | some (ls,S',b)=>match X.K.dec t ls with
    | some e=>match elems X t S' (n+1) r with
     | some (es,A9,b')=>cond (Nat.beq i n) (some (e::es,A9,b||b')) none
     | none=>none
    | none=>none
   | none=>none
  | none=>none
def partsOf (X:Cx C) (fs:List (Nat×Nat×Bool)) (S:St C):List (Nat×Operand)→List (Lf C)→Option (List (Lf C))
 | [],ls=>some ls
 | (i,x)::r,ls=>match fs[i]?,eG S x with
  | some (off,n,ag),some v=>cond (Nat.beq v.leaves.length n&&Nat.ble 1 n) (partsOf X fs S r (setAt ls off v.leaves)) none
  | _,_=>none
def fg (X:Cx C) (S:St C):List Operand→List TypeId→Option (List (SV C))
 | [],_=>some []
 | x::r,ts=>match gb X S (ts.headD 0) x with
  | some (.one l)=>match fg X S r ts.tail with
   | some vs=>some (.one l::vs)
   | none=>none
  | some (.agg ls)=>match fg X S r ts.tail with
   | some vs=>some (.agg ls::vs)
   | none=>none
  | _=>none
def tH:List (SV C)→List (Bool×Nat)
 | []=>[]
 | .one _::r=>(false,1)::tH r
 | .agg ls::r=>(true,ls.length)::tH r
 | _::r=>(false,0)::tH r
def er:List (SV C)→List (Lf C)
 | []=>[]
 | v::r=>v.leaves++er r
def rI:List (Bool×Nat)→List (Lf C)→List (SV C)
 | [],_=>[]
 | (b,n)::r,ls=>(cond b (.agg (ls.take n)) (.one (ls.headD .pP)))::rI r (ls.drop n)
def Ku:List (Bool×Nat)→Nat→Bool
 | [],n=>Nat.beq n 0
 | (b,m)::r,n=>(b||Nat.beq m 1)&&Nat.ble m n&&Ku r (n-m)
def pE {R:Type} (S:St C) (l:Lf C) (k:Nat→List (SV C)→List (SV C)→Option R):Option R:=match l with
 | .bP (some f)=>cond (Nat.ble nK f) none (k f [] [])
 | .vo id=>match lk S.ah id with
  | some (.box (.sM f n sh) ls)=>cond (Ku sh ls.length) (k f ((rI sh ls).take n) ((rI sh ls).drop n)) none
  | _=>none
 | _=>none
def qV {R:Type} (S:St C) (v:Option (SV C)) (k:TypeId→SV C→Option R):Option R:=match v with
 | some (.one (.vo id))=>match lk S.ah id with
  | some (.box (.lX t sh) ls)=>cond (Ku sh ls.length) (match rI sh ls with
   | [v]=>k t v
   | _=>none) none
  | _=>none
 | some (.one (.bP (some f)))=>cond (Nat.ble (nK+1) f) (k (f-(nK+1)) (.agg [])) none
 | _=>none
def I3 (S:St C) (tk:Option (TK Ty)) (x y:Lf C):Option Bool:=match tk,y,x with
 | some (.one (.nk .lX)),.lF .lX,.lF .lX=>some true
 | some (.one (.nk .lX)),.lF .lX,.vo id=>match lk S.ah id with
  | some (.box (.lX ..) _)=>some false
  | _=>none
 | some (.one (.nk .lX)),.lF .lX,.bP (some f)=>cond (Nat.ble (nK+1) f) (some false) none
 | some (.one .bP),.bP none,.bP none=>some true
 | some (.one .bP),.bP none,.bP (some f)=>cond (Nat.ble nK f) none (some false)
 | some (.one .bP),.bP none,.vo id=>match lk S.ah id with
  | some (.box (.sM ..) _)=>some false
  | _=>none
 | some (.one (.nk .map)),.lF .map,.lF .map=>some true
 | some (.one (.nk .map)),.lF .map,.vo id=>match lk S.ah id with
  | some (.map ..)=>some false
  | _=>none
 | _,_,_=>none
def qU:Operand→Bool
 | .const (.int _ n)=>decide (n=0)
 | _=>false
def isConst:Operand→Bool
 | .const _=>true
 | _=>false
def oz {R:Type} (S:St C) (tk:Option (TK Ty)) (op:BinOp) (x y:SV C) (c:Bool) (k:SV C→Option R):Option R:=match x,y with
 | .one x,.one y=>match op,I3 S tk x y,c with
  | .eql,some b,true=>k (.one (.bool b))
  | .neq,some b,true=>k (.one (.bool (!b)))
  | _,_,_=>none
 | _,_=>none
def Ae:SV C→Bool
 | .one (.lF _)=>true
 | .one (.bP none)=>true
 | _=>false
def E9:TK Ty→Bool
 | .one (.nk .lX)=>false
 | _=>true
def G4:SV C→Bool
 | .one _=>true
 | .agg _=>true
 | _=>false
def vw (S:St C):SV C→Bool
 | .one (.bP (some f))=> !Nat.ble nK f
 | .one (.vo id)=>match lk S.ah id with
  | some (.box (.sM ..) _)=>true
  | some (.box (.lX ..) _)=>true
  | _=>false
 | _=>false
def jZ (X:Cx C) (S:St C) (l:Lf C):Option (Lf C):=match l with
 | .ref id (s::p)=>nO S X (.ref id (s::p)) fun t xs=>some (.row t xs)
 | l=>iC S l
def gy (X:Cx C) (S:St C):List (Lf C)→Option (List (Lf C))
 | []=>some []
 | l::r=>match jZ X S l with
  | some l'=>match gy X S r with
   | some r'=>some (l'::r')
   | none=>none
  | none=>none
def nB (X:Cx C) (S:St C) (pt:Option Ty) (v:SV C):Option (SV C):=match pt,v with
 | none,v=>nA S v
 | some t,.one l=>ez X S l fun ls=>match gy X S (ls.take (X.K.sz t)) with
  | some ls'=>match X.K.dec t ls' with
   | some x=>some (.one (.nH t x 0))
   | none=>none
  | none=>none
 | _,_=>none
def views (X:Cx C) (S:St C):List (Option Ty)→List (SV C)→Option (List (SV C))
 | _,[]=>some []
 | pt,v::r=>match nB X S (pt.headD none) v with
  | some v'=>match views X S pt.tail r with
   | some r'=>some (v'::r')
   | none=>none
  | none=>none
def mJ (X:Cx C) (S:St C) (pt:List (Option Ty)) (pre:List (SV C)) (as:List Operand) (ts:List TypeId) (post:List (SV C)):Option (List (SV C)):=match fg X S as ts with
 | some vs=>views X S pt (pre++(vs++post))
 | none=>none
def zx {R:Type} (X:Cx C) (S:St C) (l:Lf C) (k:Lf C→Option R):Option R:=match l with
 | .ref id (s::p)=>nO S X (.ref id (s::p)) fun t xs=>k (.row t xs)
 | l=>match iC S l with
  | some l'=>k l'
  | none=>none
def ql {R:Type} (X:Cx C) (S:St C):List (Lf C)→(List (Lf C)→Option R)→Option R
 | [],k=>k []
 | l::r,k=>zx X S l fun l'=>ql X S r fun r'=>k (l'::r')
def EB {R:Type} (X:Cx C) (S:St C) (pt:Option Ty) (v:SV C) (k:SV C→Option R):Option R:=match pt,v with
 | none,v=>match nA S v with
  | some v'=>k v'
  | none=>none
 | some t,.one l=>ez X S l fun ls=>ql X S (ls.take (X.K.sz t)) fun ls'=>match X.K.dec t ls' with
   | some x=>k (.one (.nH t x 0))
   | none=>none
 | _,_=>none
def zw {R:Type} (X:Cx C) (S:St C):List (Option Ty)→List (SV C)→(List (SV C)→Option R)→Option R
 | _,[],k=>k []
 | pt,v::r,k=>EB X S (pt.headD none) v fun v'=>zw X S pt.tail r fun r'=>k (v'::r')
def AH {R:Type} (X:Cx C) (S:St C) (pt:List (Option Ty)) (pre:List (SV C)) (as:List Operand) (ts:List TypeId) (post:List (SV C)) (k:List (SV C)→Option R):Option R:=match fg X S as ts with
 | some vs=>zw X S pt (pre++(vs++post)) k
 | none=>none
theorem rT {K:Cd C} {α R:Type} (g:α→Option R):∀ (p:List (Nat×Nat)) (t:Ty) (xs:List (C t)) (f:(t:Ty)→List (C t)→Option α),path K p t xs (fun t xs=>(f t xs).bind g)=(path K p t xs f).bind g
 | [],t,xs,f=>rfl
 | (i,o)::p,t,xs,f=>by
  simp only [path]
  cases xs[i]? with
  | none=>rfl
  | some x=>
   simp only [Option.bind_some];split
   ·exact rT g p _ _ f
   ·rfl
theorem NT {α R:Type} (g:α→Option R) (S:St C) (X:Cx C) (l:Lf C) (f:(t:Ty)→List (C t)→Option α):nO S X l (fun t xs=>(f t xs).bind g)=(nO S X l f).bind g:=by
 unfold nO;split
 ·rfl
 ·rfl
 ·split
  ·exact rT g _ _ _ f
  ·rfl
 ·split<;>rfl
 ·rfl
theorem AB {α R:Type} (g:α→Option R) (S:St C) (X:Cx C) (l:Lf C) (f:List (Lf C)→Option α):ez X S l (fun ls=>(f ls).bind g)=(ez X S l f).bind g:=by
 unfold ez;split
 ·split<;>rfl
 ·rfl
 ·rename_i id p i o
  split
  ·rename_i t xs sh _
   rw [←rT]
   congr 1
   funext t' ys
   cases ys[i]?<;>rfl
  ·rfl
 ·rfl
theorem EC {R:Type} (X:Cx C) (S:St C) (l:Lf C) (k:Lf C→Option R):zx X S l k=(jZ X S l).bind k:=by
 unfold zx jZ;split
 ·rw [←NT];rfl
 ·cases iC S l<;>rfl
theorem sY {R:Type} (X:Cx C) (S:St C):∀ (l:List (Lf C)) (k:List (Lf C)→Option R),ql X S l k=(gy X S l).bind k
 | [],k=>rfl
 | l::r,k=>by
  simp only [ql,gy,EC]
  cases jZ X S l with
  | none=>rfl
  | some l'=>
   simp only [Option.bind_some,sY X S r];cases gy X S r<;>rfl
theorem Ik {R:Type} (X:Cx C) (S:St C) (pt:Option Ty) (v:SV C) (k:SV C→Option R):EB X S pt v k=(nB X S pt v).bind k:=by
 unfold EB nB;split
 ·cases nA S v<;>rfl
 ·rw [←AB]
  congr 1
  funext ls
  rw [sY]
  cases gy X S (ls.take (X.K.sz _)) with
  | none=>rfl
  | some ls'=>
   simp only [Option.bind_some];cases X.K.dec _ ls'<;>rfl
 ·rfl
theorem xz {R:Type} (X:Cx C) (S:St C):∀ (pt:List (Option Ty)) (l:List (SV C)) (k:List (SV C)→Option R),zw X S pt l k=(views X S pt l).bind k
 | _,[],k=>rfl
 | pt,v::r,k=>by
  simp only [zw,views,Ik]
  cases nB X S (pt.headD none) v with
  | none=>rfl
  | some v'=>
   simp only [Option.bind_some,xz X S pt.tail r];cases views X S pt.tail r<;>rfl
theorem zc {R:Type} (X:Cx C) (S:St C) (pt:List (Option Ty)) (pre:List (SV C)) (as:List Operand) (ts:List TypeId) (post:List (SV C)) (k:List (SV C)→Option R):AH X S pt pre as ts post k=(mJ X S pt pre as ts post).bind k:=by
 unfold AH mJ
 cases fg X S as ts with
 | none=>rfl
 | some vs=>exact xz X S pt _ k
def B8 (c:iK C) (id:Nat) (rs:List (Bool×List (Lf C))):List (Bool×List (Lf C))×List (Nat×Ob C):=match c.frz with
 | true=>(rs,[])
 | false=>bY id rs
def pG {R:Type} (X:Cx C) (c:iK C) (S:St C) (pre:List (SV C)) (as:List Operand) (ts:List TypeId) (post:List (SV C)) (o:Oper) (k:St C→Option R):Option R:=AH X S c.pt pre as ts post fun vs=>Option.bind (c.g vs) fun r=>match c.nz with
  | true=>match c.ret r with
   | [(false,[.row t xs])]=>cond xs.isEmpty (k (S.put o.dst (.one (.nil t)))) (k (S.put o.dst (.one (.row t xs))))
   | _=>none
  | false=>match B8 c (cg X S o) (c.ret r) with
   | (rs,news)=>match rJ rs,S.kv news with
    | some v,some S'=>k (S'.put o.dst v)
    | _,_=>none
def wc {R:Type} (X:Cx C) (c:iK C) (S:St C) (pre:List (SV C)) (as:List Operand) (ts:List TypeId) (post:List (SV C)) (o:Oper) (k:St C→Option R):Option R:=match mJ X S c.pt pre as ts post with
 | some vs=>Option.bind (c.g vs) fun r=>match c.nz with
  | true=>match c.ret r with
   | [(false,[.row t xs])]=>cond xs.isEmpty (k (S.put o.dst (.one (.nil t)))) (k (S.put o.dst (.one (.row t xs))))
   | _=>none
  | false=>match B8 c (cg X S o) (c.ret r) with
   | (rs,news)=>match rJ rs,S.kv news with
    | some v,some S'=>k (S'.put o.dst v)
    | _,_=>none
 | none=>none
theorem rr {R:Type} (X:Cx C) (c:iK C) (S:St C) (pre:List (SV C)) (as:List Operand) (ts:List TypeId) (post:List (SV C)) (o:Oper) (k:St C→Option R):pG X c S pre as ts post o k=wc X c S pre as ts post o k:=by
 unfold pG wc;rw [zc];cases mJ X S c.pt pre as ts post<;>rfl
def SN:Lf C→Lf C→Bool
 | .int _ a,.int _ b=>decide (a=b)
 | .str a,.str b=>decide (a=b)
 | .bool a,.bool b=>a==b
 | _,_=>false
def jr:List (Lf C)→List (Lf C)→Bool
 | [],[]=>true
 | [a],[b]=>SN a b
 | a::r,b::s=>SN a b&&jr r s
 | _,_=>false
def tK (K:Cd C) (kt vt:Ty) (x:C kt):List (Nat×C kt×C vt)→Option (Nat×C kt×C vt)
 | []=>none
 | e::r=>cond (jr (K.enc kt e.2.1) (K.enc kt x)) (some e) (tK K kt vt x r)
def pR (K:Cd C) (kt vt:Ty) (x:C kt) (xs:List (Nat×C kt×C vt)):Bool:=(tK K kt vt x xs).isSome
def pQ (K:Cd C) (kt vt:Ty) (x:C kt) (xs:List (Nat×C kt×C vt)):C vt:=match tK K kt vt x xs with
 | some e=>e.2.2
 | none=>K.zero vt
def xf (K:Cd C) (kt vt:Ty) (x:C kt) (y:C vt) (clock:Nat):List (Nat×C kt×C vt)→List (Nat×C kt×C vt)
 | []=>[(clock,x,y)]
 | e::r=>cond (jr (K.enc kt e.2.1) (K.enc kt x)) ((e.1,x,y)::r) (e::xf K kt vt x y clock r)
def Fg (K:Cd C) (kt vt:Ty) (x:C kt) (clock:Nat) (xs:List (Nat×C kt×C vt)):Nat:=cond (pR K kt vt x xs) clock (clock+1)
def xg (K:Cd C) (kt vt:Ty) (x:C kt):List (Nat×C kt×C vt)→List (Nat×C kt×C vt)
 | []=>[]
 | e::r=>cond (jr (K.enc kt e.2.1) (K.enc kt x)) r (e::xg K kt vt x r)
def SK {R:Type} (K:Cd C) (kt vt:Ty) (x:C kt) (yes:C vt→Option R) (no:Option R):List (Nat×C kt×C vt)→Option R
 | []=>no
 | e::r=>cond (jr (K.enc kt e.2.1) (K.enc kt x)) (yes e.2.2) (SK K kt vt x yes no r)
def mkEq (a b:MK):Bool:=(a.kag==b.kag)&&(a.Uy==b.Uy)&&(a.un==b.un)&&(a.br==b.br)
def Rk:SV C→Bool
 | .agg _=>true
 | _=>false
def ld [DecidableEq Ty] {R:Type} (X:Cx C) (S:St C) (m:MT Ty) (l:Lf C) (key:SV C) (k:(kt vt:Ty)→C kt→List (Nat×C kt×C vt)→Nat→Option R):Option R:=cond (G4 key&&(Rk key==m.fl.kag)) (match l with
 | .lF .map=>match X.K.dec m.kt key.leaves with
  | some x=>k m.kt m.vt x [] 0
  | none=>none
 | .vo id=>match lk S.ah id with
  | some (.map mk kt vt xs c)=>cond (decide (kt=m.kt)&&decide (vt=m.vt)&&mkEq mk m.fl) (match X.K.dec kt key.leaves with
   | some x=>k kt vt x xs c
   | none=>none) none
  | _=>none
 | _=>none) none
def th (X:Cx C) (mk:MK) (vt:Ty) (y:C vt):Bool×List (Lf C):=cond mk.un (true,[]) (mk.Uy,X.K.enc vt y)
def zy (x:Bool×List (Lf C)):SV C:=match x with
 | (true,ls)=>.agg ls
 | (false,ls)=>.one (ls.headD .pP)
def Ch [DecidableEq Ty] {R:Type} (X:Cx C) (S:St C) (m:MT Ty) (l:Lf C) (key:SV C) (ok:Bool) (k:SV C→Option R):Option R:=
 ld X S m l key fun kt vt x xs _=>cond ok
  (SK X.K kt vt x (fun y=>k (.qg [th X m.fl vt y,(false,[.bool true])])) (k (.qg [th X m.fl vt (X.K.zero vt),(false,[.bool false])])) xs)
  (SK X.K kt vt x (fun y=>k (zy (th X m.fl vt y))) (k (zy (th X m.fl vt (X.K.zero vt)))) xs)
def n7 [DecidableEq Ty] {R:Type} (X:Cx C) (S:St C) (m:MT Ty) (l:Lf C) (key:SV C) (ok:Bool) (k:SV C→Option R):Option R:=
 ld X S m l key fun kt vt x xs _=>cond ok
  (k (.qg [th X m.fl vt (pQ X.K kt vt x xs),(false,[.bool (pR X.K kt vt x xs)])]))
  (k (zy (th X m.fl vt (pQ X.K kt vt x xs))))
def ED [DecidableEq Ty] {R:Type} (X:Cx C) (S:St C) (m:MT Ty) (l:Lf C) (key v:SV C) (k:St C→Option R):Option R:=match l with
 | .vo id=>ld X S m (.vo id) key fun kt vt x xs c=>cond (G4 v&&(Rk v==(m.fl.un||m.fl.Uy))&&(!m.fl.un||v.leaves.isEmpty)) (match cond m.fl.un (some (X.K.zero vt)) (X.K.dec vt v.leaves) with
  | some y=>k (S.setObj id (.map m.fl kt vt (xf X.K kt vt x y c xs) (Fg X.K kt vt x c xs)))
  | none=>none) none
 | _=>none
def MV [DecidableEq Ty] {R:Type} (X:Cx C) (S:St C) (m:MT Ty) (l:Lf C) (key:SV C) (k:St C→Option R):Option R:=match l with
 | .vo id=>ld X S m (.vo id) key fun kt vt x xs c=>k (S.setObj id (.map m.fl kt vt (xg X.K kt vt x xs) c))
 | _=>none
def kH [DecidableEq Ty] (t t':Ty) (xs:List (C t)):Option (List (C t')):=match decEq t t' with
 | isTrue h=>some (h▸xs)
 | isFalse _=>none
def fA (S:St C):Option Nat→St C
 | some id=>S.kr id
 | none=>S
def kG {α:Type} (at_:Option Nat) (xs ys:List α):List α:=match at_ with
 | none=>xs++ys
 | some i=>xs.take i++ys++xs.drop i
def oG [DecidableEq Ty] {R:Type} (at_:Option Nat) (X:Cx C) (o:Oper) (S:St C) (t t0 t1:Ty) (xs:List (C t0)) (ys:List (C t1)) (dK iT:Option Nat) (sh:Bool) (k:St C→Option R):Option R:=
 match kH t0 t xs,kH t1 t ys with
 | some xs,some ys=>cond (decide ((xs.length+ys.length)*X.K.bytes t≤140737488355328)) (match St.add (fA (fA S dK) iT) (cg X S o) (.row t (kG at_ xs ys) (cond (X.K.flat t) false sh)) with
  | some S'=>k (S'.put o.dst (.one (.ref (cg X S o) [])))
  | none=>none) none
 | _,_=>none
def sL [DecidableEq Ty] {R:Type} (X:Cx C) (o:Oper) (S:St C) (t:Ty) (xs:List (C t)) (id:Nat) (t1:Ty) (ys:List (C t1)) (k:St C→Option R):Option R:=
 match kH t1 t ys with
 | some ys=>cond (X.K.flat t) (cond (S.ah.any fun x=>yP id x.2) none (k (({ S.setObj id (.row t (ys.take xs.length++xs.drop ys.length) false) with env:=jg id S.env }:St C).put o.dst (.one (.int .i64 (Nat.min ys.length xs.length:Nat)))))) none
 | none=>none
def copyV [DecidableEq Ty] {R:Type} (X:Cx C) (o:Oper) (S:St C) (t:Ty) (l m:Lf C) (k:St C→Option R):Option R:=
 match l with
 | .ref id []=>match lk S.ah id with
  | some (.row t0 xs false)=>match kH t0 t xs with
   | some xs=>match m with
    | .row t1 ys=>sL X o S t xs id t1 ys k
    | .nil t1=>sL X o S t xs id t1 [] k
    | .ref i []=>match lk S.ah i with
     | some (.row t1 ys sh)=>sL X o S t xs id t1 ys k
     | _=>none
    | _=>none
   | none=>none
  | _=>none
 | _=>none
def clrV [DecidableEq Ty] {R:Type} (X:Cx C) (S:St C) (t:Ty) (l:Lf C) (k:St C→Option R):Option R:=
 match l with
 | .sub id lo hi=>match lk S.ah id with
  | some (.row t0 xs false)=>cond (decide (t0=t)&&X.K.flat t0) (cond (S.ah.any fun x=>yP id x.2) none
    (k { S.setObj id (.row t0 (xs.take lo++List.replicate (hi-lo) (X.K.zero t0)++xs.drop hi) false) with env:=jg id S.env })) none
  | _=>none
 | _=>none
abbrev rG:=Option (Nat×List (Nat×Nat))
def E8 {R:Type} (X:Cx C) (S:St C) (l:Lf C) (k:Lf C→rG→Option R):Option R:=
 match l with
 | .ref id p=>match lk S.ah id with
  | some (.row t xs false)=>path X.K p t xs fun t' zs=>k (.row t' zs) (some (id,p))
  | _=>none
 | .nil t=>k (.row t []) none
 | .int ki n=>k (.int ki n) none
 | .bool b=>k (.bool b) none
 | .str s=>k (.str s) none
 | _=>none
def pB {R:Type} (X:Cx C) (S:St C):List (Lf C)→(List (Lf C)→List rG→Option R)→Option R
 | [],k=>k [] []
 | l::r,k=>E8 X S l fun l' t=>pB X S r fun r' ts=>k (l'::r') (t::ts)
def nV {R:Type} (X:Cx C) (S:St C):List Operand→List TypeId→(List (Bool×List (Lf C))→List rG→Option R)→Option R
 | [],_,k=>k [] []
 | x::r,ts,k=>match gb X S (ts.headD 0) x with
  | some (.one l)=>pB X S [l] fun ls t=>nV X S r ts.tail fun rs t'=>k ((false,ls)::rs) (t++t')
  | some (.agg ls)=>pB X S ls fun ls t=>nV X S r ts.tail fun rs t'=>k ((true,ls)::rs) (t++t')
  | _=>none
def fD:List rG→List Nat
 | []=>[]
 | some (id,_)::r=>id::fD r
 | none::r=>fD r
def jD (ids:List Nat):Lf C→Bool
 | .ref i (_::_)=>ids.any (Nat.beq i)
 | .ep i _ _ _=>ids.any (Nat.beq i)
 | .sub i _ _=>ids.any (Nat.beq i)
 | _=>false
def zB (ids:List Nat):SV C→Bool
 | .bQ x _=>x.2.any (jD ids)
 | .one l=>jD ids l
 | .agg ls=>ls.any (jD ids)
 | .qg vs=>vs.any fun x=>x.2.any (jD ids)
 | _=>false
def lH (ids:List Nat):List (Nat×SV C)→List (Nat×SV C)
 | []=>[]
 | (t,v)::r=>cond (zB ids v) (rm (lH ids r) t) ((t,v)::lH ids r)
def Kl (ids:List Nat):Ob C→Bool
 | .box _ ls=>ls.any (jD ids)
 | .row .. =>false
 | .map .. =>false
 | .ghost=>false
def setPath [DecidableEq Ty] {R:Type} (K:Cd C):List (Nat×Nat)→(t:Ty)→List (C t)→Lf C→(List (C t)→Option R)→Option R
 | [],t,_,.row t' ys,k=>match kH t' t ys with
  | some ys=>k ys
  | none=>none
 | (i,o)::p,t,xs,l,k=>Option.bind xs[i]? fun x=>match (K.enc t x)[o]? with
  | some (.row t' ys)=>setPath K p t' ys l fun Pb=>match K.dec t ((K.enc t x).set o (.row t' Pb)) with
   | some y=>k (xs.set i y)
   | none=>none
  | _=>none
 | _,_,_,_,_=>none
def eh [DecidableEq Ty] {R:Type} (K:Cd C):List (Lf C)→List rG→List (Lf C)→St C→(St C→Option R)→Option R
 | [],[],[],S,k=>k S
 | .row _ _::ls,some (id,p)::ts,l::os,S,k=>match lk S.ah id with
  | some (.row t xs false)=>setPath K p t xs l fun xs'=>eh K ls ts os (S.setObj id (.row t xs' false)) k
  | _=>none
 | .row _ _::ls,none::ts,_::os,S,k=>eh K ls ts os S k
 | .int _ _::ls,none::ts,os,S,k=>eh K ls ts os S k
 | .bool _::ls,none::ts,os,S,k=>eh K ls ts os S k
 | .str _::ls,none::ts,os,S,k=>eh K ls ts os S k
 | _,_,_,_,_=>none
def flatten:List (Bool×List (Lf C))→List (Lf C)
 | []=>[]
 | x::r=>x.2++flatten r
def vn:List Nat→Bool
 | []=>true
 | n::r=>(!r.any (Nat.beq n))&&vn r
def tG [DecidableEq Ty] {R:Type} (X:Cx C) (S:St C) (f:Nat) (as:List Operand) (ts:List TypeId) (o:Oper) (k:St C→Option R):Option R:=
 match X.vZ f with
 | some c'=>nV X S as ts fun vs ts=>cond (vn (fD ts) && !(S.ah.any fun x=>Kl (fD ts) x.2))
  (Option.bind (c'.g vs) fun r=>eh X.K (flatten vs) ts (c'.out r) { S with env:=lH (fD ts) S.env } fun S'=>match bY (cg X S o) (c'.ret r) with
   | (rs,news)=>match rJ rs,S'.kv news with
    | some v,some A9=>k (A9.put o.dst v)
    | _,_=>none) none
 | none=>none
def lI (b:Nat):List (Nat×SV C)→List (Nat×SV C)
 | []=>[]
 | (t,.one l)::r=>(t+1000,.bQ (false,[l]) (b+1000+t))::lI b r
 | (t,.agg ls)::r=>(t+1000,.bQ (true,ls) (b+1000+t))::lI b r
 | (t,.jf id j)::r=>(t+1000,.jf id j)::lI b r
 | (t,.frame)::r=>(t+1000,.frame)::lI b r
 | (t,.bQ x j)::r=>(t+1000,.bQ x j)::lI b r
 | (t,_)::r=>rm (lI b r) (t+1000)
def lO (b:Nat):List (Nat×SV C)→Bool
 | []=>true
 | (_,.jf _ j)::r=>Nat.blt j (b+1000)&&lO b r
 | (_,.bQ _ j)::r=>Nat.blt j (b+1000)&&lO b r
 | _::r=>lO b r
def w8 (q:Nat) (S:St C):St C:={ env:=lI q S.env,ah:=S.ah,base:=q+1000 }
def Kh (x:Bool×List (Lf C)):SV C:=match x with
 | (false,[l])=>.one l
 | (_,ls)=>.agg ls
def ji (b:Nat):List (Nat×SV C)→List (Nat×SV C)
 | []=>[]
 | (t,.bQ x j)::r=>cond (Nat.ble 1000 t) (cond (Nat.beq j (b+t)) ((t-1000,Kh x)::ji b r) (cond (Nat.blt j (b+1000)) ((t-1000,.bQ x j)::ji b r) (rm (ji b r) (t-1000)))) (ji b r)
 | (t,.jf id j)::r=>cond (Nat.ble 1000 t) (cond (Nat.blt j (b+1000)) ((t-1000,.jf id j)::ji b r) (rm (ji b r) (t-1000))) (ji b r)
 | (t,.frame)::r=>cond (Nat.ble 1000 t) ((t-1000,.frame)::ji b r) (ji b r)
 | (t,_)::r=>rm (ji b r) (t-1000)
def UZ (q b:Nat) (S:St C):St C:={ env:=ji q S.env,ah:=S.ah,base:=b }
def Gv (b:Nat) (d:Option Tmp):Nat:=match d with
 | some d=>(b+d)*1000
 | none=>(b+998)*1000
def fI:List (Nat×SV C)→List (Nat×SV C)
 | []=>[]
 | (t,.bQ x j)::r=>(t,.bQ x j)::rm (fI r) t
 | (t,.jf id j)::r=>(t,.jf id j)::rm (fI r) t
 | (t,.frame)::r=>(t,.frame)::rm (fI r) t
 | (t,_)::r=>rm (fI r) t
def qn (env:List (Nat×SV C)):List Nat→List (Nat×SV C)
 | []=>[]
 | t::r=>match lk env t with
  | some v=>(t,v)::qn env r
  | none=>qn env r
def jQ (env:List (Nat×SV C)) (keep:List Nat):List (Nat×SV C):=qn env keep++fI env
def St.tidy (S:St C) (keep:List Nat):St C:={ S with env:=jQ S.env keep }
def Al {R:Type} (l:Lf C) (k:Lf C→R):R:=match l with
 | .int a b=>k (.int a b)
 | .bool b=>k (.bool b)
 | .str s=>k (.str s)
 | .row t xs=>k (.row t xs)
 | .nil t=>k (.nil t)
 | .pP=>k .pP
 | .ptr a b=>iV a fun a=>k (.ptr a b)
 | .nH t x o=>k (.nH t x o)
 | .ref a p=>iV a fun a=>k (.ref a p)
 | .ep a p i o=>iV a fun a=>k (.ep a p i o)
 | .bP f=>k (.bP f)
 | .lF n=>k (.lF n)
 | .vo a=>iV a fun a=>k (.vo a)
 | .sub a l h=>iV a fun a=>k (.sub a l h)
def o4 {R:Type}:List (Lf C)→(List (Lf C)→R)→R
 | [],k=>k []
 | l::r,k=>Al l fun l'=>o4 r fun r'=>k (l'::r')
def FH {R:Type} (v:SV C) (k:SV C→R):R:=match v with
 | .one l=>Al l fun l'=>k (.one l')
 | .agg ls=>o4 ls fun ls'=>k (.agg ls')
 | .qg vs=>k (.qg vs)
 | .mN=>k .mN
 | .jf a j=>k (.jf a j)
 | .frame=>k .frame
 | .bQ (b,ls) j=>o4 ls fun ls'=>k (.bQ (b,ls') j)
def ur {R:Type}:List (SV C)→(List (SV C)→R)→R
 | [],k=>k []
 | v::r,k=>FH v fun v'=>ur r fun r'=>k (v'::r')
def Am {R:Type}:List (Nat×SV C)→(List (Nat×SV C)→R)→R
 | [],k=>k []
 | (t,v)::r,k=>FH v fun v'=>Am r fun r'=>k ((t,v')::r')
def me {R:Type}:List (Nat×Ob C)→(List (Nat×Ob C)→R)→R
 | [],k=>k []
 | (t,.box kd ls)::r,k=>iV t fun t=>o4 ls fun ls'=>me r fun r'=>k ((t,.box kd ls')::r')
 | (t,.row a xs sh)::r,k=>iV t fun t=>me r fun r'=>k ((t,.row a xs sh)::r')
 | (t,.map a b c d e)::r,k=>iV t fun t=>me r fun r'=>k ((t,.map a b c d e)::r')
 | (t,.ghost)::r,k=>iV t fun t=>me r fun r'=>k ((t,.ghost)::r')
def MM {R:Type} (n:Nat) (k:Nat→R):R:=iV n k
theorem Jp {R:Type} (n:Nat) (k:Nat→R):MM n k=k n:=ja n k
def ma {R:Type} (S:St C) (k:St C→R):R:=MM S.base fun b=>Am S.env fun e=>me S.ah fun o=>k ⟨e,o,b⟩
theorem yI {R:Type} (l:Lf C) (k:Lf C→R):Al l k=k l:=by cases l<;>simp only [Al,ja]
theorem m8 {R:Type}:∀ (l:List (Lf C)) (k:List (Lf C)→R),o4 l k=k l
 | [],_=>rfl
 | l::r,k=>by rw [o4,yI,m8 r]
theorem yH {R:Type} (v:SV C) (k:SV C→R):FH v k=k v:=by
 cases v with
 | one l=>exact yI l fun l'=>k (.one l')
 | agg ls=>exact m8 ls fun ls'=>k (.agg ls')
 | bQ x j=>obtain ⟨b,ls⟩:=x;exact m8 ls fun ls'=>k (.bQ (b,ls') j)
 | _=>rfl
theorem vO {R:Type}:∀ (l:List (SV C)) (k:List (SV C)→R),ur l k=k l
 | [],_=>rfl
 | v::r,k=>by rw [ur,yH,vO r]
theorem yJ {R:Type}:∀ (l:List (Nat×SV C)) (k:List (Nat×SV C)→R),Am l k=k l
 | [],_=>rfl
 | (t,v)::r,k=>by rw [Am,yH,yJ r]
theorem mC {R:Type}:∀ (l:List (Nat×Ob C)) (k:List (Nat×Ob C)→R),me l k=k l
 | [],_=>rfl
 | (t,.box kd ls)::r,k=>by rw [me,ja,m8,mC r]
 | (t,.row a xs sh)::r,k=>by rw [me,ja,mC r]
 | (t,.map a b c d e)::r,k=>by rw [me,ja,mC r]
 | (t,.ghost)::r,k=>by rw [me,ja,mC r]
theorem kS {R:Type} (S:St C) (k:St C→R):ma S k=k S:=by rw [ma,Jp,yJ,mC]
def v8 {R:Type} (X:Cx C) (S:St C) (f:Nat) (pre:List (SV C)) (as:List Operand) (ts:List TypeId) (post:List (SV C)) (o:Oper) (k:St C→Option R):Option R:=
 match X.inl f with
 | some I=>match fg X S as ts with
  | some vs=>iV S.base fun b=>cond (lO (Gv b o.dst) S.env) (ur (pre++(vs++post)) fun vs'=>ma (w8 (Gv b o.dst) (S.tidy X.hold)) fun S1=>I.go R vs' S1 (fun rs S'=>match rJ rs with
   | some v=>ma ((UZ (Gv b o.dst) b S').put o.dst v) k
   | none=>none)) none
  | none=>none
 | none=>none
def lfV:Lf C→Option Value
 | .int k n=>some (.int k n)
 | .bool b=>some (.bool b)
 | .str s=>some (.string s)
 | _=>none
def vLf:Value→Option (Lf C)
 | .int k n=>some (.int k n)
 | .bool b=>some (.bool b)
 | .string s=>some (.str s)
 | _=>none
def I8:List (SV C)→Option (List Value)
 | []=>some []
 | .one l::r=>match lfV l,I8 r with
  | some u,some us=>some (u::us)
  | _,_=>none
 | _=>none
def Ja [DecidableEq Ty] {R:Type} (X:Cx C) (t:Ty) (S:St C) (as:List Operand) (ts:List TypeId) (o:Oper) (k:St C→Option R):Option R:=match as,ts with
 | [s,i,x],[T,_,T']=>match gb X S T s,eG S i,eG S x with
  | some (.one l),some (.one (.int .i64 n)),some (.one (.ref id []))=>match lk S.ah id with
   | some (.row t1 ys sh)=>cond (Nat.beq ys.length 1&&decide (t1=t)&&decide (0≤n)) (match l with
    | .nil t0=>cond (decide (n=0)) (oG (some n.toNat) X o S t t0 t1 [] ys none (some id) sh k) none
    | .ref dK []=>cond (Nat.beq dK id) none (match lk S.ah dK with
     | some (.row t0 xs gq)=>cond (decide (n≤(xs.length:Int))) (oG (some n.toNat) X o S t t0 t1 xs ys (some dK) (some id) (gq||sh) k) none
     | _=>none)
    | _=>none) none
   | _=>none
  | _,_,_=>none
 | _,_=>none
def oC [DecidableEq Ty] {R:Type} (X:Cx C) (S:St C) (f:Nat) (as:List Operand) (ts:List TypeId) (o:Oper) (k:St C→Option R):Option R:=
 match X.ins f with
 | some t=>Ja X t S as ts o k
 | none=>
 match X.ext f with
 | some e=>match fg X S as ts with
  | some vs=>match I8 vs with
   | some us=>match e us with
    | some v=>match vLf v with
     | some l=>k (S.put o.dst (.one l))
     | none=>none
    | none=>none
   | none=>none
  | none=>none
 | none=>v8 X S f [] as ts [] o k
def rq {R:Type} (X:Cx C) (S:St C) (f:Nat) (pre:List (SV C)) (as:List Operand) (ts:List TypeId) (post:List (SV C)) (o:Oper) (k:St C→Option R):Option R:=
 match X.HU f with
 | some c=>pG X c S pre as ts post o k
 | none=>v8 X S f pre as ts post o k
def xh {R:Type} (ls:List (Lf C)) (sz:Nat) (ag:Bool) (i:Int) (k:SV C→Option R):Nat→Nat→Option R
 | 0,_=>none
 | n+1,j=>cond (decide (i=(j:Int))) (match ag with
  | true=>k (.agg ((ls.drop (j*sz)).take sz))
  | false=>match ls[j*sz]? with
   | some l=>k (.one l)
   | none=>none) (xh ls sz ag i k n (j+1))
def xm (S:St C) (n:Nat):Option Operand→Option Int
 | none=>some n
 | some x=>match eG S x with
  | some (.one (.int _ m))=>some m
  | _=>none
def Kr [DecidableEq Ty] {R:Type} (S:St C) (t1:Ty) (id lo hi:Nat) (n:Int) (k:SV C→Option R):Option R:=match lk S.ah id with
 | some (.row t0 xs _)=>cond (decide (t0=t1)) (cond (decide (0≤n)) (cond (decide (n<((hi-lo:Nat):Int))) (k (.one (.ep id [] (lo+n.toNat) 0))) none) none) none
 | _=>none
def Fk (X:Cx C) (o:Oper):Bool:=match o.dst with
 | some d=>X.view.any (Nat.beq d)
 | none=>false
def Kq [DecidableEq Ty] {R:Type} (X:Cx C) (S:St C) (t1:Ty) (id:Nat) (lo hi:Option Operand) (k:SV C→Option R):Option R:=match lk S.ah id with
 | some (.row t0 xs _)=>match xm S 0 lo,xm S xs.length hi with
  | some l,some h=>cond (decide (t0=t1)) (cond (decide (0≤l)) (cond (decide (l≤h)) (cond (decide (h≤(xs.length:Int))) (k (.one (.sub id l.toNat h.toNat))) none) none) none) none
  | _,_=>none
 | _=>none
def Ko [DecidableEq Ty] {R:Type} (X:Cx C) (S:St C) (t1:Ty) (id wZ hi0:Nat) (lo hi:Option Operand) (k:SV C→Option R):Option R:=match lk S.ah id with
 | some (.row t0 xs _)=>match xm S 0 lo,xm S (hi0-wZ) hi with
  | some l,some h=>cond (decide (t0=t1)) (cond (decide (0≤l)) (cond (decide (l≤h)) (cond (decide (h≤((hi0-wZ:Nat):Int))) (k (.one (.sub id (wZ+l.toNat) (wZ+h.toNat)))) none) none) none) none
  | _,_=>none
 | _=>none
def zK [DecidableEq Ty] {R:Type} (X:Cx C) (S:St C) (o:Oper) (t1:Ty) (id:Nat) (lo hi:Option Operand) (k:St C→Option R):Option R:=match lk S.ah id,lo with
 | some (.row t0 xs false),none=>match xm S xs.length hi with
  | some h=>cond (decide (t0=t1)) (cond (decide (0≤h)) (cond (decide (h≤(xs.length:Int))) (match St.add (fA S (some id)) (cg X S o) (.row t0 (xs.take h.toNat) false) with
   | some S'=>k (S'.put o.dst (.one (.ref (cg X S o) [])))
   | none=>none) none) none) none
  | none=>none
 | _,_=>none
noncomputable def ev [DecidableEq Ty] {R:Type} (X:Cx C) (o:Oper) (S:St C) (k:St C→Option R):Option R:=
 match o.op with
 | .move x | .assign x=>match gb X S o.type x with
  | some v=>k (S.put o.dst v)
  | none=>none
 | .pick c a b=>match eG S c,eG S a,eG S b with
  | some (.one (.bool c)),some (.one (.bool x)),some (.one (.bool y))=>k (S.put o.dst (.one (.bool (cond c x y))))
  | some (.one (.bool true)),some v,_=>k (S.put o.dst v)
  | some (.one (.bool false)),_,some v=>k (S.put o.dst v)
  | _,_,_=>none
 | .box e x=>match eG S x,X.tk e with
  | some v,some tk=>cond (HF v tk) (match S.add (cg X S o) (.box .mem v.leaves) with
   | some S'=>k (S'.put o.dst (.one (.ptr (cg X S o) 0)))
   | none=>none) none
  | _,_=>none
 | .alloc e=>match X.tk e with
  | some (.one z)=>match S.add (cg X S o) (.box .mem [z.lf]) with
   | some S'=>k (S'.put o.dst (.one (.ptr (cg X S o) 0)))
   | none=>none
  | some (.agg _ zs)=>match S.add (cg X S o) (.box .mem (zs.map ZL.lf)) with
   | some S'=>k (S'.put o.dst (.one (.ptr (cg X S o) 0)))
   | none=>none
  | some (.arr _ _ _ zs)=>match S.add (cg X S o) (.box .mem (zs.map ZL.lf)) with
   | some S'=>k (S'.put o.dst (.one (.ptr (cg X S o) 0)))
   | none=>none
  | none=>none
 | .build t parts=>match X.tk t with
  | some (.agg fs zs)=>match partsOf X fs S parts.toList (zs.map ZL.lf) with
   | some ls=>cond (fs.all fun f=>Nat.ble (f.1+f.2.1) zs.length) (k (S.put o.dst (.agg ls))) none
   | none=>none
  | some (.arr n sz ag zs)=>match partsOf X (wi sz ag 0 n) S parts.toList (zs.map ZL.lf) with
   | some ls=>k (S.put o.dst (.agg ls))
   | none=>none
  | _=>none
 | .buildSlice t n parts=>match X.tk t with
  | some (.one (.dR t))=>match elems X t S 0 parts.toList with
   | some (es,S',b)=>cond (Nat.beq es.length n&&Nat.ble (n*X.K.sz t) 16777216) (match S'.add (cg X S o) (.row t es (cond (X.K.flat t) false b)) with
    | some A9=>k (A9.put o.dst (.one (.ref (cg X S o) [])))
    | none=>none) none
   | none=>none
  | _=>none
 | .load t a=>match X.tk t,eG S a with
  | some tk,some (.one l)=>ez X S l fun ls=>match Aa tk ls with
   | some v=>k (S.put o.dst v)
   | none=>none
  | _,_=>none
 | .store t a x=>match X.tk t,eG S a,gb X S t x with
  | some tk,some (.one (.ptr id off)),some v=>cond (fits v tk) (match lk S.ah id with
   | some (.box .mem ls)=>cond (Nat.ble (off+tk.size) ls.length) (k ((S.setObj id (.box .mem (setAt ls off v.leaves))).drop o.dst)) none
   | _=>none) none
  | some tk,some (.one (.ep id [] i off)),some v=>cond (fits v tk) (match di S v.leaves with
   | some (ls,S',b)=>match lk S'.ah id with
    | some (.row t xs sh)=>cond (b && !sh) none (Option.bind xs[i]? fun x=>match X.K.dec t (setAt (X.K.enc t x) off ls) with
     | some y=>cond (Nat.ble (off+tk.size) (X.K.sz t)) (cond (S'.ah.any fun x=>yP id x.2) none (k (({ S'.setObj id (.row t (xs.set i y) sh) with env:=jg id S'.env }).drop o.dst))) none
     | none=>none)
    | _=>none
   | none=>none) none
  | _,_,_=>none
 | .nilCheck x=>match eG S x with
  | some (.one (.ptr id off))=>k (S.put o.dst (.one (.ptr id off)))
  | some (.one (.nH t x off))=>k (S.put o.dst (.one (.nH t x off)))
  | some (.one (.ep id p i off))=>k (S.put o.dst (.one (.ep id p i off)))
  | some v=>cond (vw S v) (k (S.put o.dst v)) none
  | none=>none
 | .binOp op t x y t'=>match gb X S t x,gb X S t' y with
  | some a,some (.one (.nil _))=>vq (X.tk t) X S op a fun v=>k (S.put o.dst v)
  | some a,some b=>cond (Ae b) (oz S (X.tk t) op a b (isConst y) fun v=>k (S.put o.dst v)) (FY (X.Q0 t) (X.tk t) op a b fun v=>k (S.put o.dst v))
  | _,_=>none
 | .unOp op t x=>match op,eG S x with
  | .not,some (.one (.bool b))=>k (S.put o.dst (.one (.bool (!b))))
  | .neg,some (.one (.int ki n))=>k (S.put o.dst (.one (.int ki (ki.wrap (0-n)))))
  | _,_=>none
 | .convert t t' x=>match X.tk t,X.tk t',eG S x with
  | some _,some (.one (.int k')),some (.one (.int _ n))=>k (S.put o.dst (.one (.int k' (k'.wrap n))))
  | some _,some (.one .str),some (.one (.str s))=>k (S.put o.dst (.one (.str s)))
  | some (.one (.dR t1)),some (.one .str),some (.one l)=>nO S X l fun t0 xs=>cond (decide (t0=t1)) (cond (X.K.byte t1) (match X.tk (X.K.tid t1) with
   | some (.one (.int .u8))=>k (S.put o.dst (.one (.str (strOf X.K t0 xs))))
   | _=>none) none) none
  | _,_,_=>none
 | .fieldAddr t x f=>match X.tk t,eG S x with
  | some (.agg fs _),some (.one l)=>match fs[f]? with
   | some (off,_,_)=>match AK l off with
    | some l'=>k (S.put o.dst (.one l'))
    | none=>none
   | none=>none
  | _,_=>none
 | .field t x f=>match X.tk t,eG S x with
  | some (.agg fs _),some (.agg ls)=>match fs[f]? with
   | some (off,n,true)=>k (S.put o.dst (.agg ((ls.drop off).take n)))
   | some (off,_,false)=>match ls[off]? with
    | some l=>k (S.put o.dst (.one l))
    | none=>none
   | none=>none
  | _,_=>none
 | .indexAddr t x i=>match X.tk t,eG S x,eG S i with
  | some (.one (.dR t1)),some (.one (.row t0 xs)),some (.one (.int _ n))=>cond (decide (t0=t1)) (cond (decide (0≤n)) (Option.bind xs[n.toNat]? fun e=>k (S.put o.dst (.one (.nH t0 e 0)))) none) none
  | some (.one (.dR t1)),some (.one (.ref id p)),some (.one (.int _ n))=>cond (decide (0≤n)) (nO S X (.ref id p) fun t0 xs=>
    cond (decide (t0=t1)) (cond (decide (n<(xs.length:Int))) (k (S.put o.dst (.one (.ep id p n.toNat 0)))) none) none) none
  | some (.one (.dR t1)),some (.one (.sub id lo hi)),some (.one (.int _ n))=>Kr S t1 id lo hi n fun v=>k (S.put o.dst v)
  | _,_,_=>none
 | .index t x i=>match X.tk t,eG S x,eG S i with
  | some (.one .str),some (.one (.str s)),some (.one (.int _ n))=>cond (decide (0≤n)) (cond (decide (n<(s.size:Int))) (k (S.put o.dst (.one (.int .u8 (s5 s n))))) none) none
  | some (.arr m sz ag _),some (.agg ls),some (.one (.int _ n))=>xh ls sz ag n (fun v=>k (S.put o.dst v)) m 0
  | _,_,_=>none
 | .slice t x lo hi mx=>match mx,X.tk t,eG S x with
  | none,some (.one .str),some (.one (.str s))=>
   match xm S 0 lo,xm S s.size hi with
   | some l,some h=>cond (decide (0≤l)) (cond (decide (l≤h)) (cond (decide (h≤(s.size:Int))) (k (S.put o.dst (.one (.str (s.extract l.toNat h.toNat))))) none) none) none
   | _,_=>none
  | none,some (.one (.dR t1)),some (.one (.row t0 xs))=>
   match xm S 0 lo,xm S xs.length hi with
   | some l,some h=>cond (decide (t0=t1)) (cond (decide (0≤l)) (cond (decide (l≤h)) (cond (decide (h≤(xs.length:Int))) (k (S.put o.dst (.one (.row t0 ((xs.take h.toNat).drop l.toNat))))) none) none) none) none
   | _,_=>none
  | none,some (.one (.dR t1)),some (.one (.ref id []))=>cond (Fk X o) (Kq X S t1 id lo hi fun v=>k (S.put o.dst v)) (zK X S o t1 id lo hi k)
  | none,some (.one (.dR t1)),some (.one (.sub id wZ hi0))=>Ko X S t1 id wZ hi0 lo hi fun v=>k (S.put o.dst v)
  | _,_,_=>none
 | .makeSlice t n c=>cond (qU n) (match X.tk t,eG S c with
  | some (.one (.dR t)),some (.one (.int _ m))=>cond (decide (0≤m)) (cond (decide (m*(X.K.bytes t:Int)≤140737488355328)) (match S.add (cg X S o) (.row t [] false) with
    | some S'=>k (S'.put o.dst (.one (.ref (cg X S o) [])))
    | none=>none) none) none
  | _,_=>none) (match X.tk t,eG S n,eG S c with
  | some (.one (.dR t)),some (.one (.int _ n)),some (.one (.int _ m))=>
   cond (decide (n=m)) (cond (decide (0≤n)) (cond (decide (n*(X.K.bytes t:Int)≤140737488355328)) (match S.add (cg X S o) (.row t (List.replicate n.toNat (X.K.zero t)) false) with
    | some S'=>k (S'.put o.dst (.one (.ref (cg X S o) [])))
    | none=>none) none) none) none
  | _,_,_=>none)
 | .extract t i=>match eG S t with
  | some (.qg vs)=>match vs[i]? with
   | some (false,[l])=>k (S.put o.dst (.one l))
   | some (true,ls)=>k (S.put o.dst (.agg ls))
   | _=>none
  | _=>none
 | .call c=>match c.callee with
  | .builtin .len=>match c.args.toList,c.argTypes.toList with
   | [x],[t]=>match X.tk t,eG S x with
    | some (.one .str),some (.one (.str s))=>k (S.put o.dst (.one (.int .i64 s.size)))
    | some (.one (.dR _)),some (.one l)=>nO S X l fun _ xs=>k (S.put o.dst (.one (.int .i64 xs.length)))
    | _,_=>none
   | _,_=>none
  | .builtin .min=>match c.args.toList with
   | [x,y]=>match eG S x,eG S y with
    | some (.one (.int kx a)),some (.one (.int _ b))=>k (S.put o.dst (.one (.int kx (cond (decide (b<a)) b a))))
    | _,_=>none
   | _=>none
  | .builtin .max=>match c.args.toList with
   | [x,y]=>match eG S x,eG S y with
    | some (.one (.int kx a)),some (.one (.int _ b))=>k (S.put o.dst (.one (.int kx (cond (decide (b>a)) b a))))
    | _,_=>none
   | _=>none
  | .builtin .append=>match c.args.toList,c.argTypes.toList with
   | [s,x],[t,t']=>match X.tk t,gb X S t s,gb X S t' x with
    | some (.one (.dR t)),some (.one l),some (.one m)=>
     cond (Nat.beq (c.argTypes.toList.headD 0) t') (match l with
     | .nil t0=>match m with
      | .ref id []=>match lk S.ah id with
       | some (.row t1 ys sh)=>oG none X o S t t0 t1 [] ys none (some id) sh k
       | _=>none
      | .sub id lo hi=>match lk S.ah id with
       | some (.row t1 ys _)=>cond (X.K.flat t1) (oG none X o S t t0 t1 [] ((ys.take hi).drop lo) none none false k) none
       | _=>none
      | .row t1 ys=>oG none X o S t t0 t1 [] ys none none true k
      | .nil t1=>oG none X o S t t0 t1 [] [] none none false k
      | _=>none
     | .ref dK []=>match lk S.ah dK with
      | some (.row t0 xs gq)=>match m with
       | .ref id []=>cond (Nat.beq dK id) none (match lk S.ah id with
        | some (.row t1 ys sh)=>oG none X o S t t0 t1 xs ys (some dK) (some id) (gq||sh) k
        | _=>none)
       | .sub id lo hi=>match lk S.ah id with
        | some (.row t1 ys _)=>cond (X.K.flat t1) (oG none X o S t t0 t1 xs ((ys.take hi).drop lo) (some dK) none gq k) none
        | _=>none
       | .row t1 ys=>oG none X o S t t0 t1 xs ys (some dK) none true k
       | .nil t1=>oG none X o S t t0 t1 xs [] (some dK) none gq k
       | _=>none
      | _=>none
     | _=>none) none
    | _,_,_=>none
   | _,_=>none
  | .builtin .copy=>match c.args.toList,c.argTypes.toList with
   | [x,y],[t,t']=>match X.tk t,gb X S t x,gb X S t' y with
    | some (.one (.dR t)),some (.one l),some (.one m)=>copyV X o S t l m k
    | _,_,_=>none
   | _,_=>none
  | .builtin .clear=>match c.args.toList,c.argTypes.toList with
   | [x],[t]=>match X.tk t,eG S x with
    | some (.one (.dR t)),some (.one l)=>clrV X S t l fun S'=>k (S'.drop o.dst)
    | _,_=>none
   | _,_=>none
  | .builtin .delete=>match c.args.toList,c.argTypes.toList with
   | [m,x],[t,t']=>match X.mp t,eG S m,gb X S t' x with
    | some mt,some (.one l),some key=>MV X S mt l key fun S'=>k (S'.drop o.dst)
    | _,_,_=>none
   | _,_=>none
  | .value (.func f)=>match X.HU f with
   | some c'=>pG X c' S [] c.args.toList c.argTypes.toList [] o k
   | none=>match X.vZ f with
    | some _=>tG X S f c.args.toList c.argTypes.toList o k
    | none=>oC X S f c.args.toList c.argTypes.toList o k
  | .value (.tmp t)=>match lk S.env t with
   | some (.one l)=>pE S l fun f pre post=>rq X S f pre c.args.toList c.argTypes.toList post o k
   | _=>none
  | .invoke x name=>qV S (eG S x) fun t v=>match X.Ff t name with
   | some f=>rq X S f [v] c.args.toList c.argTypes.toList [] o k
   | none=>none
  | _=>none
 | .makeFunc fn first captured=>match fn with
  | .func f=>match fg X S first.toList [],fg X S captured.toList [] with
   | some vs,some us=>cond ((vs++us).isEmpty) (cond (Nat.ble nK f) none (k (S.put o.dst (.one (.bP (some f)))))) (match S.add (cg X S o) (.box (.sM f vs.length (tH (vs++us))) (er (vs++us))) with
    | some S'=>k (S'.put o.dst (.one (.vo (cg X S o))))
    | none=>none)
   | _,_=>none
  | _=>none
 | .makeInterface t x=>match X.tk t,gb X S t x with
  | some (.agg [] []),some (.agg [])=>k (S.put o.dst (.one (.bP (some (nK+1+t)))))
  | some tk,some v=>cond (E9 tk&&G4 v) (match S.add (cg X S o) (.box (.lX t (tH [v])) v.leaves) with
   | some S'=>k (S'.put o.dst (.one (.vo (cg X S o))))
   | none=>none) none
  | _,_=>none
 | .makeMap t n=>match n,X.mp t with
  | none,some m=>match S.add (cg X S o) (.map m.fl m.kt m.vt [] 0) with
   | some S'=>k (S'.put o.dst (.one (.vo (cg X S o))))
   | none=>none
  | _,_=>none
 | .lookup t x i ok=>match X.mp t,eG S x,eG S i with
  | some m,some (.one l),some key=>cond m.fl.br (Ch X S m l key ok fun v=>k (S.put o.dst v)) (n7 X S m l key ok fun v=>k (S.put o.dst v))
  | _,_,_=>none
 | .mapUpdate t x i y=>match X.mp t,eG S x,eG S i with
  | some m,some (.one l),some key=>match gb X S (X.K.tid m.vt) y with
   | some v=>ED X S m l key v fun S'=>k (S'.drop o.dst)
   | none=>none
  | _,_,_=>none
 | .insert t x i y=>match X.mp t,eG S x,eG S i with
  | some m,some (.one l),some key=>match gb X S (X.K.tid m.vt) y with
   | some v=>ED X S m l key v fun S'=>k (S'.drop o.dst)
   | none=>none
  | _,_,_=>none
 | _=>none
noncomputable def evs [DecidableEq Ty] {R:Type} (X:Cx C) (all:Array Oper):List Oper→St C→(St C→Option R)→Option R
 | [],S,k=>k S
 | o::r,S,k=>match o.guard with
  | none=>ev X o S (fun S'=>evs X all r S' k)
  | some (j,want)=>match (all[j]?).bind (·.dst) with
   | some d=>match lk S.env d with
    | some (.one (.bool b))=>cond b
      (match want with
       | true=>ev X o (S.put (some d) (.one (.bool true))) (fun S'=>evs X all r S' k)
       | false=>evs X all r ((S.put (some d) (.one (.bool true))).put o.dst .mN) k)
      (match want with
       | true=>evs X all r ((S.put (some d) (.one (.bool false))).put o.dst .mN) k
       | false=>ev X o (S.put (some d) (.one (.bool false))) (fun S'=>evs X all r S' k))
    | some .mN=>evs X all r (S.put o.dst .mN) k
    | _=>none
   | none=>none
def gz:List Nat→Bool
 | []=>true
 | n::r=>(!r.any (Nat.beq n))&&gz r
def dI {α:Type}:List Nat→List (Nat×α)→List (Nat×α)
 | [],l=>l
 | d::r,l=>dI r (rm l d)
def uY:List (Lf C)→List Nat
 | []=>[]
 | .ref id []::r=>id::uY r
 | _::r=>uY r
def qC (X:Cx C) (t:Ty) (S:St C):List (Nat×Operand)→List Nat
 | []=>[]
 | (_,x)::r=>match gb X S (X.K.tid t) x with
  | some v=>uY v.leaves++qC X t { S with ah:=dI (uY v.leaves) S.ah } r
  | none=>[]
def uo (o:Option Nat):List Nat:=match o with
 | some id=>[id]
 | none=>[]
def nI [DecidableEq Ty] {R:Type} (at_:Option Nat) (X:Cx C) (o:Oper) (S:St C) (t t0 t1:Ty) (xs:List (C t0)) (ys:List (C t1)) (dK iT:Option Nat) (sh:Bool) (k:SV C→List (Nat×Ob C)→List Nat→Option R):Option R:=
 match kH t0 t xs,kH t1 t ys with
 | some xs,some ys=>cond (decide ((xs.length+ys.length)*X.K.bytes t≤140737488355328)) (k (.one (.ref (cg X S o) [])) [(cg X S o,.row t (kG at_ xs ys) (cond (X.K.flat t) false sh))] (uo dK++uo iT)) none
 | _,_=>none
def SU [DecidableEq Ty] {R:Type} (X:Cx C) (t:Ty) (S:St C) (as:List Operand) (ts:List TypeId) (o:Oper) (k:SV C→List (Nat×Ob C)→List Nat→Option R):Option R:=match as,ts with
 | [s,i,x],[T,_,T']=>match gb X S T s,eG S i,eG S x with
  | some (.one l),some (.one (.int .i64 n)),some (.one (.ref id []))=>match lk S.ah id with
   | some (.row t1 ys sh)=>cond (Nat.beq ys.length 1&&decide (t1=t)&&decide (0≤n)) (match l with
    | .nil t0=>cond (decide (n=0)) (nI (some n.toNat) X o S t t0 t1 [] ys none (some id) sh k) none
    | .ref dK []=>cond (Nat.beq dK id) none (match lk S.ah dK with
     | some (.row t0 xs gq)=>cond (decide (n≤(xs.length:Int))) (nI (some n.toNat) X o S t t0 t1 xs ys (some dK) (some id) (gq||sh) k) none
     | _=>none)
    | _=>none) none
   | _=>none
  | _,_,_=>none
 | _,_=>none
def ng {R:Type} (X:Cx C) (c:iK C) (S:St C) (pre:List (SV C)) (as:List Operand) (ts:List TypeId) (post:List (SV C)) (o:Oper) (k:SV C→List (Nat×Ob C)→List Nat→Option R):Option R:=AH X S c.pt pre as ts post fun vs=>Option.bind (c.g vs) fun r=>match c.nz with
  | true=>none
  | false=>match B8 c (cg X S o) (c.ret r) with
   | (rs,news)=>match rJ rs with
    | some v=>k v news.reverse []
    | none=>none
def uw {R:Type} (X:Cx C) (c:iK C) (S:St C) (pre:List (SV C)) (as:List Operand) (ts:List TypeId) (post:List (SV C)) (o:Oper) (k:SV C→List (Nat×Ob C)→List Nat→Option R):Option R:=match mJ X S c.pt pre as ts post with
 | some vs=>Option.bind (c.g vs) fun r=>match c.nz with
  | true=>none
  | false=>match B8 c (cg X S o) (c.ret r) with
   | (rs,news)=>match rJ rs with
    | some v=>k v news.reverse []
    | none=>none
 | none=>none
theorem sO {R:Type} (X:Cx C) (c:iK C) (S:St C) (pre:List (SV C)) (as:List Operand) (ts:List TypeId) (post:List (SV C)) (o:Oper) (k:SV C→List (Nat×Ob C)→List Nat→Option R):ng X c S pre as ts post o k=uw X c S pre as ts post o k:=by
 unfold ng uw;rw [zc];cases mJ X S c.pt pre as ts post<;>rfl
def ko [DecidableEq Ty] {R:Type} (X:Cx C) (o:Oper) (S:St C) (k:SV C→List (Nat×Ob C)→List Nat→Option R):Option R:=
 match o.op with
 | .move x=>match gb X S o.type x with
  | some v=>k v [] []
  | none=>none
 | .pick c a b=>match eG S c,eG S a,eG S b with
  | some (.one (.bool c)),some (.one (.bool x)),some (.one (.bool y))=>k (.one (.bool (cond c x y))) [] []
  | some (.one (.bool true)),some v,_=>k v [] []
  | some (.one (.bool false)),_,some v=>k v [] []
  | _,_,_=>none
 | .box e x=>match eG S x,X.tk e with
  | some v,some tk=>cond (HF v tk) (k (.one (.ptr (cg X S o) 0)) [(cg X S o,.box .mem v.leaves)] []) none
  | _,_=>none
 | .alloc e=>match X.tk e with
  | some (.one z)=>k (.one (.ptr (cg X S o) 0)) [(cg X S o,.box .mem [z.lf])] []
  | some (.agg _ zs)=>k (.one (.ptr (cg X S o) 0)) [(cg X S o,.box .mem (zs.map ZL.lf))] []
  | some (.arr _ _ _ zs)=>k (.one (.ptr (cg X S o) 0)) [(cg X S o,.box .mem (zs.map ZL.lf))] []
  | none=>none
 | .build t parts=>match X.tk t with
  | some (.agg fs zs)=>match partsOf X fs S parts.toList (zs.map ZL.lf) with
   | some ls=>cond (fs.all fun f=>Nat.ble (f.1+f.2.1) zs.length) (k (.agg ls) [] []) none
   | none=>none
  | some (.arr n sz ag zs)=>match partsOf X (wi sz ag 0 n) S parts.toList (zs.map ZL.lf) with
   | some ls=>k (.agg ls) [] []
   | none=>none
  | _=>none
 | .buildSlice t n parts=>match X.tk t with
  | some (.one (.dR t))=>match elems X t S 0 parts.toList with
   | some (es,_,b)=>cond (Nat.beq es.length n&&Nat.ble (n*X.K.sz t) 16777216) (k (.one (.ref (cg X S o) [])) [(cg X S o,.row t es (cond (X.K.flat t) false b))] (qC X t S parts.toList)) none
   | none=>none
  | _=>none
 | .load t a=>match X.tk t,eG S a with
  | some tk,some (.one l)=>ez X S l fun ls=>match Aa tk ls with
   | some v=>k v [] []
   | none=>none
  | _,_=>none
 | .nilCheck x=>match eG S x with
  | some (.one (.ptr id off))=>k (.one (.ptr id off)) [] []
  | some (.one (.nH t x off))=>k (.one (.nH t x off)) [] []
  | some (.one (.ep id p i off))=>k (.one (.ep id p i off)) [] []
  | some v=>cond (vw S v) (k v [] []) none
  | none=>none
 | .binOp op t x y t'=>match gb X S t x,gb X S t' y with
  | some _,some (.one (.nil _))=>none
  | some a,some b=>cond (Ae b) (oz S (X.tk t) op a b (isConst y) fun v=>k v [] []) (FY (X.Q0 t) (X.tk t) op a b fun v=>k v [] [])
  | _,_=>none
 | .unOp op t x=>match op,eG S x with
  | .not,some (.one (.bool b))=>k (.one (.bool (!b))) [] []
  | .neg,some (.one (.int ki n))=>k (.one (.int ki (ki.wrap (0-n)))) [] []
  | _,_=>none
 | .convert t t' x=>match X.tk t,X.tk t',eG S x with
  | some _,some (.one (.int k')),some (.one (.int _ n))=>k (.one (.int k' (k'.wrap n))) [] []
  | some _,some (.one .str),some (.one (.str s))=>k (.one (.str s)) [] []
  | some (.one (.dR t1)),some (.one .str),some (.one l)=>nO S X l fun t0 xs=>cond (decide (t0=t1)) (cond (X.K.byte t1) (match X.tk (X.K.tid t1) with
   | some (.one (.int .u8))=>k (.one (.str (strOf X.K t0 xs))) [] []
   | _=>none) none) none
  | _,_,_=>none
 | .fieldAddr t x f=>match X.tk t,eG S x with
  | some (.agg fs _),some (.one l)=>match fs[f]? with
   | some (off,_,_)=>match AK l off with
    | some l'=>k (.one l') [] []
    | none=>none
   | none=>none
  | _,_=>none
 | .field t x f=>match X.tk t,eG S x with
  | some (.agg fs _),some (.agg ls)=>match fs[f]? with
   | some (off,n,true)=>k (.agg ((ls.drop off).take n)) [] []
   | some (off,_,false)=>match ls[off]? with
    | some l=>k (.one l) [] []
    | none=>none
   | none=>none
  | _,_=>none
 | .indexAddr t x i=>match X.tk t,eG S x,eG S i with
  | some (.one (.dR t1)),some (.one (.row t0 xs)),some (.one (.int _ n))=>cond (decide (t0=t1)) (cond (decide (0≤n)) (Option.bind xs[n.toNat]? fun e=>k (.one (.nH t0 e 0)) [] []) none) none
  | some (.one (.dR t1)),some (.one (.ref id p)),some (.one (.int _ n))=>cond (decide (0≤n)) (nO S X (.ref id p) fun t0 xs=>
    cond (decide (t0=t1)) (cond (decide (n<(xs.length:Int))) (k (.one (.ep id p n.toNat 0)) [] []) none) none) none
  | some (.one (.dR t1)),some (.one (.sub id lo hi)),some (.one (.int _ n))=>Kr S t1 id lo hi n fun v=>k v [] []
  | _,_,_=>none
 | .index t x i=>match X.tk t,eG S x,eG S i with
  | some (.one .str),some (.one (.str s)),some (.one (.int _ n))=>cond (decide (0≤n)) (cond (decide (n<(s.size:Int))) (k (.one (.int .u8 (s5 s n))) [] []) none) none
  | some (.arr m sz ag _),some (.agg ls),some (.one (.int _ n))=>xh ls sz ag n (fun v=>k v [] []) m 0
  | _,_,_=>none
 | .slice t x lo hi mx=>match mx,X.tk t,eG S x with
  | none,some (.one .str),some (.one (.str s))=>
   match xm S 0 lo,xm S s.size hi with
   | some l,some h=>cond (decide (0≤l)) (cond (decide (l≤h)) (cond (decide (h≤(s.size:Int))) (k (.one (.str (s.extract l.toNat h.toNat))) [] []) none) none) none
   | _,_=>none
  | none,some (.one (.dR t1)),some (.one (.row t0 xs))=>
   match xm S 0 lo,xm S xs.length hi with
   | some l,some h=>cond (decide (t0=t1)) (cond (decide (0≤l)) (cond (decide (l≤h)) (cond (decide (h≤(xs.length:Int))) (k (.one (.row t0 ((xs.take h.toNat).drop l.toNat))) [] []) none) none) none) none
   | _,_=>none
  | none,some (.one (.dR t1)),some (.one (.ref id []))=>cond (Fk X o) (Kq X S t1 id lo hi fun v=>k v [] []) none
  | none,some (.one (.dR t1)),some (.one (.sub id wZ hi0))=>Ko X S t1 id wZ hi0 lo hi fun v=>k v [] []
  | _,_,_=>none
 | .makeSlice t n c=>cond (qU n) (match X.tk t,eG S c with
  | some (.one (.dR t)),some (.one (.int _ m))=>cond (decide (0≤m)) (cond (decide (m*(X.K.bytes t:Int)≤140737488355328)) (k (.one (.ref (cg X S o) [])) [(cg X S o,.row t [] false)] []) none) none
  | _,_=>none) (match X.tk t,eG S n,eG S c with
  | some (.one (.dR t)),some (.one (.int _ n)),some (.one (.int _ m))=>
   cond (decide (n=m)) (cond (decide (0≤n)) (cond (decide (n*(X.K.bytes t:Int)≤140737488355328)) (k (.one (.ref (cg X S o) [])) [(cg X S o,.row t (List.replicate n.toNat (X.K.zero t)) false)] []) none) none) none
  | _,_,_=>none)
 | .extract t i=>match eG S t with
  | some (.qg vs)=>match vs[i]? with
   | some (false,[l])=>k (.one l) [] []
   | some (true,ls)=>k (.agg ls) [] []
   | _=>none
  | _=>none
 | .call c=>match c.callee with
  | .builtin .len=>match c.args.toList,c.argTypes.toList with
   | [x],[t]=>match X.tk t,eG S x with
    | some (.one .str),some (.one (.str s))=>k (.one (.int .i64 s.size)) [] []
    | some (.one (.dR _)),some (.one l)=>nO S X l fun _ xs=>k (.one (.int .i64 xs.length)) [] []
    | _,_=>none
   | _,_=>none
  | .builtin .min=>match c.args.toList with
   | [x,y]=>match eG S x,eG S y with
    | some (.one (.int kx a)),some (.one (.int _ b))=>k (.one (.int kx (cond (decide (b<a)) b a))) [] []
    | _,_=>none
   | _=>none
  | .builtin .max=>match c.args.toList with
   | [x,y]=>match eG S x,eG S y with
    | some (.one (.int kx a)),some (.one (.int _ b))=>k (.one (.int kx (cond (decide (b>a)) b a))) [] []
    | _,_=>none
   | _=>none
  | .builtin .append=>match c.args.toList,c.argTypes.toList with
   | [s,x],[t,t']=>match X.tk t,gb X S t s,gb X S t' x with
    | some (.one (.dR t)),some (.one l),some (.one m)=>
     cond (Nat.beq (c.argTypes.toList.headD 0) t') (match l with
     | .nil t0=>match m with
      | .ref id []=>match lk S.ah id with
       | some (.row t1 ys sh)=>nI none X o S t t0 t1 [] ys none (some id) sh k
       | _=>none
      | .sub id lo hi=>match lk S.ah id with
       | some (.row t1 ys _)=>cond (X.K.flat t1) (nI none X o S t t0 t1 [] ((ys.take hi).drop lo) none none false k) none
       | _=>none
      | .row t1 ys=>nI none X o S t t0 t1 [] ys none none true k
      | .nil t1=>nI none X o S t t0 t1 [] [] none none false k
      | _=>none
     | .ref dK []=>match lk S.ah dK with
      | some (.row t0 xs gq)=>match m with
       | .ref id []=>cond (Nat.beq dK id) none (match lk S.ah id with
        | some (.row t1 ys sh)=>nI none X o S t t0 t1 xs ys (some dK) (some id) (gq||sh) k
        | _=>none)
       | .sub id lo hi=>match lk S.ah id with
        | some (.row t1 ys _)=>cond (X.K.flat t1) (nI none X o S t t0 t1 xs ((ys.take hi).drop lo) (some dK) none gq k) none
        | _=>none
       | .row t1 ys=>nI none X o S t t0 t1 xs ys (some dK) none true k
       | .nil t1=>nI none X o S t t0 t1 xs [] (some dK) none gq k
       | _=>none
      | _=>none
     | _=>none) none
    | _,_,_=>none
   | _,_=>none
  | .value (.func f)=>match X.HU f with
   | some c'=>ng X c' S [] c.args.toList c.argTypes.toList [] o k
   | none=>match X.vZ f with
    | some _=>none
    | none=>match X.ins f with
     | some t=>SU X t S c.args.toList c.argTypes.toList o k
     | none=>none
  | .value (.tmp t)=>match lk S.env t with
   | some (.one l)=>pE S l fun f pre post=>match X.HU f with
    | some c'=>ng X c' S pre c.args.toList c.argTypes.toList post o k
    | none=>none
   | _=>none
  | .invoke x name=>qV S (eG S x) fun t v=>match X.Ff t name with
   | some f=>match X.HU f with
    | some c'=>ng X c' S [v] c.args.toList c.argTypes.toList [] o k
    | none=>none
   | none=>none
  | _=>none
 | .makeFunc fn first captured=>match fn with
  | .func f=>match fg X S first.toList [],fg X S captured.toList [] with
   | some vs,some us=>cond ((vs++us).isEmpty) (cond (Nat.ble nK f) none (k (.one (.bP (some f))) [] [])) (k (.one (.vo (cg X S o))) [(cg X S o,.box (.sM f vs.length (tH (vs++us))) (er (vs++us)))] [])
   | _,_=>none
  | _=>none
 | .makeInterface t x=>match X.tk t,gb X S t x with
  | some (.agg [] []),some (.agg [])=>k (.one (.bP (some (nK+1+t)))) [] []
  | some tk,some v=>cond (E9 tk&&G4 v) (k (.one (.vo (cg X S o))) [(cg X S o,.box (.lX t (tH [v])) v.leaves)] []) none
  | _,_=>none
 | .lookup t x i ok=>match X.mp t,eG S x,eG S i with
  | some m,some (.one l),some key=>cond m.fl.br none (n7 X S m l key ok fun v=>k v [] [])
  | _,_,_=>none
 | _=>none
structure fo (C:Ty→Type) where
 ix:Nat
 dst:Option Tmp
 tQ:Option (SV C×List (Nat×Ob C)×List Nat)
 need:List Nat
 JL:Bool
def fo.app (S:St C) (e:fo C):St C:=match e.tQ with
 | some (v,news,dW)=>St.put { S with ah:=news++dI dW S.ah } e.dst v
 | none=>S
def SD (S0:St C):List (fo C)→St C
 | []=>S0
 | e::es=>fo.app (SD S0 es) e
def Df (tab:List (Nat×Nat)):List Edge→Nat
 | []=>0
 | e::r=>cond (Region.binds .any e) (Nat.lor (Nat.lor (2 ^ e.on) ((lk tab e.on).getD 0)) (Df tab r)) (Df tab r)
def Xa:Nat→List Oper→List (Nat×Nat)→List (Nat×Nat)
 | _,[],t=>t
 | n,o::r,t=>Xa (n+1) r ((n,Df t o.after.toList)::t)
def has (tab:List (Nat×Nat)) (i j:Nat):Bool:=Nat.testBit ((lk tab i).getD 0) j
def Mj (X:Cx C) (o:Oper):Bool:=match o.op with
 | .store .. =>true
 | .assign _=>true
 | .mapUpdate .. =>true
 | .insert .. =>true
 | .call c=>match c.callee with
  | .builtin .delete=>true
  | .builtin .clear=>true
  | .builtin .copy=>true
  | .value (.func f)=>(X.HU f).isNone&&(X.inl f).isSome
  | _=>false
 | _=>false
def yB (X:Cx C) (all:Array Oper) (j:Nat):Bool:=match all[j]? with
 | some o=>Mj X o
 | none=>false
def below:Nat→List Nat
 | 0=>[]
 | n+1=>n::below n
def yb (X:Cx C) (all:Array Oper) (tab:List (Nat×Nat)) (i:Nat) (o:Oper):Bool:=
 o.after.toList.all (fun e=> !Region.binds .any e||Nat.blt e.on i)&&Nat.beq ((lk tab i).getD 0) (Df tab o.after.toList) &&
 (!Mj X o||o.guard.isNone)
def mV (X:Cx C) (all:Array Oper) (tab:List (Nat×Nat)):Nat→List Oper→Bool
 | _,[]=>true
 | n,o::r=>yb X all tab n o&&mV X all tab (n+1) r
def uN {α:Type} (env:List (Nat×α)):List Nat→List (Nat×α)
 | []=>[]
 | t::r=>match lk env t with
  | some v=>(t,v)::uN env r
  | none=>uN env r
def looks (o:Oper):List Nat:=o.op.operands.toList.filterMap fun x=>match x with
 | .tmp t=>some t
 | _=>none
def Vr (S0:St C) (bG:List (fo C)) (tab:List (Nat×Nat)) (n:Nat) (o:Oper):List (Nat×SV C):=uN (SD S0 (bG.filter fun e=>has tab n e.ix)).env (looks o)
def AM:List Nat→List Nat→List Nat
 | [],l=>l
 | i::r,l=>cond (l.any (Nat.beq i)) (AM r l) (AM r (l++[i]))
def EW (O:List (Nat×Ob C)):List Nat→List Nat→List Nat
 | [],l=>l
 | i::r,l=>match lk O i with
  | some (.box _ ls)=>EW O r (AM (ey ls) l)
  | _=>EW O r l
def K0 (O:List (Nat×Ob C)):Nat→List Nat→List Nat
 | 0,l=>l
 | n+1,l=>K0 O n (EW O l l)
def Qo (E:List (Nat×SV C)) (o:Oper):Bool:=match o.op with
 | .move _=>true
 | .fieldAddr .. =>true
 | .nilCheck _=>E.all fun x=>match x.2 with
  | .one (.vo _)=>false
  | _=>true
 | _=>false
def Fe (S0:St C) (bG:List (fo C)) (tab:List (Nat×Nat)) (n:Nat) (o:Oper):List Nat:=cond (Qo (Vr S0 bG tab n o) o) []<|K0 (SD S0 (bG.filter fun e=>has tab n e.ix)).ah 4 (AM (gg (Vr S0 bG tab n o)) [])
def I5 (S0:St C) (bG:List (fo C)) (tab:List (Nat×Nat)) (n:Nat) (o:Oper):St C:=
 { env:=Vr S0 bG tab n o,ah:=uN (SD S0 (bG.filter fun e=>has tab n e.ix)).ah (Fe S0 bG tab n o),base:=S0.base }
def dO (l:List (Nat×Ob C)):List Nat:=l.map (·.1)
def fo.j9 (e:fo C):List Nat:=match e.tQ with
 | some (_,news,_)=>dO news
 | none=>[]
def fo.dW (e:fo C):List Nat:=match e.tQ with
 | some (_,_,dW)=>dW
 | none=>[]
def fo.names (e:fo C):List Nat:=match e.tQ with
 | some (v,news,_)=>fG v++eB news
 | none=>[]
def jt (a b:List Nat):Bool:=a.all fun n=> !b.any (Nat.beq n)
def Gx (a b:Option Tmp):Bool:=match a,b with
 | some a,some b=>Nat.beq a b
 | _,_=>false
def yf (tab:List (Nat×Nat)) (e m:fo C):Bool:=
 !Gx e.dst m.dst&&jt e.j9 m.j9&&(has tab m.ix e.ix||(jt e.j9 m.names&&jt e.j9 m.dW)) &&
 (has tab e.ix m.ix||has tab m.ix e.ix||jt m.dW e.need)
def Bv (S0:St C) (e:fo C):Bool:=
 jt e.j9 e.dW&&gz e.j9&&jt e.j9 (gg S0.env++eB S0.ah)&&(match e.dst with
  | some d=>(lk S0.env d).isNone
  | none=>true)
def Fj (S0:St C) (tab:List (Nat×Nat)) (bG:List (fo C)):Bool:=
 bG.all fun e=>Bv S0 e&&bG.all fun m=>Nat.beq e.ix m.ix||yf tab e m
def tu:List (fo C)→Nat→Option (SV C)
 | [],_=>none
 | e::r,j=>cond (Nat.beq e.ix j) (match e.tQ,e.dst with
  | some (v,_,_),some _=>some v
  | _,_=>none) (tu r j)
def j7:List (fo C)→Nat→Bool→List (fo C)
 | [],_,_=>[]
 | e::r,j,b=>cond (Nat.beq e.ix j) (match e.tQ with
  | some (_,news,dW)=>{ e with tQ:=some (.one (.bool b),news,dW) }::r
  | none=>e::r) (e::j7 r j b)
def RX (tab:List (Nat×Nat)):List Nat→List (List Nat)
 | []=>[[]]
 | j::r=>RX tab r++((RX tab r).filter fun L=>r.all fun d=> !has tab d j||L.any (Nat.beq d)).map (j::·)
def vC (tab:List (Nat×Nat)) (n:Nat) (bG:List (fo C)):List Nat:=((bG.filter fun e=> !has tab n e.ix).map (·.ix)).reverse
noncomputable def Dg {R:Type}:List (Option R)→Option R
 | []=>none
 | [x]=>x
 | x::y::r=>alt x (Dg (y::r))
def jO (all:Array Oper) (L:List Nat):List (Nat×Oper):=L.filterMap fun i=>(all[i]?).map fun o=>(i,o)
def jP:Nat→List Oper→List (Nat×Oper)
 | _,[]=>[]
 | n,o::r=>(n,o)::jP (n+1) r
def mw (O:List (Nat×Ob C)):List Nat→Option (List (Nat×Ob C))
 | []=>some []
 | id::r=>match lk O id with
  | some ob=>match mw O r with
   | some l=>some ((id,ob)::l)
   | none=>none
  | none=>none
def Qr:Lf C→Lf C
 | .nil t=>.row t []
 | l=>l
def tc:SV C→SV C
 | .one l=>.one (Qr l)
 | .agg ls=>.agg (ls.map Qr)
 | v=>v
def Bl (c:jw C) (R:Type) (vs:List (SV C)) (S:St C) (k:List (Bool×List (Lf C))→St C→Option R):Option R:=match mw S.ah c.ids with
 | some O=>cond (jt c.fQ (gg S.env++eB (dI c.ids S.ah))&&vs.all G4) (Option.bind (c.g (vs.map tc) O) fun r=>k (c.ret r) { S with ah:=c.out r++dI c.ids S.ah }) none
 | none=>none
def dH (c:jw C):mP C:=⟨Bl c,match c.fQ with
 | []=>some c
 | _=>none⟩
def qP (X:Cx C) (o:Oper):Option (jw C):=match o.op,o.guard with
 | .call c,none=>match c.callee with
  | .value (.func f)=>match X.inl f with
   | some I=>I.sum
   | none=>none
  | _=>none
 | _,_=>none
def yA:SV C→Bool
 | .qg _=>false
 | .mN=>false
 | _=>true
def rf:List (Nat×SV C)→Bool
 | []=>true
 | (_,v)::r=>yA v&&rf r
def yn (X:Cx C) (o:Oper) (S:St C):Option (List (SV C)):=match o.op with
 | .call c=>fg X S c.args.toList c.argTypes.toList
 | _=>none
def lV {R:Type} (X:Cx C) (su:jw C) (o:Oper) (Sa S:St C) (k:St C→Option R):Option R:=match yn X o Sa,mw S.ah su.ids with
 | some vs,some O=>cond (rf S.env&&vs.all G4) (Option.bind (su.g (vs.map tc) O) fun r=>match rJ (su.ret r) with
  | some v=>ma (({ S with ah:=su.out r++dI su.ids S.ah }:St C).put o.dst v) k
  | none=>none) none
 | _,_=>none
def Au (su:jw C) (d:Option Tmp) (e:fo C):Bool:=jt su.ids e.need&&jt su.ids e.j9&&jt su.ids e.dW && !Gx d e.dst&&(match e.tQ with
 | some (v,_,_)=>yA v
 | none=>true)
def LY (S0:St C) (su:jw C) (d:Option Tmp) (bG:List (fo C)):Bool:=bG.all (Au su d)&&(match d with
 | some d=>(lk S0.env d).isNone
 | none=>true)
noncomputable def lG [DecidableEq Ty] {R:Type} (X:Cx C) (all:Array Oper) (tab:List (Nat×Nat)) (k:St C→Option R):Nat→List (Nat×Oper)→St C→List (fo C)→Option R
 | 0,_,_,_=>none
 | _+1,[],S0,bG=>cond (Fj S0 tab bG) (k (SD S0 bG)) none
 | f+1,(n,o)::r,S0,bG=>match qP X o with
  | some su=>cond (Mj X o&&(Fj S0 tab bG&&LY S0 su o.dst bG)) (lV X su o (SD S0 (bG.filter fun e=>has tab n e.ix)) S0 fun S1=>cond (Fj S1 tab bG) (lG X all tab k f r S1 bG) none) none
  | none=>match Mj X o with
  | true=>cond (Fj S0 tab bG) (Dg ((RX tab (vC tab n bG)).map fun L=>ev X o (SD S0 (bG.filter fun e=> !L.any (Nat.beq e.ix))) (fun S'=>lG X all tab k f (jO all L++r) S' []))) none
  | false=>match o.guard with
   | none=>ko X o (I5 S0 bG tab n o) (fun v news dW=>lG X all tab k f r S0 (⟨n,o.dst,some (v,news,dW),Fe S0 bG tab n o,true⟩::bG))
   | some (j,want)=>cond (has tab n j) (match tu bG j with
    | some (.one (.bool b))=>cond b
     (match want with
      | true=>ko X o (I5 S0 (j7 bG j true) tab n o) (fun v news dW=>lG X all tab k f r S0 (⟨n,o.dst,some (v,news,dW),Fe S0 (j7 bG j true) tab n o,true⟩::j7 bG j true))
      | false=>lG X all tab k f r S0 (⟨n,o.dst,some (.mN,[],[]),[],false⟩::j7 bG j true))
     (match want with
      | true=>lG X all tab k f r S0 (⟨n,o.dst,some (.mN,[],[]),[],false⟩::j7 bG j false)
      | false=>ko X o (I5 S0 (j7 bG j false) tab n o) (fun v news dW=>lG X all tab k f r S0 (⟨n,o.dst,some (v,news,dW),Fe S0 (j7 bG j false) tab n o,true⟩::j7 bG j false)))
    | some .mN=>lG X all tab k f r S0 (⟨n,o.dst,some (.mN,[],[]),[],false⟩::bG)
    | _=>none) none
def u4 (X:Cx C):List Oper→List Nat
 | []=>[]
 | o::r=>match Mj X o,o.dst with
  | false,some d=>d::u4 X r
  | _,_=>u4 X r
def insO (E:Nat→Bool) (tab:List (Nat×Nat)) (i:Nat):List Nat→List Nat
 | []=>[i]
 | j::r=>cond (E j&&(j::r).all (fun d=> !has tab i d)) (i::j::r) (j::insO E tab i r)
def aaF (E:Nat→Bool) (tab:List (Nat×Nat)):Nat→List Nat
 | 0=>[]
 | n+1=>insO E tab n (aaF E tab n)
def qK (X:Cx C) (all:Array Oper) (tab:List (Nat×Nat)):List Nat→Bool
 | []=>true
 | j::r=>r.all (fun i=>(!yB X all j||has tab i j) && !has tab j i) && !r.any (Nat.beq j)&&qK X all tab r
def E6 (X:Cx C) (all:Array Oper) (tab:List (Nat×Nat)) (ord:List Nat):Bool:=qK X all tab ord&&(below all.size).all (fun i=>ord.any (Nat.beq i))
def pO (X:Cx C) (all:Array Oper) (tab:List (Nat×Nat)):List Nat:=aaF (yB X all) tab all.size
def zX (o:Oper):Bool:=match o.op with
 | .select .. =>false
 | _=>true
def vQ (all:Array Oper) (i:Nat) (o:Oper):Bool:=match o.op,o.guard with
 | .move _,none=>o.after.toList.all (fun e=> !Region.binds .any e)&&(jP 0 all.toList).all (fun x=>Nat.beq x.1 i||x.2.after.toList.any (fun e=>Region.binds .any e&&Nat.beq e.on i)||o.apart all x.2)
 | _,_=>false
def iF (all:Array Oper):List Nat:=cond (all.toList.all zX) (((jP 0 all.toList).filter fun x=>vQ all x.1 x.2).map (·.1)) []
def jN (X:Cx C) (all:Array Oper):List Nat→St C→Option (St C)
 | [],S=>some S
 | i::r,S=>match all[i]? with
  | some o=>match o.op with
   | .move x=>match gb X S o.type x with
    | some v=>jN X all r (S.put o.dst v)
    | none=>none
   | _=>none
  | none=>none
noncomputable def WJ [DecidableEq Ty] {R:Type} (X:Cx C) (all:Array Oper) (tab:List (Nat×Nat)) (S:St C) (k:St C→Option R):Option R:=
 cond (mV X all tab 0 all.toList&&E6 X all tab (pO X all tab)) (match jN X all (iF all) { S with env:=dI (u4 X all.toList) S.env } with
  | some S1=>lG X all tab k 4096 (jO all ((pO X all tab).filter fun i=> !(iF all).any (Nat.beq i))) S1 []
  | none=>none) none
def Nr:SV C→List (Lf C)
 | .one l=>[l]
 | .agg ls=>ls
 | .bQ x _=>x.2
 | _=>[]
def U9 (t:Nat):SV C→Nat
 | .one _=>100000+t
 | .bQ _ _=>30000000+100*t
 | _=>10000000+100*t
def zP:Nat→List (Lf C)→List (Nat×Nat)
 | _,[]=>[]
 | n,.ref id []::r=>(id,n)::zP (n+1) r
 | n,_::r=>zP (n+1) r
def BX:List (Lf C)→List Nat
 | []=>[]
 | .ptr id _::r=>id::BX r
 | .vo id::r=>id::BX r
 | _::r=>BX r
def NN:List Nat→List Nat→List Nat
 | B,[]=>B
 | B,n::r=>cond (B.any (Nat.beq n)) (NN B r) (NN (B++[n]) r)
def TS (S:St C) (id:Nat):List (Lf C):=match lk S.ah id with
 | some (.box _ ls)=>ls
 | _=>[]
def Sy:List (Nat×SV C)→List Nat
 | []=>[]
 | (_,v)::r=>BX (Nr v)++Sy r
def Sz (S:St C):List Nat→List Nat
 | []=>[]
 | id::r=>BX (TS S id)++Sz S r
def wide (S:St C):Nat→List Nat→List Nat
 | 0,l=>l
 | n+1,l=>wide S n (NN l (Sz S l))
def ghO:List (Nat×Ob C)→List Nat
 | []=>[]
 | (id,.ghost)::r=>id::ghO r
 | _::r=>ghO r
def ux (S:St C) (env:List (Nat×SV C)):List Nat:=NN (wide S 4 (NN [] (Sy env))) (ghO S.ah)
def UE:List (Nat×SV C)→List (Nat×Nat)
 | []=>[]
 | (t,v)::r=>zP (U9 t v) (Nr v)++UE r
def UF (S:St C):List Nat→List (Nat×Nat)
 | []=>[]
 | id::r=>zP (1000000+100*id) (TS S id)++UF S r
def isNil {α:Type}:List α→Bool
 | []=>true
 | _::_=>false
def Pc (q:Nat→Bool) (m:Nat) {α:Type} (xs:List α) (sh:Bool):Bool:=match sh with
 | true=>true
 | false=>cond (q m) (isNil xs) false
def kM (q:Nat→Bool) (S:St C) (nm:List (Nat×Nat)) (B:List Nat) (n:Nat):Lf C→Option (Lf C×List (Nat×Option Nat×Ob C))
 | .ref id []=>match lk nm id,lk S.ah id with
  | some m,some (.row t xs sh)=>some (.ref m [],[(m,some id,.row t xs (Pc q m xs sh))])
  | _,_=>none
 | .sub id lo hi=>match lk nm id,lk S.ah id with
  | some m,some (.row t xs sh)=>some (.sub m lo hi,[(m,some id,.row t xs (Pc q m xs sh))])
  | _,_=>none
 | .ep id [] i o=>match lk nm id,lk S.ah id with
  | some m,some (.row t xs sh)=>some (.ep m [] i o,[(m,some id,.row t xs (Pc q m xs sh))])
  | _,_=>none
 | .ptr id o=>cond (B.any (Nat.beq id)) (some (.ptr id o,[])) none
 | .vo id=>cond (B.any (Nat.beq id)) (some (.vo id,[])) none
 | .bP f=>some (.bP f,[])
 | .lF n=>some (.lF n,[])
 | .nil t=>some (.ref n [],[(n,none,.row t [] (q n))])
 | .int k m=>some (.int k m,[])
 | .bool b=>some (.bool b,[])
 | .str s=>some (.str s,[])
 | .row t xs=>some (.row t xs,[])
 | .pP=>some (.pP,[])
 | .nH t x o=>some (.nH t x o,[])
 | _=>none
def lN (q:Nat→Bool) (S:St C) (nm:List (Nat×Nat)) (B:List Nat):Nat→List (Lf C)→Option (List (Lf C)×List (Nat×Option Nat×Ob C))
 | _,[]=>some ([],[])
 | n,l::r=>match kM q S nm B n l with
  | some (l',o)=>match lN q S nm B (n+1) r with
   | some (r',o')=>some (l'::r',o++o')
   | none=>none
  | none=>none
def C6 (q:Nat→Bool) (S:St C) (nm:List (Nat×Nat)) (B:List Nat):List Nat→Option (List (Nat×Option Nat×Ob C))
 | []=>some []
 | id::r=>match lk S.ah id with
  | some (.box kd ls)=>match lN q S nm B (1000000+100*id) ls with
   | some (ls',os)=>match C6 q S nm B r with
    | some os'=>some ((id,some id,.box kd ls')::os++os')
    | none=>none
   | none=>none
  | some (.map mk kt vt xs c)=>match C6 q S nm B r with
   | some os'=>some ((id,some id,.map mk kt vt xs c)::os')
   | none=>none
  | some .ghost=>match C6 q S nm B r with
   | some os'=>some ((id,some id,.ghost)::os')
   | none=>none
  | _=>none
def JB (q:Nat→Bool) (S:St C) (nm:List (Nat×Nat)) (B:List Nat) (t:Nat):SV C→Option (SV C×List (Nat×Option Nat×Ob C))
 | .one l=>match kM q S nm B (100000+t) l with
  | some (l',os)=>some (.one l',os)
  | none=>none
 | .agg ls=>match lN q S nm B (10000000+100*t) ls with
  | some (ls',os)=>some (.agg ls',os)
  | none=>none
 | .bQ (b,ls) j=>match lN q S nm B (30000000+100*t) ls with
  | some (ls',os)=>some (.bQ (b,ls') j,os)
  | none=>none
 | .frame=>some (.frame,[])
 | _=>none
def FX (q:Nat→Bool) (S:St C) (nm:List (Nat×Nat)) (B:List Nat):List (Nat×SV C)→List (Nat×SV C)×List (Nat×Option Nat×Ob C)
 | []=>([],[])
 | (t,v)::r=>match FX q S nm B r with
  | (e,os)=>match JB q S nm B t v with
   | some (v',os')=>((t,v')::e,os'++os)
   | none=>(e,os)
def fE:List (Nat×Option Nat×Ob C)→List Nat→List (Nat×Option Nat×Ob C)
 | [],_=>[]
 | (n,some id,ob)::r,seen=>cond (seen.any (Nat.beq id)) (fE r seen) ((n,some id,ob)::fE r (id::seen))
 | (n,none,ob)::r,seen=>(n,none,ob)::fE r seen
def zZ:List (Nat×Option Nat×Ob C)→List Nat
 | []=>[]
 | (n,_,_)::r=>n::zZ r
def pn:List (Nat×Option Nat×Ob C)→List (Nat×Ob C)
 | []=>[]
 | (n,_,ob)::r=>(n,ob)::pn r
def td:List (Nat×Option Nat×Ob C)→Nat→Option Nat
 | [],_=>none
 | (n,some m,_)::r,id=>cond (Nat.beq m id) (some n) (td r id)
 | (_,none,_)::r,id=>td r id
def vK (os:List (Nat×Option Nat×Ob C)):List (Nat×SV C)→List (Nat×SV C)
 | []=>[]
 | (t,.jf id j)::r=>match td os id with
  | some n=>(t,.jf n j)::vK os r
  | none=>vK os r
 | _::r=>vK os r
def Nw (q:Nat→Bool) (S:St C) (E:List (Nat×SV C)) (nm:List (Nat×Nat)) (B:List Nat):Option (St C):=
 match FX q S nm B E,C6 q S nm B B with
 | (e,os),some ob=>cond (gz (zZ (fE (os++ob) []))) (some { S with env:=e++vK (fE (os++ob) []) E,ah:=pn (fE (os++ob) []) }) none
 | _,none=>none
def St.canon (S:St C) (pq:List Nat):Option (St C):=Nw (fun n=>pq.any (Nat.beq (1000000000+n))) S (jQ S.env pq) (UE (jQ S.env pq)++UF S (ux S (jQ S.env pq))) (ux S (jQ S.env pq))
def gR {R:Type} (pq:List Nat) (rec:St C→Option R) (S:St C):Option R:=match S.canon pq with
 | some S'=>ma S' rec
 | none=>none
def iter {R:Type} (f:(St C→Option R)→St C→Option R) (pq:List Nat):Nat→St C→Option R
 | 0,_=>none
 | n+1,S=>f (gR pq (iter f pq n)) S
def bf {R:Type} (rb:St C→(Ex→St C→Option R)→Option R) (k:Ex→St C→Option R) (e:Ex) (S:St C):Option R:=match e with
 | .norm=>rb S k
 | e=>k e S
def cJ {R:Type} (id:Nat) (k:Ex→St C→Option R) (e:Ex) (S:St C):Option R:=match e with
 | .exit j=>cond (Nat.beq j id) (k .norm S) (k (.exit j) S)
 | e=>k e S
def dq {R:Type} (rec:St C→Option R) (k:Ex→St C→Option R) (e:Ex) (S:St C):Option R:=match e with
 | .norm=>rec S
 | e=>k e S
def VW (env:List (Nat×SV C)):List Nat:=env.map (·.1)
structure Cf where
 N:Nat
 keep:List Nat
 live:Nat→Option (List Nat)
def Cf.pq (F:Cf) (cur:Nat) (S:St C):List Nat:=match F.live cur with
 | some l=>l
 | none=>VW S.env
noncomputable def run [DecidableEq Ty] {R:Type} (X:Cx C) (F:Cf):Code→Nat→St C→(Ex→St C→Option R)→Option R
 | .skip,_,S,k=>k .norm S
 | .region _ ops draw,_,S,k=>match draw with
  | false=>evs X ops ops.toList S (fun S'=>ma (S'.tidy F.keep) fun S2=>k .norm S2)
  | true=>WJ X ops (Xa 0 ops.toList []) S (fun S'=>ma (S'.tidy F.keep) fun S2=>k .norm S2)
 | .seq a b,cur,S,k=>run X F a cur S (bf (run X F b cur) k)
 | .cond c x y,cur,S,k=>match c with
  | .tmp t=>match lk S.env t with
   | some (.one (.bool b))=>cond b (run X F x cur { S with env:=(t,.one (.bool true))::S.env } k) (run X F y cur { S with env:=(t,.one (.bool false))::S.env } k)
   | _=>none
  | _=>none
 | .block id c,_,S,k=>run X F c id S (cJ id k)
 | .loop body,cur,S,k=>gR (F.pq cur S) (iter (fun rec S=>run X F body cur S (dq rec k)) (F.pq cur S) F.N) S
 | .exit id,_,S,k=>k (.exit id) S
 | .ret,_,S,k=>k .ret S
 | .label _,_,S,k=>k .norm S
 | .scope c,cur,S,k=>run X F c cur S k
 | _,_,_,_=>none
def gQ (X:Cx C) (S:St C):List ResultVar→Option (List (Bool×List (Lf C)))
 | []=>some []
 | .tmp t::r=>match lk S.env t with
  | some (.one l)=>match gQ X S r with
   | some rs=>some ((false,[l])::rs)
   | none=>none
  | some (.agg ls)=>match gQ X S r with
   | some rs=>some ((true,ls)::rs)
   | none=>none
  | _=>none
 | .cell a t::r=>match lk S.env a,X.tk t with
  | some (.one l),some tk=>ez X S l fun ls=>match Aa tk ls,gQ X S r with
   | some (.one l),some rs=>some ((false,[l])::rs)
   | some (.agg ls),some rs=>some ((true,ls)::rs)
   | _,_=>none
  | _,_=>none
def reshape:List (Bool×List (Lf C))→List (Lf C)→List (Bool×List (Lf C))
 | [],_=>[]
 | x::r,ls=>(x.1,ls.take x.2.length)::reshape r (ls.drop x.2.length)
def outs (S:St C) (rs:List (Bool×List (Lf C))):Option (List (Bool×List (Lf C))):=
 match di S (flatten rs) with
 | some (ls',_,false)=>some (reshape rs ls')
 | _=>none
def iW:Nat→List (SV C)→List (Nat×SV C)
 | _,[]=>[]
 | n,v::r=>(n,v)::iW (n+1) r
def start (vs:List (SV C)):St C:={ env:=iW 0 vs,ah:=[],base:=0 }
noncomputable def dG [DecidableEq Ty] {R:Type} (X:Cx C) (F:Cf) (fn:Func) (vs:List (SV C)) (k:List (Bool×List (Lf C))→Option R):Option R:=
 match fn.body with
 | some c=>run X F c 0 (start vs) (fun e S=>match e with
  | .exit _=>none
  | _=>match gQ X S fn.results.toList with
   | some rs=>match outs S rs with
    | some rs'=>k rs'
    | none=>none
   | none=>none)
 | none=>none
noncomputable def iZ [DecidableEq Ty] (X:Cx C) (F:Cf) (fn:Func):mP C:=
 ⟨fun R vs S k=>match fn.body with
  | some c=>cond (Nat.ble vs.length fn.ntmps&&Nat.ble fn.ntmps 1000) (run X F c 0 { env:=iW 0 vs++S.env,ah:=S.ah,base:=S.base } (fun e S'=>match e with
   | .exit _=>none
   | _=>match gQ X S' fn.results.toList with
    | some rs=>k rs { S' with env:=fI S'.env }
    | none=>none)) none
  | none=>none,none⟩
end
section
variable {Ty:Type} {C:Ty→Type}
inductive nM (K:Cd C) (w:World) (F:Nat→Prop):(t:Ty)→List (C t)→Value→List (Nat×Nat)→(t':Ty)→List (C t')→Value→Prop
 | nil (t xs v):nM K w F t xs v [] t xs v
 | cons (t:Ty) (xs:List (C t)) (v:Value) (i o:Nat) (x:C t) (t1:Ty) (ys:List (C t1)) (a:Addr) (n c:Nat) (v1:Value) (p:List (Nat×Nat)) (t':Ty) (zs:List (C t')) (v':Value)
   (hx:xs[i]?=some x) (hl:(K.enc t x)[o]?=some (.row t1 ys)) (hv:v = .slice (some a) n c) (hF:F a.block) (hc:w.cell? (a.add (i*K.sz t+o))=some v1)
   (hp:nM K w F t1 ys v1 p t' zs v'):nM K w F t xs v ((i,o)::p) t' zs v'
abbrev cW (C:Ty→Type):=List (Nat×Ob C)
def aH (ah:cW C) (fp:Nat→Nat→Prop) (w:World) (k:Nat):Prop:=k<w.heap.size∧∀ id ob,lk ah id=some ob→¬ fp id k
def EpAt (K:Cd C) (t:Ty) (n:Nat) (v:Value) (i o:Nat) (u:Value):Prop:=i<n∧∃ a m c,v = .slice (some a) m c∧u = .pointer (some (a.add (i*K.sz t+o)))
def Ua (K:Cd C) (t:Ty) (n:Nat) (v:Value) (lo hi:Nat) (u:Value):Prop:=lo≤hi∧hi≤n∧∃ A c B,v = .slice A n c∧n≤c∧u = .slice B (hi-lo) (c-lo)∧(lo<hi→B=A.map (·.add (lo*K.sz t)))
def db (K:Cd C) (w:World) (ah:cW C) (β:Nat→Value) (fp:Nat→Nat→Prop) (cM:Nat→Prop):Lf C→Value→Prop
 | .int k n,v=>v = .int k n
 | .bool b,v=>v = .bool b
 | .str s,v=>v = .string s
 | .row t xs,v=>gT K w cM (.row t xs) v
 | .nil _,v=>v = .slice none 0 0
 | .pP,v=>v = .pointer none
 | .bP f,v=>v=vP f
 | .lF n,v=>v=n.val
 | .vo id,v=>v.oneCell'=true∧v=β id
 | .ptr id off,v=>∃ b,β id = .pointer (some ⟨b,0,none⟩)∧v = .pointer (some ⟨b,off,none⟩)
 | .nH t x o,v=>∃ (a:Addr) (U:Nat→Value),v = .pointer (some (a.add o))∧cM a.block∧(∀ i,i<K.sz t→w.cell? (a.add i)=some (U i))∧∀ i l,(K.enc t x)[i]?=some l→gT K w cM l (U i)
 | .ref id [],v=>v.oneCell'=true∧v=β id
 | .ref id (s::p),v=>v.oneCell'=true∧∀ t xs sh,lk ah id=some (.row t xs sh)→sh=false∧∃ (t':Ty) (zs:List (C t')),nM K w (fp id) t xs (β id) (s::p) t' zs v
 | .ep id [] i o,v=>(∃ a,v = .pointer (some a))∧∀ t xs sh,lk ah id=some (.row t xs sh)→EpAt K t xs.length (β id) i o v
 | .ep id (s::p) i o,v=>(∃ a,v = .pointer (some a))∧∀ t xs sh,lk ah id=some (.row t xs sh)→sh=false ∧
   ∃ (t':Ty) (zs:List (C t')) (v':Value),nM K w (fp id) t xs (β id) (s::p) t' zs v'∧EpAt K t' zs.length v' i o v
 | .sub id lo hi,v=>(∃ A n c,v = .slice A n c)∧∀ t xs sh,lk ah id=some (.row t xs sh)→Ua K t xs.length (β id) lo hi v
def cT (K:Cd C) (w:World) (ah:cW C) (β:Nat→Value) (fp:Nat→Nat→Prop) (cM:Nat→Prop) (ls:List (Lf C)) (vs:List Value):Prop:=
 vs.length=ls.length∧∀ (i:Nat) (l:Lf C),ls[i]?=some l→db K w ah β fp cM l (vs.getD i undef)
def gL (K:Cd C) (w:World) (ah:cW C) (β:Nat→Value) (fp:Nat→Nat→Prop) (cM:Nat→Prop) (x:Bool×List (Lf C)) (v:Value):Prop:=
 match x with
 | (false,ls)=>∃ l,ls=[l]∧db K w ah β fp cM l v
 | (true,ls)=>∃ vs:List Value,v = .agg vs.toArray∧cT K w ah β fp cM ls vs
def dD (K:Cd C) (w:World) (ah:cW C) (β:Nat→Value) (fp:Nat→Nat→Prop) (cM:Nat→Prop):SV C→Value→Prop
 | .one l,v=>db K w ah β fp cM l v
 | .agg ls,v=>∃ vs:List Value,v = .agg vs.toArray∧cT K w ah β fp cM ls vs
 | .qg xs,v=>∃ vs:List Value,v = .tuple vs.toArray∧vs.length=xs.length∧∀ (i:Nat) (x:Bool×List (Lf C)),xs[i]?=some x→gL K w ah β fp cM x (vs.getD i undef)
 | .mN,v=>v=undef
 | .jf id j,_=>β id=K.hd j
 | .frame,_=>∀ k,K.kp (2*k)→cM k∧w.heap[k]?=K.kh k
 | .bQ x j,_=>gL K w ah β fp cM x (K.hd j)
def JF (K:Cd C) (w:World) (base:Nat) (cM F:Nat→Prop) (t:Ty) (xs:List (C t)) (v:Value):Prop:=
 ∃ cells,w.ownsRow base (K.tid t) (K.sz t) v xs.length cells∧(∀ g,F g↔v.ownBlock=some g) ∧
  ∀ (j:Nat) (x:C t),xs[j]?=some x→∀ (i:Nat) (l:Lf C),(K.enc t x)[i]?=some l→gT K w cM l (cells.getD (j*K.sz t+i) undef)
def jE:List (Bool×Nat)→List Value→List Value
 | [],_=>[]
 | (b,n)::r,us=>(cond b (.agg (us.take n).toArray) (us.headD undef))::jE r (us.drop n)
def Jy (f n:Nat) (sh:List (Bool×Nat)) (us:List Value):Value:=.func (.func f) ((jE sh us).take n).toArray ((jE sh us).drop n).toArray
def Jf (t:TypeId) (sh:List (Bool×Nat)) (us:List Value):Value:=.iface t ((jE sh us).headD undef)
def u6:Lf C→Value
 | .int k n=>.int k n
 | .bool b=>.bool b
 | .str s=>.string s
 | .bP f=>vP f
 | _=>undef
def mkV (ag:Bool) (us:List Value):Value:=cond ag (.agg us.toArray) (us.headD undef)
def lh (K:Cd C) (mk:MK) (kt:Ty) (x:C kt):Value:=mkV mk.kag ((K.enc kt x).map u6)
def pg (K:Cd C) (mk:MK) (vt:Ty) (y:C vt):Value:=cond mk.un (.agg #[]) (mkV mk.Uy ((K.enc vt y).map u6))
def ou (K:Cd C) (mk:MK) (kt vt:Ty) (e:Nat×C kt×C vt):MapEntry:=⟨lh K mk kt e.2.1,pg K mk vt e.2.2,e.1⟩
def kO (K:Cd C) (w:World) (base:Nat) (ah:cW C) (β:Nat→Value) (fp:Nat→Nat→Prop) (cM F:Nat→Prop):Ob C→Value→Prop
 | .box .mem ls,v=>∃ b cs e,v = .pointer (some ⟨b,0,none⟩)∧w.heap[b]?=some (.cells cs e (0,0))∧(∀ k,F k↔k=b)∧cT K w ah β fp cM ls cs.toList
 | .box (.sM f n sh) ls,v=>∃ us,v=Jy f n sh us∧(∀ k,¬ F k)∧cT K w ah β fp cM ls us
 | .box (.lX t sh) ls,v=>∃ us,v=Jf t sh us∧(∀ k,¬ F k)∧cT K w ah β fp cM ls us
 | .ghost,_=>∀ k,K.kp (2*k+1)→F k∧w.heap[k]?=K.kh k
 | .map mk kt vt xs c,v=>∃ b es,v = .map (some b)∧w.heap[b]?=some (.map es c)∧(∀ k,F k↔k=b)∧es.toList=xs.map (ou K mk kt vt)
 | .row t xs false,v=>Own K w base F (.row t xs) v
 | .row t xs true,v=>JF K w base cM F t xs v
structure dc (K:Cd C) (w0:World) (nt:Nat) (S:St C) (β:Nat→Value) (fp:Nat→Nat→Prop) (a:Act) (w:World):Prop where
 below:Below w0.heap.size w0 w
 defers:a.defers=[]∧K.inv w0
 size:a.tmps.size=nt
 fresh:∀ id ob k,lk S.ah id=some ob→fp id k→w0.heap.size≤k∧k<w.heap.size
 eM:∀ id gM ob dY k,lk S.ah id=some ob→lk S.ah gM=some dY→fp id k→fp gM k→id=gM
 ah:∀ id ob,lk S.ah id=some ob→kO K w w0.heap.size S.ah β fp (aH S.ah fp w) (fp id) ob (β id)
 env:∀ t v,lk S.env t=some v→dD K w S.ah β fp (aH S.ah fp w) v (a.tmps.getD t undef)
def nq (K:Cd C) (w0:World) (nt:Nat) (S:St C) (a:Act) (w:World):Prop:=∃ β fp,dc K w0 nt S β fp a w
theorem aN {α:Type} (m:Nat) (v:α) (l:List (Nat×α)) (n:Nat):lk ((m,v)::l) n=if n=m then some v else lk l n:=by
 simp only [lk]
 by_cases h:n=m
 ·subst h;simp [Nat.beq_refl]
 ·have:Nat.beq n m=false:=by
   cases hb:Nat.beq n m with
   | false=>rfl
   | true=>exact absurd (Nat.eq_of_beq_eq_true hb) h
  simp [this,h]
theorem lg {α:Type} (l:List (Nat×α)) (d n:Nat):lk (rm l d) n=if n=d then none else lk l n:=by
 induction l with
 | nil=>simp [rm,lk]
 | cons x l ih=>
  obtain ⟨m,v⟩:=x;simp only [rm]
  by_cases h:d=m
  ·subst h
   have hb:Nat.beq d d=true:=Nat.beq_refl d;simp only [hb,cond_true,ih,aN]
   by_cases hn:n=d<;>simp [hn]
  ·have hb:Nat.beq d m=false:=by
    cases hb:Nat.beq d m with
    | false=>rfl
    | true=>exact absurd (Nat.eq_of_beq_eq_true hb) h
   simp only [hb,cond_false,aN,ih]
   by_cases hn:n=m
   ·subst hn
    have:n≠d:=fun e=>h e.symm
    simp [this]
   ·simp [hn]
theorem qY (t:Array Value) (d n:Nat) (u z:Value) (h:d<t.size):(t.setIfInBounds d u).getD n z=if n=d then u else t.getD n z:=by
 simp only [Array.getD_eq_getD_getElem?,Array.getElem?_setIfInBounds]
 by_cases e:d=n
 ·subst e;simp [h]
 ·have:n≠d:=fun h=>e h.symm
  simp [e,this]
section
variable {K:Cd C} {w0 w:World} {nt:Nat} {S:St C} {β:Nat→Value} {fp:Nat→Nat→Prop} {a:Act}
theorem dc.put (h:dc K w0 nt S β fp a w) {v:SV C} {u:Value} (d:Option Tmp) (hd:∀ t,d=some t→t<nt) (hv:dD K w S.ah β fp (aH S.ah fp w) v u):dc K w0 nt (S.put d v) β fp (a.put d u) w:=by
 cases d with
 | none=>exact h
 | some d=>
  have hs:d<a.tmps.size:=by rw [h.size];exact hd d rfl
  refine ⟨h.below,h.defers,by simpa [Act.put] using h.size,h.fresh,h.eM,h.ah,fun t v' ht=>?_⟩;simp only [St.put,aN] at ht;simp only [Act.put,qY _ _ _ _ _ hs]
  by_cases e:t=d
  ·subst e
   simp at ht ⊢;subst ht;exact hv
  ·simp only [e,if_false] at ht ⊢
   exact h.env t v' ht
theorem dc.less (h:dc K w0 nt S β fp a w) (E:List (Nat×SV C)) (hE:∀ t v,lk E t=some v→lk S.env t=some v):dc K w0 nt { S with env:=E } β fp a w:=
 ⟨h.below,h.defers,h.size,h.fresh,h.eM,h.ah,fun t v ht=>h.env t v (hE t v ht)⟩
theorem dc.drop (h:dc K w0 nt S β fp a w) (d:Option Tmp) (u:Value):dc K w0 nt (S.drop d) β fp (a.put d u) w:=by
 cases d with
 | none=>exact h
 | some d=>
  refine ⟨h.below,h.defers,by simpa [Act.put] using h.size,h.fresh,h.eM,h.ah,fun t v ht=>?_⟩;simp only [St.drop,lg] at ht
  by_cases e:t=d
  ·simp [e] at ht
  ·simp only [e,if_false] at ht
   have:=h.env t v ht;simp only [Act.put,Array.getD_eq_getD_getElem?,Array.getElem?_setIfInBounds] at this ⊢
   have e':d≠t:=fun x=>e x.symm
   simp only [e',if_false] at this ⊢;exact this
theorem L8 (E:List (Nat×SV C)) (keep:List Nat):∀ t v,lk (qn E keep) t=some v→lk E t=some v:=by
 induction keep with
 | nil=>intro t v h;simp [qn,lk] at h
 | cons d r ih=>
  intro t v h;simp only [qn] at h
  cases hd:lk E d with
  | none=>rw [hd] at h;exact ih t v h
  | some u=>
   rw [hd] at h;simp only [aN] at h
   by_cases e:t=d
   ·subst e;simp at h;subst h;exact hd
   ·simp only [e,if_false] at h;exact ih t v h
theorem m6:∀ {E:List (Nat×SV C)} {t:Nat} {v:SV C},lk (fI E) t=some v→lk E t=some v∧((∃ x j,v = .bQ x j)∨(∃ id j,v = .jf id j)∨v = .frame)
 | [],t,v,h=>by simp [fI,lk] at h
 | (m,u)::E,t,v,h=>by
  have hd:∀ {u:SV C},((∃ x j,u = .bQ x j)∨(∃ id j,u = .jf id j)∨u = .frame)→lk ((m,u)::rm (fI E) m) t=some v→lk ((m,u)::E) t=some v∧((∃ x j,v = .bQ x j)∨(∃ id j,v = .jf id j)∨v = .frame):=fun {u} hu h=>by
   rw [aN] at h ⊢
   by_cases e:t=m
   ·rw [if_pos e] at h ⊢;cases h;exact ⟨rfl,hu⟩
   ·rw [if_neg e] at h ⊢;rw [lg,if_neg e] at h;exact m6 h
  have ht:∀ {u:SV C},lk (rm (fI E) m) t=some v→lk ((m,u)::E) t=some v∧((∃ x j,v = .bQ x j)∨(∃ id j,v = .jf id j)∨v = .frame):=fun {u} h=>by
   rw [lg] at h;rw [aN]
   by_cases e:t=m
   ·rw [if_pos e] at h;cases h
   ·rw [if_neg e] at h ⊢;exact m6 h
  cases u with
  | bQ x j=>exact hd (.inl ⟨x,j,rfl⟩) h
  | jf id j=>exact hd (.inr (.inl ⟨id,j,rfl⟩)) h
  | frame=>exact hd (.inr (.inr rfl)) h
  | one _=>exact ht h
  | agg _=>exact ht h
  | qg _=>exact ht h
  | mN=>exact ht h
theorem VU {α:Type} (l r:List (Nat×α)) (n:Nat):lk (l++r) n=match lk l n with
  | some v=>some v
  | none=>lk r n:=by
 induction l with
 | nil=>rfl
 | cons x l ih=>
  obtain ⟨m,v⟩:=x;simp only [List.cons_append,aN]
  by_cases e:n=m
  ·simp [e]
  ·simp only [e,if_false];exact ih
theorem Cj (E:List (Nat×SV C)) (keep:List Nat):∀ t v,lk (jQ E keep) t=some v→lk E t=some v:=by
 intro t v h;unfold jQ at h;rw [VU] at h
 cases e:lk (qn E keep) t with
 | some u=>rw [e] at h;cases h;exact L8 E keep t _ e
 | none=>rw [e] at h;exact (m6 h).1
theorem dc.tidy (h:dc K w0 nt S β fp a w) (keep:List Nat):dc K w0 nt (S.tidy keep) β fp a w:=h.less _ (Cj S.env keep)
theorem nM.frame {w w':World} {F F':Nat→Prop} {t:Ty} {xs:List (C t)} {v:Value} {p:List (Nat×Nat)} {t':Ty} {zs:List (C t')} {v':Value}
  (h:nM K w F t xs v p t' zs v') (hF:∀ k,F k→F' k∧w'.heap[k]?=w.heap[k]?):nM K w' F' t xs v p t' zs v':=by
 induction h with
 | nil=>exact .nil ..
 | cons t xs v i o x t1 ys a n c v1 p t' zs v' hx hl hv hFa hc _ ih=>
  refine .cons t xs v i o x t1 ys a n c v1 p t' zs v' hx hl hv (hF _ hFa).1 ?_ ih
  have hb:(a.add (i*K.sz t+o)).block=a.block:=by unfold Addr.add;split<;>rfl
  rw [World.cell?_of_block (w:=w) (by rw [hb];exact (hF _ hFa).2)];exact hc
def iQ (w w':World) (ah dX:cW C) (β eK:Nat→Value) (fp eJ:Nat→Nat→Prop) (id:Nat):Prop:=
 eK id=β id∧∀ t xs sh,lk dX id=some (.row t xs sh)→lk ah id=some (.row t xs sh)∧∀ k,fp id k→eJ id k∧w'.heap[k]?=w.heap[k]?
theorem db.tr {w w':World} {ah dX:cW C} {β eK:Nat→Value} {fp eJ:Nat→Nat→Prop} {cM eH:Nat→Prop} {l:Lf C} {v:Value}
  (h:db K w ah β fp cM l v) (hst:∀ k,cM k→eH k∧w'.heap[k]?=w.heap[k]?) (iP:∀ id,id∈fq l→iQ w w' ah dX β eK fp eJ id):db K w' dX eK eJ eH l v:=by
 have R:∀ {l:Lf C} {v:Value},gT K w cM l v→gT K w' eH l v:=fun h=>(h.frame fun k hk=>(hst k hk).2).mono fun k hk=>(hst k hk).1
 cases l with
 | row t xs=>exact R h
 | nH t x o=>
  obtain ⟨a,U,h1,h2,h3,h4⟩:=h;refine ⟨a,U,h1,(hst _ h2).1,fun i hi=>?_,fun i l hl=>R (h4 i l hl)⟩
  have hb:(a.add i).block=a.block:=by unfold Addr.add;split<;>rfl
  rw [World.cell?_of_block (w:=w) (by rw [hb];exact (hst _ h2).2)];exact h3 i hi
 | ptr id off=>
  obtain ⟨b,h1,h2⟩:=h;exact ⟨b,(iP id (by simp [fq])).1.trans h1,h2⟩
 | vo id=>exact ⟨h.1,h.2.trans (iP id (by simp [fq])).1.symm⟩
 | ref id p=>
  obtain ⟨e,hk⟩:=iP id (by simp [fq])
  cases p with
  | nil=>exact ⟨h.1,h.2.trans e.symm⟩
  | cons s p=>
   refine ⟨h.1,fun t xs sh ho=>?_⟩;obtain ⟨ib,hf⟩:=hk t xs sh ho;obtain ⟨h1,t',zs,hz⟩:=h.2 t xs sh ib;exact ⟨h1,t',zs,by rw [e];exact hz.frame hf⟩
 | ep id p i o=>
  obtain ⟨e,hk⟩:=iP id (by simp [fq])
  cases p with
  | nil=>exact ⟨h.1,fun t xs sh ho=>by rw [e];exact h.2 t xs sh (hk t xs sh ho).1⟩
  | cons s p=>
   refine ⟨h.1,fun t xs sh ho=>?_⟩;obtain ⟨ib,hf⟩:=hk t xs sh ho;obtain ⟨h1,t',zs,v',hz,hr⟩:=h.2 t xs sh ib;exact ⟨h1,t',zs,v',by rw [e];exact hz.frame hf,hr⟩
 | sub id lo hi=>
  obtain ⟨e,hk⟩:=iP id (by simp [fq]);exact ⟨h.1,fun t xs sh ho=>by rw [e];exact h.2 t xs sh (hk t xs sh ho).1⟩
 | _=>exact h
theorem eN {l:Lf C} {ls:List (Lf C)} {i:Nat} (h:ls[i]?=some l) {id:Nat} (hi:id∈fq l):id∈ey ls:=by
 induction ls generalizing i with
 | nil=>simp at h
 | cons x r ih=>
  simp only [ey,List.mem_append]
  cases i with
  | zero=>simp at h;subst h;exact .inl hi
  | succ i=>simp at h;exact .inr (ih h)
theorem cT.tr {w w':World} {ah dX:cW C} {β eK:Nat→Value} {fp eJ:Nat→Nat→Prop} {cM eH:Nat→Prop} {ls:List (Lf C)} {vs:List Value}
  (h:cT K w ah β fp cM ls vs) (hst:∀ k,cM k→eH k∧w'.heap[k]?=w.heap[k]?) (iP:∀ id,id∈ey ls→iQ w w' ah dX β eK fp eJ id):cT K w' dX eK eJ eH ls vs:=
 ⟨h.1,fun i l hl=>(h.2 i l hl).tr hst fun id hi=>iP id (eN hl hi)⟩
theorem dD.tr {w w':World} {ah dX:cW C} {β eK:Nat→Value} {fp eJ:Nat→Nat→Prop} {cM eH:Nat→Prop} {x:SV C} {v:Value}
  (h:dD K w ah β fp cM x v) (hst:∀ k,cM k→eH k∧w'.heap[k]?=w.heap[k]?) (iP:∀ id,id∈fG x→iQ w w' ah dX β eK fp eJ id):dD K w' dX eK eJ eH x v:=by
 cases x with
 | one l=>exact db.tr h hst iP
 | agg ls=>obtain ⟨vs,h1,h2⟩:=h;exact ⟨vs,h1,h2.tr hst iP⟩
 | qg xs=>
  obtain ⟨vs,h1,h2,h3⟩:=h;refine ⟨vs,h1,h2,fun i x hx=>?_⟩
  have hm:∀ id,id∈ey x.2→id∈tL xs:=by
   clear h3 h2 h1 iP
   induction xs generalizing i with
   | nil=>simp at hx
   | cons y r ih=>
    intro id hi;obtain ⟨b,ls⟩:=y;simp only [tL,List.mem_append]
    cases i with
    | zero=>simp at hx;subst hx;exact .inl hi
    | succ i=>simp at hx;exact .inr (ih i hx id hi)
  have:=h3 i x hx;obtain ⟨b,ls⟩:=x
  cases b with
  | false=>
   obtain ⟨l,h1,h2⟩:=this;subst h1;exact ⟨l,rfl,h2.tr hst fun id hi=>iP id (hm id (by simpa [ey] using hi))⟩
  | true=>obtain ⟨vs,h1,h2⟩:=this;exact ⟨vs,h1,h2.tr hst fun id hi=>iP id (hm id hi)⟩
 | mN=>exact h
 | jf id j=>exact (iP id (by simp [fG])).1.trans h
 | frame=>exact fun k hk=>⟨(hst k (h k hk).1).1,(hst k (h k hk).1).2.trans (h k hk).2⟩
 | bQ x j=>
  obtain ⟨b,ls⟩:=x
  cases b with
  | false=>
   obtain ⟨l,h1,h2⟩:=h;have h1:ls=[l]:=h1;subst h1;exact ⟨l,rfl,h2.tr hst fun id hi=>iP id (by simpa [fG,ey] using hi)⟩
  | true=>obtain ⟨vs,h1,h2⟩:=h;exact ⟨vs,h1,h2.tr hst fun id hi=>iP id hi⟩
theorem kO.tr {w w':World} {base:Nat} {ah dX:cW C} {β eK:Nat→Value} {fp eJ:Nat→Nat→Prop} {cM eH F:Nat→Prop} {ob:Ob C} {v:Value}
  (h:kO K w base ah β fp cM F ob v) (hst:∀ k,cM k→eH k∧w'.heap[k]?=w.heap[k]?) (hF:∀ k,F k→w'.heap[k]?=w.heap[k]?)
  (iP:∀ kd ls,ob = .box kd ls→∀ id,id∈ey ls→iQ w w' ah dX β eK fp eJ id):kO K w' base dX eK eJ eH F ob v:=by
 have R:∀ {l:Lf C} {v:Value},gT K w cM l v→gT K w' eH l v:=fun h=>(h.frame fun k hk=>(hst k hk).2).mono fun k hk=>(hst k hk).1
 cases ob with
 | box kd ls=>cases kd with
  | mem=>
   obtain ⟨b,cs,e,h1,h2,h3,h4⟩:=h;exact ⟨b,cs,e,h1,(hF b ((h3 b).2 rfl)).trans h2,h3,h4.tr hst (iP _ ls rfl)⟩
  | sM f n sh=>obtain ⟨us,h1,h2,h3⟩:=h;exact ⟨us,h1,h2,h3.tr hst (iP _ ls rfl)⟩
  | lX t sh=>obtain ⟨us,h1,h2,h3⟩:=h;exact ⟨us,h1,h2,h3.tr hst (iP _ ls rfl)⟩
 | map mk kt vt xs c=>obtain ⟨b,es,h1,h2,h3,h4⟩:=h;exact ⟨b,es,h1,(hF b ((h3 b).2 rfl)).trans h2,h3,h4⟩
 | ghost=>exact fun k hk=>⟨(h k hk).1,(hF k (h k hk).1).trans (h k hk).2⟩
 | row t xs sh=>cases sh with
  | false=>exact Own.frame (w:=w) h hF
  | true=>obtain ⟨cells,h1,h2,h3⟩:=h;exact ⟨cells,lT h1 fun g hg=>hF g ((h2 g).2 hg),h2,fun j x hx i l hl=>R (h3 j x hx i l hl)⟩
end
end
section
variable {Ty:Type} {C:Ty→Type}
def ZL.desc (K:Cd C):ZL Ty→TypeDesc→Prop
 | .int k,d=>d = .int k
 | .bool,d=>d = .bool
 | .str,d=>d = .string
 | .dR t,d=>d = .slice (K.tid t)
 | .ptr,d=>∃ e,d = .pointer e
 | .bP,d=>∃ p r v,d = .func p r v
 | .nk .lX,d=>∃ ms,d = .interface ms
 | .nk .map,d=>∃ k e,d = .map k e
def aI (P:Program) (K:Cd C) (T:TypeId):TK Ty→Prop
 | .one z=>(∃ i,P.info? T=some i∧i.size=1∧i.zero=some z.val)∧∃ d,P.underlying T=some d∧z.desc K d
 | .agg fs zs=>(∃ i,P.info? T=some i∧i.size=zs.length∧i.zero=some (.agg (zs.map ZL.val).toArray)) ∧
   ∃ fields:Array Field,P.underlying T=some (.struct fields)∧fields.size=fs.length ∧
    ∀ (j off n:Nat) (ag:Bool),fs[j]?=some (off,n,ag)→∃ (f:Field) (i:TypeInfo),fields[j]?=some f∧f.offset=off∧P.info? f.type=some i∧i.size=n∧0<n ∧
     ∃ d,P.underlying f.type=some d∧(match d with | .struct _ | .array .. =>true | _=>false)=ag
 | .arr n sz ag zs=>(∃ i,P.info? T=some i∧i.size=zs.length∧i.zero=some (.agg (zs.map ZL.val).toArray))∧zs.length=n*sz∧0<sz ∧
   ∃ (e:TypeId) (i:TypeInfo),P.underlying T=some (.array n e)∧P.info? e=some i∧i.size=sz∧∃ d,P.underlying e=some d∧(match d with | .struct _ | .array .. =>true | _=>false)=ag
def wK (P:Program) (K:Cd C) (t:Ty):Prop:=
 ∃ i z,P.info? (K.tid t)=some i∧i.size=K.sz t∧i.bytes=K.bytes t∧0<K.bytes t∧i.zero=some z∧z.cells.size=K.sz t ∧
  ∀ i l,(K.enc t (K.zero t))[i]?=some l→∀ w base F,Own K w base F l (z.cells.getD i undef)
def slot (d:Option Tmp) (nt:Nat):Prop:=∀ t,d=some t→t<nt
section
variable {P:Program} {K:Cd C} {X:Cx C} {w0 w:World} {nt:Nat} {S:St C} {β:Nat→Value} {fp:Nat→Nat→Prop} {a:Act}
theorem cG (h:dc K w0 nt S β fp a w) {x:Operand} {v:SV C} (hx:eG S x=some v):dD K w S.ah β fp (aH S.ah fp w) v (a.eval x):=by
 cases x with
 | tmp t=>exact h.env t v hx
 | const c=>
  cases c with
  | int k n=>simp [eG] at hx;subst hx;rfl
  | bool b=>simp [eG] at hx;subst hx;rfl
  | string s=>simp [eG] at hx;subst hx;rfl
  | pointer p=>
   cases p with
   | none=>simp [eG] at hx;subst hx;rfl
   | some p=>simp [eG] at hx
  | map m=>
   cases m with
   | none=>simp [eG] at hx;subst hx;rfl
   | some p=>simp [eG] at hx
  | nilFunc=>simp [eG] at hx;subst hx;rfl
  | nilIface=>simp [eG] at hx;subst hx;rfl
  | _=>simp [eG] at hx
 | global g=>simp [eG] at hx
 | func f=>
  simp only [eG] at hx
  cases hb:Nat.ble nK f with
  | true=>rw [hb] at hx;cases hx
  | false=>rw [hb] at hx;cases hx;exact (oo hb).symm
theorem dM (h:dc K w0 nt S β fp a w) {T:TypeId} {x:Operand} {v:SV C} (hx:gb X S T x=some v):dD K w S.ah β fp (aH S.ah fp w) v (a.eval x):=by
 unfold gb at hx;split at hx
 ·split at hx
  ·simp at hx;subst hx;rfl
  ·cases hx
 ·exact cG h hx
theorem bl {o:Oper} {v:Value} {w':World} {next:Act→World→Prop} {Q:Exit→Act→World→Prop} (h:(execOp a.eval o).run P w = .ok (.value v) w') (hn:next (a.put o.dst v) w'):o.wp P a w next Q:=by
 unfold Oper.wp;rw [h];exact hn
theorem wp_skip {o:Oper} {w':World} {next:Act→World→Prop} {Q:Exit→Act→World→Prop} (h:(execOp a.eval o).run P w = .ok .skip w') (hn:next (a.put o.dst undef) w'):o.wp P a w next Q:=by
 unfold Oper.wp;rw [h];exact hn
def Next (K:Cd C) (w0:World) (nt:Nat) {R:Type} (k:St C→Option R) (r:R) (a':Act) (w':World):Prop:=∃ S',nq K w0 nt S' a' w'∧k S'=some r
theorem bn {R:Type} {k:St C→Option R} {r:R} (h:dc K w0 nt S β fp a w) {d:Option Tmp} (hd:slot d nt) {v:SV C} {u:Value} (hv:dD K w S.ah β fp (aH S.ah fp w) v u) (hk:k (S.put d v)=some r) :
  Next K w0 nt k r (a.put d u) w:=⟨_,⟨β,fp,h.put d hd hv⟩,hk⟩
theorem toList_inj {a b:ByteArray} (h:a.toList=b.toList):a=b:=by
 rw [ByteArray.toList_eq,ByteArray.toList_eq] at h;exact ByteArray.ext (Array.ext' h)
theorem zG (a b:ByteArray):(a.toList==b.toList)=decide (a=b):=by
 by_cases h:a=b
 ·subst h;simp
 ·have:a.toList≠b.toList:=fun e=>h (toList_inj e)
  simp [h,this]
theorem ku:∀ (a b:List UInt8),Go.Op.bytesLess a b=true→Go.Op.bytesLess b a=false∧(a==b)=false
 | _,[],h=>by simp [Go.Op.bytesLess] at h
 | [],b::y,h=>by simp [Go.Op.bytesLess]
 | x::a,y::b,h=>by
  simp only [Go.Op.bytesLess,Bool.or_eq_true,decide_eq_true_eq,Bool.and_eq_true,beq_iff_eq] at h
  rcases h with h | ⟨rfl,h⟩
  ·have h1:¬ y<x:=fun h2=>absurd (UInt8.lt_trans h h2) (UInt8.lt_irrefl _)
   have h2:x≠y:=fun e=>by subst e;exact absurd h (UInt8.lt_irrefl _)
   have h3:y≠x:=fun e=>h2 e.symm
   simp [Go.Op.bytesLess,h1,h2,h3]
  ·have ih:=ku a b h
   simp only [beq_eq_false_iff_ne] at ih;simp [Go.Op.bytesLess,ih.1,ih.2,UInt8.lt_irrefl]
theorem np:∀ (a b:List UInt8),Go.Op.bytesLess a b=false→(a==b)=false→Go.Op.bytesLess b a=true
 | [],[],_,h=>by simp at h
 | _::_,[],_,_=>by simp [Go.Op.bytesLess]
 | [],b::y,h,_=>by simp [Go.Op.bytesLess] at h
 | x::a,y::b,h,h'=>by
  simp only [Go.Op.bytesLess,Bool.or_eq_false_iff,decide_eq_false_iff_not,Bool.and_eq_false_iff,beq_eq_false_iff_ne] at h
  by_cases e:x=y
  ·subst e
   have h2:(a==b)=false:=by simpa using h'
   have:=np a b (by simpa using h.2) h2;simp [Go.Op.bytesLess,this]
  ·have h3:y<x:=by
    rcases Nat.lt_trichotomy x.toNat y.toNat with h4 | h4 | h4
    ·exact absurd (UInt8.lt_iff_toNat_lt.2 h4) h.1
    ·exact absurd (UInt8.toNat_inj.1 h4) e
    ·exact UInt8.lt_iff_toNat_lt.2 h4
   simp [Go.Op.bytesLess,h3]
theorem Gt (a b:ByteArray):(Go.Op.bytesLess a.toList b.toList||(a.toList==b.toList)) = !(Go.Op.bytesLess b.toList a.toList):=by
 cases h:Go.Op.bytesLess a.toList b.toList with
 | true=>simp [(ku _ _ h).1]
 | false=>
  cases h':(a.toList==b.toList) with
  | false=>simp [np _ _ h h']
  | true=>
   have:=eq_of_beq h';rw [this] at h ⊢;simp [h]
theorem dg {op:BinOp} {T:TypeId} {x y:Operand} {u v:Value} (h:∀ cs,u ≠ .agg cs) (h':u ≠ .nilIface):(eqGuard op T x y u v).run P w = .ok () w:=by
 unfold eqGuard;cases op<;>simp<;>(cases u<;>first | (exfalso;exact h' rfl) | (exfalso;exact h _ rfl) | (cases v<;>simp))
theorem bb {T:TypeId} {d:TypeDesc} (h:P.underlying T=some d):(underlying T).run P w = .ok d w:=by
 simp [underlying,h]
theorem s6 {T:TypeId} (hu:P.underlying T=some .bool) (a b:Bool):(Go.Op.equal T (.bool a) (.bool b)).run P w = .ok (a==b) w:=by
 have:∀ d,(Go.Op.equalIn (d+1) T (.bool a) (.bool b)).run P w = .ok (a==b) w:=fun d=>by simp [Go.Op.equalIn,bb hu]
 exact this 9999
theorem uU {T e:TypeId} (hu:P.underlying T=some (.pointer e)) (p:Option Addr):(Go.Op.equal T (.pointer p) (.pointer none)).run P w = .ok p.isNone w:=by
 have:∀ d,(Go.Op.equalIn (d+1) T (.pointer p) (.pointer none)).run P w = .ok p.isNone w:=fun d=>by
  cases p<;>simp [Go.Op.equalIn,bb hu]
 exact this 9999
def EK.desc:EK→TypeDesc
 | .int k=>.int k
 | .bool=>.bool
 | .str=>.string
def Q1 (P:Program):Nat→List Field→List EK→Prop
 | _,[],[]=>True
 | n,f::fs,k::ks=>(f.name ≠ "_" ∧ f.offset=n∧P.underlying f.type=some k.desc)∧Q1 P (n+1) fs ks
 | _,_,_=>False
def wI (P:Program) (T:TypeId) (ks:List EK):Prop:=
 ∃ fs:Array Field,P.underlying T=some (.struct fs)∧P.stoodInHeld T=false∧P.eqGuardType P.depth T=false∧Q1 P 0 fs.toList ks
def EK.isB:Option TypeDesc→EK→Bool
 | some (.int k),.int k'=>decide (k=k')
 | some .bool,.bool=>true
 | some .string,.str=>true
 | _,_=>false
def HG (P:Program):Nat→List Field→List EK→Bool
 | _,[],[]=>true
 | n,f::fs,k::ks=>(!(f.name == "_")&&(Nat.beq f.offset n&&EK.isB (P.underlying f.type) k))&&HG P (n+1) fs ks
 | _,_,_=>false
def HH (P:Program) (T:TypeId) (ks:List EK):Bool:=match P.underlying T with
 | some (.struct fs)=> !P.stoodInHeld T&&(!P.eqGuardType P.depth T&&HG P 0 fs.toList ks)
 | _=>false
theorem EK.VX {d:Option TypeDesc} {k:EK} (h:EK.isB d k=true):d=some k.desc:=by
 unfold EK.isB at h;split at h
 ·rw [of_decide_eq_true h];rfl
 ·rfl
 ·rfl
 ·cases h
theorem CR:∀ {n:Nat} {fs:List Field} {ks:List EK},HG P n fs ks=true→Q1 P n fs ks
 | _,[],[],_=>trivial
 | _,[],_::_,h=>by cases h
 | _,_::_,[],h=>by cases h
 | n,f::fs,k::ks,h=>by
  simp only [HG,Bool.and_eq_true,Bool.not_eq_true',beq_eq_false_iff_ne] at h;exact ⟨⟨h.1.1,Nat.eq_of_beq_eq_true h.1.2.1,EK.VX h.1.2.2⟩,CR h.2⟩
theorem sE {T:TypeId} {ks:List EK} (h:HH P T ks=true):wI P T ks:=by
 unfold HH at h;split at h
 ·rename_i fs hf
  simp only [Bool.and_eq_true,Bool.not_eq_true'] at h;exact ⟨fs,hf,h.1,h.2.1,CR h.2.2⟩
 ·cases h
theorem vf {T:TypeId} {k:EK} (h:P.underlying T=some k.desc) {cs:Array Value} {n:Nat} (hn:n<cs.size):(part T cs n).run P w = .ok (cs.getD n undef) w:=by
 have e:cs[n]?=some (cs.getD n undef):=by simp [Array.getD,hn]
 have ha:(isAgg T).run P w = .ok false w:=by
  simp only [isAgg,Sem.run_bind,bb h,Result.andThen_ok];cases k<;>rfl
 simp only [part,Sem.run_bind,ha,Result.andThen_ok,Bool.false_eq_true,if_false];rw [e];rfl
theorem tC {ah:cW C} {cM:Nat→Prop} {d:Nat}:∀ {fs:List Field} {ks:List EK} {as bs:List (Lf C)} {n:Nat} {c:Bool} {us vs:Array Value},Q1 P n fs ks→sD ks as bs=some c→us.size=n+as.length→vs.size=n+bs.length →
  (∀ i l,as[i]?=some l→db X.K w ah β fp cM l (us.getD (n+i) undef))→(∀ i l,bs[i]?=some l→db X.K w ah β fp cM l (vs.getD (n+i) undef))→(Op.eqFields (d+1) us vs fs).run P w = .ok c w
 | [],ks,as,bs,n,c,us,vs,hf,hc,hu,hv,ha,hb=>by
  cases ks with
  | cons k ks=>exact hf.elim
  | nil=>
   cases as with
   | cons a as=>simp [sD] at hc
   | nil=>cases bs with
    | cons b bs=>simp [sD] at hc
    | nil=>
     simp only [sD,Option.some.injEq] at hc;subst hc;rfl
 | f::fs,ks,as,bs,n,c,us,vs,hf,hc,hu,hv,ha,hb=>by
  cases ks with
  | nil=>exact hf.elim
  | cons k ks=>
   obtain ⟨⟨h1,h2,h3⟩,hf⟩:=hf;subst h2
   have main:∀ (a b:Lf C) (r s:List (Lf C)) (e c':Bool),as=a::r→bs=b::s→sD ks r s=some c'→c=(e&&c')→(Op.equalIn (d+1) f.type (us.getD f.offset undef) (vs.getD f.offset undef)).run P w = .ok e w→(Op.eqFields (d+1) us vs (f::fs)).run P w = .ok c w:=by
    intro a b r s e c' ea eb he ec hq;subst ea eb ec;simp only [List.length_cons] at hu hv
    have ih:=tC (d:=d) (fs:=fs) (ks:=ks) (as:=r) (bs:=s) (n:=f.offset+1) (c:=c') (us:=us) (vs:=vs) hf he (by omega) (by omega)
     (fun i l hl=>by have:=ha (i+1) l (by simpa using hl);rwa [show f.offset+(i+1)=f.offset+1+i from by omega] at this)
     (fun i l hl=>by have:=hb (i+1) l (by simpa using hl);rwa [show f.offset+(i+1)=f.offset+1+i from by omega] at this)
    rw [Op.eqFields,if_pos h1];simp only [Sem.run_bind,vf h3 (show f.offset<us.size by omega),vf h3 (show f.offset<vs.size by omega),Result.andThen_ok,hq]
    cases e with
    | false=>rfl
    | true=>simpa using ih
   cases k with
   | int kk=>
    match as,bs,hc with
    | .int k1 a::r,.int k2 b::s,hc=>
     simp only [sD] at hc
     have hk:k1=k2:=by
      by_cases e:k1=k2
      ·exact e
      ·simp [e] at hc
     subst hk;simp only [decide_true,cond_true] at hc;split at hc
     ·rename_i c' he
      cases hc;have e1:us.getD f.offset undef = .int k1 a:=ha 0 (.int k1 a) rfl;have e2:vs.getD f.offset undef = .int k1 b:=hb 0 (.int k1 b) rfl;refine main _ _ _ _ (decide (a=b)) c' rfl rfl he rfl ?_;rw [e1,e2,run_equalIn_int w d f.type k1 kk a b h3];rfl
     ·cases hc
   | bool=>
    match as,bs,hc with
    | .bool a::r,.bool b::s,hc=>
     simp only [sD] at hc;split at hc
     ·rename_i c' he
      cases hc;have e1:us.getD f.offset undef = .bool a:=ha 0 (.bool a) rfl;have e2:vs.getD f.offset undef = .bool b:=hb 0 (.bool b) rfl;refine main _ _ _ _ (a==b) c' rfl rfl he rfl ?_;rw [e1,e2,run_equalIn_bool' w d f.type a b h3]
     ·cases hc
   | str=>
    match as,bs,hc with
    | .str a::r,.str b::s,hc=>
     simp only [sD] at hc;split at hc
     ·rename_i c' he
      cases hc;have e1:us.getD f.offset undef = .string a:=ha 0 (.str a) rfl;have e2:vs.getD f.offset undef = .string b:=hb 0 (.str b) rfl;refine main _ _ _ _ (decide (a=b)) c' rfl rfl he rfl ?_;rw [e1,e2,run_equalIn_string w d f.type a b h3,zG]
     ·cases hc
theorem CS {T:TypeId} {ks:List EK} (hE:wI P T ks) {ah:cW C} {cM:Nat→Prop} {as bs:List (Lf C)} {c:Bool} {u v:Value} (hc:sD ks as bs=some c) (hx:dD X.K w ah β fp cM (.agg as) u) (hy:dD X.K w ah β fp cM (.agg bs) v) {op:BinOp} {xo yo:Operand} :
  (eqGuard op T xo yo u v).run P w = .ok () w∧(binOp .eql T u v).run P w = .ok (.bool c) w∧(binOp .neq T u v).run P w = .ok (.bool (!c)) w:=by
 obtain ⟨fs,h1,h2,h3,h4⟩:=hE;obtain ⟨us,rfl,hu⟩:=hx;obtain ⟨vs,rfl,hv⟩:=hy
 have e:P.fieldsOf T=fs:=by simp [Program.fieldsOf,h1]
 have hq:(Op.equalIn 10000 T (.agg us.toArray) (.agg vs.toArray)).run P w = .ok c w:=by
  rw [run_equalIn_struct w 9999 T _ _ (by rw [e];exact h1) h2,e];exact tC (d:=9998) h4 hc (by simp [hu.1]) (by simp [hv.1]) (X:=X) (fun i l hl=>by have:=hu.2 i l hl;simpa using this) (fun i l hl=>by have:=hv.2 i l hl;simpa using this)
 refine ⟨run_eqGuard_agg w op T xo yo _ _ h3,?_,?_⟩
 ·rw [run_eql_struct,hq];rfl
 ·rw [run_neq_struct,hq];rfl
theorem W8 {T:TypeId} (hT:∀ k,X.tk T=some k→aI P X.K T k) (hE:∀ ks,X.Q0 T=some ks→wI P T ks) {op:BinOp} {xo yo:Operand} {x y:SV C} {u v:Value} {R:Type} {k:SV C→Option R} {r:R} {ah:cW C} {cM:Nat→Prop}
  (h:FY (X.Q0 T) (X.tk T) op x y k=some r) (hx:dD X.K w ah β fp cM x u) (hy:dD X.K w ah β fp cM y v) :
  ∃ z q,(do eqGuard op T xo yo u v;binOp op T u v:Sem Value).run P w = .ok q w∧dD X.K w ah β fp cM z q∧k z=some r:=by
 unfold FY at h;split at h
 ·
  rename_i as bs;split at h
  ·rename_i ks hks
   split at h
   ·rename_i c hc
    obtain ⟨g1,g2,g3⟩:=CS (hE _ hks) hc hx hy (op:=.eql) (xo:=xo) (yo:=yo);exact ⟨.one (.bool c),.bool c,by simp only [Sem.run_bind,g1,Result.andThen_ok,g2],rfl,h⟩
   ·rename_i c hc
    obtain ⟨g1,g2,g3⟩:=CS (hE _ hks) hc hx hy (op:=.neq) (xo:=xo) (yo:=yo);exact ⟨.one (.bool (!c)),.bool (!c),by simp only [Sem.run_bind,g1,Result.andThen_ok,g3],rfl,h⟩
   ·cases h
  ·cases h
 ·
  rename_i ka a kb b;simp only [dD,db] at hx hy;subst hx hy;have hg:(eqGuard op T xo yo (.int ka a) (.int kb b)).run P w = .ok () w:=dg (by simp) (by simp)
  by_cases hk:ka=kb
  ·subst hk
   simp only [decide_true,cond_true] at h
   cases hc:W6 op a b with
   | some c=>
    rw [hc] at h;refine ⟨.one (.bool c),.bool c,?_,rfl,h⟩;simp only [Sem.run_bind,hg,Result.andThen_ok];cases op<;>simp [W6] at hc<;>subst hc<;>simp [binOp,Go.Op.intCmp]
   | none=>
    rw [hc] at h;simp only at h
    cases ha:arI op ka a b with
    | some n=>
     rw [ha] at h;refine ⟨.one (.int ka n),.int ka n,?_,rfl,h⟩;simp only [Sem.run_bind,hg,Result.andThen_ok];cases op<;>simp [arI] at ha<;>subst ha<;>simp [binOp,Go.Op.intArith,Go.Op.intBits,J7]
    | none=>
     rw [ha] at h;simp only at h
     by_cases hb:b=0
     ·simp [hb] at h
     ·simp only [hb,decide_false,cond_false] at h
      split at h
      ·refine ⟨.one (.int ka (ka.wrap (a.tdiv b))),.int ka (ka.wrap (a.tdiv b)),?_,rfl,h⟩
       simp only [Sem.run_bind,hg,Result.andThen_ok];simp [binOp,Go.Op.intDiv,hb]
      ·refine ⟨.one (.int ka (a.tmod b)),.int ka (a.tmod b),?_,rfl,h⟩
       simp only [Sem.run_bind,hg,Result.andThen_ok];simp [binOp,Go.Op.intDiv,hb]
      ·cases h
  ·simp [hk] at h
 ·
  rename_i a b;simp only [dD,db] at hx hy;subst hx hy;have hg:(eqGuard op T xo yo (.string a) (.string b)).run P w = .ok () w:=dg (by simp) (by simp)
  cases hc:W5 op a b with
  | some c=>
   rw [hc] at h;refine ⟨.one (.bool c),.bool c,?_,rfl,h⟩;simp only [Sem.run_bind,hg,Result.andThen_ok];cases op<;>simp only [W5,Option.some.injEq,reduceCtorEq] at hc<;>subst hc<;>simp [binOp,Go.Op.stringOp,slt,zG]
   ·have:=Gt a b
    rw [zG] at this
    simpa using this
   ·have:=Gt a b
    rw [zG] at this;rw [←Bool.not_or,this];simp
  | none=>
   rw [hc] at h;simp only at h;split at h
   ·by_cases hs:a.size+b.size≤9223372036854775807
    ·simp only [hs,decide_true,cond_true] at h
     refine ⟨.one (.str (a++b)),.string (a++b),?_,rfl,h⟩;simp only [Sem.run_bind,hg,Result.andThen_ok]
     have:¬ (((a.size+b.size:Nat):Int)>IntKind.i64.max):=by
      have:IntKind.i64.max=9223372036854775807:=by decide
      rw [this];omega
     simp only [binOp,Go.Op.stringOp,if_neg this];rfl
    ·simp [hs] at h
   ·cases h
 ·
  rename_i a b;simp only [dD,db] at hx hy;subst hx hy;have hg:(eqGuard op T xo yo (.bool a) (.bool b)).run P w = .ok () w:=dg (by simp) (by simp);split at h
  ·rename_i ht
   obtain ⟨_,d,hd,hd'⟩:=hT _ ht;have hu:=hd.trans (congrArg some (show d=TypeDesc.bool from hd'));refine ⟨.one (.bool (a==b)),.bool (a==b),?_,rfl,h⟩;simp only [Sem.run_bind,hg,Result.andThen_ok];simp [binOp,s6 hu]
  ·rename_i ht
   obtain ⟨_,d,hd,hd'⟩:=hT _ ht;have hu:=hd.trans (congrArg some (show d=TypeDesc.bool from hd'));refine ⟨.one (.bool (!(a==b))),.bool (!(a==b)),?_,rfl,h⟩;simp only [Sem.run_bind,hg,Result.andThen_ok];simp [binOp,s6 hu]
  ·cases h
 ·
  rename_i x;simp only [dD,db] at hy;subst hy
  cases hn:Fm x with
  | none=>simp [hn] at h
  | some c=>
   have hu':∃ p,u = .pointer p∧p.isNone=c:=by
    cases x<;>simp [Fm] at hn<;>subst hn
    ·exact ⟨none,hx,rfl⟩
    ·obtain ⟨b,_,e⟩:=hx;exact ⟨_,e,rfl⟩
    ·obtain ⟨a,_,e,_⟩:=hx;exact ⟨_,e,rfl⟩
    ·rename_i id p i o
     cases p with
     | nil=>obtain ⟨⟨a,e⟩,_⟩:=hx;exact ⟨_,e,rfl⟩
     | cons s p=>obtain ⟨⟨a,e⟩,_⟩:=hx;exact ⟨_,e,rfl⟩
   obtain ⟨p,rfl,hp⟩:=hu';have hg:(eqGuard op T xo yo (.pointer p) (.pointer none)).run P w = .ok () w:=dg (by simp) (by simp);simp only [hn] at h;split at h
   ·rename_i c' e ht
    cases e;obtain ⟨_,d,hd,e,hd'⟩:=hT _ ht;have hu:=hd.trans (congrArg some hd');refine ⟨.one (.bool c),.bool c,?_,rfl,h⟩;simp only [Sem.run_bind,hg,Result.andThen_ok];subst hp;simp [binOp,uU hu]
   ·rename_i c' e ht
    cases e;obtain ⟨_,d,hd,e,hd'⟩:=hT _ ht;have hu:=hd.trans (congrArg some hd');refine ⟨.one (.bool (!c)),.bool (!c),?_,rfl,h⟩;simp only [Sem.run_bind,hg,Result.andThen_ok];subst hp;simp [binOp,uU hu]
   ·cases h
 ·cases h
end
end
section
variable {Ty:Type} {C:Ty→Type}
variable {P:Program} {K:Cd C} {X:Cx C} {w0 w:World} {nt:Nat} {S:St C} {β:Nat→Value} {fp:Nat→Nat→Prop} {a:Act}
theorem add_add (p:Addr) (m n:Nat):(p.add m).add n=p.add (m+n):=by
 unfold Addr.add
 by_cases h1:m=0<;>by_cases h2:n=0<;>simp [h1,h2,Nat.add_assoc]
theorem eL (b o n:Nat):(⟨b,o,none⟩:Addr).add n=⟨b,o+n,none⟩:=by
 unfold Addr.add;split<;>simp_all
theorem mL (p:Addr) (n:Nat):(p.add n).block=p.block:=by unfold Addr.add;split<;>rfl
theorem aI.under {T:TypeId} {k:TK Ty} (h:aI P K T k):∃ d,P.underlying T=some d:=by
 cases k with
 | one z=>obtain ⟨_,d,hd,_⟩:=h;exact ⟨d,hd⟩
 | agg fs zs=>obtain ⟨_,f,hf,_⟩:=h;exact ⟨_,hf⟩
 | arr n sz ag zs=>obtain ⟨_,_,_,e,i,hf,_⟩:=h;exact ⟨_,hf⟩
theorem aI.dR {T:TypeId} {t:Ty} (h:aI P K T (.one (.dR t))):P.underlying T=some (.slice (K.tid t)):=by
 obtain ⟨_,d,hd,h⟩:=h;exact hd.trans (congrArg some h)
theorem aI.str {T:TypeId} (h:aI P K T (.one .str)):P.underlying T=some .string:=by
 obtain ⟨_,d,hd,h⟩:=h;exact hd.trans (congrArg some h)
theorem aI.int {T:TypeId} {k:IntKind} (h:aI P K T (.one (.int k))):P.underlying T=some (.int k):=by
 obtain ⟨_,d,hd,h⟩:=h;exact hd.trans (congrArg some h)
theorem wK.size {t:Ty} (h:wK P K t):(sizeOf (K.tid t)).run P w = .ok (K.sz t) w:=by
 obtain ⟨i,z,h1,h2,_⟩:=h;simp [sizeOf,typeInfo,h1,h2]
def jl (K:Cd C) (fl:MK) (kt vt:Ty) (x:C kt):List (Nat×C kt×C vt)→Nat→Option (Nat×Value)
 | [],_=>none
 | e::r,i=>cond (jr (K.enc kt e.2.1) (K.enc kt x)) (some (i,pg K fl vt e.2.2)) (jl K fl kt vt x r (i+1))
structure wG (P:Program) (K:Cd C) (T:TypeId) (m:MT Ty) (kt et:TypeId):Prop where
 mN:P.underlying T=some (.map kt et)
 fk:K.flat m.kt=true
 fv:K.flat m.vt=true
 zero:∀ w,(zeroValue et).run P w = .ok (pg K m.fl m.vt (K.zero m.vt)) w
 pF:∀ b x w,(Instr.checkKey b 10000 kt (lh K m.fl m.kt x)).run P w = .ok () w
 find:∀ x (xs:List (Nat×C m.kt×C m.vt)) w,(Instr.findKey kt (lh K m.fl m.kt x) (xs.map (ou K m.fl m.kt m.vt))).run P w = .ok (jl K m.fl m.kt m.vt x xs 0) w
 Yq:m.fl.Uy=false→m.fl.un=false→K.sz m.vt=1
 bits:∀ x y,jr (K.enc m.kt y) (K.enc m.kt x)=true→lh K m.fl m.kt y=lh K m.fl m.kt x∧Instr.sameBits 10000 (lh K m.fl m.kt y) (lh K m.fl m.kt x)=true
def Dm (P:Program) (K:Cd C) (T:TypeId) (m:MT Ty):Prop:=∃ kt et,wG P K T m kt et
def Uq (P:Program) (f:Nat) (e:List Value→Option Value):Prop:=∀ us v,e us=some v→∀ w,(callFunc f us.toArray).run P w = .ok (.value v) w
def Ic (P:Program) (f tid sz bytes:Nat):Prop:=(∃ fn,P.funcs[f]?=some fn∧fn.body.isNone=false∧fn.name ≠ "runtime.NumGoroutine") ∧
 ∀ (w:World) (base:Nat) (v v1:Value) (n i:Nat) (cs gs:List Value),w.ownsRow base tid sz v n cs→w.ownsRow base tid sz v1 1 gs→base≤w.heap.size→i≤n→(n+1)*bytes≤140737488355328→(∀ g,v.ownBlock=some g→v1.ownBlock≠some g) →
  (∀ u,u∈cs→u.oneCell'=true)→(∀ u,u∈gs→u.oneCell'=true) →
  Calls P f #[v,.int .i64 i,v1] w fun e w'=>∃ v',e = .returned v'∧w'.ownsRow base tid sz v' (n+1) (cs.take (i*sz)++gs++cs.drop (i*sz))∧w.grownBy w' v.ownBlock∧(v'.ownBlock=v.ownBlock∨∀ g,v'.ownBlock=some g→w.heap.size≤g)
structure je (P:Program) (X:Cx C):Prop where
 tk:∀ T k,X.tk T=some k→aI P X.K T k
 el:∀ t,wK P X.K t
 mp:∀ T m,X.mp T=some m→Dm P X.K T m
 Ff:∀ T name f,X.Ff T name=some f→∀ v w,(method (P.types.size+Made.depth) T v name).run P w = .ok (f,v) w
 ext:∀ f e,X.ext f=some e→Uq P f e
 ins:∀ f t,X.ins f=some t→Ic P f (X.K.tid t) (X.K.sz t) (X.K.bytes t)
 Q0:∀ T ks,X.Q0 T=some ks→wI P T ks
theorem Ki {k:IntKind} {n:Int}:(Go.Op.unary .neg (.int k n)).run P w = .ok (.int k (k.wrap (0-n))) w:=by simp [Go.Op.unary,Go.Op.intArith]
theorem C3 {s d:TypeId} {k k':IntKind} {n:Int} {ds:TypeDesc} (hs:P.underlying s=some ds) (hd:P.underlying d=some (.int k')):(convert s d (.int k n)).run P w = .ok (.int k' (k'.wrap n)) w:=by
 unfold convert;simp only [Sem.run_bind,bb hs,bb hd,Result.andThen_ok];cases ds<;>simp [Conv.intToInt]
theorem C2 {s d:TypeId} {x:ByteArray} {ds:TypeDesc} (hs:P.underlying s=some ds) (hd:P.underlying d=some .string):(convert s d (.string x)).run P w = .ok (.string x) w:=by
 unfold convert;simp only [Sem.run_bind,bb hs,bb hd,Result.andThen_ok];cases ds<;>simp
theorem FJ {T:TypeId} {fs:List (Nat×Nat×Bool)} {zs:List (ZL Ty)} (hT:aI P K T (.agg fs zs)) {f off n:Nat} {ag:Bool} (hf:fs[f]?=some (off,n,ag)) (p:Addr) :
  (Instr.fieldAt T (.pointer (some p)) f).run P w = .ok (.pointer (some (p.add off))) w:=by
 obtain ⟨_,fields,hu,hl,hF⟩:=hT;obtain ⟨fl,i,h1,h2,h3,h4,h5,_⟩:=hF f off n ag hf
 have hn:n≠0:=by omega
 simp [Instr.fieldAt,bb hu,h1,Instr.sureAddr,fieldPlace,sizeOf,typeInfo,h3,h4,hn,h2]
theorem JD {ah:cW C} {cM:Nat→Prop} {l l':Lf C} {off:Nat} {v:Value} (h:AK l off=some l') (hv:db K w ah β fp cM l v):∃ p,v = .pointer (some p)∧db K w ah β fp cM l' (.pointer (some (p.add off))):=by
 cases l<;>simp [AK] at h<;>subst h
 ·obtain ⟨b,h1,h2⟩:=hv
  exact ⟨_,h2,b,h1,by rw [eL]⟩
 ·obtain ⟨q,U,h1,h2,h3,h4⟩:=hv
  exact ⟨_,h1,q,U,by rw [add_add],h2,h3,h4⟩
 ·rename_i id p i o
  cases p with
  | nil=>
   obtain ⟨⟨q,hq⟩,h2⟩:=hv;subst hq;refine ⟨q,rfl,⟨_,rfl⟩,fun t xs sh ho=>?_⟩;obtain ⟨h3,q',m,c,h4,h5⟩:=h2 t xs sh ho;refine ⟨h3,q',m,c,h4,?_⟩;simp only [Value.pointer.injEq,Option.some.injEq] at h5 ⊢;rw [h5,add_add,Nat.add_assoc]
  | cons s p=>
   obtain ⟨⟨q,hq⟩,h2⟩:=hv;subst hq;refine ⟨q,rfl,⟨_,rfl⟩,fun t xs sh ho=>?_⟩;obtain ⟨h1,t',zs,v',hp,h3,q',m,c,h4,h5⟩:=h2 t xs sh ho;refine ⟨h1,t',zs,v',hp,h3,q',m,c,h4,?_⟩;simp only [Value.pointer.injEq,Option.some.injEq] at h5 ⊢;rw [h5,add_add,Nat.add_assoc]
theorem fC {base:Nat} {e:TypeId} {size n:Nat} {v:Value} {cells:List Value} (h:w.ownsRow base e size v n cells):∃ A c,v = .slice A n c∧(0<n→∃ g,A=some ⟨g,0,none⟩):=by
 rcases h.2 with ⟨rfl,rfl⟩ | ⟨g,cap,cur,rfl,_⟩
 ·exact ⟨none,0,rfl,fun h=>absurd h (by omega)⟩
 ·exact ⟨_,cap,rfl,fun _=>⟨g,rfl⟩⟩
theorem Own.head {base:Nat} {F:Nat→Prop} {t:Ty} {xs:List (C t)} {v:Value} (h:Own K w base F (.row t xs) v):∃ A c,v = .slice A xs.length c∧(0<xs.length→∃ g,A=some ⟨g,0,none⟩):=by
 cases h with
 | row _ _ _ _ cells G h=>exact fC h
theorem gT.head {F:Nat→Prop} {t:Ty} {xs:List (C t)} {v:Value} (h:gT K w F (.row t xs) v):∃ A c,v = .slice A xs.length c∧(0<xs.length→∃ g,A=some g):=by
 cases h with
 | row _ _ A c a U hc hA=>exact ⟨A,c,rfl,fun h=>⟨a,(hA (List.length_pos_iff.1 h)).1⟩⟩
theorem zV {base:Nat} {ah:cW C} {cM F:Nat→Prop} {t:Ty} {xs:List (C t)} {sh:Bool} {v:Value} (h:kO K w base ah β fp cM F (.row t xs sh) v):∃ A c,v = .slice A xs.length c∧(0<xs.length→∃ g,A=some ⟨g,0,none⟩):=by
 cases sh with
 | false=>exact Own.head h
 | true=>obtain ⟨cells,h1,_⟩:=h;exact fC h1
theorem qJ {F:Nat→Prop} {base:Nat} {t:Ty} {xs:List (C t)} {v:Value} {p:List (Nat×Nat)} {t':Ty} {zs:List (C t')} {v':Value}
  (h:nM K w F t xs v p t' zs v'):∀ G,Own K w base G (.row t xs) v→∃ G',(∀ k,G' k→G k)∧Own K w base G' (.row t' zs) v':=by
 induction h with
 | nil=>exact fun G h=>⟨G,fun _ h=>h,h⟩
 | cons t xs v i o x t1 ys a n c v1 p t' zs v' hx hl hv hF hc _ ih=>
  intro G h
  cases h with
  | row _ _ _ _ cells G0 h h1 h2 h3 h4=>
   have hi:i<xs.length:=by
    rcases Nat.lt_or_ge i xs.length with h | h
    ·exact h
    ·simp [List.getElem?_eq_none h] at hx
   have qh:xs[i]=x:=by simpa [List.getElem?_eq_getElem hi] using hx
   have ho:o<K.sz t:=by
    have:o<(K.enc t x).length:=by
     rcases Nat.lt_or_ge o (K.enc t x).length with h | h
     ·exact h
     ·simp [List.getElem?_eq_none h] at hl
    rwa [K.gA] at this
   have hpos:0<xs.length*K.sz t:=Nat.mul_pos (by omega) (K.pos t);obtain ⟨g,cap,e,hb,hn,hcell⟩:=j8 h hpos;rw [e] at hv;cases hv
   have hm:i*K.sz t+o<xs.length*K.sz t:=by
    calc i*K.sz t+o<i*K.sz t+K.sz t:=by omega
     _=(i+1)*K.sz t:=by rw [Nat.succ_mul]
     _≤xs.length*K.sz t:=Nat.mul_le_mul_right _ hi
   have:=hcell _ hm;rw [hc] at this;cases this;obtain ⟨G',hG',hO⟩:=ih (G0 i o) (h4 i hi o _ (by rw [qh];exact hl));exact ⟨G',fun k hk=>(h2 i o k (hG' k hk)).1,hO⟩
end
section
variable {Ty:Type} [DecidableEq Ty] {C:Ty→Type}
variable {P:Program} {X:Cx C} {w0 w:World} {nt:Nat} {S:St C} {β:Nat→Value} {fp:Nat→Nat→Prop} {a:Act} {R:Type} {k:St C→Option R} {r:R}
variable {dst:Option Tmp} {ty:TypeId} {pos:String} {dL:Array Edge} {gd:Option (Nat×Bool)} {Q:Exit→Act→World→Prop}
abbrev Goal (P:Program) (X:Cx C) (w0:World) (nt:Nat) (k:St C→Option R) (r:R) (Q:Exit→Act→World→Prop) (o:Oper) (a:Act) (w:World):Prop:=o.wp P a w (Next X.K w0 nt k r) Q
theorem fu {ah:cW C} {cM:Nat→Prop} {l:Lf C} {v:Value} (h:dD X.K w ah β fp cM (.one l) v):db X.K w ah β fp cM l v:=h
theorem UK (hs:dc X.K w0 nt S β fp a w) (hd:slot dst nt) {x:Operand} (h:ev X ⟨dst,.move x,ty,pos,dL,gd⟩ S k=some r):Goal P X w0 nt k r Q ⟨dst,.move x,ty,pos,dL,gd⟩ a w:=by
 simp only [ev] at h;split at h
 ·rename_i v hv
  exact bl rfl (bn hs hd (dM hs hv) h)
 ·cases h
theorem KD (hs:dc X.K w0 nt S β fp a w) (hd:slot dst nt) {x:Operand} (h:ev X ⟨dst,.assign x,ty,pos,dL,gd⟩ S k=some r):Goal P X w0 nt k r Q ⟨dst,.assign x,ty,pos,dL,gd⟩ a w:=by
 simp only [ev] at h;split at h
 ·rename_i v hv
  exact bl rfl (bn hs hd (dM hs hv) h)
 ·cases h
theorem UJ (hs:dc X.K w0 nt S β fp a w) (hd:slot dst nt) {c x y:Operand} (h:ev X ⟨dst,.pick c x y,ty,pos,dL,gd⟩ S k=some r):Goal P X w0 nt k r Q ⟨dst,.pick c x y,ty,pos,dL,gd⟩ a w:=by
 simp only [ev] at h;split at h
 ·rename_i bc bx by' hc hx hy
  have hc:=cG hs hc;have hx:=cG hs hx;have hy:=cG hs hy;simp only [dD,db] at hc hx hy;refine bl (v:=.bool (cond bc bx by')) ?_ (bn hs hd (v:=.one (.bool (cond bc bx by'))) rfl h);cases bc<;>simp [execOp,hc,hx,hy,asBool]
 ·rename_i v hc hv _
  have hc:=cG hs hc;simp only [dD,db] at hc;refine bl (v:=a.eval x) ?_ (bn hs hd (cG hs hv) h);simp [execOp,hc,asBool]
 ·rename_i v hc hv _
  have hc:=cG hs hc;simp only [dD,db] at hc;refine bl (v:=a.eval y) ?_ (bn hs hd (cG hs hv) h);simp [execOp,hc,asBool]
 ·cases h
theorem UI (hs:dc X.K w0 nt S β fp a w) (hd:slot dst nt) {op:UnOp} {t:TypeId} {x:Operand} (h:ev X ⟨dst,.unOp op t x,ty,pos,dL,gd⟩ S k=some r):Goal P X w0 nt k r Q ⟨dst,.unOp op t x,ty,pos,dL,gd⟩ a w:=by
 simp only [ev] at h;split at h
 ·rename_i b hv
  have hv:=cG hs hv;simp only [dD,db] at hv;refine bl (v:=.bool (!b)) ?_ (bn hs hd (v:=.one (.bool (!b))) rfl h);simp [execOp,hv,Go.Op.unary]
 ·rename_i ki n hv
  have hv:=cG hs hv;simp only [dD,db] at hv;refine bl (v:=.int ki (ki.wrap (0-n))) ?_ (bn hs hd (v:=.one (.int ki (ki.wrap (0-n)))) rfl h);simp only [execOp,hv,Sem.run_bind,Ki,Result.andThen_ok,Sem.run_pure]
 ·cases h
theorem BA (hX:je P X) (hs:dc X.K w0 nt S β fp a w) (hd:slot dst nt) {t:TypeId} {x:Operand} {f:Nat} (h:ev X ⟨dst,.fieldAddr t x f,ty,pos,dL,gd⟩ S k=some r):Goal P X w0 nt k r Q ⟨dst,.fieldAddr t x f,ty,pos,dL,gd⟩ a w:=by
 simp only [ev] at h;split at h
 ·rename_i fs zs l ht hv
  split at h
  ·rename_i off n ag hf
   split at h
   ·rename_i l' hl
    obtain ⟨p,hp,hok⟩:=JD hl (cG hs hv);refine bl (v:=.pointer (some (p.add off))) ?_ (bn hs hd (v:=.one l') hok h);simp only [execOp,hp,Sem.run_bind,FJ (hX.tk _ _ ht) hf,Result.andThen_ok,Sem.run_pure]
   ·cases h
  ·cases h
 ·cases h
theorem aw {α:Type} {b:Bool} {x:Option α} {y:α} (h:cond b x none=some y):b=true∧x=some y:=by
 cases b with
 | true=>exact ⟨rfl,h⟩
 | false=>cases h
theorem FW (hs:dc X.K w0 nt S β fp a w) {id f n:Nat} {sh:List (Bool×Nat)} {ls:List (Lf C)} (ho:lk S.ah id=some (.box (.sM f n sh) ls)):∃ us,β id=Jy f n sh us∧cT X.K w S.ah β fp (aH S.ah fp w) ls us:=by
 obtain ⟨us,h1,_,h3⟩:=hs.ah id _ ho;exact ⟨us,h1,h3⟩
theorem Fv (hs:dc X.K w0 nt S β fp a w) {id t:Nat} {sh:List (Bool×Nat)} {ls:List (Lf C)} (ho:lk S.ah id=some (.box (.lX t sh) ls)):∃ us,β id=Jf t sh us∧cT X.K w S.ah β fp (aH S.ah fp w) ls us:=by
 obtain ⟨us,h1,_,h3⟩:=hs.ah id _ ho;exact ⟨us,h1,h3⟩
theorem Qz (hs:dc X.K w0 nt S β fp a w) {v:SV C} {u:Value} (hl:vw S v=true) (hv:dD X.K w S.ah β fp (aH S.ah fp w) v u):(∃ f us vs,u = .func (.func f) us vs)∨∃ t x,u = .iface t x:=by
 unfold vw at hl;split at hl
 ·exact .inl ⟨_,_,_,(show u=_ from hv).trans (oo (by simpa using hl))⟩
 ·rename_i id
  have e:u=β id:=hv.2;split at hl
  ·rename_i ho
   obtain ⟨us,h1,_⟩:=FW hs ho;exact .inl ⟨_,_,_,e.trans h1⟩
  ·rename_i ho
   obtain ⟨us,h1,_⟩:=Fv hs ho;exact .inr ⟨_,_,e.trans h1⟩
  ·cases hl
 ·cases hl
theorem ot {T:TypeId} {u v:Value} {b:Bool} (hne:(Go.Op.equal T u v).run P w = .ok b w) (h1:(binOp .eql T u v)=(do pure (.bool (←Go.Op.equal T u v)))) (h2:(binOp .neq T u v)=(do pure (.bool (!(←Go.Op.equal T u v))))) :
  (binOp .eql T u v).run P w = .ok (.bool b) w∧(binOp .neq T u v).run P w = .ok (.bool (!b)) w:=by
 rw [h1,h2];simp only [Sem.run_bind,hne,Result.andThen_ok];exact ⟨rfl,rfl⟩
theorem CQ {T:TypeId} {u v:Value} {b:Bool} (h:∀ d,(Go.Op.equalIn (d+1) T u v).run P w = .ok b w):(Go.Op.equal T u v).run P w = .ok b w:=h 9999
theorem Ha (hX:je P X) (hs:dc X.K w0 nt S β fp a w) {T:TypeId} {x y:Lf C} {u v:Value} {b:Bool} (hb:I3 S (X.tk T) x y=some b)
  (hx:db X.K w S.ah β fp (aH S.ah fp w) x u) (hy:db X.K w S.ah β fp (aH S.ah fp w) y v) {xo yo:Operand} (hc:isConst yo=true) :
  (eqGuard .eql T xo yo u v).run P w = .ok () w∧(eqGuard .neq T xo yo u v).run P w = .ok () w∧(binOp .eql T u v).run P w = .ok (.bool b) w∧(binOp .neq T u v).run P w = .ok (.bool (!b)) w:=by
 have hyc:∃ c,yo = .const c:=by cases yo with
  | const c=>exact ⟨c,rfl⟩
  | _=>cases hc
 obtain ⟨c,rfl⟩:=hyc;unfold I3 at hb;split at hb
 case h_9=>cases hb
 all_goals
  rename_i hT;obtain ⟨_,d,hd,tt⟩:=hX.tk _ _ hT
 ·obtain ⟨ms,rfl⟩:=tt
  cases hb;obtain rfl:u = .nilIface:=hx;obtain rfl:v = .nilIface:=hy;exact ⟨by simp [eqGuard],by simp [eqGuard],ot (CQ fun d=>by simp [Go.Op.equalIn,bb hd]) rfl rfl⟩
 ·obtain ⟨ms,rfl⟩:=tt
  split at hb
  ·rename_i ho
   cases hb;obtain ⟨us,h1,_⟩:=Fv hs ho;have e:u=_:=hx.2.trans h1;unfold Jf at e;subst e;obtain rfl:v = .nilIface:=hy;exact ⟨dg (by simp) (by simp),dg (by simp) (by simp),ot (CQ fun d=>by simp [Go.Op.equalIn,bb hd]) rfl rfl⟩
  ·cases hb
 ·obtain ⟨ms,rfl⟩:=tt
  rename_i f _;have hx:u=vP (some f):=hx
  cases hf:Nat.ble (nK+1) f with
  | false=>rw [hf] at hb;cases hb
  | true=>
   rw [hf] at hb;cases hb;rw [Aq hf] at hx;subst hx;obtain rfl:v = .nilIface:=hy;exact ⟨dg (by simp) (by simp),dg (by simp) (by simp),ot (CQ fun d=>by simp [Go.Op.equalIn,bb hd]) rfl rfl⟩
 ·obtain ⟨p1,p2,p3,rfl⟩:=tt
  cases hb;obtain rfl:u=vP none:=hx;obtain rfl:v = .nilFunc:=hy;exact ⟨dg (by simp [vP]) (by simp [vP]),dg (by simp [vP]) (by simp [vP]),ot (CQ fun d=>by simp [Go.Op.equalIn,bb hd,vP]) rfl rfl⟩
 ·obtain ⟨p1,p2,p3,rfl⟩:=tt
  rename_i f _;have hx:u=vP (some f):=hx
  cases hf:Nat.ble nK f with
  | true=>rw [hf] at hb;cases hb
  | false=>
   rw [hf] at hb;cases hb;rw [oo hf] at hx;subst hx;obtain rfl:v = .nilFunc:=hy;exact ⟨dg (by simp) (by simp),dg (by simp) (by simp),ot (CQ fun d=>by simp [Go.Op.equalIn,bb hd]) rfl rfl⟩
 ·obtain ⟨p1,p2,p3,rfl⟩:=tt
  split at hb
  ·rename_i ho
   cases hb;obtain ⟨us,h1,_⟩:=FW hs ho;have e:u=_:=hx.2.trans h1;unfold Jy at e;subst e;obtain rfl:v = .nilFunc:=hy;exact ⟨dg (by simp) (by simp),dg (by simp) (by simp),ot (CQ fun d=>by simp [Go.Op.equalIn,bb hd]) rfl rfl⟩
  ·cases hb
 ·obtain ⟨p1,p2,rfl⟩:=tt
  cases hb;obtain rfl:u = .map none:=hx;obtain rfl:v = .map none:=hy;exact ⟨dg (by simp) (by simp),dg (by simp) (by simp),ot (CQ fun d=>by simp [Go.Op.equalIn,bb hd]) rfl rfl⟩
 ·obtain ⟨p1,p2,rfl⟩:=tt
  split at hb
  ·rename_i ho
   cases hb;obtain ⟨b,es,h1,_⟩:=hs.ah _ _ ho;have e:u=_:=hx.2.trans h1;subst e;obtain rfl:v = .map none:=hy;exact ⟨dg (by simp) (by simp),dg (by simp) (by simp),ot (CQ fun d=>by simp [Go.Op.equalIn,bb hd]) rfl rfl⟩
  ·cases hb
theorem ER (hs:dc X.K w0 nt S β fp a w) (hd:slot dst nt) {x:Operand} (h:ev X ⟨dst,.nilCheck x,ty,pos,dL,gd⟩ S k=some r):Goal P X w0 nt k r Q ⟨dst,.nilCheck x,ty,pos,dL,gd⟩ a w:=by
 have key:∀ l,eG S x=some (.one l)→(∃ p,a.eval x = .pointer (some p))→k (S.put dst (.one l))=some r→Goal P X w0 nt k r Q ⟨dst,.nilCheck x,ty,pos,dL,gd⟩ a w:=by
  intro l hv ⟨p,hp⟩ hk;refine bl (v:=a.eval x) ?_ (bn hs hd (cG hs hv) hk);simp [execOp,hp]
 simp only [ev] at h;split at h
 ·rename_i id off hv
  obtain ⟨b,_,e⟩:=fu (cG hs hv);exact key _ hv ⟨_,e⟩ h
 ·rename_i t e off hv
  obtain ⟨b,_,e,_⟩:=fu (cG hs hv);exact key _ hv ⟨_,e⟩ h
 ·rename_i id p i off hv
  have:=fu (cG hs hv);refine key _ hv ?_ h
  cases p with
  | nil=>exact this.1
  | cons s p=>exact this.1
 ·rename_i v _ _ _ hv
  obtain ⟨hl,h⟩:=aw h;refine bl (v:=a.eval x) ?_ (bn hs hd (cG hs hv) h);have hv':=cG hs hv
  rcases Qz hs hl hv' with ⟨f,us,vs,e⟩ | ⟨t,u,e⟩<;>simp [execOp,e]
 ·cases h
theorem Iz (hs:dc X.K w0 nt S β fp a w) (hd:slot dst nt) {x:Operand} {i:Nat} (h:ev X ⟨dst,.extract x i,ty,pos,dL,gd⟩ S k=some r):Goal P X w0 nt k r Q ⟨dst,.extract x i,ty,pos,dL,gd⟩ a w:=by
 simp only [ev] at h;split at h
 ·rename_i vs hv
  obtain ⟨us,he,hl,hok⟩:=cG hs hv
  have key:∀ y,vs[i]?=some y→(execOp a.eval ⟨dst,.extract x i,ty,pos,dL,gd⟩).run P w = .ok (.value (us.getD i undef)) w:=by
   intro y hy
   have hi:i<us.length:=by
    rw [hl]
    rcases Nat.lt_or_ge i vs.length with h | h
    ·exact h
    ·simp [List.getElem?_eq_none h] at hy
   simp [execOp,he,Instr.extract,hi,List.getD,List.getElem?_eq_getElem hi]
  split at h
  ·rename_i l hy
   obtain ⟨l',e,hl'⟩:=hok i _ hy;cases e;exact bl (key _ hy) (bn hs hd (v:=.one l) hl' h)
  ·rename_i ls hy
   obtain ⟨vs',e,hl'⟩:=hok i _ hy;exact bl (key _ hy) (bn hs hd (v:=.agg ls) ⟨vs',e,hl'⟩ h)
  ·cases h
 ·cases h
theorem eS {α:Type} {b:Bool} {x:Option α} {y:α} (h:cond b none x=some y):b=false∧x=some y:=by
 cases b with
 | true=>cases h
 | false=>exact ⟨rfl,h⟩
theorem eD {α:Type} {xs:List α} {n:Nat} {x:α} (h:xs[n]?=some x):n<xs.length:=by
 rcases Nat.lt_or_ge n xs.length with h' | h'
 ·exact h'
 ·simp [List.getElem?_eq_none h'] at h
theorem iw {n s j i:Nat} (hj:j<n) (hi:i<s):j*s+i<n*s:=by
 calc j*s+i<j*s+s:=by omega
  _=(j+1)*s:=by rw [Nat.succ_mul]
  _≤n*s:=Nat.mul_le_mul_right _ hj
theorem Wz {ah:cW C} {cM:Nat→Prop} {t:Ty} {xs:List (C t)} {v:Value} (h:gT X.K w cM (.row t xs) v) {n:Nat} {x:C t} (hx:xs[n]?=some x) :
  ∃ p c,v = .slice (some p) xs.length c∧db X.K w ah β fp cM (.nH t x 0) (.pointer (some (p.add (n*X.K.sz t)))):=by
 cases h with
 | row _ _ A c p U hc hA hcell m4=>
  have hn:=eD hx
  have hne:xs≠[]:=by intro e;subst e;simp at hn
  obtain ⟨rfl,hb⟩:=hA hne;refine ⟨p,c,rfl,p.add (n*X.K.sz t),fun i=>U (n*X.K.sz t+i),?_,?_,fun i hi=>?_,fun i l hl=>?_⟩
  ·rw [add_add];simp
  ·rw [mL];exact hb
  ·rw [add_add];exact hcell hne _ (iw hn hi)
  ·exact m4 n hn i l (by
    have:xs[n]=x:=by simpa [List.getElem?_eq_getElem hn] using hx
    rw [this];exact hl)
theorem vF {t e:TypeId} {sz:Nat} (hu:P.underlying t=some (.slice e)) (hz:(sizeOf e).run P w = .ok sz w) {p:Addr} {len c:Nat} {ki:IntKind} {n:Int} (h0:0≤n) (h1:n<(len:Int)) :
  (Instr.indexAt t (.slice (some p) len c) (.int ki n)).run P w = .ok (.pointer (some (p.add (n.toNat*sz)))) w:=by
 simp [Instr.indexAt,asIntOf,bb hu,h0,h1,hz]
theorem mz {α:Type} {K:Cd C} {F:Nat→Prop} {p:List (Nat×Nat)} {t:Ty} {xs:List (C t)} {v:Value} {t':Ty} {zs:List (C t')} {v':Value} (hp:nM K w F t xs v p t' zs v') {k:(t:Ty)→List (C t)→Option α} {r:α} (h:path K p t xs k=some r):k t' zs=some r:=by
 induction hp with
 | nil=>exact h
 | cons t xs v i o x t1 ys a n c v1 p t' zs v' hx hl hv hF hc _ ih=>
  simp only [path,hx,Option.bind_some,hl] at h;exact ih h
theorem P4 {K:Cd C} {F:Nat→Prop} {t:Ty} {xs:List (C t)} {A:Option Addr} {c lo hi:Nat} (h:gT K w F (.row t xs) (.slice A xs.length c)) (h1:lo≤hi) (h2:hi≤xs.length) :
  gT K w F (.row t ((xs.take hi).drop lo)) (.slice (if c=lo then A else A.map (·.add (lo*K.sz t))) (hi-lo) (c-lo)):=by
 generalize hv:Value.slice A xs.length c=v at h
 cases h with
 | row _ _ A' c' p U hc hA hcell m4=>
  cases hv
  have hlen:((xs.take hi).drop lo).length=hi-lo:=by simp;omega
  rw [←hlen];refine .row t _ _ _ (p.add (lo*K.sz t)) (fun m=>U (lo*K.sz t+m)) (by rw [hlen];omega) (fun hne=>?_) (fun hne m hm=>?_) (fun j hj i lf hlf=>?_)
  ·have h5:0<((xs.take hi).drop lo).length:=List.length_pos_iff.2 hne
   have hne':xs≠[]:=by intro e;subst e;simp at h5
   obtain ⟨rfl,hb⟩:=hA hne';rw [if_neg (by omega)];exact ⟨rfl,by rw [mL];exact hb⟩
  ·have h5:0<((xs.take hi).drop lo).length:=List.length_pos_iff.2 hne
   have hne':xs≠[]:=by intro e;subst e;simp at h5
   rw [add_add];refine hcell hne' _ ?_;rw [hlen] at hm;have:(lo+(hi-lo))*K.sz t≤xs.length*K.sz t:=Nat.mul_le_mul_right _ (by omega);rw [Nat.add_mul] at this;omega
  ·rw [hlen] at hj
   have gW:lo+j<xs.length:=by omega
   have:=m4 (lo+j) gW i lf (by
    have e:((xs.take hi).drop lo)[j]'(by rw [hlen];exact hj)=xs[lo+j]:=by simp
    rw [←e];exact hlf)
   rw [Nat.add_mul,Nat.add_assoc] at this;exact this
theorem zU {K:Cd C} {base:Nat} {ah:cW C} {cM F:Nat→Prop} {t:Ty} {xs:List (C t)} {sh:Bool} {v:Value} (h:kO K w base ah β fp cM F (.row t xs sh) v):∃ F,gT K w F (.row t xs) v:=by
 cases sh with
 | false=>exact ⟨_,Own.rep h⟩
 | true=>
  obtain ⟨cells,h1,h2,h3⟩:=h
  by_cases hx:xs=[]
  ·subst hx
   obtain ⟨A,c,e,_⟩:=fC h1;rw [e];exact ⟨fun _=>False,.row t [] A c default (fun _=>undef) (Nat.zero_le _) (fun h=>absurd rfl h) (fun h=>absurd rfl h) (fun j hj=>absurd hj (by simp))⟩
  ·obtain ⟨g,cap,e,hb,hn,hcell⟩:=j8 h1 (Nat.mul_pos (List.length_pos_iff.2 hx) (K.pos t))
   rw [e];refine ⟨fun _=>True,.row t xs _ cap ⟨g,0,none⟩ (fun m=>cells.getD m undef) hn (fun _=>⟨rfl,trivial⟩) (fun _=>hcell) fun j hj i l hl=>?_⟩
   exact (h3 j xs[j] (by simp [hj]) i l hl).mono fun k hk=>trivial
theorem qp {K:Cd C} {F:Nat→Prop} {t:Ty} {xs:List (C t)} {lo hi:Nat} {v u:Value} (h:gT K w F (.row t xs) v) (hs:Ua K t xs.length v lo hi u):gT K w F (.row t ((xs.take hi).drop lo)) u:=by
 obtain ⟨h1,h2,A,c,B,rfl,hc,rfl,hB⟩:=hs
 rcases Nat.lt_or_ge lo hi with hl | hl
 ·have:=P4 h h1 h2
  rw [if_neg (by omega)] at this;rw [hB hl];exact this
 ·have e:(xs.take hi).drop lo=[]:=List.drop_eq_nil_of_le (by simp;omega)
  have e2:hi-lo=([]:List (C t)).length:=by simp;omega
  rw [e,e2];exact .row t [] B _ default (fun _=>undef) (by simp) (fun h=>absurd rfl h) (fun h=>absurd rfl h) (fun j hj=>absurd hj (by simp))
theorem Bt (hs:dc X.K w0 nt S β fp a w) {l:Lf C} {v:Value} (hv:db X.K w S.ah β fp (aH S.ah fp w) l v) {α:Type} {k':(t:Ty)→List (C t)→Option α} {q:α} (h:nO S X l k'=some q) :
  ∃ (t:Ty) (xs:List (C t)) (A:Option Addr) (c:Nat),k' t xs=some q∧v = .slice A xs.length c∧(0<xs.length→∃ g,A=some g):=by
 cases l with
 | row t xs=>
  obtain ⟨A,c,e,hA⟩:=gT.head hv;exact ⟨t,xs,A,c,h,e,hA⟩
 | nil t=>exact ⟨t,[],none,0,h,hv,fun h=>absurd h (by simp)⟩
 | ref id p=>
  simp only [nO] at h;split at h
  ·rename_i t xs sh ho
   have fO:=hs.ah id _ ho
   cases p with
   | nil=>
    obtain ⟨A,c,e,hA⟩:=zV fO;exact ⟨t,xs,A,c,h,hv.2.trans e,fun h=>(hA h).elim fun g hg=>⟨_,hg⟩⟩
   | cons s p=>
    obtain ⟨hsh,t',zs,hp⟩:=hv.2 t xs sh ho;subst hsh;obtain ⟨G,_,hO⟩:=qJ hp _ fO;obtain ⟨A,c,e,hA⟩:=hO.head;exact ⟨t',zs,A,c,mz hp h,e,fun h=>(hA h).elim fun g hg=>⟨_,hg⟩⟩
  ·cases h
 | sub id lo hi=>
  simp only [nO] at h;split at h
  ·rename_i t xs sh ho
   obtain ⟨F,hr⟩:=zU (hs.ah id _ ho);obtain ⟨A,c,e,hA⟩:=(qp hr (hv.2 t xs sh ho)).head;exact ⟨t,_,A,c,h,e,hA⟩
  ·cases h
 | _=>simp [nO] at h
theorem Gu (hs:dc X.K w0 nt S β fp a w) {l:Lf C} {v:Value} (hv:db X.K w S.ah β fp (aH S.ah fp w) l v) {α:Type} {k':(t:Ty)→List (C t)→Option α} {q:α} (h:nO S X l k'=some q) :
  ∃ (t:Ty) (xs:List (C t)) (F:Nat→Prop),k' t xs=some q∧gT X.K w F (.row t xs) v:=by
 cases l with
 | row t xs=>exact ⟨t,xs,_,h,hv⟩
 | nil t=>
  have e:v = .slice none 0 0:=hv;subst e;exact ⟨t,[],fun _=>False,h,.row t [] none 0 default (fun _=>undef) (Nat.le_refl _) (fun h=>absurd rfl h) (fun h=>absurd rfl h) (fun j hj=>absurd hj (by simp))⟩
 | ref id p=>
  simp only [nO] at h;split at h
  ·rename_i t xs sh ho
   have fO:=hs.ah id _ ho
   cases p with
   | nil=>
    have e:v=β id:=hv.2;subst e
    cases sh with
    | false=>exact ⟨t,xs,_,h,Own.rep fO⟩
    | true=>
     obtain ⟨cells,h1,h2,h3⟩:=fO
     by_cases hx:xs=[]
     ·subst hx
      obtain ⟨A,c,e,_⟩:=fC h1;rw [e];exact ⟨t,[],fun _=>False,h,.row t [] A c default (fun _=>undef) (Nat.zero_le _) (fun h=>absurd rfl h) (fun h=>absurd rfl h) (fun j hj=>absurd hj (by simp))⟩
     ·obtain ⟨g,cap,e,hb,hn,hcell⟩:=j8 h1 (Nat.mul_pos (List.length_pos_iff.2 hx) (X.K.pos t))
      rw [e];refine ⟨t,xs,fun _=>True,h,.row t xs _ cap ⟨g,0,none⟩ (fun m=>cells.getD m undef) hn (fun _=>⟨rfl,trivial⟩) (fun _=>hcell) fun j hj i l hl=>?_⟩
      exact (h3 j xs[j] (by simp [hj]) i l hl).mono fun k hk=>trivial
   | cons s p=>
    obtain ⟨hsh,t',zs,hp⟩:=hv.2 t xs sh ho;subst hsh;obtain ⟨G,_,hO⟩:=qJ hp _ fO;exact ⟨t',zs,G,mz hp h,hO.rep⟩
  ·cases h
 | sub id lo hi=>
  simp only [nO] at h;split at h
  ·rename_i t xs sh ho
   obtain ⟨F,hr⟩:=zU (hs.ah id _ ho);exact ⟨t,_,F,h,qp hr (hv.2 t xs sh ho)⟩
  ·cases h
 | _=>simp [nO] at h
theorem ET {T e:TypeId} (hu:P.underlying T=some (.slice e)) (A:Option Addr) (n c:Nat):(Go.Op.equal T (.slice A n c) (.slice none 0 0)).run P w = .ok A.isNone w:=by
 have:∀ d,(Go.Op.equalIn (d+1) T (.slice A n c) (.slice none 0 0)).run P w = .ok A.isNone w:=fun d=>by
  cases A<;>simp [Go.Op.equalIn,bb hu]
 exact this 9999
theorem Qq {α:Type} {e b:Bool} {f:Bool→Option α} {q:α} (h:LM e (f true) (f false)=some q) (hb:b=true→e=true):f b=some q:=by
 unfold LM at h
 cases e with
 | false=>
  have:b=false:=by cases b with
   | false=>rfl
   | true=>cases hb rfl
  subst this;exact h
 | true=>
  simp only [cond_true,AJ] at h
  cases h1:f true with
  | none=>rw [h1] at h;cases h
  | some x=>
   cases h2:f false with
   | none=>rw [h1,h2] at h;cases h
   | some y=>
    rw [h1,h2] at h;simp only [Option.bind_some] at h;split at h
    ·rename_i e
     cases h
     cases b with
     | true=>exact h1
     | false=>rw [h2,e]
    ·cases h
theorem Vk (hX:je P X) (hs:dc X.K w0 nt S β fp a w) {T:TypeId} {op:BinOp} {x:SV C} {u:Value} {α:Type} {f:SV C→Option α} {q:α} {xo yo:Operand}
  (h:vq (X.tk T) X S op x f=some q) (hx:dD X.K w S.ah β fp (aH S.ah fp w) x u) :
  ∃ b,(do eqGuard op T xo yo u (.slice none 0 0);binOp op T u (.slice none 0 0):Sem Value).run P w = .ok (.bool b) w∧f (.one (.bool b))=some q:=by
 have run:∀ (A:Option Addr) (n c:Nat) (t:Ty),X.tk T=some (.one (.dR t))→u = .slice A n c→∀ eq:Bool,op=(if eq then .eql else .neq) →
   (do eqGuard op T xo yo u (.slice none 0 0);binOp op T u (.slice none 0 0):Sem Value).run P w = .ok (.bool (eq==A.isNone)) w:=by
  intro A n c t ht hu eq ho;subst hu;have hg:(eqGuard op T xo yo (.slice A n c) (.slice none 0 0)).run P w = .ok () w:=dg (by simp) (by simp);simp only [Sem.run_bind,hg,Result.andThen_ok];have:=ET (P:=P) (w:=w) (hX.tk _ _ ht).dR A n c;subst ho;cases eq<;>simp [binOp,this]<;>cases A<;>rfl
 have dR:∀ (eq:Bool) (l:Lf C) (t:Ty),X.tk T=some (.one (.dR t))→db X.K w S.ah β fp (aH S.ah fp w) l u→op=(if eq then .eql else .neq) →
   (nO S X l fun _ xs=>LM xs.isEmpty (f (.one (.bool (eq==true)))) (f (.one (.bool (eq==false)))))=some q →
   ∃ b,(do eqGuard op T xo yo u (.slice none 0 0);binOp op T u (.slice none 0 0):Sem Value).run P w = .ok (.bool b) w∧f (.one (.bool b))=some q:=by
  intro eq l t ht hl ho h;obtain ⟨t',xs,A,c,h,hv,hA⟩:=Bt hs hl h;refine ⟨eq==A.isNone,run A _ c t ht hv eq ho,?_⟩;refine Qq (f:=fun b=>f (.one (.bool (eq==b)))) h (fun hn=>?_)
  cases xs with
  | nil=>rfl
  | cons y ys=>
   obtain ⟨g,hg⟩:=hA (by simp);rw [hg] at hn;cases hn
 unfold vq at h;split at h
 ·rename_i t t' ht
  have hu:u = .slice none 0 0:=hx;split at h
  ·exact ⟨_,run none 0 0 _ ht hu true rfl,h⟩
  ·exact ⟨_,run none 0 0 _ ht hu false rfl,h⟩
  ·cases h
 ·rename_i t l hne ht
  split at h
  ·exact dR true l t ht hx rfl h
  ·exact dR false l t ht hx rfl h
  ·cases h
 ·cases h
theorem EN {K:Cd C} {F:Nat→Prop} {t:Ty} {xs:List (C t)} {v:Value} {src WI:TypeId} (hb:K.byte t=true) (h:gT K w F (.row t xs) v)
  (hu:P.underlying src=some (.slice (K.tid t))) (hue:P.underlying (K.tid t)=some (.int .u8)) (AZ:P.underlying WI=some .string) :
  (convert src WI v).run P w = .ok (.string (strOf K t xs)) w:=by
 have hsz:K.sz t=1:=by
  have z:=K.zero t;obtain ⟨n,hn⟩:=K.rh t hb z;rw [←K.gA t z,hn];rfl
 cases h with
 | row _ _ A c p U hc hA hcell m4=>
  rw [run_convert_bytes_string (e:=K.tid t) w src WI A _ c hu hue AZ]
  by_cases hx:xs=[]
  ·subst hx
   cases A with
   | none=>simp [Conv.bytesToString,strOf];rfl
   | some q=>
    have hl:(loadCells q ([]:List (C t)).length).run P w = .ok ((([]:List Int)).map (Value.int .u8)).toArray w:=by simp [loadCells,loadCellsFrom]
    rw [run_bytesToString w q _ c [] hl];rfl
  ·obtain ⟨e,_⟩:=hA hx
   subst e
   let nOf:List (Lf C)→Int:=fun ls=>match ls with
    | .int _ n::_=>n
    | _=>0
   have hU:∀ j,(hj:j<xs.length)→U j = .int .u8 (nOf (K.enc t xs[j])):=fun j hj=>by
    obtain ⟨n,hn⟩:=K.rh t hb xs[j];have:=m4 j hj 0 (.int .u8 n) (by rw [hn];rfl);rw [hsz] at this;simp only [Nat.mul_one,Nat.add_zero] at this;rw [hn];generalize U j=z at this;cases this;rfl
   have hl:(loadCells p xs.length).run P w = .ok ((xs.map fun x=>nOf (K.enc t x)).map (Value.int .u8)).toArray w:=by
    rw [run_loadCells w p xs.length U (fun j hj=>hcell hx j (by rw [hsz];omega))]
    congr 2
    apply List.ext_getElem
    ·simp
    ·intro j h1 h2
     have hj:j<xs.length:=by simpa using h1
     simp [hU j hj]
   rw [run_bytesToString w p _ c _ hl]
   congr 2
   have fold:∀ (ns:List Int) (acc:ByteArray),(ns.foldl (fun r n=>r.push (UInt8.ofNat n.toNat)) acc)=⟨acc.data++(ns.map fun n=>UInt8.ofNat n.toNat).toArray⟩:=by
    intro ns
    induction ns with
    | nil=>intro acc;simp
    | cons n ns ih=>
     intro acc;rw [List.foldl_cons,ih];simp [ByteArray.push]
   rw [fold];show _=strOf K t xs;unfold strOf
   congr 1
   simp only [List.map_map]
   have:(xs.map ((fun n=>UInt8.ofNat n.toNat) ∘ fun x=>nOf (K.enc t x)))=xs.map fun x=>byteOf (K.enc t x):=by
    apply List.map_congr_left;intro x _;obtain ⟨n,hn⟩:=K.rh t hb x;simp [hn,byteOf,nOf]
   rw [this];simp
theorem IA (hX:je P X) (hs:dc X.K w0 nt S β fp a w) (hd:slot dst nt) {t t':TypeId} {x:Operand} (h:ev X ⟨dst,.convert t t' x,ty,pos,dL,gd⟩ S k=some r):Goal P X w0 nt k r Q ⟨dst,.convert t t' x,ty,pos,dL,gd⟩ a w:=by
 simp only [ev] at h;split at h
 ·rename_i k1 k' k0 n h1 h2 hv
  have hv:=cG hs hv;simp only [dD,db] at hv;obtain ⟨ds,hds⟩:=(hX.tk _ _ h1).under;refine bl (v:=.int k' (k'.wrap n)) ?_ (bn hs hd (v:=.one (.int k' (k'.wrap n))) rfl h);simp only [execOp,hv,Sem.run_bind,C3 hds (hX.tk _ _ h2).int,Result.andThen_ok,Sem.run_pure]
 ·rename_i k1 s h1 h2 hv
  have hv:=cG hs hv;simp only [dD,db] at hv;obtain ⟨ds,hds⟩:=(hX.tk _ _ h1).under;refine bl (v:=.string s) ?_ (bn hs hd (v:=.one (.str s)) rfl h);simp only [execOp,hv,Sem.run_bind,C2 hds (hX.tk _ _ h2).str,Result.andThen_ok,Sem.run_pure]
 ·rename_i t1 l h1 h2 hv
  obtain ⟨t0,xs,F,h,m4⟩:=Gu hs (fu (cG hs hv)) h;obtain ⟨he,h⟩:=aw h;have he:=of_decide_eq_true he;subst he;obtain ⟨hb,h⟩:=aw h;split at h
  ·rename_i htk
   refine bl (v:=.string (strOf X.K t0 xs)) ?_ (bn hs hd (v:=.one (.str (strOf X.K t0 xs))) rfl h);have hu:=(hX.tk _ _ h1).dR;have hue:=(hX.tk _ _ htk).int;have AZ:=(hX.tk _ _ h2).str;simp only [execOp,Sem.run_bind];rw [EN hb m4 hu hue AZ];rfl
  ·cases h
 ·cases h
theorem PW (hX:je P X) (hs:dc X.K w0 nt S β fp a w) (hd:slot dst nt) {op:BinOp} {t t':TypeId} {x y:Operand} (h:ev X ⟨dst,.binOp op t x y t',ty,pos,dL,gd⟩ S k=some r):Goal P X w0 nt k r Q ⟨dst,.binOp op t x y t',ty,pos,dL,gd⟩ a w:=by
 simp only [ev] at h;split at h
 ·rename_i u t1 hu hv
  have hx:=dM hs hu;have hy:a.eval y = .slice none 0 0:=dM hs hv;obtain ⟨b,hb,hk⟩:=Vk (P:=P) hX hs h hx;refine bl (v:=.bool b) ?_ (bn hs hd (v:=.one (.bool b)) rfl hk);simp only [execOp];rw [hy,Sem.run_bind,hb];rfl
 ·rename_i u v _ hu hv
  cases hnk:Ae v with
  | true=>
   rw [hnk] at h;simp only [cond_true,oz] at h;split at h
   case h_2=>cases h
   rename_i x' y';split at h
   case h_3=>cases h
   ·rename_i b hb hc
    obtain ⟨q1,q2,q3,q4⟩:=Ha (P:=P) hX hs hb (dM hs hu) (dM hs hv) (xo:=x) (yo:=y) hc;refine bl (v:=.bool b) ?_ (bn hs hd (v:=.one (.bool b)) rfl h);simp only [execOp];rw [Sem.run_bind,Sem.run_bind,q1];simp only [Result.andThen_ok,q3];rfl
   ·rename_i b hb hc
    obtain ⟨q1,q2,q3,q4⟩:=Ha (P:=P) hX hs hb (dM hs hu) (dM hs hv) (xo:=x) (yo:=y) hc;refine bl (v:=.bool (!b)) ?_ (bn hs hd (v:=.one (.bool (!b))) rfl h);simp only [execOp];rw [Sem.run_bind,Sem.run_bind,q2];simp only [Result.andThen_ok,q4];rfl
  | false=>
  rw [hnk] at h;simp only [cond_false] at h;obtain ⟨z,q,hr,hz,hk⟩:=W8 (P:=P) (xo:=x) (yo:=y) (fun k hk=>hX.tk _ _ hk) (fun ks hk=>hX.Q0 _ _ hk) h (dM hs hu) (dM hs hv);refine bl (v:=q) ?_ (bn hs hd hz hk);simp only [execOp];rw [Sem.run_bind,hr];rfl
 ·cases h
theorem Bz (hX:je P X) (hs:dc X.K w0 nt S β fp a w) (hd:slot dst nt) {t:TypeId} {x y:Operand} (h:ev X ⟨dst,.indexAddr t x y,ty,pos,dL,gd⟩ S k=some r):Goal P X w0 nt k r Q ⟨dst,.indexAddr t x y,ty,pos,dL,gd⟩ a w:=by
 simp only [ev] at h;split at h
 ·rename_i t1 t0 xs ki n ht hx hy
  obtain ⟨e,hA⟩:=aw h;obtain ⟨h0,hB⟩:=aw hA;clear h hA;have e:=of_decide_eq_true e;have h0:=of_decide_eq_true h0;subst e;have h:=hB;clear hB
  cases he:xs[n.toNat]? with
  | none=>rw [he] at h;cases h
  | some e=>
   rw [he] at h;simp only [Option.bind_some] at h;have hn:=eD he;have hy:=cG hs hy;simp only [dD,db] at hy;obtain ⟨p,c,hv,hok⟩:=Wz (ah:=S.ah) (β:=β) (fp:=fp) (fu (cG hs hx)) he;refine bl (v:=.pointer (some (p.add (n.toNat*X.K.sz t0)))) ?_ (bn hs hd (v:=.one (.nH t0 e 0)) hok h);simp only [execOp,hv,hy,Sem.run_bind,vF (hX.tk _ _ ht).dR (hX.el t0).size h0 (show n<(xs.length:Int) by omega),Result.andThen_ok,Sem.run_pure]
 ·rename_i t1 id p ki n ht hx hy
  obtain ⟨h0,h⟩:=aw h;have h0:=of_decide_eq_true h0;have hy:=cG hs hy;simp only [dD,db] at hy;have hx:=fu (cG hs hx)
  have run:∀ (zs:Nat) (A:Option Addr) (c:Nat),a.eval x = .slice A zs c→n<(zs:Int)→∀ g,A=some g →
    (execOp a.eval ⟨dst,.indexAddr t x y,ty,pos,dL,gd⟩).run P w = .ok (.value (.pointer (some (g.add (n.toNat*X.K.sz t1))))) w:=by
   intro zs A c hv hn g hg;subst hg;simp only [execOp,hv,hy,Sem.run_bind,vF (hX.tk _ _ ht).dR (hX.el t1).size h0 hn,Result.andThen_ok,Sem.run_pure]
  simp only [nO] at h;split at h
  ·rename_i t xs sh ho
   have fO:=hs.ah id _ ho
   cases p with
   | nil=>
    obtain ⟨e,hC⟩:=aw (show cond (decide (t=t1)) (cond (decide (n<(xs.length:Int))) (k (S.put dst (.one (.ep id [] n.toNat 0)))) none) none=some r from h);obtain ⟨h1,hB⟩:=aw hC;clear h hC;have e:=of_decide_eq_true e;have h1:=of_decide_eq_true h1;subst e;have h:=hB;clear hB;obtain ⟨A,c,he,hA⟩:=zV fO;obtain ⟨g,rfl⟩:=hA (by omega);refine bl (run _ _ c (hx.2.trans he) h1 _ rfl) (bn hs hd (v:=.one (.ep id [] n.toNat 0)) ⟨⟨_,rfl⟩,fun t' xs' sh' ib=>?_⟩ h);rw [ho] at ib;cases ib;exact ⟨by omega,_,_,c,he,by simp⟩
   | cons s p=>
    obtain ⟨hsh,t',zs,hp⟩:=hx.2 t xs sh ho;subst hsh;obtain ⟨e,hC⟩:=aw (mz hp h);obtain ⟨h1,hB⟩:=aw hC;clear h hC;have e:=of_decide_eq_true e;have h1:=of_decide_eq_true h1;subst e;have h:=hB;clear hB;obtain ⟨G,_,hO⟩:=qJ hp _ fO;obtain ⟨A,c,he,hA⟩:=hO.head;obtain ⟨g,rfl⟩:=hA (by omega);refine bl (run _ _ c he h1 _ rfl) (bn hs hd (v:=.one (.ep id (s::p) n.toNat 0)) ⟨⟨_,rfl⟩,fun t0 xs' sh' ib=>?_⟩ h);rw [ho] at ib;cases ib;exact ⟨rfl,t',zs,_,hp,by omega,_,_,c,he,by simp⟩
  ·cases h
 ·rename_i t1 id lo hi ki n ht hx hy
  unfold Kr at h;split at h
  case h_2=>cases h
  rename_i t0 xs sh ho;obtain ⟨e,hA⟩:=aw h;obtain ⟨h0,hB⟩:=aw hA;obtain ⟨h1,hC⟩:=aw hB;clear h hA hB;have e:=of_decide_eq_true e;have h0:=of_decide_eq_true h0;have h1:=of_decide_eq_true h1;subst e;have h:=hC;clear hC;have hy:=cG hs hy;simp only [dD,db] at hy;have hx:db X.K w S.ah β fp (aH S.ah fp w) (.sub id lo hi) (a.eval x):=fu (cG hs hx);obtain ⟨q1,q2,A,c,B,q3,q4,q5,q6⟩:=hx.2 t0 xs sh ho;obtain ⟨A',c',e',hA'⟩:=zV (hs.ah id _ ho);rw [q3] at e';cases e';obtain ⟨g,rfl⟩:=hA' (by omega);rw [q6 (by omega)] at q5;refine bl (v:=.pointer (some ((Addr.add ⟨g,0,none⟩ (lo*X.K.sz t0)).add (n.toNat*X.K.sz t0)))) ?_ (bn hs hd (v:=.one (.ep id [] (lo+n.toNat) 0)) ⟨⟨_,rfl⟩,fun t' xs' sh' ib=>?_⟩ h)
  ·simp only [execOp,q5,Option.map_some,hy,Sem.run_bind,vF (hX.tk _ _ ht).dR (hX.el t0).size h0 h1,Result.andThen_ok,Sem.run_pure]
  ·rw [ho] at ib
   cases ib;refine ⟨by omega,_,_,c,q3,?_⟩;rw [add_add,Nat.add_zero,Nat.add_mul]
 ·cases h
theorem Hp {ls:List (Lf C)} {sz:Nat} {ag:Bool} {i:Int} {f:SV C→Option R} {r:R}:∀ (n j:Nat),xh ls sz ag i f n j=some r →
  ∃ m v,j≤m∧m<j+n∧i=(m:Int)∧f v=some r∧(match ag with | true=>v = .agg ((ls.drop (m*sz)).take sz) | false=>∃ l,ls[m*sz]?=some l∧v = .one l)
 | 0,j,h=>by simp [xh] at h
 | n+1,j,h=>by
  simp only [xh] at h
  cases hb:decide (i=(j:Int)) with
  | true=>
   rw [hb] at h;simp only [cond_true] at h;refine ⟨j,?_⟩
   cases ag with
   | true=>exact ⟨_,Nat.le_refl _,by omega,of_decide_eq_true hb,h,rfl⟩
   | false=>
    simp only at h;split at h
    ·rename_i l hl
     exact ⟨_,Nat.le_refl _,by omega,of_decide_eq_true hb,h,l,hl,rfl⟩
    ·cases h
  | false=>
   rw [hb] at h;obtain ⟨m,v,h1,h2,h3⟩:=Hp n (j+1) h;exact ⟨m,v,by omega,by omega,h3⟩
theorem PO (hX:je P X) (hs:dc X.K w0 nt S β fp a w) (hd:slot dst nt) {t:TypeId} {x y:Operand} (h:ev X ⟨dst,.index t x y,ty,pos,dL,gd⟩ S k=some r):Goal P X w0 nt k r Q ⟨dst,.index t x y,ty,pos,dL,gd⟩ a w:=by
 simp only [ev] at h;split at h
 ·rename_i s ki n ht hx hy
  obtain ⟨h0,h⟩:=aw h;obtain ⟨h1,h⟩:=aw h;have h0:=of_decide_eq_true h0;have h1:=of_decide_eq_true h1;have hx:=cG hs hx;have hy:=cG hs hy;simp only [dD,db] at hx hy
  have hb:n.toNat<s.size:=by omega
  have hg:s[n.toNat]?=some (s[n.toNat]'hb):=by simp [hb]
  refine bl (v:=.int .u8 (s5 s n)) ?_ (bn hs hd (v:=.one (.int .u8 (s5 s n))) rfl h);simp only [execOp,hx,hy,Instr.index,asIntOf,Sem.run_bind,Sem.run_pure,Result.andThen_ok,bb (hX.tk _ _ ht).str,if_pos h0,hg,s5]
 ·rename_i m sz ag zs ls ki n ht hx hy
  obtain ⟨q,v,_,hq,hn,hv,hag⟩:=Hp m 0 h;obtain ⟨vs,hvs,hlen,hok⟩:=cG hs hx;have hy:=cG hs hy;simp only [dD,db] at hy;obtain ⟨_,hz,hp,e,ie,hu,he,hsz,d,Wp,hd2⟩:=hX.tk _ _ ht;subst hn
  have h0:(0:Int)≤(q:Int)∧(q:Int)<(m:Int):=by omega
  have hsize:(sizeOf e).run P w = .ok sz w:=by simp [sizeOf,typeInfo,he,hsz]
  cases ag with
  | true=>
   have Mz:(isAgg e).run P w = .ok true w:=by
    simp only [isAgg,Sem.run_bind,bb Wp,Result.andThen_ok];cases d<;>simp at hd2<;>rfl
   simp only at hag;subst hag;refine bl (v:=.agg ((vs.drop (q*sz)).take sz).toArray) ?_ (bn hs hd (v:=.agg ((ls.drop (q*sz)).take sz)) ⟨_,rfl,by simp [hlen],fun i l hi=>?_⟩ hv)
   ·simp [execOp,hvs,hy,Instr.index,asIntOf,bb hu,h0,part,Mz,hsize]
    intro hqq;omega
   ·rw [List.getElem?_take] at hi
    split at hi
    ·rename_i hlt
     rw [List.getElem?_drop] at hi;have:=hok (q*sz+i) l hi
     have e:((vs.drop (q*sz)).take sz).getD i undef=vs.getD (q*sz+i) undef:=by simp [List.getD,List.getElem?_take,hlt]
     rw [e];exact this
    ·cases hi
  | false=>
   have Mz:(isAgg e).run P w = .ok false w:=by
    simp only [isAgg,Sem.run_bind,bb Wp,Result.andThen_ok];cases d<;>simp at hd2<;>rfl
   obtain ⟨l,hl,rfl⟩:=hag
   have hlt:q*sz<vs.length:=by rw [hlen];exact eD hl
   refine bl (v:=vs.getD (q*sz) undef) ?_ (bn hs hd (v:=.one l) (hok (q*sz) l hl) hv);simp [execOp,hvs,hy,Instr.index,asIntOf,bb hu,h0,part,Mz,hsize,List.getD,hlt];intro hqq;omega
 ·cases h
theorem NB (hs:dc X.K w0 nt S β fp a w) {n:Nat} {x:Option Operand} {m:Int} (h:xm S n x=some m):(x=none∧m=n)∨∃ y ki,x=some y∧a.eval y = .int ki m:=by
 cases x with
 | none=>simp [xm] at h;exact .inl ⟨rfl,h.symm⟩
 | some y=>
  simp only [xm] at h;split at h
  ·rename_i ki q hq
   cases h;exact .inr ⟨y,ki,rfl,cG hs hq⟩
  ·cases h
theorem mH (hs:dc X.K w0 nt S β fp a w) {XG:Bool} {len cap:Nat} {lo hi:Option Operand} {l h:Int} (hl:xm S 0 lo=some l) (hh:xm S len hi=some h) (h0:0≤l) (h1:l≤h) (h2:h≤(len:Int)) (hc:len≤cap) :
  (Instr.sliceBounds XG len cap (lo.map a.eval) (hi.map a.eval) none).run P w = .ok (l.toNat,h.toNat,cap) w:=by
 unfold Instr.sliceBounds
 rcases NB hs hl with ⟨rfl,rfl⟩ | ⟨y,ki,rfl,hy⟩<;>rcases NB hs hh with ⟨rfl,rfl⟩ | ⟨z,kj,rfl,hz⟩
 ·simp
 ·simp [hz,Instr.sliceBound,asIntOf,show 0≤h by omega,show h≤(cap:Int) by omega]
 ·simp [hy,Instr.sliceBound,asIntOf,h0,h1]
 ·have h3:l≤((h.toNat:Nat):Int):=by omega
  simp only [Option.map_some,hy,hz,Instr.sliceBound,asIntOf,Sem.run_bind,Sem.run_pure,Result.andThen_ok,if_pos (show 0≤h∧h≤(cap:Int) by omega),if_pos (show 0≤l∧l≤((h.toNat:Nat):Int) from ⟨h0,h3⟩)]
theorem PN (hX:je P X) (hs:dc X.K w0 nt S β fp a w) (hd:slot dst nt) {t:TypeId} {x:Operand} {lo hi mx:Option Operand} (h:ev X ⟨dst,.slice t x lo hi mx,ty,pos,dL,gd⟩ S k=some r)
  (hO:∀ t1 id,mx=none→X.tk t=some (.one (.dR t1))→eG S x=some (.one (.ref id []))→zK X S ⟨dst,.slice t x lo hi mx,ty,pos,dL,gd⟩ t1 id lo hi k=some r→Goal P X w0 nt k r Q ⟨dst,.slice t x lo hi mx,ty,pos,dL,gd⟩ a w):Goal P X w0 nt k r Q ⟨dst,.slice t x lo hi mx,ty,pos,dL,gd⟩ a w:=by
 simp only [ev] at h;split at h
 ·rename_i s ht hx
  split at h
  ·rename_i l q hl hq
   obtain ⟨h0,h⟩:=aw h;obtain ⟨h1,h⟩:=aw h;obtain ⟨h2,h⟩:=aw h;have h0:=of_decide_eq_true h0;have h1:=of_decide_eq_true h1;have h2:=of_decide_eq_true h2;have hx:=cG hs hx;simp only [dD,db] at hx;have hb:=mH (P:=P) hs (XG:=false) hl hq h0 h1 h2 (Nat.le_refl _);refine bl (v:=.string (s.extract l.toNat q.toNat)) ?_ (bn hs hd (v:=.one (.str (s.extract l.toNat q.toNat))) rfl h);simp only [execOp,Instr.sliceAt,Sem.run_bind,bb (hX.tk _ _ ht).str,Result.andThen_ok];simp [Instr.slice,bb (hX.tk _ _ ht).str,hx,hb]
  ·cases h
 ·rename_i t1 t0 xs ht hx
  split at h
  ·rename_i l q hl hq
   obtain ⟨e,hC⟩:=aw h;obtain ⟨h0,hD⟩:=aw hC;obtain ⟨h1,hE⟩:=aw hD;obtain ⟨h2,hB⟩:=aw hE;clear h hC hD hE;have e:=of_decide_eq_true e;have h0:=of_decide_eq_true h0;have h1:=of_decide_eq_true h1;have h2:=of_decide_eq_true h2;subst e;have h:=hB;clear hB;have hx:=fu (cG hs hx);generalize hv:a.eval x=v at hx
   cases hx with
   | row _ _ A c p U hc hA hcell m4=>
    have hb:=mH (P:=P) hs (XG:=true) hl hq h0 h1 h2 hc
    have hlen:((xs.take q.toNat).drop l.toNat).length=q.toNat-l.toNat:=by simp;omega
    have hrun:(execOp a.eval ⟨dst,.slice t x lo hi none,ty,pos,dL,gd⟩).run P w = .ok (.value (.slice (if c=l.toNat then A else A.map (·.add (l.toNat*X.K.sz t0))) (q.toNat-l.toNat) (c-l.toNat))) w:=by
     simp only [execOp,Instr.sliceAt,Sem.run_bind,bb (hX.tk _ _ ht).dR,Result.andThen_ok];simp [Instr.slice,bb (hX.tk _ _ ht).dR,hv,hb,(hX.el t0).size]
    refine bl hrun (bn hs hd (v:=.one (.row t0 ((xs.take q.toNat).drop l.toNat))) ?_ h);show gT X.K w (aH S.ah fp w) (.row t0 ((xs.take q.toNat).drop l.toNat)) (.slice (if c=l.toNat then A else A.map (·.add (l.toNat*X.K.sz t0))) (q.toNat-l.toNat) (c-l.toNat));rw [←hlen];refine .row t0 _ _ _ (p.add (l.toNat*X.K.sz t0)) (fun m=>U (l.toNat*X.K.sz t0+m)) (by rw [hlen];omega) (fun hne=>?_) (fun hne m hm=>?_) (fun j hj i lf hlf=>?_)
    ·have h5:0<((xs.take q.toNat).drop l.toNat).length:=List.length_pos_iff.2 hne
     have hne':xs≠[]:=by intro e;subst e;simp at h5
     obtain ⟨rfl,hb⟩:=hA hne';rw [if_neg (by omega)];exact ⟨rfl,by rw [mL];exact hb⟩
    ·have h5:0<((xs.take q.toNat).drop l.toNat).length:=List.length_pos_iff.2 hne
     have hne':xs≠[]:=by intro e;subst e;simp at h5
     rw [add_add];refine hcell hne' _ ?_;rw [hlen] at hm;have:(l.toNat+(q.toNat-l.toNat))*X.K.sz t0≤xs.length*X.K.sz t0:=Nat.mul_le_mul_right _ (by omega);rw [Nat.add_mul] at this;omega
    ·rw [hlen] at hj
     have gW:l.toNat+j<xs.length:=by omega
     have:=m4 (l.toNat+j) gW i lf (by
      have e:((xs.take q.toNat).drop l.toNat)[j]'(by rw [hlen];exact hj)=xs[l.toNat+j]:=by simp
      rw [←e];exact hlf)
     rw [Nat.add_mul,Nat.add_assoc] at this;exact this
  ·cases h
 ·rename_i t1 id ht hx
  cases XH:Fk X ⟨dst,.slice t x lo hi none,ty,pos,dL,gd⟩ with
  | false=>rw [XH,cond_false] at h;exact hO t1 id rfl ht hx h
  | true=>
   rw [XH,cond_true] at h;unfold Kq at h;split at h
   case h_2=>cases h
   rename_i t0 xs sh ho;split at h
   case h_2=>cases h
   rename_i l q hl hq;obtain ⟨e,hC⟩:=aw h;obtain ⟨h0,hD⟩:=aw hC;obtain ⟨h1,hE⟩:=aw hD;obtain ⟨h2,hB⟩:=aw hE;clear h hC hD hE;have e:=of_decide_eq_true e;have h0:=of_decide_eq_true h0;have h1:=of_decide_eq_true h1;have h2:=of_decide_eq_true h2;subst e;have h:=hB;clear hB;have hx:db X.K w S.ah β fp (aH S.ah fp w) (.ref id []) (a.eval x):=fu (cG hs hx);have qh:a.eval x=β id:=hx.2;obtain ⟨F,hr⟩:=zU (hs.ah id _ ho)
   obtain ⟨A,c,Jh,hcl⟩:∃ A c,β id = .slice A xs.length c∧xs.length≤c:=by
    generalize β id=v at hr
    cases hr with
    | row _ _ A c p U hc=>exact ⟨A,c,rfl,hc⟩
   have hb:=mH (P:=P) hs (XG:=true) hl hq h0 h1 h2 hcl
   have hrun:(execOp a.eval ⟨dst,.slice t x lo hi none,ty,pos,dL,gd⟩).run P w = .ok (.value (.slice (if c=l.toNat then A else A.map (·.add (l.toNat*X.K.sz t0))) (q.toNat-l.toNat) (c-l.toNat))) w:=by
    simp only [execOp,Instr.sliceAt,Sem.run_bind,bb (hX.tk _ _ ht).dR,Result.andThen_ok];simp [Instr.slice,bb (hX.tk _ _ ht).dR,qh,Jh,hb,(hX.el t0).size]
   refine bl hrun (bn hs hd (v:=.one (.sub id l.toNat q.toNat)) ⟨⟨_,_,_,rfl⟩,fun t' xs' sh' ib=>?_⟩ h);rw [ho] at ib;cases ib;exact ⟨by omega,by omega,A,c,_,Jh,hcl,rfl,fun hlt=>if_neg (by omega)⟩
 ·rename_i t1 id wZ hi0 ht hx
  unfold Ko at h;split at h
  case h_2=>cases h
  rename_i t0 xs sh ho;split at h
  case h_2=>cases h
  rename_i l q hl hq;obtain ⟨e,hC⟩:=aw h;obtain ⟨h0,hD⟩:=aw hC;obtain ⟨h1,hE⟩:=aw hD;obtain ⟨h2,hB⟩:=aw hE;clear h hC hD hE;have e:=of_decide_eq_true e;have h0:=of_decide_eq_true h0;have h1:=of_decide_eq_true h1;have h2:=of_decide_eq_true h2;subst e;have h:=hB;clear hB;have hx:db X.K w S.ah β fp (aH S.ah fp w) (.sub id wZ hi0) (a.eval x):=fu (cG hs hx);obtain ⟨g1,g2,A,c,B,Jh,hcl,qh,hBe⟩:=hx.2 t0 xs sh ho;have hb:=mH (P:=P) (len:=hi0-wZ) (cap:=c-wZ) hs (XG:=true) hl hq h0 h1 h2 (by omega)
  have hrun:(execOp a.eval ⟨dst,.slice t x lo hi none,ty,pos,dL,gd⟩).run P w = .ok (.value (.slice (if c-wZ=l.toNat then B else B.map (·.add (l.toNat*X.K.sz t0))) (q.toNat-l.toNat) (c-wZ-l.toNat))) w:=by
   simp only [execOp,Instr.sliceAt,Sem.run_bind,bb (hX.tk _ _ ht).dR,Result.andThen_ok];simp [Instr.slice,bb (hX.tk _ _ ht).dR,qh,hb,(hX.el t0).size]
  refine bl hrun (bn hs hd (v:=.one (.sub id (wZ+l.toNat) (wZ+q.toNat))) ⟨⟨_,_,_,rfl⟩,fun t' xs' sh' ib=>?_⟩ h);rw [ho] at ib;cases ib;refine ⟨by omega,by omega,A,c,(if c-wZ=l.toNat then B else B.map (·.add (l.toNat*X.K.sz t0))),Jh,hcl,?_,fun hlt=>?_⟩
  ·have e1:wZ+q.toNat-(wZ+l.toNat)=q.toNat-l.toNat:=by omega
   have e2:c-(wZ+l.toNat)=c-wZ-l.toNat:=by omega
   rw [e1,e2]
  ·rw [if_neg (by omega),hBe (by omega),Option.map_map]
   congr 1
   funext p
   simp only [Function.comp];rw [add_add,Nat.add_mul]
 ·cases h
theorem ZN (hX:je P X) (hs:dc X.K w0 nt S β fp a w) (hd:slot dst nt) {as:Array Operand} {ts:Array TypeId} (h:ev X ⟨dst,.call { callee:=.builtin .len,args:=as,argTypes:=ts },ty,pos,dL,gd⟩ S k=some r):Goal P X w0 nt k r Q ⟨dst,.call { callee:=.builtin .len,args:=as,argTypes:=ts },ty,pos,dL,gd⟩ a w:=by
 obtain ⟨al⟩:=as;obtain ⟨tl⟩:=ts;simp only [ev] at h;split at h
 ·rename_i x t
  split at h
  ·rename_i s ht hx
   have hx:=cG hs hx;simp only [dD,db] at hx;refine bl (v:=.int .i64 s.size) ?_ (bn hs hd (v:=.one (.int .i64 s.size)) rfl h);simp [execOp,resolve,invoke,builtin,Builtin.len_,bb (hX.tk _ _ ht).str,hx,goInt]
  ·rename_i t1 l ht hx
   obtain ⟨t',xs,A,c,hk,hv,_⟩:=Bt hs (fu (cG hs hx)) h;refine bl (v:=.int .i64 xs.length) ?_ (bn hs hd (v:=.one (.int .i64 xs.length)) rfl hk);simp [execOp,resolve,invoke,builtin,Builtin.len_,bb (hX.tk _ _ ht).dR,hv,goInt]
  ·cases h
 ·cases h
theorem ZK (hs:dc X.K w0 nt S β fp a w) (hd:slot dst nt) {as:Array Operand} {ts:Array TypeId} (h:ev X ⟨dst,.call { callee:=.builtin .min,args:=as,argTypes:=ts },ty,pos,dL,gd⟩ S k=some r):Goal P X w0 nt k r Q ⟨dst,.call { callee:=.builtin .min,args:=as,argTypes:=ts },ty,pos,dL,gd⟩ a w:=by
 obtain ⟨al⟩:=as;simp only [ev] at h;split at h
 ·rename_i x y
  split at h
  ·rename_i kx m ky n hx hy
   have hx:=cG hs hx;have hy:=cG hs hy;simp only [dD,db] at hx hy;refine bl (v:=.int kx (cond (decide (n<m)) n m)) ?_ (bn hs hd (v:=.one (.int kx (cond (decide (n<m)) n m))) rfl h);simp [execOp,resolve,invoke,builtin,Builtin.min_,Builtin.min2,hx,hy,Bool.cond_decide]
  ·cases h
 ·cases h
theorem ZM (hs:dc X.K w0 nt S β fp a w) (hd:slot dst nt) {as:Array Operand} {ts:Array TypeId} (h:ev X ⟨dst,.call { callee:=.builtin .max,args:=as,argTypes:=ts },ty,pos,dL,gd⟩ S k=some r):Goal P X w0 nt k r Q ⟨dst,.call { callee:=.builtin .max,args:=as,argTypes:=ts },ty,pos,dL,gd⟩ a w:=by
 obtain ⟨al⟩:=as;simp only [ev] at h;split at h
 ·rename_i x y
  split at h
  ·rename_i kx m ky n hx hy
   have hx:=cG hs hx;have hy:=cG hs hy;simp only [dD,db] at hx hy;refine bl (v:=.int kx (cond (decide (n>m)) n m)) ?_ (bn hs hd (v:=.one (.int kx (cond (decide (n>m)) n m))) rfl h);simp [execOp,resolve,invoke,builtin,Builtin.max_,Builtin.max2,hx,hy,Bool.cond_decide]
  ·cases h
 ·cases h
end
section
variable {Ty:Type} {C:Ty→Type}
variable {K:Cd C} {w0 w:World} {nt:Nat} {S:St C} {β:Nat→Value} {fp:Nat→Nat→Prop} {a:Act}
theorem kZ {E:List (Nat×SV C)} {t:Nat} {v:SV C} (h:lk E t=some v) {id:Nat} (hi:id∈fG v):id∈gg E:=by
 induction E with
 | nil=>simp [lk] at h
 | cons x r ih=>
  obtain ⟨m,u⟩:=x;rw [aN] at h;simp only [gg,List.mem_append];split at h
  ·cases h;exact .inl hi
  ·exact .inr (ih h)
theorem kY {O:cW C} {n:Nat} {ob:Ob C} (h:lk O n=some ob):n∈eB O∧∀ kd ls,ob = .box kd ls→∀ id,id∈ey ls→id∈eB O:=by
 induction O with
 | nil=>simp [lk] at h
 | cons x r ih=>
  obtain ⟨m,u⟩:=x;rw [aN] at h;split at h
  ·rename_i e
   subst e;cases h
   cases ob with
   | box kd ls=>exact ⟨by simp [eB],fun SR ls' e id hi=>by cases e;simp [eB,hi]⟩
   | row t xs sh=>exact ⟨by simp [eB],fun _ ls' e=>by cases e⟩
   | map mk kt vt xs c=>exact ⟨by simp [eB],fun _ ls' e=>by cases e⟩
   | ghost=>exact ⟨by simp [eB],fun _ ls' e=>by cases e⟩
  ·obtain ⟨h1,h2⟩:=ih h
   cases u with
   | box kd ls=>exact ⟨by simp [eB,h1],fun SR ls' e id hi=>by simp [eB,h2 SR ls' e id hi]⟩
   | row t xs sh=>exact ⟨by simp [eB,h1],fun SR ls' e id hi=>by simp [eB,h2 SR ls' e id hi]⟩
   | map mk kt vt xs c=>exact ⟨by simp [eB,h1],fun SR ls' e id hi=>by simp [eB,h2 SR ls' e id hi]⟩
   | ghost=>exact ⟨by simp [eB,h1],fun SR ls' e id hi=>by simp [eB,h2 SR ls' e id hi]⟩
def upd {α:Type} (f:Nat→α) (i:Nat) (x:α):Nat→α:=fun j=>if j=i then x else f j
theorem cZ {α:Type} (f:Nat→α) (i:Nat) (x:α):upd f i x i=x:=by simp [upd]
theorem dE {α:Type} (f:Nat→α) {i j:Nat} (x:α) (h:j≠i):upd f i x j=f j:=by simp [upd,h]
def fJ (S:St C) (id:Nat):Prop:=id∉gg S.env∧id∉eB S.ah
theorem jv {id:Nat} {ob:Ob C} {S':St C} (h:S.add id ob=some S'):fJ S id∧S'=S.setObj id ob:=by
 unfold St.add at h;obtain ⟨h1,h2⟩:=eS h;cases h2;refine ⟨?_,rfl⟩;constructor
 ·intro hm
  have:(gg S.env++eB S.ah).any (Nat.beq id)=true:=List.any_eq_true.2 ⟨id,List.mem_append_left _ hm,Nat.beq_refl id⟩;rw [this] at h1;cases h1
 ·intro hm
  have:(gg S.env++eB S.ah).any (Nat.beq id)=true:=List.any_eq_true.2 ⟨id,List.mem_append_right _ hm,Nat.beq_refl id⟩;rw [this] at h1;cases h1
theorem sw (h:dc K w0 nt S β fp a w) {w':World} (hw:Below w.heap.size w w') {id:Nat} {ob:Ob C} {hv:Value} {F:Nat→Prop} {gM:Nat} (hne:gM≠id) :
  iQ w w' S.ah ((id,ob)::S.ah) β (upd β id hv) fp (upd fp id F) gM:=by
 refine ⟨dE _ _ hne,fun t xs sh ho=>?_⟩;rw [aN,if_neg hne] at ho;exact ⟨ho,fun k hk=>⟨by rw [dE _ _ hne];exact hk,hw.block k (h.fresh gM _ k ho hk).2⟩⟩
theorem Gs (h:dc K w0 nt S β fp a w) {w':World} (hw:Below w.heap.size w w') {id:Nat} {ob:Ob C} {F:Nat→Prop} (hF:∀ k,F k→w.heap.size≤k) {k:Nat} (hk:aH S.ah fp w k) :
  aH ((id,ob)::S.ah) (upd fp id F) w' k∧w'.heap[k]?=w.heap[k]?:=by
 refine ⟨⟨Nat.lt_of_lt_of_le hk.1 hw.size,fun j dY ho=>?_⟩,hw.block k hk.1⟩;rw [aN] at ho
 by_cases e:j=id
 ·subst e
  rw [cZ];intro hf;have:=hF k hf;have:=hk.1;omega
 ·rw [if_neg e] at ho
  rw [dE _ _ e];exact hk.2 j dY ho
theorem dc.wm (h:dc K w0 nt S β fp a w) {w':World} (hw:Below w.heap.size w w') {id:Nat} (iP:fJ S id) {ob:Ob C} {hv:Value} {F:Nat→Prop}
  (hF:∀ k,F k→w.heap.size≤k∧k<w'.heap.size)
  (fO:kO K w' w0.heap.size ((id,ob)::S.ah) (upd β id hv) (upd fp id F) (aH ((id,ob)::S.ah) (upd fp id F) w') F ob hv) :
  dc K w0 nt (S.setObj id ob) (upd β id hv) (upd fp id F) a w':=by
 have hsz:w0.heap.size≤w.heap.size:=h.below.size
 have hst:=fun k hk=>Gs h hw (id:=id) (ob:=ob) (F:=F) (fun k hk=>(hF k hk).1) (k:=k) hk
 refine ⟨h.below.trans (hw.mono hsz),h.defers,h.size,fun j dY k ho hk=>?_,fun i j oi oj k hi hj kR jY=>?_,fun j dY ho=>?_,fun t v ht=>?_⟩
 ·simp only [St.setObj,aN] at ho
  by_cases e:j=id
  ·subst e
   rw [cZ] at hk;have:=hF k hk;omega
  ·rw [if_neg e] at ho
   rw [dE _ _ e] at hk;have:=h.fresh j dY k ho hk;have:=hw.size;omega
 ·simp only [St.setObj,aN] at hi hj
  by_cases ei:i=id<;>by_cases ej:j=id
  ·rw [ei,ej]
  ·subst ei
   rw [if_neg ej] at hj;rw [cZ] at kR;rw [dE _ _ ej] at jY;have:=hF k kR;have:=h.fresh j oj k hj jY;omega
  ·subst ej
   rw [if_neg ei] at hi;rw [cZ] at jY;rw [dE _ _ ei] at kR;have:=hF k jY;have:=h.fresh i oi k hi kR;omega
  ·rw [if_neg ei] at hi
   rw [if_neg ej] at hj;rw [dE _ _ ei] at kR;rw [dE _ _ ej] at jY;exact h.eM i j oi oj k hi hj kR jY
 ·simp only [St.setObj,aN] at ho
  by_cases e:j=id
  ·subst e
   rw [if_pos rfl] at ho;cases ho;rw [cZ,cZ];exact fO
  ·rw [if_neg e] at ho
   rw [dE _ _ e,dE _ _ e]
   exact (h.ah j dY ho).tr hst (fun k hk=>hw.block k (h.fresh j dY k ho hk).2) fun kd ls els i hi=>sw h hw fun ei=>iP.2 (by subst ei;exact (kY ho).2 kd ls els i hi)
 ·exact (h.env t v ht).tr hst fun i hi=>sw h hw fun ei=>iP.1 (by subst ei;exact kZ ht hi)
theorem Hj (h:dc K w0 nt S β fp a w) {w':World} (hw:Below w.heap.size w w') {id:Nat} {ob:Ob C} {hv:Value} {F:Nat→Prop} (hF:∀ k,F k→w.heap.size≤k) {ls:List (Lf C)} {vs:List Value}
  (hl:cT K w S.ah β fp (aH S.ah fp w) ls vs) (hne:id∉ey ls):cT K w' ((id,ob)::S.ah) (upd β id hv) (upd fp id F) (aH ((id,ob)::S.ah) (upd fp id F) w') ls vs:=
 hl.tr (fun k hk=>Gs h hw hF hk) fun i hi=>sw h hw fun e=>hne (by subst e;exact hi)
theorem dc.sub (h:dc K w0 nt S β fp a w) {O:cW C} (hO:∀ id ob,lk O id=some ob→lk S.ah id=some ob):dc K w0 nt { S with ah:=O } β fp a w:=by
 have hst:∀ k,aH S.ah fp w k→aH O fp w k∧w.heap[k]?=w.heap[k]?:=fun k hk=>⟨⟨hk.1,fun j ob ho=>hk.2 j ob (hO j ob ho)⟩,rfl⟩
 have hk:∀ id,iQ w w S.ah O β β fp fp id:=fun id=>⟨rfl,fun t xs sh ho=>⟨hO _ _ ho,fun k hk=>⟨hk,rfl⟩⟩⟩
 exact ⟨h.below,h.defers,h.size,fun id ob k ho=>h.fresh id ob k (hO _ _ ho),fun i j oi oj k hi hj=>h.eM i j oi oj k (hO _ _ hi) (hO _ _ hj),
  fun id ob ho=>(h.ah id ob (hO _ _ ho)).tr hst (fun _ _=>rfl) fun _ _ _ i _=>hk i,fun t v ht=>(h.env t v ht).tr hst fun i _=>hk i⟩
theorem dc.del (h:dc K w0 nt S β fp a w) (id:Nat):dc K w0 nt (S.kr id) β fp a w:=
 h.sub fun i ob ho=>by
  rw [lg] at ho;split at ho
  ·cases ho
  ·exact ho
theorem dc.turn (h:dc K w0 nt S β fp a w) {w':World} {id:Nat} {xe zW:Ob C} (ho:lk S.ah id=some xe) (hnr:∀ t xs sh,zW ≠ .row t xs sh)
  (hw:Below w0.heap.size w w') (hb:∀ k,¬ fp id k→w'.heap[k]?=w.heap[k]?)
  (fO:kO K w' w0.heap.size ((id,zW)::S.ah) β fp (aH ((id,zW)::S.ah) fp w') (fp id) zW (β id)) :
  dc K w0 nt (S.setObj id zW) β fp a w':=by
 have hlk:∀ j ob,lk ((id,zW)::S.ah) j=some ob→j≠id→lk S.ah j=some ob:=fun j ob hj hne=>by rw [aN,if_neg hne] at hj;exact hj
 have hst:∀ k,aH S.ah fp w k→aH ((id,zW)::S.ah) fp w' k∧w'.heap[k]?=w.heap[k]?:=fun k hk=>by
  refine ⟨⟨Nat.lt_of_lt_of_le hk.1 hw.size,fun j ob hj=>?_⟩,hb k (hk.2 id _ ho)⟩
  by_cases e:j=id
  ·subst e;exact hk.2 j _ ho
  ·exact hk.2 j ob (hlk j ob hj e)
 have hkp:∀ j,iQ w w' S.ah ((id,zW)::S.ah) β β fp fp j:=fun j=>by
  refine ⟨rfl,fun t xs sh hj=>?_⟩
  by_cases e:j=id
  ·subst e;rw [aN,if_pos rfl] at hj;cases hj;exact absurd rfl (hnr t xs sh)
  ·have gW:=hlk j _ hj e
   exact ⟨gW,fun k hk=>⟨hk,hb k fun hk'=>e (h.eM j id _ _ k gW ho hk hk')⟩⟩
 refine ⟨h.below.trans hw,h.defers,h.size,fun j ob k hj hk=>?_,fun i j oi oj k hi hj kR jY=>?_,fun j ob hj=>?_,fun t v ht=>(h.env t v ht).tr hst fun i _=>hkp i⟩
 ·by_cases e:j=id
  ·subst e;have:=h.fresh j _ k ho hk;have:=hw.size;omega
  ·have:=h.fresh j ob k (hlk j ob hj e) hk;have:=hw.size;omega
 ·by_cases ei:i=id<;>by_cases ej:j=id
  ·rw [ei,ej]
  ·subst ei;exact h.eM i j _ oj k ho (hlk j oj hj ej) kR jY
  ·subst ej;exact h.eM i j oi _ k (hlk i oi hi ei) ho kR jY
  ·exact h.eM i j oi oj k (hlk i oi hi ei) (hlk j oj hj ej) kR jY
 ·by_cases e:j=id
  ·subst e
   have:ob=zW:=by simp only [St.setObj,aN,if_pos] at hj;exact (Option.some.inj hj).symm
   subst this;exact fO
  ·have gW:=hlk j ob hj e
   exact (h.ah j ob gW).tr hst (fun k hk'=>hb k fun Wn=>e (h.eM j id _ _ k gW ho hk' Wn)) fun _ _ _ i _=>hkp i
theorem dc.PI (h:dc K w0 nt S β fp a w) {w':World} {id:Nat} {ls ls':List (Lf C)} (ho:lk S.ah id=some (.box .mem ls))
  (hw:Below w0.heap.size w w') (hb:∀ k,¬ fp id k→w'.heap[k]?=w.heap[k]?)
  (fO:kO K w' w0.heap.size ((id,.box .mem ls')::S.ah) β fp (aH ((id,.box .mem ls')::S.ah) fp w') (fp id) (.box .mem ls') (β id)) :
  dc K w0 nt (S.setObj id (.box .mem ls')) β fp a w':=h.turn ho (fun _ _ _ e=>by cases e) hw hb fO
end
section
variable {Ty:Type} [DecidableEq Ty] {C:Ty→Type}
variable {P:Program} {X:Cx C} {w0 w:World} {nt:Nat} {S:St C} {β:Nat→Value} {fp:Nat→Nat→Prop} {a:Act} {R:Type} {k:St C→Option R} {r:R}
variable {dst:Option Tmp} {ty:TypeId} {pos:String} {dL:Array Edge} {gd:Option (Nat×Bool)} {Q:Exit→Act→World→Prop}
theorem db.cell {K:Cd C} {ah:cW C} {cM:Nat→Prop} {l:Lf C} {v:Value} (h:db K w ah β fp cM l v):v.oneCell'=true:=by
 cases l with
 | int k n=>rw [show v=_ from h];rfl
 | bool b=>rw [show v=_ from h];rfl
 | str s=>rw [show v=_ from h];rfl
 | row t xs=>exact gT.one h
 | nil t=>rw [show v=_ from h];rfl
 | pP=>rw [show v=_ from h];rfl
 | bP f=>rw [show v=_ from h];exact Ap f
 | lF n=>rw [show v=_ from h];cases n<;>rfl
 | vo id=>exact h.1
 | sub id lo hi=>obtain ⟨⟨A,n,c,h1⟩,_⟩:=h;rw [h1];rfl
 | nH t x o=>obtain ⟨p,U,h1,_⟩:=h;rw [h1];rfl
 | ptr id o=>obtain ⟨b,_,h1⟩:=h;rw [h1];rfl
 | ref id p=>cases p with
  | nil=>exact h.1
  | cons s p=>exact h.1
 | ep id p i o=>cases p with
  | nil=>obtain ⟨⟨q,h1⟩,_⟩:=h;rw [h1];rfl
  | cons s p=>obtain ⟨⟨q,h1⟩,_⟩:=h;rw [h1];rfl
theorem I0 {v:Value} (h:v.oneCell'=true):v.cells = #[v]:=by cases v<;>first | rfl | cases h
theorem nQ {K:Cd C} {ah:cW C} {cM:Nat→Prop} {v:SV C} {u:Value} (h:dD K w ah β fp cM v u) (hf:0<v.leaves.length):cT K w ah β fp cM v.leaves u.cells.toList:=by
 cases v with
 | one l=>
  have hl:db K w ah β fp cM l u:=h;rw [I0 hl.cell];refine ⟨rfl,fun i l' hi=>?_⟩
  cases i with
  | zero=>simp [SV.leaves] at hi;subst hi;exact hl
  | succ i=>simp [SV.leaves] at hi
 | agg ls=>obtain ⟨vs,rfl,h⟩:=h;exact h
 | _=>simp [SV.leaves] at hf
theorem Ar {v:SV C} {tk:TK Ty} (h:fits v tk=true):v.leaves.length=tk.size∧0<v.leaves.length:=by
 unfold fits at h;simp only [Bool.and_eq_true] at h;have h1:=Nat.eq_of_beq_eq_true h.1;have h2:=Nat.le_of_ble_eq_true h.2;exact ⟨h1,by omega⟩
theorem mY {v:SV C} {id:Nat} (h:id∈ey v.leaves):id∈fG v:=by
 cases v with
 | one l=>simpa [SV.leaves,ey,fG] using h
 | agg ls=>exact h
 | _=>simp [SV.leaves,ey] at h
theorem G2 {x:Operand} {v:SV C} (h:eG S x=some v) {id:Nat} (hi:id∈fG v):id∈gg S.env:=by
 cases x with
 | tmp t=>exact kZ h hi
 | const c=>
  cases c with
  | int k n=>simp [eG] at h;subst h;simp [fG,fq] at hi
  | bool b=>simp [eG] at h;subst h;simp [fG,fq] at hi
  | string s=>simp [eG] at h;subst h;simp [fG,fq] at hi
  | pointer p=>
   cases p with
   | none=>simp [eG] at h;subst h;simp [fG,fq] at hi
   | some p=>simp [eG] at h
  | map p=>
   cases p with
   | none=>simp [eG] at h;subst h;simp [fG,fq] at hi
   | some p=>simp [eG] at h
  | nilFunc=>simp [eG] at h;subst h;simp [fG,fq] at hi
  | nilIface=>simp [eG] at h;subst h;simp [fG,fq] at hi
  | _=>simp [eG] at h
 | global g=>simp [eG] at h
 | func f=>
  simp only [eG] at h
  cases hb:Nat.ble nK f with
  | true=>rw [hb] at h;cases h
  | false=>rw [hb] at h;cases h;simp [fG,fq] at hi
theorem vl {T:TypeId} {x:Operand} {v:SV C} (h:gb X S T x=some v) {id:Nat} (hi:id∈fG v):id∈gg S.env:=by
 unfold gb at h;split at h
 ·split at h
  ·cases h;simp [fG,fq] at hi
  ·cases h
 ·exact G2 h hi
theorem ui (hs:dc X.K w0 nt S β fp a w) (hd:slot dst nt) {id:Nat} {ls:List (Lf C)} {cs:Array Value} {e:TypeId} {S':St C} (gu:S.add id (.box .mem ls)=some S')
  (hl:cT X.K w S.ah β fp (aH S.ah fp w) ls cs.toList) (Cz:∀ i,i∈ey ls→i∈gg S.env) (hk:k (S'.put dst (.one (.ptr id 0)))=some r) :
  Next X.K w0 nt k r (a.put dst (.pointer (some ⟨w.heap.size,0,none⟩))) (w.alloc (.cells cs e)):=by
 obtain ⟨hn,rfl⟩:=jv gu;have hw:Below w.heap.size w (w.alloc (.cells cs e)):=(Below.refl _ _).alloc (Nat.le_refl _) _
 have hF:∀ k,(fun k=>k=w.heap.size) k→w.heap.size≤k:=fun k hk=>by rw [hk];exact Nat.le_refl _
 have h2:=hs.wm hw hn (ob:=.box .mem ls) (hv:=.pointer (some ⟨w.heap.size,0,none⟩)) (F:=fun k=>k=w.heap.size) (fun k hk=>⟨hF k hk,by rw [hk];simp⟩)
  ⟨w.heap.size,cs,e,rfl,heap_alloc_new w _,fun k=>Iff.rfl,Hj hs hw hF hl fun hm=>hn.1 (Cz _ hm)⟩
 exact bn h2 hd (v:=.one (.ptr id 0)) ⟨w.heap.size,cZ _ _ _,rfl⟩ hk
theorem CN {K:Cd C} {ah:cW C} {cM:Nat→Prop} {v:SV C} {k:TK Ty} {u:Value} (hv:dD K w ah β fp cM v u) (hf:HF v k=true):cT K w ah β fp cM v.leaves u.cells.toList:=by
 unfold HF at hf;split at hf
 ·obtain ⟨vs,rfl,h1,h2⟩:=hv
  obtain rfl:vs=[]:=List.length_eq_zero_iff.1 h1;exact ⟨rfl,fun i l hi=>by simp [SV.leaves] at hi⟩
 ·exact nQ hv (Ar hf).2
theorem ZQ (hs:dc X.K w0 nt S β fp a w) (hd:slot dst nt) {e:TypeId} {x:Operand} (h:ev X ⟨dst,.box e x,ty,pos,dL,gd⟩ S k=some r):Goal P X w0 nt k r Q ⟨dst,.box e x,ty,pos,dL,gd⟩ a w:=by
 simp only [ev] at h;split at h
 ·rename_i v tk hv ht
  obtain ⟨hf,h⟩:=aw h;split at h
  ·rename_i S' gu
   have hc:=CN (cG hs hv) hf
   exact bl (v:=.pointer (some ⟨w.heap.size,0,none⟩)) (w':=w.alloc (.cells (a.eval x).cells e)) (by simp [execOp,Instr.box,newVar,newRow])
    (ui hs hd gu (by simpa using hc) (fun i hi=>G2 hv (mY hi)) h)
  ·cases h
 ·cases h
theorem Yf {K:Cd C} {ah:cW C} {cM:Nat→Prop} (z:ZL Ty):db K w ah β fp cM (z.lf:Lf C) z.val:=by cases z<;>rfl
theorem JV (z:ZL Ty):fq (z.lf:Lf C)=[]:=by cases z<;>rfl
theorem uB {K:Cd C} {ah:cW C} {cM:Nat→Prop} (zs:List (ZL Ty)):cT K w ah β fp cM (zs.map (ZL.lf (C:=C))) (zs.map ZL.val):=by
 refine ⟨by simp,fun i l hi=>?_⟩;simp only [List.getElem?_map,Option.map_eq_some_iff] at hi;obtain ⟨z,hz,rfl⟩:=hi
 have:(zs.map ZL.val).getD i undef=z.val:=by simp [List.getD,hz]
 rw [this];exact Yf z
theorem Gk (zs:List (ZL Ty)):ey (zs.map (ZL.lf (C:=C)))=[]:=by
 induction zs with
 | nil=>rfl
 | cons z zs ih=>simp [ey,JV,ih]
theorem PX (hX:je P X) (hs:dc X.K w0 nt S β fp a w) (hd:slot dst nt) {e:TypeId} (h:ev X ⟨dst,.alloc e,ty,pos,dL,gd⟩ S k=some r):Goal P X w0 nt k r Q ⟨dst,.alloc e,ty,pos,dL,gd⟩ a w:=by
 have run:∀ z i,P.info? e=some i→i.zero=some z→(execOp a.eval ⟨dst,.alloc e,ty,pos,dL,gd⟩).run P w = .ok (.value (.pointer (some ⟨w.heap.size,0,none⟩))) (w.alloc (.cells z.cells e)):=by
  intro z i h1 h2;simp [execOp,Instr.alloc,zeroValue,typeInfo,h1,h2,newVar,newRow]
 simp only [ev] at h;split at h
 ·rename_i z ht
  obtain ⟨⟨i,h1,h2,h3⟩,_⟩:=hX.tk _ _ ht;split at h
  ·rename_i S' gu
   refine bl (run _ i h1 h3) (ui hs hd gu ?_ (fun i hi=>by simp [ey,JV] at hi) h);have:=uB (K:=X.K) (w:=w) (ah:=S.ah) (β:=β) (fp:=fp) (cM:=aH S.ah fp w) [z]
   have hc:z.val.cells = #[z.val]:=by
    cases z with
    | nk n=>cases n<;>rfl
    | _=>rfl
   rw [hc];exact this
  ·cases h
 ·rename_i fs zs ht
  obtain ⟨⟨i,h1,h2,h3⟩,_⟩:=hX.tk _ _ ht;split at h
  ·rename_i S' gu
   refine bl (run _ i h1 h3) (ui hs hd gu ?_ (fun i hi=>by rw [Gk] at hi;cases hi) h)
   simpa [Value.cells] using uB (K:=X.K) (w:=w) (ah:=S.ah) (β:=β) (fp:=fp) (cM:=aH S.ah fp w) zs
  ·cases h
 ·rename_i n sz ag zs ht
  obtain ⟨⟨i,h1,h2,h3⟩,_⟩:=hX.tk _ _ ht;split at h
  ·rename_i S' gu
   refine bl (run _ i h1 h3) (ui hs hd gu ?_ (fun i hi=>by rw [Gk] at hi;cases hi) h)
   simpa [Value.cells] using uB (K:=X.K) (w:=w) (ah:=S.ah) (β:=β) (fp:=fp) (cM:=aH S.ah fp w) zs
  ·cases h
 ·cases h
theorem EV {K:Cd C} {ah:cW C} {cM:Nat→Prop} {l:Lf C} {v:Value} (h:gT K w cM l v):db K w ah β fp cM l v:=by
 cases h with
 | int k n=>rfl
 | bool b=>rfl
 | str s=>rfl
 | bP f=>rfl
 | row t xs A c p U hc hA hcell m4=>exact .row t xs A c p U hc hA hcell m4
theorem pN {K:Cd C} {base:Nat} {G:Nat→Prop} {ah:cW C} {cM:Nat→Prop} {l:Lf C} {v:Value} (h:Own K w base G l v) (hn:∀ t xs,l ≠ .row t xs):db K w ah β fp cM l v:=by
 cases h with
 | int=>rfl
 | bool=>rfl
 | str=>rfl
 | bP=>rfl
 | row _ t xs=>exact absurd rfl (hn t xs)
theorem oW (id:Nat) (p:List (Nat×Nat)) (i:Nat) (sh:Bool):∀ (ls:List (Lf C)) (n j:Nat) (l:Lf C),(og id p i sh n ls)[j]?=some l →
  (∃ t xs,ls[j]?=some (.row t xs)∧l=cond sh (.row t xs) (.ref id (p++[(i,n+j)])))∨(ls[j]?=some l∧∀ t xs,l ≠ .row t xs)
 | [],n,j,l,h=>by simp [og] at h
 | x::r,n,j,l,h=>by
  have ih:=oW id p i sh r (n+1)
  cases j with
  | zero=>
   cases x with
   | row t xs=>simp [og] at h;exact .inl ⟨t,xs,rfl,h.symm⟩
   | _=>simp [og] at h;subst h;exact .inr ⟨rfl,fun t xs=>by simp⟩
  | succ j=>
   have:(og id p i sh (n+1) r)[j]?=some l:=by cases x<;>simpa [og] using h
   rcases ih j l this with ⟨t,xs,h1,h2⟩ | h1
   ·exact .inl ⟨t,xs,by simpa using h1,by rw [h2];congr 5;omega⟩
   ·exact .inr (by simpa using h1)
theorem IW {K:Cd C} {F:Nat→Prop} {t:Ty} {xs:List (C t)} {v:Value} {p:List (Nat×Nat)} {t':Ty} {zs:List (C t')} {v':Value} (h:nM K w F t xs v p t' zs v')
  {i o:Nat} {x:C t'} {t1:Ty} {ys:List (C t1)} {q:Addr} {n c:Nat} {v1:Value} (hx:zs[i]?=some x) (hl:(K.enc t' x)[o]?=some (.row t1 ys)) (hv:v' = .slice (some q) n c) (hF:F q.block) (hc:w.cell? (q.add (i*K.sz t'+o))=some v1) :
  nM K w F t xs v (p++[(i,o)]) t1 ys v1:=by
 induction h with
 | nil t xs v=>exact .cons t xs v i o x t1 ys q n c v1 [] t1 ys v1 hx hl hv hF hc (.nil ..)
 | cons t xs v i' o' x' EG Pb a' n' c' v1' p t' zs v' hx' hl' hv' JP Hz _ ih=>exact .cons t xs v i' o' x' EG Pb a' n' c' v1' _ _ _ _ hx' hl' hv' JP Hz (ih hx hl hv hc)
theorem B7 {K:Cd C} {base:Nat} {F:Nat→Prop} {t:Ty} {xs:List (C t)} {v:Value} (h:Own K w base F (.row t xs) v) {i:Nat} {x:C t} (hx:xs[i]?=some x) :
  ∃ g cap cells,v = .slice (some ⟨g,0,none⟩) xs.length cap∧F g∧w.ownsRow base (K.tid t) (K.sz t) v xs.length cells ∧
   (∀ m,m<xs.length*K.sz t→w.cell? ((⟨g,0,none⟩:Addr).add m)=some (cells.getD m undef))∧∀ o l,(K.enc t x)[o]?=some l→∃ G,(∀ k,G k→F k∧k≠g)∧Own K w base G l (cells.getD (i*K.sz t+o) undef):=by
 cases h with
 | row _ _ _ _ cells G h h1 h2 h3 h4=>
  have hi:=eD hx
  have qh:xs[i]=x:=by simpa [List.getElem?_eq_getElem hi] using hx
  obtain ⟨g,cap,e,hb,hn,hcell⟩:=j8 h (Nat.mul_pos (by omega) (K.pos t));refine ⟨g,cap,cells,e,h1 g (by rw [e];rfl),h,hcell,fun o l hl=>⟨G i o,fun k hk=>⟨(h2 i o k hk).1,fun ek=>(h2 i o k hk).2 (by rw [e,ek];rfl)⟩,h4 i hi o l (by rw [qh];exact hl)⟩⟩
theorem ow {α:Type} {l:List α} {o i:Nat} {x:α} (h:(l.drop o)[i]?=some x):l[o+i]?=some x:=by simpa using h
theorem iG {K:Cd C} {t:Ty} {x:C t} {o:Nat} {l:Lf C} (h:(K.enc t x)[o]?=some l):o<K.sz t:=by
 have:=eD h
 rwa [K.gA] at this
theorem rk (hs:dc X.K w0 nt S β fp a w) {l:Lf C} {v:Value} (hv:db X.K w S.ah β fp (aH S.ah fp w) l v) {α:Type} {kk:List (Lf C)→Option α} {q:α} (h:ez X S l kk=some q) :
  ∃ ls p,kk ls=some q∧v = .pointer (some p)∧∀ i l',ls[i]?=some l'→∃ u,w.cell? (p.add i)=some u∧db X.K w S.ah β fp (aH S.ah fp w) l' u:=by
 cases l with
 | ptr id off=>
  simp only [ez] at h;split at h
  ·rename_i ls ho
   obtain ⟨b,cs,e,h1,h2,h3,h4⟩:=hs.ah id _ ho;obtain ⟨b',h5,h6⟩:=hv;rw [h1] at h5;cases h5;refine ⟨ls.drop off,⟨b,off,none⟩,h,h6,fun i l' hl=>?_⟩;have hl:=ow hl
   have hlt:off+i<cs.size:=by have:=eD hl;have:=h4.1;simp at this;omega
   refine ⟨cs.toList.getD (off+i) undef,?_,h4.2 _ _ hl⟩;rw [eL,cell_of_row w b (off+i) cs e (0,0) h2];simp [List.getD,hlt]
  ·cases h
 | nH t x o=>
  obtain ⟨p,U,h1,h2,h3,h4⟩:=hv;refine ⟨(X.K.enc t x).drop o,_,h,h1,fun i l' hl=>?_⟩;have hl:=ow hl;refine ⟨U (o+i),?_,EV (h4 _ _ hl)⟩;rw [add_add];exact h3 _ (iG hl)
 | ep id p i o=>
  simp only [ez] at h;split at h
  ·rename_i t xs sh ho
   have fO:=hs.ah id _ ho
   cases p with
   | nil=>
    obtain ⟨⟨p0,hp0⟩,hv⟩:=hv;obtain ⟨h1,q,n,c,h2,h3⟩:=hv t xs sh ho
    cases hx:xs[i]? with
    | none=>rw [List.getElem?_eq_none_iff] at hx;omega
    | some x=>
     simp only [path,hx,Option.bind_some] at h;refine ⟨_,_,h,h3,fun j l' hl=>?_⟩;have hl:=ow hl;simp only [List.isEmpty_nil,cond_true] at hl
     cases sh with
     | true=>
      obtain ⟨cells,ho1,ho2,ho3⟩:=fO;obtain ⟨g,cap,e,hb,hn,hcell⟩:=j8 ho1 (Nat.mul_pos (by omega) (X.K.pos t));rw [h2] at e;cases e
      have key:∀ l0,(X.K.enc t x)[o+j]?=some l0→∃ u,w.cell? ((Addr.add ⟨g,0,none⟩ (i*X.K.sz t+o)).add j)=some u∧gT X.K w (aH S.ah fp w) l0 u:=fun l0 hl0=>by
       refine ⟨_,?_,ho3 i x hx (o+j) l0 hl0⟩;rw [add_add,Nat.add_assoc];exact hcell _ (iw h1 (iG hl0))
      rcases oW id [] i true _ 0 (o+j) l' hl with ⟨t1,ys,e1,e2⟩ | ⟨e1,_⟩
      ·simp only [cond_true] at e2
       subst e2;obtain ⟨u,hu1,hu2⟩:=key _ e1;exact ⟨u,hu1,EV hu2⟩
      ·obtain ⟨u,hu1,hu2⟩:=key _ e1
       exact ⟨u,hu1,EV hu2⟩
     | false=>
      obtain ⟨g,cap,cells,e,hFg,hown,hcell,hel⟩:=B7 fO hx;rw [h2] at e;cases e
      have hc:∀ o',o'<X.K.sz t→w.cell? (Addr.add ⟨g,0,none⟩ (i*X.K.sz t+o'))=some (cells.getD (i*X.K.sz t+o') undef):=fun o' ib=>hcell _ (iw h1 ib)
      have Hz:∀ l0,(X.K.enc t x)[o+j]?=some l0→w.cell? ((Addr.add ⟨g,0,none⟩ (i*X.K.sz t+o)).add j)=some (cells.getD (i*X.K.sz t+(o+j)) undef):=fun l0 hl0=>by
       rw [add_add,Nat.add_assoc];exact hc _ (iG hl0)
      rcases oW id [] i false _ 0 (o+j) l' hl with ⟨t1,ys,e1,e2⟩ | ⟨e1,hne⟩
      ·simp only [cond_false,Nat.zero_add,List.nil_append] at e2
       subst e2;obtain ⟨G,hG,hO⟩:=hel _ _ e1;refine ⟨_,Hz _ e1,hO.one,fun t0 EA gq uq=>?_⟩;rw [ho] at uq;cases uq;exact ⟨rfl,t1,ys,.cons t xs _ i (o+j) x t1 ys ⟨g,0,none⟩ _ c _ [] t1 ys _ hx e1 h2 hFg (hc _ (iG e1)) (.nil ..)⟩
      ·obtain ⟨G,hG,hO⟩:=hel _ _ e1
       exact ⟨_,Hz _ e1,pN hO hne⟩
   | cons s p=>
    obtain ⟨⟨p0,hp0⟩,hv⟩:=hv;obtain ⟨hsh,t',zs,v',hpr,h1,q,n,c,h2,h3⟩:=hv t xs sh ho;subst hsh;have h:=mz hpr h;obtain ⟨G0,Td,hO0⟩:=qJ hpr _ fO
    cases hx:zs[i]? with
    | none=>rw [List.getElem?_eq_none_iff] at hx;omega
    | some x=>
     simp only [hx,Option.bind_some,List.isEmpty_cons,cond_false] at h;refine ⟨_,_,h,h3,fun j l' hl=>?_⟩;have hl:=ow hl;obtain ⟨g,cap,cells,e,hFg,hown,hcell,hel⟩:=B7 hO0 hx;rw [h2] at e;cases e
     have hc:∀ o',o'<X.K.sz t'→w.cell? (Addr.add ⟨g,0,none⟩ (i*X.K.sz t'+o'))=some (cells.getD (i*X.K.sz t'+o') undef):=fun o' ib=>hcell _ (iw h1 ib)
     have Hz:∀ l0,(X.K.enc t' x)[o+j]?=some l0→w.cell? ((Addr.add ⟨g,0,none⟩ (i*X.K.sz t'+o)).add j)=some (cells.getD (i*X.K.sz t'+(o+j)) undef):=fun l0 hl0=>by
      rw [add_add,Nat.add_assoc];exact hc _ (iG hl0)
     rcases oW id (s::p) i false _ 0 (o+j) l' hl with ⟨t1,ys,e1,e2⟩ | ⟨e1,hne⟩
     ·simp only [cond_false,Nat.zero_add] at e2
      subst e2;obtain ⟨G,hG,hO⟩:=hel _ _ e1;refine ⟨_,Hz _ e1,hO.one,fun t0 EA gq uq=>?_⟩;rw [ho] at uq;cases uq;exact ⟨rfl,t1,ys,IW hpr hx e1 h2 (Td _ hFg) (hc _ (iG e1))⟩
     ·obtain ⟨G,hG,hO⟩:=hel _ _ e1
      exact ⟨_,Hz _ e1,pN hO hne⟩
  ·cases h
 | _=>simp [ez] at h
end
section
variable {Ty:Type} [DecidableEq Ty] {C:Ty→Type}
variable {P:Program} {X:Cx C} {w0 w:World} {nt:Nat} {S:St C} {β:Nat→Value} {fp:Nat→Nat→Prop} {a:Act} {R:Type} {k:St C→Option R} {r:R}
variable {dst:Option Tmp} {ty:TypeId} {pos:String} {dL:Array Edge} {gd:Option (Nat×Bool)} {Q:Exit→Act→World→Prop}
theorem rO {K:Cd C} {T:TypeId} {tk:TK Ty} (h:aI P K T tk):(isAgg T).run P w = .ok (lj tk) w:=by
 cases tk with
 | one z=>
  obtain ⟨_,d,hd,hz⟩:=h
  cases z with
  | ptr=>obtain ⟨e,rfl⟩:=hz;simp [isAgg,bb hd,lj]
  | bP=>obtain ⟨_,_,_,rfl⟩:=hz;simp [isAgg,bb hd,lj]
  | nk n=>cases n with
   | lX=>obtain ⟨_,rfl⟩:=hz;simp [isAgg,bb hd,lj]
   | map=>obtain ⟨_,_,rfl⟩:=hz;simp [isAgg,bb hd,lj]
  | _=>simp only [ZL.desc] at hz;subst hz;simp [isAgg,bb hd,lj]
 | agg fs zs=>
  obtain ⟨_,f,hf,_⟩:=h;simp [isAgg,bb hf,lj]
 | arr n sz ag zs=>
  obtain ⟨_,_,_,e,i,hf,_⟩:=h;simp [isAgg,bb hf,lj]
theorem aI.size {K:Cd C} {T:TypeId} {tk:TK Ty} (h:aI P K T tk):(sizeOf T).run P w = .ok tk.size w:=by
 cases tk with
 | one z=>obtain ⟨⟨i,h1,h2,_⟩,_⟩:=h;simp [sizeOf,typeInfo,h1,h2,TK.size]
 | agg fs zs=>obtain ⟨⟨i,h1,h2,_⟩,_⟩:=h;simp [sizeOf,typeInfo,h1,h2,TK.size]
 | arr n sz ag zs=>obtain ⟨⟨i,h1,h2,_⟩,_⟩:=h;simp [sizeOf,typeInfo,h1,h2,TK.size]
theorem uj {K:Cd C} {ah:cW C} {cM:Nat→Prop} {T:TypeId} {tk:TK Ty} (hT:aI P K T tk) {ls:List (Lf C)} {v:SV C} (hm:Aa tk ls=some v) {p:Addr}
  (hc:∀ i l,ls[i]?=some l→∃ u,w.cell? (p.add i)=some u∧db K w ah β fp cM l u) :
  ∃ u,(loadVar T p).run P w = .ok u w∧dD K w ah β fp cM v u:=by
 cases tk with
 | one z=>
  cases ls with
  | nil=>simp [Aa] at hm
  | cons l r=>
   simp [Aa] at hm;subst hm;obtain ⟨u,h1,h2⟩:=hc 0 l rfl;refine ⟨u,?_,h2⟩
   have:p.add 0=p:=by simp [Addr.add]
   rw [this] at h1;simp [loadVar,rO hT,lj,h1]
 | agg fs zs=>
  simp only [Aa] at hm;obtain ⟨hl,hm⟩:=aw hm;cases hm;have hl:=Nat.le_of_ble_eq_true hl
  have hex:∀ i,i<zs.length→∃ l u,ls[i]?=some l∧w.cell? (p.add i)=some u∧db K w ah β fp cM l u:=fun i hi=>by
   have eR:i<ls.length:=by omega
   obtain ⟨u,h1,h2⟩:=hc i ls[i] (by simp [eR]);exact ⟨ls[i],u,by simp [eR],h1,h2⟩
  let f:Nat→Value:=fun i=>(w.cell? (p.add i)).getD undef
  have hf:∀ i,i<zs.length→w.cell? (p.add i)=some (f i):=fun i hi=>by
   obtain ⟨l,u,_,h1,_⟩:=hex i hi;simp [f,h1]
  refine ⟨.agg ((List.range zs.length).map f).toArray,?_,(List.range zs.length).map f,rfl,by simp;omega,fun i l hi=>?_⟩
  ·simp [loadVar,rO hT,lj,hT.size,TK.size,run_loadCells w p zs.length f hf]
  ·rw [List.getElem?_take] at hi
   split at hi
   ·rename_i hlt
    obtain ⟨l',u,h1,h2,h3⟩:=hex i hlt;rw [hi] at h1;cases h1
    have:((List.range zs.length).map f).getD i undef=u:=by simp [List.getD,hlt,f,h2]
    rw [this];exact h3
   ·cases hi
 | arr n sz ag zs=>
  simp only [Aa] at hm;obtain ⟨hl,hm⟩:=aw hm;cases hm;have hl:=Nat.le_of_ble_eq_true hl
  have hex:∀ i,i<zs.length→∃ l u,ls[i]?=some l∧w.cell? (p.add i)=some u∧db K w ah β fp cM l u:=fun i hi=>by
   have eR:i<ls.length:=by omega
   obtain ⟨u,h1,h2⟩:=hc i ls[i] (by simp [eR]);exact ⟨ls[i],u,by simp [eR],h1,h2⟩
  let f:Nat→Value:=fun i=>(w.cell? (p.add i)).getD undef
  have hf:∀ i,i<zs.length→w.cell? (p.add i)=some (f i):=fun i hi=>by
   obtain ⟨l,u,_,h1,_⟩:=hex i hi;simp [f,h1]
  refine ⟨.agg ((List.range zs.length).map f).toArray,?_,(List.range zs.length).map f,rfl,by simp;omega,fun i l hi=>?_⟩
  ·simp [loadVar,rO hT,lj,hT.size,TK.size,run_loadCells w p zs.length f hf]
  ·rw [List.getElem?_take] at hi
   split at hi
   ·rename_i hlt
    obtain ⟨l',u,h1,h2,h3⟩:=hex i hlt;rw [hi] at h1;cases h1
    have:((List.range zs.length).map f).getD i undef=u:=by simp [List.getD,hlt,f,h2]
    rw [this];exact h3
   ·cases hi
theorem UM (hX:je P X) (hs:dc X.K w0 nt S β fp a w) (hd:slot dst nt) {t:TypeId} {x:Operand} (h:ev X ⟨dst,.load t x,ty,pos,dL,gd⟩ S k=some r):Goal P X w0 nt k r Q ⟨dst,.load t x,ty,pos,dL,gd⟩ a w:=by
 simp only [ev] at h;split at h
 ·rename_i tk l ht hx
  obtain ⟨ls,p,hk,hv,hc⟩:=rk hs (fu (cG hs hx)) h;split at hk
  ·rename_i v hm
   obtain ⟨u,hr,hok⟩:=uj (hX.tk _ _ ht) hm hc;refine bl (v:=u) ?_ (bn hs hd hok hk);simp [execOp,Instr.loadAt,hv,Instr.sureAddr,hr]
  ·cases hk
 ·cases h
theorem PQ (hX:je P X) (hs:dc X.K w0 nt S β fp a w) (hd:slot dst nt) {t:TypeId} {x:Operand} {f:Nat} (h:ev X ⟨dst,.field t x f,ty,pos,dL,gd⟩ S k=some r):Goal P X w0 nt k r Q ⟨dst,.field t x f,ty,pos,dL,gd⟩ a w:=by
 simp only [ev] at h;split at h
 ·rename_i fs zs ls ht hx
  obtain ⟨vs,hv,hlen,hok⟩:=cG hs hx;obtain ⟨_,fields,hu,hl,hF⟩:=hX.tk _ _ ht;split at h
  ·rename_i off n hf
   obtain ⟨fl,i,h1,h2,h3,h4,h5,d,h6,h7⟩:=hF f off n true hf
   have hrun:(execOp a.eval ⟨dst,.field t x f,ty,pos,dL,gd⟩).run P w = .ok (.value (.agg ((vs.drop off).take n).toArray)) w:=by
    have hag:(isAgg fl.type).run P w = .ok true w:=by
     simp only [isAgg,Sem.run_bind,bb h6,Result.andThen_ok];cases d<;>simp at h7<;>rfl
    simp [execOp,hv,Instr.field,bb hu,h1,part,hag,asAgg,sizeOf,typeInfo,h3,h4,h2]
   refine bl hrun (bn hs hd (v:=.agg ((ls.drop off).take n)) ⟨_,rfl,by simp [hlen],fun i l hi=>?_⟩ h);rw [List.getElem?_take] at hi;split at hi
   ·rename_i hlt
    have hi:=ow hi;have:=hok (off+i) l hi
    have e:((vs.drop off).take n).getD i undef=vs.getD (off+i) undef:=by simp [List.getD,List.getElem?_take,hlt]
    rw [e];exact this
   ·cases hi
  ·rename_i off n hf
   split at h
   ·rename_i l hl'
    obtain ⟨fl,i,h1,h2,h3,h4,h5,d,h6,h7⟩:=hF f off n false hf
    have hlt:off<vs.length:=by rw [hlen];exact eD hl'
    have hrun:(execOp a.eval ⟨dst,.field t x f,ty,pos,dL,gd⟩).run P w = .ok (.value (vs.getD off undef)) w:=by
     have hag:(isAgg fl.type).run P w = .ok false w:=by
      simp only [isAgg,Sem.run_bind,bb h6,Result.andThen_ok];cases d<;>simp at h7<;>rfl
     simp [execOp,hv,Instr.field,bb hu,h1,part,hag,asAgg,h2,List.getD,hlt]
    exact bl hrun (bn hs hd (v:=.one l) (hok off l hl') h)
   ·cases h
  ·cases h
 ·cases h
theorem mu {α:Type}:∀ (r l:List α) (o:Nat),o+r.length≤l.length→setAt l o r=l.take o++r++l.drop (o+r.length)
 | [],l,o,_=>by simp [setAt]
 | v::r,l,o,h=>by
  have h':o+1+r.length≤(l.set o v).length:=by simp at h ⊢;omega
  have ho:o<l.length:=by simp at h;omega
  rw [setAt,mu r (l.set o v) (o+1) h']
  have e1:(l.set o v).take (o+1)=l.take o++[v]:=by
   rw [List.take_succ_eq_append_getElem (by simpa using ho)];simp [List.take_set_of_le (Nat.le_refl o)]
  have e2:(l.set o v).drop (o+1+r.length)=l.drop (o+(r.length+1)):=by
   rw [List.drop_set_of_lt (by omega)]
   congr 1;omega
  rw [e1,e2];simp
theorem mr {α:Type}:∀ (r l:List α) (o:Nat),(setAt l o r).length=l.length
 | [],l,o=>rfl
 | v::r,l,o=>by rw [setAt,mr];simp
theorem fP {α:Type} {l r:List α} {o:Nat} (h:o+r.length≤l.length) (i:Nat):(l.take o++r++l.drop (o+r.length))[i]?=if i<o then l[i]? else if i<o+r.length then r[i-o]? else l[i]?:=by
 have hlen:(l.take o).length=o:=by simp;omega
 by_cases h1:i<o
 ·rw [if_pos h1,List.getElem?_append_left (by simp;omega),List.getElem?_append_left (by rw [hlen];exact h1),List.getElem?_take,if_pos h1]
 ·rw [if_neg h1]
  by_cases h2:i<o+r.length
  ·rw [if_pos h2,List.getElem?_append_left (by simp;omega),List.getElem?_append_right (by rw [hlen];omega),hlen]
  ·rw [if_neg h2,List.getElem?_append_right (by simp;omega),List.getElem?_drop]
   congr 1
   simp;omega
theorem vz {K:Cd C} {ah:cW C} {cM:Nat→Prop} {ls r:List (Lf C)} {vs us:List Value} (h:cT K w ah β fp cM ls vs) (h':cT K w ah β fp cM r us) {o:Nat} (ho:o+r.length≤ls.length) :
  cT K w ah β fp cM (setAt ls o r) (vs.take o++us++vs.drop (o+us.length)):=by
 have ib:o+us.length≤vs.length:=by rw [h.1,h'.1];exact ho
 refine ⟨by simp [mr];have:=h.1;omega,fun i l hi=>?_⟩;rw [mu _ _ _ ho,fP ho] at hi;rw [List.getD_eq_getElem?_getD,fP ib];rw [h'.1];split at hi
 ·rename_i h1
  rw [if_pos h1];have:=h.2 i l hi
  rwa [List.getD_eq_getElem?_getD] at this
 ·rename_i h1
  rw [if_neg h1];split at hi
  ·rename_i h2
   rw [if_pos h2];have:=h'.2 (i-o) l hi
   rwa [List.getD_eq_getElem?_getD] at this
  ·rename_i h2
   rw [if_neg h2];have:=h.2 i l hi
   rwa [List.getD_eq_getElem?_getD] at this
theorem iy {w0:World} (g:Nat) (cs:Array Value) (hg:w0.heap.size≤g):Below w0.heap.size w (w.setRow g cs):=
 ⟨rfl,rfl,rfl,by simp,fun k hk=>setRow_other w g k cs (by omega)⟩
theorem qx {K:Cd C} {T:TypeId} {tk:TK Ty} (hT:aI P K T tk) {v:Value} (hv:v.cells.size=tk.size) (p:Addr):(storeVar T p v).run P w=(storeCells p v.cells.toList).run P w:=by
 simp [storeVar,hT.size,hv]
theorem Iu (hs:dc X.K w0 nt S β fp a w) {id off:Nat} {ls r':List (Lf C)} (ho:lk S.ah id=some (.box .mem ls)) {us:List Value} (hr:cT X.K w S.ah β fp (aH S.ah fp w) r' us) (hoff:off+r'.length≤ls.length) {b:Nat} (hb:β id = .pointer (some ⟨b,0,none⟩)) :
  ∃ w',(storeCells ⟨b,off,none⟩ us).run P w = .ok () w'∧dc X.K w0 nt (S.setObj id (.box .mem (setAt ls off r'))) β fp a w':=by
 obtain ⟨b',cs,e,h1,h2,h3,h4⟩:=hs.ah id _ ho;rw [hb] at h1;cases h1
 have AZ:∀ v∈us,v.oneCell'=true:=fun v hv=>by
  obtain ⟨i,hi,rfl⟩:=List.getElem_of_mem hv
  have eR:i<r'.length:=by rw [←hr.1];exact hi
  have:=hr.2 i r'[i] (by simp [eR])
  have e:us.getD i undef=us[i]:=by simp [List.getD,hi]
  rw [e] at this;exact this.cell
 have hcs:cs.size=ls.length:=by have:=h4.1;simpa using this
 have hst:=run_storeCells_at P b off e us 0 cs w h2 (by rw [hr.1,hcs];simpa using hoff) AZ;simp only [Nat.add_zero] at hst;have XM:w0.heap.size≤b:=(hs.fresh id _ b ho ((h3 b).2 rfl)).1;refine ⟨_,hst,hs.PI ho (iy b _ XM) (fun k hk=>setRow_other w b k _ fun ek=>hk ((h3 k).2 ek)) ?_⟩;refine ⟨b,_,e,hb,setRow_heap w b cs _ e (0,0) h2,h3,?_⟩;have hl:=vz h4 hr hoff
 have hst':∀ k,aH S.ah fp w k→aH ((id,Ob.box .mem (setAt ls off r'))::S.ah) fp (w.setRow b (cs.toList.take off++us++cs.toList.drop (off+us.length)).toArray) k∧(w.setRow b (cs.toList.take off++us++cs.toList.drop (off+us.length)).toArray).heap[k]?=w.heap[k]?:=fun k hk=>by
  refine ⟨⟨by simpa using hk.1,fun j ob hj=>?_⟩,setRow_other w b k _ fun ek=>hk.2 id _ ho ((h3 k).2 ek)⟩;rw [aN] at hj;split at hj
  ·rename_i ej;subst ej;exact hk.2 j _ ho
  ·exact hk.2 j ob hj
 refine hl.tr hst' fun j _=>⟨rfl,fun t xs sh hj=>?_⟩
 rw [aN] at hj;split at hj
 ·cases hj
 ·rename_i ej
  exact ⟨hj,fun k hk=>⟨hk,setRow_other w b k _ fun ek=>ej (hs.eM j id _ _ k hj ho hk ((h3 k).2 ek))⟩⟩
def Ur (K:Cd C) (w0 w:World) (S:St C) (fp:Nat→Nat→Prop) (O:cW C) (n:Nat) (vs:List Value) (ls':List (Lf C)) (S':St C) (b:Bool):Prop:=
  S'.env=S.env∧S'.base=S.base∧(∀ id ob,lk S'.ah id=some ob→lk O id=some ob)∧ls'.length=n ∧
  ∃ G:Nat→Nat→Prop,(∀ i k,G i k→∃ id ob,lk O id=some ob∧lk S'.ah id=none∧fp id k)∧(∀ i j k,G i k→G j k→i=j) ∧
   ∀ (i:Nat) (l:Lf C),ls'[i]?=some l→(b=false→Own K w w0.heap.size (G i) l (vs.getD i undef))∧gT K w (fun k=>aH S.ah fp w k∨G i k) l (vs.getD i undef)
theorem o9 (hs:dc X.K w0 nt S β fp a w):∀ (ls:List (Lf C)) (vs:List Value) (O:cW C) (ls':List (Lf C)) (S':St C) (b:Bool),(∀ id ob,lk O id=some ob→lk S.ah id=some ob) →
  di { S with ah:=O } ls=some (ls',S',b)→cT X.K w S.ah β fp (aH S.ah fp w) ls vs→Ur X.K w0 w S fp O ls.length vs ls' S' b:=by
 intro ls
 induction ls with
 | nil=>
  intro vs O ls' S' b hO h hl;simp only [di,Option.some.injEq,Prod.mk.injEq] at h;obtain ⟨rfl,rfl,rfl⟩:=h;exact ⟨rfl,rfl,fun _ _ h=>h,rfl,fun _ _=>False,fun _ _ h=>h.elim,fun _ _ _ h=>h.elim,fun i l h=>by simp at h⟩
 | cons l ls ih=>
  intro vs O ls' S' b hO h hl
  obtain ⟨u,us,rfl⟩:∃ u us,vs=u::us:=by
   cases vs with
   | nil=>have:=hl.1;simp at this
   | cons u us=>exact ⟨u,us,rfl⟩
  have hl0:db X.K w S.ah β fp (aH S.ah fp w) l u:=hl.2 0 l rfl;have hl1:cT X.K w S.ah β fp (aH S.ah fp w) ls us:=⟨by have:=hl.1;simpa using this,fun i l' hi=>hl.2 (i+1) l' (by simpa using hi)⟩
  have FM:∀ (l1:Lf C) (sh:Bool) (q:Option (List (Lf C)×St C×Bool)),(∀ F,(sh=false→Own X.K w w0.heap.size F l1 u))→gT X.K w (aH S.ah fp w) l1 u →
    di { S with ah:=O } ls=q→∀ Cc S1 b1,q=some (Cc,S1,b1)→ls'=l1::Cc→S'=S1→b=(b1||sh)→Ur X.K w0 w S fp O (l::ls).length (u::us) ls' S' b:=by
   intro l1 sh q hown m4 hq Cc S1 b1 e1 e2 e3 e4;subst e1 e2 e3 e4;obtain ⟨g1,XQ,g2,g3,G,g4,g5,g6⟩:=ih us O Cc _ b1 hO hq hl1;refine ⟨g1,XQ,g2,by simp [g3],fun i k=>match i with | 0=>False | i+1=>G i k,fun i k hk=>?_,fun i j k hi hj=>?_,fun i l' hi=>?_⟩
   ·cases i with
    | zero=>exact hk.elim
    | succ i=>exact g4 i k hk
   ·cases i with
    | zero=>exact hi.elim
    | succ i=>cases j with
     | zero=>exact hj.elim
     | succ j=>rw [g5 i j k hi hj]
   ·cases i with
    | zero=>
     simp at hi;subst hi;refine ⟨fun hb=>hown _ ?_,m4.mono fun k hk=>.inl hk⟩;cases sh<;>simp at hb ⊢
    | succ i=>
     have:=g6 i l' (by simpa using hi);refine ⟨fun hb=>this.1 ?_,this.2⟩;cases b1<;>simp at hb ⊢
  cases l with
  | ref id p=>
   cases p with
   | cons s p=>simp [di] at h
   | nil=>
    simp only [di] at h;split at h
    ·rename_i t xs ho
     split at h
     ·rename_i r' S1 b1 hr
      simp only [Option.some.injEq,Prod.mk.injEq] at h;obtain ⟨rfl,rfl,rfl⟩:=h
      have XJ:∀ i ob,lk (rm O id) i=some ob→lk O i=some ob∧i≠id:=fun i ob hi=>by
       rw [lg] at hi;split at hi
       ·cases hi
       ·rename_i e;exact ⟨hi,e⟩
      obtain ⟨g1,XQ,g2,g3,G,g4,g5,g6⟩:=ih us (rm O id) r' S1 b1 (fun i ob hi=>hO i ob (XJ i ob hi).1) hr hl1;have fO:Own X.K w w0.heap.size (fp id) (.row t xs) (β id):=hs.ah id _ (hO _ _ ho);have hu:u=β id:=hl0.2;subst hu
      have yF:lk S1.ah id=none:=by
       cases e:lk S1.ah id with
       | none=>rfl
       | some ob=>exact absurd rfl (XJ id ob (g2 id ob e)).2
      refine ⟨g1,XQ,fun i ob hi=>(XJ i ob (g2 i ob hi)).1,by simp [g3],fun i k=>match i with | 0=>fp id k | i+1=>G i k,fun i k hk=>?_,fun i j k hi hj=>?_,fun i l' hi=>?_⟩
      ·cases i with
       | zero=>exact ⟨id,_,ho,yF,hk⟩
       | succ i=>
        obtain ⟨j,ob,h1,h2,h3⟩:=g4 i k hk;exact ⟨j,ob,(XJ j ob h1).1,h2,h3⟩
      ·cases i with
       | zero=>cases j with
        | zero=>rfl
        | succ j=>
         obtain ⟨j',ob,h1,h2,h3⟩:=g4 j k hj;have h1:=XJ j' ob h1;exact absurd (hs.eM j' id _ _ k (hO _ _ h1.1) (hO _ _ ho) h3 hi) h1.2
       | succ i=>cases j with
        | zero=>
         obtain ⟨j',ob,h1,h2,h3⟩:=g4 i k hi;have h1:=XJ j' ob h1;exact absurd (hs.eM j' id _ _ k (hO _ _ h1.1) (hO _ _ ho) h3 hj) h1.2
        | succ j=>rw [g5 i j k hi hj]
      ·cases i with
       | zero=>simp at hi;subst hi;exact ⟨fun _=>fO,fO.rep.mono fun k hk=>.inr hk⟩
       | succ i=>exact g6 i l' (by simpa using hi)
     ·cases h
    ·cases h
  | nil t=>
   simp only [di] at h;split at h
   ·rename_i r' S1 b1 hr
    simp only [Option.some.injEq,Prod.mk.injEq] at h;obtain ⟨rfl,rfl,rfl⟩:=h;have hu:u = .slice none 0 0:=hl0;subst hu;refine FM (.row t []) false _ (fun F _=>?_) ?_ hr _ _ _ rfl rfl rfl (by simp)
    ·exact .row F t [] _ [] (fun _ _ _=>False) (World.ownsRow_nil ..) (fun g hg=>by simp [Value.ownBlock] at hg) (fun _ _ _ h=>h.elim) (fun _ _ _ _ _ h=>h.elim) (fun j hj=>absurd hj (by simp))
    ·exact .row t [] none 0 default (fun _=>undef) (Nat.le_refl _) (fun h=>absurd rfl h) (fun h=>absurd rfl h) (fun j hj=>absurd hj (by simp))
   ·cases h
  | row t xs=>
   simp only [di] at h;split at h
   ·rename_i r' S1 b1 hr
    simp only [Option.some.injEq,Prod.mk.injEq] at h;obtain ⟨rfl,rfl,rfl⟩:=h;exact FM (.row t xs) true _ (fun F h=>by cases h) hl0 hr _ _ _ rfl rfl rfl (by simp)
   ·cases h
  | int ki n=>
   simp only [di] at h;split at h
   ·rename_i r' S1 b1 hr
    simp only [Option.some.injEq,Prod.mk.injEq] at h;obtain ⟨rfl,rfl,rfl⟩:=h;have hu:u=_:=hl0;subst hu;exact FM (.int ki n) false _ (fun F _=>.int ..) (.int ..) hr _ _ _ rfl rfl rfl (by simp)
   ·cases h
  | bool c=>
   simp only [di] at h;split at h
   ·rename_i r' S1 b1 hr
    simp only [Option.some.injEq,Prod.mk.injEq] at h;obtain ⟨rfl,rfl,rfl⟩:=h;have hu:u=_:=hl0;subst hu;exact FM (.bool c) false _ (fun F _=>.bool ..) (.bool ..) hr _ _ _ rfl rfl rfl (by simp)
   ·cases h
  | str c=>
   simp only [di] at h;split at h
   ·rename_i r' S1 b1 hr
    simp only [Option.some.injEq,Prod.mk.injEq] at h;obtain ⟨rfl,rfl,rfl⟩:=h;have hu:u=_:=hl0;subst hu;exact FM (.str c) false _ (fun F _=>.str ..) (.str ..) hr _ _ _ rfl rfl rfl (by simp)
   ·cases h
  | bP c=>
   simp only [di] at h;split at h
   ·rename_i r' S1 b1 hr
    simp only [Option.some.injEq,Prod.mk.injEq] at h;obtain ⟨rfl,rfl,rfl⟩:=h;have hu:u=_:=hl0;subst hu;exact FM (.bP c) false _ (fun F _=>.bP ..) (.bP ..) hr _ _ _ rfl rfl rfl (by simp)
   ·cases h
  | lF n=>
   cases n with
   | map=>simp [di] at h
   | lX=>
    simp only [di] at h;split at h
    ·rename_i r' S1 b1 hr
     simp only [Option.some.injEq,Prod.mk.injEq] at h;obtain ⟨rfl,rfl,rfl⟩:=h;have hu:u = .nilIface:=hl0;rw [←QW] at hu;subst hu;exact FM (.bP (some nK)) false _ (fun F _=>.bP ..) (.bP ..) hr _ _ _ rfl rfl rfl (by simp)
    ·cases h
  | _=>simp [di] at h
end
section
variable {Ty:Type} {C:Ty→Type}
variable {K:Cd C} {w0 w:World} {nt:Nat} {S:St C} {β:Nat→Value} {fp:Nat→Nat→Prop} {a:Act}
def AR (w w':World) (ah dX:cW C) (β eK:Nat→Value) (id:Nat):Prop:=
 eK id=β id∧∀ t xs sh,lk dX id=some (.row t xs sh)→∃ EA gq,lk ah id=some (.row t EA gq)∧xs.length=EA.length
theorem db.Ip {w w':World} {ah dX:cW C} {β eK:Nat→Value} {fp eJ:Nat→Nat→Prop} {cM eH:Nat→Prop} {l:Lf C} {v:Value} {d:Nat}
  (h:db K w ah β fp cM l v) (hst:∀ k,cM k→eH k∧w'.heap[k]?=w.heap[k]?) (iP:∀ id,id∈fq l→id≠d→iQ w w' ah dX β eK fp eJ id) (hd:AR w w' ah dX β eK d) (hn:lp d l=false):db K w' dX eK eJ eH l v:=by
 by_cases hm:d∈fq l
 ·cases l with
  | ptr id off=>
   simp only [fq,List.mem_singleton] at hm;subst hm;obtain ⟨b,h1,h2⟩:=h;exact ⟨b,hd.1.trans h1,h2⟩
  | vo id=>
   simp only [fq,List.mem_singleton] at hm;subst hm;exact ⟨h.1,h.2.trans hd.1.symm⟩
  | ref id p=>
   simp only [fq,List.mem_singleton] at hm;subst hm
   cases p with
   | nil=>exact ⟨h.1,h.2.trans hd.1.symm⟩
   | cons s p=>simp [lp,Nat.beq_refl] at hn
  | ep id p i o=>
   simp only [fq,List.mem_singleton] at hm;subst hm
   cases p with
   | nil=>
    refine ⟨h.1,fun t xs sh ho=>?_⟩;obtain ⟨EA,gq,h1,h2⟩:=hd.2 t xs sh ho;rw [h2,hd.1];exact h.2 t EA gq h1
   | cons s p=>simp [lp,Nat.beq_refl] at hn
  | sub id lo hi=>
   simp only [fq,List.mem_singleton] at hm;subst hm;refine ⟨h.1,fun t xs sh ho=>?_⟩;obtain ⟨EA,gq,h1,h2⟩:=hd.2 t xs sh ho;rw [h2,hd.1];exact h.2 t EA gq h1
  | _=>simp [fq] at hm
 ·exact h.tr hst fun id hi=>iP id hi fun e=>hm (by subst e;exact hi)
theorem cT.Ip {w w':World} {ah dX:cW C} {β eK:Nat→Value} {fp eJ:Nat→Nat→Prop} {cM eH:Nat→Prop} {ls:List (Lf C)} {vs:List Value} {d:Nat}
  (h:cT K w ah β fp cM ls vs) (hst:∀ k,cM k→eH k∧w'.heap[k]?=w.heap[k]?) (iP:∀ id,id∈ey ls→id≠d→iQ w w' ah dX β eK fp eJ id) (hd:AR w w' ah dX β eK d) (hn:ls.any (lp d)=false):cT K w' dX eK eJ eH ls vs:=
 ⟨h.1,fun i l hl=>(h.2 i l hl).Ip hst (fun id hi=>iP id (eN hl hi)) hd (by
  have:=List.any_eq_false.1 hn l (List.mem_of_getElem? hl)
  simpa using this)⟩
theorem dD.Ip {w w':World} {ah dX:cW C} {β eK:Nat→Value} {fp eJ:Nat→Nat→Prop} {cM eH:Nat→Prop} {x:SV C} {v:Value} {d:Nat}
  (h:dD K w ah β fp cM x v) (hst:∀ k,cM k→eH k∧w'.heap[k]?=w.heap[k]?) (iP:∀ id,id∈fG x→id≠d→iQ w w' ah dX β eK fp eJ id) (hd:AR w w' ah dX β eK d) (hn:vW d x=false):dD K w' dX eK eJ eH x v:=by
 cases x with
 | one l=>exact db.Ip h hst iP hd hn
 | agg ls=>obtain ⟨vs,h1,h2⟩:=h;exact ⟨vs,h1,h2.Ip hst iP hd hn⟩
 | qg xs=>
  obtain ⟨vs,h1,h2,h3⟩:=h;refine ⟨vs,h1,h2,fun i x hx=>?_⟩
  have hm:∀ id,id∈ey x.2→id∈tL xs:=by
   clear h3 h2 h1 iP hn
   induction xs generalizing i with
   | nil=>simp at hx
   | cons y r ih=>
    intro id hi;obtain ⟨b,ls⟩:=y;simp only [tL,List.mem_append]
    cases i with
    | zero=>simp at hx;subst hx;exact .inl hi
    | succ i=>simp at hx;exact .inr (ih i hx id hi)
  have qi:x.2.any (lp d)=false:=by
   have:=List.any_eq_false.1 hn x (List.mem_of_getElem? hx)
   simpa using this
  have:=h3 i x hx;obtain ⟨b,ls⟩:=x
  cases b with
  | false=>
   obtain ⟨l,h1,h2⟩:=this;subst h1;exact ⟨l,rfl,h2.Ip hst (fun id hi=>iP id (hm id (by simpa [ey] using hi))) hd (by simpa using qi)⟩
  | true=>obtain ⟨vs,h1,h2⟩:=this;exact ⟨vs,h1,h2.Ip hst (fun id hi=>iP id (hm id hi)) hd qi⟩
 | mN=>exact h
 | jf id j=>
  by_cases e:id=d
  ·subst e;exact hd.1.trans h
  ·exact (iP id (by simp [fG]) e).1.trans h
 | frame=>exact fun k hk=>⟨(hst k (h k hk).1).1,(hst k (h k hk).1).2.trans (h k hk).2⟩
 | bQ x j=>
  obtain ⟨b,ls⟩:=x;have qi:ls.any (lp d)=false:=hn
  cases b with
  | false=>
   obtain ⟨l,h1,h2⟩:=h;have h1:ls=[l]:=h1;subst h1;exact ⟨l,rfl,h2.Ip hst (fun id hi=>iP id (by simpa [fG,ey] using hi)) hd (by simpa using qi)⟩
  | true=>obtain ⟨vs,h1,h2⟩:=h;exact ⟨vs,h1,h2.Ip hst (fun id hi=>iP id hi) hd qi⟩
theorem dc.ub (h:dc K w0 nt S β fp a w) {O1:cW C} (hO:∀ j ob,lk O1 j=some ob→lk S.ah j=some ob) {id:Nat} {t:Ty} {xs xs':List (C t)} {sh sh':Bool}
  (ho:lk O1 id=some (.row t xs sh)) (hlen:xs'.length=xs.length) {F':Nat→Prop} (hF:∀ k,F' k→fp id k∨∃ j ob,lk S.ah j=some ob∧lk O1 j=none∧fp j k)
  {w':World} (hw:Below w0.heap.size w w') (hb:∀ k,¬ fp id k→w'.heap[k]?=w.heap[k]?)
  (fO:kO K w' w0.heap.size ((id,.row t xs' sh')::O1) β (upd fp id F') (aH ((id,.row t xs' sh')::O1) (upd fp id F') w') F' (.row t xs' sh') (β id))
  (CF:∀ j kd ls,lk O1 j=some (.box kd ls)→ls.any (lp id)=false) {E:List (Nat×SV C)} (hE:∀ t v,lk E t=some v→lk S.env t=some v∧vW id v=false) (bs:Nat) :
  dc K w0 nt ⟨E,(id,.row t xs' sh')::O1,bs⟩ β (upd fp id F') a w':=by
 have hlk:∀ j ob,lk ((id,Ob.row t xs' sh')::O1) j=some ob→j≠id→lk O1 j=some ob:=fun j ob hj hne=>by rw [aN,if_neg hne] at hj;exact hj
 have hap:∀ j ob k,lk O1 j=some ob→j≠id→fp j k→¬ F' k:=fun j ob k hj hne hk hf=>by
  rcases hF k hf with h1 | ⟨j',dY,h1,h2,h3⟩
  ·exact hne (h.eM j id ob _ k (hO j ob hj) (hO id _ ho) hk h1)
  ·have:=h.eM j j' ob dY k (hO j ob hj) h1 hk h3
   subst this;rw [hj] at h2;cases h2
 have hst:∀ k,aH S.ah fp w k→aH ((id,Ob.row t xs' sh')::O1) (upd fp id F') w' k∧w'.heap[k]?=w.heap[k]?:=fun k hk=>by
  refine ⟨⟨Nat.lt_of_lt_of_le hk.1 hw.size,fun j ob hj=>?_⟩,hb k (hk.2 id _ (hO _ _ ho))⟩
  by_cases e:j=id
  ·subst e
   rw [cZ];intro hf
   rcases hF k hf with h1 | ⟨j',dY,h1,h2,h3⟩
   ·exact hk.2 j _ (hO _ _ ho) h1
   ·exact hk.2 j' _ h1 h3
  ·rw [dE _ _ e]
   exact hk.2 j ob (hO _ _ (hlk j ob hj e))
 have hkp:∀ j,j≠id→iQ w w' S.ah ((id,Ob.row t xs' sh')::O1) β β fp (upd fp id F') j:=fun j e=>by
  refine ⟨rfl,fun t0 EA gq hj=>?_⟩;have gW:=hlk j _ hj e;exact ⟨hO _ _ gW,fun k hk=>⟨by rw [dE _ _ e];exact hk,hb k fun hk'=>e (h.eM j id _ _ k (hO _ _ gW) (hO _ _ ho) hk hk')⟩⟩
 have Wm:AR w w' S.ah ((id,Ob.row t xs' sh')::O1) β β id:=by
  refine ⟨rfl,fun t0 EA gq hj=>?_⟩;rw [aN,if_pos rfl] at hj;cases hj;exact ⟨xs,sh,hO _ _ ho,hlen⟩
 refine ⟨h.below.trans hw,h.defers,h.size,fun j ob k hj hk=>?_,fun i j oi oj k hi hj kR jY=>?_,fun j ob hj=>?_,fun t v ht=>(h.env t v (hE t v ht).1).Ip hst (fun i _ e=>hkp i e) Wm (hE t v ht).2⟩
 ·have hsz:=hw.size
  by_cases e:j=id
  ·subst e
   rw [cZ] at hk
   rcases hF k hk with h1 | ⟨j',dY,h1,h2,h3⟩
   ·have:=h.fresh j _ k (hO _ _ ho) h1;omega
   ·have:=h.fresh j' _ k h1 h3;omega
  ·rw [dE _ _ e] at hk
   have:=h.fresh j ob k (hO _ _ (hlk j ob hj e)) hk;omega
 ·by_cases ei:i=id<;>by_cases ej:j=id
  ·rw [ei,ej]
  ·subst ei
   rw [cZ] at kR;rw [dE _ _ ej] at jY;exact absurd kR (hap j oj k (hlk j oj hj ej) ej jY)
  ·subst ej
   rw [cZ] at jY;rw [dE _ _ ei] at kR;exact absurd jY (hap i oi k (hlk i oi hi ei) ei kR)
  ·rw [dE _ _ ei] at kR
   rw [dE _ _ ej] at jY;exact h.eM i j oi oj k (hO _ _ (hlk i oi hi ei)) (hO _ _ (hlk j oj hj ej)) kR jY
 ·by_cases e:j=id
  ·subst e
   have:ob = .row t xs' sh':=by simp only [aN,if_pos] at hj;cases hj;rfl
   subst this;rw [cZ];exact fO
  ·have gW:=hlk j ob hj e
   rw [dE _ _ e];have m5:=h.ah j ob (hO _ _ gW)
   have JP:∀ k,fp j k→w'.heap[k]?=w.heap[k]?:=fun k hk'=>hb k fun Wn=>e (h.eM j id _ _ k (hO _ _ gW) (hO _ _ ho) hk' Wn)
   cases ob with
   | box kd ls=>cases kd with
    | mem=>
     obtain ⟨b,cs,e',h1,h2,h3,h4⟩:=m5;exact ⟨b,cs,e',h1,(JP b ((h3 b).2 rfl)).trans h2,h3,h4.Ip hst (fun i _ e=>hkp i e) Wm (CF j _ ls gW)⟩
    | sM f n sh=>obtain ⟨us,h1,h2,h3⟩:=m5;exact ⟨us,h1,h2,h3.Ip hst (fun i _ e=>hkp i e) Wm (CF j _ ls gW)⟩
    | lX t sh=>obtain ⟨us,h1,h2,h3⟩:=m5;exact ⟨us,h1,h2,h3.Ip hst (fun i _ e=>hkp i e) Wm (CF j _ ls gW)⟩
   | row t0 EA gq=>exact m5.tr (dX:=(id,Ob.row t xs' sh')::O1) (eK:=β) (eJ:=upd fp id F') hst JP (fun _ ls els=>by cases els)
   | map mk kt vt ys c=>exact m5.tr (dX:=(id,Ob.row t xs' sh')::O1) (eK:=β) (eJ:=upd fp id F') hst JP (fun _ ls els=>by cases els)
   | ghost=>exact m5.tr (dX:=(id,Ob.row t xs' sh')::O1) (eK:=β) (eJ:=upd fp id F') hst JP (fun _ ls els=>by cases els)
theorem jI {P:Program} {base:Nat} {e:TypeId} {size n cap g:Nat} {cells:List Value} (h:w.ownsRow base e size (.slice (some ⟨g,0,none⟩) n cap) n cells) {m:Nat} {vs:List Value} (hm:m+vs.length≤n*size) (h1:∀ v∈vs,v.oneCell'=true) :
  ∃ jU,(storeCells ⟨g,m,none⟩ vs).run P w = .ok () (w.setRow g jU)∧(w.setRow g jU).ownsRow base e size (.slice (some ⟨g,0,none⟩) n cap) n (cells.take m++vs++cells.drop (m+vs.length)):=by
 obtain ⟨hl,h2⟩:=h
 rcases h2 with ⟨h2,_⟩ | ⟨g',cap',cur,h2,hb,hh,hn,hc,hs,ht⟩
 ·cases h2
 ·cases h2
  have hle:n*size≤cap*size:=Nat.mul_le_mul_right _ hn;have hst:=run_storeCells_at P g m e vs 0 cur w hh (by rw [hs];simp;omega) h1;simp only [Nat.add_zero] at hst;refine ⟨_,hst,?_,.inr ⟨g,cap,_,rfl,hb,setRow_heap w g cur _ e (0,0) hh,hn,hc,?_,?_⟩⟩
  ·simp;omega
  ·simp;omega
  ·rw [←ht]
   apply List.ext_getElem?;intro i
   have hcl:cur.toList.length=cap*size:=by simpa using hs
   have hlen:m+vs.length≤(cur.toList.take (n*size)).length:=by rw [List.length_take,hcl];omega
   have hlen':m+vs.length≤cur.toList.length:=by rw [hcl];omega
   rw [fP hlen,List.getElem?_take];simp only [List.toList_toArray];rw [fP hlen'];simp only [List.getElem?_take]
   by_cases hi:i<n*size
   ·simp [hi]
   ·have hi1:¬ i<m:=by omega
    have hi2:¬ i<m+vs.length:=by omega
    simp [hi,hi1,hi2]
end
section
variable {Ty:Type} [DecidableEq Ty] {C:Ty→Type}
variable {P:Program} {X:Cx C} {w0 w:World} {nt:Nat} {S:St C} {β:Nat→Value} {fp:Nat→Nat→Prop} {a:Act} {R:Type} {k:St C→Option R} {r:R}
variable {dst:Option Tmp} {ty:TypeId} {pos:String} {dL:Array Edge} {gd:Option (Nat×Bool)} {Q:Exit→Act→World→Prop}
theorem vm {base:Nat} {ah:cW C} {cM F:Nat→Prop} {t:Ty} {xs:List (C t)} {sh:Bool} {K:Cd C} {v:Value} (h:kO K w base ah β fp cM F (.row t xs sh) v) :
  ∃ cells,w.ownsRow base (K.tid t) (K.sz t) v xs.length cells∧(∀ g,v.ownBlock=some g→F g):=by
 cases sh with
 | false=>cases h with
  | row _ _ _ _ cells G h h1=>exact ⟨cells,h,h1⟩
 | true=>obtain ⟨cells,h1,h2,_⟩:=h;exact ⟨cells,h1,fun g hg=>(h2 g).2 hg⟩
theorem Jg {s i j o o':Nat} (ho:o<s) (ib:o'<s) (h:i*s+o=j*s+o'):i=j∧o=o':=by
 have h1:(i*s+o) / s=i:=by rw [Nat.add_comm,Nat.add_mul_div_right _ _ (by omega),Nat.div_eq_of_lt ho,Nat.zero_add]
 have h2:(j*s+o') / s=j:=by rw [Nat.add_comm,Nat.add_mul_div_right _ _ (by omega),Nat.div_eq_of_lt ib,Nat.zero_add]
 have:i=j:=by rw [←h1,← h2,h]
 subst this;exact ⟨rfl,by omega⟩
theorem lK {b b':Nat} {e e':TypeId} {s n n':Nat} {v:Value} {c c':List Value} (h:w.ownsRow b e s v n c) (h':w.ownsRow b' e' s v n' c'):c=c':=by
 obtain ⟨l,h⟩:=h;obtain ⟨l',h'⟩:=h'
 rcases h with ⟨rfl,rfl⟩ | ⟨g,cap,cur,rfl,_,hh,_,_,_,ht⟩
 ·rcases h' with ⟨_,rfl⟩ | ⟨g',_,_,e,_⟩
  ·have e1:c=[]:=List.eq_nil_of_length_eq_zero (by simpa using l)
   have e2:c'=[]:=List.eq_nil_of_length_eq_zero (by simpa using l');rw [e1,e2]
  ·cases e
 ·rcases h' with ⟨e,_⟩ | ⟨g',cap',jU,e,_,hh',_,_,_,mO⟩
  ·cases e
  ·cases e
   rw [hh] at hh';cases hh';rw [←ht,← mO]
theorem Is (hs:dc X.K w0 nt S β fp a w) {id i off:Nat} {ls ls':List (Lf C)} {us:List Value} {S1:St C} {b:Bool} {t:Ty} {xs:List (C t)} {sh:Bool} {x y:C t} {v:Value}
  (hv:db X.K w S.ah β fp (aH S.ah fp w) (.ep id [] i off) v) (hl:cT X.K w S.ah β fp (aH S.ah fp w) ls us) (hab:di S ls=some (ls',S1,b))
  (ho:lk S1.ah id=some (.row t xs sh)) (hbs:(b && !sh)=false) (hx:xs[i]?=some x) (Aj:X.K.dec t (setAt (X.K.enc t x) off ls')=some y) (hoff:off+ls.length≤X.K.sz t)
  (CC:S1.ah.any (fun x=>yP id x.2)=false) :
  ∃ p w',v = .pointer (some p)∧(storeCells p us).run P w = .ok () w'∧∃ F',dc X.K w0 nt { S1.setObj id (.row t (xs.set i y) sh) with env:=jg id S1.env } β (upd fp id F') a w':=by
 obtain ⟨g1,XQ,g2,g3,G,g4,g5,g6⟩:=o9 hs ls us S.ah ls' S1 b (fun _ _ h=>h) hab hl;have hoS:=g2 id _ ho;obtain ⟨_,hep⟩:=hv;obtain ⟨hi,q,m,c,hq,hvq⟩:=hep t xs sh hoS;have fO:=hs.ah id _ hoS;have henc:X.K.enc t y=setAt (X.K.enc t x) off ls':=X.K.js t _ _ Aj;have hlx:=X.K.gA t x
 have SZ:off+ls'.length≤(X.K.enc t x).length:=by rw [g3,hlx];exact hoff
 have hus1:us.length=ls'.length:=by rw [g3];exact hl.1
 have AZ:∀ v∈us,v.oneCell'=true:=fun v hv=>by
  obtain ⟨j,hj,rfl⟩:=List.getElem_of_mem hv
  have gW:j<ls'.length:=by omega
  have:=(g6 j ls'[j] (by simp [gW])).2
  have e:us.getD j undef=us[j]:=by simp [List.getD,hj]
  rw [e] at this;exact this.one
 have qh:xs[i]=x:=by simpa [List.getElem?_eq_getElem hi] using hx
 have hlen:(xs.set i y).length=xs.length:=by simp
 have MH:∀ o k,G o k→¬ fp id k∧k<w.heap.size∧(∀ j ob,lk S1.ah j=some ob→¬ fp j k):=fun o k hk=>by
  obtain ⟨j,ob,h1,h2,h3⟩:=g4 o k hk;refine ⟨fun h4=>?_,(hs.fresh j ob k h1 h3).2,fun j' dY h4 h5=>?_⟩
  ·have:=hs.eM j id ob _ k h1 hoS h3 h4
   subst this;rw [ho] at h2;cases h2
  ·have:=hs.eM j j' ob dY k h1 (g2 _ _ h4) h3 h5
   subst this;rw [h4] at h2;cases h2
 obtain ⟨gP,hown0,QR⟩:=vm fO;obtain ⟨g,cap,e,hbg,hnc,hcell⟩:=j8 hown0 (Nat.mul_pos (by omega) (X.K.pos t));rw [hq] at e;cases e;have hFg:fp id g:=QR g (by rw [hq];rfl);have XL:w0.heap.size≤g:=hbg
 have hm:i*X.K.sz t+off+us.length≤xs.length*X.K.sz t:=by
  have:i*X.K.sz t+X.K.sz t≤xs.length*X.K.sz t:=by rw [←Nat.succ_mul];exact Nat.mul_le_mul_right _ hi
  rw [hus1,g3];omega
 have gu:(⟨g,0,none⟩:Addr).add (i*X.K.sz t+off)=⟨g,i*X.K.sz t+off,none⟩:=by rw [eL];simp
 have CF:∀ j kd ls,lk S1.ah j=some (.box kd ls)→ls.any (lp id)=false:=fun j kd0 AY hj=>by
  have:∀ (O:cW C),O.any (fun x=>yP id x.2)=false→lk O j=some (.box kd0 AY)→AY.any (lp id)=false:=by
   intro O
   induction O with
   | nil=>intro _ h;simp [lk] at h
   | cons y r ih=>
    intro h1 h2;obtain ⟨n,u⟩:=y;rw [aN] at h2;simp only [List.any_cons,Bool.or_eq_false_iff] at h1;split at h2
    ·cases h2;exact h1.1
    ·exact ih h1.2 h2
  exact this _ CC hj
 have Hs:∀ (E:List (Nat×SV C)) t v,lk (jg id E) t=some v→lk E t=some v∧vW id v=false:=by
  intro E
  induction E with
  | nil=>intro t v h;simp [jg,lk] at h
  | cons y r ih=>
   intro t v h;obtain ⟨n,u⟩:=y;simp only [jg] at h
   cases hd:vW id u with
   | true=>
    rw [hd,cond_true] at h;rw [lg] at h;split at h
    ·cases h
    ·rename_i e
     rw [aN,if_neg e];exact ih t v h
   | false=>
    rw [hd,cond_false,aN] at h;rw [aN];split at h
    ·rename_i e;rw [if_pos e];cases h;exact ⟨rfl,hd⟩
    ·rename_i e;rw [if_neg e];exact ih t v h
 obtain ⟨jU,hrun,hown'⟩:=jI (P:=P) (by rw [hq] at hown0;exact hown0) hm AZ
 have V7:∀ k,k≠g→(w.setRow g jU).heap[k]?=w.heap[k]?:=fun k h=>setRow_other w g k jU h
 have oh:∀ j o,j<xs.length→o<X.K.sz t→(gP.take (i*X.K.sz t+off)++us++gP.drop (i*X.K.sz t+off+us.length)).getD (j*X.K.sz t+o) undef =
   if j=i∧off≤o∧o<off+us.length then us.getD (o-off) undef else gP.getD (j*X.K.sz t+o) undef:=by
  intro j o hj ib
  have hcl:i*X.K.sz t+off+us.length≤gP.length:=by rw [hown0.1];exact hm
  rw [List.getD_eq_getElem?_getD,fP hcl]
  by_cases JN:j=i
  ·subst JN
   by_cases h1:off≤o
   ·by_cases h2:o<off+us.length
    ·rw [if_neg (by omega),if_pos (by omega),if_pos ⟨rfl,h1,h2⟩]
     rw [List.getD_eq_getElem?_getD]
     congr 2
     omega
    ·rw [if_neg (by omega),if_neg (by omega),if_neg (by omega),← List.getD_eq_getElem?_getD]
   ·rw [if_pos (by omega),if_neg (by omega),← List.getD_eq_getElem?_getD]
  ·rw [if_neg (show ¬ (j=i∧off≤o∧o<off+us.length) from fun h=>JN h.1)]
   have hne:∀ o1,o1<X.K.sz t→j*X.K.sz t+o≠i*X.K.sz t+o1:=fun o1 h1 e=>JN (Jg ib h1 e).1
   rcases Nat.lt_or_ge (j*X.K.sz t+o) (i*X.K.sz t) with h1 | h1
   ·rw [if_pos (by omega),← List.getD_eq_getElem?_getD]
   ·have:i*X.K.sz t+X.K.sz t≤j*X.K.sz t+o:=by
     rcases Nat.lt_or_ge (j*X.K.sz t+o) (i*X.K.sz t+X.K.sz t) with h2 | h2
     ·exact absurd (show j*X.K.sz t+o=i*X.K.sz t+(j*X.K.sz t+o-i*X.K.sz t) by omega) (hne _ (by omega))
     ·exact h2
    rw [if_neg (by omega),if_neg (by omega),← List.getD_eq_getElem?_getD]
 have S9:∀ o l,(X.K.enc t y)[o]?=some l→o<X.K.sz t∧((off≤o∧o<off+us.length∧ls'[o-off]?=some l)∨(¬ (off≤o∧o<off+us.length)∧(X.K.enc t x)[o]?=some l)):=by
  intro o l Wh;have ib:=iG Wh;refine ⟨ib,?_⟩;rw [henc,mu _ _ _ SZ,fP SZ] at Wh;rw [hus1];split at Wh
  ·exact .inr ⟨by omega,Wh⟩
  ·split at Wh
   ·exact .inl ⟨by omega,by omega,Wh⟩
   ·exact .inr ⟨by omega,Wh⟩
 refine ⟨_,w.setRow g jU,hvq,by rw [gu];exact hrun,?_⟩
 cases sh with
 | false=>
  have hb:b=false:=by cases b<;>simp at hbs ⊢
  cases fO with
  | row _ _ _ _ cells G0 h0 h1 h2 h3 h4=>
   have hcells:cells=gP:=lK h0 hown0;subst hcells;refine ⟨fun k=>fp id k∨∃ o,G o k,?_⟩;refine hs.ub g2 ho hlen (F':=fun k=>fp id k∨∃ o,G o k) (fun k hk=>hk.imp (fun h=>h) fun ⟨o,hk⟩=>g4 o k hk) (iy g jU XL) (fun k hk=>V7 k fun e=>hk (by rw [e];exact hFg)) ?_ CF (fun t v h=>by rw [←g1];exact Hs _ t v h) S1.base
   have Td:∀ j o k,G0 j o k→fp id k∧k≠g:=fun j o k hk=>⟨(h2 j o k hk).1,fun e=>(h2 j o k hk).2 (by rw [hq,e];rfl)⟩
   refine .row _ t (xs.set i y) _ _ (fun j o k=>if j=i∧off≤o∧o<off+us.length then G (o-off) k else G0 j o k) (by rw [hlen,hq];exact hown') (fun g' hg'=>.inl (QR g' hg')) (fun j o k hk=>?_) (fun j o j' o' k hk hk'=>?_) (fun j hj o l hl'=>?_)
   ·split at hk
    ·exact ⟨.inr ⟨_,hk⟩,fun e=>(MH _ k hk).1 (QR k e)⟩
    ·exact ⟨.inl (h2 j o k hk).1,(h2 j o k hk).2⟩
   ·split at hk<;>split at hk'
    ·have:=g5 _ _ k hk hk'
     omega
    ·exact absurd (h2 j' o' k hk').1 (MH _ k hk).1
    ·exact absurd (h2 j o k hk).1 (MH _ k hk').1
    ·exact h3 j o j' o' k hk hk'
   ·have Ht:j<xs.length:=by simpa using hj
    by_cases JN:j=i
    ·subst JN
     have hl':(X.K.enc t y)[o]?=some l:=by simpa using hl'
     obtain ⟨ib,hor⟩:=S9 o l hl';rw [oh j o Ht ib]
     rcases hor with ⟨q1,q2,q3⟩ | ⟨q1,q2⟩
     ·rw [if_pos ⟨rfl,q1,q2⟩]
      refine (Own.frame ((g6 _ l q3).1 hb) (fun k hk=>V7 k fun e=>?_)).mono fun k hk=>?_
      ·subst e;exact (MH _ _ hk).1 hFg
      ·rw [if_pos ⟨rfl,q1,q2⟩];exact hk
     ·rw [if_neg (by simp;omega)]
      refine ((h4 j Ht o l (by rw [qh];exact q2)).frame fun k hk=>V7 k (Td j o k hk).2).mono fun k hk=>?_
      rw [if_neg (by simp;omega)];exact hk
    ·have hl':(X.K.enc t xs[j])[o]?=some l:=by
      rw [List.getElem_set_ne (fun e=>JN e.symm)] at hl';exact hl'
     rw [oh j o Ht (iG hl'),if_neg (by simp [JN])];simp only [JN,false_and,if_false]
     exact (h4 j Ht o l hl').frame fun k hk=>V7 k (Td j o k hk).2
 | true=>
  obtain ⟨cells,h1,h2,h3⟩:=fO;have hcells:cells=gP:=lK h1 hown0;subst hcells;refine ⟨fp id,?_⟩
  have hst:∀ k,aH S.ah fp w k→aH ((id,Ob.row t (xs.set i y) true)::S1.ah) (upd fp id (fp id)) (w.setRow g jU) k∧(w.setRow g jU).heap[k]?=w.heap[k]?:=fun k hk=>by
   refine ⟨⟨by simpa using hk.1,fun j ob hj=>?_⟩,V7 k fun e=>hk.2 id _ hoS (by rw [e];exact hFg)⟩;rw [aN] at hj
   by_cases e:j=id
   ·subst e;rw [cZ];exact hk.2 j _ hoS
   ·rw [if_neg e] at hj;rw [dE _ _ e];exact hk.2 j ob (g2 j ob hj)
  have hG:∀ o k,G o k→aH ((id,Ob.row t (xs.set i y) true)::S1.ah) (upd fp id (fp id)) (w.setRow g jU) k∧(w.setRow g jU).heap[k]?=w.heap[k]?:=fun o k hk=>by
   obtain ⟨q1,q2,q3⟩:=MH o k hk;refine ⟨⟨by simpa using q2,fun j ob hj=>?_⟩,V7 k fun e=>q1 (by rw [e];exact hFg)⟩;rw [aN] at hj
   by_cases e:j=id
   ·subst e;rw [cZ];exact q1
   ·rw [if_neg e] at hj;rw [dE _ _ e];exact q3 j ob hj
  refine hs.ub g2 ho hlen (F':=fp id) (fun k hk=>.inl hk) (iy g jU XL) (fun k hk=>V7 k fun e=>hk (by rw [e];exact hFg)) ?_ CF (fun t v h=>by rw [←g1];exact Hs _ t v h) S1.base;refine ⟨_,by rw [hlen,hq];exact hown',h2,fun j z hz o l hl'=>?_⟩
  have hj:j<xs.length:=by have:=eD hz;simpa using this
  by_cases JN:j=i
  ·subst JN
   have hzy:z=y:=by simp [hj] at hz;exact hz.symm
   subst hzy;obtain ⟨ib,hor⟩:=S9 o l hl';rw [oh j o hj ib]
   rcases hor with ⟨q1,q2,q3⟩ | ⟨q1,q2⟩
   ·rw [if_pos ⟨rfl,q1,q2⟩]
    have:=(g6 _ l q3).2
    refine (this.frame fun k hk=>?_).mono fun k hk=>?_
    ·exact hk.elim (fun h=>(hst k h).2) fun h=>(hG _ k h).2
    ·exact hk.elim (fun h=>(hst k h).1) fun h=>(hG _ k h).1
   ·rw [if_neg (by simp;omega)]
    exact ((h3 j x hx o l q2).frame fun k hk=>(hst k hk).2).mono fun k hk=>(hst k hk).1
  ·have hz':xs[j]?=some z:=by rw [List.getElem?_set_ne (fun e=>JN e.symm)] at hz;exact hz
   rw [oh j o hj (iG hl'),if_neg (by simp [JN])]
   exact ((h3 j z hz' o l hl').frame fun k hk=>(hst k hk).2).mono fun k hk=>(hst k hk).1
theorem PM (hX:je P X) (hs:dc X.K w0 nt S β fp a w) {t:TypeId} {x y:Operand} (h:ev X ⟨dst,.store t x y,ty,pos,dL,gd⟩ S k=some r):Goal P X w0 nt k r Q ⟨dst,.store t x y,ty,pos,dL,gd⟩ a w:=by
 simp only [ev] at h;split at h
 ·rename_i tk id off v ht hx hv
  obtain ⟨hf,h⟩:=aw h;obtain ⟨rE,qX⟩:=Ar hf;split at h
  ·rename_i ls ho
   obtain ⟨hb,h⟩:=aw h;have hb:=Nat.le_of_ble_eq_true hb;obtain ⟨b,h1,h2⟩:=fu (cG hs hx);have hc:=nQ (dM hs hv) qX;obtain ⟨w',hr,hs'⟩:=Iu (P:=P) hs ho hc (by rw [rE];exact hb) h1;refine wp_skip (w':=w') ?_ ⟨_,⟨β,fp,hs'.drop dst undef⟩,h⟩
   have hsz:(a.eval y).cells.size=tk.size:=by rw [←rE,← hc.1];simp
   simp only [execOp,Instr.storeAt,h2,Instr.sureAddr,Sem.run_bind,Sem.run_pure,Result.andThen_ok,qx (hX.tk _ _ ht) hsz];rw [hr];rfl
  ·cases h
 ·rename_i tk id i off v ht hx hv
  obtain ⟨hf,h⟩:=aw h;obtain ⟨rE,qX⟩:=Ar hf;split at h
  ·rename_i ls S' b hab
   split at h
   ·rename_i t1 xs sh ho
    obtain ⟨hbs,h⟩:=eS h
    cases hx':xs[i]? with
    | none=>rw [hx'] at h;cases h
    | some z=>
     rw [hx'] at h;simp only [Option.bind_some] at h;split at h
     ·rename_i z' Aj
      obtain ⟨hb,h⟩:=aw h;obtain ⟨hdp,h⟩:=eS h;have hb:=Nat.le_of_ble_eq_true hb;have hc:=nQ (dM hs hv) qX;obtain ⟨p,w',h2,hr,F',hs'⟩:=Is (P:=P) hs (fu (cG hs hx)) hc hab ho hbs hx' Aj (by rw [rE];exact hb) hdp;refine wp_skip (w':=w') ?_ ⟨_,⟨β,_,hs'.drop dst undef⟩,h⟩
      have hsz:(a.eval y).cells.size=tk.size:=by rw [←rE,← hc.1];simp
      simp only [execOp,Instr.storeAt,h2,Instr.sureAddr,Sem.run_bind,Sem.run_pure,Result.andThen_ok,qx (hX.tk _ _ ht) hsz];rw [hr];rfl
     ·cases h
   ·cases h
  ·cases h
 ·cases h
end
section
variable {Ty:Type} [DecidableEq Ty] {C:Ty→Type}
variable {P:Program} {X:Cx C} {w0 w:World} {nt:Nat} {S:St C} {β:Nat→Value} {fp:Nat→Nat→Prop} {a:Act} {R:Type} {k:St C→Option R} {r:R}
variable {dst:Option Tmp} {ty:TypeId} {pos:String} {dL:Array Edge} {gd:Option (Nat×Bool)} {Q:Exit→Act→World→Prop}
def jc (S:St C) (fp:Nat→Nat→Prop) (O1:cW C) (k:Nat):Prop:=∃ j ob,lk S.ah j=some ob∧lk O1 j=none∧fp j k
theorem n9 {K:Cd C} (h:dc K w0 nt S β fp a w) {O1:cW C} (hO:∀ j ob,lk O1 j=some ob→lk S.ah j=some ob) {j:Nat} {ob:Ob C} (hj:lk O1 j=some ob) {k:Nat} (hk:fp j k):¬ jc S fp O1 k:=by
 rintro ⟨j',dY,h1,h2,h3⟩
 have:=h.eM j j' ob dY k (hO j ob hj) h1 hk h3;subst this;rw [hj] at h2;cases h2
theorem rK {K:Cd C} (h:dc K w0 nt S β fp a w) {O1:cW C} (hO:∀ j ob,lk O1 j=some ob→lk S.ah j=some ob) {w':World} (hsz:w.heap.size≤w'.heap.size) (hb:∀ k,k<w.heap.size→¬ jc S fp O1 k→w'.heap[k]?=w.heap[k]?)
  {id:Nat} {ob:Ob C} {F:Nat→Prop} (hF:∀ k,F k→jc S fp O1 k∨w.heap.size≤k) {k:Nat} (hk:aH S.ah fp w k) :
  aH ((id,ob)::O1) (upd fp id F) w' k∧w'.heap[k]?=w.heap[k]?:=by
 have hnl:¬ jc S fp O1 k:=fun ⟨j,dY,h1,_,h3⟩=>hk.2 j dY h1 h3
 refine ⟨⟨Nat.lt_of_lt_of_le hk.1 hsz,fun j dY hj=>?_⟩,hb k hk.1 hnl⟩;rw [aN] at hj
 by_cases e:j=id
 ·subst e
  rw [cZ];intro hf
  rcases hF k hf with h1 | h1
  ·exact hnl h1
  ·have:=hk.1;omega
 ·rw [if_neg e] at hj
  rw [dE _ _ e];exact hk.2 j dY (hO j dY hj)
theorem tq {K:Cd C} (h:dc K w0 nt S β fp a w) {O1:cW C} (hO:∀ j ob,lk O1 j=some ob→lk S.ah j=some ob) {w':World} (hb:∀ k,k<w.heap.size→¬ jc S fp O1 k→w'.heap[k]?=w.heap[k]?)
  {id:Nat} {ob:Ob C} {hv:Value} {F:Nat→Prop} {i:Nat} (hne:i≠id):iQ w w' S.ah ((id,ob)::O1) β (upd β id hv) fp (upd fp id F) i:=by
 refine ⟨dE _ _ hne,fun t xs sh hj=>?_⟩;rw [aN,if_neg hne] at hj;exact ⟨hO _ _ hj,fun k hk=>⟨by rw [dE _ _ hne];exact hk,hb k (h.fresh i _ k (hO _ _ hj) hk).2 (n9 h hO hj hk)⟩⟩
theorem dc.KR {K:Cd C} (h:dc K w0 nt S β fp a w) {O1:cW C} (hO:∀ j ob,lk O1 j=some ob→lk S.ah j=some ob) {w':World} (hw:Below w0.heap.size w w') (hb:∀ k,k<w.heap.size→¬ jc S fp O1 k→w'.heap[k]?=w.heap[k]?)
  {id:Nat} (iP:id∉gg S.env∧id∉eB O1) {ob:Ob C} {hv:Value} {F:Nat→Prop} (hF:∀ k,F k→jc S fp O1 k∨(w.heap.size≤k∧k<w'.heap.size))
  (fO:kO K w' w0.heap.size ((id,ob)::O1) (upd β id hv) (upd fp id F) (aH ((id,ob)::O1) (upd fp id F) w') F ob hv) (bs:Nat) :
  dc K w0 nt ⟨S.env,(id,ob)::O1,bs⟩ (upd β id hv) (upd fp id F) a w':=by
 have hst:=fun k hk=>rK h hO hw.size hb (id:=id) (ob:=ob) (F:=F) (fun k hk=>(hF k hk).imp (fun h=>h) fun h=>h.1) (k:=k) hk
 have hsz0:=h.below.size
 have hFi:∀ k,F k→∀ j dY,lk O1 j=some dY→¬ fp j k:=fun k hk j dY hj hjk=>by
  rcases hF k hk with h1 | h1
  ·exact n9 h hO hj hjk h1
  ·have:=(h.fresh j dY k (hO _ _ hj) hjk).2;omega
 refine ⟨h.below.trans hw,h.defers,h.size,fun j dY k ho hk=>?_,fun i j oi oj k hi hj kR jY=>?_,fun j dY ho=>?_,fun t v ht=>?_⟩
 ·rw [aN] at ho
  by_cases e:j=id
  ·subst e
   rw [cZ] at hk;have:=hw.size
   rcases hF k hk with ⟨j',zW,h1,h2,h3⟩ | h1
   ·have:=h.fresh j' zW k h1 h3;omega
   ·omega
  ·rw [if_neg e] at ho
   rw [dE _ _ e] at hk;have:=h.fresh j dY k (hO _ _ ho) hk;have:=hw.size;omega
 ·rw [aN] at hi hj
  by_cases ei:i=id<;>by_cases ej:j=id
  ·rw [ei,ej]
  ·subst ei
   rw [if_neg ej] at hj;rw [cZ] at kR;rw [dE _ _ ej] at jY;exact absurd jY (hFi k kR j oj hj)
  ·subst ej
   rw [if_neg ei] at hi;rw [cZ] at jY;rw [dE _ _ ei] at kR;exact absurd kR (hFi k jY i oi hi)
  ·rw [if_neg ei] at hi
   rw [if_neg ej] at hj;rw [dE _ _ ei] at kR;rw [dE _ _ ej] at jY;exact h.eM i j oi oj k (hO _ _ hi) (hO _ _ hj) kR jY
 ·rw [aN] at ho
  by_cases e:j=id
  ·subst e
   rw [if_pos rfl] at ho;cases ho;rw [cZ,cZ];exact fO
  ·rw [if_neg e] at ho
   rw [dE _ _ e,dE _ _ e]
   exact (h.ah j dY (hO _ _ ho)).tr hst (fun k hk=>hb k (h.fresh j dY k (hO _ _ ho) hk).2 (n9 h hO ho hk)) fun kd ls els i hi=>tq h hO hb fun ei=>iP.2 (by subst ei;exact (kY ho).2 kd ls els i hi)
 ·exact (h.env t v ht).tr hst fun i hi=>tq h hO hb fun ei=>iP.1 (by subst ei;exact kZ ht hi)
theorem oE {w0:World} {row:Option Nat} {w':World} (h:w.grownBy w' row) (hr:∀ g,row=some g→w0.heap.size≤g) (hsz:w0.heap.size≤w.heap.size):Below w0.heap.size w w':=
 ⟨h.os,h.tape,h.output,h.size,fun k hk=>h.block k (by omega) fun e=>by have:=hr k e.symm;omega⟩
theorem rV {b b':Nat} {e:TypeId} {s n:Nat} {v:Value} {cs:List Value} (h:w.ownsRow b e s v n cs) (hb:b'≤b):w.ownsRow b' e s v n cs:=by
 obtain ⟨h1,h2⟩:=h;refine ⟨h1,?_⟩
 rcases h2 with h2 | ⟨g,cap,cur,rfl,hg,r⟩
 ·exact .inl h2
 ·exact .inr ⟨g,cap,cur,rfl,Nat.le_trans hb hg,r⟩
theorem uf {b:Nat} {e:TypeId} {s n:Nat} {v:Value} {cs:List Value} (h:w.ownsRow b e s v n cs) {g:Nat} (hg:v.ownBlock=some g):b≤g∧g<w.heap.size:=h.lt g hg
theorem Bx (hX:je P X) (hs:dc X.K w0 nt S β fp a w) (hd:slot dst nt) {t:TypeId} {x y:Operand} (h:ev X ⟨dst,.makeSlice t x y,ty,pos,dL,gd⟩ S k=some r):Goal P X w0 nt k r Q ⟨dst,.makeSlice t x y,ty,pos,dL,gd⟩ a w:=by
 simp only [ev] at h
 cases hz0:qU x with
 | true=>
  rw [hz0] at h;simp only [cond_true] at h;split at h
  case h_2=>cases h
  rename_i t1 km m ht hy;obtain ⟨h0,hB⟩:=aw h;obtain ⟨h1,hC⟩:=aw hB;clear h hB;have h0:=of_decide_eq_true h0;have h1:=of_decide_eq_true h1;split at hC
  case h_2=>cases hC
  rename_i S' gu
  have hx:∃ kn,a.eval x = .int kn 0:=by
   unfold qU at hz0;split at hz0
   ·rename_i kn n
    have:=of_decide_eq_true hz0;subst this;exact ⟨kn,rfl⟩
   ·cases hz0
  obtain ⟨kn,hx⟩:=hx;obtain ⟨hn,rfl⟩:=jv gu;have hy:=cG hs hy;simp only [dD,db] at hy;obtain ⟨i,z,hi,hsz,hby,hpos,hz,hzs,Pj⟩:=hX.el t1;obtain ⟨n',rfl⟩:∃ n':Nat,m=n':=⟨m.toNat,by omega⟩
  have hb:n'*X.K.bytes t1≤140737488355328:=by
   have:((n'*X.K.bytes t1:Nat):Int)≤140737488355328:=by rw [Int.natCast_mul];exact h1
   omega
  have qi:n'≤140737488355328:=Nat.le_trans (Nat.le_mul_of_pos_right _ hpos) hb;obtain ⟨w',hr,hown,hg⟩:=run_make_own (P:=P) w w.heap.size t (X.K.tid t1) i z (X.K.sz t1) (hX.tk _ _ ht).dR hi hz hsz kn km n' (by rw [hby,Nat.mul_comm];omega) (by simp only [maxLen];omega) (Nat.le_refl _);have hsz0:=hs.below.size;have hw:Below w.heap.size w w':=oE (w0:=w) hg (fun g e=>by cases e) (Nat.le_refl _);have hlt:=uf hown (g:=w.heap.size) rfl
  have h2:=hs.wm hw hn (ob:=.row t1 [] false) (hv:=.slice (some ⟨w.heap.size,0,none⟩) 0 n') (F:=fun k=>k=w.heap.size) (fun k hk=>⟨by omega,by omega⟩)
   (.row _ t1 [] _ [] (fun _ _ _=>False) (rV hown hsz0) (fun g hg=>by simp [Value.ownBlock] at hg;omega) (fun _ _ _ h=>h.elim) (fun _ _ _ _ _ h=>h.elim) (fun j hj=>absurd hj (by simp)))
  refine bl (v:=.slice (some ⟨w.heap.size,0,none⟩) 0 n') (w':=w') ?_ (bn h2 hd (v:=.one (.ref _ [])) ⟨rfl,(cZ _ _ _).symm⟩ hC);simp only [execOp,hx,hy,Sem.run_bind,hr,Result.andThen_ok,Sem.run_pure]
 | false=>
 rw [hz0] at h;simp only [cond_false] at h;split at h
 ·rename_i t1 kn n km m ht hx hy
  obtain ⟨e,hA⟩:=aw h;obtain ⟨h0,hB⟩:=aw hA;obtain ⟨h1,hC⟩:=aw hB;clear h hA hB;have e:=of_decide_eq_true e;have h0:=of_decide_eq_true h0;have h1:=of_decide_eq_true h1;subst e;have h:=hC;clear hC;split at h
  ·rename_i S' gu
   obtain ⟨hn,rfl⟩:=jv gu;have hx:=cG hs hx;have hy:=cG hs hy;simp only [dD,db] at hx hy;obtain ⟨i,z,hi,hsz,hby,hpos,hz,hzs,Pj⟩:=hX.el t1;obtain ⟨n',rfl⟩:∃ n':Nat,n=n':=⟨n.toNat,by omega⟩
   have hb:n'*X.K.bytes t1≤140737488355328:=by
    have:((n'*X.K.bytes t1:Nat):Int)≤140737488355328:=by rw [Int.natCast_mul];exact h1
    omega
   have qi:n'≤140737488355328:=Nat.le_trans (Nat.le_mul_of_pos_right _ hpos) hb;obtain ⟨w',hr,hown,hg⟩:=run_make_full (P:=P) w w.heap.size t (X.K.tid t1) i z (X.K.sz t1) (hX.tk _ _ ht).dR hi hz hsz kn km n' (by rw [hby,Nat.mul_comm];omega) (by simp only [maxLen];omega) (Nat.le_refl _);have hsz0:=hs.below.size;have hw:Below w.heap.size w w':=oE (w0:=w) hg (fun g e=>by cases e) (Nat.le_refl _);have hlt:=uf hown (g:=w.heap.size) rfl
   have hcell:∀ j i',j<n'→i'<X.K.sz t1→(madeCells z.cells (n'*X.K.sz t1)).toList.getD (j*X.K.sz t1+i') undef=z.cells.getD i' undef:=fun j i' hj eR=>by
    have hm:j*X.K.sz t1+i'<n'*X.K.sz t1:=iw hj eR
    have Wl:(j*X.K.sz t1+i') % X.K.sz t1=i':=by rw [Nat.add_comm,Nat.add_mul_mod_self_right,Nat.mod_eq_of_lt eR]
    simp [madeCells,List.getD,hm,hzs,Wl,getElem!_def,Array.getD_eq_getD_getElem?,eR]
   have h2:=hs.wm hw hn (ob:=.row t1 (List.replicate n' (X.K.zero t1)) false) (hv:=.slice (some ⟨w.heap.size,0,none⟩) n' n') (F:=fun k=>k=w.heap.size) (fun k hk=>⟨by omega,by omega⟩)
    (.row _ t1 _ _ (madeCells z.cells (n'*X.K.sz t1)).toList (fun _ _ _=>False) (by simpa using rV hown hsz0) (fun g hg=>by simp [Value.ownBlock] at hg;omega) (fun _ _ _ h=>h.elim) (fun _ _ _ _ _ h=>h.elim) (fun j hj i' l hl=>by
     have gW:j<n':=by simpa using hj
     have hl:(X.K.enc t1 (X.K.zero t1))[i']?=some l:=by simpa using hl
     rw [hcell j i' gW (iG hl)]
     exact Pj i' l hl w' _ _))
   refine bl (v:=.slice (some ⟨w.heap.size,0,none⟩) n' n') (w':=w') ?_ (bn h2 hd (v:=.one (.ref _ [])) ⟨rfl,(cZ _ _ _).symm⟩ (by simpa using h));simp only [execOp,hx,hy,Sem.run_bind,hr,Result.andThen_ok,Sem.run_pure]
  ·cases h
 ·cases h
theorem qa {t e:TypeId} {base:Nat} {i:TypeInfo} {z:Value} {size bytes:Nat} (ht:P.underlying t=some (.slice e)) (hi:P.info? e=some i) (hz:i.zero=some z) (hsize:i.size=size) (hby:i.bytes=bytes) (hzs:z.cells.size=size) (hsz:0<size)
  {v:Value} {n:Nat} {cs:List Value} (hown:w.ownsRow base e size v n cs) {A:Option Addr} {m c:Nat} {f:Nat→Value} (hA:0<m→∃ p,A=some p∧∀ j,j<m*size→w.cell? (p.add j)=some (f j)) (h1:∀ j,j<m*size→(f j).oneCell'=true)
  (h63:n+m≤maxLen) (hbytes:(n+m)*bytes≤140737488355328) (hbase:base≤w.heap.size) {ty:TypeId} :
  ∃ v' w',(Builtin.append_ #[t,t] ty #[v,.slice A m c]).run P w = .ok v' w'∧w'.ownsRow base e size v' (n+m) (cs++(List.range (m*size)).map f)∧w.grownBy w' v.ownBlock∧(v'.ownBlock=v.ownBlock∨v'.ownBlock=some w.heap.size):=by
 cases A with
 | some p=>
  have hnews:∀ j u,((List.range (m*size)).map f)[j]?=some u→w.cell? (p.add j)=some u:=fun j u hu=>by
   simp only [List.getElem?_map,Option.map_eq_some_iff] at hu;obtain ⟨j',hj,rfl⟩:=hu;have hlt:=eD hj;simp only [List.length_range] at hlt
   have:j'=j:=by simp [hlt] at hj;exact hj.symm
   subst this
   have hm:0<m:=by
    rcases Nat.eq_zero_or_pos m with h | h
    ·subst h;simp at hlt
    ·exact h
   obtain ⟨p',e,hc⟩:=hA hm;cases e;exact hc _ hlt
  obtain ⟨v',w',q1,q2,q3,_,q4⟩:=run_append_own_at (P:=P) w base t ty e i z size bytes ht hi hz hsize hby hzs hsz v n cs hown p m c ((List.range (m*size)).map f) (by simp) hnews
   (fun u hu=>by
    obtain ⟨j,hj,rfl⟩:=List.mem_map.1 hu
    exact h1 j (by simpa using hj)) h63 hbytes hbase
  exact ⟨v',w',q1,q2,q3,q4⟩
 | none=>
  have hm:m=0:=by
   rcases Nat.eq_zero_or_pos m with h | h
   ·exact h
   ·obtain ⟨p,e,_⟩:=hA h;cases e
  subst hm;refine ⟨v,w,?_,by simpa using hown,⟨rfl,rfl,rfl,Nat.le_refl _,fun _ _ _=>rfl⟩,.inl rfl⟩
  rcases hown.2 with ⟨rfl,rfl⟩ | ⟨g,cap,cur,rfl,_,_,hnc,_⟩
  ·simp [Builtin.append_,run_underlying ht,sizeOf,typeInfo,hi,Builtin.lenOf,Builtin.firstCells]
  ·simp [Builtin.append_,run_underlying ht,sizeOf,typeInfo,hi,Builtin.lenOf,Builtin.firstCells,hnc,storeCells]
end
section
variable {Ty:Type} [DecidableEq Ty] {C:Ty→Type}
variable {P:Program} {X:Cx C} {w0 w:World} {nt:Nat} {S:St C} {β:Nat→Value} {fp:Nat→Nat→Prop} {a:Act} {R:Type} {k:St C→Option R} {r:R}
variable {dst:Option Tmp} {ty:TypeId} {pos:String} {dL:Array Edge} {gd:Option (Nat×Bool)} {Q:Exit→Act→World→Prop}
def kI (K:Cd C) (w:World) (base:Nat) (cM D:Nat→Prop) (t:Ty) (xs:List (C t)) (own:Option Nat) (val:Nat→Value) (sh:Bool):Prop:=
 ∃ G:Nat→Nat→Nat→Prop,(∀ j i k,G j i k→D k∧own≠some k)∧(∀ j i j' i' k,G j i k→G j' i' k→j=j'∧i=i') ∧
  ∀ (j:Nat) (x:C t),xs[j]?=some x→∀ (i:Nat) (l:Lf C),(K.enc t x)[i]?=some l→(sh=false→Own K w base (G j i) l (val (j*K.sz t+i)))∧gT K w (fun k=>cM k∨G j i k) l (val (j*K.sz t+i))
theorem o5 {K:Cd C} {base:Nat} {cM D:Nat→Prop} {t:Ty} {own:Option Nat} {val:Nat→Value} {sh:Bool}:kI K w base cM D t [] own val sh:=
 ⟨fun _ _ _=>False,fun _ _ _ h=>h.elim,fun _ _ _ _ _ h=>h.elim,fun j x h=>by simp at h⟩
theorem nY {K:Cd C} {base:Nat} {ah:cW C} {cM F:Nat→Prop} {t:Ty} {xs:List (C t)} {sh:Bool} {v:Value} (h:kO K w base ah β fp cM F (.row t xs sh) v) :
  ∃ cs,w.ownsRow base (K.tid t) (K.sz t) v xs.length cs∧(∀ g,v.ownBlock=some g→F g)∧kI K w base cM F t xs v.ownBlock (fun m=>cs.getD m undef) sh:=by
 cases sh with
 | false=>cases h with
  | row _ _ _ _ cells G h h1 h2 h3 h4=>
   refine ⟨cells,h,h1,G,h2,h3,fun j x hx i l hl=>?_⟩;have hj:=eD hx
   have qh:xs[j]=x:=by simpa [List.getElem?_eq_getElem hj] using hx
   have:=h4 j hj i l (by rw [qh];exact hl);exact ⟨fun _=>this,this.rep.mono fun k hk=>.inr hk⟩
 | true=>
  obtain ⟨cells,h1,h2,h3⟩:=h;exact ⟨cells,h1,fun g hg=>(h2 g).2 hg,fun _ _ _=>False,fun _ _ _ h=>h.elim,fun _ _ _ _ _ h=>h.elim,fun j x hx i l hl=>⟨(fun h=>by cases h),(h3 j x hx i l hl).mono fun k hk=>.inl hk⟩⟩
def Handed (K:Cd C) (w:World) (base:Nat) (cM D:Nat→Prop) (t:Ty) (ys:List (C t)) (v:Value) (sh:Bool):Prop:=
 ∃ A c f,v = .slice A ys.length c∧(0<ys.length→∃ p,A=some p∧∀ j,j<ys.length*K.sz t→w.cell? (p.add j)=some (f j))∧kI K w base cM D t ys v.ownBlock f sh
theorem sA {K:Cd C} {base:Nat} {ah:cW C} {cM F:Nat→Prop} {t:Ty} {xs:List (C t)} {sh:Bool} {v:Value} (h:kO K w base ah β fp cM F (.row t xs sh) v):Handed K w base cM F t xs v sh:=by
 obtain ⟨cs,h1,h2,h3⟩:=nY h;obtain ⟨A,c,e,hA⟩:=fC h1;refine ⟨A,c,fun m=>cs.getD m undef,e,fun hp=>?_,h3⟩;obtain ⟨g,cap,e',_,_,hc⟩:=j8 h1 (Nat.mul_pos hp (K.pos t));rw [e] at e';cases e';exact ⟨_,rfl,hc⟩
theorem vL {K:Cd C} {base:Nat} {cM:Nat→Prop} {t:Ty} {xs:List (C t)} {v:Value} (h:gT K w cM (.row t xs) v):Handed K w base cM (fun _=>False) t xs v true:=by
 cases h with
 | row _ _ A c p U hc hA hcell m4=>
  refine ⟨A,c,U,rfl,fun hp=>?_,fun _ _ _=>False,fun _ _ _ h=>h.elim,fun _ _ _ _ _ h=>h.elim,fun j x hx i l hl=>⟨(fun h=>by cases h),?_⟩⟩
  ·have hne:=List.length_pos_iff.1 hp
   exact ⟨p,(hA hne).1,hcell hne⟩
  ·have hj:=eD hx
   have qh:xs[j]=x:=by simpa [List.getElem?_eq_getElem hj] using hx
   exact (m4 j hj i l (by rw [qh];exact hl)).mono fun k hk=>.inl hk
theorem vM {K:Cd C} {base:Nat} {cM:Nat→Prop} {t:Ty} {sh:Bool}:Handed K w base cM (fun _=>False) t ([]:List (C t)) (.slice none 0 0) sh:=
 ⟨none,0,fun _=>undef,rfl,fun h=>absurd h (by simp),o5⟩
theorem pZ {K:Cd C} {base:Nat} {cM D:Nat→Prop} {t:Ty} {ys:List (C t)} {own:Option Nat} {f:Nat→Value} {sh:Bool} (h:kI K w base cM D t ys own f sh):∀ m,m<ys.length*K.sz t→(f m).oneCell'=true:=by
 obtain ⟨G,_,_,h⟩:=h;intro m hm;have hj:m / K.sz t<ys.length:=Nat.div_lt_of_lt_mul (by rw [Nat.mul_comm];exact hm);have hi:m % K.sz t<K.sz t:=Nat.mod_lt _ (K.pos t)
 have eR:m % K.sz t<(K.enc t ys[m / K.sz t]).length:=by rw [K.gA];exact hi
 have:=(h (m / K.sz t) ys[m / K.sz t] (by simp [hj]) (m % K.sz t) (K.enc t ys[m / K.sz t])[m % K.sz t] (by simp [eR])).2.one
 rwa [Nat.mul_comm,Nat.div_add_mod] at this
theorem mD {K:Cd C} {t:Ty} (hf:K.flat t=true) {x:C t} {i:Nat} {l:Lf C} (hl:(K.enc t x)[i]?=some l) {F:Nat→Prop} {v:Value} (h:gT K w F l v) {w':World} {base:Nat} {G:Nat→Prop}:Own K w' base G l v:=by
 cases h with
 | int=>exact .int ..
 | bool=>exact .bool ..
 | str=>exact .str ..
 | bP=>exact .bP ..
 | row t' ys=>exact absurd (List.mem_of_getElem? hl) (K.vU t hf x t' ys)
theorem CG {K:Cd C} {base:Nat} {cM:Nat→Prop} {t:Ty} {xs:List (C t)} {v:Value} {F:Nat→Prop} (hf:K.flat t=true) (h:gT K w F (.row t xs) v):Handed K w base cM (fun _=>False) t xs v false:=by
 cases h with
 | row _ _ A c p U hc hA hcell m4=>
  refine ⟨A,c,U,rfl,fun hp=>?_,fun _ _ _=>False,fun _ _ _ h=>h.elim,fun _ _ _ _ _ h=>h.elim,fun j x hx i l hl=>?_⟩
  ·have hne:=List.length_pos_iff.1 hp
   exact ⟨p,(hA hne).1,hcell hne⟩
  ·have hj:=eD hx
   have qh:xs[j]=x:=by simpa [List.getElem?_eq_getElem hj] using hx
   have hr:=m4 j hj i l (by rw [qh];exact hl);have ho:Own K w base (fun _=>False) l (U (j*K.sz t+i)):=mD hf hl hr;exact ⟨fun _=>ho,ho.rep.mono fun k hk=>.inr hk⟩
theorem CJ {cs:List Value} {n m:Nat} {f:Nat→Value} (hc:cs.length=n) (i:Nat):(cs++(List.range m).map f).getD i undef=if i<n then cs.getD i undef else if i<n+m then f (i-n) else undef:=by
 rw [List.getD_eq_getElem?_getD]
 by_cases h:i<n
 ·rw [List.getElem?_append_left (by omega),if_pos h,List.getD_eq_getElem?_getD]
 ·rw [List.getElem?_append_right (by omega),if_neg h,hc]
  by_cases h2:i<n+m
  ·rw [if_pos h2];simp [show i-n<m by omega]
  ·rw [if_neg h2];simp [show ¬ i-n<m by omega]
theorem AD {α:Type} {xs ys:List α} {j:Nat} {x:α} (h:(xs++ys)[j]?=some x):(j<xs.length∧xs[j]?=some x)∨(xs.length≤j∧ys[j-xs.length]?=some x):=by
 by_cases hj:j<xs.length
 ·rw [List.getElem?_append_left hj] at h;exact .inl ⟨hj,h⟩
 ·rw [List.getElem?_append_right (by omega)] at h;exact .inr ⟨by omega,h⟩
def fromB {α:Type} (xs ys:List α) (j:Nat) (x:α):Sum Nat Nat→Prop
 | .inl a=>xs[a]?=some x
 | .inr a=>ys[a]?=some x
theorem HV {K:Cd C} {base:Nat} {cM D0 D1:Nat→Prop} {t:Ty} {xs ys zs:List (C t)} {kW IZ:Option Nat} {cs cells:List Value} {f:Nat→Value} {gq nL sh:Bool} (σ:Nat→Sum Nat Nat)
  (h0:kI K w base cM D0 t xs kW (fun m=>cs.getD m undef) gq) (h1:kI K w base cM D1 t ys IZ f nL) (hd:∀ k,D0 k→¬ D1 k)
  (hσ:∀ j j',j<zs.length→j'<zs.length→σ j=σ j'→j=j')
  (hz:∀ j x,zs[j]?=some x→fromB xs ys j x (σ j)∧∀ i,i<K.sz t→cells.getD (j*K.sz t+i) undef=(match σ j with | .inl a=>cs.getD (a*K.sz t+i) undef | .inr a=>f (a*K.sz t+i)))
  {w':World} {v':Value} (hown:w'.ownsRow base (K.tid t) (K.sz t) v' zs.length cells)
  (hv:∀ g,v'.ownBlock=some g→(kW=some g∨(¬ D0 g))∧¬ D1 g)
  (hw:∀ k,(D0 k∨D1 k∨cM k)→kW≠some k→w'.heap[k]?=w.heap[k]?)
  (Fy:∀ k,cM k→kW≠some k)
  (hsh:sh=cond (K.flat t) false (gq||nL)) {ah:cW C} {eH:Nat→Prop} (hst:∀ k,cM k→eH k) (hnew:∀ k,sh=true→(D0 k∨D1 k)→v'.ownBlock≠some k→kW≠some k→eH k) (XO:∀ g,kW=some g→D0 g) :
  kO K w' base ah β fp eH (cond sh (fun g=>v'.ownBlock=some g) (fun k=>v'.ownBlock=some k∨D0 k∨D1 k)) (.row t zs sh) v':=by
 obtain ⟨G0,a1,a2,a3⟩:=h0;obtain ⟨G1,b1,b2,b3⟩:=h1
 have n0:∀ j i k,G0 j i k→kW≠some k:=fun j i k hk=>(a1 j i k hk).2
 have n1:∀ j i k,G1 j i k→kW≠some k:=fun j i k hk e=>hd k (XO k e) (b1 j i k hk).1
 cases Wc:sh with
 | false=>
  rw [Wc] at hsh;rw [cond_false];refine .row _ t zs v' _ (fun j i k=>cond (K.flat t) False (j<zs.length∧match σ j with | .inl a=>G0 a i k | .inr a=>G1 a i k)) hown (fun g hg=>.inl hg) (fun j i k hk=>?_) (fun j i j' i' k hk hk'=>?_) (fun j hj i l hl=>?_)
  ·cases hf:K.flat t with
   | true=>rw [hf] at hk;exact hk.elim
   | false=>
    rw [hf,cond_false] at hk;have hk:=hk.2;split at hk
    ·exact ⟨.inr (.inl (a1 _ i k hk).1),fun e=>by
      rcases (hv k e).1 with h | h
      ·exact n0 _ i k hk h
      ·exact h (a1 _ i k hk).1⟩
    ·exact ⟨.inr (.inr (b1 _ i k hk).1),fun e=>(hv k e).2 (b1 _ i k hk).1⟩
  ·cases hf:K.flat t with
   | true=>rw [hf] at hk;exact hk.elim
   | false=>
    rw [hf,cond_false] at hk hk';obtain ⟨hj,hk⟩:=hk;obtain ⟨gW,hk'⟩:=hk';split at hk<;>split at hk'
    ·rename_i e _ _ e'
     have:=a2 _ i _ i' k hk hk';exact ⟨hσ j j' hj gW (by rw [e,e',this.1]),this.2⟩
    ·exact absurd (b1 _ i' k hk').1 (hd k (a1 _ i k hk).1)
    ·exact absurd (b1 _ i k hk).1 (hd k (a1 _ i' k hk').1)
    ·rename_i e _ _ e'
     have:=b2 _ i _ i' k hk hk';exact ⟨hσ j j' hj gW (by rw [e,e',this.1]),this.2⟩
  ·have hx:zs[j]?=some zs[j]:=by simp
   obtain ⟨hz1,hz2⟩:=hz j _ hx;rw [hz2 i (iG hl)]
   cases e:σ j with
   | inl a=>
    rw [e] at hz1;have hh:=a3 a _ hz1 i l hl
    cases hf:K.flat t with
    | true=>exact mD hf hl hh.2
    | false=>
     rw [hf,cond_false] at hsh
     have hs0:gq=false:=by cases gq<;>simp at hsh ⊢
     refine ((hh.1 hs0).frame fun k hk=>hw k (.inl (a1 a i k hk).1) (n0 a i k hk)).mono fun k hk=>?_
     exact ⟨hj,hk⟩
   | inr a=>
    rw [e] at hz1;have hh:=b3 a _ hz1 i l hl
    cases hf:K.flat t with
    | true=>exact mD hf hl hh.2
    | false=>
     rw [hf,cond_false] at hsh
     have hs1:nL=false:=by cases nL<;>simp at hsh ⊢
     refine ((hh.1 hs1).frame fun k hk=>hw k (.inr (.inl (b1 a i k hk).1)) (n1 a i k hk)).mono fun k hk=>?_
     exact ⟨hj,hk⟩
 | true=>
  rw [cond_true];refine ⟨_,hown,fun g=>Iff.rfl,fun j x hx i l hl=>?_⟩;obtain ⟨hz1,hz2⟩:=hz j x hx;rw [hz2 i (iG hl)]
  cases e:σ j with
  | inl a=>
   rw [e] at hz1;have hh:=(a3 a _ hz1 i l hl).2
   refine (hh.frame fun k hk=>?_).mono fun k hk=>?_
   ·rcases hk with h | h
    ·exact hw k (.inr (.inr h)) (Fy k h)
    ·exact hw k (.inl (a1 a i k h).1) (n0 a i k h)
   ·rcases hk with h | h
    ·exact hst k h
    ·refine hnew k Wc (.inl (a1 a i k h).1) (fun e=>?_) (n0 a i k h)
     rcases (hv k e).1 with h' | h'
     ·exact n0 a i k h h'
     ·exact h' (a1 a i k h).1
  | inr a=>
   rw [e] at hz1;have hh:=(b3 a _ hz1 i l hl).2
   refine (hh.frame fun k hk=>?_).mono fun k hk=>?_
   ·rcases hk with h | h
    ·exact hw k (.inr (.inr h)) (Fy k h)
    ·exact hw k (.inr (.inl (b1 a i k h).1)) (n1 a i k h)
   ·rcases hk with h | h
    ·exact hst k h
    ·exact hnew k Wc (.inr (b1 a i k h).1) (fun e=>(hv k e).2 (b1 a i k h).1) (n1 a i k h)
theorem Nt {K:Cd C} {base:Nat} {cM D0 D1:Nat→Prop} {t:Ty} {xs ys:List (C t)} {kW IZ:Option Nat} {cs:List Value} {f:Nat→Value} {gq nL sh:Bool}
  (h0:kI K w base cM D0 t xs kW (fun m=>cs.getD m undef) gq) (h1:kI K w base cM D1 t ys IZ f nL) (hd:∀ k,D0 k→¬ D1 k) (hcs:cs.length=xs.length*K.sz t)
  {w':World} {v':Value} (hown:w'.ownsRow base (K.tid t) (K.sz t) v' (xs.length+ys.length) (cs++(List.range (ys.length*K.sz t)).map f))
  (hv:∀ g,v'.ownBlock=some g→(kW=some g∨(¬ D0 g))∧¬ D1 g)
  (hw:∀ k,(D0 k∨D1 k∨cM k)→kW≠some k→w'.heap[k]?=w.heap[k]?)
  (Fy:∀ k,cM k→kW≠some k)
  (hsh:sh=cond (K.flat t) false (gq||nL)) {ah:cW C} {eH:Nat→Prop} (hst:∀ k,cM k→eH k) (hnew:∀ k,sh=true→(D0 k∨D1 k)→v'.ownBlock≠some k→kW≠some k→eH k) (XO:∀ g,kW=some g→D0 g) :
  kO K w' base ah β fp eH (cond sh (fun g=>v'.ownBlock=some g) (fun k=>v'.ownBlock=some k∨D0 k∨D1 k)) (.row t (xs++ys) sh) v':=by
 refine HV (fun j=>if j<xs.length then .inl j else .inr (j-xs.length)) h0 h1 hd (fun j j' hj gW e=>?_) (fun j x hx=>?_) (by simpa using hown) hv hw Fy hsh hst hnew XO
 ·skip
  split at e<;>split at e
  ·cases e;rfl
  ·cases e
  ·cases e
  ·injection e with e;omega
 ·skip
  rcases AD hx with ⟨hj,hx⟩ | ⟨hj,hx⟩
  ·rw [if_pos hj]
   refine ⟨hx,fun i hi=>?_⟩;rw [CJ hcs,if_pos (iw hj hi)]
  ·rw [if_neg (by omega)]
   refine ⟨hx,fun i hi=>?_⟩;have hj2:=eD hx
   have e:j*K.sz t+i=xs.length*K.sz t+((j-xs.length)*K.sz t+i):=by
    rw [←Nat.add_assoc,← Nat.add_mul];congr 2;omega
   have h3:=iw hj2 hi;rw [CJ hcs,e,if_neg (by omega),if_pos (by omega)]
   congr 1;omega
theorem oV {S:St C} {id:Option Nat} {j:Nat} {ob:Ob C} (h:lk (fA S id).ah j=some ob):lk S.ah j=some ob∧id≠some j:=by
 cases id with
 | none=>exact ⟨h,by simp⟩
 | some i=>
  simp only [fA,St.kr,lg] at h;split at h
  ·cases h
  ·rename_i e;exact ⟨h,fun e'=>e (by cases e';rfl)⟩
theorem mG {S:St C} {id:Option Nat}:(fA S id).env=S.env:=by cases id<;>rfl
def iM (fp:Nat→Nat→Prop):Option Nat→Nat→Prop
 | none,_=>False
 | some id,k=>fp id k
theorem GW {α:Type} {l m:List α} {p:Nat} (hp:p≤l.length) (q:Nat):(l.take p++m++l.drop p)[q]?=if q<p then l[q]? else if q<p+m.length then m[q-p]? else l[q-m.length]?:=by
 have h1:(l.take p).length=p:=by simp;omega
 by_cases hq:q<p
 ·rw [if_pos hq,List.append_assoc,List.getElem?_append_left (by omega),List.getElem?_take,if_pos hq]
 ·rw [if_neg hq]
  by_cases h2:q<p+m.length
  ·rw [if_pos h2,List.getElem?_append_left (by simp;omega),List.getElem?_append_right (by omega),h1]
  ·rw [if_neg h2,List.getElem?_append_right (by simp;omega),List.getElem?_drop]
   congr 1;simp;omega
theorem Jz {α:Type} {at_:Option Nat} {xs ys:List α} (h:∀ i,at_=some i→i≤xs.length):(kG at_ xs ys).length=xs.length+ys.length:=by
 cases at_ with
 | none=>simp [kG]
 | some i=>have:=h i rfl;simp [kG];omega
def HW (at_:Option Nat) (sz:Nat) (cs gs:List Value):List Value:=kG (at_.map (· * sz)) cs gs
theorem Rc {K:Cd C} {base:Nat} {cM D0 D1:Nat→Prop} {t:Ty} {xs ys:List (C t)} {kW IZ:Option Nat} {cs:List Value} {f:Nat→Value} {gq nL sh:Bool} {at_:Option Nat} (hat:∀ i,at_=some i→i≤xs.length)
  (h0:kI K w base cM D0 t xs kW (fun m=>cs.getD m undef) gq) (h1:kI K w base cM D1 t ys IZ f nL) (hd:∀ k,D0 k→¬ D1 k) (hcs:cs.length=xs.length*K.sz t)
  {w':World} {v':Value} (hown:w'.ownsRow base (K.tid t) (K.sz t) v' (xs.length+ys.length) (HW at_ (K.sz t) cs ((List.range (ys.length*K.sz t)).map f)))
  (hv:∀ g,v'.ownBlock=some g→(kW=some g∨(¬ D0 g))∧¬ D1 g)
  (hw:∀ k,(D0 k∨D1 k∨cM k)→kW≠some k→w'.heap[k]?=w.heap[k]?)
  (Fy:∀ k,cM k→kW≠some k)
  (hsh:sh=cond (K.flat t) false (gq||nL)) {ah:cW C} {eH:Nat→Prop} (hst:∀ k,cM k→eH k) (hnew:∀ k,sh=true→(D0 k∨D1 k)→v'.ownBlock≠some k→kW≠some k→eH k) (XO:∀ g,kW=some g→D0 g) :
  kO K w' base ah β fp eH (cond sh (fun g=>v'.ownBlock=some g) (fun k=>v'.ownBlock=some k∨D0 k∨D1 k)) (.row t (kG at_ xs ys) sh) v':=by
 cases at_ with
 | none=>exact Nt h0 h1 hd hcs hown hv hw Fy hsh hst hnew XO
 | some p=>
  have hp:=hat p rfl
  have hps:p*K.sz t≤cs.length:=by rw [hcs];exact Nat.mul_le_mul_right _ hp
  have hlen:=Jz (ys:=ys) hat;refine HV (fun j=>if j<p then .inl j else if j<p+ys.length then .inr (j-p) else .inl (j-ys.length)) h0 h1 hd (fun j j' hj gW e=>?_) (fun j x hx=>?_) (by rw [hlen];exact hown) hv hw Fy hsh hst hnew XO
  ·skip
   split at e<;>split at e<;>(try split at e)<;>(try split at e)<;>first | (cases e;done) | (injection e with e;omega) | (cases e;rfl)
  ·skip
   simp only [kG] at hx;rw [GW hp] at hx
   have hcell:∀ i,i<K.sz t→(HW (some p) (K.sz t) cs ((List.range (ys.length*K.sz t)).map f)).getD (j*K.sz t+i) undef=if j*K.sz t+i<p*K.sz t then cs.getD (j*K.sz t+i) undef else if j*K.sz t+i<p*K.sz t+ys.length*K.sz t then f (j*K.sz t+i-p*K.sz t) else cs.getD (j*K.sz t+i-ys.length*K.sz t) undef:=fun i hi=>by
    simp only [HW,Option.map_some,kG];rw [List.getD_eq_getElem?_getD,GW hps];simp only [List.length_map,List.length_range];split
    ·rw [List.getD_eq_getElem?_getD]
    ·split
     ·simp [show j*K.sz t+i-p*K.sz t<ys.length*K.sz t by omega]
     ·rw [List.getD_eq_getElem?_getD]
   by_cases c1:j<p
   ·rw [if_pos c1] at hx ⊢
    refine ⟨hx,fun i hi=>?_⟩;rw [hcell i hi,if_pos (iw c1 hi)]
   ·have e1:p*K.sz t≤j*K.sz t:=Nat.mul_le_mul_right _ (by omega)
    rw [if_neg c1] at hx ⊢
    by_cases c2:j<p+ys.length
    ·rw [if_pos c2] at hx ⊢
     refine ⟨hx,fun i hi=>?_⟩;have h3:=iw c2 hi;rw [Nat.add_mul] at h3;rw [hcell i hi,if_neg (by omega),if_pos h3];show _=f ((j-p)*K.sz t+i)
     congr 1;rw [Nat.sub_mul];omega
    ·rw [if_neg c2] at hx ⊢
     refine ⟨hx,fun i hi=>?_⟩;have e2:(p+ys.length)*K.sz t≤j*K.sz t:=Nat.mul_le_mul_right _ (by omega);rw [Nat.add_mul] at e2;rw [hcell i hi,if_neg (by omega),if_neg (by omega)];show _=cs.getD ((j-ys.length)*K.sz t+i) undef
     congr 1;rw [Nat.sub_mul];omega
theorem zf (hX:je P X) (hs:dc X.K w0 nt S β fp a w) (hd:slot dst nt) {at_:Option Nat} {o:Oper} (ho:o.dst=dst) {t t0 t1:Ty} {xs:List (C t0)} {ys:List (C t1)} {dK iT:Option Nat} {gq nL:Bool} {v v1:Value}
  (h:oG at_ X o S t t0 t1 xs ys dK iT (gq||nL) k=some r) (hne:∀ i,dK=some i→iT≠some i) (hat:∀ i,at_=some i→i≤xs.length)
  (hb:∃ cs,w.ownsRow w0.heap.size (X.K.tid t0) (X.K.sz t0) v xs.length cs∧(∀ g,v.ownBlock=some g→iM fp dK g)∧kI X.K w w0.heap.size (aH S.ah fp w) (iM fp dK) t0 xs v.ownBlock (fun m=>cs.getD m undef) gq)
  (hl0:∀ i,dK=some i→∃ ob,lk S.ah i=some ob) (hl1:∀ i,iT=some i→∃ ob,lk S.ah i=some ob)
  (hh:Handed X.K w w0.heap.size (aH S.ah fp w) (iM fp iT) t1 ys v1 nL) (Hr:∀ i g,iT=some i→v1.ownBlock=some g→fp i g) :
  ∃ (cs:List Value) (A:Option Addr) (c:Nat) (f:Nat→Value),t0=t∧t1=t∧w.ownsRow w0.heap.size (X.K.tid t0) (X.K.sz t0) v xs.length cs∧v1 = .slice A ys.length c ∧
   (0<ys.length→∃ p,A=some p∧∀ j,j<ys.length*X.K.sz t0→w.cell? (p.add j)=some (f j))∧(∀ m,m<ys.length*X.K.sz t0→(f m).oneCell'=true)∧(∀ m,m<xs.length*X.K.sz t0→(cs.getD m undef).oneCell'=true) ∧
   (xs.length+ys.length)*X.K.bytes t0≤140737488355328∧(∀ g,v.ownBlock=some g→v1.ownBlock≠some g∨iT=none) ∧
   ∀ v' w',w'.ownsRow w0.heap.size (X.K.tid t0) (X.K.sz t0) v' (xs.length+ys.length) (HW at_ (X.K.sz t0) cs ((List.range (ys.length*X.K.sz t0)).map f))→w.grownBy w' v.ownBlock→(v'.ownBlock=v.ownBlock∨∀ g,v'.ownBlock=some g→w.heap.size≤g) →
    Next X.K w0 nt k r (a.put dst v') w':=by
 unfold oG at h;split at h
 ·rename_i xs' Pb hx hy
  unfold kH at hx hy;split at hx
  ·rename_i e _
   subst e;split at hy
   ·rename_i e' _
    have e2:=e'.symm;subst e2;cases hx;cases hy;obtain ⟨ME,h⟩:=aw h;have ME:=of_decide_eq_true ME;split at h
    ·rename_i S' gu
     obtain ⟨hn,rfl⟩:=jv gu;obtain ⟨i,z,hi,hsz,hby,hpos,hz,hzs,Pj⟩:=hX.el t0;obtain ⟨cs,hown,hv0,hel0⟩:=hb;obtain ⟨A,c,f,rfl,hA,hel1⟩:=hh
     have hdis0:∀ g,v.ownBlock=some g→(Value.slice A ys.length c).ownBlock≠some g∨iT=none:=fun g hg=>by
      cases e1:iT with
      | none=>exact .inr rfl
      | some j=>
       refine .inl fun hg1=>?_
       have h1:=Hr j g e1 hg1;have h0:=hv0 g hg
       cases e0:dK with
       | none=>rw [e0] at h0;exact h0
       | some i0=>
        rw [e0] at h0;obtain ⟨ob,fO⟩:=hl0 i0 e0;obtain ⟨dY,Jj⟩:=hl1 j e1;have:=hs.eM i0 j ob dY g fO Jj h0 h1;subst this;exact hne i0 e0 e1
     refine ⟨cs,A,c,f,rfl,rfl,hown,rfl,hA,pZ hel1,pZ (f:=fun m=>cs.getD m undef) hel0,ME,hdis0,fun v' w' q2 q3 q4=>?_⟩
     have hO:∀ j ob,lk (fA (fA S dK) iT).ah j=some ob→lk S.ah j=some ob:=fun j ob hj=>(oV (oV hj).1).1
     have yF:∀ i,dK=some i∨iT=some i→lk (fA (fA S dK) iT).ah i=none:=fun i hi=>by
      cases e:lk (fA (fA S dK) iT).ah i with
      | none=>rfl
      | some ob=>
       have h1:=oV e;have h2:=oV h1.1
       rcases hi with hi | hi
       ·exact absurd hi h2.2
       ·exact absurd hi h1.2
     have pW:∀ k,iM fp dK k→jc S fp (fA (fA S dK) iT).ah k:=fun k hk=>by
      cases e:dK with
      | none=>rw [e] at hk;exact hk.elim
      | some i=>
       obtain ⟨ob,fO⟩:=hl0 i e;rw [e] at hk;exact ⟨i,ob,fO,by rw [←e];exact yF i (.inl e),hk⟩
     have FC:∀ k,iM fp iT k→jc S fp (fA (fA S dK) iT).ah k:=fun k hk=>by
      cases e:iT with
      | none=>rw [e] at hk;exact hk.elim
      | some i=>
       obtain ⟨ob,fO⟩:=hl1 i e;rw [e] at hk;exact ⟨i,ob,fO,by rw [←e];exact yF i (.inr e),hk⟩
     have Jl:∀ k,iM fp dK k→¬ iM fp iT k:=fun k h0 h1=>by
      cases e0:dK with
      | none=>rw [e0] at h0;exact h0
      | some i=>
       cases e1:iT with
       | none=>rw [e1] at h1;exact h1
       | some j=>
        rw [e0] at h0;rw [e1] at h1;obtain ⟨ob,fO⟩:=hl0 i e0;obtain ⟨dY,Jj⟩:=hl1 j e1;have:=hs.eM i j ob dY k fO Jj h0 h1;subst this;exact hne i e0 e1
     have hlt:∀ k,(iM fp dK k∨iM fp iT k∨aH S.ah fp w k)→k<w.heap.size:=fun k hk=>by
      rcases hk with h | h | h
      ·obtain ⟨j,ob,h1,h2,h3⟩:=pW k h;exact (hs.fresh j ob k h1 h3).2
      ·obtain ⟨j,ob,h1,h2,h3⟩:=FC k h;exact (hs.fresh j ob k h1 h3).2
      ·exact h.1
     have hnst:∀ k,aH S.ah fp w k→¬ jc S fp (fA (fA S dK) iT).ah k:=fun k hk ⟨j,ob,h1,_,h3⟩=>hk.2 j ob h1 h3
     have hvb:∀ g,v'.ownBlock=some g→(v.ownBlock=some g∨¬ iM fp dK g)∧¬ iM fp iT g:=fun g hg=>by
      rcases q4 with q4 | q4
      ·rw [q4] at hg
       exact ⟨.inl hg,Jl g (hv0 g hg)⟩
      ·have q5:=q4 g hg
       exact ⟨.inr fun h=>absurd (hlt _ (.inl h)) (by omega),fun h=>absurd (hlt _ (.inr (.inl h))) (by omega)⟩
     have hsz0:=hs.below.size
     have hown2:∀ g,v.ownBlock=some g→w0.heap.size≤g∧g<w.heap.size:=fun g hg=>uf hown hg
     have hw:Below w0.heap.size w w':=oE (w0:=w0) q3 (fun g e=>(hown2 g e).1) hsz0;have hcs:cs.length=xs.length*X.K.sz t0:=hown.1
     let sh:=cond (X.K.flat t0) false (gq||nL)
     let F:Nat→Prop:=cond sh (fun g=>v'.ownBlock=some g) (fun k=>v'.ownBlock=some k∨iM fp dK k∨iM fp iT k)
     have XN:∀ g,v'.ownBlock=some g→jc S fp (fA (fA S dK) iT).ah g∨(w.heap.size≤g∧g<w'.heap.size):=fun g hg=>by
      have hl:=uf q2 hg
      rcases q4 with q4 | q4
      ·rw [q4] at hg;exact .inl (pW g (hv0 g hg))
      ·exact .inr ⟨q4 g hg,hl.2⟩
     have hF:∀ k,F k→jc S fp (fA (fA S dK) iT).ah k∨(w.heap.size≤k∧k<w'.heap.size):=fun k hk=>by
      cases e:sh with
      | true=>simp only [F,e,cond_true] at hk;exact XN k hk
      | false=>
       simp only [F,e,cond_false] at hk
       rcases hk with h | h | h
       ·exact XN k h
       ·exact .inl (pW k h)
       ·exact .inl (FC k h)
     have XM:∀ k,k<w.heap.size→v.ownBlock≠some k→w'.heap[k]?=w.heap[k]?:=fun k hk hne=>q3.block k hk fun e=>hne e.symm
     have hst:=fun k hk=>rK hs hO hw.size (fun k hk hnl=>XM k hk fun e=>hnl (pW k (hv0 k e))) (id:=cg X S o) (ob:=.row t0 (kG at_ xs ys) sh) (F:=F) (fun k hk=>(hF k hk).imp (fun h=>h) fun h=>h.1) (k:=k) hk
     have fO:kO X.K w' w0.heap.size ((cg X S o,.row t0 (kG at_ xs ys) sh)::(fA (fA S dK) iT).ah) (upd β (cg X S o) v') (upd fp (cg X S o) F) (aH ((cg X S o,.row t0 (kG at_ xs ys) sh)::(fA (fA S dK) iT).ah) (upd fp (cg X S o) F) w') F (.row t0 (kG at_ xs ys) sh) v':=
      Rc hat hel0 hel1 Jl hcs q2 hvb (fun k hk hne=>XM k (hlt k hk) hne) (fun k hk e=>(hnst k hk) (pW k (hv0 k e))) rfl (fun k hk=>(hst k hk).1)
       (fun k hs1 hk Wk hne2=>by
        have hk':jc S fp (fA (fA S dK) iT).ah k:=hk.elim (pW k) (FC k);have hkl:=hlt k (hk.imp (fun h=>h) .inl);refine ⟨Nat.lt_of_lt_of_le hkl hw.size,fun j dY hj=>?_⟩;rw [aN] at hj
        by_cases e:j=cg X S o
        ·rw [e,cZ]
         show ¬ (cond sh (fun g=>v'.ownBlock=some g) (fun k=>v'.ownBlock=some k∨iM fp dK k∨iM fp iT k)) k;have We:sh=true:=hs1;rw [We];exact Wk
        ·rw [if_neg e] at hj
         rw [dE _ _ e];intro QL
         exact n9 hs hO hj QL hk') hv0
     have h2:=hs.KR hO hw (fun k hk hnl=>XM k hk fun e=>hnl (pW k (hv0 k e))) (id:=cg X S o) (by
      have:=hn;unfold fJ at this;rw [mG,mG] at this
      exact this) (ob:=.row t0 (kG at_ xs ys) sh) (hv:=v') (F:=F) hF fO (fA (fA S dK) iT).base
     have hSe:(⟨S.env,(cg X S o,.row t0 (kG at_ xs ys) sh)::(fA (fA S dK) iT).ah,(fA (fA S dK) iT).base⟩:St C)=(fA (fA S dK) iT).setObj (cg X S o) (.row t0 (kG at_ xs ys) sh):=by
      unfold St.setObj;rw [mG,mG]
     rw [hSe] at h2;subst ho;refine bn h2 hd (v:=.one (.ref (cg X S o) [])) ⟨?_,(cZ _ _ _).symm⟩ h;obtain ⟨A',c',e,_⟩:=fC q2;rw [e];rfl
    ·cases h
   ·cases hy
  ·cases hx
 ·cases h
theorem Rh (hX:je P X) (hs:dc X.K w0 nt S β fp a w) (hd:slot dst nt) {o:Oper} (ho:o.dst=dst) {T:TypeId} {t t0 t1:Ty} (hT:X.tk T=some (.one (.dR t))) {xs:List (C t0)} {ys:List (C t1)} {dK iT:Option Nat} {gq nL:Bool} {v v1:Value}
  (h:oG none X o S t t0 t1 xs ys dK iT (gq||nL) k=some r) (hne:∀ i,dK=some i→iT≠some i)
  (hb:∃ cs,w.ownsRow w0.heap.size (X.K.tid t0) (X.K.sz t0) v xs.length cs∧(∀ g,v.ownBlock=some g→iM fp dK g)∧kI X.K w w0.heap.size (aH S.ah fp w) (iM fp dK) t0 xs v.ownBlock (fun m=>cs.getD m undef) gq)
  (hl0:∀ i,dK=some i→∃ ob,lk S.ah i=some ob) (hl1:∀ i,iT=some i→∃ ob,lk S.ah i=some ob)
  (hh:Handed X.K w w0.heap.size (aH S.ah fp w) (iM fp iT) t1 ys v1 nL) (Hr:∀ i g,iT=some i→v1.ownBlock=some g→fp i g) {ty:TypeId} :
  ∃ v' w',(Builtin.append_ #[T,T] ty #[v,v1]).run P w = .ok v' w'∧Next X.K w0 nt k r (a.put dst v') w':=by
 obtain ⟨cs,A,c,f,e0,e1,hown,Jh,hA,h1,_,ME,_,K⟩:=zf hX hs hd ho h hne (fun i e=>by cases e) hb hl0 hl1 hh Hr;subst e0;subst Jh;obtain ⟨i,z,hi,hsz,hby,hpos,hz,hzs,Pj⟩:=hX.el t0;have hlen:xs.length+ys.length≤140737488355328:=Nat.le_trans (Nat.le_mul_of_pos_right _ hpos) ME;obtain ⟨v',w',q1,q2,q3,q4⟩:=qa (P:=P) (ty:=ty) (hX.tk _ _ hT).dR hi hz hsz hby hzs (X.K.pos t0) hown (m:=ys.length) (c:=c) hA h1 (by simp only [maxLen];omega) ME hs.below.size;exact ⟨v',w',q1,K v' w' q2 q3 (q4.imp (fun h=>h) fun h g hg=>by rw [h] at hg;cases hg;exact Nat.le_refl _)⟩
end
end Go.Proofs.Ytipemmgoipbojaa.Ab
