/- Part 1 of the proof: an abstract machine proved sound over the model, the functions that it reckons, the plain law. Names made short by a program. No conditions. -/
import Derived.Calls
import Derived.Orders
import Derived.Below
import Derived.Laws.AppendOwn
import Derived.Laws.Cells
import Derived.KernelRfl
import Derived.Laws.Slices
import Derived.Laws.Strings
import Derived.Laws.StructEq
import Derived.Tactics
import Derived.Laws.BytesString
import Derived.Laws.MakeOwn
import Derived.Laws.OwnMore
import Derived.Maps.AppendAt
set_option linter.unusedVariables false
set_option linter.unusedSimpArgs false
set_option linter.unusedSectionVars false
noncomputable section
namespace Go.Proofs.Ytipemmgoipbojaa.Ab
open Go Go.RowKit
inductive NK where
 | mF
 | map
def og:Nat:=1099511627776
def yc:Option Nat→Value
 | none=>.nilFunc
 | some f=>cond (Nat.ble og f) (cond (Nat.beq f og) .nilIface (.iface (f-(og+1)) (.agg #[]))) (.func (.func f) #[] #[])
theorem CU (f:Option Nat):(yc f).oneCell'=true:=by
 cases f with
 | none=>rfl
 | some f=>
  show (cond (Nat.ble og f) (cond (Nat.beq f og) Value.nilIface (.iface (f-(og+1)) (.agg #[]))) (.func (.func f) #[] #[])).oneCell'=true;cases Nat.ble og f<;>cases Nat.beq f og<;>rfl
theorem o9 {f:Nat} (h:Nat.ble og f=false):yc (some f) = .func (.func f) #[] #[]:=by simp only [yc,h,cond_false]
theorem UX:yc (some og) = .nilIface:=rfl
theorem CV {f:Nat} (h:Nat.ble (og+1) f=true):yc (some f) = .iface (f-(og+1)) (.agg #[]):=by
 have h0:=Nat.le_of_ble_eq_true h;have h1:Nat.ble og f=true:=Nat.ble_eq_true_of_le (by omega)
 have h2:Nat.beq f og=false:=by
  cases e:Nat.beq f og with
  | false=>rfl
  | true=>have:=Nat.eq_of_beq_eq_true e;omega
 simp only [yc,h1,h2,cond_true,cond_false]
def NK.val:NK→Value
 | .mF=>.nilIface
 | .map=>.map none
inductive VT where
 | mem
 | gV (f n:Nat) (sh:List (Bool×Nat))
 | mF (t:TypeId) (sh:List (Bool×Nat))
inductive Lf {Ty:Type} (C:Ty→Type):Type where
 | int (k:IntKind) (n:Int)
 | bool (b:Bool)
 | str (s:ByteArray)
 | row (t:Ty) (xs:List (C t))
 | nil (t:Ty)
 | vp
 | ptr (id off:Nat)
 | eS (t:Ty) (x:C t) (o:Nat)
 | ref (id:Nat) (p:List (Nat×Nat))
 | ep (id:Nat) (p:List (Nat×Nat)) (i o:Nat)
 | dP (f:Option Nat)
 | lZ (k:NK)
 | vo (id:Nat)
 | sub (id lo hi:Nat)
inductive SV {Ty:Type} (C:Ty→Type):Type where
 | one (l:Lf C)
 | agg (ls:List (Lf C))
 | rC (vs:List (Bool×List (Lf C)))
 | lX
 | jo (id j:Nat)
 | frame
 | bz (x:Bool×List (Lf C)) (j:Nat)
structure MK where
 kag:Bool
 Yy:Bool
 un:Bool
 br:Bool
inductive Ob {Ty:Type} (C:Ty→Type):Type where
 | box (kd:VT) (ls:List (Lf C))
 | row (t:Ty) (xs:List (C t)) (sh:Bool)
 | map (mk:MK) (kt vt:Ty) (xs:List (Nat×C kt×C vt)) (clock:Nat)
 | ghost
def Lf.plain {Ty:Type} {C:Ty→Type}:Lf C→Bool
 | .int .. | .bool _ | .str _ | .row .. | .dP _=>true
 | _=>false
structure Cd {Ty:Type} (C:Ty→Type) where
 enc:(t:Ty)→C t→List (Lf C)
 dec:(t:Ty)→List (Lf C)→Option (C t)
 sz:Ty→Nat
 tid:Ty→TypeId
 bytes:Ty→Nat
 zero:(t:Ty)→C t
 pos:∀ t,0<sz t
 gH:∀ t x,(enc t x).length=sz t
 jD:∀ t cs x,dec t cs=some x→enc t x=cs
 Bb:∀ t x l,l∈enc t x→l.plain=true
 flat:Ty→Bool
 yl:∀ t,flat t=true→∀ x t' (ys:List (C t')),Lf.row t' ys∉enc t x
 byte:Ty→Bool:=fun _=>false
 sI:∀ t,byte t=true→∀ x,∃ n,enc t x=[Lf.int .u8 n]:=by intro t h;cases h
 kp:Nat→Prop:=fun _=>False
 kh:Nat→Option Obj:=fun _=>none
 hd:Nat→Value:=fun _=>undef
 inv:World→Prop:=fun _=>True
 AP:∀ w w':World,inv w→Below w.heap.size w w'→inv w':=by intros;trivial
section
variable {Ty:Type} {C:Ty→Type} (K:Cd C)
inductive gU (w:World) (F:Nat→Prop):Lf C→Value→Prop
 | int (k n):gU w F (.int k n) (.int k n)
 | bool (b):gU w F (.bool b) (.bool b)
 | str (s):gU w F (.str s) (.string s)
 | dP (f):gU w F (.dP f) (yc f)
 | row (t:Ty) (xs:List (C t)) (A:Option Addr) (c:Nat) (a:Addr) (U:Nat→Value) (hc:xs.length≤c)
   (hA:xs≠[]→A=some a∧F a.block)
   (hcell:xs≠[]→∀ m,m<xs.length*K.sz t→w.cell? (a.add m)=some (U m))
   (nJ:∀ j (hj:j<xs.length) i l,(K.enc t xs[j])[i]?=some l→gU w F l (U (j*K.sz t+i))) :
   gU w F (.row t xs) (.slice A xs.length c)
inductive Own (w:World) (base:Nat):(Nat→Prop)→Lf C→Value→Prop
 | int (F k n):Own w base F (.int k n) (.int k n)
 | bool (F b):Own w base F (.bool b) (.bool b)
 | str (F s):Own w base F (.str s) (.string s)
 | dP (F f):Own w base F (.dP f) (yc f)
 | row (F:Nat→Prop) (t:Ty) (xs:List (C t)) (v:Value) (cells:List Value) (G:Nat→Nat→Nat→Prop)
   (h:w.ownsRow base (K.tid t) (K.sz t) v xs.length cells)
   (hF:∀ g,v.ownBlock=some g→F g)
   (hG:∀ j i k,G j i k→F k∧v.ownBlock≠some k)
   (hd:∀ j i j' i' k,G j i k→G j' i' k→j=j'∧i=i')
   (hn:∀ j (hj:j<xs.length) i l,(K.enc t xs[j])[i]?=some l→Own w base (G j i) l (cells.getD (j*K.sz t+i) undef)) :
   Own w base F (.row t xs) v
variable {K}
theorem gU.mono {w:World} {F F':Nat→Prop} {l:Lf C} {v:Value} (h:gU K w F l v) (hF:∀ k,F k→F' k):gU K w F' l v:=by
 induction h with
 | int k n=>exact .int k n
 | bool b=>exact .bool b
 | str s=>exact .str s
 | dP f=>exact .dP f
 | row t xs A c a U hc hA hcell _ ih=>exact .row t xs A c a U hc (fun h=>⟨(hA h).1,hF _ (hA h).2⟩) hcell ih
theorem gU.frame {w w':World} {F:Nat→Prop} {l:Lf C} {v:Value} (h:gU K w F l v) (hw:∀ k,F k→w'.heap[k]?=w.heap[k]?):gU K w' F l v:=by
 induction h with
 | int k n=>exact .int k n
 | bool b=>exact .bool b
 | str s=>exact .str s
 | dP f=>exact .dP f
 | row t xs A c a U hc hA hcell _ ih=>
  refine .row t xs A c a U hc hA (fun hx m hm=>?_) ih
  have hb:(a.add m).block=a.block:=by unfold Addr.add;split<;>rfl
  rw [World.cell?_of_block (w:=w) (by rw [hb];exact hw _ (hA hx).2)];exact hcell hx m hm
theorem Own.mono {w:World} {base:Nat} {F F':Nat→Prop} {l:Lf C} {v:Value} (h:Own K w base F l v) (hF:∀ k,F k→F' k):Own K w base F' l v:=by
 cases h with
 | int=>exact .int ..
 | bool=>exact .bool ..
 | str=>exact .str ..
 | dP=>exact .dP ..
 | row _ t xs _ cells G h Nt hG hd hn=>exact .row F' t xs v cells G h (fun g hg=>hF _ (Nt g hg)) (fun j i k hk=>⟨hF _ (hG j i k hk).1,(hG j i k hk).2⟩) hd hn
theorem mD {w w':World} {base:Nat} {e:TypeId} {size n:Nat} {v:Value} {xs:List Value} (h:w.ownsRow base e size v n xs) (hw:∀ g,v.ownBlock=some g→w'.heap[g]?=w.heap[g]?):w'.ownsRow base e size v n xs:=by
 obtain ⟨h1,h2⟩:=h;refine ⟨h1,?_⟩
 rcases h2 with h2 | ⟨g,cap,cur,rfl,hb,hh,r⟩
 ·exact .inl h2
 ·exact .inr ⟨g,cap,cur,rfl,hb,(hw g rfl).trans hh,r⟩
theorem Own.frame {w w':World} {base:Nat} {F:Nat→Prop} {l:Lf C} {v:Value} (h:Own K w base F l v) (hw:∀ k,F k→w'.heap[k]?=w.heap[k]?):Own K w' base F l v:=by
 induction h with
 | int=>exact .int ..
 | bool=>exact .bool ..
 | str=>exact .str ..
 | dP=>exact .dP ..
 | row F t xs v cells G h hF hG hd _ ih=>
  refine .row F t xs v cells G (mD h fun g hg=>hw g (hF g hg)) hF hG hd fun j hj i l hl=>ih j hj i l hl fun k hk=>hw k (hG j i k hk).1
theorem Own.one {w:World} {base:Nat} {F:Nat→Prop} {l:Lf C} {v:Value} (h:Own K w base F l v):v.oneCell'=true:=by
 cases h with
 | int=>rfl
 | bool=>rfl
 | str=>rfl
 | dP F f=>exact CU f
 | row _ t xs _ cells G h=>rcases h.2 with ⟨rfl,_⟩ | ⟨g,cap,cur,rfl,_⟩<;>rfl
theorem gU.one {w:World} {F:Nat→Prop} {l:Lf C} {v:Value} (h:gU K w F l v):v.oneCell'=true:=by
 cases h with
 | dP f=>exact CU f
 | _=>rfl
theorem kJ {w:World} {base:Nat} {e:TypeId} {size n:Nat} {v:Value} {cells:List Value} (h:w.ownsRow base e size v n cells) (hs:0<n*size) :
  ∃ g cap,v = .slice (some ⟨g,0,none⟩) n cap∧base≤g∧n≤cap∧∀ m,m<n*size→w.cell? ((⟨g,0,none⟩:Addr).add m)=some (cells.getD m undef):=by
 have hc:=h;obtain ⟨h1,h2⟩:=h
 rcases h2 with ⟨_,rfl⟩ | ⟨g,cap,cur,rfl,hb,hh,hn,r⟩
 ·omega
 ·refine ⟨g,cap,rfl,hb,hn,fun m hm=>hc.cells (g:=g) rfl m _ ?_⟩
  rw [List.getD_eq_getElem?_getD,List.getElem?_eq_getElem (by omega)];rfl
theorem Own.rep {w:World} {base:Nat} {F:Nat→Prop} {l:Lf C} {v:Value} (h:Own K w base F l v):gU K w F l v:=by
 induction h with
 | int=>exact .int ..
 | bool=>exact .bool ..
 | str=>exact .str ..
 | dP=>exact .dP ..
 | row F t xs v cells G h hF hG hd _ ih=>
  by_cases hx:xs=[]
  ·subst hx
   rcases h.2 with ⟨rfl,_⟩ | ⟨g,cap,cur,rfl,_⟩
   ·exact .row t [] none 0 default (fun _=>undef) (Nat.le_refl _) (fun h=>absurd rfl h) (fun h=>absurd rfl h) (fun j hj=>absurd hj (by simp))
   ·exact .row t [] _ cap default (fun _=>undef) (Nat.zero_le _) (fun h=>absurd rfl h) (fun h=>absurd rfl h) (fun j hj=>absurd hj (by simp))
  ·have hp:0<xs.length*K.sz t:=Nat.mul_pos (List.length_pos_iff.2 hx) (K.pos t)
   obtain ⟨g,cap,rfl,hb,hn,hcell⟩:=kJ h hp
   refine .row t xs _ cap ⟨g,0,none⟩ (fun m=>cells.getD m undef) hn (fun _=>⟨rfl,hF g rfl⟩) (fun _=>hcell) fun j hj i l hl=>?_
   exact (ih j hj i l hl).mono fun k hk=>(hG j i k hk).1
end
def lk {α:Type}:List (Nat×α)→Nat→Option α
 | [],_=>none
 | (m,v)::r,n=>cond (Nat.beq n m) (some v) (lk r n)
def rm {α:Type}:List (Nat×α)→Nat→List (Nat×α)
 | [],_=>[]
 | (m,v)::r,n=>cond (Nat.beq n m) (rm r n) ((m,v)::rm r n)
inductive ZL (Ty:Type):Type where
 | int (k:IntKind)
 | bool
 | str
 | er (t:Ty)
 | ptr
 | dP
 | nk (k:NK)
inductive EK:Type where
 | int (k:IntKind)
 | bool
 | str
inductive TK (Ty:Type):Type where
 | one (z:ZL Ty)
 | agg (fs:List (Nat×Nat×Bool)) (zs:List (ZL Ty))
 | arr (n sz:Nat) (ag:Bool) (zs:List (ZL Ty))
section
variable {Ty:Type} {C:Ty→Type}
def ZL.lf:ZL Ty→Lf C
 | .int k=>.int k 0
 | .bool=>.bool false
 | .str=>.str ⟨#[]⟩
 | .er t=>.nil t
 | .ptr=>.vp
 | .dP=>.dP none
 | .nk k=>.lZ k
def ZL.val:ZL Ty→Value
 | .int k=>.int k 0
 | .bool=>.bool false
 | .str=>.string ⟨#[]⟩
 | .er _=>.slice none 0 0
 | .ptr=>.pointer none
 | .dP=>.nilFunc
 | .nk k=>k.val
structure St (C:Ty→Type) where
 env:List (Nat×SV C)
 aj:List (Nat×Ob C)
 base:Nat
inductive Ex where
 | norm
 | exit (id:Nat)
 | ret
structure iu (C:Ty→Type) where
 R0:Type
 pt:List (Option Ty):=[]
 g:List (SV C)→Option R0
 ret:R0→List (Bool×List (Lf C))
 frz:Bool:=false
 nz:Bool:=false
def Fz (c:iu C):iu C:={ c with frz:=true }
structure rA (C:Ty→Type) where
 R0:Type
 g:List (Bool×List (Lf C))→Option R0
 out:R0→List (Lf C)
 ret:R0→List (Bool×List (Lf C))
structure iR (C:Ty→Type) where
 ids:List Nat
 roots:List (Lf C)
 eU:List Nat
 R0:Type
 g:List (SV C)→List (Nat×Ob C)→Option R0
 out:R0→List (Nat×Ob C)
 ret:R0→List (Bool×List (Lf C))
structure lz (C:Ty→Type) where
 go:(R:Type)→List (SV C)→St C→(List (Bool×List (Lf C))→St C→Option R)→Option R
 sum:Option (iR C):=none
structure MT (Ty:Type) where
 fl:MK
 kt:Ty
 vt:Ty
structure Cx (C:Ty→Type) where
 K:Cd C
 tk:Nat→Option (TK Ty)
 KM:Nat→Option (iu C)
 yt:Nat→Option (rA C):=fun _=>none
 inl:Nat→Option (lz C):=fun _=>none
 mp:Nat→Option (MT Ty):=fun _=>none
 H3:Nat→String→Option Nat:=fun _ _=>none
 ext:Nat→Option (List Value→Option Value):=fun _=>none
 ins:Nat→Option Ty:=fun _=>none
 U2:Nat→Option (List EK):=fun _=>none
 view:List Nat:=[]
 hold:List Nat:=[]
 off:Nat:=0
def eu (S:St C):Operand→Option (SV C)
 | .tmp t=>lk S.env t
 | .const (.int k n)=>some (.one (.int k n))
 | .const (.bool b)=>some (.one (.bool b))
 | .const (.string s)=>some (.one (.str s))
 | .const (.pointer none)=>some (.one .vp)
 | .const .nilFunc=>some (.one (.dP none))
 | .const .nilIface=>some (.one (.lZ .mF))
 | .const (.map none)=>some (.one (.lZ .map))
 | .func f=>cond (Nat.ble og f) none (some (.one (.dP (some f))))
 | _=>none
def gu (X:Cx C) (S:St C) (T:TypeId) (x:Operand):Option (SV C):=
 match x with
 | .const (.slice none 0 0)=>match X.tk T with
  | some (.one (.er t))=>some (.one (.nil t))
  | _=>none
 | x=>eu S x
def St.put (S:St C) (d:Option Tmp) (v:SV C):St C:=
 match d with
 | some d=>{ S with env:=(d,v)::S.env }
 | none=>S
def St.drop (S:St C) (d:Option Tmp):St C:=
 match d with
 | some d=>{ S with env:=rm S.env d }
 | none=>S
def St.setObj (S:St C) (id:Nat) (ob:Ob C):St C:={ S with aj:=(id,ob)::S.aj }
def St.kO (S:St C) (id:Nat):St C:={ S with aj:=rm S.aj id }
def SV.leaves:SV C→List (Lf C)
 | .one l=>[l]
 | .agg ls=>ls
 | _=>[]
def lP (k:TK Ty):Bool:=match k with | .one _=>false | .agg .. =>true | .arr .. =>true
def TK.size (k:TK Ty):Nat:=match k with | .one _=>1 | .agg _ zs=>zs.length | .arr _ _ _ zs=>zs.length
def yB (sz:Nat) (ag:Bool):Nat→Nat→List (Nat×Nat×Bool)
 | _,0=>[]
 | off,n+1=>(off,sz,ag)::yB sz ag (off+sz) n
def fits (v:SV C) (k:TK Ty):Bool:=Nat.beq v.leaves.length k.size&&Nat.ble 1 k.size
def Kk (v:SV C) (k:TK Ty):Bool:=match v,k with
 | .agg [],.agg [] []=>true
 | v,k=>fits v k
def Cy (k:TK Ty) (ls:List (Lf C)):Option (SV C):=
 match k with
 | .one _=>match ls with
  | l::_=>some (.one l)
  | []=>none
 | .agg _ zs=>cond (Nat.ble zs.length ls.length) (some (.agg (ls.take zs.length))) none
 | .arr _ _ _ zs=>cond (Nat.ble zs.length ls.length) (some (.agg (ls.take zs.length))) none
def o7 (id:Nat) (p:List (Nat×Nat)) (i:Nat) (sh:Bool):Nat→List (Lf C)→List (Lf C)
 | _,[]=>[]
 | o,.row t xs::r=>(cond sh (.row t xs) (.ref id (p++[(i,o)])))::o7 id p i sh (o+1) r
 | o,l::r=>l::o7 id p i sh (o+1) r
def path (K:Cd C):List (Nat×Nat)→(t:Ty)→List (C t)→{α:Type}→((t:Ty)→List (C t)→Option α)→Option α
 | [],t,xs,_,k=>k t xs
 | (i,o)::p,t,xs,_,k=>Option.bind xs[i]? fun x=>match (K.enc t x)[o]? with
  | some (.row t' ys)=>path K p t' ys k
  | _=>none
def oC (S:St C) (X:Cx C) (l:Lf C) {α:Type} (k:(t:Ty)→List (C t)→Option α):Option α:=
 match l with
 | .row t xs=>k t xs
 | .nil t=>k t []
 | .ref id p=>match lk S.aj id with
  | some (.row t xs _)=>path X.K p t xs k
  | _=>none
 | .sub id lo hi=>match lk S.aj id with
  | some (.row t xs _)=>k t ((xs.take hi).drop lo)
  | _=>none
 | _=>none
def dZ (X:Cx C) (S:St C) (a:Lf C) {α:Type} (k:List (Lf C)→Option α):Option α:=
 match a with
 | .ptr id off=>match lk S.aj id with
  | some (.box .mem ls)=>k (ls.drop off)
  | _=>none
 | .eS t x o=>k ((X.K.enc t x).drop o)
 | .ep id p i o=>match lk S.aj id with
  | some (.row t xs sh)=>path X.K p t xs fun t' ys=>Option.bind ys[i]? fun x=>k ((o7 id p i (cond p.isEmpty sh false) 0 (X.K.enc t' x)).drop o)
  | _=>none
 | _=>none
def setAt {α:Type}:List α→Nat→List α→List α
 | l,_,[]=>l
 | l,o,v::r=>setAt (l.set o v) (o+1) r
def cV (S:St C):List (Lf C)→Option (List (Lf C)×St C×Bool)
 | []=>some ([],S,false)
 | .ref id []::r=>match lk S.aj id with
  | some (.row t xs false)=>match cV (S.kO id) r with
   | some (r',S',b)=>some (.row t xs::r',S',b)
   | none=>none
  | _=>none
 | .nil t::r=>match cV S r with
  | some (r',S',b)=>some (.row t []::r',S',b)
  | none=>none
 | .row t xs::r=>match cV S r with
  | some (r',S',_)=>some (.row t xs::r',S',true)
  | none=>none
 | .int k n::r=>match cV S r with
  | some (r',S',b)=>some (.int k n::r',S',b)
  | none=>none
 | .bool c::r=>match cV S r with
  | some (r',S',b)=>some (.bool c::r',S',b)
  | none=>none
 | .str s::r=>match cV S r with
  | some (r',S',b)=>some (.str s::r',S',b)
  | none=>none
 | .dP s::r=>match cV S r with
  | some (r',S',b)=>some (.dP s::r',S',b)
  | none=>none
 | .lZ .mF::r=>match cV S r with
  | some (r',S',b)=>some (.dP (some og)::r',S',b)
  | none=>none
 | _=>none
def iC (S:St C):Lf C→Option (Lf C)
 | .ref id []=>match lk S.aj id with
  | some (.row t xs _)=>some (.row t xs)
  | _=>none
 | .sub id lo hi=>match lk S.aj id with
  | some (.row t xs _)=>some (.row t ((xs.take hi).drop lo))
  | _=>none
 | .nil t=>some (.row t [])
 | .row t xs=>some (.row t xs)
 | .int k n=>some (.int k n)
 | .bool b=>some (.bool b)
 | .str s=>some (.str s)
 | .dP f=>some (.dP f)
 | _=>none
def oD (S:St C):List (Lf C)→Option (List (Lf C))
 | []=>some []
 | l::r=>match iC S l with
  | some l'=>match oD S r with
   | some r'=>some (l'::r')
   | none=>none
  | none=>none
def nU (S:St C):SV C→Option (SV C)
 | .one l=>match iC S l with
  | some l'=>some (.one l')
  | none=>none
 | .agg ls=>match oD S ls with
  | some ls'=>some (.agg ls')
  | none=>none
 | _=>none
def intern (id:Nat):List (Lf C)→List (Lf C)×List (Nat×Ob C)
 | []=>([],[])
 | .row t xs::r=>(.ref id []::(intern (id+1) r).1,(id,.row t xs false)::(intern (id+1) r).2)
 | l::r=>(l::(intern (id+1) r).1,(intern (id+1) r).2)
def bN (id:Nat):List (Bool×List (Lf C))→List (Bool×List (Lf C))×List (Nat×Ob C)
 | []=>([],[])
 | (b,ls)::r=>((b,(intern id ls).1)::(bN (id+ls.length) r).1,(intern id ls).2++(bN (id+ls.length) r).2)
def tf (l:List (Bool×List (Lf C))):Option (SV C):=
 match l with
 | [(false,[l])]=>some (.one l)
 | [(true,ls)]=>some (.agg ls)
 | [_]=>none
 | vs=>some (.rC vs)
def slt (a b:ByteArray):Bool:=Go.Op.bytesLess a.toList b.toList
def uF (s:ByteArray) (i:Int):Int:=match s[i.toNat]? with
 | some b=>(b.toNat:Int)
 | none=>0
def cmpI (op:BinOp) (a b:Int):Option Bool:=
 match op with
 | .eql=>some (a==b)
 | .neq=>some (a != b)
 | .lss=>some (decide (a<b))
 | .leq=>some (decide (a≤b))
 | .gtr=>some (decide (a>b))
 | .geq=>some (decide (a≥b))
 | _=>none
def cmpS (op:BinOp) (a b:ByteArray):Option Bool:=
 match op with
 | .eql=>some (decide (a=b))
 | .neq=>some (!decide (a=b))
 | .lss=>some (slt a b)
 | .geq=>some (!slt a b)
 | .gtr=>some (slt b a)
 | .leq=>some (!slt b a)
 | _=>none
def NV (k:IntKind) (a b:Int):Int:=k.wrap ((BitVec.ofInt k.bits a ^^^ BitVec.ofInt k.bits b).toNat)
def arI (op:BinOp) (k:IntKind) (a b:Int):Option Int:=
 match op with
 | .xor=>some (NV k a b)
 | .add=>some (k.wrap (a+b))
 | .sub=>some (k.wrap (a-b))
 | .mul=>some (k.wrap (a*b))
 | _=>none
def H8:Lf C→Option Bool
 | .vp=>some true
 | .ptr .. =>some false
 | .ep .. =>some false
 | .eS .. =>some false
 | _=>none
def uf:List EK→List (Lf C)→List (Lf C)→Option Bool
 | [],[],[]=>some true
 | .int _::ks,.int k a::r,.int k' b::s=>cond (decide (k=k')) (match uf ks r s with
  | some c=>some (decide (a=b)&&c)
  | none=>none) none
 | .bool::ks,.bool a::r,.bool b::s=>match uf ks r s with
  | some c=>some ((a==b)&&c)
  | none=>none
 | .str::ks,.str a::r,.str b::s=>match uf ks r s with
  | some c=>some (decide (a=b)&&c)
  | none=>none
 | _,_,_=>none
def IU (ek:Option (List EK)) (tk:Option (TK Ty)) (op:BinOp) (x y:SV C) {α:Type} (k:SV C→Option α):Option α:=
 match x,y with
 | .agg as,.agg bs=>match ek with
  | some ks=>match uf ks as bs,op with
   | some c,.eql=>k (.one (.bool c))
   | some c,.neq=>k (.one (.bool (!c)))
   | _,_=>none
  | none=>none
 | .one (.int ka a),.one (.int kb b)=>cond (decide (ka=kb)) (match cmpI op a b with
  | some c=>k (.one (.bool c))
  | none=>match arI op ka a b with
   | some n=>k (.one (.int ka n))
   | none=>cond (decide (b=0)) none (match op with
    | .quo=>k (.one (.int ka (ka.wrap (a.tdiv b))))
    | .rem=>k (.one (.int ka (a.tmod b)))
    | _=>none)) none
 | .one (.str a),.one (.str b)=>match cmpS op a b with
  | some c=>k (.one (.bool c))
  | none=>match op with
   | .add=>cond (decide ((a.size+b.size:Nat)≤9223372036854775807)) (k (.one (.str (a++b)))) none
   | _=>none
 | .one (.bool a),.one (.bool b)=>match tk,op with
  | some (.one .bool),.eql=>k (.one (.bool (a==b)))
  | some (.one .bool),.neq=>k (.one (.bool (!(a==b))))
  | _,_=>none
 | .one x,.one .vp=>match H8 x,tk,op with
  | some c,some (.one .ptr),.eql=>k (.one (.bool c))
  | some c,some (.one .ptr),.neq=>k (.one (.bool (!c)))
  | _,_,_=>none
 | _,_=>none
def altD {R:Type} (a b:Option R):Option R:=open Classical in a.bind fun x=>b.bind fun y=>if x=y then some x else none
theorem altE:∃ f:∀ R:Type,Option R→Option R→Option R,∀ (R:Type) (a b:Option R),f R a b=altD a b:=⟨fun _ a b=>altD a b,fun _ _ _=>rfl⟩
def alt {R:Type} (a b:Option R):Option R:=Classical.choose altE R a b
theorem Db {R:Type} (a b:Option R):alt a b=open Classical in a.bind fun x=>b.bind fun y=>if x=y then some x else none:=Classical.choose_spec altE R a b
def Pk {R:Type} (e:Bool) (a b:Option R):Option R:=cond e (alt a b) b
def xI (tk:Option (TK Ty)) (X:Cx C) (S:St C) (op:BinOp) (x:SV C) {R:Type} (k:SV C→Option R):Option R:=
 match tk,x with
 | some (.one (.er _)),.one (.nil _)=>match op with
  | .eql=>k (.one (.bool true))
  | .neq=>k (.one (.bool false))
  | _=>none
 | some (.one (.er _)),.one l=>match op with
  | .eql=>oC S X l fun _ xs=>Pk xs.isEmpty (k (.one (.bool true))) (k (.one (.bool false)))
  | .neq=>oC S X l fun _ xs=>Pk xs.isEmpty (k (.one (.bool false))) (k (.one (.bool true)))
  | _=>none
 | _,_=>none
def byteOf:List (Lf C)→UInt8
 | .int _ n::_=>UInt8.ofNat n.toNat
 | _=>0
def strOf (K:Cd C) (t:Ty) (xs:List (C t)):ByteArray:=⟨(xs.map fun x=>byteOf (K.enc t x)).toArray⟩
def Dc:Lf C→Nat→Option (Lf C)
 | .ptr id o,n=>some (.ptr id (o+n))
 | .eS t x o,n=>some (.eS t x (o+n))
 | .ep id p i o,n=>some (.ep id p i (o+n))
 | _,_=>none
def fF:Lf C→List Nat
 | .ref id _=>[id]
 | .ep id _ _ _=>[id]
 | .ptr id _=>[id]
 | .vo id=>[id]
 | .sub id _ _=>[id]
 | _=>[]
def dY:List (Lf C)→List Nat
 | []=>[]
 | l::r=>fF l++dY r
def vr:List (Bool×List (Lf C))→List Nat
 | []=>[]
 | (_,ls)::r=>dY ls++vr r
def fP:SV C→List Nat
 | .one l=>fF l
 | .agg ls=>dY ls
 | .rC vs=>vr vs
 | .jo id _=>[id]
 | .bz x _=>dY x.2
 | _=>[]
def gv:List (Nat×SV C)→List Nat
 | []=>[]
 | (_,v)::r=>fP v++gv r
def dX:List (Nat×Ob C)→List Nat
 | []=>[]
 | (id,.box _ ls)::r=>id::(dY ls++dX r)
 | (id,.row ..)::r=>id::dX r
 | (id,.map ..)::r=>id::dX r
 | (id,.ghost)::r=>id::dX r
def lR (id:Nat):Lf C→Bool
 | .ref i (_::_)=>Nat.beq i id
 | .ep i (_::_) _ _=>Nat.beq i id
 | _=>false
def yn (id:Nat):SV C→Bool
 | .bz x _=>x.2.any (lR id)
 | .one l=>lR id l
 | .agg ls=>ls.any (lR id)
 | .rC vs=>vs.any fun x=>x.2.any (lR id)
 | _=>false
def Bf (id:Nat):Ob C→Bool
 | .box _ ls=>ls.any (lR id)
 | .row .. =>false
 | .map .. =>false
 | .ghost=>false
def jr (id:Nat):List (Nat×SV C)→List (Nat×SV C)
 | []=>[]
 | (t,v)::r=>cond (yn id v) (rm (jr id r) t) ((t,v)::jr id r)
def iW {R:Type} (n:Nat) (k:Nat→R):R:=match n with
 | 0=>k 0
 | m+1=>k (m+1)
theorem jj {R:Type} (n:Nat) (k:Nat→R):iW n k=k n:=by cases n<;>rfl
def bP (X:Cx C) (S:St C) (o:Oper):Nat:=iW S.base fun b=>iW X.off fun q=>match o.dst with
 | some d=>q+64*d+4294967296*b
 | none=>q+4294967296*b
def St.add (S:St C) (id:Nat) (ob:Ob C):Option (St C):=cond ((gv S.env++dX S.aj).any (Nat.beq id)) none (some (S.setObj id ob))
def St.kQ (S:St C):List (Nat×Ob C)→Option (St C)
 | []=>some S
 | (id,ob)::r=>match S.add id ob with
  | some S'=>S'.kQ r
  | none=>none
def elems (X:Cx C) (t:Ty) (S:St C):Nat→List (Nat×Operand)→Option (List (C t)×St C×Bool)
 | _,[]=>some ([],S,false)
 | n,(i,x)::r=>match gu X S (X.K.tid t) x with
  | some v=>match cV S v.leaves with
   | some (ls,S',b)=>match X.K.dec t ls with
    | some e=>match elems X t S' (n+1) r with
     | some (es,DD,b')=>cond (Nat.beq i n) (some (e::es,DD,b||b')) none
     | none=>none
    | none=>none
   | none=>none
  | none=>none
def partsOf (X:Cx C) (fs:List (Nat×Nat×Bool)) (S:St C):List (Nat×Operand)→List (Lf C)→Option (List (Lf C))
 | [],ls=>some ls
 | (i,x)::r,ls=>match fs[i]?,eu S x with
  | some (off,n,ag),some v=>cond (Nat.beq v.leaves.length n&&Nat.ble 1 n) (partsOf X fs S r (setAt ls off v.leaves)) none
  | _,_=>none
def fE (X:Cx C) (S:St C):List Operand→List TypeId→Option (List (SV C))
 | [],_=>some []
 | x::r,ts=>match gu X S (ts.headD 0) x with
  | some (.one l)=>match fE X S r ts.tail with
   | some vs=>some (.one l::vs)
   | none=>none
  | some (.agg ls)=>match fE X S r ts.tail with
   | some vs=>some (.agg ls::vs)
   | none=>none
  | _=>none
def vl:List (SV C)→List (Bool×Nat)
 | []=>[]
 | .one _::r=>(false,1)::vl r
 | .agg ls::r=>(true,ls.length)::vl r
 | _::r=>(false,0)::vl r
def dW:List (SV C)→List (Lf C)
 | []=>[]
 | v::r=>v.leaves++dW r
def td:List (Bool×Nat)→List (Lf C)→List (SV C)
 | [],_=>[]
 | (b,n)::r,ls=>(cond b (.agg (ls.take n)) (.one (ls.headD .vp)))::td r (ls.drop n)
def Om:List (Bool×Nat)→Nat→Bool
 | [],n=>Nat.beq n 0
 | (b,m)::r,n=>(b||Nat.beq m 1)&&Nat.ble m n&&Om r (n-m)
def qC {R:Type} (S:St C) (l:Lf C) (k:Nat→List (SV C)→List (SV C)→Option R):Option R:=match l with
 | .dP (some f)=>cond (Nat.ble og f) none (k f [] [])
 | .vo id=>match lk S.aj id with
  | some (.box (.gV f n sh) ls)=>cond (Om sh ls.length) (k f ((td sh ls).take n) ((td sh ls).drop n)) none
  | _=>none
 | _=>none
def sB {R:Type} (S:St C) (v:Option (SV C)) (k:TypeId→SV C→Option R):Option R:=match v with
 | some (.one (.vo id))=>match lk S.aj id with
  | some (.box (.mF t sh) ls)=>cond (Om sh ls.length) (match td sh ls with
   | [v]=>k t v
   | _=>none) none
  | _=>none
 | some (.one (.dP (some f)))=>cond (Nat.ble (og+1) f) (k (f-(og+1)) (.agg [])) none
 | _=>none
def Md (S:St C) (tk:Option (TK Ty)) (x y:Lf C):Option Bool:=match tk,y,x with
 | some (.one (.nk .mF)),.lZ .mF,.lZ .mF=>some true
 | some (.one (.nk .mF)),.lZ .mF,.vo id=>match lk S.aj id with
  | some (.box (.mF ..) _)=>some false
  | _=>none
 | some (.one (.nk .mF)),.lZ .mF,.dP (some f)=>cond (Nat.ble (og+1) f) (some false) none
 | some (.one .dP),.dP none,.dP none=>some true
 | some (.one .dP),.dP none,.dP (some f)=>cond (Nat.ble og f) none (some false)
 | some (.one .dP),.dP none,.vo id=>match lk S.aj id with
  | some (.box (.gV ..) _)=>some false
  | _=>none
 | some (.one (.nk .map)),.lZ .map,.lZ .map=>some true
 | some (.one (.nk .map)),.lZ .map,.vo id=>match lk S.aj id with
  | some (.map ..)=>some false
  | _=>none
 | _,_,_=>none
def sA:Operand→Bool
 | .const (.int _ n)=>decide (n=0)
 | _=>false
def isConst:Operand→Bool
 | .const _=>true
 | _=>false
def px {R:Type} (S:St C) (tk:Option (TK Ty)) (op:BinOp) (x y:SV C) (c:Bool) (k:SV C→Option R):Option R:=match x,y with
 | .one x,.one y=>match op,Md S tk x y,c with
  | .eql,some b,true=>k (.one (.bool b))
  | .neq,some b,true=>k (.one (.bool (!b)))
  | _,_,_=>none
 | _,_=>none
def CI:SV C→Bool
 | .one (.lZ _)=>true
 | .one (.dP none)=>true
 | _=>false
def HV:TK Ty→Bool
 | .one (.nk .mF)=>false
 | _=>true
def JM:SV C→Bool
 | .one _=>true
 | .agg _=>true
 | _=>false
def xN (S:St C):SV C→Bool
 | .one (.dP (some f))=> !Nat.ble og f
 | .one (.vo id)=>match lk S.aj id with
  | some (.box (.gV ..) _)=>true
  | some (.box (.mF ..) _)=>true
  | _=>false
 | _=>false
def kF (X:Cx C) (S:St C) (l:Lf C):Option (Lf C):=match l with
 | .ref id (s::p)=>oC S X (.ref id (s::p)) fun t xs=>some (.row t xs)
 | l=>iC S l
def gE (X:Cx C) (S:St C):List (Lf C)→Option (List (Lf C))
 | []=>some []
 | l::r=>match kF X S l with
  | some l'=>match gE X S r with
   | some r'=>some (l'::r')
   | none=>none
  | none=>none
def nV (X:Cx C) (S:St C) (pt:Option Ty) (v:SV C):Option (SV C):=match pt,v with
 | none,v=>nU S v
 | some t,.one l=>dZ X S l fun ls=>match gE X S (ls.take (X.K.sz t)) with
  | some ls'=>match X.K.dec t ls' with
   | some x=>some (.one (.eS t x 0))
   | none=>none
  | none=>none
 | _,_=>none
def views (X:Cx C) (S:St C):List (Option Ty)→List (SV C)→Option (List (SV C))
 | _,[]=>some []
 | pt,v::r=>match nV X S (pt.headD none) v with
  | some v'=>match views X S pt.tail r with
   | some r'=>some (v'::r')
   | none=>none
  | none=>none
def m6 (X:Cx C) (S:St C) (pt:List (Option Ty)) (pre:List (SV C)) (as:List Operand) (ts:List TypeId) (post:List (SV C)):Option (List (SV C)):=match fE X S as ts with
 | some vs=>views X S pt (pre++(vs++post))
 | none=>none
def BX {R:Type} (X:Cx C) (S:St C) (l:Lf C) (k:Lf C→Option R):Option R:=match l with
 | .ref id (s::p)=>oC S X (.ref id (s::p)) fun t xs=>k (.row t xs)
 | l=>match iC S l with
  | some l'=>k l'
  | none=>none
def rE {R:Type} (X:Cx C) (S:St C):List (Lf C)→(List (Lf C)→Option R)→Option R
 | [],k=>k []
 | l::r,k=>BX X S l fun l'=>rE X S r fun r'=>k (l'::r')
def Ht {R:Type} (X:Cx C) (S:St C) (pt:Option Ty) (v:SV C) (k:SV C→Option R):Option R:=match pt,v with
 | none,v=>match nU S v with
  | some v'=>k v'
  | none=>none
 | some t,.one l=>dZ X S l fun ls=>rE X S (ls.take (X.K.sz t)) fun ls'=>match X.K.dec t ls' with
   | some x=>k (.one (.eS t x 0))
   | none=>none
 | _,_=>none
def BW {R:Type} (X:Cx C) (S:St C):List (Option Ty)→List (SV C)→(List (SV C)→Option R)→Option R
 | _,[],k=>k []
 | pt,v::r,k=>Ht X S (pt.headD none) v fun v'=>BW X S pt.tail r fun r'=>k (v'::r')
def Da {R:Type} (X:Cx C) (S:St C) (pt:List (Option Ty)) (pre:List (SV C)) (as:List Operand) (ts:List TypeId) (post:List (SV C)) (k:List (SV C)→Option R):Option R:=match fE X S as ts with
 | some vs=>BW X S pt (pre++(vs++post)) k
 | none=>none
theorem tG {K:Cd C} {α R:Type} (g:α→Option R):∀ (p:List (Nat×Nat)) (t:Ty) (xs:List (C t)) (f:(t:Ty)→List (C t)→Option α),path K p t xs (fun t xs=>(f t xs).bind g)=(path K p t xs f).bind g
 | [],t,xs,f=>rfl
 | (i,o)::p,t,xs,f=>by
  simp only [path]
  cases xs[i]? with
  | none=>rfl
  | some x=>
   simp only [Option.bind_some];split
   ·exact tG g p _ _ f
   ·rfl
theorem RA {α R:Type} (g:α→Option R) (S:St C) (X:Cx C) (l:Lf C) (f:(t:Ty)→List (C t)→Option α):oC S X l (fun t xs=>(f t xs).bind g)=(oC S X l f).bind g:=by
 unfold oC;split
 ·rfl
 ·rfl
 ·split
  ·exact tG g _ _ _ f
  ·rfl
 ·split<;>rfl
 ·rfl
theorem C7 {α R:Type} (g:α→Option R) (S:St C) (X:Cx C) (l:Lf C) (f:List (Lf C)→Option α):dZ X S l (fun ls=>(f ls).bind g)=(dZ X S l f).bind g:=by
 unfold dZ;split
 ·split<;>rfl
 ·rfl
 ·rename_i id p i o
  split
  ·rename_i t xs sh _
   rw [←tG]
   congr 1
   funext t' ys
   cases ys[i]?<;>rfl
  ·rfl
 ·rfl
theorem Hu {R:Type} (X:Cx C) (S:St C) (l:Lf C) (k:Lf C→Option R):BX X S l k=(kF X S l).bind k:=by
 unfold BX kF;split
 ·rw [←RA];rfl
 ·cases iC S l<;>rfl
theorem uD {R:Type} (X:Cx C) (S:St C):∀ (l:List (Lf C)) (k:List (Lf C)→Option R),rE X S l k=(gE X S l).bind k
 | [],k=>rfl
 | l::r,k=>by
  simp only [rE,gE,Hu]
  cases kF X S l with
  | none=>rfl
  | some l'=>
   simp only [Option.bind_some,uD X S r];cases gE X S r<;>rfl
theorem LB {R:Type} (X:Cx C) (S:St C) (pt:Option Ty) (v:SV C) (k:SV C→Option R):Ht X S pt v k=(nV X S pt v).bind k:=by
 unfold Ht nV;split
 ·cases nU S v<;>rfl
 ·rw [←C7]
  congr 1
  funext ls
  rw [uD]
  cases gE X S (ls.take (X.K.sz _)) with
  | none=>rfl
  | some ls'=>
   simp only [Option.bind_some];cases X.K.dec _ ls'<;>rfl
 ·rfl
theorem zN {R:Type} (X:Cx C) (S:St C):∀ (pt:List (Option Ty)) (l:List (SV C)) (k:List (SV C)→Option R),BW X S pt l k=(views X S pt l).bind k
 | _,[],k=>rfl
 | pt,v::r,k=>by
  simp only [BW,views,LB]
  cases nV X S (pt.headD none) v with
  | none=>rfl
  | some v'=>
   simp only [Option.bind_some,zN X S pt.tail r];cases views X S pt.tail r<;>rfl
theorem Bt {R:Type} (X:Cx C) (S:St C) (pt:List (Option Ty)) (pre:List (SV C)) (as:List Operand) (ts:List TypeId) (post:List (SV C)) (k:List (SV C)→Option R):Da X S pt pre as ts post k=(m6 X S pt pre as ts post).bind k:=by
 unfold Da m6
 cases fE X S as ts with
 | none=>rfl
 | some vs=>exact zN X S pt _ k
def ET (c:iu C) (id:Nat) (rs:List (Bool×List (Lf C))):List (Bool×List (Lf C))×List (Nat×Ob C):=match c.frz with
 | true=>(rs,[])
 | false=>bN id rs
def qD {R:Type} (X:Cx C) (c:iu C) (S:St C) (pre:List (SV C)) (as:List Operand) (ts:List TypeId) (post:List (SV C)) (o:Oper) (k:St C→Option R):Option R:=Da X S c.pt pre as ts post fun vs=>Option.bind (c.g vs) fun r=>match c.nz with
  | true=>match c.ret r with
   | [(false,[.row t xs])]=>cond xs.isEmpty (k (S.put o.dst (.one (.nil t)))) (k (S.put o.dst (.one (.row t xs))))
   | _=>none
  | false=>match ET c (bP X S o) (c.ret r) with
   | (rs,news)=>match tf rs,S.kQ news with
    | some v,some S'=>k (S'.put o.dst v)
    | _,_=>none
def yx {R:Type} (X:Cx C) (c:iu C) (S:St C) (pre:List (SV C)) (as:List Operand) (ts:List TypeId) (post:List (SV C)) (o:Oper) (k:St C→Option R):Option R:=match m6 X S c.pt pre as ts post with
 | some vs=>Option.bind (c.g vs) fun r=>match c.nz with
  | true=>match c.ret r with
   | [(false,[.row t xs])]=>cond xs.isEmpty (k (S.put o.dst (.one (.nil t)))) (k (S.put o.dst (.one (.row t xs))))
   | _=>none
  | false=>match ET c (bP X S o) (c.ret r) with
   | (rs,news)=>match tf rs,S.kQ news with
    | some v,some S'=>k (S'.put o.dst v)
    | _,_=>none
 | none=>none
theorem sP {R:Type} (X:Cx C) (c:iu C) (S:St C) (pre:List (SV C)) (as:List Operand) (ts:List TypeId) (post:List (SV C)) (o:Oper) (k:St C→Option R):qD X c S pre as ts post o k=yx X c S pre as ts post o k:=by
 unfold qD yx;rw [Bt];cases m6 X S c.pt pre as ts post<;>rfl
def WJ:Lf C→Lf C→Bool
 | .int _ a,.int _ b=>decide (a=b)
 | .str a,.str b=>decide (a=b)
 | .bool a,.bool b=>a==b
 | _,_=>false
def jC:List (Lf C)→List (Lf C)→Bool
 | [],[]=>true
 | [a],[b]=>WJ a b
 | a::r,b::s=>WJ a b&&jC r s
 | _,_=>false
def vq (K:Cd C) (kt vt:Ty) (x:C kt):List (Nat×C kt×C vt)→Option (Nat×C kt×C vt)
 | []=>none
 | e::r=>cond (jC (K.enc kt e.2.1) (K.enc kt x)) (some e) (vq K kt vt x r)
def qU (K:Cd C) (kt vt:Ty) (x:C kt) (xs:List (Nat×C kt×C vt)):Bool:=(vq K kt vt x xs).isSome
def qT (K:Cd C) (kt vt:Ty) (x:C kt) (xs:List (Nat×C kt×C vt)):C vt:=match vq K kt vt x xs with
 | some e=>e.2.2
 | none=>K.zero vt
def zx (K:Cd C) (kt vt:Ty) (x:C kt) (y:C vt) (clock:Nat):List (Nat×C kt×C vt)→List (Nat×C kt×C vt)
 | []=>[(clock,x,y)]
 | e::r=>cond (jC (K.enc kt e.2.1) (K.enc kt x)) ((e.1,x,y)::r) (e::zx K kt vt x y clock r)
def H4 (K:Cd C) (kt vt:Ty) (x:C kt) (clock:Nat) (xs:List (Nat×C kt×C vt)):Nat:=cond (qU K kt vt x xs) clock (clock+1)
def zy (K:Cd C) (kt vt:Ty) (x:C kt):List (Nat×C kt×C vt)→List (Nat×C kt×C vt)
 | []=>[]
 | e::r=>cond (jC (K.enc kt e.2.1) (K.enc kt x)) r (e::zy K kt vt x r)
def WG {R:Type} (K:Cd C) (kt vt:Ty) (x:C kt) (yes:C vt→Option R) (no:Option R):List (Nat×C kt×C vt)→Option R
 | []=>no
 | e::r=>cond (jC (K.enc kt e.2.1) (K.enc kt x)) (yes e.2.2) (WG K kt vt x yes no r)
def mkEq (a b:MK):Bool:=(a.kag==b.kag)&&(a.Yy==b.Yy)&&(a.un==b.un)&&(a.br==b.br)
def Vq:SV C→Bool
 | .agg _=>true
 | _=>false
def lL [DecidableEq Ty] {R:Type} (X:Cx C) (S:St C) (m:MT Ty) (l:Lf C) (key:SV C) (k:(kt vt:Ty)→C kt→List (Nat×C kt×C vt)→Nat→Option R):Option R:=cond (JM key&&(Vq key==m.fl.kag)) (match l with
 | .lZ .map=>match X.K.dec m.kt key.leaves with
  | some x=>k m.kt m.vt x [] 0
  | none=>none
 | .vo id=>match lk S.aj id with
  | some (.map mk kt vt xs c)=>cond (decide (kt=m.kt)&&decide (vt=m.vt)&&mkEq mk m.fl) (match X.K.dec kt key.leaves with
   | some x=>k kt vt x xs c
   | none=>none) none
  | _=>none
 | _=>none) none
def uT (X:Cx C) (mk:MK) (vt:Ty) (y:C vt):Bool×List (Lf C):=cond mk.un (true,[]) (mk.Yy,X.K.enc vt y)
def BZ (x:Bool×List (Lf C)):SV C:=match x with
 | (true,ls)=>.agg ls
 | (false,ls)=>.one (ls.headD .vp)
def E2 [DecidableEq Ty] {R:Type} (X:Cx C) (S:St C) (m:MT Ty) (l:Lf C) (key:SV C) (ok:Bool) (k:SV C→Option R):Option R:=
 lL X S m l key fun kt vt x xs _=>cond ok
  (WG X.K kt vt x (fun y=>k (.rC [uT X m.fl vt y,(false,[.bool true])])) (k (.rC [uT X m.fl vt (X.K.zero vt),(false,[.bool false])])) xs)
  (WG X.K kt vt x (fun y=>k (BZ (uT X m.fl vt y))) (k (BZ (uT X m.fl vt (X.K.zero vt)))) xs)
def oW [DecidableEq Ty] {R:Type} (X:Cx C) (S:St C) (m:MT Ty) (l:Lf C) (key:SV C) (ok:Bool) (k:SV C→Option R):Option R:=
 lL X S m l key fun kt vt x xs _=>cond ok
  (k (.rC [uT X m.fl vt (qT X.K kt vt x xs),(false,[.bool (qU X.K kt vt x xs)])]))
  (k (BZ (uT X m.fl vt (qT X.K kt vt x xs))))
def Hv [DecidableEq Ty] {R:Type} (X:Cx C) (S:St C) (m:MT Ty) (l:Lf C) (key v:SV C) (k:St C→Option R):Option R:=match l with
 | .vo id=>lL X S m (.vo id) key fun kt vt x xs c=>cond (JM v&&(Vq v==(m.fl.un||m.fl.Yy))&&(!m.fl.un||v.leaves.isEmpty)) (match cond m.fl.un (some (X.K.zero vt)) (X.K.dec vt v.leaves) with
  | some y=>k (S.setObj id (.map m.fl kt vt (zx X.K kt vt x y c xs) (H4 X.K kt vt x c xs)))
  | none=>none) none
 | _=>none
def Qy [DecidableEq Ty] {R:Type} (X:Cx C) (S:St C) (m:MT Ty) (l:Lf C) (key:SV C) (k:St C→Option R):Option R:=match l with
 | .vo id=>lL X S m (.vo id) key fun kt vt x xs c=>k (S.setObj id (.map m.fl kt vt (zy X.K kt vt x xs) c))
 | _=>none
def kU [DecidableEq Ty] (t t':Ty) (xs:List (C t)):Option (List (C t')):=match decEq t t' with
 | isTrue h=>some (h▸xs)
 | isFalse _=>none
def fH (S:St C):Option Nat→St C
 | some id=>S.kO id
 | none=>S
def kT {α:Type} (at_:Option Nat) (xs ys:List α):List α:=match at_ with
 | none=>xs++ys
 | some i=>xs.take i++ys++xs.drop i
def pD [DecidableEq Ty] {R:Type} (at_:Option Nat) (X:Cx C) (o:Oper) (S:St C) (t t0 t1:Ty) (xs:List (C t0)) (ys:List (C t1)) (dF iU:Option Nat) (sh:Bool) (k:St C→Option R):Option R:=
 match kU t0 t xs,kU t1 t ys with
 | some xs,some ys=>cond (decide ((xs.length+ys.length)*X.K.bytes t≤140737488355328)) (match St.add (fH (fH S dF) iU) (bP X S o) (.row t (kT at_ xs ys) (cond (X.K.flat t) false sh)) with
  | some S'=>k (S'.put o.dst (.one (.ref (bP X S o) [])))
  | none=>none) none
 | _,_=>none
def uj [DecidableEq Ty] {R:Type} (X:Cx C) (o:Oper) (S:St C) (t:Ty) (xs:List (C t)) (id:Nat) (t1:Ty) (ys:List (C t1)) (k:St C→Option R):Option R:=
 match kU t1 t ys with
 | some ys=>cond (X.K.flat t) (cond (S.aj.any fun x=>Bf id x.2) none (k (({ S.setObj id (.row t (ys.take xs.length++xs.drop ys.length) false) with env:=jr id S.env }:St C).put o.dst (.one (.int .i64 (Nat.min ys.length xs.length:Nat)))))) none
 | none=>none
def copyV [DecidableEq Ty] {R:Type} (X:Cx C) (o:Oper) (S:St C) (t:Ty) (l m:Lf C) (k:St C→Option R):Option R:=
 match l with
 | .ref id []=>match lk S.aj id with
  | some (.row t0 xs false)=>match kU t0 t xs with
   | some xs=>match m with
    | .row t1 ys=>uj X o S t xs id t1 ys k
    | .nil t1=>uj X o S t xs id t1 [] k
    | .ref i []=>match lk S.aj i with
     | some (.row t1 ys sh)=>uj X o S t xs id t1 ys k
     | _=>none
    | _=>none
   | none=>none
  | _=>none
 | _=>none
def clrV [DecidableEq Ty] {R:Type} (X:Cx C) (S:St C) (t:Ty) (l:Lf C) (k:St C→Option R):Option R:=
 match l with
 | .sub id lo hi=>match lk S.aj id with
  | some (.row t0 xs false)=>cond (decide (t0=t)&&X.K.flat t0) (cond (S.aj.any fun x=>Bf id x.2) none
    (k { S.setObj id (.row t0 (xs.take lo++List.replicate (hi-lo) (X.K.zero t0)++xs.drop hi) false) with env:=jr id S.env })) none
  | _=>none
 | _=>none
abbrev s9:=Option (Nat×List (Nat×Nat))
def HU {R:Type} (X:Cx C) (S:St C) (l:Lf C) (k:Lf C→s9→Option R):Option R:=
 match l with
 | .ref id p=>match lk S.aj id with
  | some (.row t xs false)=>path X.K p t xs fun t' zs=>k (.row t' zs) (some (id,p))
  | _=>none
 | .nil t=>k (.row t []) none
 | .int ki n=>k (.int ki n) none
 | .bool b=>k (.bool b) none
 | .str s=>k (.str s) none
 | _=>none
def qA {R:Type} (X:Cx C) (S:St C):List (Lf C)→(List (Lf C)→List s9→Option R)→Option R
 | [],k=>k [] []
 | l::r,k=>HU X S l fun l' t=>qA X S r fun r' ts=>k (l'::r') (t::ts)
def oM {R:Type} (X:Cx C) (S:St C):List Operand→List TypeId→(List (Bool×List (Lf C))→List s9→Option R)→Option R
 | [],_,k=>k [] []
 | x::r,ts,k=>match gu X S (ts.headD 0) x with
  | some (.one l)=>qA X S [l] fun ls t=>oM X S r ts.tail fun rs t'=>k ((false,ls)::rs) (t++t')
  | some (.agg ls)=>qA X S ls fun ls t=>oM X S r ts.tail fun rs t'=>k ((true,ls)::rs) (t++t')
  | _=>none
def fK:List s9→List Nat
 | []=>[]
 | some (id,_)::r=>id::fK r
 | none::r=>fK r
def jN (ids:List Nat):Lf C→Bool
 | .ref i (_::_)=>ids.any (Nat.beq i)
 | .ep i _ _ _=>ids.any (Nat.beq i)
 | .sub i _ _=>ids.any (Nat.beq i)
 | _=>false
def B7 (ids:List Nat):SV C→Bool
 | .bz x _=>x.2.any (jN ids)
 | .one l=>jN ids l
 | .agg ls=>ls.any (jN ids)
 | .rC vs=>vs.any fun x=>x.2.any (jN ids)
 | _=>false
def mf (ids:List Nat):List (Nat×SV C)→List (Nat×SV C)
 | []=>[]
 | (t,v)::r=>cond (B7 ids v) (rm (mf ids r) t) ((t,v)::mf ids r)
def N8 (ids:List Nat):Ob C→Bool
 | .box _ ls=>ls.any (jN ids)
 | .row .. =>false
 | .map .. =>false
 | .ghost=>false
def setPath [DecidableEq Ty] {R:Type} (K:Cd C):List (Nat×Nat)→(t:Ty)→List (C t)→Lf C→(List (C t)→Option R)→Option R
 | [],t,_,.row t' ys,k=>match kU t' t ys with
  | some ys=>k ys
  | none=>none
 | (i,o)::p,t,xs,l,k=>Option.bind xs[i]? fun x=>match (K.enc t x)[o]? with
  | some (.row t' ys)=>setPath K p t' ys l fun Ti=>match K.dec t ((K.enc t x).set o (.row t' Ti)) with
   | some y=>k (xs.set i y)
   | none=>none
  | _=>none
 | _,_,_,_,_=>none
def dU [DecidableEq Ty] {R:Type} (K:Cd C):List (Lf C)→List s9→List (Lf C)→St C→(St C→Option R)→Option R
 | [],[],[],S,k=>k S
 | .row _ _::ls,some (id,p)::ts,l::os,S,k=>match lk S.aj id with
  | some (.row t xs false)=>setPath K p t xs l fun xs'=>dU K ls ts os (S.setObj id (.row t xs' false)) k
  | _=>none
 | .row _ _::ls,none::ts,_::os,S,k=>dU K ls ts os S k
 | .int _ _::ls,none::ts,os,S,k=>dU K ls ts os S k
 | .bool _::ls,none::ts,os,S,k=>dU K ls ts os S k
 | .str _::ls,none::ts,os,S,k=>dU K ls ts os S k
 | _,_,_,_,_=>none
def flatten:List (Bool×List (Lf C))→List (Lf C)
 | []=>[]
 | x::r=>x.2++flatten r
def xH:List Nat→Bool
 | []=>true
 | n::r=>(!r.any (Nat.beq n))&&xH r
def uZ [DecidableEq Ty] {R:Type} (X:Cx C) (S:St C) (f:Nat) (as:List Operand) (ts:List TypeId) (o:Oper) (k:St C→Option R):Option R:=
 match X.yt f with
 | some c'=>oM X S as ts fun vs ts=>cond (xH (fK ts) && !(S.aj.any fun x=>N8 (fK ts) x.2))
  (Option.bind (c'.g vs) fun r=>dU X.K (flatten vs) ts (c'.out r) { S with env:=mf (fK ts) S.env } fun S'=>match bN (bP X S o) (c'.ret r) with
   | (rs,news)=>match tf rs,S'.kQ news with
    | some v,some DD=>k (DD.put o.dst v)
    | _,_=>none) none
 | none=>none
def mg (b:Nat):List (Nat×SV C)→List (Nat×SV C)
 | []=>[]
 | (t,.one l)::r=>(t+1000,.bz (false,[l]) (b+1000+t))::mg b r
 | (t,.agg ls)::r=>(t+1000,.bz (true,ls) (b+1000+t))::mg b r
 | (t,.jo id j)::r=>(t+1000,.jo id j)::mg b r
 | (t,.frame)::r=>(t+1000,.frame)::mg b r
 | (t,.bz x j)::r=>(t+1000,.bz x j)::mg b r
 | (t,_)::r=>rm (mg b r) (t+1000)
def mz (b:Nat):List (Nat×SV C)→Bool
 | []=>true
 | (_,.jo _ j)::r=>Nat.blt j (b+1000)&&mz b r
 | (_,.bz _ j)::r=>Nat.blt j (b+1000)&&mz b r
 | _::r=>mz b r
def zt (q:Nat) (S:St C):St C:={ env:=mg q S.env,aj:=S.aj,base:=q+1000 }
def N4 (x:Bool×List (Lf C)):SV C:=match x with
 | (false,[l])=>.one l
 | (_,ls)=>.agg ls
def jt (b:Nat):List (Nat×SV C)→List (Nat×SV C)
 | []=>[]
 | (t,.bz x j)::r=>cond (Nat.ble 1000 t) (cond (Nat.beq j (b+t)) ((t-1000,N4 x)::jt b r) (cond (Nat.blt j (b+1000)) ((t-1000,.bz x j)::jt b r) (rm (jt b r) (t-1000)))) (jt b r)
 | (t,.jo id j)::r=>cond (Nat.ble 1000 t) (cond (Nat.blt j (b+1000)) ((t-1000,.jo id j)::jt b r) (rm (jt b r) (t-1000))) (jt b r)
 | (t,.frame)::r=>cond (Nat.ble 1000 t) ((t-1000,.frame)::jt b r) (jt b r)
 | (t,_)::r=>rm (jt b r) (t-1000)
def YU (q b:Nat) (S:St C):St C:={ env:=jt q S.env,aj:=S.aj,base:=b }
def Jk (b:Nat) (d:Option Tmp):Nat:=match d with
 | some d=>(b+d)*1000
 | none=>(b+998)*1000
def fQ:List (Nat×SV C)→List (Nat×SV C)
 | []=>[]
 | (t,.bz x j)::r=>(t,.bz x j)::rm (fQ r) t
 | (t,.jo id j)::r=>(t,.jo id j)::rm (fQ r) t
 | (t,.frame)::r=>(t,.frame)::rm (fQ r) t
 | (t,_)::r=>rm (fQ r) t
def rI (env:List (Nat×SV C)):List Nat→List (Nat×SV C)
 | []=>[]
 | t::r=>match lk env t with
  | some v=>(t,v)::rI env r
  | none=>rI env r
def j6 (env:List (Nat×SV C)) (keep:List Nat):List (Nat×SV C):=rI env keep++fQ env
def St.tidy (S:St C) (keep:List Nat):St C:={ S with env:=j6 S.env keep }
def CQ {R:Type} (l:Lf C) (k:Lf C→R):R:=match l with
 | .int a b=>k (.int a b)
 | .bool b=>k (.bool b)
 | .str s=>k (.str s)
 | .row t xs=>k (.row t xs)
 | .nil t=>k (.nil t)
 | .vp=>k .vp
 | .ptr a b=>iW a fun a=>k (.ptr a b)
 | .eS t x o=>k (.eS t x o)
 | .ref a p=>iW a fun a=>k (.ref a p)
 | .ep a p i o=>iW a fun a=>k (.ep a p i o)
 | .dP f=>k (.dP f)
 | .lZ n=>k (.lZ n)
 | .vo a=>iW a fun a=>k (.vo a)
 | .sub a l h=>iW a fun a=>k (.sub a l h)
def p9 {R:Type}:List (Lf C)→(List (Lf C)→R)→R
 | [],k=>k []
 | l::r,k=>CQ l fun l'=>p9 r fun r'=>k (l'::r')
def Ir {R:Type} (v:SV C) (k:SV C→R):R:=match v with
 | .one l=>CQ l fun l'=>k (.one l')
 | .agg ls=>p9 ls fun ls'=>k (.agg ls')
 | .rC vs=>k (.rC vs)
 | .lX=>k .lX
 | .jo a j=>k (.jo a j)
 | .frame=>k .frame
 | .bz (b,ls) j=>p9 ls fun ls'=>k (.bz (b,ls') j)
def we {R:Type}:List (SV C)→(List (SV C)→R)→R
 | [],k=>k []
 | v::r,k=>Ir v fun v'=>we r fun r'=>k (v'::r')
def CR {R:Type}:List (Nat×SV C)→(List (Nat×SV C)→R)→R
 | [],k=>k []
 | (t,v)::r,k=>Ir v fun v'=>CR r fun r'=>k ((t,v')::r')
def mI {R:Type}:List (Nat×Ob C)→(List (Nat×Ob C)→R)→R
 | [],k=>k []
 | (t,.box kd ls)::r,k=>iW t fun t=>p9 ls fun ls'=>mI r fun r'=>k ((t,.box kd ls')::r')
 | (t,.row a xs sh)::r,k=>iW t fun t=>mI r fun r'=>k ((t,.row a xs sh)::r')
 | (t,.map a b c d e)::r,k=>iW t fun t=>mI r fun r'=>k ((t,.map a b c d e)::r')
 | (t,.ghost)::r,k=>iW t fun t=>mI r fun r'=>k ((t,.ghost)::r')
def Qn {R:Type} (n:Nat) (k:Nat→R):R:=iW n k
theorem MR {R:Type} (n:Nat) (k:Nat→R):Qn n k=k n:=jj n k
def mH {R:Type} (S:St C) (k:St C→R):R:=Qn S.base fun b=>CR S.env fun e=>mI S.aj fun o=>k ⟨e,o,b⟩
theorem AW {R:Type} (l:Lf C) (k:Lf C→R):CQ l k=k l:=by cases l<;>simp only [CQ,jj]
theorem nN {R:Type}:∀ (l:List (Lf C)) (k:List (Lf C)→R),p9 l k=k l
 | [],_=>rfl
 | l::r,k=>by rw [p9,AW,nN r]
theorem AV {R:Type} (v:SV C) (k:SV C→R):Ir v k=k v:=by
 cases v with
 | one l=>exact AW l fun l'=>k (.one l')
 | agg ls=>exact nN ls fun ls'=>k (.agg ls')
 | bz x j=>obtain ⟨b,ls⟩:=x;exact nN ls fun ls'=>k (.bz (b,ls') j)
 | _=>rfl
theorem yb {R:Type}:∀ (l:List (SV C)) (k:List (SV C)→R),we l k=k l
 | [],_=>rfl
 | v::r,k=>by rw [we,AV,yb r]
theorem AX {R:Type}:∀ (l:List (Nat×SV C)) (k:List (Nat×SV C)→R),CR l k=k l
 | [],_=>rfl
 | (t,v)::r,k=>by rw [CR,AV,AX r]
theorem mV {R:Type}:∀ (l:List (Nat×Ob C)) (k:List (Nat×Ob C)→R),mI l k=k l
 | [],_=>rfl
 | (t,.box kd ls)::r,k=>by rw [mI,jj,nN,mV r]
 | (t,.row a xs sh)::r,k=>by rw [mI,jj,mV r]
 | (t,.map a b c d e)::r,k=>by rw [mI,jj,mV r]
 | (t,.ghost)::r,k=>by rw [mI,jj,mV r]
theorem lu {R:Type} (S:St C) (k:St C→R):mH S k=k S:=by rw [mH,MR,AX,mV]
def yw {R:Type} (X:Cx C) (S:St C) (f:Nat) (pre:List (SV C)) (as:List Operand) (ts:List TypeId) (post:List (SV C)) (o:Oper) (k:St C→Option R):Option R:=
 match X.inl f with
 | some I=>match fE X S as ts with
  | some vs=>iW S.base fun b=>cond (mz (Jk b o.dst) S.env) (we (pre++(vs++post)) fun vs'=>mH (zt (Jk b o.dst) (S.tidy X.hold)) fun S1=>I.go R vs' S1 (fun rs S'=>match tf rs with
   | some v=>mH ((YU (Jk b o.dst) b S').put o.dst v) k
   | none=>none)) none
  | none=>none
 | none=>none
def lfV:Lf C→Option Value
 | .int k n=>some (.int k n)
 | .bool b=>some (.bool b)
 | .str s=>some (.string s)
 | _=>none
def vLf:Value→Option (Lf C)
 | .int k n=>some (.int k n)
 | .bool b=>some (.bool b)
 | .string s=>some (.str s)
 | _=>none
def Mm:List (SV C)→Option (List Value)
 | []=>some []
 | .one l::r=>match lfV l,Mm r with
  | some u,some us=>some (u::us)
  | _,_=>none
 | _=>none
def Mr [DecidableEq Ty] {R:Type} (X:Cx C) (t:Ty) (S:St C) (as:List Operand) (ts:List TypeId) (o:Oper) (k:St C→Option R):Option R:=match as,ts with
 | [s,i,x],[T,_,T']=>match gu X S T s,eu S i,eu S x with
  | some (.one l),some (.one (.int .i64 n)),some (.one (.ref id []))=>match lk S.aj id with
   | some (.row t1 ys sh)=>cond (Nat.beq ys.length 1&&decide (t1=t)&&decide (0≤n)) (match l with
    | .nil t0=>cond (decide (n=0)) (pD (some n.toNat) X o S t t0 t1 [] ys none (some id) sh k) none
    | .ref dF []=>cond (Nat.beq dF id) none (match lk S.aj dF with
     | some (.row t0 xs gA)=>cond (decide (n≤(xs.length:Int))) (pD (some n.toNat) X o S t t0 t1 xs ys (some dF) (some id) (gA||sh) k) none
     | _=>none)
    | _=>none) none
   | _=>none
  | _,_,_=>none
 | _,_=>none
def pz [DecidableEq Ty] {R:Type} (X:Cx C) (S:St C) (f:Nat) (as:List Operand) (ts:List TypeId) (o:Oper) (k:St C→Option R):Option R:=
 match X.ins f with
 | some t=>Mr X t S as ts o k
 | none=>
 match X.ext f with
 | some e=>match fE X S as ts with
  | some vs=>match Mm vs with
   | some us=>match e us with
    | some v=>match vLf v with
     | some l=>k (S.put o.dst (.one l))
     | none=>none
    | none=>none
   | none=>none
  | none=>none
 | none=>yw X S f [] as ts [] o k
def sO {R:Type} (X:Cx C) (S:St C) (f:Nat) (pre:List (SV C)) (as:List Operand) (ts:List TypeId) (post:List (SV C)) (o:Oper) (k:St C→Option R):Option R:=
 match X.KM f with
 | some c=>qD X c S pre as ts post o k
 | none=>yw X S f pre as ts post o k
def zz {R:Type} (ls:List (Lf C)) (sz:Nat) (ag:Bool) (i:Int) (k:SV C→Option R):Nat→Nat→Option R
 | 0,_=>none
 | n+1,j=>cond (decide (i=(j:Int))) (match ag with
  | true=>k (.agg ((ls.drop (j*sz)).take sz))
  | false=>match ls[j*sz]? with
   | some l=>k (.one l)
   | none=>none) (zz ls sz ag i k n (j+1))
def zB (S:St C) (n:Nat):Option Operand→Option Int
 | none=>some n
 | some x=>match eu S x with
  | some (.one (.int _ m))=>some m
  | _=>none
def Og [DecidableEq Ty] {R:Type} (S:St C) (t1:Ty) (id lo hi:Nat) (n:Int) (k:SV C→Option R):Option R:=match lk S.aj id with
 | some (.row t0 xs _)=>cond (decide (t0=t1)) (cond (decide (0≤n)) (cond (decide (n<((hi-lo:Nat):Int))) (k (.one (.ep id [] (lo+n.toNat) 0))) none) none) none
 | _=>none
def CG (X:Cx C) (o:Oper):Bool:=match o.dst with
 | some d=>X.view.any (Nat.beq d)
 | none=>false
def Oe [DecidableEq Ty] {R:Type} (X:Cx C) (S:St C) (t1:Ty) (id:Nat) (lo hi:Option Operand) (k:SV C→Option R):Option R:=match lk S.aj id with
 | some (.row t0 xs _)=>match zB S 0 lo,zB S xs.length hi with
  | some l,some h=>cond (decide (t0=t1)) (cond (decide (0≤l)) (cond (decide (l≤h)) (cond (decide (h≤(xs.length:Int))) (k (.one (.sub id l.toNat h.toNat))) none) none) none) none
  | _,_=>none
 | _=>none
def Od [DecidableEq Ty] {R:Type} (X:Cx C) (S:St C) (t1:Ty) (id zm hi0:Nat) (lo hi:Option Operand) (k:SV C→Option R):Option R:=match lk S.aj id with
 | some (.row t0 xs _)=>match zB S 0 lo,zB S (hi0-zm) hi with
  | some l,some h=>cond (decide (t0=t1)) (cond (decide (0≤l)) (cond (decide (l≤h)) (cond (decide (h≤((hi0-zm:Nat):Int))) (k (.one (.sub id (zm+l.toNat) (zm+h.toNat)))) none) none) none) none
  | _,_=>none
 | _=>none
def Cc [DecidableEq Ty] {R:Type} (X:Cx C) (S:St C) (o:Oper) (t1:Ty) (id:Nat) (lo hi:Option Operand) (k:St C→Option R):Option R:=match lk S.aj id,lo with
 | some (.row t0 xs false),none=>match zB S xs.length hi with
  | some h=>cond (decide (t0=t1)) (cond (decide (0≤h)) (cond (decide (h≤(xs.length:Int))) (match St.add (fH S (some id)) (bP X S o) (.row t0 (xs.take h.toNat) false) with
   | some S'=>k (S'.put o.dst (.one (.ref (bP X S o) [])))
   | none=>none) none) none) none
  | none=>none
 | _,_=>none
def ev [DecidableEq Ty] {R:Type} (X:Cx C) (o:Oper) (S:St C) (k:St C→Option R):Option R:=
 match o.op with
 | .move x | .assign x=>match gu X S o.type x with
  | some v=>k (S.put o.dst v)
  | none=>none
 | .pick c a b=>match eu S c,eu S a,eu S b with
  | some (.one (.bool c)),some (.one (.bool x)),some (.one (.bool y))=>k (S.put o.dst (.one (.bool (cond c x y))))
  | some (.one (.bool true)),some v,_=>k (S.put o.dst v)
  | some (.one (.bool false)),_,some v=>k (S.put o.dst v)
  | _,_,_=>none
 | .box e x=>match eu S x,X.tk e with
  | some v,some tk=>cond (Kk v tk) (match S.add (bP X S o) (.box .mem v.leaves) with
   | some S'=>k (S'.put o.dst (.one (.ptr (bP X S o) 0)))
   | none=>none) none
  | _,_=>none
 | .alloc e=>match X.tk e with
  | some (.one z)=>match S.add (bP X S o) (.box .mem [z.lf]) with
   | some S'=>k (S'.put o.dst (.one (.ptr (bP X S o) 0)))
   | none=>none
  | some (.agg _ zs)=>match S.add (bP X S o) (.box .mem (zs.map ZL.lf)) with
   | some S'=>k (S'.put o.dst (.one (.ptr (bP X S o) 0)))
   | none=>none
  | some (.arr _ _ _ zs)=>match S.add (bP X S o) (.box .mem (zs.map ZL.lf)) with
   | some S'=>k (S'.put o.dst (.one (.ptr (bP X S o) 0)))
   | none=>none
  | none=>none
 | .build t parts=>match X.tk t with
  | some (.agg fs zs)=>match partsOf X fs S parts.toList (zs.map ZL.lf) with
   | some ls=>cond (fs.all fun f=>Nat.ble (f.1+f.2.1) zs.length) (k (S.put o.dst (.agg ls))) none
   | none=>none
  | some (.arr n sz ag zs)=>match partsOf X (yB sz ag 0 n) S parts.toList (zs.map ZL.lf) with
   | some ls=>k (S.put o.dst (.agg ls))
   | none=>none
  | _=>none
 | .buildSlice t n parts=>match X.tk t with
  | some (.one (.er t))=>match elems X t S 0 parts.toList with
   | some (es,S',b)=>cond (Nat.beq es.length n&&Nat.ble (n*X.K.sz t) 16777216) (match S'.add (bP X S o) (.row t es (cond (X.K.flat t) false b)) with
    | some DD=>k (DD.put o.dst (.one (.ref (bP X S o) [])))
    | none=>none) none
   | none=>none
  | _=>none
 | .load t a=>match X.tk t,eu S a with
  | some tk,some (.one l)=>dZ X S l fun ls=>match Cy tk ls with
   | some v=>k (S.put o.dst v)
   | none=>none
  | _,_=>none
 | .store t a x=>match X.tk t,eu S a,gu X S t x with
  | some tk,some (.one (.ptr id off)),some v=>cond (fits v tk) (match lk S.aj id with
   | some (.box .mem ls)=>cond (Nat.ble (off+tk.size) ls.length) (k ((S.setObj id (.box .mem (setAt ls off v.leaves))).drop o.dst)) none
   | _=>none) none
  | some tk,some (.one (.ep id [] i off)),some v=>cond (fits v tk) (match cV S v.leaves with
   | some (ls,S',b)=>match lk S'.aj id with
    | some (.row t xs sh)=>cond (b && !sh) none (Option.bind xs[i]? fun x=>match X.K.dec t (setAt (X.K.enc t x) off ls) with
     | some y=>cond (Nat.ble (off+tk.size) (X.K.sz t)) (cond (S'.aj.any fun x=>Bf id x.2) none (k (({ S'.setObj id (.row t (xs.set i y) sh) with env:=jr id S'.env }).drop o.dst))) none
     | none=>none)
    | _=>none
   | none=>none) none
  | _,_,_=>none
 | .nilCheck x=>match eu S x with
  | some (.one (.ptr id off))=>k (S.put o.dst (.one (.ptr id off)))
  | some (.one (.eS t x off))=>k (S.put o.dst (.one (.eS t x off)))
  | some (.one (.ep id p i off))=>k (S.put o.dst (.one (.ep id p i off)))
  | some v=>cond (xN S v) (k (S.put o.dst v)) none
  | none=>none
 | .binOp op t x y t'=>match gu X S t x,gu X S t' y with
  | some a,some (.one (.nil _))=>xI (X.tk t) X S op a fun v=>k (S.put o.dst v)
  | some a,some b=>cond (CI b) (px S (X.tk t) op a b (isConst y) fun v=>k (S.put o.dst v)) (IU (X.U2 t) (X.tk t) op a b fun v=>k (S.put o.dst v))
  | _,_=>none
 | .unOp op t x=>match op,eu S x with
  | .not,some (.one (.bool b))=>k (S.put o.dst (.one (.bool (!b))))
  | .neg,some (.one (.int ki n))=>k (S.put o.dst (.one (.int ki (ki.wrap (0-n)))))
  | _,_=>none
 | .convert t t' x=>match X.tk t,X.tk t',eu S x with
  | some _,some (.one (.int k')),some (.one (.int _ n))=>k (S.put o.dst (.one (.int k' (k'.wrap n))))
  | some _,some (.one .str),some (.one (.str s))=>k (S.put o.dst (.one (.str s)))
  | some (.one (.er t1)),some (.one .str),some (.one l)=>oC S X l fun t0 xs=>cond (decide (t0=t1)) (cond (X.K.byte t1) (match X.tk (X.K.tid t1) with
   | some (.one (.int .u8))=>k (S.put o.dst (.one (.str (strOf X.K t0 xs))))
   | _=>none) none) none
  | _,_,_=>none
 | .fieldAddr t x f=>match X.tk t,eu S x with
  | some (.agg fs _),some (.one l)=>match fs[f]? with
   | some (off,_,_)=>match Dc l off with
    | some l'=>k (S.put o.dst (.one l'))
    | none=>none
   | none=>none
  | _,_=>none
 | .field t x f=>match X.tk t,eu S x with
  | some (.agg fs _),some (.agg ls)=>match fs[f]? with
   | some (off,n,true)=>k (S.put o.dst (.agg ((ls.drop off).take n)))
   | some (off,_,false)=>match ls[off]? with
    | some l=>k (S.put o.dst (.one l))
    | none=>none
   | none=>none
  | _,_=>none
 | .indexAddr t x i=>match X.tk t,eu S x,eu S i with
  | some (.one (.er t1)),some (.one (.row t0 xs)),some (.one (.int _ n))=>cond (decide (t0=t1)) (cond (decide (0≤n)) (Option.bind xs[n.toNat]? fun e=>k (S.put o.dst (.one (.eS t0 e 0)))) none) none
  | some (.one (.er t1)),some (.one (.ref id p)),some (.one (.int _ n))=>cond (decide (0≤n)) (oC S X (.ref id p) fun t0 xs=>
    cond (decide (t0=t1)) (cond (decide (n<(xs.length:Int))) (k (S.put o.dst (.one (.ep id p n.toNat 0)))) none) none) none
  | some (.one (.er t1)),some (.one (.sub id lo hi)),some (.one (.int _ n))=>Og S t1 id lo hi n fun v=>k (S.put o.dst v)
  | _,_,_=>none
 | .index t x i=>match X.tk t,eu S x,eu S i with
  | some (.one .str),some (.one (.str s)),some (.one (.int _ n))=>cond (decide (0≤n)) (cond (decide (n<(s.size:Int))) (k (S.put o.dst (.one (.int .u8 (uF s n))))) none) none
  | some (.arr m sz ag _),some (.agg ls),some (.one (.int _ n))=>zz ls sz ag n (fun v=>k (S.put o.dst v)) m 0
  | _,_,_=>none
 | .slice t x lo hi mx=>match mx,X.tk t,eu S x with
  | none,some (.one .str),some (.one (.str s))=>
   match zB S 0 lo,zB S s.size hi with
   | some l,some h=>cond (decide (0≤l)) (cond (decide (l≤h)) (cond (decide (h≤(s.size:Int))) (k (S.put o.dst (.one (.str (s.extract l.toNat h.toNat))))) none) none) none
   | _,_=>none
  | none,some (.one (.er t1)),some (.one (.row t0 xs))=>
   match zB S 0 lo,zB S xs.length hi with
   | some l,some h=>cond (decide (t0=t1)) (cond (decide (0≤l)) (cond (decide (l≤h)) (cond (decide (h≤(xs.length:Int))) (k (S.put o.dst (.one (.row t0 ((xs.take h.toNat).drop l.toNat))))) none) none) none) none
   | _,_=>none
  | none,some (.one (.er t1)),some (.one (.ref id []))=>cond (CG X o) (Oe X S t1 id lo hi fun v=>k (S.put o.dst v)) (Cc X S o t1 id lo hi k)
  | none,some (.one (.er t1)),some (.one (.sub id zm hi0))=>Od X S t1 id zm hi0 lo hi fun v=>k (S.put o.dst v)
  | _,_,_=>none
 | .makeSlice t n c=>cond (sA n) (match X.tk t,eu S c with
  | some (.one (.er t)),some (.one (.int _ m))=>cond (decide (0≤m)) (cond (decide (m*(X.K.bytes t:Int)≤140737488355328)) (match S.add (bP X S o) (.row t [] false) with
    | some S'=>k (S'.put o.dst (.one (.ref (bP X S o) [])))
    | none=>none) none) none
  | _,_=>none) (match X.tk t,eu S n,eu S c with
  | some (.one (.er t)),some (.one (.int _ n)),some (.one (.int _ m))=>
   cond (decide (n=m)) (cond (decide (0≤n)) (cond (decide (n*(X.K.bytes t:Int)≤140737488355328)) (match S.add (bP X S o) (.row t (List.replicate n.toNat (X.K.zero t)) false) with
    | some S'=>k (S'.put o.dst (.one (.ref (bP X S o) [])))
    | none=>none) none) none) none
  | _,_,_=>none)
 | .extract t i=>match eu S t with
  | some (.rC vs)=>match vs[i]? with
   | some (false,[l])=>k (S.put o.dst (.one l))
   | some (true,ls)=>k (S.put o.dst (.agg ls))
   | _=>none
  | _=>none
 | .call c=>match c.callee with
  | .builtin .len=>match c.args.toList,c.argTypes.toList with
   | [x],[t]=>match X.tk t,eu S x with
    | some (.one .str),some (.one (.str s))=>k (S.put o.dst (.one (.int .i64 s.size)))
    | some (.one (.er _)),some (.one l)=>oC S X l fun _ xs=>k (S.put o.dst (.one (.int .i64 xs.length)))
    | _,_=>none
   | _,_=>none
  | .builtin .min=>match c.args.toList with
   | [x,y]=>match eu S x,eu S y with
    | some (.one (.int kx a)),some (.one (.int _ b))=>k (S.put o.dst (.one (.int kx (cond (decide (b<a)) b a))))
    | _,_=>none
   | _=>none
  | .builtin .max=>match c.args.toList with
   | [x,y]=>match eu S x,eu S y with
    | some (.one (.int kx a)),some (.one (.int _ b))=>k (S.put o.dst (.one (.int kx (cond (decide (b>a)) b a))))
    | _,_=>none
   | _=>none
  | .builtin .append=>match c.args.toList,c.argTypes.toList with
   | [s,x],[t,t']=>match X.tk t,gu X S t s,gu X S t' x with
    | some (.one (.er t)),some (.one l),some (.one m)=>
     cond (Nat.beq (c.argTypes.toList.headD 0) t') (match l with
     | .nil t0=>match m with
      | .ref id []=>match lk S.aj id with
       | some (.row t1 ys sh)=>pD none X o S t t0 t1 [] ys none (some id) sh k
       | _=>none
      | .sub id lo hi=>match lk S.aj id with
       | some (.row t1 ys _)=>cond (X.K.flat t1) (pD none X o S t t0 t1 [] ((ys.take hi).drop lo) none none false k) none
       | _=>none
      | .row t1 ys=>pD none X o S t t0 t1 [] ys none none true k
      | .nil t1=>pD none X o S t t0 t1 [] [] none none false k
      | _=>none
     | .ref dF []=>match lk S.aj dF with
      | some (.row t0 xs gA)=>match m with
       | .ref id []=>cond (Nat.beq dF id) none (match lk S.aj id with
        | some (.row t1 ys sh)=>pD none X o S t t0 t1 xs ys (some dF) (some id) (gA||sh) k
        | _=>none)
       | .sub id lo hi=>match lk S.aj id with
        | some (.row t1 ys _)=>cond (X.K.flat t1) (pD none X o S t t0 t1 xs ((ys.take hi).drop lo) (some dF) none gA k) none
        | _=>none
       | .row t1 ys=>pD none X o S t t0 t1 xs ys (some dF) none true k
       | .nil t1=>pD none X o S t t0 t1 xs [] (some dF) none gA k
       | _=>none
      | _=>none
     | _=>none) none
    | _,_,_=>none
   | _,_=>none
  | .builtin .copy=>match c.args.toList,c.argTypes.toList with
   | [x,y],[t,t']=>match X.tk t,gu X S t x,gu X S t' y with
    | some (.one (.er t)),some (.one l),some (.one m)=>copyV X o S t l m k
    | _,_,_=>none
   | _,_=>none
  | .builtin .clear=>match c.args.toList,c.argTypes.toList with
   | [x],[t]=>match X.tk t,eu S x with
    | some (.one (.er t)),some (.one l)=>clrV X S t l fun S'=>k (S'.drop o.dst)
    | _,_=>none
   | _,_=>none
  | .builtin .delete=>match c.args.toList,c.argTypes.toList with
   | [m,x],[t,t']=>match X.mp t,eu S m,gu X S t' x with
    | some mt,some (.one l),some key=>Qy X S mt l key fun S'=>k (S'.drop o.dst)
    | _,_,_=>none
   | _,_=>none
  | .value (.func f)=>match X.KM f with
   | some c'=>qD X c' S [] c.args.toList c.argTypes.toList [] o k
   | none=>match X.yt f with
    | some _=>uZ X S f c.args.toList c.argTypes.toList o k
    | none=>pz X S f c.args.toList c.argTypes.toList o k
  | .value (.tmp t)=>match lk S.env t with
   | some (.one l)=>qC S l fun f pre post=>sO X S f pre c.args.toList c.argTypes.toList post o k
   | _=>none
  | .invoke x name=>sB S (eu S x) fun t v=>match X.H3 t name with
   | some f=>sO X S f [v] c.args.toList c.argTypes.toList [] o k
   | none=>none
  | _=>none
 | .makeFunc fn first captured=>match fn with
  | .func f=>match fE X S first.toList [],fE X S captured.toList [] with
   | some vs,some us=>cond ((vs++us).isEmpty) (cond (Nat.ble og f) none (k (S.put o.dst (.one (.dP (some f)))))) (match S.add (bP X S o) (.box (.gV f vs.length (vl (vs++us))) (dW (vs++us))) with
    | some S'=>k (S'.put o.dst (.one (.vo (bP X S o))))
    | none=>none)
   | _,_=>none
  | _=>none
 | .makeInterface t x=>match X.tk t,gu X S t x with
  | some (.agg [] []),some (.agg [])=>k (S.put o.dst (.one (.dP (some (og+1+t)))))
  | some tk,some v=>cond (HV tk&&JM v) (match S.add (bP X S o) (.box (.mF t (vl [v])) v.leaves) with
   | some S'=>k (S'.put o.dst (.one (.vo (bP X S o))))
   | none=>none) none
  | _,_=>none
 | .makeMap t n=>match n,X.mp t with
  | none,some m=>match S.add (bP X S o) (.map m.fl m.kt m.vt [] 0) with
   | some S'=>k (S'.put o.dst (.one (.vo (bP X S o))))
   | none=>none
  | _,_=>none
 | .lookup t x i ok=>match X.mp t,eu S x,eu S i with
  | some m,some (.one l),some key=>cond m.fl.br (E2 X S m l key ok fun v=>k (S.put o.dst v)) (oW X S m l key ok fun v=>k (S.put o.dst v))
  | _,_,_=>none
 | .mapUpdate t x i y=>match X.mp t,eu S x,eu S i with
  | some m,some (.one l),some key=>match gu X S (X.K.tid m.vt) y with
   | some v=>Hv X S m l key v fun S'=>k (S'.drop o.dst)
   | none=>none
  | _,_,_=>none
 | .insert t x i y=>match X.mp t,eu S x,eu S i with
  | some m,some (.one l),some key=>match gu X S (X.K.tid m.vt) y with
   | some v=>Hv X S m l key v fun S'=>k (S'.drop o.dst)
   | none=>none
  | _,_,_=>none
 | _=>none
def evs [DecidableEq Ty] {R:Type} (X:Cx C) (all:Array Oper):List Oper→St C→(St C→Option R)→Option R
 | [],S,k=>k S
 | o::r,S,k=>match o.guard with
  | none=>ev X o S (fun S'=>evs X all r S' k)
  | some (j,want)=>match (all[j]?).bind (·.dst) with
   | some d=>match lk S.env d with
    | some (.one (.bool b))=>cond b
      (match want with
       | true=>ev X o (S.put (some d) (.one (.bool true))) (fun S'=>evs X all r S' k)
       | false=>evs X all r ((S.put (some d) (.one (.bool true))).put o.dst .lX) k)
      (match want with
       | true=>evs X all r ((S.put (some d) (.one (.bool false))).put o.dst .lX) k
       | false=>ev X o (S.put (some d) (.one (.bool false))) (fun S'=>evs X all r S' k))
    | some .lX=>evs X all r (S.put o.dst .lX) k
    | _=>none
   | none=>none
def gG:List Nat→Bool
 | []=>true
 | n::r=>(!r.any (Nat.beq n))&&gG r
def dA {α:Type}:List Nat→List (Nat×α)→List (Nat×α)
 | [],l=>l
 | d::r,l=>dA r (rm l d)
def wY:List (Lf C)→List Nat
 | []=>[]
 | .ref id []::r=>id::wY r
 | _::r=>wY r
def rR (X:Cx C) (t:Ty) (S:St C):List (Nat×Operand)→List Nat
 | []=>[]
 | (_,x)::r=>match gu X S (X.K.tid t) x with
  | some v=>wY v.leaves++rR X t { S with aj:=dA (wY v.leaves) S.aj } r
  | none=>[]
def vZ (o:Option Nat):List Nat:=match o with
 | some id=>[id]
 | none=>[]
def oc [DecidableEq Ty] {R:Type} (at_:Option Nat) (X:Cx C) (o:Oper) (S:St C) (t t0 t1:Ty) (xs:List (C t0)) (ys:List (C t1)) (dF iU:Option Nat) (sh:Bool) (k:SV C→List (Nat×Ob C)→List Nat→Option R):Option R:=
 match kU t0 t xs,kU t1 t ys with
 | some xs,some ys=>cond (decide ((xs.length+ys.length)*X.K.bytes t≤140737488355328)) (k (.one (.ref (bP X S o) [])) [(bP X S o,.row t (kT at_ xs ys) (cond (X.K.flat t) false sh))] (vZ dF++vZ iU)) none
 | _,_=>none
def WO [DecidableEq Ty] {R:Type} (X:Cx C) (t:Ty) (S:St C) (as:List Operand) (ts:List TypeId) (o:Oper) (k:SV C→List (Nat×Ob C)→List Nat→Option R):Option R:=match as,ts with
 | [s,i,x],[T,_,T']=>match gu X S T s,eu S i,eu S x with
  | some (.one l),some (.one (.int .i64 n)),some (.one (.ref id []))=>match lk S.aj id with
   | some (.row t1 ys sh)=>cond (Nat.beq ys.length 1&&decide (t1=t)&&decide (0≤n)) (match l with
    | .nil t0=>cond (decide (n=0)) (oc (some n.toNat) X o S t t0 t1 [] ys none (some id) sh k) none
    | .ref dF []=>cond (Nat.beq dF id) none (match lk S.aj dF with
     | some (.row t0 xs gA)=>cond (decide (n≤(xs.length:Int))) (oc (some n.toNat) X o S t t0 t1 xs ys (some dF) (some id) (gA||sh) k) none
     | _=>none)
    | _=>none) none
   | _=>none
  | _,_,_=>none
 | _,_=>none
def nP {R:Type} (X:Cx C) (c:iu C) (S:St C) (pre:List (SV C)) (as:List Operand) (ts:List TypeId) (post:List (SV C)) (o:Oper) (k:SV C→List (Nat×Ob C)→List Nat→Option R):Option R:=Da X S c.pt pre as ts post fun vs=>Option.bind (c.g vs) fun r=>match c.nz with
  | true=>none
  | false=>match ET c (bP X S o) (c.ret r) with
   | (rs,news)=>match tf rs with
    | some v=>k v news.reverse []
    | none=>none
def wh {R:Type} (X:Cx C) (c:iu C) (S:St C) (pre:List (SV C)) (as:List Operand) (ts:List TypeId) (post:List (SV C)) (o:Oper) (k:SV C→List (Nat×Ob C)→List Nat→Option R):Option R:=match m6 X S c.pt pre as ts post with
 | some vs=>Option.bind (c.g vs) fun r=>match c.nz with
  | true=>none
  | false=>match ET c (bP X S o) (c.ret r) with
   | (rs,news)=>match tf rs with
    | some v=>k v news.reverse []
    | none=>none
 | none=>none
theorem uo {R:Type} (X:Cx C) (c:iu C) (S:St C) (pre:List (SV C)) (as:List Operand) (ts:List TypeId) (post:List (SV C)) (o:Oper) (k:SV C→List (Nat×Ob C)→List Nat→Option R):nP X c S pre as ts post o k=wh X c S pre as ts post o k:=by
 unfold nP wh;rw [Bt];cases m6 X S c.pt pre as ts post<;>rfl
def kN [DecidableEq Ty] {R:Type} (X:Cx C) (o:Oper) (S:St C) (k:SV C→List (Nat×Ob C)→List Nat→Option R):Option R:=
 match o.op with
 | .move x=>match gu X S o.type x with
  | some v=>k v [] []
  | none=>none
 | .pick c a b=>match eu S c,eu S a,eu S b with
  | some (.one (.bool c)),some (.one (.bool x)),some (.one (.bool y))=>k (.one (.bool (cond c x y))) [] []
  | some (.one (.bool true)),some v,_=>k v [] []
  | some (.one (.bool false)),_,some v=>k v [] []
  | _,_,_=>none
 | .box e x=>match eu S x,X.tk e with
  | some v,some tk=>cond (Kk v tk) (k (.one (.ptr (bP X S o) 0)) [(bP X S o,.box .mem v.leaves)] []) none
  | _,_=>none
 | .alloc e=>match X.tk e with
  | some (.one z)=>k (.one (.ptr (bP X S o) 0)) [(bP X S o,.box .mem [z.lf])] []
  | some (.agg _ zs)=>k (.one (.ptr (bP X S o) 0)) [(bP X S o,.box .mem (zs.map ZL.lf))] []
  | some (.arr _ _ _ zs)=>k (.one (.ptr (bP X S o) 0)) [(bP X S o,.box .mem (zs.map ZL.lf))] []
  | none=>none
 | .build t parts=>match X.tk t with
  | some (.agg fs zs)=>match partsOf X fs S parts.toList (zs.map ZL.lf) with
   | some ls=>cond (fs.all fun f=>Nat.ble (f.1+f.2.1) zs.length) (k (.agg ls) [] []) none
   | none=>none
  | some (.arr n sz ag zs)=>match partsOf X (yB sz ag 0 n) S parts.toList (zs.map ZL.lf) with
   | some ls=>k (.agg ls) [] []
   | none=>none
  | _=>none
 | .buildSlice t n parts=>match X.tk t with
  | some (.one (.er t))=>match elems X t S 0 parts.toList with
   | some (es,_,b)=>cond (Nat.beq es.length n&&Nat.ble (n*X.K.sz t) 16777216) (k (.one (.ref (bP X S o) [])) [(bP X S o,.row t es (cond (X.K.flat t) false b))] (rR X t S parts.toList)) none
   | none=>none
  | _=>none
 | .load t a=>match X.tk t,eu S a with
  | some tk,some (.one l)=>dZ X S l fun ls=>match Cy tk ls with
   | some v=>k v [] []
   | none=>none
  | _,_=>none
 | .nilCheck x=>match eu S x with
  | some (.one (.ptr id off))=>k (.one (.ptr id off)) [] []
  | some (.one (.eS t x off))=>k (.one (.eS t x off)) [] []
  | some (.one (.ep id p i off))=>k (.one (.ep id p i off)) [] []
  | some v=>cond (xN S v) (k v [] []) none
  | none=>none
 | .binOp op t x y t'=>match gu X S t x,gu X S t' y with
  | some _,some (.one (.nil _))=>none
  | some a,some b=>cond (CI b) (px S (X.tk t) op a b (isConst y) fun v=>k v [] []) (IU (X.U2 t) (X.tk t) op a b fun v=>k v [] [])
  | _,_=>none
 | .unOp op t x=>match op,eu S x with
  | .not,some (.one (.bool b))=>k (.one (.bool (!b))) [] []
  | .neg,some (.one (.int ki n))=>k (.one (.int ki (ki.wrap (0-n)))) [] []
  | _,_=>none
 | .convert t t' x=>match X.tk t,X.tk t',eu S x with
  | some _,some (.one (.int k')),some (.one (.int _ n))=>k (.one (.int k' (k'.wrap n))) [] []
  | some _,some (.one .str),some (.one (.str s))=>k (.one (.str s)) [] []
  | some (.one (.er t1)),some (.one .str),some (.one l)=>oC S X l fun t0 xs=>cond (decide (t0=t1)) (cond (X.K.byte t1) (match X.tk (X.K.tid t1) with
   | some (.one (.int .u8))=>k (.one (.str (strOf X.K t0 xs))) [] []
   | _=>none) none) none
  | _,_,_=>none
 | .fieldAddr t x f=>match X.tk t,eu S x with
  | some (.agg fs _),some (.one l)=>match fs[f]? with
   | some (off,_,_)=>match Dc l off with
    | some l'=>k (.one l') [] []
    | none=>none
   | none=>none
  | _,_=>none
 | .field t x f=>match X.tk t,eu S x with
  | some (.agg fs _),some (.agg ls)=>match fs[f]? with
   | some (off,n,true)=>k (.agg ((ls.drop off).take n)) [] []
   | some (off,_,false)=>match ls[off]? with
    | some l=>k (.one l) [] []
    | none=>none
   | none=>none
  | _,_=>none
 | .indexAddr t x i=>match X.tk t,eu S x,eu S i with
  | some (.one (.er t1)),some (.one (.row t0 xs)),some (.one (.int _ n))=>cond (decide (t0=t1)) (cond (decide (0≤n)) (Option.bind xs[n.toNat]? fun e=>k (.one (.eS t0 e 0)) [] []) none) none
  | some (.one (.er t1)),some (.one (.ref id p)),some (.one (.int _ n))=>cond (decide (0≤n)) (oC S X (.ref id p) fun t0 xs=>
    cond (decide (t0=t1)) (cond (decide (n<(xs.length:Int))) (k (.one (.ep id p n.toNat 0)) [] []) none) none) none
  | some (.one (.er t1)),some (.one (.sub id lo hi)),some (.one (.int _ n))=>Og S t1 id lo hi n fun v=>k v [] []
  | _,_,_=>none
 | .index t x i=>match X.tk t,eu S x,eu S i with
  | some (.one .str),some (.one (.str s)),some (.one (.int _ n))=>cond (decide (0≤n)) (cond (decide (n<(s.size:Int))) (k (.one (.int .u8 (uF s n))) [] []) none) none
  | some (.arr m sz ag _),some (.agg ls),some (.one (.int _ n))=>zz ls sz ag n (fun v=>k v [] []) m 0
  | _,_,_=>none
 | .slice t x lo hi mx=>match mx,X.tk t,eu S x with
  | none,some (.one .str),some (.one (.str s))=>
   match zB S 0 lo,zB S s.size hi with
   | some l,some h=>cond (decide (0≤l)) (cond (decide (l≤h)) (cond (decide (h≤(s.size:Int))) (k (.one (.str (s.extract l.toNat h.toNat))) [] []) none) none) none
   | _,_=>none
  | none,some (.one (.er t1)),some (.one (.row t0 xs))=>
   match zB S 0 lo,zB S xs.length hi with
   | some l,some h=>cond (decide (t0=t1)) (cond (decide (0≤l)) (cond (decide (l≤h)) (cond (decide (h≤(xs.length:Int))) (k (.one (.row t0 ((xs.take h.toNat).drop l.toNat))) [] []) none) none) none) none
   | _,_=>none
  | none,some (.one (.er t1)),some (.one (.ref id []))=>cond (CG X o) (Oe X S t1 id lo hi fun v=>k v [] []) none
  | none,some (.one (.er t1)),some (.one (.sub id zm hi0))=>Od X S t1 id zm hi0 lo hi fun v=>k v [] []
  | _,_,_=>none
 | .makeSlice t n c=>cond (sA n) (match X.tk t,eu S c with
  | some (.one (.er t)),some (.one (.int _ m))=>cond (decide (0≤m)) (cond (decide (m*(X.K.bytes t:Int)≤140737488355328)) (k (.one (.ref (bP X S o) [])) [(bP X S o,.row t [] false)] []) none) none
  | _,_=>none) (match X.tk t,eu S n,eu S c with
  | some (.one (.er t)),some (.one (.int _ n)),some (.one (.int _ m))=>
   cond (decide (n=m)) (cond (decide (0≤n)) (cond (decide (n*(X.K.bytes t:Int)≤140737488355328)) (k (.one (.ref (bP X S o) [])) [(bP X S o,.row t (List.replicate n.toNat (X.K.zero t)) false)] []) none) none) none
  | _,_,_=>none)
 | .extract t i=>match eu S t with
  | some (.rC vs)=>match vs[i]? with
   | some (false,[l])=>k (.one l) [] []
   | some (true,ls)=>k (.agg ls) [] []
   | _=>none
  | _=>none
 | .call c=>match c.callee with
  | .builtin .len=>match c.args.toList,c.argTypes.toList with
   | [x],[t]=>match X.tk t,eu S x with
    | some (.one .str),some (.one (.str s))=>k (.one (.int .i64 s.size)) [] []
    | some (.one (.er _)),some (.one l)=>oC S X l fun _ xs=>k (.one (.int .i64 xs.length)) [] []
    | _,_=>none
   | _,_=>none
  | .builtin .min=>match c.args.toList with
   | [x,y]=>match eu S x,eu S y with
    | some (.one (.int kx a)),some (.one (.int _ b))=>k (.one (.int kx (cond (decide (b<a)) b a))) [] []
    | _,_=>none
   | _=>none
  | .builtin .max=>match c.args.toList with
   | [x,y]=>match eu S x,eu S y with
    | some (.one (.int kx a)),some (.one (.int _ b))=>k (.one (.int kx (cond (decide (b>a)) b a))) [] []
    | _,_=>none
   | _=>none
  | .builtin .append=>match c.args.toList,c.argTypes.toList with
   | [s,x],[t,t']=>match X.tk t,gu X S t s,gu X S t' x with
    | some (.one (.er t)),some (.one l),some (.one m)=>
     cond (Nat.beq (c.argTypes.toList.headD 0) t') (match l with
     | .nil t0=>match m with
      | .ref id []=>match lk S.aj id with
       | some (.row t1 ys sh)=>oc none X o S t t0 t1 [] ys none (some id) sh k
       | _=>none
      | .sub id lo hi=>match lk S.aj id with
       | some (.row t1 ys _)=>cond (X.K.flat t1) (oc none X o S t t0 t1 [] ((ys.take hi).drop lo) none none false k) none
       | _=>none
      | .row t1 ys=>oc none X o S t t0 t1 [] ys none none true k
      | .nil t1=>oc none X o S t t0 t1 [] [] none none false k
      | _=>none
     | .ref dF []=>match lk S.aj dF with
      | some (.row t0 xs gA)=>match m with
       | .ref id []=>cond (Nat.beq dF id) none (match lk S.aj id with
        | some (.row t1 ys sh)=>oc none X o S t t0 t1 xs ys (some dF) (some id) (gA||sh) k
        | _=>none)
       | .sub id lo hi=>match lk S.aj id with
        | some (.row t1 ys _)=>cond (X.K.flat t1) (oc none X o S t t0 t1 xs ((ys.take hi).drop lo) (some dF) none gA k) none
        | _=>none
       | .row t1 ys=>oc none X o S t t0 t1 xs ys (some dF) none true k
       | .nil t1=>oc none X o S t t0 t1 xs [] (some dF) none gA k
       | _=>none
      | _=>none
     | _=>none) none
    | _,_,_=>none
   | _,_=>none
  | .value (.func f)=>match X.KM f with
   | some c'=>nP X c' S [] c.args.toList c.argTypes.toList [] o k
   | none=>match X.yt f with
    | some _=>none
    | none=>match X.ins f with
     | some t=>WO X t S c.args.toList c.argTypes.toList o k
     | none=>none
  | .value (.tmp t)=>match lk S.env t with
   | some (.one l)=>qC S l fun f pre post=>match X.KM f with
    | some c'=>nP X c' S pre c.args.toList c.argTypes.toList post o k
    | none=>none
   | _=>none
  | .invoke x name=>sB S (eu S x) fun t v=>match X.H3 t name with
   | some f=>match X.KM f with
    | some c'=>nP X c' S [v] c.args.toList c.argTypes.toList [] o k
    | none=>none
   | none=>none
  | _=>none
 | .makeFunc fn first captured=>match fn with
  | .func f=>match fE X S first.toList [],fE X S captured.toList [] with
   | some vs,some us=>cond ((vs++us).isEmpty) (cond (Nat.ble og f) none (k (.one (.dP (some f))) [] [])) (k (.one (.vo (bP X S o))) [(bP X S o,.box (.gV f vs.length (vl (vs++us))) (dW (vs++us)))] [])
   | _,_=>none
  | _=>none
 | .makeInterface t x=>match X.tk t,gu X S t x with
  | some (.agg [] []),some (.agg [])=>k (.one (.dP (some (og+1+t)))) [] []
  | some tk,some v=>cond (HV tk&&JM v) (k (.one (.vo (bP X S o))) [(bP X S o,.box (.mF t (vl [v])) v.leaves)] []) none
  | _,_=>none
 | .lookup t x i ok=>match X.mp t,eu S x,eu S i with
  | some m,some (.one l),some key=>cond m.fl.br none (oW X S m l key ok fun v=>k v [] [])
  | _,_,_=>none
 | _=>none
structure fA (C:Ty→Type) where
 ix:Nat
 dst:Option Tmp
 vz:Option (SV C×List (Nat×Ob C)×List Nat)
 need:List Nat
 Nn:Bool
def fA.app (S:St C) (e:fA C):St C:=match e.vz with
 | some (v,news,dL)=>St.put { S with aj:=news++dA dL S.aj } e.dst v
 | none=>S
def SD (S0:St C):List (fA C)→St C
 | []=>S0
 | e::es=>fA.app (SD S0 es) e
def F7 (tab:List (Nat×Nat)):List Edge→Nat
 | []=>0
 | e::r=>cond (Region.binds .any e) (Nat.lor (Nat.lor (2 ^ e.on) ((lk tab e.on).getD 0)) (F7 tab r)) (F7 tab r)
def ancs:Nat→List Oper→List (Nat×Nat)→List (Nat×Nat)
 | _,[],t=>t
 | n,o::r,t=>ancs (n+1) r ((n,F7 t o.after.toList)::t)
def has (tab:List (Nat×Nat)) (i j:Nat):Bool:=Nat.testBit ((lk tab i).getD 0) j
def WN (X:Cx C) (o:Oper):Bool:=match o.op with
 | .store .. =>true
 | .assign _=>true
 | .mapUpdate .. =>true
 | .insert .. =>true
 | .call c=>match c.callee with
  | .builtin .delete=>true
  | .builtin .clear=>true
  | .builtin .copy=>true
  | .value (.func f)=>(X.KM f).isNone&&(X.inl f).isSome
  | .value (.tmp _)=>CG X o
  | _=>false
 | _=>false
def AO (X:Cx C) (all:Array Oper) (j:Nat):Bool:=match all[j]? with
 | some o=>WN X o
 | none=>false
def below:Nat→List Nat
 | 0=>[]
 | n+1=>n::below n
def EN (X:Cx C) (all:Array Oper) (tab:List (Nat×Nat)) (i:Nat) (o:Oper):Bool:=
 o.after.toList.all (fun e=> !Region.binds .any e||Nat.blt e.on i)&&Nat.beq ((lk tab i).getD 0) (F7 tab o.after.toList)
def nE (X:Cx C) (all:Array Oper) (tab:List (Nat×Nat)):Nat→List Oper→Bool
 | _,[]=>true
 | n,o::r=>EN X all tab n o&&nE X all tab (n+1) r
def wJ {α:Type} (env:List (Nat×α)):List Nat→List (Nat×α)
 | []=>[]
 | t::r=>match lk env t with
  | some v=>(t,v)::wJ env r
  | none=>wJ env r
def looks (o:Oper):List Nat:=o.op.operands.toList.filterMap fun x=>match x with
 | .tmp t=>some t
 | _=>none
def Zj (S0:St C) (bt:List (fA C)) (tab:List (Nat×Nat)) (n:Nat) (o:Oper):List (Nat×SV C):=wJ (SD S0 (bt.filter fun e=>has tab n e.ix)).env (looks o)
def Df:List Nat→List Nat→List Nat
 | [],l=>l
 | i::r,l=>cond (l.any (Nat.beq i)) (Df r l) (Df r (l++[i]))
def HP (O:List (Nat×Ob C)):List Nat→List Nat→List Nat
 | [],l=>l
 | i::r,l=>match lk O i with
  | some (.box _ ls)=>HP O r (Df (dY ls) l)
  | _=>HP O r l
def OQ (O:List (Nat×Ob C)):Nat→List Nat→List Nat
 | 0,l=>l
 | n+1,l=>OQ O n (HP O l l)
def Uj (E:List (Nat×SV C)) (o:Oper):Bool:=match o.op with
 | .move _=>true
 | .fieldAddr .. =>true
 | .nilCheck _=>E.all fun x=>match x.2 with
  | .one (.vo _)=>false
  | _=>true
 | _=>false
def H2 (S0:St C) (bt:List (fA C)) (tab:List (Nat×Nat)) (n:Nat) (o:Oper):List Nat:=cond (Uj (Zj S0 bt tab n o) o) []<|OQ (SD S0 (bt.filter fun e=>has tab n e.ix)).aj 4 (Df (gv (Zj S0 bt tab n o)) [])
def Mi (S0:St C) (bt:List (fA C)) (tab:List (Nat×Nat)) (n:Nat) (o:Oper):St C:=
 { env:=Zj S0 bt tab n o,aj:=wJ (SD S0 (bt.filter fun e=>has tab n e.ix)).aj (H2 S0 bt tab n o),base:=S0.base }
def dJ (l:List (Nat×Ob C)):List Nat:=l.map (·.1)
def fA.kK (e:fA C):List Nat:=match e.vz with
 | some (_,news,_)=>dJ news
 | none=>[]
def fA.dL (e:fA C):List Nat:=match e.vz with
 | some (_,_,dL)=>dL
 | none=>[]
def fA.names (e:fA C):List Nat:=match e.vz with
 | some (v,news,_)=>fP v++dX news
 | none=>[]
def jF (a b:List Nat):Bool:=a.all fun n=> !b.any (Nat.beq n)
def Jm (a b:Option Tmp):Bool:=match a,b with
 | some a,some b=>Nat.beq a b
 | _,_=>false
def Ap (tab:List (Nat×Nat)) (e m:fA C):Bool:=
 !Jm e.dst m.dst&&jF e.kK m.kK&&(has tab m.ix e.ix||(jF e.kK m.names&&jF e.kK m.dL)) &&
 (has tab e.ix m.ix||has tab m.ix e.ix||jF m.dL e.need)
def DY (S0:St C) (e:fA C):Bool:=
 jF e.kK e.dL&&gG e.kK&&jF e.kK (gv S0.env++dX S0.aj)&&(match e.dst with
  | some d=>(lk S0.env d).isNone
  | none=>true)
def xQ (S0:St C) (tab:List (Nat×Nat)) (bt:List (fA C)):Bool:=
 bt.all fun e=>DY S0 e&&bt.all fun m=>Nat.beq e.ix m.ix||Ap tab e m
def sE:List (fA C)→Nat→Option (SV C)
 | [],_=>none
 | e::r,j=>cond (Nat.beq e.ix j) (match e.vz,e.dst with
  | some (v,_,_),some _=>some v
  | _,_=>none) (sE r j)
def gp:List (fA C)→Nat→Bool→List (fA C)
 | [],_,_=>[]
 | e::r,j,b=>cond (Nat.beq e.ix j) (match e.vz with
  | some (_,news,dL)=>{ e with vz:=some (.one (.bool b),news,dL) }::r
  | none=>e::r) (e::gp r j b)
def Nl (tab:List (Nat×Nat)):List Nat→List (List Nat)
 | []=>[[]]
 | j::r=>Nl tab r++((Nl tab r).filter fun L=>r.all fun d=> !has tab d j||L.any (Nat.beq d)).map (j::·)
def o6 (tab:List (Nat×Nat)) (n:Nat) (bt:List (fA C)):List Nat:=((bt.filter fun e=> !has tab n e.ix).map (·.ix)).reverse
def sR {R:Type}:List (Option R)→Option R
 | []=>none
 | [x]=>x
 | x::y::r=>alt x (sR (y::r))
def iL (all:Array Oper) (L:List Nat):List (Nat×Oper):=L.filterMap fun i=>(all[i]?).map fun o=>(i,o)
def jZ:Nat→List Oper→List (Nat×Oper)
 | _,[]=>[]
 | n,o::r=>(n,o)::jZ (n+1) r
def mQ (O:List (Nat×Ob C)):List Nat→Option (List (Nat×Ob C))
 | []=>some []
 | id::r=>match lk O id with
  | some ob=>match mQ O r with
   | some l=>some ((id,ob)::l)
   | none=>none
  | none=>none
def Um:Lf C→Lf C
 | .nil t=>.row t []
 | l=>l
def uQ:SV C→SV C
 | .one l=>.one (Um l)
 | .agg ls=>.agg (ls.map Um)
 | v=>v
def DN (c:iR C) (R:Type) (vs:List (SV C)) (S:St C) (k:List (Bool×List (Lf C))→St C→Option R):Option R:=match mQ S.aj c.ids with
 | some O=>cond (jF c.eU (gv S.env++dX (dA c.ids S.aj))&&vs.all JM) (Option.bind (c.g (vs.map uQ) O) fun r=>k (c.ret r) { S with aj:=c.out r++dA c.ids S.aj }) none
 | none=>none
def de (c:iR C):lz C:=⟨DN c,match c.eU with
 | []=>some c
 | _=>none⟩
def oU (X:Cx C) (o:Oper):Option (iR C):=match o.op,o.guard with
 | .call c,none=>match c.callee with
  | .value (.func f)=>match X.inl f with
   | some I=>I.sum
   | none=>none
  | _=>none
 | _,_=>none
def AM:SV C→Bool
 | .rC _=>false
 | .lX=>false
 | _=>true
def sH:List (Nat×SV C)→Bool
 | []=>true
 | (_,v)::r=>AM v&&sH r
def Az (X:Cx C) (o:Oper) (S:St C):Option (List (SV C)):=match o.op with
 | .call c=>fE X S c.args.toList c.argTypes.toList
 | _=>none
def mE {R:Type} (X:Cx C) (su:iR C) (o:Oper) (Sa S:St C) (k:St C→Option R):Option R:=match Az X o Sa,mQ S.aj su.ids with
 | some vs,some O=>cond (sH S.env&&vs.all JM) (Option.bind (su.g (vs.map uQ) O) fun r=>match tf (su.ret r) with
  | some v=>mH (({ S with aj:=su.out r++dA su.ids S.aj }:St C).put o.dst v) k
  | none=>none) none
 | _,_=>none
def CZ (su:iR C) (d:Option Tmp) (e:fA C):Bool:=jF su.ids e.need&&jF su.ids e.kK&&jF su.ids e.dL && !Jm d e.dst&&(match e.vz with
 | some (v,_,_)=>AM v
 | none=>true)
def Pu (S0:St C) (su:iR C) (d:Option Tmp) (bt:List (fA C)):Bool:=bt.all (CZ su d)&&(match d with
 | some d=>(lk S0.env d).isNone
 | none=>true)
def jm [DecidableEq Ty] {R:Type} (X:Cx C) (all:Array Oper) (tab:List (Nat×Nat)) (k:St C→Option R):Nat→List (Nat×Oper)→St C→List (fA C)→Option R
 | 0,_,_,_=>none
 | _+1,[],S0,bt=>cond (xQ S0 tab bt) (k (SD S0 bt)) none
 | f+1,(n,o)::r,S0,bt=>match oU X o with
  | some su=>cond (WN X o&&(xQ S0 tab bt&&Pu S0 su o.dst bt)) (mE X su o (SD S0 (bt.filter fun e=>has tab n e.ix)) S0 fun S1=>cond (xQ S1 tab bt) (jm X all tab k f r S1 bt) none) none
  | none=>match WN X o with
  | true=>match o.guard with
   | none=>cond (xQ S0 tab bt) (sR ((Nl tab (o6 tab n bt)).map fun L=>ev X o (SD S0 (bt.filter fun e=> !L.any (Nat.beq e.ix))) (fun S'=>jm X all tab k f (iL all L++r) S' []))) none
   | some (j,want)=>cond (has tab n j) (match sE bt j with
    | some (.one (.bool b))=>cond b
     (match want with
      | true=>cond (xQ S0 tab (gp bt j true)) (sR ((Nl tab (o6 tab n (gp bt j true))).map fun L=>ev X o (SD S0 ((gp bt j true).filter fun e=> !L.any (Nat.beq e.ix))) (fun S'=>jm X all tab k f (iL all L++r) S' []))) none
      | false=>jm X all tab k f r S0 (⟨n,o.dst,some (.lX,[],[]),[],false⟩::gp bt j true))
     (match want with
      | true=>jm X all tab k f r S0 (⟨n,o.dst,some (.lX,[],[]),[],false⟩::gp bt j false)
      | false=>cond (xQ S0 tab (gp bt j false)) (sR ((Nl tab (o6 tab n (gp bt j false))).map fun L=>ev X o (SD S0 ((gp bt j false).filter fun e=> !L.any (Nat.beq e.ix))) (fun S'=>jm X all tab k f (iL all L++r) S' []))) none)
    | some .lX=>jm X all tab k f r S0 (⟨n,o.dst,some (.lX,[],[]),[],false⟩::bt)
    | _=>none) none
  | false=>match o.guard with
   | none=>kN X o (Mi S0 bt tab n o) (fun v news dL=>jm X all tab k f r S0 (⟨n,o.dst,some (v,news,dL),H2 S0 bt tab n o,true⟩::bt))
   | some (j,want)=>cond (has tab n j) (match sE bt j with
    | some (.one (.bool b))=>cond b
     (match want with
      | true=>kN X o (Mi S0 (gp bt j true) tab n o) (fun v news dL=>jm X all tab k f r S0 (⟨n,o.dst,some (v,news,dL),H2 S0 (gp bt j true) tab n o,true⟩::gp bt j true))
      | false=>jm X all tab k f r S0 (⟨n,o.dst,some (.lX,[],[]),[],false⟩::gp bt j true))
     (match want with
      | true=>jm X all tab k f r S0 (⟨n,o.dst,some (.lX,[],[]),[],false⟩::gp bt j false)
      | false=>kN X o (Mi S0 (gp bt j false) tab n o) (fun v news dL=>jm X all tab k f r S0 (⟨n,o.dst,some (v,news,dL),H2 S0 (gp bt j false) tab n o,true⟩::gp bt j false)))
    | some .lX=>jm X all tab k f r S0 (⟨n,o.dst,some (.lX,[],[]),[],false⟩::bt)
    | _=>none) none
def xn (X:Cx C):List Oper→List Nat
 | []=>[]
 | o::r=>match WN X o&&o.guard.isNone,o.dst with
  | false,some d=>d::xn X r
  | _,_=>xn X r
def insO (E:Nat→Bool) (tab:List (Nat×Nat)) (i:Nat):List Nat→List Nat
 | []=>[i]
 | j::r=>cond (E j&&(j::r).all (fun d=> !has tab i d)) (i::j::r) (j::insO E tab i r)
def ordO (E:Nat→Bool) (tab:List (Nat×Nat)):Nat→List Nat
 | 0=>[]
 | n+1=>insO E tab n (ordO E tab n)
def rW (X:Cx C) (all:Array Oper) (tab:List (Nat×Nat)):List Nat→Bool
 | []=>true
 | j::r=>r.all (fun i=>(!AO X all j||has tab i j) && !has tab j i) && !r.any (Nat.beq j)&&rW X all tab r
def HT (X:Cx C) (all:Array Oper) (tab:List (Nat×Nat)) (ord:List Nat):Bool:=rW X all tab ord&&(below all.size).all (fun i=>ord.any (Nat.beq i))
def qR (X:Cx C) (all:Array Oper) (tab:List (Nat×Nat)):List Nat:=ordO (AO X all) tab all.size
def Cs (o:Oper):Bool:=match o.op with
 | .select .. =>false
 | _=>true
def ye (all:Array Oper) (i:Nat) (o:Oper):Bool:=match o.op,o.guard with
 | .move _,none=>o.after.toList.all (fun e=> !Region.binds .any e)&&(jZ 0 all.toList).all (fun x=>Nat.beq x.1 i||x.2.after.toList.any (fun e=>Region.binds .any e&&Nat.beq e.on i)||o.apart all x.2)
 | _,_=>false
def iG (all:Array Oper):List Nat:=cond (all.toList.all Cs) (((jZ 0 all.toList).filter fun x=>ye all x.1 x.2).map (·.1)) []
def jY (X:Cx C) (all:Array Oper):List Nat→St C→Option (St C)
 | [],S=>some S
 | i::r,S=>match all[i]? with
  | some o=>match o.op with
   | .move x=>match gu X S o.type x with
    | some v=>jY X all r (S.put o.dst v)
    | none=>none
   | _=>none
  | none=>none
def drun [DecidableEq Ty] {R:Type} (X:Cx C) (all:Array Oper) (tab:List (Nat×Nat)) (S:St C) (k:St C→Option R):Option R:=
 cond (nE X all tab 0 all.toList&&HT X all tab (qR X all tab)) (match jY X all (iG all) { S with env:=dA (xn X all.toList) S.env } with
  | some S1=>jm X all tab k 4096 (iL all ((qR X all tab).filter fun i=> !(iG all).any (Nat.beq i))) S1 []
  | none=>none) none
def Q0:SV C→List (Lf C)
 | .one l=>[l]
 | .agg ls=>ls
 | .bz x _=>x.2
 | _=>[]
def Y8 (t:Nat):SV C→Nat
 | .one _=>100000+t
 | .bz _ _=>30000000+100*t
 | _=>10000000+100*t
def Ci:Nat→List (Lf C)→List (Nat×Nat)
 | _,[]=>[]
 | n,.ref id []::r=>(id,n)::Ci (n+1) r
 | n,_::r=>Ci (n+1) r
def EM:List (Lf C)→List Nat
 | []=>[]
 | .ptr id _::r=>id::EM r
 | .vo id::r=>id::EM r
 | _::r=>EM r
def Rj:List Nat→List Nat→List Nat
 | B,[]=>B
 | B,n::r=>cond (B.any (Nat.beq n)) (Rj B r) (Rj (B++[n]) r)
def XU (S:St C) (id:Nat):List (Lf C):=match lk S.aj id with
 | some (.box _ ls)=>ls
 | _=>[]
def Wv:List (Nat×SV C)→List Nat
 | []=>[]
 | (_,v)::r=>EM (Q0 v)++Wv r
def Ww (S:St C):List Nat→List Nat
 | []=>[]
 | id::r=>EM (XU S id)++Ww S r
def wide (S:St C):Nat→List Nat→List Nat
 | 0,l=>l
 | n+1,l=>wide S n (Rj l (Ww S l))
def ghO:List (Nat×Ob C)→List Nat
 | []=>[]
 | (id,.ghost)::r=>id::ghO r
 | _::r=>ghO r
def wi (S:St C) (env:List (Nat×SV C)):List Nat:=Rj (wide S 4 (Rj [] (Wv env))) (ghO S.aj)
def YD:List (Nat×SV C)→List (Nat×Nat)
 | []=>[]
 | (t,v)::r=>Ci (Y8 t v) (Q0 v)++YD r
def YE (S:St C):List Nat→List (Nat×Nat)
 | []=>[]
 | id::r=>Ci (1000000+100*id) (XU S id)++YE S r
def isNil {α:Type}:List α→Bool
 | []=>true
 | _::_=>false
def Tj (q:Nat→Bool) (m:Nat) {α:Type} (xs:List α) (sh:Bool):Bool:=match sh with
 | true=>true
 | false=>cond (q m) (isNil xs) false
def lg (q:Nat→Bool) (S:St C) (nm:List (Nat×Nat)) (B:List Nat) (n:Nat):Lf C→Option (Lf C×List (Nat×Option Nat×Ob C))
 | .ref id []=>match lk nm id,lk S.aj id with
  | some m,some (.row t xs sh)=>some (.ref m [],[(m,some id,.row t xs (Tj q m xs sh))])
  | _,_=>none
 | .sub id lo hi=>match lk nm id,lk S.aj id with
  | some m,some (.row t xs sh)=>some (.sub m lo hi,[(m,some id,.row t xs (Tj q m xs sh))])
  | _,_=>none
 | .ep id [] i o=>match lk nm id,lk S.aj id with
  | some m,some (.row t xs sh)=>some (.ep m [] i o,[(m,some id,.row t xs (Tj q m xs sh))])
  | _,_=>none
 | .ptr id o=>cond (B.any (Nat.beq id)) (some (.ptr id o,[])) none
 | .vo id=>cond (B.any (Nat.beq id)) (some (.vo id,[])) none
 | .dP f=>some (.dP f,[])
 | .lZ n=>some (.lZ n,[])
 | .nil t=>some (.ref n [],[(n,none,.row t [] (q n))])
 | .int k m=>some (.int k m,[])
 | .bool b=>some (.bool b,[])
 | .str s=>some (.str s,[])
 | .row t xs=>some (.row t xs,[])
 | .vp=>some (.vp,[])
 | .eS t x o=>some (.eS t x o,[])
 | _=>none
def mu (q:Nat→Bool) (S:St C) (nm:List (Nat×Nat)) (B:List Nat):Nat→List (Lf C)→Option (List (Lf C)×List (Nat×Option Nat×Ob C))
 | _,[]=>some ([],[])
 | n,l::r=>match lg q S nm B n l with
  | some (l',o)=>match mu q S nm B (n+1) r with
   | some (r',o')=>some (l'::r',o++o')
   | none=>none
  | none=>none
def FW (q:Nat→Bool) (S:St C) (nm:List (Nat×Nat)) (B:List Nat):List Nat→Option (List (Nat×Option Nat×Ob C))
 | []=>some []
 | id::r=>match lk S.aj id with
  | some (.box kd ls)=>match mu q S nm B (1000000+100*id) ls with
   | some (ls',os)=>match FW q S nm B r with
    | some os'=>some ((id,some id,.box kd ls')::os++os')
    | none=>none
   | none=>none
  | some (.map mk kt vt xs c)=>match FW q S nm B r with
   | some os'=>some ((id,some id,.map mk kt vt xs c)::os')
   | none=>none
  | some .ghost=>match FW q S nm B r with
   | some os'=>some ((id,some id,.ghost)::os')
   | none=>none
  | _=>none
def M0 (q:Nat→Bool) (S:St C) (nm:List (Nat×Nat)) (B:List Nat) (t:Nat):SV C→Option (SV C×List (Nat×Option Nat×Ob C))
 | .one l=>match lg q S nm B (100000+t) l with
  | some (l',os)=>some (.one l',os)
  | none=>none
 | .agg ls=>match mu q S nm B (10000000+100*t) ls with
  | some (ls',os)=>some (.agg ls',os)
  | none=>none
 | .bz (b,ls) j=>match mu q S nm B (30000000+100*t) ls with
  | some (ls',os)=>some (.bz (b,ls') j,os)
  | none=>none
 | .frame=>some (.frame,[])
 | _=>none
def IQ (q:Nat→Bool) (S:St C) (nm:List (Nat×Nat)) (B:List Nat):List (Nat×SV C)→List (Nat×SV C)×List (Nat×Option Nat×Ob C)
 | []=>([],[])
 | (t,v)::r=>match IQ q S nm B r with
  | (e,os)=>match M0 q S nm B t v with
   | some (v',os')=>((t,v')::e,os'++os)
   | none=>(e,os)
def fM:List (Nat×Option Nat×Ob C)→List Nat→List (Nat×Option Nat×Ob C)
 | [],_=>[]
 | (n,some id,ob)::r,seen=>cond (seen.any (Nat.beq id)) (fM r seen) ((n,some id,ob)::fM r (id::seen))
 | (n,none,ob)::r,seen=>(n,none,ob)::fM r seen
def Cu:List (Nat×Option Nat×Ob C)→List Nat
 | []=>[]
 | (n,_,_)::r=>n::Cu r
def qq:List (Nat×Option Nat×Ob C)→List (Nat×Ob C)
 | []=>[]
 | (n,_,ob)::r=>(n,ob)::qq r
def uR:List (Nat×Option Nat×Ob C)→Nat→Option Nat
 | [],_=>none
 | (n,some m,_)::r,id=>cond (Nat.beq m id) (some n) (uR r id)
 | (_,none,_)::r,id=>uR r id
def xY (os:List (Nat×Option Nat×Ob C)):List (Nat×SV C)→List (Nat×SV C)
 | []=>[]
 | (t,.jo id j)::r=>match uR os id with
  | some n=>(t,.jo n j)::xY os r
  | none=>xY os r
 | _::r=>xY os r
def Q5 (q:Nat→Bool) (S:St C) (E:List (Nat×SV C)) (nm:List (Nat×Nat)) (B:List Nat):Option (St C):=
 match IQ q S nm B E,FW q S nm B B with
 | (e,os),some ob=>cond (gG (Cu (fM (os++ob) []))) (some { S with env:=e++xY (fM (os++ob) []) E,aj:=qq (fM (os++ob) []) }) none
 | _,none=>none
def St.canon (S:St C) (qw:List Nat):Option (St C):=Q5 (fun n=>qw.any (Nat.beq (1000000000+n))) S (j6 S.env qw) (YD (j6 S.env qw)++YE S (wi S (j6 S.env qw))) (wi S (j6 S.env qw))
def fR {R:Type} (qw:List Nat) (rec:St C→Option R) (S:St C):Option R:=match S.canon qw with
 | some S'=>mH S' rec
 | none=>none
def iter {R:Type} (f:(St C→Option R)→St C→Option R) (qw:List Nat):Nat→St C→Option R
 | 0,_=>none
 | n+1,S=>f (fR qw (iter f qw n)) S
def bA {R:Type} (rb:St C→(Ex→St C→Option R)→Option R) (k:Ex→St C→Option R) (e:Ex) (S:St C):Option R:=match e with
 | .norm=>rb S k
 | e=>k e S
def bW {R:Type} (id:Nat) (k:Ex→St C→Option R) (e:Ex) (S:St C):Option R:=match e with
 | .exit j=>cond (Nat.beq j id) (k .norm S) (k (.exit j) S)
 | e=>k e S
def cH {R:Type} (rec:St C→Option R) (k:Ex→St C→Option R) (e:Ex) (S:St C):Option R:=match e with
 | .norm=>rec S
 | e=>k e S
def ZK (env:List (Nat×SV C)):List Nat:=env.map (·.1)
structure Cf where
 N:Nat
 keep:List Nat
 live:Nat→Option (List Nat)
def Cf.qw (F:Cf) (cur:Nat) (S:St C):List Nat:=match F.live cur with
 | some l=>l
 | none=>ZK S.env
def run [DecidableEq Ty] {R:Type} (X:Cx C) (F:Cf):Code→Nat→St C→(Ex→St C→Option R)→Option R
 | .skip,_,S,k=>k .norm S
 | .region _ ops draw,_,S,k=>match draw with
  | false=>evs X ops ops.toList S (fun S'=>mH (S'.tidy F.keep) fun S2=>k .norm S2)
  | true=>drun X ops (ancs 0 ops.toList []) S (fun S'=>mH (S'.tidy F.keep) fun S2=>k .norm S2)
 | .seq a b,cur,S,k=>run X F a cur S (bA (run X F b cur) k)
 | .cond c x y,cur,S,k=>match c with
  | .tmp t=>match lk S.env t with
   | some (.one (.bool b))=>cond b (run X F x cur { S with env:=(t,.one (.bool true))::S.env } k) (run X F y cur { S with env:=(t,.one (.bool false))::S.env } k)
   | _=>none
  | _=>none
 | .block id c,_,S,k=>run X F c id S (bW id k)
 | .loop body,cur,S,k=>fR (F.qw cur S) (iter (fun rec S=>run X F body cur S (cH rec k)) (F.qw cur S) F.N) S
 | .exit id,_,S,k=>k (.exit id) S
 | .ret,_,S,k=>k .ret S
 | .label _,_,S,k=>k .norm S
 | .scope c,cur,S,k=>run X F c cur S k
 | _,_,_,_=>none
def gR (X:Cx C) (S:St C):List ResultVar→Option (List (Bool×List (Lf C)))
 | []=>some []
 | .tmp t::r=>match lk S.env t with
  | some (.one l)=>match gR X S r with
   | some rs=>some ((false,[l])::rs)
   | none=>none
  | some (.agg ls)=>match gR X S r with
   | some rs=>some ((true,ls)::rs)
   | none=>none
  | _=>none
 | .cell a t::r=>match lk S.env a,X.tk t with
  | some (.one l),some tk=>dZ X S l fun ls=>match Cy tk ls,gR X S r with
   | some (.one l),some rs=>some ((false,[l])::rs)
   | some (.agg ls),some rs=>some ((true,ls)::rs)
   | _,_=>none
  | _,_=>none
def reshape:List (Bool×List (Lf C))→List (Lf C)→List (Bool×List (Lf C))
 | [],_=>[]
 | x::r,ls=>(x.1,ls.take x.2.length)::reshape r (ls.drop x.2.length)
def outs (S:St C) (rs:List (Bool×List (Lf C))):Option (List (Bool×List (Lf C))):=
 match cV S (flatten rs) with
 | some (ls',_,false)=>some (reshape rs ls')
 | _=>none
def iY:Nat→List (SV C)→List (Nat×SV C)
 | _,[]=>[]
 | n,v::r=>(n,v)::iY (n+1) r
def start (vs:List (SV C)):St C:={ env:=iY 0 vs,aj:=[],base:=0 }
def db [DecidableEq Ty] {R:Type} (X:Cx C) (F:Cf) (fn:Func) (vs:List (SV C)) (k:List (Bool×List (Lf C))→Option R):Option R:=
 match fn.body with
 | some c=>run X F c 0 (start vs) (fun e S=>match e with
  | .exit _=>none
  | _=>match gR X S fn.results.toList with
   | some rs=>match outs S rs with
    | some rs'=>k rs'
    | none=>none
   | none=>none)
 | none=>none
def gg [DecidableEq Ty] (X:Cx C) (F:Cf) (fn:Func):lz C:=
 ⟨fun R vs S k=>match fn.body with
  | some c=>cond (Nat.ble vs.length fn.ntmps&&Nat.ble fn.ntmps 1000) (run X F c 0 { env:=iY 0 vs++S.env,aj:=S.aj,base:=S.base } (fun e S'=>match e with
   | .exit _=>none
   | _=>match gR X S' fn.results.toList with
    | some rs=>k rs { S' with env:=fQ S'.env }
    | none=>none)) none
  | none=>none,none⟩
end
section
variable {Ty:Type} {C:Ty→Type}
inductive ow (K:Cd C) (w:World) (F:Nat→Prop):(t:Ty)→List (C t)→Value→List (Nat×Nat)→(t':Ty)→List (C t')→Value→Prop
 | nil (t xs v):ow K w F t xs v [] t xs v
 | cons (t:Ty) (xs:List (C t)) (v:Value) (i o:Nat) (x:C t) (t1:Ty) (ys:List (C t1)) (a:Addr) (n c:Nat) (v1:Value) (p:List (Nat×Nat)) (t':Ty) (zs:List (C t')) (v':Value)
   (hx:xs[i]?=some x) (hl:(K.enc t x)[o]?=some (.row t1 ys)) (hv:v = .slice (some a) n c) (hF:F a.block) (hc:w.cell? (a.add (i*K.sz t+o))=some v1)
   (hp:ow K w F t1 ys v1 p t' zs v'):ow K w F t xs v ((i,o)::p) t' zs v'
abbrev cm (C:Ty→Type):=List (Nat×Ob C)
def aH (aj:cm C) (fp:Nat→Nat→Prop) (w:World) (k:Nat):Prop:=k<w.heap.size∧∀ id ob,lk aj id=some ob→¬ fp id k
def EpAt (K:Cd C) (t:Ty) (n:Nat) (v:Value) (i o:Nat) (u:Value):Prop:=i<n∧∃ a m c,v = .slice (some a) m c∧u = .pointer (some (a.add (i*K.sz t+o)))
def Yi (K:Cd C) (t:Ty) (n:Nat) (v:Value) (lo hi:Nat) (u:Value):Prop:=lo≤hi∧hi≤n∧∃ A c B,v = .slice A n c∧n≤c∧u = .slice B (hi-lo) (c-lo)∧(lo<hi→B=A.map (·.add (lo*K.sz t)))
def cI (K:Cd C) (w:World) (aj:cm C) (β:Nat→Value) (fp:Nat→Nat→Prop) (b8:Nat→Prop):Lf C→Value→Prop
 | .int k n,v=>v = .int k n
 | .bool b,v=>v = .bool b
 | .str s,v=>v = .string s
 | .row t xs,v=>gU K w b8 (.row t xs) v
 | .nil _,v=>v = .slice none 0 0
 | .vp,v=>v = .pointer none
 | .dP f,v=>v=yc f
 | .lZ n,v=>v=n.val
 | .vo id,v=>v.oneCell'=true∧v=β id
 | .ptr id off,v=>∃ b,β id = .pointer (some ⟨b,0,none⟩)∧v = .pointer (some ⟨b,off,none⟩)
 | .eS t x o,v=>∃ (a:Addr) (U:Nat→Value),v = .pointer (some (a.add o))∧b8 a.block∧(∀ i,i<K.sz t→w.cell? (a.add i)=some (U i))∧∀ i l,(K.enc t x)[i]?=some l→gU K w b8 l (U i)
 | .ref id [],v=>v.oneCell'=true∧v=β id
 | .ref id (s::p),v=>v.oneCell'=true∧∀ t xs sh,lk aj id=some (.row t xs sh)→sh=false∧∃ (t':Ty) (zs:List (C t')),ow K w (fp id) t xs (β id) (s::p) t' zs v
 | .ep id [] i o,v=>(∃ a,v = .pointer (some a))∧∀ t xs sh,lk aj id=some (.row t xs sh)→EpAt K t xs.length (β id) i o v
 | .ep id (s::p) i o,v=>(∃ a,v = .pointer (some a))∧∀ t xs sh,lk aj id=some (.row t xs sh)→sh=false ∧
   ∃ (t':Ty) (zs:List (C t')) (v':Value),ow K w (fp id) t xs (β id) (s::p) t' zs v'∧EpAt K t' zs.length v' i o v
 | .sub id lo hi,v=>(∃ A n c,v = .slice A n c)∧∀ t xs sh,lk aj id=some (.row t xs sh)→Yi K t xs.length (β id) lo hi v
def cg (K:Cd C) (w:World) (aj:cm C) (β:Nat→Value) (fp:Nat→Nat→Prop) (b8:Nat→Prop) (ls:List (Lf C)) (vs:List Value):Prop:=
 vs.length=ls.length∧∀ (i:Nat) (l:Lf C),ls[i]?=some l→cI K w aj β fp b8 l (vs.getD i undef)
def gL (K:Cd C) (w:World) (aj:cm C) (β:Nat→Value) (fp:Nat→Nat→Prop) (b8:Nat→Prop) (x:Bool×List (Lf C)) (v:Value):Prop:=
 match x with
 | (false,ls)=>∃ l,ls=[l]∧cI K w aj β fp b8 l v
 | (true,ls)=>∃ vs:List Value,v = .agg vs.toArray∧cg K w aj β fp b8 ls vs
def dq (K:Cd C) (w:World) (aj:cm C) (β:Nat→Value) (fp:Nat→Nat→Prop) (b8:Nat→Prop):SV C→Value→Prop
 | .one l,v=>cI K w aj β fp b8 l v
 | .agg ls,v=>∃ vs:List Value,v = .agg vs.toArray∧cg K w aj β fp b8 ls vs
 | .rC xs,v=>∃ vs:List Value,v = .tuple vs.toArray∧vs.length=xs.length∧∀ (i:Nat) (x:Bool×List (Lf C)),xs[i]?=some x→gL K w aj β fp b8 x (vs.getD i undef)
 | .lX,v=>v=undef
 | .jo id j,_=>β id=K.hd j
 | .frame,_=>∀ k,K.kp (2*k)→b8 k∧w.heap[k]?=K.kh k
 | .bz x j,_=>gL K w aj β fp b8 x (K.hd j)
def M5 (K:Cd C) (w:World) (base:Nat) (b8 F:Nat→Prop) (t:Ty) (xs:List (C t)) (v:Value):Prop:=
 ∃ cells,w.ownsRow base (K.tid t) (K.sz t) v xs.length cells∧(∀ g,F g↔v.ownBlock=some g) ∧
  ∀ (j:Nat) (x:C t),xs[j]?=some x→∀ (i:Nat) (l:Lf C),(K.enc t x)[i]?=some l→gU K w b8 l (cells.getD (j*K.sz t+i) undef)
def jQ:List (Bool×Nat)→List Value→List Value
 | [],_=>[]
 | (b,n)::r,us=>(cond b (.agg (us.take n).toArray) (us.headD undef))::jQ r (us.drop n)
def MX (f n:Nat) (sh:List (Bool×Nat)) (us:List Value):Value:=.func (.func f) ((jQ sh us).take n).toArray ((jQ sh us).drop n).toArray
def MC (t:TypeId) (sh:List (Bool×Nat)) (us:List Value):Value:=.iface t ((jQ sh us).headD undef)
def xq:Lf C→Value
 | .int k n=>.int k n
 | .bool b=>.bool b
 | .str s=>.string s
 | .dP f=>yc f
 | _=>undef
def mkV (ag:Bool) (us:List Value):Value:=cond ag (.agg us.toArray) (us.headD undef)
def lO (K:Cd C) (mk:MK) (kt:Ty) (x:C kt):Value:=mkV mk.kag ((K.enc kt x).map xq)
def qo (K:Cd C) (mk:MK) (vt:Ty) (y:C vt):Value:=cond mk.un (.agg #[]) (mkV mk.Yy ((K.enc vt y).map xq))
def pn (K:Cd C) (mk:MK) (kt vt:Ty) (e:Nat×C kt×C vt):MapEntry:=⟨lO K mk kt e.2.1,qo K mk vt e.2.2,e.1⟩
def lj (K:Cd C) (w:World) (base:Nat) (aj:cm C) (β:Nat→Value) (fp:Nat→Nat→Prop) (b8 F:Nat→Prop):Ob C→Value→Prop
 | .box .mem ls,v=>∃ b cs e,v = .pointer (some ⟨b,0,none⟩)∧w.heap[b]?=some (.cells cs e (0,0))∧(∀ k,F k↔k=b)∧cg K w aj β fp b8 ls cs.toList
 | .box (.gV f n sh) ls,v=>∃ us,v=MX f n sh us∧(∀ k,¬ F k)∧cg K w aj β fp b8 ls us
 | .box (.mF t sh) ls,v=>∃ us,v=MC t sh us∧(∀ k,¬ F k)∧cg K w aj β fp b8 ls us
 | .ghost,_=>∀ k,K.kp (2*k+1)→F k∧w.heap[k]?=K.kh k
 | .map mk kt vt xs c,v=>∃ b es,v = .map (some b)∧w.heap[b]?=some (.map es c)∧(∀ k,F k↔k=b)∧es.toList=xs.map (pn K mk kt vt)
 | .row t xs false,v=>Own K w base F (.row t xs) v
 | .row t xs true,v=>M5 K w base b8 F t xs v
structure cK (K:Cd C) (w0:World) (nt:Nat) (S:St C) (β:Nat→Value) (fp:Nat→Nat→Prop) (a:Act) (w:World):Prop where
 below:Below w0.heap.size w0 w
 defers:a.defers=[]∧K.inv w0
 size:a.tmps.size=nt
 fresh:∀ id ob k,lk S.aj id=some ob→fp id k→w0.heap.size≤k∧k<w.heap.size
 eH:∀ id gN ob dR k,lk S.aj id=some ob→lk S.aj gN=some dR→fp id k→fp gN k→id=gN
 aj:∀ id ob,lk S.aj id=some ob→lj K w w0.heap.size S.aj β fp (aH S.aj fp w) (fp id) ob (β id)
 env:∀ t v,lk S.env t=some v→dq K w S.aj β fp (aH S.aj fp w) v (a.tmps.getD t undef)
def nR (K:Cd C) (w0:World) (nt:Nat) (S:St C) (a:Act) (w:World):Prop:=∃ β fp,cK K w0 nt S β fp a w
theorem aQ {α:Type} (m:Nat) (v:α) (l:List (Nat×α)) (n:Nat):lk ((m,v)::l) n=if n=m then some v else lk l n:=by
 simp only [lk]
 by_cases h:n=m
 ·subst h;simp [Nat.beq_refl]
 ·have:Nat.beq n m=false:=by
   cases hb:Nat.beq n m with
   | false=>rfl
   | true=>exact absurd (Nat.eq_of_beq_eq_true hb) h
  simp [this,h]
theorem lM {α:Type} (l:List (Nat×α)) (d n:Nat):lk (rm l d) n=if n=d then none else lk l n:=by
 induction l with
 | nil=>simp [rm,lk]
 | cons x l ih=>
  obtain ⟨m,v⟩:=x;simp only [rm]
  by_cases h:d=m
  ·subst h
   have hb:Nat.beq d d=true:=Nat.beq_refl d;simp only [hb,cond_true,ih,aQ]
   by_cases hn:n=d<;>simp [hn]
  ·have hb:Nat.beq d m=false:=by
    cases hb:Nat.beq d m with
    | false=>rfl
    | true=>exact absurd (Nat.eq_of_beq_eq_true hb) h
   simp only [hb,cond_false,aQ,ih]
   by_cases hn:n=m
   ·subst hn
    have:n≠d:=fun e=>h e.symm
    simp [this]
   ·simp [hn]
theorem sF (t:Array Value) (d n:Nat) (u z:Value) (h:d<t.size):(t.setIfInBounds d u).getD n z=if n=d then u else t.getD n z:=by
 simp only [Array.getD_eq_getD_getElem?,Array.getElem?_setIfInBounds]
 by_cases e:d=n
 ·subst e;simp [h]
 ·have:n≠d:=fun h=>e h.symm
  simp [e,this]
section
variable {K:Cd C} {w0 w:World} {nt:Nat} {S:St C} {β:Nat→Value} {fp:Nat→Nat→Prop} {a:Act}
theorem cK.put (h:cK K w0 nt S β fp a w) {v:SV C} {u:Value} (d:Option Tmp) (hd:∀ t,d=some t→t<nt) (hv:dq K w S.aj β fp (aH S.aj fp w) v u):cK K w0 nt (S.put d v) β fp (a.put d u) w:=by
 cases d with
 | none=>exact h
 | some d=>
  have hs:d<a.tmps.size:=by rw [h.size];exact hd d rfl
  refine ⟨h.below,h.defers,by simpa [Act.put] using h.size,h.fresh,h.eH,h.aj,fun t v' ht=>?_⟩;simp only [St.put,aQ] at ht;simp only [Act.put,sF _ _ _ _ _ hs]
  by_cases e:t=d
  ·subst e
   simp at ht ⊢;subst ht;exact hv
  ·simp only [e,if_false] at ht ⊢
   exact h.env t v' ht
theorem cK.less (h:cK K w0 nt S β fp a w) (E:List (Nat×SV C)) (hE:∀ t v,lk E t=some v→lk S.env t=some v):cK K w0 nt { S with env:=E } β fp a w:=
 ⟨h.below,h.defers,h.size,h.fresh,h.eH,h.aj,fun t v ht=>h.env t v (hE t v ht)⟩
theorem cK.drop (h:cK K w0 nt S β fp a w) (d:Option Tmp) (u:Value):cK K w0 nt (S.drop d) β fp (a.put d u) w:=by
 cases d with
 | none=>exact h
 | some d=>
  refine ⟨h.below,h.defers,by simpa [Act.put] using h.size,h.fresh,h.eH,h.aj,fun t v ht=>?_⟩;simp only [St.drop,lM] at ht
  by_cases e:t=d
  ·simp [e] at ht
  ·simp only [e,if_false] at ht
   have:=h.env t v ht;simp only [Act.put,Array.getD_eq_getD_getElem?,Array.getElem?_setIfInBounds] at this ⊢
   have e':d≠t:=fun x=>e x.symm
   simp only [e',if_false] at this ⊢;exact this
theorem PF (E:List (Nat×SV C)) (keep:List Nat):∀ t v,lk (rI E keep) t=some v→lk E t=some v:=by
 induction keep with
 | nil=>intro t v h;simp [rI,lk] at h
 | cons d r ih=>
  intro t v h;simp only [rI] at h
  cases hd:lk E d with
  | none=>rw [hd] at h;exact ih t v h
  | some u=>
   rw [hd] at h;simp only [aQ] at h
   by_cases e:t=d
   ·subst e;simp at h;subst h;exact hd
   ·simp only [e,if_false] at h;exact ih t v h
theorem nL:∀ {E:List (Nat×SV C)} {t:Nat} {v:SV C},lk (fQ E) t=some v→lk E t=some v∧((∃ x j,v = .bz x j)∨(∃ id j,v = .jo id j)∨v = .frame)
 | [],t,v,h=>by simp [fQ,lk] at h
 | (m,u)::E,t,v,h=>by
  have hd:∀ {u:SV C},((∃ x j,u = .bz x j)∨(∃ id j,u = .jo id j)∨u = .frame)→lk ((m,u)::rm (fQ E) m) t=some v→lk ((m,u)::E) t=some v∧((∃ x j,v = .bz x j)∨(∃ id j,v = .jo id j)∨v = .frame):=fun {u} hu h=>by
   rw [aQ] at h ⊢
   by_cases e:t=m
   ·rw [if_pos e] at h ⊢;cases h;exact ⟨rfl,hu⟩
   ·rw [if_neg e] at h ⊢;rw [lM,if_neg e] at h;exact nL h
  have ht:∀ {u:SV C},lk (rm (fQ E) m) t=some v→lk ((m,u)::E) t=some v∧((∃ x j,v = .bz x j)∨(∃ id j,v = .jo id j)∨v = .frame):=fun {u} h=>by
   rw [lM] at h;rw [aQ]
   by_cases e:t=m
   ·rw [if_pos e] at h;cases h
   ·rw [if_neg e] at h ⊢;exact nL h
  cases u with
  | bz x j=>exact hd (.inl ⟨x,j,rfl⟩) h
  | jo id j=>exact hd (.inr (.inl ⟨id,j,rfl⟩)) h
  | frame=>exact hd (.inr (.inr rfl)) h
  | one _=>exact ht h
  | agg _=>exact ht h
  | rC _=>exact ht h
  | lX=>exact ht h
theorem ZH {α:Type} (l r:List (Nat×α)) (n:Nat):lk (l++r) n=match lk l n with
  | some v=>some v
  | none=>lk r n:=by
 induction l with
 | nil=>rfl
 | cons x l ih=>
  obtain ⟨m,v⟩:=x;simp only [List.cons_append,aQ]
  by_cases e:n=m
  ·simp [e]
  ·simp only [e,if_false];exact ih
theorem E3 (E:List (Nat×SV C)) (keep:List Nat):∀ t v,lk (j6 E keep) t=some v→lk E t=some v:=by
 intro t v h;unfold j6 at h;rw [ZH] at h
 cases e:lk (rI E keep) t with
 | some u=>rw [e] at h;cases h;exact PF E keep t _ e
 | none=>rw [e] at h;exact (nL h).1
theorem cK.tidy (h:cK K w0 nt S β fp a w) (keep:List Nat):cK K w0 nt (S.tidy keep) β fp a w:=h.less _ (E3 S.env keep)
theorem ow.frame {w w':World} {F F':Nat→Prop} {t:Ty} {xs:List (C t)} {v:Value} {p:List (Nat×Nat)} {t':Ty} {zs:List (C t')} {v':Value}
  (h:ow K w F t xs v p t' zs v') (hF:∀ k,F k→F' k∧w'.heap[k]?=w.heap[k]?):ow K w' F' t xs v p t' zs v':=by
 induction h with
 | nil=>exact .nil ..
 | cons t xs v i o x t1 ys a n c v1 p t' zs v' hx hl hv hFa hc _ ih=>
  refine .cons t xs v i o x t1 ys a n c v1 p t' zs v' hx hl hv (hF _ hFa).1 ?_ ih
  have hb:(a.add (i*K.sz t+o)).block=a.block:=by unfold Addr.add;split<;>rfl
  rw [World.cell?_of_block (w:=w) (by rw [hb];exact (hF _ hFa).2)];exact hc
def iT (w w':World) (aj dO:cm C) (β eG:Nat→Value) (fp eD:Nat→Nat→Prop) (id:Nat):Prop:=
 eG id=β id∧∀ t xs sh,lk dO id=some (.row t xs sh)→lk aj id=some (.row t xs sh)∧∀ k,fp id k→eD id k∧w'.heap[k]?=w.heap[k]?
theorem cI.tr {w w':World} {aj dO:cm C} {β eG:Nat→Value} {fp eD:Nat→Nat→Prop} {b8 ey:Nat→Prop} {l:Lf C} {v:Value}
  (h:cI K w aj β fp b8 l v) (hst:∀ k,b8 k→ey k∧w'.heap[k]?=w.heap[k]?) (iQ:∀ id,id∈fF l→iT w w' aj dO β eG fp eD id):cI K w' dO eG eD ey l v:=by
 have R:∀ {l:Lf C} {v:Value},gU K w b8 l v→gU K w' ey l v:=fun h=>(h.frame fun k hk=>(hst k hk).2).mono fun k hk=>(hst k hk).1
 cases l with
 | row t xs=>exact R h
 | eS t x o=>
  obtain ⟨a,U,h1,h2,h3,h4⟩:=h;refine ⟨a,U,h1,(hst _ h2).1,fun i hi=>?_,fun i l hl=>R (h4 i l hl)⟩
  have hb:(a.add i).block=a.block:=by unfold Addr.add;split<;>rfl
  rw [World.cell?_of_block (w:=w) (by rw [hb];exact (hst _ h2).2)];exact h3 i hi
 | ptr id off=>
  obtain ⟨b,h1,h2⟩:=h;exact ⟨b,(iQ id (by simp [fF])).1.trans h1,h2⟩
 | vo id=>exact ⟨h.1,h.2.trans (iQ id (by simp [fF])).1.symm⟩
 | ref id p=>
  obtain ⟨e,hk⟩:=iQ id (by simp [fF])
  cases p with
  | nil=>exact ⟨h.1,h.2.trans e.symm⟩
  | cons s p=>
   refine ⟨h.1,fun t xs sh ho=>?_⟩;obtain ⟨gW,hf⟩:=hk t xs sh ho;obtain ⟨h1,t',zs,hz⟩:=h.2 t xs sh gW;exact ⟨h1,t',zs,by rw [e];exact hz.frame hf⟩
 | ep id p i o=>
  obtain ⟨e,hk⟩:=iQ id (by simp [fF])
  cases p with
  | nil=>exact ⟨h.1,fun t xs sh ho=>by rw [e];exact h.2 t xs sh (hk t xs sh ho).1⟩
  | cons s p=>
   refine ⟨h.1,fun t xs sh ho=>?_⟩;obtain ⟨gW,hf⟩:=hk t xs sh ho;obtain ⟨h1,t',zs,v',hz,hr⟩:=h.2 t xs sh gW;exact ⟨h1,t',zs,v',by rw [e];exact hz.frame hf,hr⟩
 | sub id lo hi=>
  obtain ⟨e,hk⟩:=iQ id (by simp [fF]);exact ⟨h.1,fun t xs sh ho=>by rw [e];exact h.2 t xs sh (hk t xs sh ho).1⟩
 | _=>exact h
theorem eK {l:Lf C} {ls:List (Lf C)} {i:Nat} (h:ls[i]?=some l) {id:Nat} (hi:id∈fF l):id∈dY ls:=by
 induction ls generalizing i with
 | nil=>simp at h
 | cons x r ih=>
  simp only [dY,List.mem_append]
  cases i with
  | zero=>simp at h;subst h;exact .inl hi
  | succ i=>simp at h;exact .inr (ih h)
theorem cg.tr {w w':World} {aj dO:cm C} {β eG:Nat→Value} {fp eD:Nat→Nat→Prop} {b8 ey:Nat→Prop} {ls:List (Lf C)} {vs:List Value}
  (h:cg K w aj β fp b8 ls vs) (hst:∀ k,b8 k→ey k∧w'.heap[k]?=w.heap[k]?) (iQ:∀ id,id∈dY ls→iT w w' aj dO β eG fp eD id):cg K w' dO eG eD ey ls vs:=
 ⟨h.1,fun i l hl=>(h.2 i l hl).tr hst fun id hi=>iQ id (eK hl hi)⟩
theorem dq.tr {w w':World} {aj dO:cm C} {β eG:Nat→Value} {fp eD:Nat→Nat→Prop} {b8 ey:Nat→Prop} {x:SV C} {v:Value}
  (h:dq K w aj β fp b8 x v) (hst:∀ k,b8 k→ey k∧w'.heap[k]?=w.heap[k]?) (iQ:∀ id,id∈fP x→iT w w' aj dO β eG fp eD id):dq K w' dO eG eD ey x v:=by
 cases x with
 | one l=>exact cI.tr h hst iQ
 | agg ls=>obtain ⟨vs,h1,h2⟩:=h;exact ⟨vs,h1,h2.tr hst iQ⟩
 | rC xs=>
  obtain ⟨vs,h1,h2,h3⟩:=h;refine ⟨vs,h1,h2,fun i x hx=>?_⟩
  have hm:∀ id,id∈dY x.2→id∈vr xs:=by
   clear h3 h2 h1 iQ
   induction xs generalizing i with
   | nil=>simp at hx
   | cons y r ih=>
    intro id hi;obtain ⟨b,ls⟩:=y;simp only [vr,List.mem_append]
    cases i with
    | zero=>simp at hx;subst hx;exact .inl hi
    | succ i=>simp at hx;exact .inr (ih i hx id hi)
  have:=h3 i x hx;obtain ⟨b,ls⟩:=x
  cases b with
  | false=>
   obtain ⟨l,h1,h2⟩:=this;subst h1;exact ⟨l,rfl,h2.tr hst fun id hi=>iQ id (hm id (by simpa [dY] using hi))⟩
  | true=>obtain ⟨vs,h1,h2⟩:=this;exact ⟨vs,h1,h2.tr hst fun id hi=>iQ id (hm id hi)⟩
 | lX=>exact h
 | jo id j=>exact (iQ id (by simp [fP])).1.trans h
 | frame=>exact fun k hk=>⟨(hst k (h k hk).1).1,(hst k (h k hk).1).2.trans (h k hk).2⟩
 | bz x j=>
  obtain ⟨b,ls⟩:=x
  cases b with
  | false=>
   obtain ⟨l,h1,h2⟩:=h;have h1:ls=[l]:=h1;subst h1;exact ⟨l,rfl,h2.tr hst fun id hi=>iQ id (by simpa [fP,dY] using hi)⟩
  | true=>obtain ⟨vs,h1,h2⟩:=h;exact ⟨vs,h1,h2.tr hst fun id hi=>iQ id hi⟩
theorem lj.tr {w w':World} {base:Nat} {aj dO:cm C} {β eG:Nat→Value} {fp eD:Nat→Nat→Prop} {b8 ey F:Nat→Prop} {ob:Ob C} {v:Value}
  (h:lj K w base aj β fp b8 F ob v) (hst:∀ k,b8 k→ey k∧w'.heap[k]?=w.heap[k]?) (hF:∀ k,F k→w'.heap[k]?=w.heap[k]?)
  (iQ:∀ kd ls,ob = .box kd ls→∀ id,id∈dY ls→iT w w' aj dO β eG fp eD id):lj K w' base dO eG eD ey F ob v:=by
 have R:∀ {l:Lf C} {v:Value},gU K w b8 l v→gU K w' ey l v:=fun h=>(h.frame fun k hk=>(hst k hk).2).mono fun k hk=>(hst k hk).1
 cases ob with
 | box kd ls=>cases kd with
  | mem=>
   obtain ⟨b,cs,e,h1,h2,h3,h4⟩:=h;exact ⟨b,cs,e,h1,(hF b ((h3 b).2 rfl)).trans h2,h3,h4.tr hst (iQ _ ls rfl)⟩
  | gV f n sh=>obtain ⟨us,h1,h2,h3⟩:=h;exact ⟨us,h1,h2,h3.tr hst (iQ _ ls rfl)⟩
  | mF t sh=>obtain ⟨us,h1,h2,h3⟩:=h;exact ⟨us,h1,h2,h3.tr hst (iQ _ ls rfl)⟩
 | map mk kt vt xs c=>obtain ⟨b,es,h1,h2,h3,h4⟩:=h;exact ⟨b,es,h1,(hF b ((h3 b).2 rfl)).trans h2,h3,h4⟩
 | ghost=>exact fun k hk=>⟨(h k hk).1,(hF k (h k hk).1).trans (h k hk).2⟩
 | row t xs sh=>cases sh with
  | false=>exact Own.frame (w:=w) h hF
  | true=>obtain ⟨cells,h1,h2,h3⟩:=h;exact ⟨cells,mD h1 fun g hg=>hF g ((h2 g).2 hg),h2,fun j x hx i l hl=>R (h3 j x hx i l hl)⟩
end
end
section
variable {Ty:Type} {C:Ty→Type}
def ZL.desc (K:Cd C):ZL Ty→TypeDesc→Prop
 | .int k,d=>d = .int k
 | .bool,d=>d = .bool
 | .str,d=>d = .string
 | .er t,d=>d = .slice (K.tid t)
 | .ptr,d=>∃ e,d = .pointer e
 | .dP,d=>∃ p r v,d = .func p r v
 | .nk .mF,d=>∃ ms,d = .interface ms
 | .nk .map,d=>∃ k e,d = .map k e
def cw (P:Program) (K:Cd C) (T:TypeId):TK Ty→Prop
 | .one z=>(∃ i,P.info? T=some i∧i.size=1∧i.zero=some z.val)∧∃ d,P.underlying T=some d∧z.desc K d
 | .agg fs zs=>(∃ i,P.info? T=some i∧i.size=zs.length∧i.zero=some (.agg (zs.map ZL.val).toArray)) ∧
   ∃ fields:Array Field,P.underlying T=some (.struct fields)∧fields.size=fs.length ∧
    ∀ (j off n:Nat) (ag:Bool),fs[j]?=some (off,n,ag)→∃ (f:Field) (i:TypeInfo),fields[j]?=some f∧f.offset=off∧P.info? f.type=some i∧i.size=n∧0<n ∧
     ∃ d,P.underlying f.type=some d∧(match d with | .struct _ | .array .. =>true | _=>false)=ag
 | .arr n sz ag zs=>(∃ i,P.info? T=some i∧i.size=zs.length∧i.zero=some (.agg (zs.map ZL.val).toArray))∧zs.length=n*sz∧0<sz ∧
   ∃ (e:TypeId) (i:TypeInfo),P.underlying T=some (.array n e)∧P.info? e=some i∧i.size=sz∧∃ d,P.underlying e=some d∧(match d with | .struct _ | .array .. =>true | _=>false)=ag
def yR (P:Program) (K:Cd C) (t:Ty):Prop:=
 ∃ i z,P.info? (K.tid t)=some i∧i.size=K.sz t∧i.bytes=K.bytes t∧0<K.bytes t∧i.zero=some z∧z.cells.size=K.sz t ∧
  ∀ i l,(K.enc t (K.zero t))[i]?=some l→∀ w base F,Own K w base F l (z.cells.getD i undef)
def slot (d:Option Tmp) (nt:Nat):Prop:=∀ t,d=some t→t<nt
section
variable {P:Program} {K:Cd C} {X:Cx C} {w0 w:World} {nt:Nat} {S:St C} {β:Nat→Value} {fp:Nat→Nat→Prop} {a:Act}
theorem bV (h:cK K w0 nt S β fp a w) {x:Operand} {v:SV C} (hx:eu S x=some v):dq K w S.aj β fp (aH S.aj fp w) v (a.eval x):=by
 cases x with
 | tmp t=>exact h.env t v hx
 | const c=>
  cases c with
  | int k n=>simp [eu] at hx;subst hx;rfl
  | bool b=>simp [eu] at hx;subst hx;rfl
  | string s=>simp [eu] at hx;subst hx;rfl
  | pointer p=>
   cases p with
   | none=>simp [eu] at hx;subst hx;rfl
   | some p=>simp [eu] at hx
  | map m=>
   cases m with
   | none=>simp [eu] at hx;subst hx;rfl
   | some p=>simp [eu] at hx
  | nilFunc=>simp [eu] at hx;subst hx;rfl
  | nilIface=>simp [eu] at hx;subst hx;rfl
  | _=>simp [eu] at hx
 | global g=>simp [eu] at hx
 | func f=>
  simp only [eu] at hx
  cases hb:Nat.ble og f with
  | true=>rw [hb] at hx;cases hx
  | false=>rw [hb] at hx;cases hx;exact (o9 hb).symm
theorem dH (h:cK K w0 nt S β fp a w) {T:TypeId} {x:Operand} {v:SV C} (hx:gu X S T x=some v):dq K w S.aj β fp (aH S.aj fp w) v (a.eval x):=by
 unfold gu at hx;split at hx
 ·split at hx
  ·simp at hx;subst hx;rfl
  ·cases hx
 ·exact bV h hx
theorem bu {o:Oper} {v:Value} {w':World} {next:Act→World→Prop} {Q:Exit→Act→World→Prop} (h:(execOp a.eval o).run P w = .ok (.value v) w') (hn:next (a.put o.dst v) w'):o.wp P a w next Q:=by
 unfold Oper.wp;rw [h];exact hn
theorem wp_skip {o:Oper} {w':World} {next:Act→World→Prop} {Q:Exit→Act→World→Prop} (h:(execOp a.eval o).run P w = .ok .skip w') (hn:next (a.put o.dst undef) w'):o.wp P a w next Q:=by
 unfold Oper.wp;rw [h];exact hn
def Next (K:Cd C) (w0:World) (nt:Nat) {R:Type} (k:St C→Option R) (r:R) (a':Act) (w':World):Prop:=∃ S',nR K w0 nt S' a' w'∧k S'=some r
theorem bw {R:Type} {k:St C→Option R} {r:R} (h:cK K w0 nt S β fp a w) {d:Option Tmp} (hd:slot d nt) {v:SV C} {u:Value} (hv:dq K w S.aj β fp (aH S.aj fp w) v u) (hk:k (S.put d v)=some r) :
  Next K w0 nt k r (a.put d u) w:=⟨_,⟨β,fp,h.put d hd hv⟩,hk⟩
theorem toList_inj {a b:ByteArray} (h:a.toList=b.toList):a=b:=by
 rw [ByteArray.toList_eq,ByteArray.toList_eq] at h;exact ByteArray.ext (Array.ext' h)
theorem B8 (a b:ByteArray):(a.toList==b.toList)=decide (a=b):=by
 by_cases h:a=b
 ·subst h;simp
 ·have:a.toList≠b.toList:=fun e=>h (toList_inj e)
  simp [h,this]
theorem kP:∀ (a b:List UInt8),Go.Op.bytesLess a b=true→Go.Op.bytesLess b a=false∧(a==b)=false
 | _,[],h=>by simp [Go.Op.bytesLess] at h
 | [],b::y,h=>by simp [Go.Op.bytesLess]
 | x::a,y::b,h=>by
  simp only [Go.Op.bytesLess,Bool.or_eq_true,decide_eq_true_eq,Bool.and_eq_true,beq_iff_eq] at h
  rcases h with h | ⟨rfl,h⟩
  ·have h1:¬ y<x:=fun h2=>absurd (UInt8.lt_trans h h2) (UInt8.lt_irrefl _)
   have h2:x≠y:=fun e=>by subst e;exact absurd h (UInt8.lt_irrefl _)
   have h3:y≠x:=fun e=>h2 e.symm
   simp [Go.Op.bytesLess,h1,h2,h3]
  ·have ih:=kP a b h
   simp only [beq_eq_false_iff_ne] at ih;simp [Go.Op.bytesLess,ih.1,ih.2,UInt8.lt_irrefl]
theorem nQ:∀ (a b:List UInt8),Go.Op.bytesLess a b=false→(a==b)=false→Go.Op.bytesLess b a=true
 | [],[],_,h=>by simp at h
 | _::_,[],_,_=>by simp [Go.Op.bytesLess]
 | [],b::y,h,_=>by simp [Go.Op.bytesLess] at h
 | x::a,y::b,h,h'=>by
  simp only [Go.Op.bytesLess,Bool.or_eq_false_iff,decide_eq_false_iff_not,Bool.and_eq_false_iff,beq_eq_false_iff_ne] at h
  by_cases e:x=y
  ·subst e
   have h2:(a==b)=false:=by simpa using h'
   have:=nQ a b (by simpa using h.2) h2;simp [Go.Op.bytesLess,this]
  ·have h3:y<x:=by
    rcases Nat.lt_trichotomy x.toNat y.toNat with h4 | h4 | h4
    ·exact absurd (UInt8.lt_iff_toNat_lt.2 h4) h.1
    ·exact absurd (UInt8.toNat_inj.1 h4) e
    ·exact UInt8.lt_iff_toNat_lt.2 h4
   simp [Go.Op.bytesLess,h3]
theorem Ji (a b:ByteArray):(Go.Op.bytesLess a.toList b.toList||(a.toList==b.toList)) = !(Go.Op.bytesLess b.toList a.toList):=by
 cases h:Go.Op.bytesLess a.toList b.toList with
 | true=>simp [(kP _ _ h).1]
 | false=>
  cases h':(a.toList==b.toList) with
  | false=>simp [nQ _ _ h h']
  | true=>
   have:=eq_of_beq h';rw [this] at h ⊢;simp [h]
theorem cR {op:BinOp} {T:TypeId} {x y:Operand} {u v:Value} (h:∀ cs,u ≠ .agg cs) (h':u ≠ .nilIface):(eqGuard op T x y u v).run P w = .ok () w:=by
 unfold eqGuard;cases op<;>simp<;>(cases u<;>first | (exfalso;exact h' rfl) | (exfalso;exact h _ rfl) | (cases v<;>simp))
theorem bn {T:TypeId} {d:TypeDesc} (h:P.underlying T=some d):(underlying T).run P w = .ok d w:=by
 simp [underlying,h]
theorem uG {T:TypeId} (hu:P.underlying T=some .bool) (a b:Bool):(Go.Op.equal T (.bool a) (.bool b)).run P w = .ok (a==b) w:=by
 have:∀ d,(Go.Op.equalIn (d+1) T (.bool a) (.bool b)).run P w = .ok (a==b) w:=fun d=>by simp [Go.Op.equalIn,bn hu]
 exact this 9999
theorem wT {T e:TypeId} (hu:P.underlying T=some (.pointer e)) (p:Option Addr):(Go.Op.equal T (.pointer p) (.pointer none)).run P w = .ok p.isNone w:=by
 have:∀ d,(Go.Op.equalIn (d+1) T (.pointer p) (.pointer none)).run P w = .ok p.isNone w:=fun d=>by
  cases p<;>simp [Go.Op.equalIn,bn hu]
 exact this 9999
def EK.desc:EK→TypeDesc
 | .int k=>.int k
 | .bool=>.bool
 | .str=>.string
def U3 (P:Program):Nat→List Field→List EK→Prop
 | _,[],[]=>True
 | n,f::fs,k::ks=>(f.name ≠ "_" ∧ f.offset=n∧P.underlying f.type=some k.desc)∧U3 P (n+1) fs ks
 | _,_,_=>False
def yP (P:Program) (T:TypeId) (ks:List EK):Prop:=
 ∃ fs:Array Field,P.underlying T=some (.struct fs)∧P.stoodInHeld T=false∧P.eqGuardType P.depth T=false∧U3 P 0 fs.toList ks
def EK.isB:Option TypeDesc→EK→Bool
 | some (.int k),.int k'=>decide (k=k')
 | some .bool,.bool=>true
 | some .string,.str=>true
 | _,_=>false
def Kl (P:Program):Nat→List Field→List EK→Bool
 | _,[],[]=>true
 | n,f::fs,k::ks=>(!(f.name == "_")&&(Nat.beq f.offset n&&EK.isB (P.underlying f.type) k))&&Kl P (n+1) fs ks
 | _,_,_=>false
def Km (P:Program) (T:TypeId) (ks:List EK):Bool:=match P.underlying T with
 | some (.struct fs)=> !P.stoodInHeld T&&(!P.eqGuardType P.depth T&&Kl P 0 fs.toList ks)
 | _=>false
theorem EK.ZM {d:Option TypeDesc} {k:EK} (h:EK.isB d k=true):d=some k.desc:=by
 unfold EK.isB at h;split at h
 ·rw [of_decide_eq_true h];rfl
 ·rfl
 ·rfl
 ·cases h
theorem FD:∀ {n:Nat} {fs:List Field} {ks:List EK},Kl P n fs ks=true→U3 P n fs ks
 | _,[],[],_=>trivial
 | _,[],_::_,h=>by cases h
 | _,_::_,[],h=>by cases h
 | n,f::fs,k::ks,h=>by
  simp only [Kl,Bool.and_eq_true,Bool.not_eq_true',beq_eq_false_iff_ne] at h;exact ⟨⟨h.1.1,Nat.eq_of_beq_eq_true h.1.2.1,EK.ZM h.1.2.2⟩,FD h.2⟩
theorem qa {T:TypeId} {ks:List EK} (h:Km P T ks=true):yP P T ks:=by
 unfold Km at h;split at h
 ·rename_i fs hf
  simp only [Bool.and_eq_true,Bool.not_eq_true'] at h;exact ⟨fs,hf,h.1,h.2.1,FD h.2.2⟩
 ·cases h
theorem xy {T:TypeId} {k:EK} (h:P.underlying T=some k.desc) {cs:Array Value} {n:Nat} (hn:n<cs.size):(part T cs n).run P w = .ok (cs.getD n undef) w:=by
 have e:cs[n]?=some (cs.getD n undef):=by simp [Array.getD,hn]
 have ha:(isAgg T).run P w = .ok false w:=by
  simp only [isAgg,Sem.run_bind,bn h,Result.andThen_ok];cases k<;>rfl
 simp only [part,Sem.run_bind,ha,Result.andThen_ok,Bool.false_eq_true,if_false];rw [e];rfl
theorem uX {aj:cm C} {b8:Nat→Prop} {d:Nat}:∀ {fs:List Field} {ks:List EK} {as bs:List (Lf C)} {n:Nat} {c:Bool} {us vs:Array Value},U3 P n fs ks→uf ks as bs=some c→us.size=n+as.length→vs.size=n+bs.length →
  (∀ i l,as[i]?=some l→cI X.K w aj β fp b8 l (us.getD (n+i) undef))→(∀ i l,bs[i]?=some l→cI X.K w aj β fp b8 l (vs.getD (n+i) undef))→(Op.eqFields (d+1) us vs fs).run P w = .ok c w
 | [],ks,as,bs,n,c,us,vs,hf,hc,hu,hv,ha,hb=>by
  cases ks with
  | cons k ks=>exact hf.elim
  | nil=>
   cases as with
   | cons a as=>simp [uf] at hc
   | nil=>cases bs with
    | cons b bs=>simp [uf] at hc
    | nil=>
     simp only [uf,Option.some.injEq] at hc;subst hc;rfl
 | f::fs,ks,as,bs,n,c,us,vs,hf,hc,hu,hv,ha,hb=>by
  cases ks with
  | nil=>exact hf.elim
  | cons k ks=>
   obtain ⟨⟨h1,h2,h3⟩,hf⟩:=hf;subst h2
   have main:∀ (a b:Lf C) (r s:List (Lf C)) (e c':Bool),as=a::r→bs=b::s→uf ks r s=some c'→c=(e&&c')→(Op.equalIn (d+1) f.type (us.getD f.offset undef) (vs.getD f.offset undef)).run P w = .ok e w→(Op.eqFields (d+1) us vs (f::fs)).run P w = .ok c w:=by
    intro a b r s e c' ea eb he ec hq;subst ea eb ec;simp only [List.length_cons] at hu hv
    have ih:=uX (d:=d) (fs:=fs) (ks:=ks) (as:=r) (bs:=s) (n:=f.offset+1) (c:=c') (us:=us) (vs:=vs) hf he (by omega) (by omega)
     (fun i l hl=>by have:=ha (i+1) l (by simpa using hl);rwa [show f.offset+(i+1)=f.offset+1+i from by omega] at this)
     (fun i l hl=>by have:=hb (i+1) l (by simpa using hl);rwa [show f.offset+(i+1)=f.offset+1+i from by omega] at this)
    rw [Op.eqFields,if_pos h1];simp only [Sem.run_bind,xy h3 (show f.offset<us.size by omega),xy h3 (show f.offset<vs.size by omega),Result.andThen_ok,hq]
    cases e with
    | false=>rfl
    | true=>simpa using ih
   cases k with
   | int kk=>
    match as,bs,hc with
    | .int k1 a::r,.int k2 b::s,hc=>
     simp only [uf] at hc
     have hk:k1=k2:=by
      by_cases e:k1=k2
      ·exact e
      ·simp [e] at hc
     subst hk;simp only [decide_true,cond_true] at hc;split at hc
     ·rename_i c' he
      cases hc;have e1:us.getD f.offset undef = .int k1 a:=ha 0 (.int k1 a) rfl;have e2:vs.getD f.offset undef = .int k1 b:=hb 0 (.int k1 b) rfl;refine main _ _ _ _ (decide (a=b)) c' rfl rfl he rfl ?_;rw [e1,e2,run_equalIn_int w d f.type k1 kk a b h3];rfl
     ·cases hc
   | bool=>
    match as,bs,hc with
    | .bool a::r,.bool b::s,hc=>
     simp only [uf] at hc;split at hc
     ·rename_i c' he
      cases hc;have e1:us.getD f.offset undef = .bool a:=ha 0 (.bool a) rfl;have e2:vs.getD f.offset undef = .bool b:=hb 0 (.bool b) rfl;refine main _ _ _ _ (a==b) c' rfl rfl he rfl ?_;rw [e1,e2,run_equalIn_bool' w d f.type a b h3]
     ·cases hc
   | str=>
    match as,bs,hc with
    | .str a::r,.str b::s,hc=>
     simp only [uf] at hc;split at hc
     ·rename_i c' he
      cases hc;have e1:us.getD f.offset undef = .string a:=ha 0 (.str a) rfl;have e2:vs.getD f.offset undef = .string b:=hb 0 (.str b) rfl;refine main _ _ _ _ (decide (a=b)) c' rfl rfl he rfl ?_;rw [e1,e2,run_equalIn_string w d f.type a b h3,B8]
     ·cases hc
theorem FE {T:TypeId} {ks:List EK} (hE:yP P T ks) {aj:cm C} {b8:Nat→Prop} {as bs:List (Lf C)} {c:Bool} {u v:Value} (hc:uf ks as bs=some c) (hx:dq X.K w aj β fp b8 (.agg as) u) (hy:dq X.K w aj β fp b8 (.agg bs) v) {op:BinOp} {xo yo:Operand} :
  (eqGuard op T xo yo u v).run P w = .ok () w∧(binOp .eql T u v).run P w = .ok (.bool c) w∧(binOp .neq T u v).run P w = .ok (.bool (!c)) w:=by
 obtain ⟨fs,h1,h2,h3,h4⟩:=hE;obtain ⟨us,rfl,hu⟩:=hx;obtain ⟨vs,rfl,hv⟩:=hy
 have e:P.fieldsOf T=fs:=by simp [Program.fieldsOf,h1]
 have hq:(Op.equalIn 10000 T (.agg us.toArray) (.agg vs.toArray)).run P w = .ok c w:=by
  rw [run_equalIn_struct w 9999 T _ _ (by rw [e];exact h1) h2,e];exact uX (d:=9998) h4 hc (by simp [hu.1]) (by simp [hv.1]) (X:=X) (fun i l hl=>by have:=hu.2 i l hl;simpa using this) (fun i l hl=>by have:=hv.2 i l hl;simpa using this)
 refine ⟨run_eqGuard_agg w op T xo yo _ _ h3,?_,?_⟩
 ·rw [run_eql_struct,hq];rfl
 ·rw [run_neq_struct,hq];rfl
theorem bin_ok {T:TypeId} (hT:∀ k,X.tk T=some k→cw P X.K T k) (hE:∀ ks,X.U2 T=some ks→yP P T ks) {op:BinOp} {xo yo:Operand} {x y:SV C} {u v:Value} {R:Type} {k:SV C→Option R} {r:R} {aj:cm C} {b8:Nat→Prop}
  (h:IU (X.U2 T) (X.tk T) op x y k=some r) (hx:dq X.K w aj β fp b8 x u) (hy:dq X.K w aj β fp b8 y v) :
  ∃ z q,(do eqGuard op T xo yo u v;binOp op T u v:Sem Value).run P w = .ok q w∧dq X.K w aj β fp b8 z q∧k z=some r:=by
 unfold IU at h;split at h
 ·
  rename_i as bs;split at h
  ·rename_i ks hks
   split at h
   ·rename_i c hc
    obtain ⟨g1,g2,g3⟩:=FE (hE _ hks) hc hx hy (op:=.eql) (xo:=xo) (yo:=yo);exact ⟨.one (.bool c),.bool c,by simp only [Sem.run_bind,g1,Result.andThen_ok,g2],rfl,h⟩
   ·rename_i c hc
    obtain ⟨g1,g2,g3⟩:=FE (hE _ hks) hc hx hy (op:=.neq) (xo:=xo) (yo:=yo);exact ⟨.one (.bool (!c)),.bool (!c),by simp only [Sem.run_bind,g1,Result.andThen_ok,g3],rfl,h⟩
   ·cases h
  ·cases h
 ·
  rename_i ka a kb b;simp only [dq,cI] at hx hy;subst hx hy;have hg:(eqGuard op T xo yo (.int ka a) (.int kb b)).run P w = .ok () w:=cR (by simp) (by simp)
  by_cases hk:ka=kb
  ·subst hk
   simp only [decide_true,cond_true] at h
   cases hc:cmpI op a b with
   | some c=>
    rw [hc] at h;refine ⟨.one (.bool c),.bool c,?_,rfl,h⟩;simp only [Sem.run_bind,hg,Result.andThen_ok];cases op<;>simp [cmpI] at hc<;>subst hc<;>simp [binOp,Go.Op.intCmp]
   | none=>
    rw [hc] at h;simp only at h
    cases ha:arI op ka a b with
    | some n=>
     rw [ha] at h;refine ⟨.one (.int ka n),.int ka n,?_,rfl,h⟩;simp only [Sem.run_bind,hg,Result.andThen_ok];cases op<;>simp [arI] at ha<;>subst ha<;>simp [binOp,Go.Op.intArith,Go.Op.intBits,NV]
    | none=>
     rw [ha] at h;simp only at h
     by_cases hb:b=0
     ·simp [hb] at h
     ·simp only [hb,decide_false,cond_false] at h
      split at h
      ·refine ⟨.one (.int ka (ka.wrap (a.tdiv b))),.int ka (ka.wrap (a.tdiv b)),?_,rfl,h⟩
       simp only [Sem.run_bind,hg,Result.andThen_ok];simp [binOp,Go.Op.intDiv,hb]
      ·refine ⟨.one (.int ka (a.tmod b)),.int ka (a.tmod b),?_,rfl,h⟩
       simp only [Sem.run_bind,hg,Result.andThen_ok];simp [binOp,Go.Op.intDiv,hb]
      ·cases h
  ·simp [hk] at h
 ·
  rename_i a b;simp only [dq,cI] at hx hy;subst hx hy;have hg:(eqGuard op T xo yo (.string a) (.string b)).run P w = .ok () w:=cR (by simp) (by simp)
  cases hc:cmpS op a b with
  | some c=>
   rw [hc] at h;refine ⟨.one (.bool c),.bool c,?_,rfl,h⟩;simp only [Sem.run_bind,hg,Result.andThen_ok];cases op<;>simp only [cmpS,Option.some.injEq,reduceCtorEq] at hc<;>subst hc<;>simp [binOp,Go.Op.stringOp,slt,B8]
   ·have:=Ji a b
    rw [B8] at this
    simpa using this
   ·have:=Ji a b
    rw [B8] at this;rw [←Bool.not_or,this];simp
  | none=>
   rw [hc] at h;simp only at h;split at h
   ·by_cases hs:a.size+b.size≤9223372036854775807
    ·simp only [hs,decide_true,cond_true] at h
     refine ⟨.one (.str (a++b)),.string (a++b),?_,rfl,h⟩;simp only [Sem.run_bind,hg,Result.andThen_ok]
     have:¬ (((a.size+b.size:Nat):Int)>IntKind.i64.max):=by
      have:IntKind.i64.max=9223372036854775807:=by decide
      rw [this];omega
     simp only [binOp,Go.Op.stringOp,if_neg this];rfl
    ·simp [hs] at h
   ·cases h
 ·
  rename_i a b;simp only [dq,cI] at hx hy;subst hx hy;have hg:(eqGuard op T xo yo (.bool a) (.bool b)).run P w = .ok () w:=cR (by simp) (by simp);split at h
  ·rename_i ht
   obtain ⟨_,d,hd,hd'⟩:=hT _ ht;have hu:=hd.trans (congrArg some (show d=TypeDesc.bool from hd'));refine ⟨.one (.bool (a==b)),.bool (a==b),?_,rfl,h⟩;simp only [Sem.run_bind,hg,Result.andThen_ok];simp [binOp,uG hu]
  ·rename_i ht
   obtain ⟨_,d,hd,hd'⟩:=hT _ ht;have hu:=hd.trans (congrArg some (show d=TypeDesc.bool from hd'));refine ⟨.one (.bool (!(a==b))),.bool (!(a==b)),?_,rfl,h⟩;simp only [Sem.run_bind,hg,Result.andThen_ok];simp [binOp,uG hu]
  ·cases h
 ·
  rename_i x;simp only [dq,cI] at hy;subst hy
  cases hn:H8 x with
  | none=>simp [hn] at h
  | some c=>
   have hu':∃ p,u = .pointer p∧p.isNone=c:=by
    cases x<;>simp [H8] at hn<;>subst hn
    ·exact ⟨none,hx,rfl⟩
    ·obtain ⟨b,_,e⟩:=hx;exact ⟨_,e,rfl⟩
    ·obtain ⟨a,_,e,_⟩:=hx;exact ⟨_,e,rfl⟩
    ·rename_i id p i o
     cases p with
     | nil=>obtain ⟨⟨a,e⟩,_⟩:=hx;exact ⟨_,e,rfl⟩
     | cons s p=>obtain ⟨⟨a,e⟩,_⟩:=hx;exact ⟨_,e,rfl⟩
   obtain ⟨p,rfl,hp⟩:=hu';have hg:(eqGuard op T xo yo (.pointer p) (.pointer none)).run P w = .ok () w:=cR (by simp) (by simp);simp only [hn] at h;split at h
   ·rename_i c' e ht
    cases e;obtain ⟨_,d,hd,e,hd'⟩:=hT _ ht;have hu:=hd.trans (congrArg some hd');refine ⟨.one (.bool c),.bool c,?_,rfl,h⟩;simp only [Sem.run_bind,hg,Result.andThen_ok];subst hp;simp [binOp,wT hu]
   ·rename_i c' e ht
    cases e;obtain ⟨_,d,hd,e,hd'⟩:=hT _ ht;have hu:=hd.trans (congrArg some hd');refine ⟨.one (.bool (!c)),.bool (!c),?_,rfl,h⟩;simp only [Sem.run_bind,hg,Result.andThen_ok];subst hp;simp [binOp,wT hu]
   ·cases h
 ·cases h
end
end
section
variable {Ty:Type} {C:Ty→Type}
variable {P:Program} {K:Cd C} {X:Cx C} {w0 w:World} {nt:Nat} {S:St C} {β:Nat→Value} {fp:Nat→Nat→Prop} {a:Act}
theorem add_add (p:Addr) (m n:Nat):(p.add m).add n=p.add (m+n):=by
 unfold Addr.add
 by_cases h1:m=0<;>by_cases h2:n=0<;>simp [h1,h2,Nat.add_assoc]
theorem iq (b o n:Nat):(⟨b,o,none⟩:Addr).add n=⟨b,o+n,none⟩:=by
 unfold Addr.add;split<;>simp_all
theorem m8 (p:Addr) (n:Nat):(p.add n).block=p.block:=by unfold Addr.add;split<;>rfl
theorem cw.under {T:TypeId} {k:TK Ty} (h:cw P K T k):∃ d,P.underlying T=some d:=by
 cases k with
 | one z=>obtain ⟨_,d,hd,_⟩:=h;exact ⟨d,hd⟩
 | agg fs zs=>obtain ⟨_,f,hf,_⟩:=h;exact ⟨_,hf⟩
 | arr n sz ag zs=>obtain ⟨_,_,_,e,i,hf,_⟩:=h;exact ⟨_,hf⟩
theorem cw.er {T:TypeId} {t:Ty} (h:cw P K T (.one (.er t))):P.underlying T=some (.slice (K.tid t)):=by
 obtain ⟨_,d,hd,h⟩:=h;exact hd.trans (congrArg some h)
theorem cw.str {T:TypeId} (h:cw P K T (.one .str)):P.underlying T=some .string:=by
 obtain ⟨_,d,hd,h⟩:=h;exact hd.trans (congrArg some h)
theorem cw.int {T:TypeId} {k:IntKind} (h:cw P K T (.one (.int k))):P.underlying T=some (.int k):=by
 obtain ⟨_,d,hd,h⟩:=h;exact hd.trans (congrArg some h)
theorem yR.size {t:Ty} (h:yR P K t):(sizeOf (K.tid t)).run P w = .ok (K.sz t) w:=by
 obtain ⟨i,z,h1,h2,_⟩:=h;simp [sizeOf,typeInfo,h1,h2]
def jx (K:Cd C) (fl:MK) (kt vt:Ty) (x:C kt):List (Nat×C kt×C vt)→Nat→Option (Nat×Value)
 | [],_=>none
 | e::r,i=>cond (jC (K.enc kt e.2.1) (K.enc kt x)) (some (i,qo K fl vt e.2.2)) (jx K fl kt vt x r (i+1))
structure yM (P:Program) (K:Cd C) (T:TypeId) (m:MT Ty) (kt et:TypeId):Prop where
 lX:P.underlying T=some (.map kt et)
 fk:K.flat m.kt=true
 fv:K.flat m.vt=true
 zero:∀ w,(zeroValue et).run P w = .ok (qo K m.fl m.vt (K.zero m.vt)) w
 qx:∀ b x w,(Instr.checkKey b 10000 kt (lO K m.fl m.kt x)).run P w = .ok () w
 find:∀ x (xs:List (Nat×C m.kt×C m.vt)) w,(Instr.findKey kt (lO K m.fl m.kt x) (xs.map (pn K m.fl m.kt m.vt))).run P w = .ok (jx K m.fl m.kt m.vt x xs 0) w
 vone:m.fl.Yy=false→m.fl.un=false→K.sz m.vt=1
 bits:∀ x y,jC (K.enc m.kt y) (K.enc m.kt x)=true→lO K m.fl m.kt y=lO K m.fl m.kt x∧Instr.sameBits 10000 (lO K m.fl m.kt y) (lO K m.fl m.kt x)=true
def Gg (P:Program) (K:Cd C) (T:TypeId) (m:MT Ty):Prop:=∃ kt et,yM P K T m kt et
def Yr (P:Program) (f:Nat) (e:List Value→Option Value):Prop:=∀ us v,e us=some v→∀ w,(callFunc f us.toArray).run P w = .ok (.value v) w
def SY (P:Program) (f tid sz bytes:Nat):Prop:=(∃ fn,P.funcs[f]?=some fn∧fn.body.isNone=false∧fn.name ≠ "runtime.NumGoroutine") ∧
 ∀ (w:World) (base:Nat) (v v1:Value) (n i:Nat) (cs gs:List Value),w.ownsRow base tid sz v n cs→w.ownsRow base tid sz v1 1 gs→base≤w.heap.size→i≤n→(n+1)*bytes≤140737488355328→(∀ g,v.ownBlock=some g→v1.ownBlock≠some g) →
  (∀ u,u∈cs→u.oneCell'=true)→(∀ u,u∈gs→u.oneCell'=true) →
  Calls P f #[v,.int .i64 i,v1] w fun e w'=>∃ v',e = .returned v'∧w'.ownsRow base tid sz v' (n+1) (cs.take (i*sz)++gs++cs.drop (i*sz))∧w.grownBy w' v.ownBlock∧(v'.ownBlock=v.ownBlock∨∀ g,v'.ownBlock=some g→w.heap.size≤g)
structure jk (P:Program) (X:Cx C):Prop where
 tk:∀ T k,X.tk T=some k→cw P X.K T k
 el:∀ t,yR P X.K t
 mp:∀ T m,X.mp T=some m→Gg P X.K T m
 H3:∀ T name f,X.H3 T name=some f→∀ v w,(method (P.types.size+Made.depth) T v name).run P w = .ok (f,v) w
 ext:∀ f e,X.ext f=some e→Yr P f e
 ins:∀ f t,X.ins f=some t→SY P f (X.K.tid t) (X.K.sz t) (X.K.bytes t)
 U2:∀ T ks,X.U2 T=some ks→yP P T ks
theorem N5 {k:IntKind} {n:Int}:(Go.Op.unary .neg (.int k n)).run P w = .ok (.int k (k.wrap (0-n))) w:=by simp [Go.Op.unary,Go.Op.intArith]
theorem FR {s d:TypeId} {k k':IntKind} {n:Int} {ds:TypeDesc} (hs:P.underlying s=some ds) (hd:P.underlying d=some (.int k')):(convert s d (.int k n)).run P w = .ok (.int k' (k'.wrap n)) w:=by
 unfold convert;simp only [Sem.run_bind,bn hs,bn hd,Result.andThen_ok];cases ds<;>simp [Conv.intToInt]
theorem FQ {s d:TypeId} {x:ByteArray} {ds:TypeDesc} (hs:P.underlying s=some ds) (hd:P.underlying d=some .string):(convert s d (.string x)).run P w = .ok (.string x) w:=by
 unfold convert;simp only [Sem.run_bind,bn hs,bn hd,Result.andThen_ok];cases ds<;>simp
theorem Iw {T:TypeId} {fs:List (Nat×Nat×Bool)} {zs:List (ZL Ty)} (hT:cw P K T (.agg fs zs)) {f off n:Nat} {ag:Bool} (hf:fs[f]?=some (off,n,ag)) (p:Addr) :
  (Instr.fieldAt T (.pointer (some p)) f).run P w = .ok (.pointer (some (p.add off))) w:=by
 obtain ⟨_,fields,hu,hl,hF⟩:=hT;obtain ⟨fl,i,h1,h2,h3,h4,h5,_⟩:=hF f off n ag hf
 have hn:n≠0:=by omega
 simp [Instr.fieldAt,bn hu,h1,Instr.sureAddr,fieldPlace,sizeOf,typeInfo,h3,h4,hn,h2]
theorem M3 {aj:cm C} {b8:Nat→Prop} {l l':Lf C} {off:Nat} {v:Value} (h:Dc l off=some l') (hv:cI K w aj β fp b8 l v):∃ p,v = .pointer (some p)∧cI K w aj β fp b8 l' (.pointer (some (p.add off))):=by
 cases l<;>simp [Dc] at h<;>subst h
 ·obtain ⟨b,h1,h2⟩:=hv
  exact ⟨_,h2,b,h1,by rw [iq]⟩
 ·obtain ⟨q,U,h1,h2,h3,h4⟩:=hv
  exact ⟨_,h1,q,U,by rw [add_add],h2,h3,h4⟩
 ·rename_i id p i o
  cases p with
  | nil=>
   obtain ⟨⟨q,hq⟩,h2⟩:=hv;subst hq;refine ⟨q,rfl,⟨_,rfl⟩,fun t xs sh ho=>?_⟩;obtain ⟨h3,q',m,c,h4,h5⟩:=h2 t xs sh ho;refine ⟨h3,q',m,c,h4,?_⟩;simp only [Value.pointer.injEq,Option.some.injEq] at h5 ⊢;rw [h5,add_add,Nat.add_assoc]
  | cons s p=>
   obtain ⟨⟨q,hq⟩,h2⟩:=hv;subst hq;refine ⟨q,rfl,⟨_,rfl⟩,fun t xs sh ho=>?_⟩;obtain ⟨h1,t',zs,v',hp,h3,q',m,c,h4,h5⟩:=h2 t xs sh ho;refine ⟨h1,t',zs,v',hp,h3,q',m,c,h4,?_⟩;simp only [Value.pointer.injEq,Option.some.injEq] at h5 ⊢;rw [h5,add_add,Nat.add_assoc]
theorem gq {base:Nat} {e:TypeId} {size n:Nat} {v:Value} {cells:List Value} (h:w.ownsRow base e size v n cells):∃ A c,v = .slice A n c∧(0<n→∃ g,A=some ⟨g,0,none⟩):=by
 rcases h.2 with ⟨rfl,rfl⟩ | ⟨g,cap,cur,rfl,_⟩
 ·exact ⟨none,0,rfl,fun h=>absurd h (by omega)⟩
 ·exact ⟨_,cap,rfl,fun _=>⟨g,rfl⟩⟩
theorem Own.head {base:Nat} {F:Nat→Prop} {t:Ty} {xs:List (C t)} {v:Value} (h:Own K w base F (.row t xs) v):∃ A c,v = .slice A xs.length c∧(0<xs.length→∃ g,A=some ⟨g,0,none⟩):=by
 cases h with
 | row _ _ _ _ cells G h=>exact gq h
theorem gU.head {F:Nat→Prop} {t:Ty} {xs:List (C t)} {v:Value} (h:gU K w F (.row t xs) v):∃ A c,v = .slice A xs.length c∧(0<xs.length→∃ g,A=some g):=by
 cases h with
 | row _ _ A c a U hc hA=>exact ⟨A,c,rfl,fun h=>⟨a,(hA (List.length_pos_iff.1 h)).1⟩⟩
theorem Cq {base:Nat} {aj:cm C} {b8 F:Nat→Prop} {t:Ty} {xs:List (C t)} {sh:Bool} {v:Value} (h:lj K w base aj β fp b8 F (.row t xs sh) v):∃ A c,v = .slice A xs.length c∧(0<xs.length→∃ g,A=some ⟨g,0,none⟩):=by
 cases sh with
 | false=>exact Own.head h
 | true=>obtain ⟨cells,h1,_⟩:=h;exact gq h1
theorem rV {F:Nat→Prop} {base:Nat} {t:Ty} {xs:List (C t)} {v:Value} {p:List (Nat×Nat)} {t':Ty} {zs:List (C t')} {v':Value}
  (h:ow K w F t xs v p t' zs v'):∀ G,Own K w base G (.row t xs) v→∃ G',(∀ k,G' k→G k)∧Own K w base G' (.row t' zs) v':=by
 induction h with
 | nil=>exact fun G h=>⟨G,fun _ h=>h,h⟩
 | cons t xs v i o x t1 ys a n c v1 p t' zs v' hx hl hv hF hc _ ih=>
  intro G h
  cases h with
  | row _ _ _ _ cells G0 h h1 h2 h3 h4=>
   have hi:i<xs.length:=by
    rcases Nat.lt_or_ge i xs.length with h | h
    ·exact h
    ·simp [List.getElem?_eq_none h] at hx
   have rD:xs[i]=x:=by simpa [List.getElem?_eq_getElem hi] using hx
   have ho:o<K.sz t:=by
    have:o<(K.enc t x).length:=by
     rcases Nat.lt_or_ge o (K.enc t x).length with h | h
     ·exact h
     ·simp [List.getElem?_eq_none h] at hl
    rwa [K.gH] at this
   have hpos:0<xs.length*K.sz t:=Nat.mul_pos (by omega) (K.pos t);obtain ⟨g,cap,e,hb,hn,hcell⟩:=kJ h hpos;rw [e] at hv;cases hv
   have hm:i*K.sz t+o<xs.length*K.sz t:=by
    calc i*K.sz t+o<i*K.sz t+K.sz t:=by omega
     _=(i+1)*K.sz t:=by rw [Nat.succ_mul]
     _≤xs.length*K.sz t:=Nat.mul_le_mul_right _ hi
   have:=hcell _ hm;rw [hc] at this;cases this;obtain ⟨G',hG',hO⟩:=ih (G0 i o) (h4 i hi o _ (by rw [rD];exact hl));exact ⟨G',fun k hk=>(h2 i o k (hG' k hk)).1,hO⟩
end
section
variable {Ty:Type} [DecidableEq Ty] {C:Ty→Type}
variable {P:Program} {X:Cx C} {w0 w:World} {nt:Nat} {S:St C} {β:Nat→Value} {fp:Nat→Nat→Prop} {a:Act} {R:Type} {k:St C→Option R} {r:R}
variable {dst:Option Tmp} {ty:TypeId} {pos:String} {dG:Array Edge} {gd:Option (Nat×Bool)} {Q:Exit→Act→World→Prop}
abbrev Goal (P:Program) (X:Cx C) (w0:World) (nt:Nat) (k:St C→Option R) (r:R) (Q:Exit→Act→World→Prop) (o:Oper) (a:Act) (w:World):Prop:=o.wp P a w (Next X.K w0 nt k r) Q
theorem fG {aj:cm C} {b8:Nat→Prop} {l:Lf C} {v:Value} (h:dq X.K w aj β fp b8 (.one l) v):cI X.K w aj β fp b8 l v:=h
theorem YH (hs:cK X.K w0 nt S β fp a w) (hd:slot dst nt) {x:Operand} (h:ev X ⟨dst,.move x,ty,pos,dG,gd⟩ S k=some r):Goal P X w0 nt k r Q ⟨dst,.move x,ty,pos,dG,gd⟩ a w:=by
 simp only [ev] at h;split at h
 ·rename_i v hv
  exact bu rfl (bw hs hd (dH hs hv) h)
 ·cases h
theorem Ox (hs:cK X.K w0 nt S β fp a w) (hd:slot dst nt) {x:Operand} (h:ev X ⟨dst,.assign x,ty,pos,dG,gd⟩ S k=some r):Goal P X w0 nt k r Q ⟨dst,.assign x,ty,pos,dG,gd⟩ a w:=by
 simp only [ev] at h;split at h
 ·rename_i v hv
  exact bu rfl (bw hs hd (dH hs hv) h)
 ·cases h
theorem YG (hs:cK X.K w0 nt S β fp a w) (hd:slot dst nt) {c x y:Operand} (h:ev X ⟨dst,.pick c x y,ty,pos,dG,gd⟩ S k=some r):Goal P X w0 nt k r Q ⟨dst,.pick c x y,ty,pos,dG,gd⟩ a w:=by
 simp only [ev] at h;split at h
 ·rename_i bc bx by' hc hx hy
  have hc:=bV hs hc;have hx:=bV hs hx;have hy:=bV hs hy;simp only [dq,cI] at hc hx hy;refine bu (v:=.bool (cond bc bx by')) ?_ (bw hs hd (v:=.one (.bool (cond bc bx by'))) rfl h);cases bc<;>simp [execOp,hc,hx,hy,asBool]
 ·rename_i v hc hv _
  have hc:=bV hs hc;simp only [dq,cI] at hc;refine bu (v:=a.eval x) ?_ (bw hs hd (bV hs hv) h);simp [execOp,hc,asBool]
 ·rename_i v hc hv _
  have hc:=bV hs hc;simp only [dq,cI] at hc;refine bu (v:=a.eval y) ?_ (bw hs hd (bV hs hv) h);simp [execOp,hc,asBool]
 ·cases h
theorem YF (hs:cK X.K w0 nt S β fp a w) (hd:slot dst nt) {op:UnOp} {t:TypeId} {x:Operand} (h:ev X ⟨dst,.unOp op t x,ty,pos,dG,gd⟩ S k=some r):Goal P X w0 nt k r Q ⟨dst,.unOp op t x,ty,pos,dG,gd⟩ a w:=by
 simp only [ev] at h;split at h
 ·rename_i b hv
  have hv:=bV hs hv;simp only [dq,cI] at hv;refine bu (v:=.bool (!b)) ?_ (bw hs hd (v:=.one (.bool (!b))) rfl h);simp [execOp,hv,Go.Op.unary]
 ·rename_i ki n hv
  have hv:=bV hs hv;simp only [dq,cI] at hv;refine bu (v:=.int ki (ki.wrap (0-n))) ?_ (bw hs hd (v:=.one (.int ki (ki.wrap (0-n)))) rfl h);simp only [execOp,hv,Sem.run_bind,N5,Result.andThen_ok,Sem.run_pure]
 ·cases h
theorem D5 (hX:jk P X) (hs:cK X.K w0 nt S β fp a w) (hd:slot dst nt) {t:TypeId} {x:Operand} {f:Nat} (h:ev X ⟨dst,.fieldAddr t x f,ty,pos,dG,gd⟩ S k=some r):Goal P X w0 nt k r Q ⟨dst,.fieldAddr t x f,ty,pos,dG,gd⟩ a w:=by
 simp only [ev] at h;split at h
 ·rename_i fs zs l ht hv
  split at h
  ·rename_i off n ag hf
   split at h
   ·rename_i l' hl
    obtain ⟨p,hp,hok⟩:=M3 hl (bV hs hv);refine bu (v:=.pointer (some (p.add off))) ?_ (bw hs hd (v:=.one l') hok h);simp only [execOp,hp,Sem.run_bind,Iw (hX.tk _ _ ht) hf,Result.andThen_ok,Sem.run_pure]
   ·cases h
  ·cases h
 ·cases h
theorem az {α:Type} {b:Bool} {x:Option α} {y:α} (h:cond b x none=some y):b=true∧x=some y:=by
 cases b with
 | true=>exact ⟨rfl,h⟩
 | false=>cases h
theorem IP (hs:cK X.K w0 nt S β fp a w) {id f n:Nat} {sh:List (Bool×Nat)} {ls:List (Lf C)} (ho:lk S.aj id=some (.box (.gV f n sh) ls)):∃ us,β id=MX f n sh us∧cg X.K w S.aj β fp (aH S.aj fp w) ls us:=by
 obtain ⟨us,h1,_,h3⟩:=hs.aj id _ ho;exact ⟨us,h1,h3⟩
theorem Ic (hs:cK X.K w0 nt S β fp a w) {id t:Nat} {sh:List (Bool×Nat)} {ls:List (Lf C)} (ho:lk S.aj id=some (.box (.mF t sh) ls)):∃ us,β id=MC t sh us∧cg X.K w S.aj β fp (aH S.aj fp w) ls us:=by
 obtain ⟨us,h1,_,h3⟩:=hs.aj id _ ho;exact ⟨us,h1,h3⟩
theorem Ux (hs:cK X.K w0 nt S β fp a w) {v:SV C} {u:Value} (hl:xN S v=true) (hv:dq X.K w S.aj β fp (aH S.aj fp w) v u):(∃ f us vs,u = .func (.func f) us vs)∨∃ t x,u = .iface t x:=by
 unfold xN at hl;split at hl
 ·exact .inl ⟨_,_,_,(show u=_ from hv).trans (o9 (by simpa using hl))⟩
 ·rename_i id
  have e:u=β id:=hv.2;split at hl
  ·rename_i ho
   obtain ⟨us,h1,_⟩:=IP hs ho;exact .inl ⟨_,_,_,e.trans h1⟩
  ·rename_i ho
   obtain ⟨us,h1,_⟩:=Ic hs ho;exact .inr ⟨_,_,e.trans h1⟩
  ·cases hl
 ·cases hl
theorem pg {T:TypeId} {u v:Value} {b:Bool} (hne:(Go.Op.equal T u v).run P w = .ok b w) (h1:(binOp .eql T u v)=(do pure (.bool (←Go.Op.equal T u v)))) (h2:(binOp .neq T u v)=(do pure (.bool (!(←Go.Op.equal T u v))))) :
  (binOp .eql T u v).run P w = .ok (.bool b) w∧(binOp .neq T u v).run P w = .ok (.bool (!b)) w:=by
 rw [h1,h2];simp only [Sem.run_bind,hne,Result.andThen_ok];exact ⟨rfl,rfl⟩
theorem FC {T:TypeId} {u v:Value} {b:Bool} (h:∀ d,(Go.Op.equalIn (d+1) T u v).run P w = .ok b w):(Go.Op.equal T u v).run P w = .ok b w:=h 9999
theorem JP (hX:jk P X) (hs:cK X.K w0 nt S β fp a w) {T:TypeId} {x y:Lf C} {u v:Value} {b:Bool} (hb:Md S (X.tk T) x y=some b)
  (hx:cI X.K w S.aj β fp (aH S.aj fp w) x u) (hy:cI X.K w S.aj β fp (aH S.aj fp w) y v) {xo yo:Operand} (hc:isConst yo=true) :
  (eqGuard .eql T xo yo u v).run P w = .ok () w∧(eqGuard .neq T xo yo u v).run P w = .ok () w∧(binOp .eql T u v).run P w = .ok (.bool b) w∧(binOp .neq T u v).run P w = .ok (.bool (!b)) w:=by
 have hyc:∃ c,yo = .const c:=by cases yo with
  | const c=>exact ⟨c,rfl⟩
  | _=>cases hc
 obtain ⟨c,rfl⟩:=hyc;unfold Md at hb;split at hb
 case h_9=>cases hb
 all_goals
  rename_i hT;obtain ⟨_,d,hd,uW⟩:=hX.tk _ _ hT
 ·obtain ⟨ms,rfl⟩:=uW
  cases hb;obtain rfl:u = .nilIface:=hx;obtain rfl:v = .nilIface:=hy;exact ⟨by simp [eqGuard],by simp [eqGuard],pg (FC fun d=>by simp [Go.Op.equalIn,bn hd]) rfl rfl⟩
 ·obtain ⟨ms,rfl⟩:=uW
  split at hb
  ·rename_i ho
   cases hb;obtain ⟨us,h1,_⟩:=Ic hs ho;have e:u=_:=hx.2.trans h1;unfold MC at e;subst e;obtain rfl:v = .nilIface:=hy;exact ⟨cR (by simp) (by simp),cR (by simp) (by simp),pg (FC fun d=>by simp [Go.Op.equalIn,bn hd]) rfl rfl⟩
  ·cases hb
 ·obtain ⟨ms,rfl⟩:=uW
  rename_i f _;have hx:u=yc (some f):=hx
  cases hf:Nat.ble (og+1) f with
  | false=>rw [hf] at hb;cases hb
  | true=>
   rw [hf] at hb;cases hb;rw [CV hf] at hx;subst hx;obtain rfl:v = .nilIface:=hy;exact ⟨cR (by simp) (by simp),cR (by simp) (by simp),pg (FC fun d=>by simp [Go.Op.equalIn,bn hd]) rfl rfl⟩
 ·obtain ⟨p1,p2,p3,rfl⟩:=uW
  cases hb;obtain rfl:u=yc none:=hx;obtain rfl:v = .nilFunc:=hy;exact ⟨cR (by simp [yc]) (by simp [yc]),cR (by simp [yc]) (by simp [yc]),pg (FC fun d=>by simp [Go.Op.equalIn,bn hd,yc]) rfl rfl⟩
 ·obtain ⟨p1,p2,p3,rfl⟩:=uW
  rename_i f _;have hx:u=yc (some f):=hx
  cases hf:Nat.ble og f with
  | true=>rw [hf] at hb;cases hb
  | false=>
   rw [hf] at hb;cases hb;rw [o9 hf] at hx;subst hx;obtain rfl:v = .nilFunc:=hy;exact ⟨cR (by simp) (by simp),cR (by simp) (by simp),pg (FC fun d=>by simp [Go.Op.equalIn,bn hd]) rfl rfl⟩
 ·obtain ⟨p1,p2,p3,rfl⟩:=uW
  split at hb
  ·rename_i ho
   cases hb;obtain ⟨us,h1,_⟩:=IP hs ho;have e:u=_:=hx.2.trans h1;unfold MX at e;subst e;obtain rfl:v = .nilFunc:=hy;exact ⟨cR (by simp) (by simp),cR (by simp) (by simp),pg (FC fun d=>by simp [Go.Op.equalIn,bn hd]) rfl rfl⟩
  ·cases hb
 ·obtain ⟨p1,p2,rfl⟩:=uW
  cases hb;obtain rfl:u = .map none:=hx;obtain rfl:v = .map none:=hy;exact ⟨cR (by simp) (by simp),cR (by simp) (by simp),pg (FC fun d=>by simp [Go.Op.equalIn,bn hd]) rfl rfl⟩
 ·obtain ⟨p1,p2,rfl⟩:=uW
  split at hb
  ·rename_i ho
   cases hb;obtain ⟨b,es,h1,_⟩:=hs.aj _ _ ho;have e:u=_:=hx.2.trans h1;subst e;obtain rfl:v = .map none:=hy;exact ⟨cR (by simp) (by simp),cR (by simp) (by simp),pg (FC fun d=>by simp [Go.Op.equalIn,bn hd]) rfl rfl⟩
  ·cases hb
theorem HJ (hs:cK X.K w0 nt S β fp a w) (hd:slot dst nt) {x:Operand} (h:ev X ⟨dst,.nilCheck x,ty,pos,dG,gd⟩ S k=some r):Goal P X w0 nt k r Q ⟨dst,.nilCheck x,ty,pos,dG,gd⟩ a w:=by
 have key:∀ l,eu S x=some (.one l)→(∃ p,a.eval x = .pointer (some p))→k (S.put dst (.one l))=some r→Goal P X w0 nt k r Q ⟨dst,.nilCheck x,ty,pos,dG,gd⟩ a w:=by
  intro l hv ⟨p,hp⟩ hk;refine bu (v:=a.eval x) ?_ (bw hs hd (bV hs hv) hk);simp [execOp,hp]
 simp only [ev] at h;split at h
 ·rename_i id off hv
  obtain ⟨b,_,e⟩:=fG (bV hs hv);exact key _ hv ⟨_,e⟩ h
 ·rename_i t e off hv
  obtain ⟨b,_,e,_⟩:=fG (bV hs hv);exact key _ hv ⟨_,e⟩ h
 ·rename_i id p i off hv
  have:=fG (bV hs hv);refine key _ hv ?_ h
  cases p with
  | nil=>exact this.1
  | cons s p=>exact this.1
 ·rename_i v _ _ _ hv
  obtain ⟨hl,h⟩:=az h;refine bu (v:=a.eval x) ?_ (bw hs hd (bV hs hv) h);have hv':=bV hs hv
  rcases Ux hs hl hv' with ⟨f,us,vs,e⟩ | ⟨t,u,e⟩<;>simp [execOp,e]
 ·cases h
theorem LV (hs:cK X.K w0 nt S β fp a w) (hd:slot dst nt) {x:Operand} {i:Nat} (h:ev X ⟨dst,.extract x i,ty,pos,dG,gd⟩ S k=some r):Goal P X w0 nt k r Q ⟨dst,.extract x i,ty,pos,dG,gd⟩ a w:=by
 simp only [ev] at h;split at h
 ·rename_i vs hv
  obtain ⟨us,he,hl,hok⟩:=bV hs hv
  have key:∀ y,vs[i]?=some y→(execOp a.eval ⟨dst,.extract x i,ty,pos,dG,gd⟩).run P w = .ok (.value (us.getD i undef)) w:=by
   intro y hy
   have hi:i<us.length:=by
    rw [hl]
    rcases Nat.lt_or_ge i vs.length with h | h
    ·exact h
    ·simp [List.getElem?_eq_none h] at hy
   simp [execOp,he,Instr.extract,hi,List.getD,List.getElem?_eq_getElem hi]
  split at h
  ·rename_i l hy
   obtain ⟨l',e,hl'⟩:=hok i _ hy;cases e;exact bu (key _ hy) (bw hs hd (v:=.one l) hl' h)
  ·rename_i ls hy
   obtain ⟨vs',e,hl'⟩:=hok i _ hy;exact bu (key _ hy) (bw hs hd (v:=.agg ls) ⟨vs',e,hl'⟩ h)
  ·cases h
 ·cases h
theorem eQ {α:Type} {b:Bool} {x:Option α} {y:α} (h:cond b none x=some y):b=false∧x=some y:=by
 cases b with
 | true=>cases h
 | false=>exact ⟨rfl,h⟩
theorem ee {α:Type} {xs:List α} {n:Nat} {x:α} (h:xs[n]?=some x):n<xs.length:=by
 rcases Nat.lt_or_ge n xs.length with h' | h'
 ·exact h'
 ·simp [List.getElem?_eq_none h'] at h
theorem iw {n s j i:Nat} (hj:j<n) (hi:i<s):j*s+i<n*s:=by
 calc j*s+i<j*s+s:=by omega
  _=(j+1)*s:=by rw [Nat.succ_mul]
  _≤n*s:=Nat.mul_le_mul_right _ hj
theorem elt_ok {aj:cm C} {b8:Nat→Prop} {t:Ty} {xs:List (C t)} {v:Value} (h:gU X.K w b8 (.row t xs) v) {n:Nat} {x:C t} (hx:xs[n]?=some x) :
  ∃ p c,v = .slice (some p) xs.length c∧cI X.K w aj β fp b8 (.eS t x 0) (.pointer (some (p.add (n*X.K.sz t)))):=by
 cases h with
 | row _ _ A c p U hc hA hcell nJ=>
  have hn:=ee hx
  have hne:xs≠[]:=by intro e;subst e;simp at hn
  obtain ⟨rfl,hb⟩:=hA hne;refine ⟨p,c,rfl,p.add (n*X.K.sz t),fun i=>U (n*X.K.sz t+i),?_,?_,fun i hi=>?_,fun i l hl=>?_⟩
  ·rw [add_add];simp
  ·rw [m8];exact hb
  ·rw [add_add];exact hcell hne _ (iw hn hi)
  ·exact nJ n hn i l (by
    have:xs[n]=x:=by simpa [List.getElem?_eq_getElem hn] using hx
    rw [this];exact hl)
theorem xU {t e:TypeId} {sz:Nat} (hu:P.underlying t=some (.slice e)) (hz:(sizeOf e).run P w = .ok sz w) {p:Addr} {len c:Nat} {ki:IntKind} {n:Int} (h0:0≤n) (h1:n<(len:Int)) :
  (Instr.indexAt t (.slice (some p) len c) (.int ki n)).run P w = .ok (.pointer (some (p.add (n.toNat*sz)))) w:=by
 simp [Instr.indexAt,asIntOf,bn hu,h0,h1,hz]
theorem mR {α:Type} {K:Cd C} {F:Nat→Prop} {p:List (Nat×Nat)} {t:Ty} {xs:List (C t)} {v:Value} {t':Ty} {zs:List (C t')} {v':Value} (hp:ow K w F t xs v p t' zs v') {k:(t:Ty)→List (C t)→Option α} {r:α} (h:path K p t xs k=some r):k t' zs=some r:=by
 induction hp with
 | nil=>exact h
 | cons t xs v i o x t1 ys a n c v1 p t' zs v' hx hl hv hF hc _ ih=>
  simp only [path,hx,Option.bind_some,hl] at h;exact ih h
theorem TZ {K:Cd C} {F:Nat→Prop} {t:Ty} {xs:List (C t)} {A:Option Addr} {c lo hi:Nat} (h:gU K w F (.row t xs) (.slice A xs.length c)) (h1:lo≤hi) (h2:hi≤xs.length) :
  gU K w F (.row t ((xs.take hi).drop lo)) (.slice (if c=lo then A else A.map (·.add (lo*K.sz t))) (hi-lo) (c-lo)):=by
 generalize hv:Value.slice A xs.length c=v at h
 cases h with
 | row _ _ A' c' p U hc hA hcell nJ=>
  cases hv
  have hlen:((xs.take hi).drop lo).length=hi-lo:=by simp;omega
  rw [←hlen];refine .row t _ _ _ (p.add (lo*K.sz t)) (fun m=>U (lo*K.sz t+m)) (by rw [hlen];omega) (fun hne=>?_) (fun hne m hm=>?_) (fun j hj i lf hlf=>?_)
  ·have h5:0<((xs.take hi).drop lo).length:=List.length_pos_iff.2 hne
   have hne':xs≠[]:=by intro e;subst e;simp at h5
   obtain ⟨rfl,hb⟩:=hA hne';rw [if_neg (by omega)];exact ⟨rfl,by rw [m8];exact hb⟩
  ·have h5:0<((xs.take hi).drop lo).length:=List.length_pos_iff.2 hne
   have hne':xs≠[]:=by intro e;subst e;simp at h5
   rw [add_add];refine hcell hne' _ ?_;rw [hlen] at hm;have:(lo+(hi-lo))*K.sz t≤xs.length*K.sz t:=Nat.mul_le_mul_right _ (by omega);rw [Nat.add_mul] at this;omega
  ·rw [hlen] at hj
   have iK:lo+j<xs.length:=by omega
   have:=nJ (lo+j) iK i lf (by
    have e:((xs.take hi).drop lo)[j]'(by rw [hlen];exact hj)=xs[lo+j]:=by simp
    rw [←e];exact hlf)
   rw [Nat.add_mul,Nat.add_assoc] at this;exact this
theorem Cn {K:Cd C} {base:Nat} {aj:cm C} {b8 F:Nat→Prop} {t:Ty} {xs:List (C t)} {sh:Bool} {v:Value} (h:lj K w base aj β fp b8 F (.row t xs sh) v):∃ F,gU K w F (.row t xs) v:=by
 cases sh with
 | false=>exact ⟨_,Own.rep h⟩
 | true=>
  obtain ⟨cells,h1,h2,h3⟩:=h
  by_cases hx:xs=[]
  ·subst hx
   obtain ⟨A,c,e,_⟩:=gq h1;rw [e];exact ⟨fun _=>False,.row t [] A c default (fun _=>undef) (Nat.zero_le _) (fun h=>absurd rfl h) (fun h=>absurd rfl h) (fun j hj=>absurd hj (by simp))⟩
  ·obtain ⟨g,cap,e,hb,hn,hcell⟩:=kJ h1 (Nat.mul_pos (List.length_pos_iff.2 hx) (K.pos t))
   rw [e];refine ⟨fun _=>True,.row t xs _ cap ⟨g,0,none⟩ (fun m=>cells.getD m undef) hn (fun _=>⟨rfl,trivial⟩) (fun _=>hcell) fun j hj i l hl=>?_⟩
   exact (h3 j xs[j] (by simp [hj]) i l hl).mono fun k hk=>trivial
theorem rK {K:Cd C} {F:Nat→Prop} {t:Ty} {xs:List (C t)} {lo hi:Nat} {v u:Value} (h:gU K w F (.row t xs) v) (hs:Yi K t xs.length v lo hi u):gU K w F (.row t ((xs.take hi).drop lo)) u:=by
 obtain ⟨h1,h2,A,c,B,rfl,hc,rfl,hB⟩:=hs
 rcases Nat.lt_or_ge lo hi with hl | hl
 ·have:=TZ h h1 h2
  rw [if_neg (by omega)] at this;rw [hB hl];exact this
 ·have e:(xs.take hi).drop lo=[]:=List.drop_eq_nil_of_le (by simp;omega)
  have e2:hi-lo=([]:List (C t)).length:=by simp;omega
  rw [e,e2];exact .row t [] B _ default (fun _=>undef) (by simp) (fun h=>absurd rfl h) (fun h=>absurd rfl h) (fun j hj=>absurd hj (by simp))
theorem DW (hs:cK X.K w0 nt S β fp a w) {l:Lf C} {v:Value} (hv:cI X.K w S.aj β fp (aH S.aj fp w) l v) {α:Type} {k':(t:Ty)→List (C t)→Option α} {q:α} (h:oC S X l k'=some q) :
  ∃ (t:Ty) (xs:List (C t)) (A:Option Addr) (c:Nat),k' t xs=some q∧v = .slice A xs.length c∧(0<xs.length→∃ g,A=some g):=by
 cases l with
 | row t xs=>
  obtain ⟨A,c,e,hA⟩:=gU.head hv;exact ⟨t,xs,A,c,h,e,hA⟩
 | nil t=>exact ⟨t,[],none,0,h,hv,fun h=>absurd h (by simp)⟩
 | ref id p=>
  simp only [oC] at h;split at h
  ·rename_i t xs sh ho
   have fW:=hs.aj id _ ho
   cases p with
   | nil=>
    obtain ⟨A,c,e,hA⟩:=Cq fW;exact ⟨t,xs,A,c,h,hv.2.trans e,fun h=>(hA h).elim fun g hg=>⟨_,hg⟩⟩
   | cons s p=>
    obtain ⟨hsh,t',zs,hp⟩:=hv.2 t xs sh ho;subst hsh;obtain ⟨G,_,hO⟩:=rV hp _ fW;obtain ⟨A,c,e,hA⟩:=hO.head;exact ⟨t',zs,A,c,mR hp h,e,fun h=>(hA h).elim fun g hg=>⟨_,hg⟩⟩
  ·cases h
 | sub id lo hi=>
  simp only [oC] at h;split at h
  ·rename_i t xs sh ho
   obtain ⟨F,hr⟩:=Cn (hs.aj id _ ho);obtain ⟨A,c,e,hA⟩:=(rK hr (hv.2 t xs sh ho)).head;exact ⟨t,_,A,c,h,e,hA⟩
  ·cases h
 | _=>simp [oC] at h
theorem Jj (hs:cK X.K w0 nt S β fp a w) {l:Lf C} {v:Value} (hv:cI X.K w S.aj β fp (aH S.aj fp w) l v) {α:Type} {k':(t:Ty)→List (C t)→Option α} {q:α} (h:oC S X l k'=some q) :
  ∃ (t:Ty) (xs:List (C t)) (F:Nat→Prop),k' t xs=some q∧gU X.K w F (.row t xs) v:=by
 cases l with
 | row t xs=>exact ⟨t,xs,_,h,hv⟩
 | nil t=>
  have e:v = .slice none 0 0:=hv;subst e;exact ⟨t,[],fun _=>False,h,.row t [] none 0 default (fun _=>undef) (Nat.le_refl _) (fun h=>absurd rfl h) (fun h=>absurd rfl h) (fun j hj=>absurd hj (by simp))⟩
 | ref id p=>
  simp only [oC] at h;split at h
  ·rename_i t xs sh ho
   have fW:=hs.aj id _ ho
   cases p with
   | nil=>
    have e:v=β id:=hv.2;subst e
    cases sh with
    | false=>exact ⟨t,xs,_,h,Own.rep fW⟩
    | true=>
     obtain ⟨cells,h1,h2,h3⟩:=fW
     by_cases hx:xs=[]
     ·subst hx
      obtain ⟨A,c,e,_⟩:=gq h1;rw [e];exact ⟨t,[],fun _=>False,h,.row t [] A c default (fun _=>undef) (Nat.zero_le _) (fun h=>absurd rfl h) (fun h=>absurd rfl h) (fun j hj=>absurd hj (by simp))⟩
     ·obtain ⟨g,cap,e,hb,hn,hcell⟩:=kJ h1 (Nat.mul_pos (List.length_pos_iff.2 hx) (X.K.pos t))
      rw [e];refine ⟨t,xs,fun _=>True,h,.row t xs _ cap ⟨g,0,none⟩ (fun m=>cells.getD m undef) hn (fun _=>⟨rfl,trivial⟩) (fun _=>hcell) fun j hj i l hl=>?_⟩
      exact (h3 j xs[j] (by simp [hj]) i l hl).mono fun k hk=>trivial
   | cons s p=>
    obtain ⟨hsh,t',zs,hp⟩:=hv.2 t xs sh ho;subst hsh;obtain ⟨G,_,hO⟩:=rV hp _ fW;exact ⟨t',zs,G,mR hp h,hO.rep⟩
  ·cases h
 | sub id lo hi=>
  simp only [oC] at h;split at h
  ·rename_i t xs sh ho
   obtain ⟨F,hr⟩:=Cn (hs.aj id _ ho);exact ⟨t,_,F,h,rK hr (hv.2 t xs sh ho)⟩
  ·cases h
 | _=>simp [oC] at h
theorem HM {T e:TypeId} (hu:P.underlying T=some (.slice e)) (A:Option Addr) (n c:Nat):(Go.Op.equal T (.slice A n c) (.slice none 0 0)).run P w = .ok A.isNone w:=by
 have:∀ d,(Go.Op.equalIn (d+1) T (.slice A n c) (.slice none 0 0)).run P w = .ok A.isNone w:=fun d=>by
  cases A<;>simp [Go.Op.equalIn,bn hu]
 exact this 9999
theorem Ul {α:Type} {e b:Bool} {f:Bool→Option α} {q:α} (h:Pk e (f true) (f false)=some q) (hb:b=true→e=true):f b=some q:=by
 unfold Pk at h
 cases e with
 | false=>
  have:b=false:=by cases b with
   | false=>rfl
   | true=>cases hb rfl
  subst this;exact h
 | true=>
  simp only [cond_true,Db] at h
  cases h1:f true with
  | none=>rw [h1] at h;cases h
  | some x=>
   cases h2:f false with
   | none=>rw [h1,h2] at h;cases h
   | some y=>
    rw [h1,h2] at h;simp only [Option.bind_some] at h;split at h
    ·rename_i e
     cases h
     cases b with
     | true=>exact h1
     | false=>rw [h2,e]
    ·cases h
theorem Zd (hX:jk P X) (hs:cK X.K w0 nt S β fp a w) {T:TypeId} {op:BinOp} {x:SV C} {u:Value} {α:Type} {f:SV C→Option α} {q:α} {xo yo:Operand}
  (h:xI (X.tk T) X S op x f=some q) (hx:dq X.K w S.aj β fp (aH S.aj fp w) x u) :
  ∃ b,(do eqGuard op T xo yo u (.slice none 0 0);binOp op T u (.slice none 0 0):Sem Value).run P w = .ok (.bool b) w∧f (.one (.bool b))=some q:=by
 have run:∀ (A:Option Addr) (n c:Nat) (t:Ty),X.tk T=some (.one (.er t))→u = .slice A n c→∀ eq:Bool,op=(if eq then .eql else .neq) →
   (do eqGuard op T xo yo u (.slice none 0 0);binOp op T u (.slice none 0 0):Sem Value).run P w = .ok (.bool (eq==A.isNone)) w:=by
  intro A n c t ht hu eq ho;subst hu;have hg:(eqGuard op T xo yo (.slice A n c) (.slice none 0 0)).run P w = .ok () w:=cR (by simp) (by simp);simp only [Sem.run_bind,hg,Result.andThen_ok];have:=HM (P:=P) (w:=w) (hX.tk _ _ ht).er A n c;subst ho;cases eq<;>simp [binOp,this]<;>cases A<;>rfl
 have er:∀ (eq:Bool) (l:Lf C) (t:Ty),X.tk T=some (.one (.er t))→cI X.K w S.aj β fp (aH S.aj fp w) l u→op=(if eq then .eql else .neq) →
   (oC S X l fun _ xs=>Pk xs.isEmpty (f (.one (.bool (eq==true)))) (f (.one (.bool (eq==false)))))=some q →
   ∃ b,(do eqGuard op T xo yo u (.slice none 0 0);binOp op T u (.slice none 0 0):Sem Value).run P w = .ok (.bool b) w∧f (.one (.bool b))=some q:=by
  intro eq l t ht hl ho h;obtain ⟨t',xs,A,c,h,hv,hA⟩:=DW hs hl h;refine ⟨eq==A.isNone,run A _ c t ht hv eq ho,?_⟩;refine Ul (f:=fun b=>f (.one (.bool (eq==b)))) h (fun hn=>?_)
  cases xs with
  | nil=>rfl
  | cons y ys=>
   obtain ⟨g,hg⟩:=hA (by simp);rw [hg] at hn;cases hn
 unfold xI at h;split at h
 ·rename_i t t' ht
  have hu:u = .slice none 0 0:=hx;split at h
  ·exact ⟨_,run none 0 0 _ ht hu true rfl,h⟩
  ·exact ⟨_,run none 0 0 _ ht hu false rfl,h⟩
  ·cases h
 ·rename_i t l hne ht
  split at h
  ·exact er true l t ht hx rfl h
  ·exact er false l t ht hx rfl h
  ·cases h
 ·cases h
theorem HE {K:Cd C} {F:Nat→Prop} {t:Ty} {xs:List (C t)} {v:Value} {src dst':TypeId} (hb:K.byte t=true) (h:gU K w F (.row t xs) v)
  (hu:P.underlying src=some (.slice (K.tid t))) (hue:P.underlying (K.tid t)=some (.int .u8)) (DA:P.underlying dst'=some .string) :
  (convert src dst' v).run P w = .ok (.string (strOf K t xs)) w:=by
 have hsz:K.sz t=1:=by
  have z:=K.zero t;obtain ⟨n,hn⟩:=K.sI t hb z;rw [←K.gH t z,hn];rfl
 cases h with
 | row _ _ A c p U hc hA hcell nJ=>
  rw [run_convert_bytes_string (e:=K.tid t) w src dst' A _ c hu hue DA]
  by_cases hx:xs=[]
  ·subst hx
   cases A with
   | none=>simp [Conv.bytesToString,strOf];rfl
   | some q=>
    have hl:(loadCells q ([]:List (C t)).length).run P w = .ok ((([]:List Int)).map (Value.int .u8)).toArray w:=by simp [loadCells,loadCellsFrom]
    rw [run_bytesToString w q _ c [] hl];rfl
  ·obtain ⟨e,_⟩:=hA hx
   subst e
   let nOf:List (Lf C)→Int:=fun ls=>match ls with
    | .int _ n::_=>n
    | _=>0
   have hU:∀ j,(hj:j<xs.length)→U j = .int .u8 (nOf (K.enc t xs[j])):=fun j hj=>by
    obtain ⟨n,hn⟩:=K.sI t hb xs[j];have:=nJ j hj 0 (.int .u8 n) (by rw [hn];rfl);rw [hsz] at this;simp only [Nat.mul_one,Nat.add_zero] at this;rw [hn];generalize U j=z at this;cases this;rfl
   have hl:(loadCells p xs.length).run P w = .ok ((xs.map fun x=>nOf (K.enc t x)).map (Value.int .u8)).toArray w:=by
    rw [run_loadCells w p xs.length U (fun j hj=>hcell hx j (by rw [hsz];omega))]
    congr 2
    apply List.ext_getElem
    ·simp
    ·intro j h1 h2
     have hj:j<xs.length:=by simpa using h1
     simp [hU j hj]
   rw [run_bytesToString w p _ c _ hl]
   congr 2
   have fold:∀ (ns:List Int) (acc:ByteArray),(ns.foldl (fun r n=>r.push (UInt8.ofNat n.toNat)) acc)=⟨acc.data++(ns.map fun n=>UInt8.ofNat n.toNat).toArray⟩:=by
    intro ns
    induction ns with
    | nil=>intro acc;simp
    | cons n ns ih=>
     intro acc;rw [List.foldl_cons,ih];simp [ByteArray.push]
   rw [fold];show _=strOf K t xs;unfold strOf
   congr 1
   simp only [List.map_map]
   have:(xs.map ((fun n=>UInt8.ofNat n.toNat) ∘ fun x=>nOf (K.enc t x)))=xs.map fun x=>byteOf (K.enc t x):=by
    apply List.map_congr_left;intro x _;obtain ⟨n,hn⟩:=K.sI t hb x;simp [hn,byteOf,nOf]
   rw [this];simp
theorem LW (hX:jk P X) (hs:cK X.K w0 nt S β fp a w) (hd:slot dst nt) {t t':TypeId} {x:Operand} (h:ev X ⟨dst,.convert t t' x,ty,pos,dG,gd⟩ S k=some r):Goal P X w0 nt k r Q ⟨dst,.convert t t' x,ty,pos,dG,gd⟩ a w:=by
 simp only [ev] at h;split at h
 ·rename_i k1 k' k0 n h1 h2 hv
  have hv:=bV hs hv;simp only [dq,cI] at hv;obtain ⟨ds,hds⟩:=(hX.tk _ _ h1).under;refine bu (v:=.int k' (k'.wrap n)) ?_ (bw hs hd (v:=.one (.int k' (k'.wrap n))) rfl h);simp only [execOp,hv,Sem.run_bind,FR hds (hX.tk _ _ h2).int,Result.andThen_ok,Sem.run_pure]
 ·rename_i k1 s h1 h2 hv
  have hv:=bV hs hv;simp only [dq,cI] at hv;obtain ⟨ds,hds⟩:=(hX.tk _ _ h1).under;refine bu (v:=.string s) ?_ (bw hs hd (v:=.one (.str s)) rfl h);simp only [execOp,hv,Sem.run_bind,FQ hds (hX.tk _ _ h2).str,Result.andThen_ok,Sem.run_pure]
 ·rename_i t1 l h1 h2 hv
  obtain ⟨t0,xs,F,h,nJ⟩:=Jj hs (fG (bV hs hv)) h;obtain ⟨he,h⟩:=az h;have he:=of_decide_eq_true he;subst he;obtain ⟨hb,h⟩:=az h;split at h
  ·rename_i htk
   refine bu (v:=.string (strOf X.K t0 xs)) ?_ (bw hs hd (v:=.one (.str (strOf X.K t0 xs))) rfl h);have hu:=(hX.tk _ _ h1).er;have hue:=(hX.tk _ _ htk).int;have DA:=(hX.tk _ _ h2).str;simp only [execOp,Sem.run_bind];rw [HE hb nJ hu hue DA];rfl
  ·cases h
 ·cases h
theorem TU (hX:jk P X) (hs:cK X.K w0 nt S β fp a w) (hd:slot dst nt) {op:BinOp} {t t':TypeId} {x y:Operand} (h:ev X ⟨dst,.binOp op t x y t',ty,pos,dG,gd⟩ S k=some r):Goal P X w0 nt k r Q ⟨dst,.binOp op t x y t',ty,pos,dG,gd⟩ a w:=by
 simp only [ev] at h;split at h
 ·rename_i u t1 hu hv
  have hx:=dH hs hu;have hy:a.eval y = .slice none 0 0:=dH hs hv;obtain ⟨b,hb,hk⟩:=Zd (P:=P) hX hs h hx;refine bu (v:=.bool b) ?_ (bw hs hd (v:=.one (.bool b)) rfl hk);simp only [execOp];rw [hy,Sem.run_bind,hb];rfl
 ·rename_i u v _ hu hv
  cases hnk:CI v with
  | true=>
   rw [hnk] at h;simp only [cond_true,px] at h;split at h
   case h_2=>cases h
   rename_i x' y';split at h
   case h_3=>cases h
   ·rename_i b hb hc
    obtain ⟨q1,q2,q3,q4⟩:=JP (P:=P) hX hs hb (dH hs hu) (dH hs hv) (xo:=x) (yo:=y) hc;refine bu (v:=.bool b) ?_ (bw hs hd (v:=.one (.bool b)) rfl h);simp only [execOp];rw [Sem.run_bind,Sem.run_bind,q1];simp only [Result.andThen_ok,q3];rfl
   ·rename_i b hb hc
    obtain ⟨q1,q2,q3,q4⟩:=JP (P:=P) hX hs hb (dH hs hu) (dH hs hv) (xo:=x) (yo:=y) hc;refine bu (v:=.bool (!b)) ?_ (bw hs hd (v:=.one (.bool (!b))) rfl h);simp only [execOp];rw [Sem.run_bind,Sem.run_bind,q2];simp only [Result.andThen_ok,q4];rfl
  | false=>
  rw [hnk] at h;simp only [cond_false] at h;obtain ⟨z,q,hr,hz,hk⟩:=bin_ok (P:=P) (xo:=x) (yo:=y) (fun k hk=>hX.tk _ _ hk) (fun ks hk=>hX.U2 _ _ hk) h (dH hs hu) (dH hs hv);refine bu (v:=q) ?_ (bw hs hd hz hk);simp only [execOp];rw [Sem.run_bind,hr];rfl
 ·cases h
theorem D4 (hX:jk P X) (hs:cK X.K w0 nt S β fp a w) (hd:slot dst nt) {t:TypeId} {x y:Operand} (h:ev X ⟨dst,.indexAddr t x y,ty,pos,dG,gd⟩ S k=some r):Goal P X w0 nt k r Q ⟨dst,.indexAddr t x y,ty,pos,dG,gd⟩ a w:=by
 simp only [ev] at h;split at h
 ·rename_i t1 t0 xs ki n ht hx hy
  obtain ⟨e,hA⟩:=az h;obtain ⟨h0,hB⟩:=az hA;clear h hA;have e:=of_decide_eq_true e;have h0:=of_decide_eq_true h0;subst e;have h:=hB;clear hB
  cases he:xs[n.toNat]? with
  | none=>rw [he] at h;cases h
  | some e=>
   rw [he] at h;simp only [Option.bind_some] at h;have hn:=ee he;have hy:=bV hs hy;simp only [dq,cI] at hy;obtain ⟨p,c,hv,hok⟩:=elt_ok (aj:=S.aj) (β:=β) (fp:=fp) (fG (bV hs hx)) he;refine bu (v:=.pointer (some (p.add (n.toNat*X.K.sz t0)))) ?_ (bw hs hd (v:=.one (.eS t0 e 0)) hok h);simp only [execOp,hv,hy,Sem.run_bind,xU (hX.tk _ _ ht).er (hX.el t0).size h0 (show n<(xs.length:Int) by omega),Result.andThen_ok,Sem.run_pure]
 ·rename_i t1 id p ki n ht hx hy
  obtain ⟨h0,h⟩:=az h;have h0:=of_decide_eq_true h0;have hy:=bV hs hy;simp only [dq,cI] at hy;have hx:=fG (bV hs hx)
  have run:∀ (zs:Nat) (A:Option Addr) (c:Nat),a.eval x = .slice A zs c→n<(zs:Int)→∀ g,A=some g →
    (execOp a.eval ⟨dst,.indexAddr t x y,ty,pos,dG,gd⟩).run P w = .ok (.value (.pointer (some (g.add (n.toNat*X.K.sz t1))))) w:=by
   intro zs A c hv hn g hg;subst hg;simp only [execOp,hv,hy,Sem.run_bind,xU (hX.tk _ _ ht).er (hX.el t1).size h0 hn,Result.andThen_ok,Sem.run_pure]
  simp only [oC] at h;split at h
  ·rename_i t xs sh ho
   have fW:=hs.aj id _ ho
   cases p with
   | nil=>
    obtain ⟨e,hC⟩:=az (show cond (decide (t=t1)) (cond (decide (n<(xs.length:Int))) (k (S.put dst (.one (.ep id [] n.toNat 0)))) none) none=some r from h);obtain ⟨h1,hB⟩:=az hC;clear h hC;have e:=of_decide_eq_true e;have h1:=of_decide_eq_true h1;subst e;have h:=hB;clear hB;obtain ⟨A,c,he,hA⟩:=Cq fW;obtain ⟨g,rfl⟩:=hA (by omega);refine bu (run _ _ c (hx.2.trans he) h1 _ rfl) (bw hs hd (v:=.one (.ep id [] n.toNat 0)) ⟨⟨_,rfl⟩,fun t' xs' sh' gW=>?_⟩ h);rw [ho] at gW;cases gW;exact ⟨by omega,_,_,c,he,by simp⟩
   | cons s p=>
    obtain ⟨hsh,t',zs,hp⟩:=hx.2 t xs sh ho;subst hsh;obtain ⟨e,hC⟩:=az (mR hp h);obtain ⟨h1,hB⟩:=az hC;clear h hC;have e:=of_decide_eq_true e;have h1:=of_decide_eq_true h1;subst e;have h:=hB;clear hB;obtain ⟨G,_,hO⟩:=rV hp _ fW;obtain ⟨A,c,he,hA⟩:=hO.head;obtain ⟨g,rfl⟩:=hA (by omega);refine bu (run _ _ c he h1 _ rfl) (bw hs hd (v:=.one (.ep id (s::p) n.toNat 0)) ⟨⟨_,rfl⟩,fun t0 xs' sh' gW=>?_⟩ h);rw [ho] at gW;cases gW;exact ⟨rfl,t',zs,_,hp,by omega,_,_,c,he,by simp⟩
  ·cases h
 ·rename_i t1 id lo hi ki n ht hx hy
  unfold Og at h;split at h
  case h_2=>cases h
  rename_i t0 xs sh ho;obtain ⟨e,hA⟩:=az h;obtain ⟨h0,hB⟩:=az hA;obtain ⟨h1,hC⟩:=az hB;clear h hA hB;have e:=of_decide_eq_true e;have h0:=of_decide_eq_true h0;have h1:=of_decide_eq_true h1;subst e;have h:=hC;clear hC;have hy:=bV hs hy;simp only [dq,cI] at hy;have hx:cI X.K w S.aj β fp (aH S.aj fp w) (.sub id lo hi) (a.eval x):=fG (bV hs hx);obtain ⟨q1,q2,A,c,B,q3,q4,q5,q6⟩:=hx.2 t0 xs sh ho;obtain ⟨A',c',e',hA'⟩:=Cq (hs.aj id _ ho);rw [q3] at e';cases e';obtain ⟨g,rfl⟩:=hA' (by omega);rw [q6 (by omega)] at q5;refine bu (v:=.pointer (some ((Addr.add ⟨g,0,none⟩ (lo*X.K.sz t0)).add (n.toNat*X.K.sz t0)))) ?_ (bw hs hd (v:=.one (.ep id [] (lo+n.toNat) 0)) ⟨⟨_,rfl⟩,fun t' xs' sh' gW=>?_⟩ h)
  ·simp only [execOp,q5,Option.map_some,hy,Sem.run_bind,xU (hX.tk _ _ ht).er (hX.el t0).size h0 h1,Result.andThen_ok,Sem.run_pure]
  ·rw [ho] at gW
   cases gW;refine ⟨by omega,_,_,c,q3,?_⟩;rw [add_add,Nat.add_zero,Nat.add_mul]
 ·cases h
theorem J1 {ls:List (Lf C)} {sz:Nat} {ag:Bool} {i:Int} {f:SV C→Option R} {r:R}:∀ (n j:Nat),zz ls sz ag i f n j=some r →
  ∃ m v,j≤m∧m<j+n∧i=(m:Int)∧f v=some r∧(match ag with | true=>v = .agg ((ls.drop (m*sz)).take sz) | false=>∃ l,ls[m*sz]?=some l∧v = .one l)
 | 0,j,h=>by simp [zz] at h
 | n+1,j,h=>by
  simp only [zz] at h
  cases hb:decide (i=(j:Int)) with
  | true=>
   rw [hb] at h;simp only [cond_true] at h;refine ⟨j,?_⟩
   cases ag with
   | true=>exact ⟨_,Nat.le_refl _,by omega,of_decide_eq_true hb,h,rfl⟩
   | false=>
    simp only at h;split at h
    ·rename_i l hl
     exact ⟨_,Nat.le_refl _,by omega,of_decide_eq_true hb,h,l,hl,rfl⟩
    ·cases h
  | false=>
   rw [hb] at h;obtain ⟨m,v,h1,h2,h3⟩:=J1 n (j+1) h;exact ⟨m,v,by omega,by omega,h3⟩
theorem TN (hX:jk P X) (hs:cK X.K w0 nt S β fp a w) (hd:slot dst nt) {t:TypeId} {x y:Operand} (h:ev X ⟨dst,.index t x y,ty,pos,dG,gd⟩ S k=some r):Goal P X w0 nt k r Q ⟨dst,.index t x y,ty,pos,dG,gd⟩ a w:=by
 simp only [ev] at h;split at h
 ·rename_i s ki n ht hx hy
  obtain ⟨h0,h⟩:=az h;obtain ⟨h1,h⟩:=az h;have h0:=of_decide_eq_true h0;have h1:=of_decide_eq_true h1;have hx:=bV hs hx;have hy:=bV hs hy;simp only [dq,cI] at hx hy
  have hb:n.toNat<s.size:=by omega
  have hg:s[n.toNat]?=some (s[n.toNat]'hb):=by simp [hb]
  refine bu (v:=.int .u8 (uF s n)) ?_ (bw hs hd (v:=.one (.int .u8 (uF s n))) rfl h);simp only [execOp,hx,hy,Instr.index,asIntOf,Sem.run_bind,Sem.run_pure,Result.andThen_ok,bn (hX.tk _ _ ht).str,if_pos h0,hg,uF]
 ·rename_i m sz ag zs ls ki n ht hx hy
  obtain ⟨q,v,_,hq,hn,hv,hag⟩:=J1 m 0 h;obtain ⟨vs,hvs,hlen,hok⟩:=bV hs hx;have hy:=bV hs hy;simp only [dq,cI] at hy;obtain ⟨_,hz,hp,e,ie,hu,he,hsz,d,hd1,hd2⟩:=hX.tk _ _ ht;subst hn
  have h0:(0:Int)≤(q:Int)∧(q:Int)<(m:Int):=by omega
  have hsize:(sizeOf e).run P w = .ok sz w:=by simp [sizeOf,typeInfo,he,hsz]
  cases ag with
  | true=>
   have Qc:(isAgg e).run P w = .ok true w:=by
    simp only [isAgg,Sem.run_bind,bn hd1,Result.andThen_ok];cases d<;>simp at hd2<;>rfl
   simp only at hag;subst hag;refine bu (v:=.agg ((vs.drop (q*sz)).take sz).toArray) ?_ (bw hs hd (v:=.agg ((ls.drop (q*sz)).take sz)) ⟨_,rfl,by simp [hlen],fun i l hi=>?_⟩ hv)
   ·simp [execOp,hvs,hy,Instr.index,asIntOf,bn hu,h0,part,Qc,hsize]
    intro hqq;omega
   ·rw [List.getElem?_take] at hi
    split at hi
    ·rename_i hlt
     rw [List.getElem?_drop] at hi;have:=hok (q*sz+i) l hi
     have e:((vs.drop (q*sz)).take sz).getD i undef=vs.getD (q*sz+i) undef:=by simp [List.getD,List.getElem?_take,hlt]
     rw [e];exact this
    ·cases hi
  | false=>
   have Qc:(isAgg e).run P w = .ok false w:=by
    simp only [isAgg,Sem.run_bind,bn hd1,Result.andThen_ok];cases d<;>simp at hd2<;>rfl
   obtain ⟨l,hl,rfl⟩:=hag
   have hlt:q*sz<vs.length:=by rw [hlen];exact ee hl
   refine bu (v:=vs.getD (q*sz) undef) ?_ (bw hs hd (v:=.one l) (hok (q*sz) l hl) hv);simp [execOp,hvs,hy,Instr.index,asIntOf,bn hu,h0,part,Qc,hsize,List.getD,hlt];intro hqq;omega
 ·cases h
theorem Q9 (hs:cK X.K w0 nt S β fp a w) {n:Nat} {x:Option Operand} {m:Int} (h:zB S n x=some m):(x=none∧m=n)∨∃ y ki,x=some y∧a.eval y = .int ki m:=by
 cases x with
 | none=>simp [zB] at h;exact .inl ⟨rfl,h.symm⟩
 | some y=>
  simp only [zB] at h;split at h
  ·rename_i ki q hq
   cases h;exact .inr ⟨y,ki,rfl,bV hs hq⟩
  ·cases h
theorem m4 (hs:cK X.K w0 nt S β fp a w) {isS:Bool} {len cap:Nat} {lo hi:Option Operand} {l h:Int} (hl:zB S 0 lo=some l) (hh:zB S len hi=some h) (h0:0≤l) (h1:l≤h) (h2:h≤(len:Int)) (hc:len≤cap) :
  (Instr.sliceBounds isS len cap (lo.map a.eval) (hi.map a.eval) none).run P w = .ok (l.toNat,h.toNat,cap) w:=by
 unfold Instr.sliceBounds
 rcases Q9 hs hl with ⟨rfl,rfl⟩ | ⟨y,ki,rfl,hy⟩<;>rcases Q9 hs hh with ⟨rfl,rfl⟩ | ⟨z,kj,rfl,hz⟩
 ·simp
 ·simp [hz,Instr.sliceBound,asIntOf,show 0≤h by omega,show h≤(cap:Int) by omega]
 ·simp [hy,Instr.sliceBound,asIntOf,h0,h1]
 ·have h3:l≤((h.toNat:Nat):Int):=by omega
  simp only [Option.map_some,hy,hz,Instr.sliceBound,asIntOf,Sem.run_bind,Sem.run_pure,Result.andThen_ok,if_pos (show 0≤h∧h≤(cap:Int) by omega),if_pos (show 0≤l∧l≤((h.toNat:Nat):Int) from ⟨h0,h3⟩)]
theorem TM (hX:jk P X) (hs:cK X.K w0 nt S β fp a w) (hd:slot dst nt) {t:TypeId} {x:Operand} {lo hi mx:Option Operand} (h:ev X ⟨dst,.slice t x lo hi mx,ty,pos,dG,gd⟩ S k=some r)
  (hO:∀ t1 id,mx=none→X.tk t=some (.one (.er t1))→eu S x=some (.one (.ref id []))→Cc X S ⟨dst,.slice t x lo hi mx,ty,pos,dG,gd⟩ t1 id lo hi k=some r→Goal P X w0 nt k r Q ⟨dst,.slice t x lo hi mx,ty,pos,dG,gd⟩ a w):Goal P X w0 nt k r Q ⟨dst,.slice t x lo hi mx,ty,pos,dG,gd⟩ a w:=by
 simp only [ev] at h;split at h
 ·rename_i s ht hx
  split at h
  ·rename_i l q hl hq
   obtain ⟨h0,h⟩:=az h;obtain ⟨h1,h⟩:=az h;obtain ⟨h2,h⟩:=az h;have h0:=of_decide_eq_true h0;have h1:=of_decide_eq_true h1;have h2:=of_decide_eq_true h2;have hx:=bV hs hx;simp only [dq,cI] at hx;have hb:=m4 (P:=P) hs (isS:=false) hl hq h0 h1 h2 (Nat.le_refl _);refine bu (v:=.string (s.extract l.toNat q.toNat)) ?_ (bw hs hd (v:=.one (.str (s.extract l.toNat q.toNat))) rfl h);simp only [execOp,Instr.sliceAt,Sem.run_bind,bn (hX.tk _ _ ht).str,Result.andThen_ok];simp [Instr.slice,bn (hX.tk _ _ ht).str,hx,hb]
  ·cases h
 ·rename_i t1 t0 xs ht hx
  split at h
  ·rename_i l q hl hq
   obtain ⟨e,hC⟩:=az h;obtain ⟨h0,hD⟩:=az hC;obtain ⟨h1,hE⟩:=az hD;obtain ⟨h2,hB⟩:=az hE;clear h hC hD hE;have e:=of_decide_eq_true e;have h0:=of_decide_eq_true h0;have h1:=of_decide_eq_true h1;have h2:=of_decide_eq_true h2;subst e;have h:=hB;clear hB;have hx:=fG (bV hs hx);generalize hv:a.eval x=v at hx
   cases hx with
   | row _ _ A c p U hc hA hcell nJ=>
    have hb:=m4 (P:=P) hs (isS:=true) hl hq h0 h1 h2 hc
    have hlen:((xs.take q.toNat).drop l.toNat).length=q.toNat-l.toNat:=by simp;omega
    have hrun:(execOp a.eval ⟨dst,.slice t x lo hi none,ty,pos,dG,gd⟩).run P w = .ok (.value (.slice (if c=l.toNat then A else A.map (·.add (l.toNat*X.K.sz t0))) (q.toNat-l.toNat) (c-l.toNat))) w:=by
     simp only [execOp,Instr.sliceAt,Sem.run_bind,bn (hX.tk _ _ ht).er,Result.andThen_ok];simp [Instr.slice,bn (hX.tk _ _ ht).er,hv,hb,(hX.el t0).size]
    refine bu hrun (bw hs hd (v:=.one (.row t0 ((xs.take q.toNat).drop l.toNat))) ?_ h);show gU X.K w (aH S.aj fp w) (.row t0 ((xs.take q.toNat).drop l.toNat)) (.slice (if c=l.toNat then A else A.map (·.add (l.toNat*X.K.sz t0))) (q.toNat-l.toNat) (c-l.toNat));rw [←hlen];refine .row t0 _ _ _ (p.add (l.toNat*X.K.sz t0)) (fun m=>U (l.toNat*X.K.sz t0+m)) (by rw [hlen];omega) (fun hne=>?_) (fun hne m hm=>?_) (fun j hj i lf hlf=>?_)
    ·have h5:0<((xs.take q.toNat).drop l.toNat).length:=List.length_pos_iff.2 hne
     have hne':xs≠[]:=by intro e;subst e;simp at h5
     obtain ⟨rfl,hb⟩:=hA hne';rw [if_neg (by omega)];exact ⟨rfl,by rw [m8];exact hb⟩
    ·have h5:0<((xs.take q.toNat).drop l.toNat).length:=List.length_pos_iff.2 hne
     have hne':xs≠[]:=by intro e;subst e;simp at h5
     rw [add_add];refine hcell hne' _ ?_;rw [hlen] at hm;have:(l.toNat+(q.toNat-l.toNat))*X.K.sz t0≤xs.length*X.K.sz t0:=Nat.mul_le_mul_right _ (by omega);rw [Nat.add_mul] at this;omega
    ·rw [hlen] at hj
     have iK:l.toNat+j<xs.length:=by omega
     have:=nJ (l.toNat+j) iK i lf (by
      have e:((xs.take q.toNat).drop l.toNat)[j]'(by rw [hlen];exact hj)=xs[l.toNat+j]:=by simp
      rw [←e];exact hlf)
     rw [Nat.add_mul,Nat.add_assoc] at this;exact this
  ·cases h
 ·rename_i t1 id ht hx
  cases hvw:CG X ⟨dst,.slice t x lo hi none,ty,pos,dG,gd⟩ with
  | false=>rw [hvw,cond_false] at h;exact hO t1 id rfl ht hx h
  | true=>
   rw [hvw,cond_true] at h;unfold Oe at h;split at h
   case h_2=>cases h
   rename_i t0 xs sh ho;split at h
   case h_2=>cases h
   rename_i l q hl hq;obtain ⟨e,hC⟩:=az h;obtain ⟨h0,hD⟩:=az hC;obtain ⟨h1,hE⟩:=az hD;obtain ⟨h2,hB⟩:=az hE;clear h hC hD hE;have e:=of_decide_eq_true e;have h0:=of_decide_eq_true h0;have h1:=of_decide_eq_true h1;have h2:=of_decide_eq_true h2;subst e;have h:=hB;clear hB;have hx:cI X.K w S.aj β fp (aH S.aj fp w) (.ref id []) (a.eval x):=fG (bV hs hx);have rD:a.eval x=β id:=hx.2;obtain ⟨F,hr⟩:=Cn (hs.aj id _ ho)
   obtain ⟨A,c,ME,hcl⟩:∃ A c,β id = .slice A xs.length c∧xs.length≤c:=by
    generalize β id=v at hr
    cases hr with
    | row _ _ A c p U hc=>exact ⟨A,c,rfl,hc⟩
   have hb:=m4 (P:=P) hs (isS:=true) hl hq h0 h1 h2 hcl
   have hrun:(execOp a.eval ⟨dst,.slice t x lo hi none,ty,pos,dG,gd⟩).run P w = .ok (.value (.slice (if c=l.toNat then A else A.map (·.add (l.toNat*X.K.sz t0))) (q.toNat-l.toNat) (c-l.toNat))) w:=by
    simp only [execOp,Instr.sliceAt,Sem.run_bind,bn (hX.tk _ _ ht).er,Result.andThen_ok];simp [Instr.slice,bn (hX.tk _ _ ht).er,rD,ME,hb,(hX.el t0).size]
   refine bu hrun (bw hs hd (v:=.one (.sub id l.toNat q.toNat)) ⟨⟨_,_,_,rfl⟩,fun t' xs' sh' gW=>?_⟩ h);rw [ho] at gW;cases gW;exact ⟨by omega,by omega,A,c,_,ME,hcl,rfl,fun hlt=>if_neg (by omega)⟩
 ·rename_i t1 id zm hi0 ht hx
  unfold Od at h;split at h
  case h_2=>cases h
  rename_i t0 xs sh ho;split at h
  case h_2=>cases h
  rename_i l q hl hq;obtain ⟨e,hC⟩:=az h;obtain ⟨h0,hD⟩:=az hC;obtain ⟨h1,hE⟩:=az hD;obtain ⟨h2,hB⟩:=az hE;clear h hC hD hE;have e:=of_decide_eq_true e;have h0:=of_decide_eq_true h0;have h1:=of_decide_eq_true h1;have h2:=of_decide_eq_true h2;subst e;have h:=hB;clear hB;have hx:cI X.K w S.aj β fp (aH S.aj fp w) (.sub id zm hi0) (a.eval x):=fG (bV hs hx);obtain ⟨g1,g2,A,c,B,ME,hcl,rD,hBe⟩:=hx.2 t0 xs sh ho;have hb:=m4 (P:=P) (len:=hi0-zm) (cap:=c-zm) hs (isS:=true) hl hq h0 h1 h2 (by omega)
  have hrun:(execOp a.eval ⟨dst,.slice t x lo hi none,ty,pos,dG,gd⟩).run P w = .ok (.value (.slice (if c-zm=l.toNat then B else B.map (·.add (l.toNat*X.K.sz t0))) (q.toNat-l.toNat) (c-zm-l.toNat))) w:=by
   simp only [execOp,Instr.sliceAt,Sem.run_bind,bn (hX.tk _ _ ht).er,Result.andThen_ok];simp [Instr.slice,bn (hX.tk _ _ ht).er,rD,hb,(hX.el t0).size]
  refine bu hrun (bw hs hd (v:=.one (.sub id (zm+l.toNat) (zm+q.toNat))) ⟨⟨_,_,_,rfl⟩,fun t' xs' sh' gW=>?_⟩ h);rw [ho] at gW;cases gW;refine ⟨by omega,by omega,A,c,(if c-zm=l.toNat then B else B.map (·.add (l.toNat*X.K.sz t0))),ME,hcl,?_,fun hlt=>?_⟩
  ·have e1:zm+q.toNat-(zm+l.toNat)=q.toNat-l.toNat:=by omega
   have e2:c-(zm+l.toNat)=c-zm-l.toNat:=by omega
   rw [e1,e2]
  ·rw [if_neg (by omega),hBe (by omega),Option.map_map]
   congr 1
   funext p
   simp only [Function.comp];rw [add_add,Nat.add_mul]
 ·cases h
theorem s_len (hX:jk P X) (hs:cK X.K w0 nt S β fp a w) (hd:slot dst nt) {as:Array Operand} {ts:Array TypeId} (h:ev X ⟨dst,.call { callee:=.builtin .len,args:=as,argTypes:=ts },ty,pos,dG,gd⟩ S k=some r):Goal P X w0 nt k r Q ⟨dst,.call { callee:=.builtin .len,args:=as,argTypes:=ts },ty,pos,dG,gd⟩ a w:=by
 obtain ⟨al⟩:=as;obtain ⟨tl⟩:=ts;simp only [ev] at h;split at h
 ·rename_i x t
  split at h
  ·rename_i s ht hx
   have hx:=bV hs hx;simp only [dq,cI] at hx;refine bu (v:=.int .i64 s.size) ?_ (bw hs hd (v:=.one (.int .i64 s.size)) rfl h);simp [execOp,resolve,invoke,builtin,Builtin.len_,bn (hX.tk _ _ ht).str,hx,goInt]
  ·rename_i t1 l ht hx
   obtain ⟨t',xs,A,c,hk,hv,_⟩:=DW hs (fG (bV hs hx)) h;refine bu (v:=.int .i64 xs.length) ?_ (bw hs hd (v:=.one (.int .i64 xs.length)) rfl hk);simp [execOp,resolve,invoke,builtin,Builtin.len_,bn (hX.tk _ _ ht).er,hv,goInt]
  ·cases h
 ·cases h
theorem s_min (hs:cK X.K w0 nt S β fp a w) (hd:slot dst nt) {as:Array Operand} {ts:Array TypeId} (h:ev X ⟨dst,.call { callee:=.builtin .min,args:=as,argTypes:=ts },ty,pos,dG,gd⟩ S k=some r):Goal P X w0 nt k r Q ⟨dst,.call { callee:=.builtin .min,args:=as,argTypes:=ts },ty,pos,dG,gd⟩ a w:=by
 obtain ⟨al⟩:=as;simp only [ev] at h;split at h
 ·rename_i x y
  split at h
  ·rename_i kx m ky n hx hy
   have hx:=bV hs hx;have hy:=bV hs hy;simp only [dq,cI] at hx hy;refine bu (v:=.int kx (cond (decide (n<m)) n m)) ?_ (bw hs hd (v:=.one (.int kx (cond (decide (n<m)) n m))) rfl h);simp [execOp,resolve,invoke,builtin,Builtin.min_,Builtin.min2,hx,hy,Bool.cond_decide]
  ·cases h
 ·cases h
theorem s_max (hs:cK X.K w0 nt S β fp a w) (hd:slot dst nt) {as:Array Operand} {ts:Array TypeId} (h:ev X ⟨dst,.call { callee:=.builtin .max,args:=as,argTypes:=ts },ty,pos,dG,gd⟩ S k=some r):Goal P X w0 nt k r Q ⟨dst,.call { callee:=.builtin .max,args:=as,argTypes:=ts },ty,pos,dG,gd⟩ a w:=by
 obtain ⟨al⟩:=as;simp only [ev] at h;split at h
 ·rename_i x y
  split at h
  ·rename_i kx m ky n hx hy
   have hx:=bV hs hx;have hy:=bV hs hy;simp only [dq,cI] at hx hy;refine bu (v:=.int kx (cond (decide (n>m)) n m)) ?_ (bw hs hd (v:=.one (.int kx (cond (decide (n>m)) n m))) rfl h);simp [execOp,resolve,invoke,builtin,Builtin.max_,Builtin.max2,hx,hy,Bool.cond_decide]
  ·cases h
 ·cases h
end
section
variable {Ty:Type} {C:Ty→Type}
variable {K:Cd C} {w0 w:World} {nt:Nat} {S:St C} {β:Nat→Value} {fp:Nat→Nat→Prop} {a:Act}
theorem lK {E:List (Nat×SV C)} {t:Nat} {v:SV C} (h:lk E t=some v) {id:Nat} (hi:id∈fP v):id∈gv E:=by
 induction E with
 | nil=>simp [lk] at h
 | cons x r ih=>
  obtain ⟨m,u⟩:=x;rw [aQ] at h;simp only [gv,List.mem_append];split at h
  ·cases h;exact .inl hi
  ·exact .inr (ih h)
theorem lJ {O:cm C} {n:Nat} {ob:Ob C} (h:lk O n=some ob):n∈dX O∧∀ kd ls,ob = .box kd ls→∀ id,id∈dY ls→id∈dX O:=by
 induction O with
 | nil=>simp [lk] at h
 | cons x r ih=>
  obtain ⟨m,u⟩:=x;rw [aQ] at h;split at h
  ·rename_i e
   subst e;cases h
   cases ob with
   | box kd ls=>exact ⟨by simp [dX],fun WL ls' e id hi=>by cases e;simp [dX,hi]⟩
   | row t xs sh=>exact ⟨by simp [dX],fun _ ls' e=>by cases e⟩
   | map mk kt vt xs c=>exact ⟨by simp [dX],fun _ ls' e=>by cases e⟩
   | ghost=>exact ⟨by simp [dX],fun _ ls' e=>by cases e⟩
  ·obtain ⟨h1,h2⟩:=ih h
   cases u with
   | box kd ls=>exact ⟨by simp [dX,h1],fun WL ls' e id hi=>by simp [dX,h2 WL ls' e id hi]⟩
   | row t xs sh=>exact ⟨by simp [dX,h1],fun WL ls' e id hi=>by simp [dX,h2 WL ls' e id hi]⟩
   | map mk kt vt xs c=>exact ⟨by simp [dX,h1],fun WL ls' e id hi=>by simp [dX,h2 WL ls' e id hi]⟩
   | ghost=>exact ⟨by simp [dX,h1],fun WL ls' e id hi=>by simp [dX,h2 WL ls' e id hi]⟩
def upd {α:Type} (f:Nat→α) (i:Nat) (x:α):Nat→α:=fun j=>if j=i then x else f j
theorem cz {α:Type} (f:Nat→α) (i:Nat) (x:α):upd f i x i=x:=by simp [upd]
theorem dt {α:Type} (f:Nat→α) {i j:Nat} (x:α) (h:j≠i):upd f i x j=f j:=by simp [upd,h]
def fT (S:St C) (id:Nat):Prop:=id∉gv S.env∧id∉dX S.aj
theorem jH {id:Nat} {ob:Ob C} {S':St C} (h:S.add id ob=some S'):fT S id∧S'=S.setObj id ob:=by
 unfold St.add at h;obtain ⟨h1,h2⟩:=eQ h;cases h2;refine ⟨?_,rfl⟩;constructor
 ·intro hm
  have:(gv S.env++dX S.aj).any (Nat.beq id)=true:=List.any_eq_true.2 ⟨id,List.mem_append_left _ hm,Nat.beq_refl id⟩;rw [this] at h1;cases h1
 ·intro hm
  have:(gv S.env++dX S.aj).any (Nat.beq id)=true:=List.any_eq_true.2 ⟨id,List.mem_append_right _ hm,Nat.beq_refl id⟩;rw [this] at h1;cases h1
theorem tY (h:cK K w0 nt S β fp a w) {w':World} (hw:Below w.heap.size w w') {id:Nat} {ob:Ob C} {hv:Value} {F:Nat→Prop} {gN:Nat} (hne:gN≠id) :
  iT w w' S.aj ((id,ob)::S.aj) β (upd β id hv) fp (upd fp id F) gN:=by
 refine ⟨dt _ _ hne,fun t xs sh ho=>?_⟩;rw [aQ,if_neg hne] at ho;exact ⟨ho,fun k hk=>⟨by rw [dt _ _ hne];exact hk,hw.block k (h.fresh gN _ k ho hk).2⟩⟩
theorem Jh (h:cK K w0 nt S β fp a w) {w':World} (hw:Below w.heap.size w w') {id:Nat} {ob:Ob C} {F:Nat→Prop} (hF:∀ k,F k→w.heap.size≤k) {k:Nat} (hk:aH S.aj fp w k) :
  aH ((id,ob)::S.aj) (upd fp id F) w' k∧w'.heap[k]?=w.heap[k]?:=by
 refine ⟨⟨Nat.lt_of_lt_of_le hk.1 hw.size,fun j dR ho=>?_⟩,hw.block k hk.1⟩;rw [aQ] at ho
 by_cases e:j=id
 ·subst e
  rw [cz];intro hf;have:=hF k hf;have:=hk.1;omega
 ·rw [if_neg e] at ho
  rw [dt _ _ e];exact hk.2 j dR ho
theorem cK.yF (h:cK K w0 nt S β fp a w) {w':World} (hw:Below w.heap.size w w') {id:Nat} (iQ:fT S id) {ob:Ob C} {hv:Value} {F:Nat→Prop}
  (hF:∀ k,F k→w.heap.size≤k∧k<w'.heap.size)
  (fW:lj K w' w0.heap.size ((id,ob)::S.aj) (upd β id hv) (upd fp id F) (aH ((id,ob)::S.aj) (upd fp id F) w') F ob hv) :
  cK K w0 nt (S.setObj id ob) (upd β id hv) (upd fp id F) a w':=by
 have hsz:w0.heap.size≤w.heap.size:=h.below.size
 have hst:=fun k hk=>Jh h hw (id:=id) (ob:=ob) (F:=F) (fun k hk=>(hF k hk).1) (k:=k) hk
 refine ⟨h.below.trans (hw.mono hsz),h.defers,h.size,fun j dR k ho hk=>?_,fun i j oi oj k hi hj lq kE=>?_,fun j dR ho=>?_,fun t v ht=>?_⟩
 ·simp only [St.setObj,aQ] at ho
  by_cases e:j=id
  ·subst e
   rw [cz] at hk;have:=hF k hk;omega
  ·rw [if_neg e] at ho
   rw [dt _ _ e] at hk;have:=h.fresh j dR k ho hk;have:=hw.size;omega
 ·simp only [St.setObj,aQ] at hi hj
  by_cases ei:i=id<;>by_cases ej:j=id
  ·rw [ei,ej]
  ·subst ei
   rw [if_neg ej] at hj;rw [cz] at lq;rw [dt _ _ ej] at kE;have:=hF k lq;have:=h.fresh j oj k hj kE;omega
  ·subst ej
   rw [if_neg ei] at hi;rw [cz] at kE;rw [dt _ _ ei] at lq;have:=hF k kE;have:=h.fresh i oi k hi lq;omega
  ·rw [if_neg ei] at hi
   rw [if_neg ej] at hj;rw [dt _ _ ei] at lq;rw [dt _ _ ej] at kE;exact h.eH i j oi oj k hi hj lq kE
 ·simp only [St.setObj,aQ] at ho
  by_cases e:j=id
  ·subst e
   rw [if_pos rfl] at ho;cases ho;rw [cz,cz];exact fW
  ·rw [if_neg e] at ho
   rw [dt _ _ e,dt _ _ e]
   exact (h.aj j dR ho).tr hst (fun k hk=>hw.block k (h.fresh j dR k ho hk).2) fun kd ls els i hi=>tY h hw fun ei=>iQ.2 (by subst ei;exact (lJ ho).2 kd ls els i hi)
 ·exact (h.env t v ht).tr hst fun i hi=>tY h hw fun ei=>iQ.1 (by subst ei;exact lK ht hi)
theorem JY (h:cK K w0 nt S β fp a w) {w':World} (hw:Below w.heap.size w w') {id:Nat} {ob:Ob C} {hv:Value} {F:Nat→Prop} (hF:∀ k,F k→w.heap.size≤k) {ls:List (Lf C)} {vs:List Value}
  (hl:cg K w S.aj β fp (aH S.aj fp w) ls vs) (hne:id∉dY ls):cg K w' ((id,ob)::S.aj) (upd β id hv) (upd fp id F) (aH ((id,ob)::S.aj) (upd fp id F) w') ls vs:=
 hl.tr (fun k hk=>Jh h hw hF hk) fun i hi=>tY h hw fun e=>hne (by subst e;exact hi)
theorem cK.sub (h:cK K w0 nt S β fp a w) {O:cm C} (hO:∀ id ob,lk O id=some ob→lk S.aj id=some ob):cK K w0 nt { S with aj:=O } β fp a w:=by
 have hst:∀ k,aH S.aj fp w k→aH O fp w k∧w.heap[k]?=w.heap[k]?:=fun k hk=>⟨⟨hk.1,fun j ob ho=>hk.2 j ob (hO j ob ho)⟩,rfl⟩
 have hk:∀ id,iT w w S.aj O β β fp fp id:=fun id=>⟨rfl,fun t xs sh ho=>⟨hO _ _ ho,fun k hk=>⟨hk,rfl⟩⟩⟩
 exact ⟨h.below,h.defers,h.size,fun id ob k ho=>h.fresh id ob k (hO _ _ ho),fun i j oi oj k hi hj=>h.eH i j oi oj k (hO _ _ hi) (hO _ _ hj),
  fun id ob ho=>(h.aj id ob (hO _ _ ho)).tr hst (fun _ _=>rfl) fun _ _ _ i _=>hk i,fun t v ht=>(h.env t v ht).tr hst fun i _=>hk i⟩
theorem cK.del (h:cK K w0 nt S β fp a w) (id:Nat):cK K w0 nt (S.kO id) β fp a w:=
 h.sub fun i ob ho=>by
  rw [lM] at ho;split at ho
  ·cases ho
  ·exact ho
theorem cK.turn (h:cK K w0 nt S β fp a w) {w':World} {id:Nat} {zw Cr:Ob C} (ho:lk S.aj id=some zw) (hnr:∀ t xs sh,Cr ≠ .row t xs sh)
  (hw:Below w0.heap.size w w') (hb:∀ k,¬ fp id k→w'.heap[k]?=w.heap[k]?)
  (fW:lj K w' w0.heap.size ((id,Cr)::S.aj) β fp (aH ((id,Cr)::S.aj) fp w') (fp id) Cr (β id)) :
  cK K w0 nt (S.setObj id Cr) β fp a w':=by
 have hlk:∀ j ob,lk ((id,Cr)::S.aj) j=some ob→j≠id→lk S.aj j=some ob:=fun j ob hj hne=>by rw [aQ,if_neg hne] at hj;exact hj
 have hst:∀ k,aH S.aj fp w k→aH ((id,Cr)::S.aj) fp w' k∧w'.heap[k]?=w.heap[k]?:=fun k hk=>by
  refine ⟨⟨Nat.lt_of_lt_of_le hk.1 hw.size,fun j ob hj=>?_⟩,hb k (hk.2 id _ ho)⟩
  by_cases e:j=id
  ·subst e;exact hk.2 j _ ho
  ·exact hk.2 j ob (hlk j ob hj e)
 have hkp:∀ j,iT w w' S.aj ((id,Cr)::S.aj) β β fp fp j:=fun j=>by
  refine ⟨rfl,fun t xs sh hj=>?_⟩
  by_cases e:j=id
  ·subst e;rw [aQ,if_pos rfl] at hj;cases hj;exact absurd rfl (hnr t xs sh)
  ·have iK:=hlk j _ hj e
   exact ⟨iK,fun k hk=>⟨hk,hb k fun hk'=>e (h.eH j id _ _ k iK ho hk hk')⟩⟩
 refine ⟨h.below.trans hw,h.defers,h.size,fun j ob k hj hk=>?_,fun i j oi oj k hi hj lq kE=>?_,fun j ob hj=>?_,fun t v ht=>(h.env t v ht).tr hst fun i _=>hkp i⟩
 ·by_cases e:j=id
  ·subst e;have:=h.fresh j _ k ho hk;have:=hw.size;omega
  ·have:=h.fresh j ob k (hlk j ob hj e) hk;have:=hw.size;omega
 ·by_cases ei:i=id<;>by_cases ej:j=id
  ·rw [ei,ej]
  ·subst ei;exact h.eH i j _ oj k ho (hlk j oj hj ej) lq kE
  ·subst ej;exact h.eH i j oi _ k (hlk i oi hi ei) ho lq kE
  ·exact h.eH i j oi oj k (hlk i oi hi ei) (hlk j oj hj ej) lq kE
 ·by_cases e:j=id
  ·subst e
   have:ob=Cr:=by simp only [St.setObj,aQ,if_pos] at hj;exact (Option.some.inj hj).symm
   subst this;exact fW
  ·have iK:=hlk j ob hj e
   exact (h.aj j ob iK).tr hst (fun k hk'=>hb k fun hk''=>e (h.eH j id _ _ k iK ho hk' hk'')) fun _ _ _ i _=>hkp i
theorem cK.TI (h:cK K w0 nt S β fp a w) {w':World} {id:Nat} {ls ls':List (Lf C)} (ho:lk S.aj id=some (.box .mem ls))
  (hw:Below w0.heap.size w w') (hb:∀ k,¬ fp id k→w'.heap[k]?=w.heap[k]?)
  (fW:lj K w' w0.heap.size ((id,.box .mem ls')::S.aj) β fp (aH ((id,.box .mem ls')::S.aj) fp w') (fp id) (.box .mem ls') (β id)) :
  cK K w0 nt (S.setObj id (.box .mem ls')) β fp a w':=h.turn ho (fun _ _ _ e=>by cases e) hw hb fW
end
section
variable {Ty:Type} [DecidableEq Ty] {C:Ty→Type}
variable {P:Program} {X:Cx C} {w0 w:World} {nt:Nat} {S:St C} {β:Nat→Value} {fp:Nat→Nat→Prop} {a:Act} {R:Type} {k:St C→Option R} {r:R}
variable {dst:Option Tmp} {ty:TypeId} {pos:String} {dG:Array Edge} {gd:Option (Nat×Bool)} {Q:Exit→Act→World→Prop}
theorem cI.cell {K:Cd C} {aj:cm C} {b8:Nat→Prop} {l:Lf C} {v:Value} (h:cI K w aj β fp b8 l v):v.oneCell'=true:=by
 cases l with
 | int k n=>rw [show v=_ from h];rfl
 | bool b=>rw [show v=_ from h];rfl
 | str s=>rw [show v=_ from h];rfl
 | row t xs=>exact gU.one h
 | nil t=>rw [show v=_ from h];rfl
 | vp=>rw [show v=_ from h];rfl
 | dP f=>rw [show v=_ from h];exact CU f
 | lZ n=>rw [show v=_ from h];cases n<;>rfl
 | vo id=>exact h.1
 | sub id lo hi=>obtain ⟨⟨A,n,c,h1⟩,_⟩:=h;rw [h1];rfl
 | eS t x o=>obtain ⟨p,U,h1,_⟩:=h;rw [h1];rfl
 | ptr id o=>obtain ⟨b,_,h1⟩:=h;rw [h1];rfl
 | ref id p=>cases p with
  | nil=>exact h.1
  | cons s p=>exact h.1
 | ep id p i o=>cases p with
  | nil=>obtain ⟨⟨q,h1⟩,_⟩:=h;rw [h1];rfl
  | cons s p=>obtain ⟨⟨q,h1⟩,_⟩:=h;rw [h1];rfl
theorem L9 {v:Value} (h:v.oneCell'=true):v.cells = #[v]:=by cases v<;>first | rfl | cases h
theorem oF {K:Cd C} {aj:cm C} {b8:Nat→Prop} {v:SV C} {u:Value} (h:dq K w aj β fp b8 v u) (hf:0<v.leaves.length):cg K w aj β fp b8 v.leaves u.cells.toList:=by
 cases v with
 | one l=>
  have hl:cI K w aj β fp b8 l u:=h;rw [L9 hl.cell];refine ⟨rfl,fun i l' hi=>?_⟩
  cases i with
  | zero=>simp [SV.leaves] at hi;subst hi;exact hl
  | succ i=>simp [SV.leaves] at hi
 | agg ls=>obtain ⟨vs,rfl,h⟩:=h;exact h
 | _=>simp [SV.leaves] at hf
theorem CX {v:SV C} {tk:TK Ty} (h:fits v tk=true):v.leaves.length=tk.size∧0<v.leaves.length:=by
 unfold fits at h;simp only [Bool.and_eq_true] at h;have h1:=Nat.eq_of_beq_eq_true h.1;have h2:=Nat.le_of_ble_eq_true h.2;exact ⟨h1,by omega⟩
theorem nH {v:SV C} {id:Nat} (h:id∈dY v.leaves):id∈fP v:=by
 cases v with
 | one l=>simpa [SV.leaves,dY,fP] using h
 | agg ls=>exact h
 | _=>simp [SV.leaves,dY] at h
theorem JL {x:Operand} {v:SV C} (h:eu S x=some v) {id:Nat} (hi:id∈fP v):id∈gv S.env:=by
 cases x with
 | tmp t=>exact lK h hi
 | const c=>
  cases c with
  | int k n=>simp [eu] at h;subst h;simp [fP,fF] at hi
  | bool b=>simp [eu] at h;subst h;simp [fP,fF] at hi
  | string s=>simp [eu] at h;subst h;simp [fP,fF] at hi
  | pointer p=>
   cases p with
   | none=>simp [eu] at h;subst h;simp [fP,fF] at hi
   | some p=>simp [eu] at h
  | map p=>
   cases p with
   | none=>simp [eu] at h;subst h;simp [fP,fF] at hi
   | some p=>simp [eu] at h
  | nilFunc=>simp [eu] at h;subst h;simp [fP,fF] at hi
  | nilIface=>simp [eu] at h;subst h;simp [fP,fF] at hi
  | _=>simp [eu] at h
 | global g=>simp [eu] at h
 | func f=>
  simp only [eu] at h
  cases hb:Nat.ble og f with
  | true=>rw [hb] at h;cases h
  | false=>rw [hb] at h;cases h;simp [fP,fF] at hi
theorem xF {T:TypeId} {x:Operand} {v:SV C} (h:gu X S T x=some v) {id:Nat} (hi:id∈fP v):id∈gv S.env:=by
 unfold gu at h;split at h
 ·split at h
  ·cases h;simp [fP,fF] at hi
  ·cases h
 ·exact JL h hi
theorem vT (hs:cK X.K w0 nt S β fp a w) (hd:slot dst nt) {id:Nat} {ls:List (Lf C)} {cs:Array Value} {e:TypeId} {S':St C} (gB:S.add id (.box .mem ls)=some S')
  (hl:cg X.K w S.aj β fp (aH S.aj fp w) ls cs.toList) (Fj:∀ i,i∈dY ls→i∈gv S.env) (hk:k (S'.put dst (.one (.ptr id 0)))=some r) :
  Next X.K w0 nt k r (a.put dst (.pointer (some ⟨w.heap.size,0,none⟩))) (w.alloc (.cells cs e)):=by
 obtain ⟨hn,rfl⟩:=jH gB;have hw:Below w.heap.size w (w.alloc (.cells cs e)):=(Below.refl _ _).alloc (Nat.le_refl _) _
 have hF:∀ k,(fun k=>k=w.heap.size) k→w.heap.size≤k:=fun k hk=>by rw [hk];exact Nat.le_refl _
 have h2:=hs.yF hw hn (ob:=.box .mem ls) (hv:=.pointer (some ⟨w.heap.size,0,none⟩)) (F:=fun k=>k=w.heap.size) (fun k hk=>⟨hF k hk,by rw [hk];simp⟩)
  ⟨w.heap.size,cs,e,rfl,heap_alloc_new w _,fun k=>Iff.rfl,JY hs hw hF hl fun hm=>hn.1 (Fj _ hm)⟩
 exact bw h2 hd (v:=.one (.ptr id 0)) ⟨w.heap.size,cz _ _ _,rfl⟩ hk
theorem FA {K:Cd C} {aj:cm C} {b8:Nat→Prop} {v:SV C} {k:TK Ty} {u:Value} (hv:dq K w aj β fp b8 v u) (hf:Kk v k=true):cg K w aj β fp b8 v.leaves u.cells.toList:=by
 unfold Kk at hf;split at hf
 ·obtain ⟨vs,rfl,h1,h2⟩:=hv
  obtain rfl:vs=[]:=List.length_eq_zero_iff.1 h1;exact ⟨rfl,fun i l hi=>by simp [SV.leaves] at hi⟩
 ·exact oF hv (CX hf).2
theorem s_box (hs:cK X.K w0 nt S β fp a w) (hd:slot dst nt) {e:TypeId} {x:Operand} (h:ev X ⟨dst,.box e x,ty,pos,dG,gd⟩ S k=some r):Goal P X w0 nt k r Q ⟨dst,.box e x,ty,pos,dG,gd⟩ a w:=by
 simp only [ev] at h;split at h
 ·rename_i v tk hv ht
  obtain ⟨hf,h⟩:=az h;split at h
  ·rename_i S' gB
   have hc:=FA (bV hs hv) hf
   exact bu (v:=.pointer (some ⟨w.heap.size,0,none⟩)) (w':=w.alloc (.cells (a.eval x).cells e)) (by simp [execOp,Instr.box,newVar,newRow])
    (vT hs hd gB (by simpa using hc) (fun i hi=>JL hv (nH hi)) h)
  ·cases h
 ·cases h
theorem zl_ok {K:Cd C} {aj:cm C} {b8:Nat→Prop} (z:ZL Ty):cI K w aj β fp b8 (z.lf:Lf C) z.val:=by cases z<;>rfl
theorem NH (z:ZL Ty):fF (z.lf:Lf C)=[]:=by cases z<;>rfl
theorem wk {K:Cd C} {aj:cm C} {b8:Nat→Prop} (zs:List (ZL Ty)):cg K w aj β fp b8 (zs.map (ZL.lf (C:=C))) (zs.map ZL.val):=by
 refine ⟨by simp,fun i l hi=>?_⟩;simp only [List.getElem?_map,Option.map_eq_some_iff] at hi;obtain ⟨z,hz,rfl⟩:=hi
 have:(zs.map ZL.val).getD i undef=z.val:=by simp [List.getD,hz]
 rw [this];exact zl_ok z
theorem I7 (zs:List (ZL Ty)):dY (zs.map (ZL.lf (C:=C)))=[]:=by
 induction zs with
 | nil=>rfl
 | cons z zs ih=>simp [dY,NH,ih]
theorem TV (hX:jk P X) (hs:cK X.K w0 nt S β fp a w) (hd:slot dst nt) {e:TypeId} (h:ev X ⟨dst,.alloc e,ty,pos,dG,gd⟩ S k=some r):Goal P X w0 nt k r Q ⟨dst,.alloc e,ty,pos,dG,gd⟩ a w:=by
 have run:∀ z i,P.info? e=some i→i.zero=some z→(execOp a.eval ⟨dst,.alloc e,ty,pos,dG,gd⟩).run P w = .ok (.value (.pointer (some ⟨w.heap.size,0,none⟩))) (w.alloc (.cells z.cells e)):=by
  intro z i h1 h2;simp [execOp,Instr.alloc,zeroValue,typeInfo,h1,h2,newVar,newRow]
 simp only [ev] at h;split at h
 ·rename_i z ht
  obtain ⟨⟨i,h1,h2,h3⟩,_⟩:=hX.tk _ _ ht;split at h
  ·rename_i S' gB
   refine bu (run _ i h1 h3) (vT hs hd gB ?_ (fun i hi=>by simp [dY,NH] at hi) h);have:=wk (K:=X.K) (w:=w) (aj:=S.aj) (β:=β) (fp:=fp) (b8:=aH S.aj fp w) [z]
   have hc:z.val.cells = #[z.val]:=by
    cases z with
    | nk n=>cases n<;>rfl
    | _=>rfl
   rw [hc];exact this
  ·cases h
 ·rename_i fs zs ht
  obtain ⟨⟨i,h1,h2,h3⟩,_⟩:=hX.tk _ _ ht;split at h
  ·rename_i S' gB
   refine bu (run _ i h1 h3) (vT hs hd gB ?_ (fun i hi=>by rw [I7] at hi;cases hi) h)
   simpa [Value.cells] using wk (K:=X.K) (w:=w) (aj:=S.aj) (β:=β) (fp:=fp) (b8:=aH S.aj fp w) zs
  ·cases h
 ·rename_i n sz ag zs ht
  obtain ⟨⟨i,h1,h2,h3⟩,_⟩:=hX.tk _ _ ht;split at h
  ·rename_i S' gB
   refine bu (run _ i h1 h3) (vT hs hd gB ?_ (fun i hi=>by rw [I7] at hi;cases hi) h)
   simpa [Value.cells] using wk (K:=X.K) (w:=w) (aj:=S.aj) (β:=β) (fp:=fp) (b8:=aH S.aj fp w) zs
  ·cases h
 ·cases h
theorem HO {K:Cd C} {aj:cm C} {b8:Nat→Prop} {l:Lf C} {v:Value} (h:gU K w b8 l v):cI K w aj β fp b8 l v:=by
 cases h with
 | int k n=>rfl
 | bool b=>rfl
 | str s=>rfl
 | dP f=>rfl
 | row t xs A c p U hc hA hcell nJ=>exact .row t xs A c p U hc hA hcell nJ
theorem qQ {K:Cd C} {base:Nat} {G:Nat→Prop} {aj:cm C} {b8:Nat→Prop} {l:Lf C} {v:Value} (h:Own K w base G l v) (hn:∀ t xs,l ≠ .row t xs):cI K w aj β fp b8 l v:=by
 cases h with
 | int=>rfl
 | bool=>rfl
 | str=>rfl
 | dP=>rfl
 | row _ t xs=>exact absurd rfl (hn t xs)
theorem p7 (id:Nat) (p:List (Nat×Nat)) (i:Nat) (sh:Bool):∀ (ls:List (Lf C)) (n j:Nat) (l:Lf C),(o7 id p i sh n ls)[j]?=some l →
  (∃ t xs,ls[j]?=some (.row t xs)∧l=cond sh (.row t xs) (.ref id (p++[(i,n+j)])))∨(ls[j]?=some l∧∀ t xs,l ≠ .row t xs)
 | [],n,j,l,h=>by simp [o7] at h
 | x::r,n,j,l,h=>by
  have ih:=p7 id p i sh r (n+1)
  cases j with
  | zero=>
   cases x with
   | row t xs=>simp [o7] at h;exact .inl ⟨t,xs,rfl,h.symm⟩
   | _=>simp [o7] at h;subst h;exact .inr ⟨rfl,fun t xs=>by simp⟩
  | succ j=>
   have:(o7 id p i sh (n+1) r)[j]?=some l:=by cases x<;>simpa [o7] using h
   rcases ih j l this with ⟨t,xs,h1,h2⟩ | h1
   ·exact .inl ⟨t,xs,by simpa using h1,by rw [h2];congr 5;omega⟩
   ·exact .inr (by simpa using h1)
theorem L4 {K:Cd C} {F:Nat→Prop} {t:Ty} {xs:List (C t)} {v:Value} {p:List (Nat×Nat)} {t':Ty} {zs:List (C t')} {v':Value} (h:ow K w F t xs v p t' zs v')
  {i o:Nat} {x:C t'} {t1:Ty} {ys:List (C t1)} {q:Addr} {n c:Nat} {v1:Value} (hx:zs[i]?=some x) (hl:(K.enc t' x)[o]?=some (.row t1 ys)) (hv:v' = .slice (some q) n c) (hF:F q.block) (hc:w.cell? (q.add (i*K.sz t'+o))=some v1) :
  ow K w F t xs v (p++[(i,o)]) t1 ys v1:=by
 induction h with
 | nil t xs v=>exact .cons t xs v i o x t1 ys q n c v1 [] t1 ys v1 hx hl hv hF hc (.nil ..)
 | cons t xs v i' o' x' Hy Ti a' n' c' v1' p t' zs v' hx' hl' hv' Nt Ka _ ih=>exact .cons t xs v i' o' x' Hy Ti a' n' c' v1' _ _ _ _ hx' hl' hv' Nt Ka (ih hx hl hv hc)
theorem ER {K:Cd C} {base:Nat} {F:Nat→Prop} {t:Ty} {xs:List (C t)} {v:Value} (h:Own K w base F (.row t xs) v) {i:Nat} {x:C t} (hx:xs[i]?=some x) :
  ∃ g cap cells,v = .slice (some ⟨g,0,none⟩) xs.length cap∧F g∧w.ownsRow base (K.tid t) (K.sz t) v xs.length cells ∧
   (∀ m,m<xs.length*K.sz t→w.cell? ((⟨g,0,none⟩:Addr).add m)=some (cells.getD m undef))∧∀ o l,(K.enc t x)[o]?=some l→∃ G,(∀ k,G k→F k∧k≠g)∧Own K w base G l (cells.getD (i*K.sz t+o) undef):=by
 cases h with
 | row _ _ _ _ cells G h h1 h2 h3 h4=>
  have hi:=ee hx
  have rD:xs[i]=x:=by simpa [List.getElem?_eq_getElem hi] using hx
  obtain ⟨g,cap,e,hb,hn,hcell⟩:=kJ h (Nat.mul_pos (by omega) (K.pos t));refine ⟨g,cap,cells,e,h1 g (by rw [e];rfl),h,hcell,fun o l hl=>⟨G i o,fun k hk=>⟨(h2 i o k hk).1,fun ek=>(h2 i o k hk).2 (by rw [e,ek];rfl)⟩,h4 i hi o l (by rw [rD];exact hl)⟩⟩
theorem po {α:Type} {l:List α} {o i:Nat} {x:α} (h:(l.drop o)[i]?=some x):l[o+i]?=some x:=by simpa using h
theorem iH {K:Cd C} {t:Ty} {x:C t} {o:Nat} {l:Lf C} (h:(K.enc t x)[o]?=some l):o<K.sz t:=by
 have:=ee h
 rwa [K.gH] at this
theorem sM (hs:cK X.K w0 nt S β fp a w) {l:Lf C} {v:Value} (hv:cI X.K w S.aj β fp (aH S.aj fp w) l v) {α:Type} {kk:List (Lf C)→Option α} {q:α} (h:dZ X S l kk=some q) :
  ∃ ls p,kk ls=some q∧v = .pointer (some p)∧∀ i l',ls[i]?=some l'→∃ u,w.cell? (p.add i)=some u∧cI X.K w S.aj β fp (aH S.aj fp w) l' u:=by
 cases l with
 | ptr id off=>
  simp only [dZ] at h;split at h
  ·rename_i ls ho
   obtain ⟨b,cs,e,h1,h2,h3,h4⟩:=hs.aj id _ ho;obtain ⟨b',h5,h6⟩:=hv;rw [h1] at h5;cases h5;refine ⟨ls.drop off,⟨b,off,none⟩,h,h6,fun i l' hl=>?_⟩;have hl:=po hl
   have hlt:off+i<cs.size:=by have:=ee hl;have:=h4.1;simp at this;omega
   refine ⟨cs.toList.getD (off+i) undef,?_,h4.2 _ _ hl⟩;rw [iq,cell_of_row w b (off+i) cs e (0,0) h2];simp [List.getD,hlt]
  ·cases h
 | eS t x o=>
  obtain ⟨p,U,h1,h2,h3,h4⟩:=hv;refine ⟨(X.K.enc t x).drop o,_,h,h1,fun i l' hl=>?_⟩;have hl:=po hl;refine ⟨U (o+i),?_,HO (h4 _ _ hl)⟩;rw [add_add];exact h3 _ (iH hl)
 | ep id p i o=>
  simp only [dZ] at h;split at h
  ·rename_i t xs sh ho
   have fW:=hs.aj id _ ho
   cases p with
   | nil=>
    obtain ⟨⟨p0,hp0⟩,hv⟩:=hv;obtain ⟨h1,q,n,c,h2,h3⟩:=hv t xs sh ho
    cases hx:xs[i]? with
    | none=>rw [List.getElem?_eq_none_iff] at hx;omega
    | some x=>
     simp only [path,hx,Option.bind_some] at h;refine ⟨_,_,h,h3,fun j l' hl=>?_⟩;have hl:=po hl;simp only [List.isEmpty_nil,cond_true] at hl
     cases sh with
     | true=>
      obtain ⟨cells,ho1,ho2,ho3⟩:=fW;obtain ⟨g,cap,e,hb,hn,hcell⟩:=kJ ho1 (Nat.mul_pos (by omega) (X.K.pos t));rw [h2] at e;cases e
      have key:∀ l0,(X.K.enc t x)[o+j]?=some l0→∃ u,w.cell? ((Addr.add ⟨g,0,none⟩ (i*X.K.sz t+o)).add j)=some u∧gU X.K w (aH S.aj fp w) l0 u:=fun l0 hl0=>by
       refine ⟨_,?_,ho3 i x hx (o+j) l0 hl0⟩;rw [add_add,Nat.add_assoc];exact hcell _ (iw h1 (iH hl0))
      rcases p7 id [] i true _ 0 (o+j) l' hl with ⟨t1,ys,e1,e2⟩ | ⟨e1,_⟩
      ·simp only [cond_true] at e2
       subst e2;obtain ⟨u,hu1,hu2⟩:=key _ e1;exact ⟨u,hu1,HO hu2⟩
      ·obtain ⟨u,hu1,hu2⟩:=key _ e1
       exact ⟨u,hu1,HO hu2⟩
     | false=>
      obtain ⟨g,cap,cells,e,hFg,hown,hcell,hel⟩:=ER fW hx;rw [h2] at e;cases e
      have hc:∀ o',o'<X.K.sz t→w.cell? (Addr.add ⟨g,0,none⟩ (i*X.K.sz t+o'))=some (cells.getD (i*X.K.sz t+o') undef):=fun o' gW=>hcell _ (iw h1 gW)
      have Ka:∀ l0,(X.K.enc t x)[o+j]?=some l0→w.cell? ((Addr.add ⟨g,0,none⟩ (i*X.K.sz t+o)).add j)=some (cells.getD (i*X.K.sz t+(o+j)) undef):=fun l0 hl0=>by
       rw [add_add,Nat.add_assoc];exact hc _ (iH hl0)
      rcases p7 id [] i false _ 0 (o+j) l' hl with ⟨t1,ys,e1,e2⟩ | ⟨e1,hne⟩
      ·simp only [cond_false,Nat.zero_add,List.nil_append] at e2
       subst e2;obtain ⟨G,hG,hO⟩:=hel _ _ e1;refine ⟨_,Ka _ e1,hO.one,fun t0 Hn gA v8=>?_⟩;rw [ho] at v8;cases v8;exact ⟨rfl,t1,ys,.cons t xs _ i (o+j) x t1 ys ⟨g,0,none⟩ _ c _ [] t1 ys _ hx e1 h2 hFg (hc _ (iH e1)) (.nil ..)⟩
      ·obtain ⟨G,hG,hO⟩:=hel _ _ e1
       exact ⟨_,Ka _ e1,qQ hO hne⟩
   | cons s p=>
    obtain ⟨⟨p0,hp0⟩,hv⟩:=hv;obtain ⟨hsh,t',zs,v',hpr,h1,q,n,c,h2,h3⟩:=hv t xs sh ho;subst hsh;have h:=mR hpr h;obtain ⟨G0,W4,hO0⟩:=rV hpr _ fW
    cases hx:zs[i]? with
    | none=>rw [List.getElem?_eq_none_iff] at hx;omega
    | some x=>
     simp only [hx,Option.bind_some,List.isEmpty_cons,cond_false] at h;refine ⟨_,_,h,h3,fun j l' hl=>?_⟩;have hl:=po hl;obtain ⟨g,cap,cells,e,hFg,hown,hcell,hel⟩:=ER hO0 hx;rw [h2] at e;cases e
     have hc:∀ o',o'<X.K.sz t'→w.cell? (Addr.add ⟨g,0,none⟩ (i*X.K.sz t'+o'))=some (cells.getD (i*X.K.sz t'+o') undef):=fun o' gW=>hcell _ (iw h1 gW)
     have Ka:∀ l0,(X.K.enc t' x)[o+j]?=some l0→w.cell? ((Addr.add ⟨g,0,none⟩ (i*X.K.sz t'+o)).add j)=some (cells.getD (i*X.K.sz t'+(o+j)) undef):=fun l0 hl0=>by
      rw [add_add,Nat.add_assoc];exact hc _ (iH hl0)
     rcases p7 id (s::p) i false _ 0 (o+j) l' hl with ⟨t1,ys,e1,e2⟩ | ⟨e1,hne⟩
     ·simp only [cond_false,Nat.zero_add] at e2
      subst e2;obtain ⟨G,hG,hO⟩:=hel _ _ e1;refine ⟨_,Ka _ e1,hO.one,fun t0 Hn gA v8=>?_⟩;rw [ho] at v8;cases v8;exact ⟨rfl,t1,ys,L4 hpr hx e1 h2 (W4 _ hFg) (hc _ (iH e1))⟩
     ·obtain ⟨G,hG,hO⟩:=hel _ _ e1
      exact ⟨_,Ka _ e1,qQ hO hne⟩
  ·cases h
 | _=>simp [dZ] at h
end
section
variable {Ty:Type} [DecidableEq Ty] {C:Ty→Type}
variable {P:Program} {X:Cx C} {w0 w:World} {nt:Nat} {S:St C} {β:Nat→Value} {fp:Nat→Nat→Prop} {a:Act} {R:Type} {k:St C→Option R} {r:R}
variable {dst:Option Tmp} {ty:TypeId} {pos:String} {dG:Array Edge} {gd:Option (Nat×Bool)} {Q:Exit→Act→World→Prop}
theorem tt {K:Cd C} {T:TypeId} {tk:TK Ty} (h:cw P K T tk):(isAgg T).run P w = .ok (lP tk) w:=by
 cases tk with
 | one z=>
  obtain ⟨_,d,hd,hz⟩:=h
  cases z with
  | ptr=>obtain ⟨e,rfl⟩:=hz;simp [isAgg,bn hd,lP]
  | dP=>obtain ⟨_,_,_,rfl⟩:=hz;simp [isAgg,bn hd,lP]
  | nk n=>cases n with
   | mF=>obtain ⟨_,rfl⟩:=hz;simp [isAgg,bn hd,lP]
   | map=>obtain ⟨_,_,rfl⟩:=hz;simp [isAgg,bn hd,lP]
  | _=>simp only [ZL.desc] at hz;subst hz;simp [isAgg,bn hd,lP]
 | agg fs zs=>
  obtain ⟨_,f,hf,_⟩:=h;simp [isAgg,bn hf,lP]
 | arr n sz ag zs=>
  obtain ⟨_,_,_,e,i,hf,_⟩:=h;simp [isAgg,bn hf,lP]
theorem cw.size {K:Cd C} {T:TypeId} {tk:TK Ty} (h:cw P K T tk):(sizeOf T).run P w = .ok tk.size w:=by
 cases tk with
 | one z=>obtain ⟨⟨i,h1,h2,_⟩,_⟩:=h;simp [sizeOf,typeInfo,h1,h2,TK.size]
 | agg fs zs=>obtain ⟨⟨i,h1,h2,_⟩,_⟩:=h;simp [sizeOf,typeInfo,h1,h2,TK.size]
 | arr n sz ag zs=>obtain ⟨⟨i,h1,h2,_⟩,_⟩:=h;simp [sizeOf,typeInfo,h1,h2,TK.size]
theorem vV {K:Cd C} {aj:cm C} {b8:Nat→Prop} {T:TypeId} {tk:TK Ty} (hT:cw P K T tk) {ls:List (Lf C)} {v:SV C} (hm:Cy tk ls=some v) {p:Addr}
  (hc:∀ i l,ls[i]?=some l→∃ u,w.cell? (p.add i)=some u∧cI K w aj β fp b8 l u) :
  ∃ u,(loadVar T p).run P w = .ok u w∧dq K w aj β fp b8 v u:=by
 cases tk with
 | one z=>
  cases ls with
  | nil=>simp [Cy] at hm
  | cons l r=>
   simp [Cy] at hm;subst hm;obtain ⟨u,h1,h2⟩:=hc 0 l rfl;refine ⟨u,?_,h2⟩
   have:p.add 0=p:=by simp [Addr.add]
   rw [this] at h1;simp [loadVar,tt hT,lP,h1]
 | agg fs zs=>
  simp only [Cy] at hm;obtain ⟨hl,hm⟩:=az hm;cases hm;have hl:=Nat.le_of_ble_eq_true hl
  have hex:∀ i,i<zs.length→∃ l u,ls[i]?=some l∧w.cell? (p.add i)=some u∧cI K w aj β fp b8 l u:=fun i hi=>by
   have eN:i<ls.length:=by omega
   obtain ⟨u,h1,h2⟩:=hc i ls[i] (by simp [eN]);exact ⟨ls[i],u,by simp [eN],h1,h2⟩
  let f:Nat→Value:=fun i=>(w.cell? (p.add i)).getD undef
  have hf:∀ i,i<zs.length→w.cell? (p.add i)=some (f i):=fun i hi=>by
   obtain ⟨l,u,_,h1,_⟩:=hex i hi;simp [f,h1]
  refine ⟨.agg ((List.range zs.length).map f).toArray,?_,(List.range zs.length).map f,rfl,by simp;omega,fun i l hi=>?_⟩
  ·simp [loadVar,tt hT,lP,hT.size,TK.size,run_loadCells w p zs.length f hf]
  ·rw [List.getElem?_take] at hi
   split at hi
   ·rename_i hlt
    obtain ⟨l',u,h1,h2,h3⟩:=hex i hlt;rw [hi] at h1;cases h1
    have:((List.range zs.length).map f).getD i undef=u:=by simp [List.getD,hlt,f,h2]
    rw [this];exact h3
   ·cases hi
 | arr n sz ag zs=>
  simp only [Cy] at hm;obtain ⟨hl,hm⟩:=az hm;cases hm;have hl:=Nat.le_of_ble_eq_true hl
  have hex:∀ i,i<zs.length→∃ l u,ls[i]?=some l∧w.cell? (p.add i)=some u∧cI K w aj β fp b8 l u:=fun i hi=>by
   have eN:i<ls.length:=by omega
   obtain ⟨u,h1,h2⟩:=hc i ls[i] (by simp [eN]);exact ⟨ls[i],u,by simp [eN],h1,h2⟩
  let f:Nat→Value:=fun i=>(w.cell? (p.add i)).getD undef
  have hf:∀ i,i<zs.length→w.cell? (p.add i)=some (f i):=fun i hi=>by
   obtain ⟨l,u,_,h1,_⟩:=hex i hi;simp [f,h1]
  refine ⟨.agg ((List.range zs.length).map f).toArray,?_,(List.range zs.length).map f,rfl,by simp;omega,fun i l hi=>?_⟩
  ·simp [loadVar,tt hT,lP,hT.size,TK.size,run_loadCells w p zs.length f hf]
  ·rw [List.getElem?_take] at hi
   split at hi
   ·rename_i hlt
    obtain ⟨l',u,h1,h2,h3⟩:=hex i hlt;rw [hi] at h1;cases h1
    have:((List.range zs.length).map f).getD i undef=u:=by simp [List.getD,hlt,f,h2]
    rw [this];exact h3
   ·cases hi
theorem YJ (hX:jk P X) (hs:cK X.K w0 nt S β fp a w) (hd:slot dst nt) {t:TypeId} {x:Operand} (h:ev X ⟨dst,.load t x,ty,pos,dG,gd⟩ S k=some r):Goal P X w0 nt k r Q ⟨dst,.load t x,ty,pos,dG,gd⟩ a w:=by
 simp only [ev] at h;split at h
 ·rename_i tk l ht hx
  obtain ⟨ls,p,hk,hv,hc⟩:=sM hs (fG (bV hs hx)) h;split at hk
  ·rename_i v hm
   obtain ⟨u,hr,hok⟩:=vV (hX.tk _ _ ht) hm hc;refine bu (v:=u) ?_ (bw hs hd hok hk);simp [execOp,Instr.loadAt,hv,Instr.sureAddr,hr]
  ·cases hk
 ·cases h
theorem TP (hX:jk P X) (hs:cK X.K w0 nt S β fp a w) (hd:slot dst nt) {t:TypeId} {x:Operand} {f:Nat} (h:ev X ⟨dst,.field t x f,ty,pos,dG,gd⟩ S k=some r):Goal P X w0 nt k r Q ⟨dst,.field t x f,ty,pos,dG,gd⟩ a w:=by
 simp only [ev] at h;split at h
 ·rename_i fs zs ls ht hx
  obtain ⟨vs,hv,hlen,hok⟩:=bV hs hx;obtain ⟨_,fields,hu,hl,hF⟩:=hX.tk _ _ ht;split at h
  ·rename_i off n hf
   obtain ⟨fl,i,h1,h2,h3,h4,h5,d,h6,h7⟩:=hF f off n true hf
   have hrun:(execOp a.eval ⟨dst,.field t x f,ty,pos,dG,gd⟩).run P w = .ok (.value (.agg ((vs.drop off).take n).toArray)) w:=by
    have hag:(isAgg fl.type).run P w = .ok true w:=by
     simp only [isAgg,Sem.run_bind,bn h6,Result.andThen_ok];cases d<;>simp at h7<;>rfl
    simp [execOp,hv,Instr.field,bn hu,h1,part,hag,asAgg,sizeOf,typeInfo,h3,h4,h2]
   refine bu hrun (bw hs hd (v:=.agg ((ls.drop off).take n)) ⟨_,rfl,by simp [hlen],fun i l hi=>?_⟩ h);rw [List.getElem?_take] at hi;split at hi
   ·rename_i hlt
    have hi:=po hi;have:=hok (off+i) l hi
    have e:((vs.drop off).take n).getD i undef=vs.getD (off+i) undef:=by simp [List.getD,List.getElem?_take,hlt]
    rw [e];exact this
   ·cases hi
  ·rename_i off n hf
   split at h
   ·rename_i l hl'
    obtain ⟨fl,i,h1,h2,h3,h4,h5,d,h6,h7⟩:=hF f off n false hf
    have hlt:off<vs.length:=by rw [hlen];exact ee hl'
    have hrun:(execOp a.eval ⟨dst,.field t x f,ty,pos,dG,gd⟩).run P w = .ok (.value (vs.getD off undef)) w:=by
     have hag:(isAgg fl.type).run P w = .ok false w:=by
      simp only [isAgg,Sem.run_bind,bn h6,Result.andThen_ok];cases d<;>simp at h7<;>rfl
     simp [execOp,hv,Instr.field,bn hu,h1,part,hag,asAgg,h2,List.getD,hlt]
    exact bu hrun (bw hs hd (v:=.one l) (hok off l hl') h)
   ·cases h
  ·cases h
 ·cases h
theorem mO {α:Type}:∀ (r l:List α) (o:Nat),o+r.length≤l.length→setAt l o r=l.take o++r++l.drop (o+r.length)
 | [],l,o,_=>by simp [setAt]
 | v::r,l,o,h=>by
  have h':o+1+r.length≤(l.set o v).length:=by simp at h ⊢;omega
  have ho:o<l.length:=by simp at h;omega
  rw [setAt,mO r (l.set o v) (o+1) h']
  have e1:(l.set o v).take (o+1)=l.take o++[v]:=by
   rw [List.take_succ_eq_append_getElem (by simpa using ho)];simp [List.take_set_of_le (Nat.le_refl o)]
  have e2:(l.set o v).drop (o+1+r.length)=l.drop (o+(r.length+1)):=by
   rw [List.drop_set_of_lt (by omega)]
   congr 1;omega
  rw [e1,e2];simp
theorem mN {α:Type}:∀ (r l:List α) (o:Nat),(setAt l o r).length=l.length
 | [],l,o=>rfl
 | v::r,l,o=>by rw [setAt,mN];simp
theorem fZ {α:Type} {l r:List α} {o:Nat} (h:o+r.length≤l.length) (i:Nat):(l.take o++r++l.drop (o+r.length))[i]?=if i<o then l[i]? else if i<o+r.length then r[i-o]? else l[i]?:=by
 have hlen:(l.take o).length=o:=by simp;omega
 by_cases h1:i<o
 ·rw [if_pos h1,List.getElem?_append_left (by simp;omega),List.getElem?_append_left (by rw [hlen];exact h1),List.getElem?_take,if_pos h1]
 ·rw [if_neg h1]
  by_cases h2:i<o+r.length
  ·rw [if_pos h2,List.getElem?_append_left (by simp;omega),List.getElem?_append_right (by rw [hlen];omega),hlen]
  ·rw [if_neg h2,List.getElem?_append_right (by simp;omega),List.getElem?_drop]
   congr 1
   simp;omega
theorem xO {K:Cd C} {aj:cm C} {b8:Nat→Prop} {ls r:List (Lf C)} {vs us:List Value} (h:cg K w aj β fp b8 ls vs) (h':cg K w aj β fp b8 r us) {o:Nat} (ho:o+r.length≤ls.length) :
  cg K w aj β fp b8 (setAt ls o r) (vs.take o++us++vs.drop (o+us.length)):=by
 have gW:o+us.length≤vs.length:=by rw [h.1,h'.1];exact ho
 refine ⟨by simp [mN];have:=h.1;omega,fun i l hi=>?_⟩;rw [mO _ _ _ ho,fZ ho] at hi;rw [List.getD_eq_getElem?_getD,fZ gW];rw [h'.1];split at hi
 ·rename_i h1
  rw [if_pos h1];have:=h.2 i l hi
  rwa [List.getD_eq_getElem?_getD] at this
 ·rename_i h1
  rw [if_neg h1];split at hi
  ·rename_i h2
   rw [if_pos h2];have:=h'.2 (i-o) l hi
   rwa [List.getD_eq_getElem?_getD] at this
  ·rename_i h2
   rw [if_neg h2];have:=h.2 i l hi
   rwa [List.getD_eq_getElem?_getD] at this
theorem iy {w0:World} (g:Nat) (cs:Array Value) (hg:w0.heap.size≤g):Below w0.heap.size w (w.setRow g cs):=
 ⟨rfl,rfl,rfl,by simp,fun k hk=>setRow_other w g k cs (by omega)⟩
theorem rM {K:Cd C} {T:TypeId} {tk:TK Ty} (hT:cw P K T tk) {v:Value} (hv:v.cells.size=tk.size) (p:Addr):(storeVar T p v).run P w=(storeCells p v.cells.toList).run P w:=by
 simp [storeVar,hT.size,hv]
theorem LM (hs:cK X.K w0 nt S β fp a w) {id off:Nat} {ls r':List (Lf C)} (ho:lk S.aj id=some (.box .mem ls)) {us:List Value} (hr:cg X.K w S.aj β fp (aH S.aj fp w) r' us) (hoff:off+r'.length≤ls.length) {b:Nat} (hb:β id = .pointer (some ⟨b,0,none⟩)) :
  ∃ w',(storeCells ⟨b,off,none⟩ us).run P w = .ok () w'∧cK X.K w0 nt (S.setObj id (.box .mem (setAt ls off r'))) β fp a w':=by
 obtain ⟨b',cs,e,h1,h2,h3,h4⟩:=hs.aj id _ ho;rw [hb] at h1;cases h1
 have DA:∀ v∈us,v.oneCell'=true:=fun v hv=>by
  obtain ⟨i,hi,rfl⟩:=List.getElem_of_mem hv
  have eN:i<r'.length:=by rw [←hr.1];exact hi
  have:=hr.2 i r'[i] (by simp [eN])
  have e:us.getD i undef=us[i]:=by simp [List.getD,hi]
  rw [e] at this;exact this.cell
 have hcs:cs.size=ls.length:=by have:=h4.1;simpa using this
 have hst:=run_storeCells_at P b off e us 0 cs w h2 (by rw [hr.1,hcs];simpa using hoff) DA;simp only [Nat.add_zero] at hst;have hbl:w0.heap.size≤b:=(hs.fresh id _ b ho ((h3 b).2 rfl)).1;refine ⟨_,hst,hs.TI ho (iy b _ hbl) (fun k hk=>setRow_other w b k _ fun ek=>hk ((h3 k).2 ek)) ?_⟩;refine ⟨b,_,e,hb,setRow_heap w b cs _ e (0,0) h2,h3,?_⟩;have hl:=xO h4 hr hoff
 have hst':∀ k,aH S.aj fp w k→aH ((id,Ob.box .mem (setAt ls off r'))::S.aj) fp (w.setRow b (cs.toList.take off++us++cs.toList.drop (off+us.length)).toArray) k∧(w.setRow b (cs.toList.take off++us++cs.toList.drop (off+us.length)).toArray).heap[k]?=w.heap[k]?:=fun k hk=>by
  refine ⟨⟨by simpa using hk.1,fun j ob hj=>?_⟩,setRow_other w b k _ fun ek=>hk.2 id _ ho ((h3 k).2 ek)⟩;rw [aQ] at hj;split at hj
  ·rename_i ej;subst ej;exact hk.2 j _ ho
  ·exact hk.2 j ob hj
 refine hl.tr hst' fun j _=>⟨rfl,fun t xs sh hj=>?_⟩
 rw [aQ] at hj;split at hj
 ·cases hj
 ·rename_i ej
  exact ⟨hj,fun k hk=>⟨hk,setRow_other w b k _ fun ek=>ej (hs.eH j id _ _ k hj ho hk ((h3 k).2 ek))⟩⟩
def Yt (K:Cd C) (w0 w:World) (S:St C) (fp:Nat→Nat→Prop) (O:cm C) (n:Nat) (vs:List Value) (ls':List (Lf C)) (S':St C) (b:Bool):Prop:=
  S'.env=S.env∧S'.base=S.base∧(∀ id ob,lk S'.aj id=some ob→lk O id=some ob)∧ls'.length=n ∧
  ∃ G:Nat→Nat→Prop,(∀ i k,G i k→∃ id ob,lk O id=some ob∧lk S'.aj id=none∧fp id k)∧(∀ i j k,G i k→G j k→i=j) ∧
   ∀ (i:Nat) (l:Lf C),ls'[i]?=some l→(b=false→Own K w w0.heap.size (G i) l (vs.getD i undef))∧gU K w (fun k=>aH S.aj fp w k∨G i k) l (vs.getD i undef)
theorem qi (hs:cK X.K w0 nt S β fp a w):∀ (ls:List (Lf C)) (vs:List Value) (O:cm C) (ls':List (Lf C)) (S':St C) (b:Bool),(∀ id ob,lk O id=some ob→lk S.aj id=some ob) →
  cV { S with aj:=O } ls=some (ls',S',b)→cg X.K w S.aj β fp (aH S.aj fp w) ls vs→Yt X.K w0 w S fp O ls.length vs ls' S' b:=by
 intro ls
 induction ls with
 | nil=>
  intro vs O ls' S' b hO h hl;simp only [cV,Option.some.injEq,Prod.mk.injEq] at h;obtain ⟨rfl,rfl,rfl⟩:=h;exact ⟨rfl,rfl,fun _ _ h=>h,rfl,fun _ _=>False,fun _ _ h=>h.elim,fun _ _ _ h=>h.elim,fun i l h=>by simp at h⟩
 | cons l ls ih=>
  intro vs O ls' S' b hO h hl
  obtain ⟨u,us,rfl⟩:∃ u us,vs=u::us:=by
   cases vs with
   | nil=>have:=hl.1;simp at this
   | cons u us=>exact ⟨u,us,rfl⟩
  have hl0:cI X.K w S.aj β fp (aH S.aj fp w) l u:=hl.2 0 l rfl;have hl1:cg X.K w S.aj β fp (aH S.aj fp w) ls us:=⟨by have:=hl.1;simpa using this,fun i l' hi=>hl.2 (i+1) l' (by simpa using hi)⟩
  have IB:∀ (l1:Lf C) (sh:Bool) (q:Option (List (Lf C)×St C×Bool)),(∀ F,(sh=false→Own X.K w w0.heap.size F l1 u))→gU X.K w (aH S.aj fp w) l1 u →
    cV { S with aj:=O } ls=q→∀ EZ S1 b1,q=some (EZ,S1,b1)→ls'=l1::EZ→S'=S1→b=(b1||sh)→Yt X.K w0 w S fp O (l::ls).length (u::us) ls' S' b:=by
   intro l1 sh q hown nJ hq EZ S1 b1 e1 e2 e3 e4;subst e1 e2 e3 e4;obtain ⟨g1,g1',g2,g3,G,g4,g5,g6⟩:=ih us O EZ _ b1 hO hq hl1;refine ⟨g1,g1',g2,by simp [g3],fun i k=>match i with | 0=>False | i+1=>G i k,fun i k hk=>?_,fun i j k hi hj=>?_,fun i l' hi=>?_⟩
   ·cases i with
    | zero=>exact hk.elim
    | succ i=>exact g4 i k hk
   ·cases i with
    | zero=>exact hi.elim
    | succ i=>cases j with
     | zero=>exact hj.elim
     | succ j=>rw [g5 i j k hi hj]
   ·cases i with
    | zero=>
     simp at hi;subst hi;refine ⟨fun hb=>hown _ ?_,nJ.mono fun k hk=>.inl hk⟩;cases sh<;>simp at hb ⊢
    | succ i=>
     have:=g6 i l' (by simpa using hi);refine ⟨fun hb=>this.1 ?_,this.2⟩;cases b1<;>simp at hb ⊢
  cases l with
  | ref id p=>
   cases p with
   | cons s p=>simp [cV] at h
   | nil=>
    simp only [cV] at h;split at h
    ·rename_i t xs ho
     split at h
     ·rename_i r' S1 b1 hr
      simp only [Option.some.injEq,Prod.mk.injEq] at h;obtain ⟨rfl,rfl,rfl⟩:=h
      have hrm:∀ i ob,lk (rm O id) i=some ob→lk O i=some ob∧i≠id:=fun i ob hi=>by
       rw [lM] at hi;split at hi
       ·cases hi
       ·rename_i e;exact ⟨hi,e⟩
      obtain ⟨g1,g1',g2,g3,G,g4,g5,g6⟩:=ih us (rm O id) r' S1 b1 (fun i ob hi=>hO i ob (hrm i ob hi).1) hr hl1;have fW:Own X.K w w0.heap.size (fp id) (.row t xs) (β id):=hs.aj id _ (hO _ _ ho);have hu:u=β id:=hl0.2;subst hu
      have AU:lk S1.aj id=none:=by
       cases e:lk S1.aj id with
       | none=>rfl
       | some ob=>exact absurd rfl (hrm id ob (g2 id ob e)).2
      refine ⟨g1,g1',fun i ob hi=>(hrm i ob (g2 i ob hi)).1,by simp [g3],fun i k=>match i with | 0=>fp id k | i+1=>G i k,fun i k hk=>?_,fun i j k hi hj=>?_,fun i l' hi=>?_⟩
      ·cases i with
       | zero=>exact ⟨id,_,ho,AU,hk⟩
       | succ i=>
        obtain ⟨j,ob,h1,h2,h3⟩:=g4 i k hk;exact ⟨j,ob,(hrm j ob h1).1,h2,h3⟩
      ·cases i with
       | zero=>cases j with
        | zero=>rfl
        | succ j=>
         obtain ⟨j',ob,h1,h2,h3⟩:=g4 j k hj;have h1:=hrm j' ob h1;exact absurd (hs.eH j' id _ _ k (hO _ _ h1.1) (hO _ _ ho) h3 hi) h1.2
       | succ i=>cases j with
        | zero=>
         obtain ⟨j',ob,h1,h2,h3⟩:=g4 i k hi;have h1:=hrm j' ob h1;exact absurd (hs.eH j' id _ _ k (hO _ _ h1.1) (hO _ _ ho) h3 hj) h1.2
        | succ j=>rw [g5 i j k hi hj]
      ·cases i with
       | zero=>simp at hi;subst hi;exact ⟨fun _=>fW,fW.rep.mono fun k hk=>.inr hk⟩
       | succ i=>exact g6 i l' (by simpa using hi)
     ·cases h
    ·cases h
  | nil t=>
   simp only [cV] at h;split at h
   ·rename_i r' S1 b1 hr
    simp only [Option.some.injEq,Prod.mk.injEq] at h;obtain ⟨rfl,rfl,rfl⟩:=h;have hu:u = .slice none 0 0:=hl0;subst hu;refine IB (.row t []) false _ (fun F _=>?_) ?_ hr _ _ _ rfl rfl rfl (by simp)
    ·exact .row F t [] _ [] (fun _ _ _=>False) (World.ownsRow_nil ..) (fun g hg=>by simp [Value.ownBlock] at hg) (fun _ _ _ h=>h.elim) (fun _ _ _ _ _ h=>h.elim) (fun j hj=>absurd hj (by simp))
    ·exact .row t [] none 0 default (fun _=>undef) (Nat.le_refl _) (fun h=>absurd rfl h) (fun h=>absurd rfl h) (fun j hj=>absurd hj (by simp))
   ·cases h
  | row t xs=>
   simp only [cV] at h;split at h
   ·rename_i r' S1 b1 hr
    simp only [Option.some.injEq,Prod.mk.injEq] at h;obtain ⟨rfl,rfl,rfl⟩:=h;exact IB (.row t xs) true _ (fun F h=>by cases h) hl0 hr _ _ _ rfl rfl rfl (by simp)
   ·cases h
  | int ki n=>
   simp only [cV] at h;split at h
   ·rename_i r' S1 b1 hr
    simp only [Option.some.injEq,Prod.mk.injEq] at h;obtain ⟨rfl,rfl,rfl⟩:=h;have hu:u=_:=hl0;subst hu;exact IB (.int ki n) false _ (fun F _=>.int ..) (.int ..) hr _ _ _ rfl rfl rfl (by simp)
   ·cases h
  | bool c=>
   simp only [cV] at h;split at h
   ·rename_i r' S1 b1 hr
    simp only [Option.some.injEq,Prod.mk.injEq] at h;obtain ⟨rfl,rfl,rfl⟩:=h;have hu:u=_:=hl0;subst hu;exact IB (.bool c) false _ (fun F _=>.bool ..) (.bool ..) hr _ _ _ rfl rfl rfl (by simp)
   ·cases h
  | str c=>
   simp only [cV] at h;split at h
   ·rename_i r' S1 b1 hr
    simp only [Option.some.injEq,Prod.mk.injEq] at h;obtain ⟨rfl,rfl,rfl⟩:=h;have hu:u=_:=hl0;subst hu;exact IB (.str c) false _ (fun F _=>.str ..) (.str ..) hr _ _ _ rfl rfl rfl (by simp)
   ·cases h
  | dP c=>
   simp only [cV] at h;split at h
   ·rename_i r' S1 b1 hr
    simp only [Option.some.injEq,Prod.mk.injEq] at h;obtain ⟨rfl,rfl,rfl⟩:=h;have hu:u=_:=hl0;subst hu;exact IB (.dP c) false _ (fun F _=>.dP ..) (.dP ..) hr _ _ _ rfl rfl rfl (by simp)
   ·cases h
  | lZ n=>
   cases n with
   | map=>simp [cV] at h
   | mF=>
    simp only [cV] at h;split at h
    ·rename_i r' S1 b1 hr
     simp only [Option.some.injEq,Prod.mk.injEq] at h;obtain ⟨rfl,rfl,rfl⟩:=h;have hu:u = .nilIface:=hl0;rw [←UX] at hu;subst hu;exact IB (.dP (some og)) false _ (fun F _=>.dP ..) (.dP ..) hr _ _ _ rfl rfl rfl (by simp)
    ·cases h
  | _=>simp [cV] at h
end
section
variable {Ty:Type} {C:Ty→Type}
variable {K:Cd C} {w0 w:World} {nt:Nat} {S:St C} {β:Nat→Value} {fp:Nat→Nat→Prop} {a:Act}
def Dl (w w':World) (aj dO:cm C) (β eG:Nat→Value) (id:Nat):Prop:=
 eG id=β id∧∀ t xs sh,lk dO id=some (.row t xs sh)→∃ Hn gA,lk aj id=some (.row t Hn gA)∧xs.length=Hn.length
theorem cI.LG {w w':World} {aj dO:cm C} {β eG:Nat→Value} {fp eD:Nat→Nat→Prop} {b8 ey:Nat→Prop} {l:Lf C} {v:Value} {d:Nat}
  (h:cI K w aj β fp b8 l v) (hst:∀ k,b8 k→ey k∧w'.heap[k]?=w.heap[k]?) (iQ:∀ id,id∈fF l→id≠d→iT w w' aj dO β eG fp eD id) (hd:Dl w w' aj dO β eG d) (hn:lR d l=false):cI K w' dO eG eD ey l v:=by
 by_cases hm:d∈fF l
 ·cases l with
  | ptr id off=>
   simp only [fF,List.mem_singleton] at hm;subst hm;obtain ⟨b,h1,h2⟩:=h;exact ⟨b,hd.1.trans h1,h2⟩
  | vo id=>
   simp only [fF,List.mem_singleton] at hm;subst hm;exact ⟨h.1,h.2.trans hd.1.symm⟩
  | ref id p=>
   simp only [fF,List.mem_singleton] at hm;subst hm
   cases p with
   | nil=>exact ⟨h.1,h.2.trans hd.1.symm⟩
   | cons s p=>simp [lR,Nat.beq_refl] at hn
  | ep id p i o=>
   simp only [fF,List.mem_singleton] at hm;subst hm
   cases p with
   | nil=>
    refine ⟨h.1,fun t xs sh ho=>?_⟩;obtain ⟨Hn,gA,h1,h2⟩:=hd.2 t xs sh ho;rw [h2,hd.1];exact h.2 t Hn gA h1
   | cons s p=>simp [lR,Nat.beq_refl] at hn
  | sub id lo hi=>
   simp only [fF,List.mem_singleton] at hm;subst hm;refine ⟨h.1,fun t xs sh ho=>?_⟩;obtain ⟨Hn,gA,h1,h2⟩:=hd.2 t xs sh ho;rw [h2,hd.1];exact h.2 t Hn gA h1
  | _=>simp [fF] at hm
 ·exact h.tr hst fun id hi=>iQ id hi fun e=>hm (by subst e;exact hi)
theorem cg.LG {w w':World} {aj dO:cm C} {β eG:Nat→Value} {fp eD:Nat→Nat→Prop} {b8 ey:Nat→Prop} {ls:List (Lf C)} {vs:List Value} {d:Nat}
  (h:cg K w aj β fp b8 ls vs) (hst:∀ k,b8 k→ey k∧w'.heap[k]?=w.heap[k]?) (iQ:∀ id,id∈dY ls→id≠d→iT w w' aj dO β eG fp eD id) (hd:Dl w w' aj dO β eG d) (hn:ls.any (lR d)=false):cg K w' dO eG eD ey ls vs:=
 ⟨h.1,fun i l hl=>(h.2 i l hl).LG hst (fun id hi=>iQ id (eK hl hi)) hd (by
  have:=List.any_eq_false.1 hn l (List.mem_of_getElem? hl)
  simpa using this)⟩
theorem dq.LG {w w':World} {aj dO:cm C} {β eG:Nat→Value} {fp eD:Nat→Nat→Prop} {b8 ey:Nat→Prop} {x:SV C} {v:Value} {d:Nat}
  (h:dq K w aj β fp b8 x v) (hst:∀ k,b8 k→ey k∧w'.heap[k]?=w.heap[k]?) (iQ:∀ id,id∈fP x→id≠d→iT w w' aj dO β eG fp eD id) (hd:Dl w w' aj dO β eG d) (hn:yn d x=false):dq K w' dO eG eD ey x v:=by
 cases x with
 | one l=>exact cI.LG h hst iQ hd hn
 | agg ls=>obtain ⟨vs,h1,h2⟩:=h;exact ⟨vs,h1,h2.LG hst iQ hd hn⟩
 | rC xs=>
  obtain ⟨vs,h1,h2,h3⟩:=h;refine ⟨vs,h1,h2,fun i x hx=>?_⟩
  have hm:∀ id,id∈dY x.2→id∈vr xs:=by
   clear h3 h2 h1 iQ hn
   induction xs generalizing i with
   | nil=>simp at hx
   | cons y r ih=>
    intro id hi;obtain ⟨b,ls⟩:=y;simp only [vr,List.mem_append]
    cases i with
    | zero=>simp at hx;subst hx;exact .inl hi
    | succ i=>simp at hx;exact .inr (ih i hx id hi)
  have qv:x.2.any (lR d)=false:=by
   have:=List.any_eq_false.1 hn x (List.mem_of_getElem? hx)
   simpa using this
  have:=h3 i x hx;obtain ⟨b,ls⟩:=x
  cases b with
  | false=>
   obtain ⟨l,h1,h2⟩:=this;subst h1;exact ⟨l,rfl,h2.LG hst (fun id hi=>iQ id (hm id (by simpa [dY] using hi))) hd (by simpa using qv)⟩
  | true=>obtain ⟨vs,h1,h2⟩:=this;exact ⟨vs,h1,h2.LG hst (fun id hi=>iQ id (hm id hi)) hd qv⟩
 | lX=>exact h
 | jo id j=>
  by_cases e:id=d
  ·subst e;exact hd.1.trans h
  ·exact (iQ id (by simp [fP]) e).1.trans h
 | frame=>exact fun k hk=>⟨(hst k (h k hk).1).1,(hst k (h k hk).1).2.trans (h k hk).2⟩
 | bz x j=>
  obtain ⟨b,ls⟩:=x;have qv:ls.any (lR d)=false:=hn
  cases b with
  | false=>
   obtain ⟨l,h1,h2⟩:=h;have h1:ls=[l]:=h1;subst h1;exact ⟨l,rfl,h2.LG hst (fun id hi=>iQ id (by simpa [fP,dY] using hi)) hd (by simpa using qv)⟩
  | true=>obtain ⟨vs,h1,h2⟩:=h;exact ⟨vs,h1,h2.LG hst (fun id hi=>iQ id hi) hd qv⟩
theorem cK.vI (h:cK K w0 nt S β fp a w) {O1:cm C} (hO:∀ j ob,lk O1 j=some ob→lk S.aj j=some ob) {id:Nat} {t:Ty} {xs xs':List (C t)} {sh sh':Bool}
  (ho:lk O1 id=some (.row t xs sh)) (hlen:xs'.length=xs.length) {F':Nat→Prop} (hF:∀ k,F' k→fp id k∨∃ j ob,lk S.aj j=some ob∧lk O1 j=none∧fp j k)
  {w':World} (hw:Below w0.heap.size w w') (hb:∀ k,¬ fp id k→w'.heap[k]?=w.heap[k]?)
  (fW:lj K w' w0.heap.size ((id,.row t xs' sh')::O1) β (upd fp id F') (aH ((id,.row t xs' sh')::O1) (upd fp id F') w') F' (.row t xs' sh') (β id))
  (Fq:∀ j kd ls,lk O1 j=some (.box kd ls)→ls.any (lR id)=false) {E:List (Nat×SV C)} (hE:∀ t v,lk E t=some v→lk S.env t=some v∧yn id v=false) (bs:Nat) :
  cK K w0 nt ⟨E,(id,.row t xs' sh')::O1,bs⟩ β (upd fp id F') a w':=by
 have hlk:∀ j ob,lk ((id,Ob.row t xs' sh')::O1) j=some ob→j≠id→lk O1 j=some ob:=fun j ob hj hne=>by rw [aQ,if_neg hne] at hj;exact hj
 have hap:∀ j ob k,lk O1 j=some ob→j≠id→fp j k→¬ F' k:=fun j ob k hj hne hk hf=>by
  rcases hF k hf with h1 | ⟨j',dR,h1,h2,h3⟩
  ·exact hne (h.eH j id ob _ k (hO j ob hj) (hO id _ ho) hk h1)
  ·have:=h.eH j j' ob dR k (hO j ob hj) h1 hk h3
   subst this;rw [hj] at h2;cases h2
 have hst:∀ k,aH S.aj fp w k→aH ((id,Ob.row t xs' sh')::O1) (upd fp id F') w' k∧w'.heap[k]?=w.heap[k]?:=fun k hk=>by
  refine ⟨⟨Nat.lt_of_lt_of_le hk.1 hw.size,fun j ob hj=>?_⟩,hb k (hk.2 id _ (hO _ _ ho))⟩
  by_cases e:j=id
  ·subst e
   rw [cz];intro hf
   rcases hF k hf with h1 | ⟨j',dR,h1,h2,h3⟩
   ·exact hk.2 j _ (hO _ _ ho) h1
   ·exact hk.2 j' _ h1 h3
  ·rw [dt _ _ e]
   exact hk.2 j ob (hO _ _ (hlk j ob hj e))
 have hkp:∀ j,j≠id→iT w w' S.aj ((id,Ob.row t xs' sh')::O1) β β fp (upd fp id F') j:=fun j e=>by
  refine ⟨rfl,fun t0 Hn gA hj=>?_⟩;have iK:=hlk j _ hj e;exact ⟨hO _ _ iK,fun k hk=>⟨by rw [dt _ _ e];exact hk,hb k fun hk'=>e (h.eH j id _ _ k (hO _ _ iK) (hO _ _ ho) hk hk')⟩⟩
 have hkd:Dl w w' S.aj ((id,Ob.row t xs' sh')::O1) β β id:=by
  refine ⟨rfl,fun t0 Hn gA hj=>?_⟩;rw [aQ,if_pos rfl] at hj;cases hj;exact ⟨xs,sh,hO _ _ ho,hlen⟩
 refine ⟨h.below.trans hw,h.defers,h.size,fun j ob k hj hk=>?_,fun i j oi oj k hi hj lq kE=>?_,fun j ob hj=>?_,fun t v ht=>(h.env t v (hE t v ht).1).LG hst (fun i _ e=>hkp i e) hkd (hE t v ht).2⟩
 ·have hsz:=hw.size
  by_cases e:j=id
  ·subst e
   rw [cz] at hk
   rcases hF k hk with h1 | ⟨j',dR,h1,h2,h3⟩
   ·have:=h.fresh j _ k (hO _ _ ho) h1;omega
   ·have:=h.fresh j' _ k h1 h3;omega
  ·rw [dt _ _ e] at hk
   have:=h.fresh j ob k (hO _ _ (hlk j ob hj e)) hk;omega
 ·by_cases ei:i=id<;>by_cases ej:j=id
  ·rw [ei,ej]
  ·subst ei
   rw [cz] at lq;rw [dt _ _ ej] at kE;exact absurd lq (hap j oj k (hlk j oj hj ej) ej kE)
  ·subst ej
   rw [cz] at kE;rw [dt _ _ ei] at lq;exact absurd kE (hap i oi k (hlk i oi hi ei) ei lq)
  ·rw [dt _ _ ei] at lq
   rw [dt _ _ ej] at kE;exact h.eH i j oi oj k (hO _ _ (hlk i oi hi ei)) (hO _ _ (hlk j oj hj ej)) lq kE
 ·by_cases e:j=id
  ·subst e
   have:ob = .row t xs' sh':=by simp only [aQ,if_pos] at hj;cases hj;rfl
   subst this;rw [cz];exact fW
  ·have iK:=hlk j ob hj e
   rw [dt _ _ e];have nK:=h.aj j ob (hO _ _ iK)
   have Nt:∀ k,fp j k→w'.heap[k]?=w.heap[k]?:=fun k hk'=>hb k fun hk''=>e (h.eH j id _ _ k (hO _ _ iK) (hO _ _ ho) hk' hk'')
   cases ob with
   | box kd ls=>cases kd with
    | mem=>
     obtain ⟨b,cs,e',h1,h2,h3,h4⟩:=nK;exact ⟨b,cs,e',h1,(Nt b ((h3 b).2 rfl)).trans h2,h3,h4.LG hst (fun i _ e=>hkp i e) hkd (Fq j _ ls iK)⟩
    | gV f n sh=>obtain ⟨us,h1,h2,h3⟩:=nK;exact ⟨us,h1,h2,h3.LG hst (fun i _ e=>hkp i e) hkd (Fq j _ ls iK)⟩
    | mF t sh=>obtain ⟨us,h1,h2,h3⟩:=nK;exact ⟨us,h1,h2,h3.LG hst (fun i _ e=>hkp i e) hkd (Fq j _ ls iK)⟩
   | row t0 Hn gA=>exact nK.tr (dO:=(id,Ob.row t xs' sh')::O1) (eG:=β) (eD:=upd fp id F') hst Nt (fun _ ls els=>by cases els)
   | map mk kt vt ys c=>exact nK.tr (dO:=(id,Ob.row t xs' sh')::O1) (eG:=β) (eD:=upd fp id F') hst Nt (fun _ ls els=>by cases els)
   | ghost=>exact nK.tr (dO:=(id,Ob.row t xs' sh')::O1) (eG:=β) (eD:=upd fp id F') hst Nt (fun _ ls els=>by cases els)
theorem jT {P:Program} {base:Nat} {e:TypeId} {size n cap g:Nat} {cells:List Value} (h:w.ownsRow base e size (.slice (some ⟨g,0,none⟩) n cap) n cells) {m:Nat} {vs:List Value} (hm:m+vs.length≤n*size) (h1:∀ v∈vs,v.oneCell'=true) :
  ∃ kr,(storeCells ⟨g,m,none⟩ vs).run P w = .ok () (w.setRow g kr)∧(w.setRow g kr).ownsRow base e size (.slice (some ⟨g,0,none⟩) n cap) n (cells.take m++vs++cells.drop (m+vs.length)):=by
 obtain ⟨hl,h2⟩:=h
 rcases h2 with ⟨h2,_⟩ | ⟨g',cap',cur,h2,hb,hh,hn,hc,hs,ht⟩
 ·cases h2
 ·cases h2
  have hle:n*size≤cap*size:=Nat.mul_le_mul_right _ hn;have hst:=run_storeCells_at P g m e vs 0 cur w hh (by rw [hs];simp;omega) h1;simp only [Nat.add_zero] at hst;refine ⟨_,hst,?_,.inr ⟨g,cap,_,rfl,hb,setRow_heap w g cur _ e (0,0) hh,hn,hc,?_,?_⟩⟩
  ·simp;omega
  ·simp;omega
  ·rw [←ht]
   apply List.ext_getElem?;intro i
   have hcl:cur.toList.length=cap*size:=by simpa using hs
   have hlen:m+vs.length≤(cur.toList.take (n*size)).length:=by rw [List.length_take,hcl];omega
   have hlen':m+vs.length≤cur.toList.length:=by rw [hcl];omega
   rw [fZ hlen,List.getElem?_take];simp only [List.toList_toArray];rw [fZ hlen'];simp only [List.getElem?_take]
   by_cases hi:i<n*size
   ·simp [hi]
   ·have hi1:¬ i<m:=by omega
    have hi2:¬ i<m+vs.length:=by omega
    simp [hi,hi1,hi2]
end
section
variable {Ty:Type} [DecidableEq Ty] {C:Ty→Type}
variable {P:Program} {X:Cx C} {w0 w:World} {nt:Nat} {S:St C} {β:Nat→Value} {fp:Nat→Nat→Prop} {a:Act} {R:Type} {k:St C→Option R} {r:R}
variable {dst:Option Tmp} {ty:TypeId} {pos:String} {dG:Array Edge} {gd:Option (Nat×Bool)} {Q:Exit→Act→World→Prop}
theorem xG {base:Nat} {aj:cm C} {b8 F:Nat→Prop} {t:Ty} {xs:List (C t)} {sh:Bool} {K:Cd C} {v:Value} (h:lj K w base aj β fp b8 F (.row t xs sh) v) :
  ∃ cells,w.ownsRow base (K.tid t) (K.sz t) v xs.length cells∧(∀ g,v.ownBlock=some g→F g):=by
 cases sh with
 | false=>cases h with
  | row _ _ _ _ cells G h h1=>exact ⟨cells,h,h1⟩
 | true=>obtain ⟨cells,h1,h2,_⟩:=h;exact ⟨cells,h1,fun g hg=>(h2 g).2 hg⟩
theorem MD {s i j o o':Nat} (ho:o<s) (gW:o'<s) (h:i*s+o=j*s+o'):i=j∧o=o':=by
 have h1:(i*s+o) / s=i:=by rw [Nat.add_comm,Nat.add_mul_div_right _ _ (by omega),Nat.div_eq_of_lt ho,Nat.zero_add]
 have h2:(j*s+o') / s=j:=by rw [Nat.add_comm,Nat.add_mul_div_right _ _ (by omega),Nat.div_eq_of_lt gW,Nat.zero_add]
 have:i=j:=by rw [←h1,← h2,h]
 subst this;exact ⟨rfl,by omega⟩
theorem mm {b b':Nat} {e e':TypeId} {s n n':Nat} {v:Value} {c c':List Value} (h:w.ownsRow b e s v n c) (h':w.ownsRow b' e' s v n' c'):c=c':=by
 obtain ⟨l,h⟩:=h;obtain ⟨l',h'⟩:=h'
 rcases h with ⟨rfl,rfl⟩ | ⟨g,cap,cur,rfl,_,hh,_,_,_,ht⟩
 ·rcases h' with ⟨_,rfl⟩ | ⟨g',_,_,e,_⟩
  ·have e1:c=[]:=List.eq_nil_of_length_eq_zero (by simpa using l)
   have e2:c'=[]:=List.eq_nil_of_length_eq_zero (by simpa using l');rw [e1,e2]
  ·cases e
 ·rcases h' with ⟨e,_⟩ | ⟨g',cap',kr,e,_,hh',_,_,_,nq⟩
  ·cases e
  ·cases e
   rw [hh] at hh';cases hh';rw [←ht,← nq]
theorem LK (hs:cK X.K w0 nt S β fp a w) {id i off:Nat} {ls ls':List (Lf C)} {us:List Value} {S1:St C} {b:Bool} {t:Ty} {xs:List (C t)} {sh:Bool} {x y:C t} {v:Value}
  (hv:cI X.K w S.aj β fp (aH S.aj fp w) (.ep id [] i off) v) (hl:cg X.K w S.aj β fp (aH S.aj fp w) ls us) (hab:cV S ls=some (ls',S1,b))
  (ho:lk S1.aj id=some (.row t xs sh)) (hbs:(b && !sh)=false) (hx:xs[i]?=some x) (CO:X.K.dec t (setAt (X.K.enc t x) off ls')=some y) (hoff:off+ls.length≤X.K.sz t)
  (Fm:S1.aj.any (fun x=>Bf id x.2)=false) :
  ∃ p w',v = .pointer (some p)∧(storeCells p us).run P w = .ok () w'∧∃ F',cK X.K w0 nt { S1.setObj id (.row t (xs.set i y) sh) with env:=jr id S1.env } β (upd fp id F') a w':=by
 obtain ⟨g1,g1',g2,g3,G,g4,g5,g6⟩:=qi hs ls us S.aj ls' S1 b (fun _ _ h=>h) hab hl;have hoS:=g2 id _ ho;obtain ⟨_,hep⟩:=hv;obtain ⟨hi,q,m,c,hq,hvq⟩:=hep t xs sh hoS;have fW:=hs.aj id _ hoS;have henc:X.K.enc t y=setAt (X.K.enc t x) off ls':=X.K.jD t _ _ CO;have hlx:=X.K.gH t x
 have WT:off+ls'.length≤(X.K.enc t x).length:=by rw [g3,hlx];exact hoff
 have hus1:us.length=ls'.length:=by rw [g3];exact hl.1
 have DA:∀ v∈us,v.oneCell'=true:=fun v hv=>by
  obtain ⟨j,hj,rfl⟩:=List.getElem_of_mem hv
  have iK:j<ls'.length:=by omega
  have:=(g6 j ls'[j] (by simp [iK])).2
  have e:us.getD j undef=us[j]:=by simp [List.getD,hj]
  rw [e] at this;exact this.one
 have rD:xs[i]=x:=by simpa [List.getElem?_eq_getElem hi] using hx
 have hlen:(xs.set i y).length=xs.length:=by simp
 have Qi:∀ o k,G o k→¬ fp id k∧k<w.heap.size∧(∀ j ob,lk S1.aj j=some ob→¬ fp j k):=fun o k hk=>by
  obtain ⟨j,ob,h1,h2,h3⟩:=g4 o k hk;refine ⟨fun h4=>?_,(hs.fresh j ob k h1 h3).2,fun j' dR h4 h5=>?_⟩
  ·have:=hs.eH j id ob _ k h1 hoS h3 h4
   subst this;rw [ho] at h2;cases h2
  ·have:=hs.eH j j' ob dR k h1 (g2 _ _ h4) h3 h5
   subst this;rw [h4] at h2;cases h2
 obtain ⟨gP,hown0,US⟩:=xG fW;obtain ⟨g,cap,e,hbg,hnc,hcell⟩:=kJ hown0 (Nat.mul_pos (by omega) (X.K.pos t));rw [hq] at e;cases e;have hFg:fp id g:=US g (by rw [hq];rfl);have WX:w0.heap.size≤g:=hbg
 have hm:i*X.K.sz t+off+us.length≤xs.length*X.K.sz t:=by
  have:i*X.K.sz t+X.K.sz t≤xs.length*X.K.sz t:=by rw [←Nat.succ_mul];exact Nat.mul_le_mul_right _ hi
  rw [hus1,g3];omega
 have gB:(⟨g,0,none⟩:Addr).add (i*X.K.sz t+off)=⟨g,i*X.K.sz t+off,none⟩:=by rw [iq];simp
 have Fq:∀ j kd ls,lk S1.aj j=some (.box kd ls)→ls.any (lR id)=false:=fun j kd0 Dz hj=>by
  have:∀ (O:cm C),O.any (fun x=>Bf id x.2)=false→lk O j=some (.box kd0 Dz)→Dz.any (lR id)=false:=by
   intro O
   induction O with
   | nil=>intro _ h;simp [lk] at h
   | cons y r ih=>
    intro h1 h2;obtain ⟨n,u⟩:=y;rw [aQ] at h2;simp only [List.any_cons,Bool.or_eq_false_iff] at h1;split at h2
    ·cases h2;exact h1.1
    ·exact ih h1.2 h2
  exact this _ Fm hj
 have J4:∀ (E:List (Nat×SV C)) t v,lk (jr id E) t=some v→lk E t=some v∧yn id v=false:=by
  intro E
  induction E with
  | nil=>intro t v h;simp [jr,lk] at h
  | cons y r ih=>
   intro t v h;obtain ⟨n,u⟩:=y;simp only [jr] at h
   cases hd:yn id u with
   | true=>
    rw [hd,cond_true] at h;rw [lM] at h;split at h
    ·cases h
    ·rename_i e
     rw [aQ,if_neg e];exact ih t v h
   | false=>
    rw [hd,cond_false,aQ] at h;rw [aQ];split at h
    ·rename_i e;rw [if_pos e];cases h;exact ⟨rfl,hd⟩
    ·rename_i e;rw [if_neg e];exact ih t v h
 obtain ⟨kr,hrun,hown'⟩:=jT (P:=P) (by rw [hq] at hown0;exact hown0) hm DA
 have ZU:∀ k,k≠g→(w.setRow g kr).heap[k]?=w.heap[k]?:=fun k h=>setRow_other w g k kr h
 have o8:∀ j o,j<xs.length→o<X.K.sz t→(gP.take (i*X.K.sz t+off)++us++gP.drop (i*X.K.sz t+off+us.length)).getD (j*X.K.sz t+o) undef =
   if j=i∧off≤o∧o<off+us.length then us.getD (o-off) undef else gP.getD (j*X.K.sz t+o) undef:=by
  intro j o hj gW
  have hcl:i*X.K.sz t+off+us.length≤gP.length:=by rw [hown0.1];exact hm
  rw [List.getD_eq_getElem?_getD,fZ hcl]
  by_cases Nr:j=i
  ·subst Nr
   by_cases h1:off≤o
   ·by_cases h2:o<off+us.length
    ·rw [if_neg (by omega),if_pos (by omega),if_pos ⟨rfl,h1,h2⟩]
     rw [List.getD_eq_getElem?_getD]
     congr 2
     omega
    ·rw [if_neg (by omega),if_neg (by omega),if_neg (by omega),← List.getD_eq_getElem?_getD]
   ·rw [if_pos (by omega),if_neg (by omega),← List.getD_eq_getElem?_getD]
  ·rw [if_neg (show ¬ (j=i∧off≤o∧o<off+us.length) from fun h=>Nr h.1)]
   have hne:∀ o1,o1<X.K.sz t→j*X.K.sz t+o≠i*X.K.sz t+o1:=fun o1 h1 e=>Nr (MD gW h1 e).1
   rcases Nat.lt_or_ge (j*X.K.sz t+o) (i*X.K.sz t) with h1 | h1
   ·rw [if_pos (by omega),← List.getD_eq_getElem?_getD]
   ·have:i*X.K.sz t+X.K.sz t≤j*X.K.sz t+o:=by
     rcases Nat.lt_or_ge (j*X.K.sz t+o) (i*X.K.sz t+X.K.sz t) with h2 | h2
     ·exact absurd (show j*X.K.sz t+o=i*X.K.sz t+(j*X.K.sz t+o-i*X.K.sz t) by omega) (hne _ (by omega))
     ·exact h2
    rw [if_neg (by omega),if_neg (by omega),← List.getD_eq_getElem?_getD]
 have WZ:∀ o l,(X.K.enc t y)[o]?=some l→o<X.K.sz t∧((off≤o∧o<off+us.length∧ls'[o-off]?=some l)∨(¬ (off≤o∧o<off+us.length)∧(X.K.enc t x)[o]?=some l)):=by
  intro o l Z6;have gW:=iH Z6;refine ⟨gW,?_⟩;rw [henc,mO _ _ _ WT,fZ WT] at Z6;rw [hus1];split at Z6
  ·exact .inr ⟨by omega,Z6⟩
  ·split at Z6
   ·exact .inl ⟨by omega,by omega,Z6⟩
   ·exact .inr ⟨by omega,Z6⟩
 refine ⟨_,w.setRow g kr,hvq,by rw [gB];exact hrun,?_⟩
 cases sh with
 | false=>
  have hb:b=false:=by cases b<;>simp at hbs ⊢
  cases fW with
  | row _ _ _ _ cells G0 h0 h1 h2 h3 h4=>
   have hcells:cells=gP:=mm h0 hown0;subst hcells;refine ⟨fun k=>fp id k∨∃ o,G o k,?_⟩;refine hs.vI g2 ho hlen (F':=fun k=>fp id k∨∃ o,G o k) (fun k hk=>hk.imp (fun h=>h) fun ⟨o,hk⟩=>g4 o k hk) (iy g kr WX) (fun k hk=>ZU k fun e=>hk (by rw [e];exact hFg)) ?_ Fq (fun t v h=>by rw [←g1];exact J4 _ t v h) S1.base
   have W4:∀ j o k,G0 j o k→fp id k∧k≠g:=fun j o k hk=>⟨(h2 j o k hk).1,fun e=>(h2 j o k hk).2 (by rw [hq,e];rfl)⟩
   refine .row _ t (xs.set i y) _ _ (fun j o k=>if j=i∧off≤o∧o<off+us.length then G (o-off) k else G0 j o k) (by rw [hlen,hq];exact hown') (fun g' hg'=>.inl (US g' hg')) (fun j o k hk=>?_) (fun j o j' o' k hk hk'=>?_) (fun j hj o l hl'=>?_)
   ·split at hk
    ·exact ⟨.inr ⟨_,hk⟩,fun e=>(Qi _ k hk).1 (US k e)⟩
    ·exact ⟨.inl (h2 j o k hk).1,(h2 j o k hk).2⟩
   ·split at hk<;>split at hk'
    ·have:=g5 _ _ k hk hk'
     omega
    ·exact absurd (h2 j' o' k hk').1 (Qi _ k hk).1
    ·exact absurd (h2 j o k hk).1 (Qi _ k hk').1
    ·exact h3 j o j' o' k hk hk'
   ·have J5:j<xs.length:=by simpa using hj
    by_cases Nr:j=i
    ·subst Nr
     have hl':(X.K.enc t y)[o]?=some l:=by simpa using hl'
     obtain ⟨gW,hor⟩:=WZ o l hl';rw [o8 j o J5 gW]
     rcases hor with ⟨q1,q2,q3⟩ | ⟨q1,q2⟩
     ·rw [if_pos ⟨rfl,q1,q2⟩]
      refine (Own.frame ((g6 _ l q3).1 hb) (fun k hk=>ZU k fun e=>?_)).mono fun k hk=>?_
      ·subst e;exact (Qi _ _ hk).1 hFg
      ·rw [if_pos ⟨rfl,q1,q2⟩];exact hk
     ·rw [if_neg (by simp;omega)]
      refine ((h4 j J5 o l (by rw [rD];exact q2)).frame fun k hk=>ZU k (W4 j o k hk).2).mono fun k hk=>?_
      rw [if_neg (by simp;omega)];exact hk
    ·have hl':(X.K.enc t xs[j])[o]?=some l:=by
      rw [List.getElem_set_ne (fun e=>Nr e.symm)] at hl';exact hl'
     rw [o8 j o J5 (iH hl'),if_neg (by simp [Nr])];simp only [Nr,false_and,if_false]
     exact (h4 j J5 o l hl').frame fun k hk=>ZU k (W4 j o k hk).2
 | true=>
  obtain ⟨cells,h1,h2,h3⟩:=fW;have hcells:cells=gP:=mm h1 hown0;subst hcells;refine ⟨fp id,?_⟩
  have hst:∀ k,aH S.aj fp w k→aH ((id,Ob.row t (xs.set i y) true)::S1.aj) (upd fp id (fp id)) (w.setRow g kr) k∧(w.setRow g kr).heap[k]?=w.heap[k]?:=fun k hk=>by
   refine ⟨⟨by simpa using hk.1,fun j ob hj=>?_⟩,ZU k fun e=>hk.2 id _ hoS (by rw [e];exact hFg)⟩;rw [aQ] at hj
   by_cases e:j=id
   ·subst e;rw [cz];exact hk.2 j _ hoS
   ·rw [if_neg e] at hj;rw [dt _ _ e];exact hk.2 j ob (g2 j ob hj)
  have hG:∀ o k,G o k→aH ((id,Ob.row t (xs.set i y) true)::S1.aj) (upd fp id (fp id)) (w.setRow g kr) k∧(w.setRow g kr).heap[k]?=w.heap[k]?:=fun o k hk=>by
   obtain ⟨q1,q2,q3⟩:=Qi o k hk;refine ⟨⟨by simpa using q2,fun j ob hj=>?_⟩,ZU k fun e=>q1 (by rw [e];exact hFg)⟩;rw [aQ] at hj
   by_cases e:j=id
   ·subst e;rw [cz];exact q1
   ·rw [if_neg e] at hj;rw [dt _ _ e];exact q3 j ob hj
  refine hs.vI g2 ho hlen (F':=fp id) (fun k hk=>.inl hk) (iy g kr WX) (fun k hk=>ZU k fun e=>hk (by rw [e];exact hFg)) ?_ Fq (fun t v h=>by rw [←g1];exact J4 _ t v h) S1.base;refine ⟨_,by rw [hlen,hq];exact hown',h2,fun j z hz o l hl'=>?_⟩
  have hj:j<xs.length:=by have:=ee hz;simpa using this
  by_cases Nr:j=i
  ·subst Nr
   have hzy:z=y:=by simp [hj] at hz;exact hz.symm
   subst hzy;obtain ⟨gW,hor⟩:=WZ o l hl';rw [o8 j o hj gW]
   rcases hor with ⟨q1,q2,q3⟩ | ⟨q1,q2⟩
   ·rw [if_pos ⟨rfl,q1,q2⟩]
    have:=(g6 _ l q3).2
    refine (this.frame fun k hk=>?_).mono fun k hk=>?_
    ·exact hk.elim (fun h=>(hst k h).2) fun h=>(hG _ k h).2
    ·exact hk.elim (fun h=>(hst k h).1) fun h=>(hG _ k h).1
   ·rw [if_neg (by simp;omega)]
    exact ((h3 j x hx o l q2).frame fun k hk=>(hst k hk).2).mono fun k hk=>(hst k hk).1
  ·have hz':xs[j]?=some z:=by rw [List.getElem?_set_ne (fun e=>Nr e.symm)] at hz;exact hz
   rw [o8 j o hj (iH hl'),if_neg (by simp [Nr])]
   exact ((h3 j z hz' o l hl').frame fun k hk=>(hst k hk).2).mono fun k hk=>(hst k hk).1
theorem TL (hX:jk P X) (hs:cK X.K w0 nt S β fp a w) {t:TypeId} {x y:Operand} (h:ev X ⟨dst,.store t x y,ty,pos,dG,gd⟩ S k=some r):Goal P X w0 nt k r Q ⟨dst,.store t x y,ty,pos,dG,gd⟩ a w:=by
 simp only [ev] at h;split at h
 ·rename_i tk id off v ht hx hv
  obtain ⟨hf,h⟩:=az h;obtain ⟨s7,sD⟩:=CX hf;split at h
  ·rename_i ls ho
   obtain ⟨hb,h⟩:=az h;have hb:=Nat.le_of_ble_eq_true hb;obtain ⟨b,h1,h2⟩:=fG (bV hs hx);have hc:=oF (dH hs hv) sD;obtain ⟨w',hr,hs'⟩:=LM (P:=P) hs ho hc (by rw [s7];exact hb) h1;refine wp_skip (w':=w') ?_ ⟨_,⟨β,fp,hs'.drop dst undef⟩,h⟩
   have hsz:(a.eval y).cells.size=tk.size:=by rw [←s7,← hc.1];simp
   simp only [execOp,Instr.storeAt,h2,Instr.sureAddr,Sem.run_bind,Sem.run_pure,Result.andThen_ok,rM (hX.tk _ _ ht) hsz];rw [hr];rfl
  ·cases h
 ·rename_i tk id i off v ht hx hv
  obtain ⟨hf,h⟩:=az h;obtain ⟨s7,sD⟩:=CX hf;split at h
  ·rename_i ls S' b hab
   split at h
   ·rename_i t1 xs sh ho
    obtain ⟨hbs,h⟩:=eQ h
    cases hx':xs[i]? with
    | none=>rw [hx'] at h;cases h
    | some z=>
     rw [hx'] at h;simp only [Option.bind_some] at h;split at h
     ·rename_i z' CO
      obtain ⟨hb,h⟩:=az h;obtain ⟨hdp,h⟩:=eQ h;have hb:=Nat.le_of_ble_eq_true hb;have hc:=oF (dH hs hv) sD;obtain ⟨p,w',h2,hr,F',hs'⟩:=LK (P:=P) hs (fG (bV hs hx)) hc hab ho hbs hx' CO (by rw [s7];exact hb) hdp;refine wp_skip (w':=w') ?_ ⟨_,⟨β,_,hs'.drop dst undef⟩,h⟩
      have hsz:(a.eval y).cells.size=tk.size:=by rw [←s7,← hc.1];simp
      simp only [execOp,Instr.storeAt,h2,Instr.sureAddr,Sem.run_bind,Sem.run_pure,Result.andThen_ok,rM (hX.tk _ _ ht) hsz];rw [hr];rfl
     ·cases h
   ·cases h
  ·cases h
 ·cases h
end
section
variable {Ty:Type} [DecidableEq Ty] {C:Ty→Type}
variable {P:Program} {X:Cx C} {w0 w:World} {nt:Nat} {S:St C} {β:Nat→Value} {fp:Nat→Nat→Prop} {a:Act} {R:Type} {k:St C→Option R} {r:R}
variable {dst:Option Tmp} {ty:TypeId} {pos:String} {dG:Array Edge} {gd:Option (Nat×Bool)} {Q:Exit→Act→World→Prop}
def jl (S:St C) (fp:Nat→Nat→Prop) (O1:cm C) (k:Nat):Prop:=∃ j ob,lk S.aj j=some ob∧lk O1 j=none∧fp j k
theorem o4 {K:Cd C} (h:cK K w0 nt S β fp a w) {O1:cm C} (hO:∀ j ob,lk O1 j=some ob→lk S.aj j=some ob) {j:Nat} {ob:Ob C} (hj:lk O1 j=some ob) {k:Nat} (hk:fp j k):¬ jl S fp O1 k:=by
 rintro ⟨j',dR,h1,h2,h3⟩
 have:=h.eH j j' ob dR k (hO j ob hj) h1 hk h3;subst this;rw [hj] at h2;cases h2
theorem th {K:Cd C} (h:cK K w0 nt S β fp a w) {O1:cm C} (hO:∀ j ob,lk O1 j=some ob→lk S.aj j=some ob) {w':World} (hsz:w.heap.size≤w'.heap.size) (hb:∀ k,k<w.heap.size→¬ jl S fp O1 k→w'.heap[k]?=w.heap[k]?)
  {id:Nat} {ob:Ob C} {F:Nat→Prop} (hF:∀ k,F k→jl S fp O1 k∨w.heap.size≤k) {k:Nat} (hk:aH S.aj fp w k) :
  aH ((id,ob)::O1) (upd fp id F) w' k∧w'.heap[k]?=w.heap[k]?:=by
 have hnl:¬ jl S fp O1 k:=fun ⟨j,dR,h1,_,h3⟩=>hk.2 j dR h1 h3
 refine ⟨⟨Nat.lt_of_lt_of_le hk.1 hsz,fun j dR hj=>?_⟩,hb k hk.1 hnl⟩;rw [aQ] at hj
 by_cases e:j=id
 ·subst e
  rw [cz];intro hf
  rcases hF k hf with h1 | h1
  ·exact hnl h1
  ·have:=hk.1;omega
 ·rw [if_neg e] at hj
  rw [dt _ _ e];exact hk.2 j dR (hO j dR hj)
theorem uV {K:Cd C} (h:cK K w0 nt S β fp a w) {O1:cm C} (hO:∀ j ob,lk O1 j=some ob→lk S.aj j=some ob) {w':World} (hb:∀ k,k<w.heap.size→¬ jl S fp O1 k→w'.heap[k]?=w.heap[k]?)
  {id:Nat} {ob:Ob C} {hv:Value} {F:Nat→Prop} {i:Nat} (hne:i≠id):iT w w' S.aj ((id,ob)::O1) β (upd β id hv) fp (upd fp id F) i:=by
 refine ⟨dt _ _ hne,fun t xs sh hj=>?_⟩;rw [aQ,if_neg hne] at hj;exact ⟨hO _ _ hj,fun k hk=>⟨by rw [dt _ _ hne];exact hk,hb k (h.fresh i _ k (hO _ _ hj) hk).2 (o4 h hO hj hk)⟩⟩
theorem cK.OO {K:Cd C} (h:cK K w0 nt S β fp a w) {O1:cm C} (hO:∀ j ob,lk O1 j=some ob→lk S.aj j=some ob) {w':World} (hw:Below w0.heap.size w w') (hb:∀ k,k<w.heap.size→¬ jl S fp O1 k→w'.heap[k]?=w.heap[k]?)
  {id:Nat} (iQ:id∉gv S.env∧id∉dX O1) {ob:Ob C} {hv:Value} {F:Nat→Prop} (hF:∀ k,F k→jl S fp O1 k∨(w.heap.size≤k∧k<w'.heap.size))
  (fW:lj K w' w0.heap.size ((id,ob)::O1) (upd β id hv) (upd fp id F) (aH ((id,ob)::O1) (upd fp id F) w') F ob hv) (bs:Nat) :
  cK K w0 nt ⟨S.env,(id,ob)::O1,bs⟩ (upd β id hv) (upd fp id F) a w':=by
 have hst:=fun k hk=>th h hO hw.size hb (id:=id) (ob:=ob) (F:=F) (fun k hk=>(hF k hk).imp (fun h=>h) fun h=>h.1) (k:=k) hk
 have hsz0:=h.below.size
 have hFi:∀ k,F k→∀ j dR,lk O1 j=some dR→¬ fp j k:=fun k hk j dR hj hjk=>by
  rcases hF k hk with h1 | h1
  ·exact o4 h hO hj hjk h1
  ·have:=(h.fresh j dR k (hO _ _ hj) hjk).2;omega
 refine ⟨h.below.trans hw,h.defers,h.size,fun j dR k ho hk=>?_,fun i j oi oj k hi hj lq kE=>?_,fun j dR ho=>?_,fun t v ht=>?_⟩
 ·rw [aQ] at ho
  by_cases e:j=id
  ·subst e
   rw [cz] at hk;have:=hw.size
   rcases hF k hk with ⟨j',Cr,h1,h2,h3⟩ | h1
   ·have:=h.fresh j' Cr k h1 h3;omega
   ·omega
  ·rw [if_neg e] at ho
   rw [dt _ _ e] at hk;have:=h.fresh j dR k (hO _ _ ho) hk;have:=hw.size;omega
 ·rw [aQ] at hi hj
  by_cases ei:i=id<;>by_cases ej:j=id
  ·rw [ei,ej]
  ·subst ei
   rw [if_neg ej] at hj;rw [cz] at lq;rw [dt _ _ ej] at kE;exact absurd kE (hFi k lq j oj hj)
  ·subst ej
   rw [if_neg ei] at hi;rw [cz] at kE;rw [dt _ _ ei] at lq;exact absurd lq (hFi k kE i oi hi)
  ·rw [if_neg ei] at hi
   rw [if_neg ej] at hj;rw [dt _ _ ei] at lq;rw [dt _ _ ej] at kE;exact h.eH i j oi oj k (hO _ _ hi) (hO _ _ hj) lq kE
 ·rw [aQ] at ho
  by_cases e:j=id
  ·subst e
   rw [if_pos rfl] at ho;cases ho;rw [cz,cz];exact fW
  ·rw [if_neg e] at ho
   rw [dt _ _ e,dt _ _ e]
   exact (h.aj j dR (hO _ _ ho)).tr hst (fun k hk=>hb k (h.fresh j dR k (hO _ _ ho) hk).2 (o4 h hO ho hk)) fun kd ls els i hi=>uV h hO hb fun ei=>iQ.2 (by subst ei;exact (lJ ho).2 kd ls els i hi)
 ·exact (h.env t v ht).tr hst fun i hi=>uV h hO hb fun ei=>iQ.1 (by subst ei;exact lK ht hi)
theorem pB {w0:World} {row:Option Nat} {w':World} (h:w.grownBy w' row) (hr:∀ g,row=some g→w0.heap.size≤g) (hsz:w0.heap.size≤w.heap.size):Below w0.heap.size w w':=
 ⟨h.os,h.tape,h.output,h.size,fun k hk=>h.block k (by omega) fun e=>by have:=hr k e.symm;omega⟩
theorem tH {b b':Nat} {e:TypeId} {s n:Nat} {v:Value} {cs:List Value} (h:w.ownsRow b e s v n cs) (hb:b'≤b):w.ownsRow b' e s v n cs:=by
 obtain ⟨h1,h2⟩:=h;refine ⟨h1,?_⟩
 rcases h2 with h2 | ⟨g,cap,cur,rfl,hg,r⟩
 ·exact .inl h2
 ·exact .inr ⟨g,cap,cur,rfl,Nat.le_trans hb hg,r⟩
theorem vP {b:Nat} {e:TypeId} {s n:Nat} {v:Value} {cs:List Value} (h:w.ownsRow b e s v n cs) {g:Nat} (hg:v.ownBlock=some g):b≤g∧g<w.heap.size:=h.lt g hg
theorem D3 (hX:jk P X) (hs:cK X.K w0 nt S β fp a w) (hd:slot dst nt) {t:TypeId} {x y:Operand} (h:ev X ⟨dst,.makeSlice t x y,ty,pos,dG,gd⟩ S k=some r):Goal P X w0 nt k r Q ⟨dst,.makeSlice t x y,ty,pos,dG,gd⟩ a w:=by
 simp only [ev] at h
 cases hz0:sA x with
 | true=>
  rw [hz0] at h;simp only [cond_true] at h;split at h
  case h_2=>cases h
  rename_i t1 km m ht hy;obtain ⟨h0,hB⟩:=az h;obtain ⟨h1,hC⟩:=az hB;clear h hB;have h0:=of_decide_eq_true h0;have h1:=of_decide_eq_true h1;split at hC
  case h_2=>cases hC
  rename_i S' gB
  have hx:∃ kn,a.eval x = .int kn 0:=by
   unfold sA at hz0;split at hz0
   ·rename_i kn n
    have:=of_decide_eq_true hz0;subst this;exact ⟨kn,rfl⟩
   ·cases hz0
  obtain ⟨kn,hx⟩:=hx;obtain ⟨hn,rfl⟩:=jH gB;have hy:=bV hs hy;simp only [dq,cI] at hy;obtain ⟨i,z,hi,hsz,hby,hpos,hz,hzs,Tn⟩:=hX.el t1;obtain ⟨n',rfl⟩:∃ n':Nat,m=n':=⟨m.toNat,by omega⟩
  have hb:n'*X.K.bytes t1≤140737488355328:=by
   have:((n'*X.K.bytes t1:Nat):Int)≤140737488355328:=by rw [Int.natCast_mul];exact h1
   omega
  have qv:n'≤140737488355328:=Nat.le_trans (Nat.le_mul_of_pos_right _ hpos) hb;obtain ⟨w',hr,hown,hg⟩:=run_make_own (P:=P) w w.heap.size t (X.K.tid t1) i z (X.K.sz t1) (hX.tk _ _ ht).er hi hz hsz kn km n' (by rw [hby,Nat.mul_comm];omega) (by simp only [maxLen];omega) (Nat.le_refl _);have hsz0:=hs.below.size;have hw:Below w.heap.size w w':=pB (w0:=w) hg (fun g e=>by cases e) (Nat.le_refl _);have hlt:=vP hown (g:=w.heap.size) rfl
  have h2:=hs.yF hw hn (ob:=.row t1 [] false) (hv:=.slice (some ⟨w.heap.size,0,none⟩) 0 n') (F:=fun k=>k=w.heap.size) (fun k hk=>⟨by omega,by omega⟩)
   (.row _ t1 [] _ [] (fun _ _ _=>False) (tH hown hsz0) (fun g hg=>by simp [Value.ownBlock] at hg;omega) (fun _ _ _ h=>h.elim) (fun _ _ _ _ _ h=>h.elim) (fun j hj=>absurd hj (by simp)))
  refine bu (v:=.slice (some ⟨w.heap.size,0,none⟩) 0 n') (w':=w') ?_ (bw h2 hd (v:=.one (.ref _ [])) ⟨rfl,(cz _ _ _).symm⟩ hC);simp only [execOp,hx,hy,Sem.run_bind,hr,Result.andThen_ok,Sem.run_pure]
 | false=>
 rw [hz0] at h;simp only [cond_false] at h;split at h
 ·rename_i t1 kn n km m ht hx hy
  obtain ⟨e,hA⟩:=az h;obtain ⟨h0,hB⟩:=az hA;obtain ⟨h1,hC⟩:=az hB;clear h hA hB;have e:=of_decide_eq_true e;have h0:=of_decide_eq_true h0;have h1:=of_decide_eq_true h1;subst e;have h:=hC;clear hC;split at h
  ·rename_i S' gB
   obtain ⟨hn,rfl⟩:=jH gB;have hx:=bV hs hx;have hy:=bV hs hy;simp only [dq,cI] at hx hy;obtain ⟨i,z,hi,hsz,hby,hpos,hz,hzs,Tn⟩:=hX.el t1;obtain ⟨n',rfl⟩:∃ n':Nat,n=n':=⟨n.toNat,by omega⟩
   have hb:n'*X.K.bytes t1≤140737488355328:=by
    have:((n'*X.K.bytes t1:Nat):Int)≤140737488355328:=by rw [Int.natCast_mul];exact h1
    omega
   have qv:n'≤140737488355328:=Nat.le_trans (Nat.le_mul_of_pos_right _ hpos) hb;obtain ⟨w',hr,hown,hg⟩:=run_make_full (P:=P) w w.heap.size t (X.K.tid t1) i z (X.K.sz t1) (hX.tk _ _ ht).er hi hz hsz kn km n' (by rw [hby,Nat.mul_comm];omega) (by simp only [maxLen];omega) (Nat.le_refl _);have hsz0:=hs.below.size;have hw:Below w.heap.size w w':=pB (w0:=w) hg (fun g e=>by cases e) (Nat.le_refl _);have hlt:=vP hown (g:=w.heap.size) rfl
   have hcell:∀ j i',j<n'→i'<X.K.sz t1→(madeCells z.cells (n'*X.K.sz t1)).toList.getD (j*X.K.sz t1+i') undef=z.cells.getD i' undef:=fun j i' hj eN=>by
    have hm:j*X.K.sz t1+i'<n'*X.K.sz t1:=iw hj eN
    have hmod:(j*X.K.sz t1+i') % X.K.sz t1=i':=by rw [Nat.add_comm,Nat.add_mul_mod_self_right,Nat.mod_eq_of_lt eN]
    simp [madeCells,List.getD,hm,hzs,hmod,getElem!_def,Array.getD_eq_getD_getElem?,eN]
   have h2:=hs.yF hw hn (ob:=.row t1 (List.replicate n' (X.K.zero t1)) false) (hv:=.slice (some ⟨w.heap.size,0,none⟩) n' n') (F:=fun k=>k=w.heap.size) (fun k hk=>⟨by omega,by omega⟩)
    (.row _ t1 _ _ (madeCells z.cells (n'*X.K.sz t1)).toList (fun _ _ _=>False) (by simpa using tH hown hsz0) (fun g hg=>by simp [Value.ownBlock] at hg;omega) (fun _ _ _ h=>h.elim) (fun _ _ _ _ _ h=>h.elim) (fun j hj i' l hl=>by
     have iK:j<n':=by simpa using hj
     have hl:(X.K.enc t1 (X.K.zero t1))[i']?=some l:=by simpa using hl
     rw [hcell j i' iK (iH hl)]
     exact Tn i' l hl w' _ _))
   refine bu (v:=.slice (some ⟨w.heap.size,0,none⟩) n' n') (w':=w') ?_ (bw h2 hd (v:=.one (.ref _ [])) ⟨rfl,(cz _ _ _).symm⟩ (by simpa using h));simp only [execOp,hx,hy,Sem.run_bind,hr,Result.andThen_ok,Sem.run_pure]
  ·cases h
 ·cases h
theorem yC {t e:TypeId} {base:Nat} {i:TypeInfo} {z:Value} {size bytes:Nat} (ht:P.underlying t=some (.slice e)) (hi:P.info? e=some i) (hz:i.zero=some z) (hsize:i.size=size) (hby:i.bytes=bytes) (hzs:z.cells.size=size) (hsz:0<size)
  {v:Value} {n:Nat} {cs:List Value} (hown:w.ownsRow base e size v n cs) {A:Option Addr} {m c:Nat} {f:Nat→Value} (hA:0<m→∃ p,A=some p∧∀ j,j<m*size→w.cell? (p.add j)=some (f j)) (h1:∀ j,j<m*size→(f j).oneCell'=true)
  (h63:n+m≤maxLen) (hbytes:(n+m)*bytes≤140737488355328) (hbase:base≤w.heap.size) {ty:TypeId} :
  ∃ v' w',(Builtin.append_ #[t,t] ty #[v,.slice A m c]).run P w = .ok v' w'∧w'.ownsRow base e size v' (n+m) (cs++(List.range (m*size)).map f)∧w.grownBy w' v.ownBlock∧(v'.ownBlock=v.ownBlock∨v'.ownBlock=some w.heap.size):=by
 cases A with
 | some p=>
  have hnews:∀ j u,((List.range (m*size)).map f)[j]?=some u→w.cell? (p.add j)=some u:=fun j u hu=>by
   simp only [List.getElem?_map,Option.map_eq_some_iff] at hu;obtain ⟨j',hj,rfl⟩:=hu;have hlt:=ee hj;simp only [List.length_range] at hlt
   have:j'=j:=by simp [hlt] at hj;exact hj.symm
   subst this
   have hm:0<m:=by
    rcases Nat.eq_zero_or_pos m with h | h
    ·subst h;simp at hlt
    ·exact h
   obtain ⟨p',e,hc⟩:=hA hm;cases e;exact hc _ hlt
  obtain ⟨v',w',q1,q2,q3,_,q4⟩:=run_append_own_at (P:=P) w base t ty e i z size bytes ht hi hz hsize hby hzs hsz v n cs hown p m c ((List.range (m*size)).map f) (by simp) hnews
   (fun u hu=>by
    obtain ⟨j,hj,rfl⟩:=List.mem_map.1 hu
    exact h1 j (by simpa using hj)) h63 hbytes hbase
  exact ⟨v',w',q1,q2,q3,q4⟩
 | none=>
  have hm:m=0:=by
   rcases Nat.eq_zero_or_pos m with h | h
   ·exact h
   ·obtain ⟨p,e,_⟩:=hA h;cases e
  subst hm;refine ⟨v,w,?_,by simpa using hown,⟨rfl,rfl,rfl,Nat.le_refl _,fun _ _ _=>rfl⟩,.inl rfl⟩
  rcases hown.2 with ⟨rfl,rfl⟩ | ⟨g,cap,cur,rfl,_,_,hnc,_⟩
  ·simp [Builtin.append_,run_underlying ht,sizeOf,typeInfo,hi,Builtin.lenOf,Builtin.firstCells]
  ·simp [Builtin.append_,run_underlying ht,sizeOf,typeInfo,hi,Builtin.lenOf,Builtin.firstCells,hnc,storeCells]
end
section
variable {Ty:Type} [DecidableEq Ty] {C:Ty→Type}
variable {P:Program} {X:Cx C} {w0 w:World} {nt:Nat} {S:St C} {β:Nat→Value} {fp:Nat→Nat→Prop} {a:Act} {R:Type} {k:St C→Option R} {r:R}
variable {dst:Option Tmp} {ty:TypeId} {pos:String} {dG:Array Edge} {gd:Option (Nat×Bool)} {Q:Exit→Act→World→Prop}
def kW (K:Cd C) (w:World) (base:Nat) (b8 D:Nat→Prop) (t:Ty) (xs:List (C t)) (own:Option Nat) (val:Nat→Value) (sh:Bool):Prop:=
 ∃ G:Nat→Nat→Nat→Prop,(∀ j i k,G j i k→D k∧own≠some k)∧(∀ j i j' i' k,G j i k→G j' i' k→j=j'∧i=i') ∧
  ∀ (j:Nat) (x:C t),xs[j]?=some x→∀ (i:Nat) (l:Lf C),(K.enc t x)[i]?=some l→(sh=false→Own K w base (G j i) l (val (j*K.sz t+i)))∧gU K w (fun k=>b8 k∨G j i k) l (val (j*K.sz t+i))
theorem qc {K:Cd C} {base:Nat} {b8 D:Nat→Prop} {t:Ty} {own:Option Nat} {val:Nat→Value} {sh:Bool}:kW K w base b8 D t [] own val sh:=
 ⟨fun _ _ _=>False,fun _ _ _ h=>h.elim,fun _ _ _ _ _ h=>h.elim,fun j x h=>by simp at h⟩
theorem oP {K:Cd C} {base:Nat} {aj:cm C} {b8 F:Nat→Prop} {t:Ty} {xs:List (C t)} {sh:Bool} {v:Value} (h:lj K w base aj β fp b8 F (.row t xs sh) v) :
  ∃ cs,w.ownsRow base (K.tid t) (K.sz t) v xs.length cs∧(∀ g,v.ownBlock=some g→F g)∧kW K w base b8 F t xs v.ownBlock (fun m=>cs.getD m undef) sh:=by
 cases sh with
 | false=>cases h with
  | row _ _ _ _ cells G h h1 h2 h3 h4=>
   refine ⟨cells,h,h1,G,h2,h3,fun j x hx i l hl=>?_⟩;have hj:=ee hx
   have rD:xs[j]=x:=by simpa [List.getElem?_eq_getElem hj] using hx
   have:=h4 j hj i l (by rw [rD];exact hl);exact ⟨fun _=>this,this.rep.mono fun k hk=>.inr hk⟩
 | true=>
  obtain ⟨cells,h1,h2,h3⟩:=h;exact ⟨cells,h1,fun g hg=>(h2 g).2 hg,fun _ _ _=>False,fun _ _ _ h=>h.elim,fun _ _ _ _ _ h=>h.elim,fun j x hx i l hl=>⟨(fun h=>by cases h),(h3 j x hx i l hl).mono fun k hk=>.inl hk⟩⟩
def Handed (K:Cd C) (w:World) (base:Nat) (b8 D:Nat→Prop) (t:Ty) (ys:List (C t)) (v:Value) (sh:Bool):Prop:=
 ∃ A c f,v = .slice A ys.length c∧(0<ys.length→∃ p,A=some p∧∀ j,j<ys.length*K.sz t→w.cell? (p.add j)=some (f j))∧kW K w base b8 D t ys v.ownBlock f sh
theorem ua {K:Cd C} {base:Nat} {aj:cm C} {b8 F:Nat→Prop} {t:Ty} {xs:List (C t)} {sh:Bool} {v:Value} (h:lj K w base aj β fp b8 F (.row t xs sh) v):Handed K w base b8 F t xs v sh:=by
 obtain ⟨cs,h1,h2,h3⟩:=oP h;obtain ⟨A,c,e,hA⟩:=gq h1;refine ⟨A,c,fun m=>cs.getD m undef,e,fun hp=>?_,h3⟩;obtain ⟨g,cap,e',_,_,hc⟩:=kJ h1 (Nat.mul_pos hp (K.pos t));rw [e] at e';cases e';exact ⟨_,rfl,hc⟩
theorem xZ {K:Cd C} {base:Nat} {b8:Nat→Prop} {t:Ty} {xs:List (C t)} {v:Value} (h:gU K w b8 (.row t xs) v):Handed K w base b8 (fun _=>False) t xs v true:=by
 cases h with
 | row _ _ A c p U hc hA hcell nJ=>
  refine ⟨A,c,U,rfl,fun hp=>?_,fun _ _ _=>False,fun _ _ _ h=>h.elim,fun _ _ _ _ _ h=>h.elim,fun j x hx i l hl=>⟨(fun h=>by cases h),?_⟩⟩
  ·have hne:=List.length_pos_iff.1 hp
   exact ⟨p,(hA hne).1,hcell hne⟩
  ·have hj:=ee hx
   have rD:xs[j]=x:=by simpa [List.getElem?_eq_getElem hj] using hx
   exact (nJ j hj i l (by rw [rD];exact hl)).mono fun k hk=>.inl hk
theorem ya {K:Cd C} {base:Nat} {b8:Nat→Prop} {t:Ty} {sh:Bool}:Handed K w base b8 (fun _=>False) t ([]:List (C t)) (.slice none 0 0) sh:=
 ⟨none,0,fun _=>undef,rfl,fun h=>absurd h (by simp),qc⟩
theorem rh {K:Cd C} {base:Nat} {b8 D:Nat→Prop} {t:Ty} {ys:List (C t)} {own:Option Nat} {f:Nat→Value} {sh:Bool} (h:kW K w base b8 D t ys own f sh):∀ m,m<ys.length*K.sz t→(f m).oneCell'=true:=by
 obtain ⟨G,_,_,h⟩:=h;intro m hm;have hj:m / K.sz t<ys.length:=Nat.div_lt_of_lt_mul (by rw [Nat.mul_comm];exact hm);have hi:m % K.sz t<K.sz t:=Nat.mod_lt _ (K.pos t)
 have eN:m % K.sz t<(K.enc t ys[m / K.sz t]).length:=by rw [K.gH];exact hi
 have:=(h (m / K.sz t) ys[m / K.sz t] (by simp [hj]) (m % K.sz t) (K.enc t ys[m / K.sz t])[m % K.sz t] (by simp [eN])).2.one
 rwa [Nat.mul_comm,Nat.div_add_mod] at this
theorem mW {K:Cd C} {t:Ty} (hf:K.flat t=true) {x:C t} {i:Nat} {l:Lf C} (hl:(K.enc t x)[i]?=some l) {F:Nat→Prop} {v:Value} (h:gU K w F l v) {w':World} {base:Nat} {G:Nat→Prop}:Own K w' base G l v:=by
 cases h with
 | int=>exact .int ..
 | bool=>exact .bool ..
 | str=>exact .str ..
 | dP=>exact .dP ..
 | row t' ys=>exact absurd (List.mem_of_getElem? hl) (K.yl t hf x t' ys)
theorem Fs {K:Cd C} {base:Nat} {b8:Nat→Prop} {t:Ty} {xs:List (C t)} {v:Value} {F:Nat→Prop} (hf:K.flat t=true) (h:gU K w F (.row t xs) v):Handed K w base b8 (fun _=>False) t xs v false:=by
 cases h with
 | row _ _ A c p U hc hA hcell nJ=>
  refine ⟨A,c,U,rfl,fun hp=>?_,fun _ _ _=>False,fun _ _ _ h=>h.elim,fun _ _ _ _ _ h=>h.elim,fun j x hx i l hl=>?_⟩
  ·have hne:=List.length_pos_iff.1 hp
   exact ⟨p,(hA hne).1,hcell hne⟩
  ·have hj:=ee hx
   have rD:xs[j]=x:=by simpa [List.getElem?_eq_getElem hj] using hx
   have hr:=nJ j hj i l (by rw [rD];exact hl);have ho:Own K w base (fun _=>False) l (U (j*K.sz t+i)):=mW hf hl hr;exact ⟨fun _=>ho,ho.rep.mono fun k hk=>.inr hk⟩
theorem Fu {cs:List Value} {n m:Nat} {f:Nat→Value} (hc:cs.length=n) (i:Nat):(cs++(List.range m).map f).getD i undef=if i<n then cs.getD i undef else if i<n+m then f (i-n) else undef:=by
 rw [List.getD_eq_getElem?_getD]
 by_cases h:i<n
 ·rw [List.getElem?_append_left (by omega),if_pos h,List.getD_eq_getElem?_getD]
 ·rw [List.getElem?_append_right (by omega),if_neg h,hc]
  by_cases h2:i<n+m
  ·rw [if_pos h2];simp [show i-n<m by omega]
  ·rw [if_neg h2];simp [show ¬ i-n<m by omega]
theorem C8 {α:Type} {xs ys:List α} {j:Nat} {x:α} (h:(xs++ys)[j]?=some x):(j<xs.length∧xs[j]?=some x)∨(xs.length≤j∧ys[j-xs.length]?=some x):=by
 by_cases hj:j<xs.length
 ·rw [List.getElem?_append_left hj] at h;exact .inl ⟨hj,h⟩
 ·rw [List.getElem?_append_right (by omega)] at h;exact .inr ⟨by omega,h⟩
def fromB {α:Type} (xs ys:List α) (j:Nat) (x:α):Sum Nat Nat→Prop
 | .inl a=>xs[a]?=some x
 | .inr a=>ys[a]?=some x
theorem KN {K:Cd C} {base:Nat} {b8 D0 D1:Nat→Prop} {t:Ty} {xs ys zs:List (C t)} {lF L8:Option Nat} {cs cells:List Value} {f:Nat→Value} {gA oo sh:Bool} (σ:Nat→Sum Nat Nat)
  (h0:kW K w base b8 D0 t xs lF (fun m=>cs.getD m undef) gA) (h1:kW K w base b8 D1 t ys L8 f oo) (hd:∀ k,D0 k→¬ D1 k)
  (hσ:∀ j j',j<zs.length→j'<zs.length→σ j=σ j'→j=j')
  (hz:∀ j x,zs[j]?=some x→fromB xs ys j x (σ j)∧∀ i,i<K.sz t→cells.getD (j*K.sz t+i) undef=(match σ j with | .inl a=>cs.getD (a*K.sz t+i) undef | .inr a=>f (a*K.sz t+i)))
  {w':World} {v':Value} (hown:w'.ownsRow base (K.tid t) (K.sz t) v' zs.length cells)
  (hv:∀ g,v'.ownBlock=some g→(lF=some g∨(¬ D0 g))∧¬ D1 g)
  (hw:∀ k,(D0 k∨D1 k∨b8 k)→lF≠some k→w'.heap[k]?=w.heap[k]?)
  (Ig:∀ k,b8 k→lF≠some k)
  (hsh:sh=cond (K.flat t) false (gA||oo)) {aj:cm C} {ey:Nat→Prop} (hst:∀ k,b8 k→ey k) (hnew:∀ k,sh=true→(D0 k∨D1 k)→v'.ownBlock≠some k→lF≠some k→ey k) (h01:∀ g,lF=some g→D0 g) :
  lj K w' base aj β fp ey (cond sh (fun g=>v'.ownBlock=some g) (fun k=>v'.ownBlock=some k∨D0 k∨D1 k)) (.row t zs sh) v':=by
 obtain ⟨G0,a1,a2,a3⟩:=h0;obtain ⟨G1,b1,b2,b3⟩:=h1
 have n0:∀ j i k,G0 j i k→lF≠some k:=fun j i k hk=>(a1 j i k hk).2
 have n1:∀ j i k,G1 j i k→lF≠some k:=fun j i k hk e=>hd k (h01 k e) (b1 j i k hk).1
 cases ZZ:sh with
 | false=>
  rw [ZZ] at hsh;rw [cond_false];refine .row _ t zs v' _ (fun j i k=>cond (K.flat t) False (j<zs.length∧match σ j with | .inl a=>G0 a i k | .inr a=>G1 a i k)) hown (fun g hg=>.inl hg) (fun j i k hk=>?_) (fun j i j' i' k hk hk'=>?_) (fun j hj i l hl=>?_)
  ·cases hf:K.flat t with
   | true=>rw [hf] at hk;exact hk.elim
   | false=>
    rw [hf,cond_false] at hk;have hk:=hk.2;split at hk
    ·exact ⟨.inr (.inl (a1 _ i k hk).1),fun e=>by
      rcases (hv k e).1 with h | h
      ·exact n0 _ i k hk h
      ·exact h (a1 _ i k hk).1⟩
    ·exact ⟨.inr (.inr (b1 _ i k hk).1),fun e=>(hv k e).2 (b1 _ i k hk).1⟩
  ·cases hf:K.flat t with
   | true=>rw [hf] at hk;exact hk.elim
   | false=>
    rw [hf,cond_false] at hk hk';obtain ⟨hj,hk⟩:=hk;obtain ⟨iK,hk'⟩:=hk';split at hk<;>split at hk'
    ·rename_i e _ _ e'
     have:=a2 _ i _ i' k hk hk';exact ⟨hσ j j' hj iK (by rw [e,e',this.1]),this.2⟩
    ·exact absurd (b1 _ i' k hk').1 (hd k (a1 _ i k hk).1)
    ·exact absurd (b1 _ i k hk).1 (hd k (a1 _ i' k hk').1)
    ·rename_i e _ _ e'
     have:=b2 _ i _ i' k hk hk';exact ⟨hσ j j' hj iK (by rw [e,e',this.1]),this.2⟩
  ·have hx:zs[j]?=some zs[j]:=by simp
   obtain ⟨hz1,hz2⟩:=hz j _ hx;rw [hz2 i (iH hl)]
   cases e:σ j with
   | inl a=>
    rw [e] at hz1;have hh:=a3 a _ hz1 i l hl
    cases hf:K.flat t with
    | true=>exact mW hf hl hh.2
    | false=>
     rw [hf,cond_false] at hsh
     have hs0:gA=false:=by cases gA<;>simp at hsh ⊢
     refine ((hh.1 hs0).frame fun k hk=>hw k (.inl (a1 a i k hk).1) (n0 a i k hk)).mono fun k hk=>?_
     exact ⟨hj,hk⟩
   | inr a=>
    rw [e] at hz1;have hh:=b3 a _ hz1 i l hl
    cases hf:K.flat t with
    | true=>exact mW hf hl hh.2
    | false=>
     rw [hf,cond_false] at hsh
     have hs1:oo=false:=by cases oo<;>simp at hsh ⊢
     refine ((hh.1 hs1).frame fun k hk=>hw k (.inr (.inl (b1 a i k hk).1)) (n1 a i k hk)).mono fun k hk=>?_
     exact ⟨hj,hk⟩
 | true=>
  rw [cond_true];refine ⟨_,hown,fun g=>Iff.rfl,fun j x hx i l hl=>?_⟩;obtain ⟨hz1,hz2⟩:=hz j x hx;rw [hz2 i (iH hl)]
  cases e:σ j with
  | inl a=>
   rw [e] at hz1;have hh:=(a3 a _ hz1 i l hl).2
   refine (hh.frame fun k hk=>?_).mono fun k hk=>?_
   ·rcases hk with h | h
    ·exact hw k (.inr (.inr h)) (Ig k h)
    ·exact hw k (.inl (a1 a i k h).1) (n0 a i k h)
   ·rcases hk with h | h
    ·exact hst k h
    ·refine hnew k ZZ (.inl (a1 a i k h).1) (fun e=>?_) (n0 a i k h)
     rcases (hv k e).1 with h' | h'
     ·exact n0 a i k h h'
     ·exact h' (a1 a i k h).1
  | inr a=>
   rw [e] at hz1;have hh:=(b3 a _ hz1 i l hl).2
   refine (hh.frame fun k hk=>?_).mono fun k hk=>?_
   ·rcases hk with h | h
    ·exact hw k (.inr (.inr h)) (Ig k h)
    ·exact hw k (.inr (.inl (b1 a i k h).1)) (n1 a i k h)
   ·rcases hk with h | h
    ·exact hst k h
    ·exact hnew k ZZ (.inr (b1 a i k h).1) (fun e=>(hv k e).2 (b1 a i k h).1) (n1 a i k h)
theorem Q2 {K:Cd C} {base:Nat} {b8 D0 D1:Nat→Prop} {t:Ty} {xs ys:List (C t)} {lF L8:Option Nat} {cs:List Value} {f:Nat→Value} {gA oo sh:Bool}
  (h0:kW K w base b8 D0 t xs lF (fun m=>cs.getD m undef) gA) (h1:kW K w base b8 D1 t ys L8 f oo) (hd:∀ k,D0 k→¬ D1 k) (hcs:cs.length=xs.length*K.sz t)
  {w':World} {v':Value} (hown:w'.ownsRow base (K.tid t) (K.sz t) v' (xs.length+ys.length) (cs++(List.range (ys.length*K.sz t)).map f))
  (hv:∀ g,v'.ownBlock=some g→(lF=some g∨(¬ D0 g))∧¬ D1 g)
  (hw:∀ k,(D0 k∨D1 k∨b8 k)→lF≠some k→w'.heap[k]?=w.heap[k]?)
  (Ig:∀ k,b8 k→lF≠some k)
  (hsh:sh=cond (K.flat t) false (gA||oo)) {aj:cm C} {ey:Nat→Prop} (hst:∀ k,b8 k→ey k) (hnew:∀ k,sh=true→(D0 k∨D1 k)→v'.ownBlock≠some k→lF≠some k→ey k) (h01:∀ g,lF=some g→D0 g) :
  lj K w' base aj β fp ey (cond sh (fun g=>v'.ownBlock=some g) (fun k=>v'.ownBlock=some k∨D0 k∨D1 k)) (.row t (xs++ys) sh) v':=by
 refine KN (fun j=>if j<xs.length then .inl j else .inr (j-xs.length)) h0 h1 hd (fun j j' hj iK e=>?_) (fun j x hx=>?_) (by simpa using hown) hv hw Ig hsh hst hnew h01
 ·skip
  split at e<;>split at e
  ·cases e;rfl
  ·cases e
  ·cases e
  ·injection e with e;omega
 ·skip
  rcases C8 hx with ⟨hj,hx⟩ | ⟨hj,hx⟩
  ·rw [if_pos hj]
   refine ⟨hx,fun i hi=>?_⟩;rw [Fu hcs,if_pos (iw hj hi)]
  ·rw [if_neg (by omega)]
   refine ⟨hx,fun i hi=>?_⟩;have hj2:=ee hx
   have e:j*K.sz t+i=xs.length*K.sz t+((j-xs.length)*K.sz t+i):=by
    rw [←Nat.add_assoc,← Nat.add_mul];congr 2;omega
   have h3:=iw hj2 hi;rw [Fu hcs,e,if_neg (by omega),if_pos (by omega)]
   congr 1;omega
theorem pY {S:St C} {id:Option Nat} {j:Nat} {ob:Ob C} (h:lk (fH S id).aj j=some ob):lk S.aj j=some ob∧id≠some j:=by
 cases id with
 | none=>exact ⟨h,by simp⟩
 | some i=>
  simp only [fH,St.kO,lM] at h;split at h
  ·cases h
  ·rename_i e;exact ⟨h,fun e'=>e (by cases e';rfl)⟩
theorem mZ {S:St C} {id:Option Nat}:(fH S id).env=S.env:=by cases id<;>rfl
def iM (fp:Nat→Nat→Prop):Option Nat→Nat→Prop
 | none,_=>False
 | some id,k=>fp id k
theorem JG {α:Type} {l m:List α} {p:Nat} (hp:p≤l.length) (q:Nat):(l.take p++m++l.drop p)[q]?=if q<p then l[q]? else if q<p+m.length then m[q-p]? else l[q-m.length]?:=by
 have h1:(l.take p).length=p:=by simp;omega
 by_cases hq:q<p
 ·rw [if_pos hq,List.append_assoc,List.getElem?_append_left (by omega),List.getElem?_take,if_pos hq]
 ·rw [if_neg hq]
  by_cases h2:q<p+m.length
  ·rw [if_pos h2,List.getElem?_append_left (by simp;omega),List.getElem?_append_right (by omega),h1]
  ·rw [if_neg h2,List.getElem?_append_right (by simp;omega),List.getElem?_drop]
   congr 1;simp;omega
theorem MY {α:Type} {at_:Option Nat} {xs ys:List α} (h:∀ i,at_=some i→i≤xs.length):(kT at_ xs ys).length=xs.length+ys.length:=by
 cases at_ with
 | none=>simp [kT]
 | some i=>have:=h i rfl;simp [kT];omega
def KO (at_:Option Nat) (sz:Nat) (cs gs:List Value):List Value:=kT (at_.map (· * sz)) cs gs
theorem Vi {K:Cd C} {base:Nat} {b8 D0 D1:Nat→Prop} {t:Ty} {xs ys:List (C t)} {lF L8:Option Nat} {cs:List Value} {f:Nat→Value} {gA oo sh:Bool} {at_:Option Nat} (hat:∀ i,at_=some i→i≤xs.length)
  (h0:kW K w base b8 D0 t xs lF (fun m=>cs.getD m undef) gA) (h1:kW K w base b8 D1 t ys L8 f oo) (hd:∀ k,D0 k→¬ D1 k) (hcs:cs.length=xs.length*K.sz t)
  {w':World} {v':Value} (hown:w'.ownsRow base (K.tid t) (K.sz t) v' (xs.length+ys.length) (KO at_ (K.sz t) cs ((List.range (ys.length*K.sz t)).map f)))
  (hv:∀ g,v'.ownBlock=some g→(lF=some g∨(¬ D0 g))∧¬ D1 g)
  (hw:∀ k,(D0 k∨D1 k∨b8 k)→lF≠some k→w'.heap[k]?=w.heap[k]?)
  (Ig:∀ k,b8 k→lF≠some k)
  (hsh:sh=cond (K.flat t) false (gA||oo)) {aj:cm C} {ey:Nat→Prop} (hst:∀ k,b8 k→ey k) (hnew:∀ k,sh=true→(D0 k∨D1 k)→v'.ownBlock≠some k→lF≠some k→ey k) (h01:∀ g,lF=some g→D0 g) :
  lj K w' base aj β fp ey (cond sh (fun g=>v'.ownBlock=some g) (fun k=>v'.ownBlock=some k∨D0 k∨D1 k)) (.row t (kT at_ xs ys) sh) v':=by
 cases at_ with
 | none=>exact Q2 h0 h1 hd hcs hown hv hw Ig hsh hst hnew h01
 | some p=>
  have hp:=hat p rfl
  have hps:p*K.sz t≤cs.length:=by rw [hcs];exact Nat.mul_le_mul_right _ hp
  have hlen:=MY (ys:=ys) hat;refine KN (fun j=>if j<p then .inl j else if j<p+ys.length then .inr (j-p) else .inl (j-ys.length)) h0 h1 hd (fun j j' hj iK e=>?_) (fun j x hx=>?_) (by rw [hlen];exact hown) hv hw Ig hsh hst hnew h01
  ·skip
   split at e<;>split at e<;>(try split at e)<;>(try split at e)<;>first | (cases e;done) | (injection e with e;omega) | (cases e;rfl)
  ·skip
   simp only [kT] at hx;rw [JG hp] at hx
   have hcell:∀ i,i<K.sz t→(KO (some p) (K.sz t) cs ((List.range (ys.length*K.sz t)).map f)).getD (j*K.sz t+i) undef=if j*K.sz t+i<p*K.sz t then cs.getD (j*K.sz t+i) undef else if j*K.sz t+i<p*K.sz t+ys.length*K.sz t then f (j*K.sz t+i-p*K.sz t) else cs.getD (j*K.sz t+i-ys.length*K.sz t) undef:=fun i hi=>by
    simp only [KO,Option.map_some,kT];rw [List.getD_eq_getElem?_getD,JG hps];simp only [List.length_map,List.length_range];split
    ·rw [List.getD_eq_getElem?_getD]
    ·split
     ·simp [show j*K.sz t+i-p*K.sz t<ys.length*K.sz t by omega]
     ·rw [List.getD_eq_getElem?_getD]
   by_cases c1:j<p
   ·rw [if_pos c1] at hx ⊢
    refine ⟨hx,fun i hi=>?_⟩;rw [hcell i hi,if_pos (iw c1 hi)]
   ·have e1:p*K.sz t≤j*K.sz t:=Nat.mul_le_mul_right _ (by omega)
    rw [if_neg c1] at hx ⊢
    by_cases c2:j<p+ys.length
    ·rw [if_pos c2] at hx ⊢
     refine ⟨hx,fun i hi=>?_⟩;have h3:=iw c2 hi;rw [Nat.add_mul] at h3;rw [hcell i hi,if_neg (by omega),if_pos h3];show _=f ((j-p)*K.sz t+i)
     congr 1;rw [Nat.sub_mul];omega
    ·rw [if_neg c2] at hx ⊢
     refine ⟨hx,fun i hi=>?_⟩;have e2:(p+ys.length)*K.sz t≤j*K.sz t:=Nat.mul_le_mul_right _ (by omega);rw [Nat.add_mul] at e2;rw [hcell i hi,if_neg (by omega),if_neg (by omega)];show _=cs.getD ((j-ys.length)*K.sz t+i) undef
     congr 1;rw [Nat.sub_mul];omega
theorem Bv (hX:jk P X) (hs:cK X.K w0 nt S β fp a w) (hd:slot dst nt) {at_:Option Nat} {o:Oper} (ho:o.dst=dst) {t t0 t1:Ty} {xs:List (C t0)} {ys:List (C t1)} {dF iU:Option Nat} {gA oo:Bool} {v v1:Value}
  (h:pD at_ X o S t t0 t1 xs ys dF iU (gA||oo) k=some r) (hne:∀ i,dF=some i→iU≠some i) (hat:∀ i,at_=some i→i≤xs.length)
  (hb:∃ cs,w.ownsRow w0.heap.size (X.K.tid t0) (X.K.sz t0) v xs.length cs∧(∀ g,v.ownBlock=some g→iM fp dF g)∧kW X.K w w0.heap.size (aH S.aj fp w) (iM fp dF) t0 xs v.ownBlock (fun m=>cs.getD m undef) gA)
  (hl0:∀ i,dF=some i→∃ ob,lk S.aj i=some ob) (hl1:∀ i,iU=some i→∃ ob,lk S.aj i=some ob)
  (hh:Handed X.K w w0.heap.size (aH S.aj fp w) (iM fp iU) t1 ys v1 oo) (J3:∀ i g,iU=some i→v1.ownBlock=some g→fp i g) :
  ∃ (cs:List Value) (A:Option Addr) (c:Nat) (f:Nat→Value),t0=t∧t1=t∧w.ownsRow w0.heap.size (X.K.tid t0) (X.K.sz t0) v xs.length cs∧v1 = .slice A ys.length c ∧
   (0<ys.length→∃ p,A=some p∧∀ j,j<ys.length*X.K.sz t0→w.cell? (p.add j)=some (f j))∧(∀ m,m<ys.length*X.K.sz t0→(f m).oneCell'=true)∧(∀ m,m<xs.length*X.K.sz t0→(cs.getD m undef).oneCell'=true) ∧
   (xs.length+ys.length)*X.K.bytes t0≤140737488355328∧(∀ g,v.ownBlock=some g→v1.ownBlock≠some g∨iU=none) ∧
   ∀ v' w',w'.ownsRow w0.heap.size (X.K.tid t0) (X.K.sz t0) v' (xs.length+ys.length) (KO at_ (X.K.sz t0) cs ((List.range (ys.length*X.K.sz t0)).map f))→w.grownBy w' v.ownBlock→(v'.ownBlock=v.ownBlock∨∀ g,v'.ownBlock=some g→w.heap.size≤g) →
    Next X.K w0 nt k r (a.put dst v') w':=by
 unfold pD at h;split at h
 ·rename_i xs' Ti hx hy
  unfold kU at hx hy;split at hx
  ·rename_i e _
   subst e;split at hy
   ·rename_i e' _
    have e2:=e'.symm;subst e2;cases hx;cases hy;obtain ⟨Qh,h⟩:=az h;have Qh:=of_decide_eq_true Qh;split at h
    ·rename_i S' gB
     obtain ⟨hn,rfl⟩:=jH gB;obtain ⟨i,z,hi,hsz,hby,hpos,hz,hzs,Tn⟩:=hX.el t0;obtain ⟨cs,hown,hv0,hel0⟩:=hb;obtain ⟨A,c,f,rfl,hA,hel1⟩:=hh
     have hdis0:∀ g,v.ownBlock=some g→(Value.slice A ys.length c).ownBlock≠some g∨iU=none:=fun g hg=>by
      cases e1:iU with
      | none=>exact .inr rfl
      | some j=>
       refine .inl fun hg1=>?_
       have h1:=J3 j g e1 hg1;have h0:=hv0 g hg
       cases e0:dF with
       | none=>rw [e0] at h0;exact h0
       | some i0=>
        rw [e0] at h0;obtain ⟨ob,fW⟩:=hl0 i0 e0;obtain ⟨dR,MG⟩:=hl1 j e1;have:=hs.eH i0 j ob dR g fW MG h0 h1;subst this;exact hne i0 e0 e1
     refine ⟨cs,A,c,f,rfl,rfl,hown,rfl,hA,rh hel1,rh (f:=fun m=>cs.getD m undef) hel0,Qh,hdis0,fun v' w' q2 q3 q4=>?_⟩
     have hO:∀ j ob,lk (fH (fH S dF) iU).aj j=some ob→lk S.aj j=some ob:=fun j ob hj=>(pY (pY hj).1).1
     have AU:∀ i,dF=some i∨iU=some i→lk (fH (fH S dF) iU).aj i=none:=fun i hi=>by
      cases e:lk (fH (fH S dF) iU).aj i with
      | none=>rfl
      | some ob=>
       have h1:=pY e;have h2:=pY h1.1
       rcases hi with hi | hi
       ·exact absurd hi h2.2
       ·exact absurd hi h1.2
     have qY:∀ k,iM fp dF k→jl S fp (fH (fH S dF) iU).aj k:=fun k hk=>by
      cases e:dF with
      | none=>rw [e] at hk;exact hk.elim
      | some i=>
       obtain ⟨ob,fW⟩:=hl0 i e;rw [e] at hk;exact ⟨i,ob,fW,by rw [←e];exact AU i (.inl e),hk⟩
     have Il:∀ k,iM fp iU k→jl S fp (fH (fH S dF) iU).aj k:=fun k hk=>by
      cases e:iU with
      | none=>rw [e] at hk;exact hk.elim
      | some i=>
       obtain ⟨ob,fW⟩:=hl1 i e;rw [e] at hk;exact ⟨i,ob,fW,by rw [←e];exact AU i (.inr e),hk⟩
     have MJ:∀ k,iM fp dF k→¬ iM fp iU k:=fun k h0 h1=>by
      cases e0:dF with
      | none=>rw [e0] at h0;exact h0
      | some i=>
       cases e1:iU with
       | none=>rw [e1] at h1;exact h1
       | some j=>
        rw [e0] at h0;rw [e1] at h1;obtain ⟨ob,fW⟩:=hl0 i e0;obtain ⟨dR,MG⟩:=hl1 j e1;have:=hs.eH i j ob dR k fW MG h0 h1;subst this;exact hne i e0 e1
     have hlt:∀ k,(iM fp dF k∨iM fp iU k∨aH S.aj fp w k)→k<w.heap.size:=fun k hk=>by
      rcases hk with h | h | h
      ·obtain ⟨j,ob,h1,h2,h3⟩:=qY k h;exact (hs.fresh j ob k h1 h3).2
      ·obtain ⟨j,ob,h1,h2,h3⟩:=Il k h;exact (hs.fresh j ob k h1 h3).2
      ·exact h.1
     have hnst:∀ k,aH S.aj fp w k→¬ jl S fp (fH (fH S dF) iU).aj k:=fun k hk ⟨j,ob,h1,_,h3⟩=>hk.2 j ob h1 h3
     have hvb:∀ g,v'.ownBlock=some g→(v.ownBlock=some g∨¬ iM fp dF g)∧¬ iM fp iU g:=fun g hg=>by
      rcases q4 with q4 | q4
      ·rw [q4] at hg
       exact ⟨.inl hg,MJ g (hv0 g hg)⟩
      ·have q5:=q4 g hg
       exact ⟨.inr fun h=>absurd (hlt _ (.inl h)) (by omega),fun h=>absurd (hlt _ (.inr (.inl h))) (by omega)⟩
     have hsz0:=hs.below.size
     have hown2:∀ g,v.ownBlock=some g→w0.heap.size≤g∧g<w.heap.size:=fun g hg=>vP hown hg
     have hw:Below w0.heap.size w w':=pB (w0:=w0) q3 (fun g e=>(hown2 g e).1) hsz0;have hcs:cs.length=xs.length*X.K.sz t0:=hown.1
     let sh:=cond (X.K.flat t0) false (gA||oo)
     let F:Nat→Prop:=cond sh (fun g=>v'.ownBlock=some g) (fun k=>v'.ownBlock=some k∨iM fp dF k∨iM fp iU k)
     have hFv:∀ g,v'.ownBlock=some g→jl S fp (fH (fH S dF) iU).aj g∨(w.heap.size≤g∧g<w'.heap.size):=fun g hg=>by
      have hl:=vP q2 hg
      rcases q4 with q4 | q4
      ·rw [q4] at hg;exact .inl (qY g (hv0 g hg))
      ·exact .inr ⟨q4 g hg,hl.2⟩
     have hF:∀ k,F k→jl S fp (fH (fH S dF) iU).aj k∨(w.heap.size≤k∧k<w'.heap.size):=fun k hk=>by
      cases e:sh with
      | true=>simp only [F,e,cond_true] at hk;exact hFv k hk
      | false=>
       simp only [F,e,cond_false] at hk
       rcases hk with h | h | h
       ·exact hFv k h
       ·exact .inl (qY k h)
       ·exact .inl (Il k h)
     have hbl:∀ k,k<w.heap.size→v.ownBlock≠some k→w'.heap[k]?=w.heap[k]?:=fun k hk hne=>q3.block k hk fun e=>hne e.symm
     have hst:=fun k hk=>th hs hO hw.size (fun k hk hnl=>hbl k hk fun e=>hnl (qY k (hv0 k e))) (id:=bP X S o) (ob:=.row t0 (kT at_ xs ys) sh) (F:=F) (fun k hk=>(hF k hk).imp (fun h=>h) fun h=>h.1) (k:=k) hk
     have fW:lj X.K w' w0.heap.size ((bP X S o,.row t0 (kT at_ xs ys) sh)::(fH (fH S dF) iU).aj) (upd β (bP X S o) v') (upd fp (bP X S o) F) (aH ((bP X S o,.row t0 (kT at_ xs ys) sh)::(fH (fH S dF) iU).aj) (upd fp (bP X S o) F) w') F (.row t0 (kT at_ xs ys) sh) v':=
      Vi hat hel0 hel1 MJ hcs q2 hvb (fun k hk hne=>hbl k (hlt k hk) hne) (fun k hk e=>(hnst k hk) (qY k (hv0 k e))) rfl (fun k hk=>(hst k hk).1)
       (fun k hs1 hk aab hne2=>by
        have hk':jl S fp (fH (fH S dF) iU).aj k:=hk.elim (qY k) (Il k);have hkl:=hlt k (hk.imp (fun h=>h) .inl);refine ⟨Nat.lt_of_lt_of_le hkl hw.size,fun j dR hj=>?_⟩;rw [aQ] at hj
        by_cases e:j=bP X S o
        ·rw [e,cz]
         show ¬ (cond sh (fun g=>v'.ownBlock=some g) (fun k=>v'.ownBlock=some k∨iM fp dF k∨iM fp iU k)) k;have Z4:sh=true:=hs1;rw [Z4];exact aab
        ·rw [if_neg e] at hj
         rw [dt _ _ e];intro Nq
         exact o4 hs hO hj Nq hk') hv0
     have h2:=hs.OO hO hw (fun k hk hnl=>hbl k hk fun e=>hnl (qY k (hv0 k e))) (id:=bP X S o) (by
      have:=hn;unfold fT at this;rw [mZ,mZ] at this
      exact this) (ob:=.row t0 (kT at_ xs ys) sh) (hv:=v') (F:=F) hF fW (fH (fH S dF) iU).base
     have hSe:(⟨S.env,(bP X S o,.row t0 (kT at_ xs ys) sh)::(fH (fH S dF) iU).aj,(fH (fH S dF) iU).base⟩:St C)=(fH (fH S dF) iU).setObj (bP X S o) (.row t0 (kT at_ xs ys) sh):=by
      unfold St.setObj;rw [mZ,mZ]
     rw [hSe] at h2;subst ho;refine bw h2 hd (v:=.one (.ref (bP X S o) [])) ⟨?_,(cz _ _ _).symm⟩ h;obtain ⟨A',c',e,_⟩:=gq q2;rw [e];rfl
    ·cases h
   ·cases hy
  ·cases hx
 ·cases h
theorem Vn (hX:jk P X) (hs:cK X.K w0 nt S β fp a w) (hd:slot dst nt) {o:Oper} (ho:o.dst=dst) {T:TypeId} {t t0 t1:Ty} (hT:X.tk T=some (.one (.er t))) {xs:List (C t0)} {ys:List (C t1)} {dF iU:Option Nat} {gA oo:Bool} {v v1:Value}
  (h:pD none X o S t t0 t1 xs ys dF iU (gA||oo) k=some r) (hne:∀ i,dF=some i→iU≠some i)
  (hb:∃ cs,w.ownsRow w0.heap.size (X.K.tid t0) (X.K.sz t0) v xs.length cs∧(∀ g,v.ownBlock=some g→iM fp dF g)∧kW X.K w w0.heap.size (aH S.aj fp w) (iM fp dF) t0 xs v.ownBlock (fun m=>cs.getD m undef) gA)
  (hl0:∀ i,dF=some i→∃ ob,lk S.aj i=some ob) (hl1:∀ i,iU=some i→∃ ob,lk S.aj i=some ob)
  (hh:Handed X.K w w0.heap.size (aH S.aj fp w) (iM fp iU) t1 ys v1 oo) (J3:∀ i g,iU=some i→v1.ownBlock=some g→fp i g) {ty:TypeId} :
  ∃ v' w',(Builtin.append_ #[T,T] ty #[v,v1]).run P w = .ok v' w'∧Next X.K w0 nt k r (a.put dst v') w':=by
 obtain ⟨cs,A,c,f,e0,e1,hown,ME,hA,h1,_,Qh,_,K⟩:=Bv hX hs hd ho h hne (fun i e=>by cases e) hb hl0 hl1 hh J3;subst e0;subst ME;obtain ⟨i,z,hi,hsz,hby,hpos,hz,hzs,Tn⟩:=hX.el t0;have hlen:xs.length+ys.length≤140737488355328:=Nat.le_trans (Nat.le_mul_of_pos_right _ hpos) Qh;obtain ⟨v',w',q1,q2,q3,q4⟩:=yC (P:=P) (ty:=ty) (hX.tk _ _ hT).er hi hz hsz hby hzs (X.K.pos t0) hown (m:=ys.length) (c:=c) hA h1 (by simp only [maxLen];omega) Qh hs.below.size;exact ⟨v',w',q1,K v' w' q2 q3 (q4.imp (fun h=>h) fun h g hg=>by rw [h] at hg;cases hg;exact Nat.le_refl _)⟩
end
end Go.Proofs.Ytipemmgoipbojaa.Ab
