/- The abstract machine: functions that write through what they are handed, part 4: their contracts. -/
import Derived.Test.YtakakoogpmhhkaaP3
import Derived.ChangeArms
import Derived.DataReads
import Derived.ChangeOld
set_option linter.unusedVariables false
set_option linter.unusedSimpArgs false
set_option linter.unusedSectionVars false
set_option linter.unusedVariables false
set_option linter.unusedSimpArgs false
set_option linter.unusedSectionVars false
namespace Go.Proofs.Ytakakoogpmhhkaa.Ab
open Go Go.RowKit

section
variable {Ty : Type} [DecidableEq Ty] {C : Ty→Type}
variable {P : Program} {X : Cx C} {w0 w : World} {nt : Nat} {S : St C} {β : Nat→Value} {fp : Nat→Nat→Prop} {a : Act} {R : Type} {r : R}

section
variable {K : Cd C} {kp : Nat→Prop} {kh : Nat→Option Obj} {hd : Nat→Value}
theorem cons_gh (h : Cons P X) : Cons P (X.gh kp kh hd):=⟨fun f c hc=>con_gh (h.1 f c hc),fun f c hc=>conw_gh (h.2.1 f c hc),fun f I hI=>inl_gh (h.2.2 f I hI)⟩
end

def GB : Nat:=90000
def A0 : Nat:=50000000
def sv1 : Bool×List (Lf C)→SV C
  | (false,l::_) => .one l
  | (_,ls) => .agg ls
def hdrs : Nat→List (Lf C)→List (Nat×SV C)
  | _,[]=>[]
  | m,.row _ _::r=>(GB+1+m,.hdr (A0+m) m)::hdrs (m+1) r
  | m,_::r=>hdrs (m+1) r
def startW (rs : List (Bool×List (Lf C))) : St C:={ env:=argEnv 0 ((internAll A0 rs).1.map sv1)++(GB,.frame)::hdrs 0 (flatten rs),objs:=(internAll A0 rs).2,base:=0 }
def isRow : Lf C→Bool
  | .row _ _=>true
  | _=>false
def roots (S : St C) : Nat→List Bool→Option (List (Lf C))
  | _,[]=>some []
  | m,true::r=>match lk S.env (GB+1+m) with
    | some (.hdr id j)=>cond (Nat.beq j m) (match roots S (m+1) r with
      | some l=>some (.ref id []::l)
      | none=>none) none
    | _=>none
  | m,false::r=>roots S (m+1) r
def kTopW (X : Cx C) (fn : Func) (mask : List Bool) (dec : List (Lf C)→List (Bool×List (Lf C))→Option R) (e : Ex) (S : St C) : Option R:=match e with
  | .exit _=>none
  | _=>match lk S.env GB with
    | some .frame=>match resOf X S fn.results.toList,roots S 0 mask with
      | some rs',some rt=>match absorb S (rt++flatten rs') with
        | some (ls',_,false)=>dec (ls'.take rt.length) (reshape rs' (ls'.drop rt.length))
        | _=>none
      | _,_=>none
    | _=>none
noncomputable def runFnW (X : Cx C) (F : Cf) (fn : Func) (rs : List (Bool×List (Lf C))) (dec : List (Lf C)→List (Bool×List (Lf C))→Option R) : Option R:=run X F (bodyOf fn) 0 (startW rs) (kTopW X fn ((flatten rs).map isRow) dec)

theorem hdrs_lk : ∀ {ls : List (Lf C)} {m t : Nat} {v : SV C},lk (hdrs m ls) t=some v → ∃ i t' xs,ls[i]? = some (.row t' xs)∧v = .hdr (A0+(m+i)) (m+i)
  | [],m,t,v,h=>by simp [hdrs,lk] at h
  | l::ls,m,t,v,h=>by
    have up : lk (hdrs (m+1) ls) t=some v → ∃ i t' xs,(l::ls)[i]? = some (.row t' xs)∧v = .hdr (A0+(m+i)) (m+i):=fun h=>by
      obtain ⟨i,t',xs,h1,h2⟩:=hdrs_lk h
      exact ⟨i+1,t',xs,by simpa using h1,by rw [h2]; congr 1 <;> omega⟩
    cases l with
    | row t' xs =>
      simp only [hdrs,lk_cons] at h
      split at h
      · cases h; exact ⟨0,t',xs,rfl,rfl⟩
      · exact up h
    | _=>exact up h

theorem startW_sim {K : Cd C} {rs : List (Bool×List (Lf C))} {uls : List Value} {G : Nat→Nat→Prop} (hi0 : K.inv w0) (hb0 : Below w0.heap.size w0 w) (hok : okRes rs=true) (hul : uls.length=(flatten rs).length) (hn : rs.length≤nt)
    (hfr : ∀ m k,G m k→w0.heap.size≤k∧k<w.heap.size) (hdj : ∀ m m' k,G m k→G m' k→m=m') (hleaf : ∀ (m : Nat) (l : Lf C),(flatten rs)[m]? = some l→l.plain=true∧Own K w w0.heap.size (G m) l (uls.getD m undef))
    (hkp : ∀ k,K.kp (2*k)→k<w.heap.size ∧ ∀ m,¬ G m k) (hkh : ∀ k,K.kh k=w.heap[k]?) (hhd : ∀ m,K.hd m=uls.getD m undef) :
    Sim K w0 nt (startW rs) (fun id=>uls.getD (id - A0) undef) (fun id=>G (id - A0)) { tmps:=(packAll rs uls).toArray++Array.replicate (nt - (packAll rs uls).toArray.size) undef,defers:=[] } w:=by
  have hsh:=shape_intern rs A0
  have hobj : ∀ id ob,lk (internAll A0 rs).2 id=some ob → ∃ m t xs,id=A0+m∧(flatten rs)[m]? = some (.row t xs)∧ob = .row t xs false:=fun id ob h=>all_lk _ _ _ _ h
  have hlfs : LfsOk K w (startW rs).objs (fun id=>uls.getD (id - A0) undef) (fun id=>G (id - A0)) (stbOf (startW rs).objs (fun id=>G (id - A0)) w) (flatten (internAll A0 rs).1) uls:=by
    refine ⟨by rw [hul,flatten_len hsh],fun m l hm => ?_⟩
    rcases all_get rs A0 m l hm with ⟨t,xs,q1,q2,q3⟩ | ⟨q1,q2⟩
    · subst q2
      refine ⟨(hleaf m _ q1).2.one,?_⟩
      simp
    · exact own_lf (hleaf m l q1).2 q2
  obtain ⟨hpl,hpk⟩:=packAll_ok (by rw [okRes_congr hsh]; exact hok) hlfs
  rw [packAll_congr hsh] at hpl hpk
  have hlen : (internAll A0 rs).1.length=rs.length:=by
    have : ∀ (rs : List (Bool×List (Lf C))) (n : Nat),(internAll n rs).1.length=rs.length:=by
      intro rs
      induction rs with
      | nil=>intro n; rfl
      | cons x r ih=>intro n; obtain ⟨b,ls⟩:=x; simp [internAll,ih]
    exact this rs A0
  refine ⟨hb0,⟨rfl,hi0⟩,by simp; omega,fun id ob k h hk=>hfr _ k hk,fun id id' ob ob' k h h' hk hk' => ?_,fun id ob h => ?_,fun t v h => ?_⟩
  · obtain ⟨m,_,_,e,_⟩:=hobj id ob h
    obtain ⟨m',_,_,e',_⟩:=hobj id' ob' h'
    have:=hdj _ _ k hk hk'
    omega
  · obtain ⟨m,t,xs,e,h1,h2⟩:=hobj id ob h
    subst h2
    have e' : id - A0=m:=by omega
    show Own K w w0.heap.size (G (id - A0)) (.row t xs) (uls.getD (id - A0) undef)
    rw [e']
    exact (hleaf m _ h1).2
  · have h' : lk (argEnv 0 ((internAll A0 rs).1.map sv1)++(GB,.frame)::hdrs 0 (flatten rs)) t=some v:=h
    rw [lk_append] at h'
    cases e1 : lk (argEnv 0 ((internAll A0 rs).1.map sv1)) t with
    | some v' =>
      rw [e1] at h'
      cases h'
      obtain ⟨_,e2⟩:=argEnv_lk _ 0 t _ e1
      simp only [Nat.sub_zero,List.getElem?_map] at e2
      cases e3 : (internAll A0 rs).1[t]? with
      | none=>rw [e3] at e2; cases e2
      | some x =>
        rw [e3] at e2
        simp only [Option.map_some,Option.some.injEq] at e2
        subst e2
        have hlt : t<(packAll rs uls).length:=by rw [hpl]; exact idx_lt e3
        have e4 : ((packAll rs uls).toArray++Array.replicate (nt - (packAll rs uls).toArray.size) undef).getD t undef=(packAll rs uls).getD t undef:=by
          simp [Array.getD_eq_getD_getElem?,Array.getElem?_append,hlt,List.getD]
        show SVOk K w _ _ _ _ (sv1 x) (((packAll rs uls).toArray++Array.replicate (nt - (packAll rs uls).toArray.size) undef).getD t undef)
        rw [e4]
        have:=hpk t x e3
        obtain ⟨b,ls⟩:=x
        cases b with
        | false=>obtain ⟨l,e,h1⟩:=this; subst e; exact h1
        | true=>exact this
    | none =>
      rw [e1] at h'
      simp only [lk_cons] at h'
      split at h'
      · cases h'
        intro k hk
        obtain ⟨h1,h2⟩:=hkp k hk
        exact ⟨⟨h1,fun id ob _=>h2 _⟩,(hkh k).symm⟩
      · obtain ⟨i,t',xs,h1,h2⟩:=hdrs_lk h'
        subst h2
        have e : A0+(0+i) - A0=0+i:=Nat.add_sub_cancel_left ..
        have e2 : uls.getD (A0+(0+i) - A0) undef=K.hd (0+i):=by rw [e,hhd]
        exact e2

theorem roots_ok {K : Cd C} (hs : Sim K w0 nt S β fp a w) : ∀ {ls : List (Lf C)} {us : List Value} {m : Nat} {rt : List (Lf C)},roots S m (ls.map isRow)=some rt→us.length=ls.length→(∀ (i : Nat) (l : Lf C),ls[i]? = some l→us.getD i undef=K.hd (m+i)∧(us.getD i undef).oneCell' = true) →
    LfsOk K w S.objs β fp (stbOf S.objs fp w) rt (rowsOf ls us)
  | [],us,m,rt,h,hl,_=>by
    simp only [List.map_nil,roots,Option.some.injEq] at h
    subst h
    cases us <;> exact ⟨rfl,fun i l h=>by simp at h⟩
  | l::ls,us,m,rt,h,hl,hu=>by
    obtain ⟨u,us,rfl⟩ : ∃ u us',us=u::us' := by
      cases us with
      | nil=>simp at hl
      | cons u us=>exact ⟨u,us,rfl⟩
    have hl' : us.length=ls.length:=by simpa using hl
    have hu' : ∀ (i : Nat) (l : Lf C),ls[i]? = some l→us.getD i undef=K.hd (m+1+i)∧(us.getD i undef).oneCell' = true:=fun i l hi=>by
      have:=hu (i+1) l (by simpa using hi)
      rw [show m+1+i=m+(i+1) by omega]
      simpa using this
    cases l with
    | row t xs =>
      simp only [List.map_cons,isRow,roots] at h
      split at h
      · rename_i id j hj
        obtain ⟨hb,h⟩:=cond_some h
        have hb:=Nat.eq_of_beq_eq_true hb
        subst hb
        split at h
        · rename_i rt' hr
          cases h
          have ih:=roots_ok hs hr hl' hu'
          obtain ⟨h1,h2⟩:=hu 0 _ rfl
          have hβ : β id=K.hd j:=hs.env _ _ hj
          refine ⟨by simp [rowsOf,ih.1],fun i l hi => ?_⟩
          cases i with
          | zero=>simp at hi; subst hi; exact ⟨h2,by rw [hβ]; simpa [rowsOf] using h1⟩
          | succ i=>simpa [rowsOf] using ih.2 i l (by simpa using hi)
        · cases h
      · cases h
    | _=>exact roots_ok (ls:=ls) hs h hl' hu'

theorem conw_of (hX : XOk P X) (hC : Cons P X) (hm : P.follows .mixedOrders = true) {f : Nat} {fn : Func} {c : Code} (hf : P.funcs[f]? = some fn) (hb : fn.body = some c) (hB : codeB fn.ntmps c = true) (hname : fn.name ≠ "runtime.NumGoroutine") (co : ConW C)
    (dec : List (Lf C)→List (Bool×List (Lf C))→Option co.R0) (hd : ∀ os rs r0,dec os rs=some r0→os=co.out r0∧rs=co.ret r0)
    (h : ∀ rs r0,co.g rs=some r0→rs.length≤fn.ntmps ∧ ∃ F : Cf,∀ kp kh hd,runFnW (X.gh kp kh hd) F fn rs dec=some r0) : ConWOk P X.K f co:=by
  refine ⟨⟨fn,hf,by rw [hb]; rfl,hname⟩,fun w0 w rs uls r0 G hi0 hb0 hok hul hfrG hdjG hleaf hg => ?_⟩
  obtain ⟨hn,F,hr⟩:=h rs r0 hg
  let kp : Nat→Prop:=fun k=>k / 2<w.heap.size ∧ ∀ m,¬ G m (k / 2)
  have hkp2 : ∀ k,kp (2*k)↔(k<w.heap.size ∧ ∀ m,¬ G m k):=fun k=>by
    have e : 2*k / 2=k:=by omega
    simp only [kp,e]
  let kh : Nat→Option Obj:=fun k=>w.heap[k]?
  let hh : Nat→Value:=fun m=>uls.getD m undef
  have hr:=hr kp kh hh
  have hsim:=startW_sim (K:=X.K.gh kp kh hh) (nt:=fn.ntmps) hi0 hb0 hok hul hn hfrG hdjG (fun m l hm=>⟨(hleaf m l hm).1,own_gh (hleaf m l hm).2⟩) (fun k hk=>(hkp2 k).1 hk) (fun k=>rfl) (fun m=>rfl)
  unfold runFnW at hr
  have hbody : bodyOf fn=c:=by unfold bodyOf; rw [hb]
  rw [hbody] at hr
  refine calls_of_wp hf hb (Go.wp_mono (run_sound (xok_gh hX) (cons_gh hC) hm F c 0 _ _ w _ hB ⟨_,_,hsim⟩ hr) ?_)
  have fin : ∀ (a : Act) (w' : World) (S' : St C) (e : Ex),SimE (X.gh kp kh hh).K w0 fn.ntmps S' a w' → (e = .norm∨e = .ret)→kTopW (X.gh kp kh hh) fn ((flatten rs).map isRow) dec e S' = some r0 →
      a.defers=[] ∧ ∃ v,(results fn a.tmps).run P w' = .ok v w' ∧ ∃ v_1,Ending.returned v = .returned v_1∧Below w0.heap.size w0 w' ∧ (∀ k,k<w.heap.size→(∀ m,¬ G m k)→k<w'.heap.size∧w'.heap[k]? = w.heap[k]?) ∧
      ∃ (rls : List Value) (G' : Nat→Nat→Prop),v_1=pack (co.ret r0) rls∧rls.length=(flatten (co.ret r0)).length∧okRes (co.ret r0)=true∧(co.out r0).length=(rowsOf (flatten rs) uls).length ∧
        (∀ m k,G' m k→((∃ m0,G m0 k)∨w.heap.size≤k)∧w0.heap.size≤k∧k<w'.heap.size)∧(∀ m m' k,G' m k→G' m' k→m=m') ∧
        ∀ (m : Nat) (l : Lf C),(co.out r0++flatten (co.ret r0))[m]? = some l→Own X.K w' w0.heap.size (G' m) l ((rowsOf (flatten rs) uls++rls).getD m undef):=by
    intro a w' S' e ⟨β',fp',hs'⟩ he h
    have h : (match lk S'.env GB with
      | some .frame=>match resOf (X.gh kp kh hh) S' fn.results.toList,roots S' 0 ((flatten rs).map isRow) with
        | some rs',some rt=>match absorb S' (rt++flatten rs') with
          | some (ls',_,false)=>dec (ls'.take rt.length) (reshape rs' (ls'.drop rt.length))
          | _=>none
        | _,_=>none
      | _=>none)=some r0:=by
      rcases he with he | he <;> subst he <;> exact h
    split at h
    case h_2=>cases h
    rename_i hfrm
    split at h
    case h_2=>cases h
    rename_i rs' rt hres hroot
    split at h
    case h_2=>cases h
    rename_i ls' S1 habs
    obtain ⟨us',h1,h2,h3⟩:=resOf_ok (xok_gh hX) hs' _ rs' hres
    have hrt:=roots_ok (us:=uls) hs' hroot hul (fun i l hi=>⟨by rw [Nat.zero_add]; rfl,(hleaf i l hi).2.one⟩)
    have hall : LfsOk (X.gh kp kh hh).K w' S'.objs β' fp' (stbOf S'.objs fp' w') (rt++flatten rs') (rowsOf (flatten rs) uls++us'):=by
      refine ⟨by simp [hrt.1,h2.1],fun i l hi => ?_⟩
      rcases cat_get hi with ⟨hj,hx⟩ | ⟨hj,hx⟩
      · have:=hrt.2 i l hx
        have e : (rowsOf (flatten rs) uls++us').getD i undef=(rowsOf (flatten rs) uls).getD i undef:=by simp [List.getD,List.getElem?_append_left (by rw [hrt.1]; exact hj : i<(rowsOf (flatten rs) uls).length)]
        rw [e]; exact this
      · have:=h2.2 _ l hx
        have e : (rowsOf (flatten rs) uls++us').getD i undef=us'.getD (i - rt.length) undef:=by
          simp only [List.getD]
          rw [List.getElem?_append_right (by rw [hrt.1]; exact hj),hrt.1]
        rw [e]; exact this
    obtain ⟨_,_,_,g3,G',g4,g5,g6⟩:=absorb_ok hs' (rt++flatten rs') _ S'.objs ls' S1 false (fun _ _ h=>h) habs hall
    obtain ⟨ho,hret⟩:=hd _ _ _ h
    have hlen : ls'.length=rt.length+(flatten rs').length:=by rw [g3]; simp
    obtain ⟨e1,e2⟩:=reshape_flat rs' (ls'.drop rt.length) (by simp [hlen])
    have hsplit : ls' = co.out r0++flatten (co.ret r0):=by rw [← ho,← hret,e1,List.take_append_drop]
    have hfr : ∀ k,kp (2*k)→stbOf S'.objs fp' w' k∧w'.heap[k]? = w.heap[k]? := fun k hk=>hs'.env GB _ hfrm k hk
    refine ⟨hs'.defers.1,pack rs' us',?_,_,rfl,hs'.below,fun k h1 h2=>⟨(hfr k ((hkp2 k).2 ⟨h1,h2⟩)).1.1,(hfr k ((hkp2 k).2 ⟨h1,h2⟩)).2⟩,us',G',?_,?_,?_,?_,fun m k hk => ?_,fun m m' k h1 h2=>g5 m m' k h1 h2,fun m l hm => ?_⟩
    · rw [results_eq]
      simp only [Sem.run_bind,h3,Result.andThen_ok]
      rfl
    · rw [← hret]; exact (pack_congr e2).symm
    · rw [← hret,e1]; simp [hlen,h2.1]
    · rw [← hret,okRes_congr e2]; exact h1
    · rw [← ho,hrt.1]; simp [hlen]
    · obtain ⟨id,ob,q1,q2,q3⟩:=g4 m k hk
      refine ⟨?_,hs'.fresh id ob k q1 q3⟩
      by_cases hc : ∃ m0,G m0 k
      · exact .inl hc
      · right
        rcases Nat.lt_or_ge k w.heap.size with hlt | hge
        · exact absurd q3 ((hfr k ((hkp2 k).2 ⟨hlt,fun m hm=>hc ⟨m,hm⟩⟩)).1.2 id ob q1)
        · exact hge
    · rw [← hsplit] at hm
      exact own_hg ((g6 m l hm).1 rfl)
  rintro (_ | _ | _ | _ | _ | _) a' w' hp
  · obtain ⟨S',hs',hk⟩:=hp; exact fin a' w' S' .norm hs' (.inl rfl) hk
  · obtain ⟨S',hs',hk⟩:=hp; cases hk
  · exact hp.elim
  · obtain ⟨S',hs',hk⟩:=hp; exact fin a' w' S' .ret hs' (.inr rfl) hk
  · exact hp.elim
  · exact hp.elim
end
end Go.Proofs.Ytakakoogpmhhkaa.Ab

/- The abstract machine: a function whose code is run in place: what it owes. -/
set_option linter.unusedVariables false
set_option linter.unusedSimpArgs false
set_option linter.unusedSectionVars false
namespace Go.Proofs.Ytakakoogpmhhkaa.Ab
open Go Go.RowKit

section
variable {Ty : Type} [DecidableEq Ty] {C : Ty→Type}
variable {P : Program} {X : Cx C} {K : Cd C} {w0 w : World} {nt : Nat} {S : St C} {β : Nat→Value} {fp : Nat→Nat→Prop} {a : Act} {R : Type} {r : R} {objs : Objs C} {stb : Nat→Prop}

theorem ghost_any {v : SV C} {u u' : Value} (hv : (∃ x j,v = .sus x j)∨(∃ id j,v = .hdr id j)∨v = .frame) (h : SVOk K w objs β fp stb v u) : SVOk K w objs β fp stb v u' := by
  rcases hv with ⟨x,j,rfl⟩ | ⟨id,j,rfl⟩ | rfl <;> exact h

theorem inl_of (hX : XOk P X) (hC : Cons P X) (hm : P.follows .mixedOrders = true) (F : Cf) {f : Nat} {fn : Func} {c : Code} (hf : P.funcs[f]? = some fn) (hb : fn.body = some c) (hB : codeB fn.ntmps c = true) (hname : fn.name ≠ "runtime.NumGoroutine") : InlOk P X.K f (inlOf X F fn) := by
  refine ⟨⟨fn,hf,by rw [hb]; rfl,hname⟩,fun kp kh hd w0 w S β fp vs us R k r hs hkey hul hv h => ?_⟩
  unfold inlOf at h
  simp only [hb] at h
  obtain ⟨hn,h⟩:=cond_some h
  simp only [Bool.and_eq_true] at hn
  have hn1:=Nat.le_of_ble_eq_true hn.1
  have hn2:=Nat.le_of_ble_eq_true hn.2
  rw [← run_gh (kp:=kp) (kh:=kh) (hd:=hd)] at h
  have hsim : Sim (X.gh kp kh hd).K w0 fn.ntmps { env:=argEnv 0 vs++S.env,objs:=S.objs,base:=S.base } β fp { tmps:=us.toArray++Array.replicate (fn.ntmps - us.toArray.size) undef,defers:=[] } w:=by
    refine ⟨hs.below,⟨rfl,hs.defers.2⟩,by simp; omega,hs.fresh,hs.disj,hs.objs,fun t v ht => ?_⟩
    have ht' : lk (argEnv 0 vs++S.env) t=some v:=ht
    rw [lk_append] at ht'
    cases e1 : lk (argEnv 0 vs) t with
    | some v' =>
      rw [e1] at ht'
      cases ht'
      obtain ⟨_,e2⟩:=argEnv_lk _ 0 t _ e1
      simp only [Nat.sub_zero] at e2
      have hlt : t<us.length:=by rw [hul]; exact idx_lt e2
      have e4 : (us.toArray++Array.replicate (fn.ntmps - us.toArray.size) undef).getD t undef=us.getD t undef:=by
        simp [Array.getD_eq_getD_getElem?,Array.getElem?_append,hlt,List.getD]
      show SVOk _ w _ _ _ _ v ((us.toArray++Array.replicate (fn.ntmps - us.toArray.size) undef).getD t undef)
      rw [e4]
      exact hv t v e2
    | none =>
      rw [e1] at ht'
      have hge:=hkey t v ht'
      have e4 : (us.toArray++Array.replicate (fn.ntmps - us.toArray.size) undef).getD t undef=undef:=by
        rw [Array.getD_eq_getD_getElem?,Array.getElem?_eq_none (by simp; omega)]
        rfl
      show SVOk _ w _ _ _ _ v ((us.toArray++Array.replicate (fn.ntmps - us.toArray.size) undef).getD t undef)
      rw [e4]
      have:=hs.env t v ht'
      have e5 : noAct.tmps.getD t undef=undef:=by simp [noAct,Array.getD_eq_getD_getElem?]
      rw [e5] at this
      exact this
  refine calls_of_wp hf hb (Go.wp_mono (run_sound (xok_gh hX) (cons_gh hC) hm F c 0 _ _ w _ hB ⟨_,_,hsim⟩ h) ?_)
  have fin : ∀ (a : Act) (w' : World) (S' : St C) (e : Ex),SimE (X.gh kp kh hd).K w0 fn.ntmps S' a w' → (e = .norm∨e = .ret)→(match e with
      | .exit _=>none
      | _=>match resOf X S' fn.results.toList with
        | some rs=>k rs { S' with env:=ghostsE S'.env }
        | none=>none)=some r →
      a.defers=[] ∧ ∃ v,(results fn a.tmps).run P w' = .ok v w' ∧ ∃ (v_1 : Value) (rs : List (Bool×List (Lf C))) (rls : List Value) (S' : St C) (β' : Nat→Value) (fp' : Nat→Nat→Prop),Ending.returned v = .returned v_1∧v_1=pack rs rls∧okRes rs=true∧k rs S' = some r ∧
      Sim (X.K.gh kp kh hd) w0 0 S' β' fp' noAct w' ∧ LfsOk (X.K.gh kp kh hd) w' S'.objs β' fp' (stbOf S'.objs fp' w') (flatten rs) rls:=by
    intro a w' S' e ⟨β',fp',hs'⟩ he h
    have h : (match resOf X S' fn.results.toList with
        | some rs=>k rs { S' with env:=ghostsE S'.env }
        | none=>none)=some r:=by
      rcases he with he | he <;> subst he <;> exact h
    split at h
    case h_2=>cases h
    rename_i rs hres
    rw [← resOf_gh (kp:=kp) (kh:=kh) (hd:=hd)] at hres
    obtain ⟨us',h1,h2,h3⟩:=resOf_ok (xok_gh hX) hs' _ rs hres
    refine ⟨hs'.defers.1,pack rs us',?_,_,rs,us',{ S' with env:=ghostsE S'.env },β',fp',rfl,rfl,h1,h,⟨hs'.below,⟨rfl,hs'.defers.2⟩,rfl,hs'.fresh,hs'.disj,hs'.objs,fun t v ht => ?_⟩,h2⟩
    · rw [results_eq]
      simp only [Sem.run_bind,h3,Result.andThen_ok]
      rfl
    · obtain ⟨q1,q2⟩:=ghostsE_lk ht
      exact ghost_any q2 (hs'.env t v q1)
  rintro (_ | _ | _ | _ | _ | _) a' w' hp
  · obtain ⟨S',hs',hk⟩:=hp; exact fin a' w' S' .norm hs' (.inl rfl) hk
  · obtain ⟨S',hs',hk⟩:=hp; cases hk
  · exact hp.elim
  · obtain ⟨S',hs',hk⟩:=hp; exact fin a' w' S' .ret hs' (.inr rfl) hk
  · exact hp.elim
  · exact hp.elim
end
end Go.Proofs.Ytakakoogpmhhkaa.Ab

/- The abstract machine: names for what comes behind a call in place. -/
set_option linter.unusedVariables false
namespace Go.Proofs.Ytakakoogpmhhkaa.Ab
open Go Go.RowKit

section
variable {Ty : Type} {C : Ty→Type} {R : Type}
def opsOf : Code→Array Oper
  | .region _ ops _=>ops
  | _ => #[]
def regK (F : Cf) (k : Ex→St C→Option R) (S : St C) : Option R:=forceS (S.tidy F.keep) fun S2=>k .norm S2
def callK (q b : Nat) (d : Option Tmp) (k : St C→Option R) (rs : List (Bool×List (Lf C))) (S : St C) : Option R:=match toSV rs with
  | some v=>forceS ((resu q b S).put d v) k
  | none=>none
def inlK (X : Cx C) (fn : Func) (k : List (Bool×List (Lf C))→St C→Option R) (e : Ex) (S : St C) : Option R:=match e with
  | .exit _=>none
  | _=>match resOf X S fn.results.toList with
    | some rs=>k rs { S with env:=ghostsE S.env }
    | none=>none
noncomputable def restK [DecidableEq Ty] (X : Cx C) (c : Code) (j : Nat) (k : St C→Option R) (S : St C) : Option R:=evs X (opsOf c) ((opsOf c).toList.drop j) S k
noncomputable def drawK [DecidableEq Ty] (X : Cx C) (c : Code) (f : Nat) (is : List Nat) (k : St C→Option R) (S : St C) : Option R:=dlay X (opsOf c) (ancs 0 (opsOf c).toList []) k f (opsAt (opsOf c) is) S []
def allI (P : Program) (K : Cd C) : List (Nat×Inl C)→Prop
  | []=>True
  | (f,c)::r=>InlOk P K f c∧allI P K r
def lkA {α : Type 1} : List (Nat×α)→Nat→Option α
  | [],_=>none
  | (m,v)::r,n=>cond (Nat.beq n m) (some v) (lkA r n)
theorem lkI_ok {P : Program} {K : Cd C} : ∀ {l : List (Nat×Inl C)},allI P K l → ∀ f c,lkA l f=some c→InlOk P K f c
  | [],_,f,c,h=>by cases h
  | (m,v)::r,ha,f,c,h=>by
    simp only [lkA] at h
    cases hb : Nat.beq f m with
    | true=>rw [hb] at h; cases h; have:=Nat.eq_of_beq_eq_true hb; subst this; exact ha.1
    | false=>rw [hb] at h; exact lkI_ok ha.2 f c h
end
end Go.Proofs.Ytakakoogpmhhkaa.Ab

/- The abstract machine: a function told by a summary: what it does to the things that it reaches,by their numbers. -/
set_option linter.unusedVariables false
set_option linter.unusedSimpArgs false
set_option linter.unusedSectionVars false
namespace Go.Proofs.Ytakakoogpmhhkaa.Ab
open Go Go.RowKit

section
variable {Ty : Type} [DecidableEq Ty] {C : Ty→Type}
variable {P : Program} {X : Cx C} {K : Cd C} {w0 w : World} {nt : Nat} {S : St C} {β : Nat→Value} {fp : Nat→Nat→Prop} {a : Act} {R : Type} {r : R} {objs : Objs C} {stb : Nat→Prop}

def GID : Nat:=77777777
/-- ids: the things that it reaches; out: these behind the call,as canon lays them. -/
structure Sum (C : Ty→Type) where
  ids : List Nat
  roots : List (Lf C)
  rowIds : List Nat
  R0 : Type
  g : List (SV C)→List (Nat×Ob C)→Option R0
  out : R0→List (Nat×Ob C)
  ret : R0→List (Bool×List (Lf C))
def pickO (O : Objs C) : List Nat→Option (Objs C)
  | []=>some []
  | id::r=>match lk O id with
    | some ob=>match pickO O r with
      | some l=>some ((id,ob)::l)
      | none=>none
    | none=>none
def rootsO : Objs C→List (Lf C)
  | []=>[]
  | (id,.box .mem _)::r => .ptr id 0::rootsO r
  | (id,.box (.clo ..) _)::r => .vo id::rootsO r
  | (id,.box (.ifc ..) _)::r => .vo id::rootsO r
  | (id,.map ..)::r => .vo id::rootsO r
  | _::r=>rootsO r
def rowsO : Objs C→List Nat
  | []=>[]
  | (id,.row ..)::r=>id::rowsO r
  | _::r=>rowsO r
def noGh : Objs C→Bool
  | []=>true
  | (_,.ghost)::_=>false
  | _::r=>noGh r
def simpleL : Lf C→Bool
  | .int .. => true
  | .bool _=>true
  | .str _=>true
  | .fnc _=>true
  | _=>false
def sumInl (c : Sum C) : Inl C:=⟨fun R vs S k=>match pickO S.objs c.ids with
  | some O=>cond (apartN c.rowIds (idsE0 S.env++idsO (rmAll c.ids S.objs))&&vs.all okV) (Option.bind (c.g vs O) fun r=>k (c.ret r) { S with objs:=c.out r++rmAll c.ids S.objs }) none
  | none=>none⟩
def startS (c : Sum C) (vs : List (SV C)) (O : Objs C) : St C:={ env:=argEnv 0 vs++[(GB,.frame),(GB+1,.sus (true,c.roots) 0)],objs:=(GID,.ghost)::O,base:=0 }
def kTopS {R : Type} (X : Cx C) (fn : Func) (dec : Objs C→List (Lf C)→List (Bool×List (Lf C))→Option R) (e : Ex) (S : St C) : Option R:=match e with
  | .exit _=>none
  | _=>match resOf X S fn.results.toList,S.canon [] with
    | some rs,some S' => match lk S'.env GB,lk S'.env (GB+1) with
      | some .frame,some (.sus (true,ls) j)=>cond (Nat.beq j 0) (dec S'.objs ls rs) none
      | _,_=>none
    | _,_=>none
noncomputable def runFnS {R : Type} (X : Cx C) (F : Cf) (fn : Func) (c : Sum C) (vs : List (SV C)) (O : Objs C) (dec : Objs C→List (Lf C)→List (Bool×List (Lf C))→Option R) : Option R:=run X F (bodyOf fn) 0 (startS c vs O) (kTopS X fn dec)
/-- What is asked of a summary. -/
structure SumFit (c : Sum C) (vs : List (SV C)) (O : Objs C) (r : c.R0) : Prop where
  roots : rootsO O=c.roots
  rows : rowsO O=c.rowIds
  gh : noGh O=true
  gh' : noGh (c.out r)=true
  keys : ∀ id,id ∈ keysO (c.out r)→id ∈ c.ids
  rows' : ∀ id,id ∈ rowsO (c.out r)→id ∈ c.rowIds
  closed : ∀ id,id ∈ idsO (c.out r)→id ∈ c.ids
  nogid : GID ∉ c.ids
  simple : ∀ l,l ∈ flatten (c.ret r)→simpleL l=true

theorem pickO_mem : ∀ {l : List Nat} {O' O : Objs C},pickO O' l=some O→(∀ id ob,lk O id=some ob↔id ∈ l∧lk O' id=some ob)∧(∀ x,x ∈ O→lk O' x.1=some x.2)∧keysO O=l
  | [],O',O,h=>by simp only [pickO,Option.some.injEq] at h; subst h; exact ⟨fun id ob=>by simp [lk],fun x hx=>(by cases hx),rfl⟩
  | id::l,O',O,h=>by
    simp only [pickO] at h
    split at h
    · rename_i ob ho
      split at h
      · rename_i l' hl
        cases h
        obtain ⟨h1,h2,h3⟩:=pickO_mem hl
        refine ⟨fun i ob' => ?_,fun x hx => ?_,by simpa [keysO] using h3⟩
        · rw [lk_cons]
          by_cases e : i=id
          · subst e
            rw [if_pos rfl,ho]
            simp
          · rw [if_neg e,h1]
            simp [e]
        · rcases List.mem_cons.1 hx with e | hx
          · subst e; exact ho
          · exact h2 x hx
      · cases h
    · cases h
theorem rootsO_mem : ∀ {O : Objs C} {l : Lf C},l ∈ rootsO O → ∃ id ob,(id,ob) ∈ O∧((l = .ptr id 0 ∧ ∃ ls,ob = .box .mem ls)∨(l = .vo id∧((∃ f n sh ls,ob = .box (.clo f n sh) ls)∨(∃ t sh ls,ob = .box (.ifc t sh) ls) ∨ ∃ mk kt vt xs c,ob = .map mk kt vt xs c)))
  | [],l,h=>by cases h
  | (id,ob)::O,l,h=>by
    have up : l ∈ rootsO O → ∃ i o,(i,o) ∈ (id,ob)::O∧((l = .ptr i 0 ∧ ∃ ls,o = .box .mem ls)∨(l = .vo i∧((∃ f n sh ls,o = .box (.clo f n sh) ls)∨(∃ t sh ls,o = .box (.ifc t sh) ls) ∨ ∃ mk kt vt xs c,o = .map mk kt vt xs c))):=fun h=>by
      obtain ⟨i,o,h1,h2⟩:=rootsO_mem h
      exact ⟨i,o,List.mem_cons_of_mem _ h1,h2⟩
    cases ob with
    | box kd ls=>cases kd with
      | mem =>
        rcases List.mem_cons.1 (show l ∈ .ptr id 0::rootsO O from h) with e | h
        · exact ⟨id,_,List.mem_cons_self,.inl ⟨e,ls,rfl⟩⟩
        · exact up h
      | clo f n sh =>
        rcases List.mem_cons.1 (show l ∈ .vo id::rootsO O from h) with e | h
        · exact ⟨id,_,List.mem_cons_self,.inr ⟨e,.inl ⟨f,n,sh,ls,rfl⟩⟩⟩
        · exact up h
      | ifc t sh =>
        rcases List.mem_cons.1 (show l ∈ .vo id::rootsO O from h) with e | h
        · exact ⟨id,_,List.mem_cons_self,.inr ⟨e,.inr (.inl ⟨t,sh,ls,rfl⟩)⟩⟩
        · exact up h
    | map mk kt vt xs c =>
      rcases List.mem_cons.1 (show l ∈ .vo id::rootsO O from h) with e | h
      · exact ⟨id,_,List.mem_cons_self,.inr ⟨e,.inr (.inr ⟨mk,kt,vt,xs,c,rfl⟩)⟩⟩
      · exact up h
    | row t xs sh=>exact up h
    | ghost=>exact up h
theorem rootsO_of : ∀ {O : Objs C} {id : Nat} {ob : Ob C},(id,ob) ∈ O→noGh O=true→id ∉ rowsO O→(.ptr id 0 ∈ rootsO O)∨(Lf.vo id ∈ rootsO O)
  | [],id,ob,h,_,_=>by cases h
  | (i,o)::O,id,ob,h,hg,hr=>by
    have step : (id,ob) ∈ O→noGh O=true→id ∉ rowsO O→(Lf.ptr id 0 ∈ rootsO O)∨(Lf.vo id ∈ rootsO O):=fun h hg hr=>rootsO_of h hg hr
    rcases List.mem_cons.1 h with e | h1
    · cases e
      cases o with
      | box kd ls=>cases kd with
        | mem=>exact .inl List.mem_cons_self
        | clo f n sh=>exact .inr List.mem_cons_self
        | ifc t sh=>exact .inr List.mem_cons_self
      | map mk kt vt xs c=>exact .inr List.mem_cons_self
      | row t xs sh=>exact absurd List.mem_cons_self hr
      | ghost=>cases hg
    · cases o with
      | box kd ls=>cases kd with
        | mem=>exact (step h1 hg hr).imp (List.mem_cons_of_mem _) (List.mem_cons_of_mem _)
        | clo f n sh=>exact (step h1 hg hr).imp (List.mem_cons_of_mem _) (List.mem_cons_of_mem _)
        | ifc t sh=>exact (step h1 hg hr).imp (List.mem_cons_of_mem _) (List.mem_cons_of_mem _)
      | map mk kt vt xs c=>exact (step h1 hg hr).imp (List.mem_cons_of_mem _) (List.mem_cons_of_mem _)
      | row t xs sh=>exact step h1 hg fun hm=>hr (List.mem_cons_of_mem _ hm)
      | ghost=>cases hg
theorem rowsO_lk : ∀ {O : Objs C} {id : Nat} {t : Ty} {xs : List (C t)} {sh : Bool},lk O id=some (.row t xs sh)→id ∈ rowsO O
  | [],id,t,xs,sh,h=>by cases h
  | (i,o)::O,id,t,xs,sh,h=>by
    rw [lk_cons] at h
    split at h
    · rename_i e; cases h; subst e; exact List.mem_cons_self
    · have:=rowsO_lk h
      cases o with
      | row=>exact List.mem_cons_of_mem _ this
      | box kd ls=>exact this
      | map=>exact this
      | ghost=>exact this
theorem noGh_lk : ∀ {O : Objs C} {id : Nat},noGh O=true→lk O id≠some .ghost
  | [],id,_,h=>by cases h
  | (i,o)::O,id,hg,h=>by
    rw [lk_cons] at h
    split at h
    · cases h; cases hg
    · cases o with
      | ghost=>cases hg
      | row=>exact noGh_lk (show noGh O=true from hg) h
      | box kd ls=>exact noGh_lk (show noGh O=true from hg) h
      | map=>exact noGh_lk (show noGh O=true from hg) h
theorem lk_keys' {O : Objs C} {id : Nat} {ob : Ob C} (h : lk O id=some ob) : id ∈ keysO O:=List.mem_map.2 ⟨(id,ob),lk_mem h,rfl⟩
theorem apartN_ok' {l m : List Nat} (h : apartN l m=true) : ∀ i,i ∈ l→i ∉ m:=fun i hi hm=>by
  have:=List.all_eq_true.1 h i hi
  simp only [Bool.not_eq_true'] at this
  exact beq_any this hm
theorem simple_any {l : Lf C} (hs : simpleL l=true) {w w' : World} {K K' : Cd C} {objs objs' : Objs C} {β β' : Nat→Value} {fp fp' : Nat→Nat→Prop} {stb stb' : Nat→Prop} {v : Value} (h : LfOk K w objs β fp stb l v) : LfOk K' w' objs' β' fp' stb' l v:=by
  cases l <;> first | exact h | cases hs
theorem ob_gh' {kp : Nat→Prop} {kh : Nat→Option Obj} {hd : Nat→Value} {base : Nat} {F : Nat→Prop} {ob : Ob C} {v : Value} (hne : ob ≠ .ghost) (h : ObOk K w base objs β fp stb F ob v) : ObOk (K.gh kp kh hd) w base objs β fp stb F ob v:=by
  cases ob with
  | ghost=>exact absurd rfl hne
  | box kd ls=>cases kd with
    | mem=>obtain ⟨b,cs,e,h1,h2,h3,h4⟩:=h; exact ⟨b,cs,e,h1,h2,h3,lfs_gh h4⟩
    | clo f n sh=>obtain ⟨us,h1,h2,h3⟩:=h; exact ⟨us,h1,h2,lfs_gh h3⟩
    | ifc t sh=>obtain ⟨us,h1,h2,h3⟩:=h; exact ⟨us,h1,h2,lfs_gh h3⟩
  | map mk kt vt xs c=>exact h
  | row t xs sh=>cases sh with
    | false=>exact own_gh h
    | true=>obtain ⟨cells,h1,h2,h3⟩:=h; exact ⟨cells,h1,h2,fun j x hx i l hl=>rep_gh (h3 j x hx i l hl)⟩
theorem kTopS_gh {R : Type} {kp : Nat→Prop} {kh : Nat→Option Obj} {hd : Nat→Value} {fn : Func} {dec : Objs C→List (Lf C)→List (Bool×List (Lf C))→Option R} {e : Ex} {S : St C} : kTopS (X.gh kp kh hd) fn dec e S=kTopS X fn dec e S:=by
  unfold kTopS
  cases e <;> simp only [resOf_gh]

section
variable {kp : Nat→Prop} {kh : Nat→Option Obj} {hd : Nat→Value} {c : Sum C} {O : Objs C} {vs : List (SV C)} {us : List Value} {r0 : c.R0}
/-- The blocks of all other things. -/
def others (S : St C) (fp : Nat→Nat→Prop) (ids : List Nat) (k : Nat) : Prop := ∃ id ob,lk S.objs id=some ob∧id ∉ ids∧fp id k
def kpS (S : St C) (fp : Nat→Nat→Prop) (w : World) (ids : List Nat) (n : Nat) : Prop:=(n % 2=0∧stbOf S.objs fp w (n / 2))∨(n % 2=1∧others S fp ids (n / 2))
def fpS (S : St C) (fp : Nat→Nat→Prop) (ids : List Nat) (id k : Nat) : Prop:=(id=GID∧others S fp ids k)∨(id≠GID∧fp id k)
def rootV (β : Nat→Value) : Lf C→Value
  | .ptr id _=>β id
  | .vo id=>β id
  | _=>undef
theorem kpS_even {ids : List Nat} {k : Nat} : kpS S fp w ids (2*k)↔stbOf S.objs fp w k:=by
  have e1 : 2*k % 2=0:=by omega
  have e2 : 2*k / 2=k:=by omega
  simp [kpS,e1,e2]
theorem kpS_odd {ids : List Nat} {k : Nat} : kpS S fp w ids (2*k+1)↔others S fp ids k:=by
  have e1 : (2*k+1) % 2=1:=by omega
  have e2 : (2*k+1) / 2=k:=by omega
  simp [kpS,e1,e2]
theorem fpS_gid {ids : List Nat} {k : Nat} : fpS S fp ids GID k↔others S fp ids k:=by simp [fpS]
theorem fpS_ne {ids : List Nat} {id : Nat} (h : id≠GID) : fpS S fp ids id=fp id:=by funext k; simp [fpS,h]

theorem stb_small (hp : ∀ id ob,lk O id=some ob↔id ∈ c.ids∧lk S.objs id=some ob) (hg : GID ∉ c.ids) {k : Nat} : stbOf ((GID,.ghost)::O) (fpS S fp c.ids) w k↔stbOf S.objs fp w k:=by
  constructor
  · refine fun h=>⟨h.1,fun id ob hi hf => ?_⟩
    by_cases hm : id ∈ c.ids
    · have hne : id≠GID:=fun e=>hg (e ▸ hm)
      refine h.2 id ob ?_ (by rw [fpS_ne hne]; exact hf)
      rw [lk_cons,if_neg hne]
      exact (hp id ob).2 ⟨hm,hi⟩
    · exact h.2 GID .ghost (by rw [lk_cons,if_pos rfl]) (fpS_gid.2 ⟨id,ob,hi,hm,hf⟩)
  · refine fun h=>⟨h.1,fun id ob hi hf => ?_⟩
    rw [lk_cons] at hi
    split at hi
    · rename_i e
      subst e
      obtain ⟨i,o,h1,_,h3⟩:=fpS_gid.1 hf
      exact h.2 i o h1 h3
    · rename_i e
      rw [fpS_ne e] at hf
      exact h.2 id ob ((hp id ob).1 hi).2 hf

theorem start_small (hs : Sim (K.gh kp kh hd) w0 0 S β fp noAct w) (hp : ∀ id ob,lk O id=some ob↔id ∈ c.ids∧lk S.objs id=some ob) (hmem : ∀ x,x ∈ O→lk S.objs x.1=some x.2) (hfit : SumFit c vs O r0)
    (hul : us.length=vs.length) (hn : vs.length≤nt) (hnt : nt≤1000) (hok : vs.all okV=true)
    (hv : ∀ (i : Nat) (v : SV C),vs[i]? = some v→SVOk (K.gh kp kh hd) w S.objs β fp (stbOf S.objs fp w) v (us.getD i undef)) :
    Sim (K.gh (kpS S fp w c.ids) (fun k=>w.heap[k]?) (fun _ => .agg (c.roots.map (rootV β)).toArray)) w0 nt (startS c vs O) β (fpS S fp c.ids) { tmps:=us.toArray++Array.replicate (nt - us.toArray.size) undef,defers:=[] } w:=by
  have hst : ∀ k,stbOf S.objs fp w k→stbOf ((GID,Ob.ghost)::O) (fpS S fp c.ids) w k∧w.heap[k]? = w.heap[k]? := fun k hk=>⟨(stb_small hp hfit.nogid).2 hk,rfl⟩
  have hkeep : ∀ i,Keeps w w S.objs ((GID,Ob.ghost)::O) β β fp (fpS S fp c.ids) i:=fun i=>by
    refine ⟨rfl,fun t xs sh ho => ?_⟩
    rw [lk_cons] at ho
    split at ho
    · cases ho
    · rename_i e
      exact ⟨((hp i _).1 ho).2,fun k hk=>⟨by rw [fpS_ne e]; exact hk,rfl⟩⟩
  refine ⟨hs.below,⟨rfl,hs.defers.2⟩,by simp; omega,fun id ob k ho hk => ?_,fun i j oi oj k hi hj hki hkj => ?_,fun id ob ho => ?_,fun t v ht => ?_⟩
  · have ho' : lk ((GID,Ob.ghost)::O) id=some ob:=ho
    rw [lk_cons] at ho'
    split at ho'
    · rename_i e
      subst e
      obtain ⟨i,o,h1,_,h3⟩:=fpS_gid.1 hk
      exact hs.fresh i o k h1 h3
    · rename_i e
      rw [fpS_ne e] at hk
      exact hs.fresh id ob k ((hp id ob).1 ho').2 hk
  · have hi' : lk ((GID,Ob.ghost)::O) i=some oi:=hi
    have hj' : lk ((GID,Ob.ghost)::O) j=some oj:=hj
    rw [lk_cons] at hi' hj'
    by_cases ei : i=GID <;> by_cases ej : j=GID
    · rw [ei,ej]
    · rw [if_neg ej] at hj'
      subst ei
      rw [fpS_ne ej] at hkj
      obtain ⟨q,o,h1,h2,h3⟩:=fpS_gid.1 hki
      obtain ⟨g1,g2⟩:=(hp j oj).1 hj'
      have:=hs.disj q j o oj k h1 g2 h3 hkj
      subst this
      exact absurd g1 h2
    · rw [if_neg ei] at hi'
      subst ej
      rw [fpS_ne ei] at hki
      obtain ⟨q,o,h1,h2,h3⟩:=fpS_gid.1 hkj
      obtain ⟨g1,g2⟩:=(hp i oi).1 hi'
      have:=hs.disj q i o oi k h1 g2 h3 hki
      subst this
      exact absurd g1 h2
    · rw [if_neg ei] at hi'
      rw [if_neg ej] at hj'
      rw [fpS_ne ei] at hki
      rw [fpS_ne ej] at hkj
      exact hs.disj i j oi oj k ((hp i oi).1 hi').2 ((hp j oj).1 hj').2 hki hkj
  · have ho' : lk ((GID,Ob.ghost)::O) id=some ob:=ho
    rw [lk_cons] at ho'
    split at ho'
    · rename_i e
      cases ho'
      subst e
      exact fun k hk=>⟨fpS_gid.2 (kpS_odd.1 hk),rfl⟩
    · rename_i e
      rw [fpS_ne e]
      have hne : ob ≠ .ghost:=fun e' => noGh_lk hfit.gh (e' ▸ ho')
      exact (ob_gh' hne (hs.objs id ob ((hp id ob).1 ho').2)).tr hst (fun _ _=>rfl) (fun _ ls _ i _=>hkeep i)
  · have ht' : lk (argEnv 0 vs++[(GB,.frame),(GB+1,.sus (true,c.roots) 0)]) t=some v:=ht
    rw [lk_append] at ht'
    cases e1 : lk (argEnv 0 vs) t with
    | some v' =>
      rw [e1] at ht'
      cases ht'
      obtain ⟨_,e2⟩:=argEnv_lk _ 0 t _ e1
      simp only [Nat.sub_zero] at e2
      have hlt : t<us.length:=by rw [hul]; exact idx_lt e2
      have e4 : (us.toArray++Array.replicate (nt - us.toArray.size) undef).getD t undef=us.getD t undef:=by
        simp [Array.getD_eq_getD_getElem?,Array.getElem?_append,hlt,List.getD]
      show SVOk _ w _ _ _ _ v ((us.toArray++Array.replicate (nt - us.toArray.size) undef).getD t undef)
      rw [e4]
      have hvv:=hv t v e2
      have hokv:=List.all_eq_true.1 hok v (List.mem_of_getElem? e2)
      cases v with
      | one l=>exact (lf_gh (show LfOk _ _ _ _ _ _ l _ from hvv)).tr hst fun i _=>hkeep i
      | agg ls=>obtain ⟨us',q1,q2⟩:=hvv; exact ⟨us',q1,(lfs_gh q2).tr hst fun i _=>hkeep i⟩
      | _=>cases hokv
    | none =>
      rw [e1] at ht'
      rw [lk_cons] at ht'
      by_cases e2 : t=GB
      · rw [if_pos e2] at ht'
        cases ht'
        exact fun k hk=>⟨(stb_small hp hfit.nogid).2 (kpS_even.1 hk),rfl⟩
      · rw [if_neg e2,lk_cons] at ht'
        by_cases e3 : t=GB+1
        · rw [if_pos e3] at ht'
          cases ht'
          refine ⟨c.roots.map (rootV β),rfl,by simp,fun i l hl => ?_⟩
          have e5 : (c.roots.map (rootV β)).getD i undef=rootV β l:=by simp [List.getD,hl]
          rw [e5]
          have hm:=List.mem_of_getElem? hl
          rw [← hfit.roots] at hm
          obtain ⟨id,ob,h1,⟨rfl,ls,rfl⟩ | ⟨rfl,h2⟩⟩:=rootsO_mem hm
          · obtain ⟨b,cs,e,q1,_⟩:=hs.objs id _ (hmem _ h1)
            exact ⟨b,q1,q1⟩
          · refine ⟨?_,rfl⟩
            have ho:=hs.objs id _ (hmem _ h1)
            show (β id).oneCell' = true
            rcases h2 with ⟨f,n,sh,ls,rfl⟩ | ⟨t,sh,ls,rfl⟩ | ⟨mk,kt,vt,xs,c,rfl⟩
            · obtain ⟨us,q1,_⟩:=ho; rw [q1]; rfl
            · obtain ⟨us,q1,_⟩:=ho; rw [q1]; rfl
            · obtain ⟨b,es,q1,_⟩:=ho; rw [q1]; rfl
        · rw [if_neg e3] at ht'
          cases ht'

/-- Behind the call: the things as the summary tells them,all others as they were. -/
theorem back_big (hs : Sim (K.gh kp kh hd) w0 0 S β fp noAct w) (hp : ∀ id ob,lk O id=some ob↔id ∈ c.ids∧lk S.objs id=some ob) (hmem : ∀ x,x ∈ O→lk S.objs x.1=some x.2) (hkO : keysO O=c.ids) (hfit : SumFit c vs O r0)
    (hap : ∀ i,i ∈ c.rowIds→i ∉ idsE0 S.env++idsO (rmAll c.ids S.objs)) {w' : World} {a' : Act} {S2 : St C} {β2 : Nat→Value} {fp2 : Nat→Nat→Prop}
    (h2 : Sim (K.gh (kpS S fp w c.ids) (fun k=>w.heap[k]?) (fun _ => .agg (c.roots.map (rootV β)).toArray)) w0 nt S2 β2 fp2 a' w') (ho : S2.objs=c.out r0++[(GID,.ghost)]) (hf : lk S2.env GB=some .frame) (hsu : lk S2.env (GB+1)=some (.sus (true,c.roots) 0)) :
    ∃ β' fp',Sim (K.gh kp kh hd) w0 0 { S with objs:=c.out r0++rmAll c.ids S.objs } β' fp' noAct w' := by
  have hg : GID ∉ c.ids:=hfit.nogid
  have hfrm : ∀ k,stbOf S.objs fp w k→stbOf S2.objs fp2 w' k∧w'.heap[k]? = w.heap[k]? := fun k hk=>(h2.env GB _ hf) k (kpS_even.2 hk)
  have hlk2 : ∀ id,id ∈ c.ids→lk S2.objs id=lk (c.out r0) id:=fun id hi=>by
    rw [ho,lk_append]
    cases e : lk (c.out r0) id with
    | some x=>rfl
    | none =>
      show lk [(GID,Ob.ghost)] id=none
      have hne : id≠GID:=fun e=>hg (by rw [← e]; exact hi)
      rw [lk_cons,if_neg hne]
      rfl
  have hgid : lk S2.objs GID=some .ghost:=by
    rw [ho,lk_append]
    cases e : lk (c.out r0) GID with
    | some x=>exact absurd (hfit.keys GID (lk_keys' e)) hg
    | none=>simp [lk_cons]
  have hghost : ∀ k,others S fp c.ids k→fp2 GID k∧w'.heap[k]? = w.heap[k]? := fun k hk=>(h2.objs GID _ hgid) k (kpS_odd.2 hk)
  have hroot : ∀ id,id ∈ c.ids→id ∉ c.rowIds→β2 id=β id:=fun id hi hr=>by
    obtain ⟨vals,q1,q2,q3⟩:=h2.env (GB+1) _ hsu
    have q1' : (c.roots.map (rootV β))=vals:=by
      have : Value.agg (c.roots.map (rootV β)).toArray=Value.agg vals.toArray:=q1
      simpa using this
    have hin : ∃ ob,(id,ob) ∈ O:=by
      rw [← hkO] at hi
      obtain ⟨x,hx,e⟩:=List.mem_map.1 hi
      exact ⟨x.2,by rw [← e]; exact hx⟩
    obtain ⟨ob,hin⟩:=hin
    have:=rootsO_of hin hfit.gh (by rw [hfit.rows]; exact hr)
    rw [hfit.roots] at this
    rcases this with hm | hm
    · obtain ⟨j,hj,e⟩:=List.getElem_of_mem hm
      have hl : c.roots[j]? = some (.ptr id 0):=by rw [List.getElem?_eq_getElem hj,e]
      obtain ⟨b,g1,g2⟩:=q3 j _ hl
      rw [← q1'] at g2
      have e5 : (c.roots.map (rootV β)).getD j undef=β id:=by simp [List.getD,hl,rootV]
      rw [e5] at g2
      rw [g1,g2]
    · obtain ⟨j,hj,e⟩:=List.getElem_of_mem hm
      have hl : c.roots[j]? = some (.vo id):=by rw [List.getElem?_eq_getElem hj,e]
      have g2:=(q3 j _ hl).2
      rw [← q1'] at g2
      have e5 : (c.roots.map (rootV β)).getD j undef=β id:=by simp [List.getD,hl,rootV]
      rw [e5] at g2
      exact g2.symm
  let β3 : Nat→Value:=fun id=>if id ∈ c.ids then β2 id else β id
  let fp3 : Nat→Nat→Prop:=fun id k=>if id ∈ c.ids then fp2 id k else fp id k
  let O3 : Objs C:=c.out r0++rmAll c.ids S.objs
  have hlk3 : ∀ id,lk O3 id=if id ∈ c.ids then lk (c.out r0) id else lk S.objs id:=fun id=>by
    show lk (c.out r0++rmAll c.ids S.objs) id=_
    rw [lk_append,lk_rmAll]
    by_cases hi : id ∈ c.ids
    · rw [if_pos hi,if_pos hi]
      cases lk (c.out r0) id <;> rfl
    · rw [if_neg hi,if_neg hi]
      cases e : lk (c.out r0) id with
      | some x=>exact absurd (hfit.keys id (lk_keys' e)) hi
      | none=>rfl
  have hsame : ∀ id ob k,id ∉ c.ids→lk S.objs id=some ob→fp id k→k<w'.heap.size∧w'.heap[k]? = w.heap[k]? := fun id ob k hi ho' hk=>by
    obtain ⟨_,e⟩:=hghost k ⟨id,ob,ho',hi,hk⟩
    have hlt:=(hs.fresh id ob k ho' hk).2
    refine ⟨?_,e⟩
    rw [Array.getElem?_eq_getElem hlt] at e
    exact (Array.getElem?_eq_some_iff.1 e).1
  have hst3 : ∀ k,stbOf S2.objs fp2 w' k→stbOf O3 fp3 w' k:=fun k hk=>by
    refine ⟨hk.1,fun id ob hi hkk => ?_⟩
    rw [hlk3] at hi
    by_cases hm : id ∈ c.ids
    · rw [if_pos hm,← hlk2 id hm] at hi
      simp only [fp3,if_pos hm] at hkk
      exact hk.2 id ob hi hkk
    · rw [if_neg hm] at hi
      simp only [fp3,if_neg hm] at hkk
      exact hk.2 GID .ghost hgid (hghost k ⟨id,ob,hi,hm,hkk⟩).1
  have hstO : ∀ k,stbOf S.objs fp w k→stbOf O3 fp3 w' k∧w'.heap[k]? = w.heap[k]? := fun k hk=>⟨hst3 k (hfrm k hk).1,(hfrm k hk).2⟩
  -- names outside of the things
  have keepO : ∀ i,i ∉ c.rowIds→Keeps w w' S.objs O3 β β3 fp fp3 i:=fun i hi=>by
    by_cases hm : i ∈ c.ids
    · refine ⟨by simp only [β3,if_pos hm]; exact hroot i hm hi,fun t xs sh h => ?_⟩
      rw [hlk3,if_pos hm] at h
      exact absurd (hfit.rows' i (rowsO_lk h)) hi
    · refine ⟨by simp only [β3,if_neg hm],fun t xs sh h => ?_⟩
      rw [hlk3,if_neg hm] at h
      exact ⟨h,fun k hk=>⟨by simp only [fp3,if_neg hm]; exact hk,(hsame i _ k hm h hk).2⟩⟩
  have keepI : ∀ i,i ∈ c.ids→Keeps w' w' S2.objs O3 β2 β3 fp2 fp3 i:=fun i hm=>by
    refine ⟨by simp only [β3,if_pos hm],fun t xs sh h => ?_⟩
    rw [hlk3,if_pos hm,← hlk2 i hm] at h
    exact ⟨h,fun k hk=>⟨by simp only [fp3,if_pos hm]; exact hk,rfl⟩⟩
  refine ⟨β3,fp3,h2.below,⟨rfl,h2.defers.2⟩,rfl,fun id ob k hi hk => ?_,fun i j oi oj k hi hj hki hkj => ?_,fun id ob hi => ?_,fun t v ht => ?_⟩
  · have hi' : lk O3 id=some ob:=hi
    rw [hlk3] at hi'
    by_cases hm : id ∈ c.ids
    · rw [if_pos hm,← hlk2 id hm] at hi'
      simp only [fp3,if_pos hm] at hk
      exact h2.fresh id ob k hi' hk
    · rw [if_neg hm] at hi'
      simp only [fp3,if_neg hm] at hk
      exact ⟨(hs.fresh id ob k hi' hk).1,(hsame id ob k hm hi' hk).1⟩
  · have hi' : lk O3 i=some oi:=hi
    have hj' : lk O3 j=some oj:=hj
    rw [hlk3] at hi' hj'
    by_cases mi : i ∈ c.ids <;> by_cases mj : j ∈ c.ids
    · rw [if_pos mi,← hlk2 i mi] at hi'
      rw [if_pos mj,← hlk2 j mj] at hj'
      simp only [fp3,if_pos mi] at hki
      simp only [fp3,if_pos mj] at hkj
      exact h2.disj i j oi oj k hi' hj' hki hkj
    · rw [if_pos mi,← hlk2 i mi] at hi'
      rw [if_neg mj] at hj'
      simp only [fp3,if_pos mi] at hki
      simp only [fp3,if_neg mj] at hkj
      have:=h2.disj i GID oi .ghost k hi' hgid hki (hghost k ⟨j,oj,hj',mj,hkj⟩).1
      exact absurd (this ▸ mi) hg
    · rw [if_neg mi] at hi'
      rw [if_pos mj,← hlk2 j mj] at hj'
      simp only [fp3,if_neg mi] at hki
      simp only [fp3,if_pos mj] at hkj
      have:=h2.disj j GID oj .ghost k hj' hgid hkj (hghost k ⟨i,oi,hi',mi,hki⟩).1
      exact absurd (this ▸ mj) hg
    · rw [if_neg mi] at hi'
      rw [if_neg mj] at hj'
      simp only [fp3,if_neg mi] at hki
      simp only [fp3,if_neg mj] at hkj
      exact hs.disj i j oi oj k hi' hj' hki hkj
  · have hi' : lk O3 id=some ob:=hi
    rw [hlk3] at hi'
    by_cases hm : id ∈ c.ids
    · rw [if_pos hm] at hi'
      have hne : ob ≠ .ghost:=fun e=>noGh_lk hfit.gh' (e ▸ hi')
      have h3:=(ob_gh' (kp:=kp) (kh:=kh) (hd:=hd) hne (h2.objs id ob ((hlk2 id hm).trans hi'))).tr (fun k hk=>⟨hst3 k hk,rfl⟩) (fun _ _=>rfl) (fun kd ls e i hil=>keepI i (hfit.closed i ((mem_idsO hi').2 kd ls e i hil)))
      have e1 : fp3 id=fp2 id:=by funext k; simp only [fp3,if_pos hm]
      have e2 : β3 id=β2 id:=by simp only [β3,if_pos hm]
      rw [e1,e2]
      exact h3
    · rw [if_neg hm] at hi'
      have h3:=(hs.objs id ob hi').tr hstO (fun k hk=>(hsame id ob k hm hi' hk).2) (fun kd ls e i hil=>keepO i fun hr=>hap i hr (List.mem_append.2 (.inr ((mem_idsO (O:=rmAll c.ids S.objs) (n:=id) (by rw [lk_rmAll,if_neg hm]; exact hi')).2 kd ls e i hil))))
      have e1 : fp3 id=fp id:=by funext k; simp only [fp3,if_neg hm]
      have e2 : β3 id=β id:=by simp only [β3,if_neg hm]
      rw [e1,e2]
      exact h3
  · exact (hs.env t v ht).tr hstO fun i hi=>keepO i fun hr=>hap i hr (List.mem_append.2 (.inl (mem_idsE ht hi)))
end

theorem sum_of (hX : XOk P X) (hC : Cons P X) (hm : P.follows .mixedOrders = true) {f : Nat} {fn : Func} {c : Code} (hf : P.funcs[f]? = some fn) (hb : fn.body = some c) (hB : codeB fn.ntmps c = true) (hname : fn.name ≠ "runtime.NumGoroutine") (su : Sum C) (hnt : fn.ntmps ≤ 1000)
    (dec : Objs C→List (Lf C)→List (Bool×List (Lf C))→Option su.R0) (hdec : ∀ os ls rs r0,dec os ls rs=some r0→os=su.out r0++[(GID,.ghost)]∧ls=su.roots∧rs=su.ret r0)
    (h : ∀ vs O r0,keysO O=su.ids→su.g vs O=some r0→SumFit su vs O r0∧vs.length≤fn.ntmps ∧ ∃ F : Cf,runFnS X F fn su vs O dec=some r0) : InlOk P X.K f (sumInl su):=by
  refine ⟨⟨fn,hf,by rw [hb]; rfl,hname⟩,fun kp kh hd w0 w S β fp vs us R k r hs hkey hul hv hgo => ?_⟩
  unfold sumInl at hgo
  simp only at hgo
  split at hgo
  case h_2=>cases hgo
  rename_i O hO
  obtain ⟨hb1,hgo⟩:=cond_some hgo
  simp only [Bool.and_eq_true] at hb1
  cases hg : su.g vs O with
  | none=>rw [hg] at hgo; cases hgo
  | some r0 =>
  rw [hg] at hgo
  simp only [Option.bind_some] at hgo
  obtain ⟨hp,hmem,hkO⟩:=pickO_mem hO
  obtain ⟨hfit,hn,F,hrun⟩:=h vs O r0 hkO hg
  have hsim:=start_small (nt:=fn.ntmps) hs hp hmem hfit hul hn hnt hb1.2 hv
  unfold runFnS at hrun
  have hbody : bodyOf fn=c:=by unfold bodyOf; rw [hb]
  rw [hbody,← run_gh (kp:=kpS S fp w su.ids) (kh:=fun k=>w.heap[k]?) (hd:=fun _ => .agg (su.roots.map (rootV β)).toArray)] at hrun
  refine calls_of_wp hf hb (Go.wp_mono (run_sound (xok_gh hX) (cons_gh hC) hm F c 0 _ _ w _ hB ⟨_,_,hsim⟩ hrun) ?_)
  have fin : ∀ (a : Act) (w' : World) (S' : St C) (e : Ex),SimE (X.gh (kpS S fp w su.ids) (fun k=>w.heap[k]?) (fun _ => .agg (su.roots.map (rootV β)).toArray)).K w0 fn.ntmps S' a w' → (e = .norm∨e = .ret)→kTopS X fn dec e S' = some r0 →
      a.defers=[] ∧ ∃ v,(results fn a.tmps).run P w' = .ok v w' ∧ ∃ (v_1 : Value) (rs : List (Bool×List (Lf C))) (rls : List Value) (S' : St C) (β' : Nat→Value) (fp' : Nat→Nat→Prop),Ending.returned v = .returned v_1∧v_1=pack rs rls∧okRes rs=true∧k rs S' = some r ∧
      Sim (X.K.gh kp kh hd) w0 0 S' β' fp' noAct w' ∧ LfsOk (X.K.gh kp kh hd) w' S'.objs β' fp' (stbOf S'.objs fp' w') (flatten rs) rls:=by
    intro a w' S' e ⟨β',fp',hs'⟩ he hk
    have hk : (match resOf X S' fn.results.toList,S'.canon [] with
      | some rs,some S' => match lk S'.env GB,lk S'.env (GB+1) with
        | some .frame,some (.sus (true,ls) j)=>cond (Nat.beq j 0) (dec S'.objs ls rs) none
        | _,_=>none
      | _,_=>none)=some r0:=by rcases he with rfl | rfl <;> exact hk
    split at hk
    case h_2=>cases hk
    rename_i rs S2 hres hcan
    split at hk
    case h_2=>cases hk
    rename_i ls j hfr hsu
    obtain ⟨hj,hk⟩:=cond_some hk
    have hj:=Nat.eq_of_beq_eq_true hj
    subst hj
    obtain ⟨d1,d2,d3⟩:=hdec _ _ _ _ hk
    subst d2 d3
    rw [← resOf_gh (kp:=kpS S fp w su.ids) (kh:=fun k=>w.heap[k]?) (hd:=fun _ => .agg (su.roots.map (rootV β)).toArray)] at hres
    obtain ⟨us',h1,h2,h3⟩:=resOf_ok (xok_gh hX) hs' _ _ hres
    obtain ⟨β2,fp2,hs2⟩:=canon_sound hs' hcan
    obtain ⟨β3,fp3,hs3⟩:=back_big hs hp hmem hkO hfit (apartN_ok' hb1.1) hs2 d1 hfr hsu
    refine ⟨hs'.defers.1,pack (su.ret r0) us',?_,_,_,us',_,β3,fp3,rfl,rfl,h1,hgo,hs3,h2.1,fun i l hl=>simple_any (hfit.simple l (List.mem_of_getElem? hl)) (h2.2 i l hl)⟩
    rw [results_eq]
    simp only [Sem.run_bind,h3,Result.andThen_ok]
    rfl
  rintro (_ | _ | _ | _ | _ | _) a' w' hp'
  · obtain ⟨S',hs',hk⟩:=hp'; exact fin a' w' S' .norm hs' (.inl rfl) hk
  · obtain ⟨S',hs',hk⟩:=hp'; cases hk
  · exact hp'.elim
  · obtain ⟨S',hs',hk⟩:=hp'; exact fin a' w' S' .ret hs' (.inr rfl) hk
  · exact hp'.elim
  · exact hp'.elim
def rootB : Lf C→Lf C→Bool
  | .ptr a b,.ptr c d=>Nat.beq a c&&Nat.beq b d
  | .vo a,.vo b=>Nat.beq a b
  | _,_=>false
def rootsB : List (Lf C)→List (Lf C)→Bool
  | [],[]=>true
  | a::r,b::s=>rootB a b&&rootsB r s
  | _,_=>false
theorem rootsB_ok : ∀ {l m : List (Lf C)},rootsB l m=true→l=m
  | [],[],_=>rfl
  | [],_::_,h=>by cases h
  | _::_,[],h=>by cases h
  | a::r,b::s,h=>by
    simp only [rootsB,Bool.and_eq_true] at h
    rw [rootsB_ok h.2]
    have h1:=h.1
    unfold rootB at h1
    split at h1
    · simp only [Bool.and_eq_true] at h1
      rw [Nat.eq_of_beq_eq_true h1.1,Nat.eq_of_beq_eq_true h1.2]
    · rw [Nat.eq_of_beq_eq_true h1]
    · cases h1
def subB' (l m : List Nat) : Bool:=l.all fun i=>m.any (Nat.beq i)
theorem subB'_ok {l m : List Nat} (h : subB' l m=true) : ∀ i,i ∈ l→i ∈ m:=fun i hi=>by
  obtain ⟨j,hj,e⟩:=List.any_eq_true.1 (List.all_eq_true.1 h i hi)
  rw [Nat.eq_of_beq_eq_true e]
  exact hj
theorem fit_of {c : Sum C} {vs : List (SV C)} {O : Objs C} {r0 : c.R0} (h1 : rootsB (rootsO O) c.roots=true) (h2 : decide (rowsO O=c.rowIds)=true) (h3 : noGh O=true) (h4 : noGh (c.out r0)=true) (h5 : subB' (keysO (c.out r0)) c.ids=true)
    (h6 : subB' (rowsO (c.out r0)) c.rowIds=true) (h7 : subB' (idsO (c.out r0)) c.ids=true) (h8 : c.ids.any (Nat.beq GID)=false) (h9 : (flatten (c.ret r0)).all simpleL=true) : SumFit c vs O r0 :=
  ⟨rootsB_ok h1,of_decide_eq_true h2,h3,h4,subB'_ok h5,subB'_ok h6,subB'_ok h7,beq_any h8,fun l hl=>List.all_eq_true.1 h9 l hl⟩
/-- The summary that tells nothing. -/
theorem sum_none {f : Nat} {fn : Func} (hf : P.funcs[f]? = some fn) (hb : fn.body.isNone = false) (hname : fn.name ≠ "runtime.NumGoroutine") (su : Sum C) (hg : ∀ vs O, su.g vs O = none) : InlOk P K f (sumInl su) := by
  refine ⟨⟨fn,hf,hb,hname⟩,fun kp kh hd w0 w S β fp vs us R k r hs hkey hul hv hgo => ?_⟩
  unfold sumInl at hgo
  simp only at hgo
  split at hgo
  case h_2=>cases hgo
  obtain ⟨_,hgo⟩:=cond_some hgo
  rw [hg] at hgo
  cases hgo
end
end Go.Proofs.Ytakakoogpmhhkaa.Ab

/- Contracts told by kinds: what a function takes and hands back,of each its kind; the decoding is the same for all. -/
set_option linter.unusedVariables false
namespace Go.Proofs.Ytakakoogpmhhkaa.Ab
open Go Go.RowKit

inductive PK (Ty : Type) : Type where
  | int (k : IntKind)
  | bool
  | str
  | fnc
  | row (t : Ty)
  | el (t : Ty)
  | ptr (t : Ty)
  | imm (b : Bool) (l : List Nat)
section
variable {Ty : Type} [DecidableEq Ty] {C : Ty→Type} (K : Cd C)
abbrev PK.T (C : Ty→Type) : PK Ty→Type
  | .int _=>Int
  | .bool=>Bool
  | .str=>ByteArray
  | .fnc=>Option Nat
  | .row t=>List (C t)
  | .el t=>C t
  | .ptr t=>C t
  | .imm .. => Unit
def castE (t t' : Ty) (x : C t) : Option (C t'):=match decEq t t' with
  | isTrue h=>some (h ▸ x)
  | isFalse _=>none
/-- Values that are what they are: no memory,always the same. -/
def immB : List Nat→List (Lf C)→Bool
  | [],[]=>true
  | n::r,.fnc (some m)::ls=>Nat.beq n m&&immB r ls
  | _,_=>false
def immL (l : List Nat) : List (Lf C):=l.map fun n => .fnc (some n)
/-- One cell,or cells,as what its kind says. -/
def PK.deL : (p : PK Ty)→(Bool×List (Lf C))→Option (p.T C)
  | .int k,(false,[.int k' n])=>cond (decide (k=k')) (some n) none
  | .bool,(false,[.bool b])=>some b
  | .str,(false,[.str s])=>some s
  | .fnc,(false,[.fnc f])=>some f
  | .row t,(false,[.row t' xs])=>castT t' t xs
  | .el t,(true,ls)=>K.dec t ls
  | .imm b l,(b',ls)=>cond ((b == b')&&immB l ls) (some ()) none
  | _,_=>none
def PK.enL : (p : PK Ty)→p.T C→Bool×List (Lf C)
  | .int k,n=>(false,[.int k n])
  | .bool,b=>(false,[.bool b])
  | .str,s=>(false,[.str s])
  | .fnc,f=>(false,[.fnc f])
  | .row t,xs=>(false,[.row t xs])
  | .el t,x=>(true,K.enc t x)
  | .ptr t,x=>(false,[.elt t x 0])
  | .imm b l,_=>(b,immL l)
def PK.deS : (p : PK Ty)→SV C→Option (p.T C)
  | .int k,.one (.int k' n)=>cond (decide (k=k')) (some n) none
  | .bool,.one (.bool b)=>some b
  | .str,.one (.str s)=>some s
  | .fnc,.one (.fnc f)=>some f
  | .row t,.one (.row t' xs)=>castT t' t xs
  | .el t,.agg ls=>K.dec t ls
  | .ptr t,.one (.elt t' x 0)=>castE t' t x
  | .imm true l,.agg ls=>cond (immB l ls) (some ()) none
  | _,_=>none
def PK.enS : (p : PK Ty)→p.T C→SV C
  | .int k,n => .one (.int k n)
  | .bool,b => .one (.bool b)
  | .str,s => .one (.str s)
  | .fnc,f => .one (.fnc f)
  | .row t,xs => .one (.row t xs)
  | .el t,x => .agg (K.enc t x)
  | .ptr t,x => .one (.elt t x 0)
  | .imm _ l,_ => .agg (immL l)
def PK.pt : PK Ty→Option Ty
  | .ptr t=>some t
  | _=>none
abbrev Args (C : Ty→Type) : List (PK Ty)→Type
  | []=>Unit
  | [p]=>p.T C
  | p::q::r=>p.T C×Args C (q::r)
abbrev Fun (C : Ty→Type) : List (PK Ty)→Type→Type
  | [],R=>R
  | p::r,R=>p.T C→Fun C r R
def app {R : Type} : (ps : List (PK Ty))→Fun C ps (Option R)→List (SV C)→Option R
  | [],g,[]=>g
  | p::r,g,v::vs=>match p.deS K v with
    | some x=>app r (g x) vs
    | none=>none
  | _,_,_=>none
def appL {R : Type} : (ps : List (PK Ty))→Fun C ps (Option R)→List (Bool×List (Lf C))→Option R
  | [],g,[]=>g
  | p::r,g,v::vs=>match p.deL K v with
    | some x=>appL r (g x) vs
    | none=>none
  | _,_,_=>none
/-- What holds of every input that the kinds allow. -/
def Hold {R V : Type} (e : (p : PK Ty)→p.T C→V) : (ps : List (PK Ty))→Fun C ps (Option R)→(List V→Option R→Prop)→Prop
  | [],g,Φ=>Φ [] g
  | p::r,g,Φ => ∀ x : p.T C,Hold e r (g x) fun vs o=>Φ (e p x::vs) o
def enR : (ps : List (PK Ty))→Args C ps→List (Bool×List (Lf C))
  | [],_=>[]
  | [p],x=>[p.enL K x]
  | p::q::r,x=>p.enL K x.1::enR (q::r) x.2
def deR : (ps : List (PK Ty))→List (Bool×List (Lf C))→Option (Args C ps)
  | [],[]=>some ()
  | [p],[x]=>p.deL K x
  | p::q::r,x::xs=>match p.deL K x with
    | some y=>match deR (q::r) xs with
      | some z=>some (y,z)
      | none=>none
    | none=>none
  | _,_=>none
abbrev ArgsW (C : Ty→Type) : List Ty→List (PK Ty)→Type
  | [],rs=>Args C rs
  | [t],[]=>List (C t)
  | t::u::os,rs=>List (C t)×ArgsW C (u::os) rs
  | [t],r::rs=>List (C t)×Args C (r::rs)
def ouW : (os : List Ty)→(rs : List (PK Ty))→ArgsW C os rs→List (Lf C)
  | [],_,_=>[]
  | [t],[],x=>[.row t x]
  | t::u::os,rs,x => .row t x.1::ouW (u::os) rs x.2
  | [t],_::_,x=>[.row t x.1]
def reW : (os : List Ty)→(rs : List (PK Ty))→ArgsW C os rs→List (Bool×List (Lf C))
  | [],rs,x=>enR K rs x
  | [_],[],_=>[]
  | _::u::os,rs,x=>reW (u::os) rs x.2
  | [_],r::rs,x=>enR K (r::rs) x.2
def rowL (t : Ty) : Lf C→Option (List (C t))
  | .row t' xs=>castT t' t xs
  | _=>none
def deW : (os : List Ty)→(rs : List (PK Ty))→List (Lf C)→List (Bool×List (Lf C))→Option (ArgsW C os rs)
  | [],rs,[],l=>deR K rs l
  | [t],[],[x],[]=>rowL t x
  | t::u::os,rs,x::xs,l=>match rowL t x with
    | some y=>match deW (u::os) rs xs l with
      | some z=>some (y,z)
      | none=>none
    | none=>none
  | [t],r::rs,[x],l=>match rowL t x with
    | some y=>match deR K (r::rs) l with
      | some z=>some (y,z)
      | none=>none
    | none=>none
  | _,_,_,_=>none
variable {K}
theorem castT_eq {t t' : Ty} {xs : List (C t)} {ys : List (C t')} (h : castT t t' xs=some ys) : Lf.row t xs=Lf.row t' ys:=by
  unfold castT at h
  split at h
  · rename_i e _; subst e; cases h; rfl
  · cases h
theorem castE_eq {t t' : Ty} {x : C t} {y : C t'} (h : castE t t' x=some y) : Lf.elt t x 0=Lf.elt t' y 0:=by
  unfold castE at h
  split at h
  · rename_i e _; subst e; cases h; rfl
  · cases h
theorem int_eq {k k' : IntKind} {n m : Int} (h : cond (decide (k=k')) (some n) none=some m) : (Lf.int k' n : Lf C)=Lf.int k m:=by
  by_cases e : k=k'
  · subst e; rw [decide_eq_true rfl] at h; cases h; rfl
  · rw [decide_eq_false e] at h; cases h
theorem immB_eq : ∀ {l : List Nat} {ls : List (Lf C)},immB l ls=true→ls=immL l
  | [],[],_=>rfl
  | [],_::_,h=>by simp [immB] at h
  | n::r,[],h=>by simp [immB] at h
  | n::r,x::ls,h=>by
    unfold immB at h
    split at h
    · rename_i e1 e2; cases e1
    · rename_i e1 e2
      cases e1; cases e2
      rw [Bool.and_eq_true] at h
      obtain rfl:=Nat.eq_of_beq_eq_true h.1
      rw [immB_eq h.2]
      rfl
    · cases h
theorem deL_eq {p : PK Ty} {x : Bool×List (Lf C)} {y : p.T C} (h : p.deL K x=some y) : x=p.enL K y:=by
  unfold PK.deL at h
  split at h
  · simp only [PK.enL]; rw [int_eq h]
  · cases h; rfl
  · cases h; rfl
  · cases h; rfl
  · simp only [PK.enL]; rw [castT_eq h]
  · simp only [PK.enL]; rw [K.enc_dec _ _ _ h]
  · rename_i b l b' ls
    obtain ⟨h1,_⟩:=cond_some h
    rw [Bool.and_eq_true] at h1
    have e1 : b=b' := by simpa using h1.1
    rw [immB_eq h1.2,e1]; rfl
  · cases h
theorem deS_eq {p : PK Ty} {x : SV C} {y : p.T C} (h : p.deS K x=some y) : x=p.enS K y:=by
  unfold PK.deS at h
  split at h
  · simp only [PK.enS]; rw [int_eq h]
  · cases h; rfl
  · cases h; rfl
  · cases h; rfl
  · simp only [PK.enS]; rw [castT_eq h]
  · simp only [PK.enS]; rw [K.enc_dec _ _ _ h]
  · simp only [PK.enS]; rw [castE_eq h]
  · obtain ⟨h1,_⟩:=cond_some h
    rw [immB_eq h1]; rfl
  · cases h
theorem app_hold {R : Type} : ∀ (ps : List (PK Ty)) (g : Fun C ps (Option R)) (vs : List (SV C)) (r : R) (Φ : List (SV C)→Option R→Prop),app K ps g vs=some r→Hold (PK.enS K) ps g Φ→Φ vs (some r)∧vs.length=ps.length
  | [],g,[],r,Φ,h,t=>by
    simp only [app] at h
    subst h
    exact ⟨t,rfl⟩
  | [],g,_::_,r,Φ,h,t=>by simp [app] at h
  | p::ps,g,[],r,Φ,h,t=>by simp [app] at h
  | p::ps,g,v::vs,r,Φ,h,t=>by
    simp only [app] at h
    split at h
    · rename_i x hx
      have:=app_hold ps (g x) vs r (fun us o=>Φ (p.enS K x::us) o) h (t x)
      rw [deS_eq hx]
      exact ⟨this.1,by simp [this.2]⟩
    · cases h
theorem appL_hold {R : Type} : ∀ (ps : List (PK Ty)) (g : Fun C ps (Option R)) (vs : List (Bool×List (Lf C))) (r : R) (Φ : List (Bool×List (Lf C))→Option R→Prop),appL K ps g vs=some r→Hold (PK.enL K) ps g Φ→Φ vs (some r)∧vs.length=ps.length
  | [],g,[],r,Φ,h,t=>by
    simp only [appL] at h
    subst h
    exact ⟨t,rfl⟩
  | [],g,_::_,r,Φ,h,t=>by simp [appL] at h
  | p::ps,g,[],r,Φ,h,t=>by simp [appL] at h
  | p::ps,g,v::vs,r,Φ,h,t=>by
    simp only [appL] at h
    split at h
    · rename_i x hx
      have:=appL_hold ps (g x) vs r (fun us o=>Φ (p.enL K x::us) o) h (t x)
      rw [deL_eq hx]
      exact ⟨this.1,by simp [this.2]⟩
    · cases h
theorem deR_eq : ∀ (ps : List (PK Ty)) (l : List (Bool×List (Lf C))) (r : Args C ps),deR K ps l=some r→l=enR K ps r
  | [],[],r,h=>rfl
  | [],_::_,r,h=>by simp [deR] at h
  | [p],[],r,h=>by simp [deR] at h
  | [p],[x],r,h=>by
    simp only [deR] at h
    simp only [enR]
    rw [deL_eq h]
  | [p],x::y::z,r,h=>by simp [deR] at h
  | p::q::ps,[],r,h=>by simp [deR] at h
  | p::q::ps,x::xs,r,h=>by
    simp only [deR] at h
    split at h
    · rename_i y hy
      split at h
      · rename_i z hz
        cases h
        simp only [enR]
        rw [deL_eq hy,deR_eq (q::ps) xs z hz]
      · cases h
    · cases h
theorem rowL_eq {t : Ty} {x : Lf C} {y : List (C t)} (h : rowL t x=some y) : x = .row t y:=by
  unfold rowL at h
  split at h
  · exact castT_eq h
  · cases h
theorem deW_eq : ∀ (os : List Ty) (rs : List (PK Ty)) (ls : List (Lf C)) (l : List (Bool×List (Lf C))) (r : ArgsW C os rs),deW K os rs ls l=some r→ls=ouW os rs r∧l=reW K os rs r
  | [],rs,[],l,r,h=>by
    simp only [deW] at h
    exact ⟨rfl,deR_eq rs l r h⟩
  | [],rs,_::_,l,r,h=>by simp [deW] at h
  | [t],[],[x],[],r,h=>by
    simp only [deW] at h
    simp only [ouW,reW]
    exact ⟨by rw [rowL_eq h],trivial⟩
  | [t],[],[],l,r,h=>by simp [deW] at h
  | [t],[],[x],_::_,r,h=>by simp [deW] at h
  | [t],[],_::_::_,l,r,h=>by simp [deW] at h
  | [t],p::rs,[],l,r,h=>by simp [deW] at h
  | [t],p::rs,[x],l,r,h=>by
    simp only [deW] at h
    split at h
    · rename_i y hy
      split at h
      · rename_i z hz
        cases h
        simp only [ouW,reW]
        exact ⟨by rw [rowL_eq hy],deR_eq _ _ _ hz⟩
      · cases h
    · cases h
  | [t],p::rs,_::_::_,l,r,h=>by simp [deW] at h
  | t::u::os,rs,[],l,r,h=>by simp [deW] at h
  | t::u::os,rs,x::xs,l,r,h=>by
    simp only [deW] at h
    split at h
    · rename_i y hy
      split at h
      · rename_i z hz
        cases h
        have:=deW_eq (u::os) rs xs l z hz
        simp only [ouW,reW]
        exact ⟨by rw [rowL_eq hy,← this.1],this.2⟩
      · cases h
    · cases h
def mkC (K : Cd C) (ps rs : List (PK Ty)) (G : Fun C ps (Option (Args C rs))) : Con C:={ R0:=Args C rs,pt:=ps.map PK.pt,ret:=fun r=>enR K rs r,g:=app K ps G }
def mkW (K : Cd C) (ps : List (PK Ty)) (os : List Ty) (rs : List (PK Ty)) (G : Fun C ps (Option (ArgsW C os rs))) : ConW C:={ R0:=ArgsW C os rs,out:=fun r=>ouW os rs r,ret:=fun r=>reW K os rs r,g:=appL K ps G }
variable {P : Program} {X : Cx C}
theorem mkC_ok (hX : XOk P X) (hC : Cons P X) (hm : P.follows .mixedOrders = true) {f : Nat} {fn : Func} (hf : P.funcs[f]? = some fn) (hb : fn.body = some (bodyOf fn)) (hB : codeB fn.ntmps (bodyOf fn) = true) (hname : (fn.name == "runtime.NumGoroutine") = false)
    {ps rs : List (PK Ty)} {G : Fun C ps (Option (Args C rs))} (F : Cf) (hn : Nat.ble ps.length fn.ntmps=true) (t : Hold (PK.enS X.K) ps G fun vs o=>runFn X F fn vs (deR X.K rs)=o) : ConOk P X.K f (mkC X.K ps rs G) :=
  con_dec hX hC hm hf hb hB (by simpa using hname) _ (deR X.K rs) (fun l r h=>deR_eq rs l r h) fun vs r0 h=>by
    have:=app_hold ps G vs r0 _ h t
    exact ⟨by rw [this.2]; exact Nat.le_of_ble_eq_true hn,F,this.1⟩
theorem mkW_ok (hX : XOk P X) (hC : Cons P X) (hm : P.follows .mixedOrders = true) {f : Nat} {fn : Func} (hf : P.funcs[f]? = some fn) (hb : fn.body = some (bodyOf fn)) (hB : codeB fn.ntmps (bodyOf fn) = true) (hname : (fn.name == "runtime.NumGoroutine") = false)
    {ps : List (PK Ty)} {os : List Ty} {rs : List (PK Ty)} {G : Fun C ps (Option (ArgsW C os rs))} (F : Cf) (hn : Nat.ble ps.length fn.ntmps=true) (t : ∀ kp kh hd,Hold (PK.enL X.K) ps G fun vs o=>runFnW (X.gh kp kh hd) F fn vs (deW X.K os rs)=o) : ConWOk P X.K f (mkW X.K ps os rs G) :=
  conw_of hX hC hm hf hb hB (by simpa using hname) _ (deW X.K os rs) (fun o l r h=>deW_eq os rs o l r h) fun vs r0 h=>by
    have h1:=fun kp kh hd=>appL_hold ps G vs r0 _ h (t kp kh hd)
    exact ⟨by rw [(h1 (fun _=>False) (fun _=>none) (fun _=>undef)).2]; exact Nat.le_of_ble_eq_true hn,F,fun kp kh hd=>(h1 kp kh hd).1⟩
theorem mkZ_ok (hX : XOk P X) (hC : Cons P X) (hm : P.follows .mixedOrders = true) {f : Nat} {fn : Func} (hf : P.funcs[f]? = some fn) (hb : fn.body = some (bodyOf fn)) (hB : codeB fn.ntmps (bodyOf fn) = true) (hname : (fn.name == "runtime.NumGoroutine") = false)
    {ps rs : List (PK Ty)} {G : Fun C ps (Option (Args C rs))} (F : Cf) (hn : Nat.ble ps.length fn.ntmps=true) (t : Hold (PK.enS X.K) ps G fun vs o=>runFnZ X F fn vs (deR X.K rs)=o) : ConOk P X.K f (nzC (mkC X.K ps rs G)) :=
  con_decZ hX hC hm hf hb hB (by simpa using hname) (nzC (mkC X.K ps rs G)) (deR X.K rs) (fun l r h=>deR_eq rs l r h) fun vs r0 h=>by
    have:=app_hold ps G vs r0 _ h t
    exact ⟨by rw [this.2]; exact Nat.le_of_ble_eq_true hn,F,this.1⟩
/-- A contract that tells nothing. -/
def noneF {R : Type} : (ps : List (PK Ty))→Fun C ps (Option R)
  | []=>none
  | _::r=>fun _=>noneF r
theorem app_noneF {R : Type} {K : Cd C} : ∀ (ps : List (PK Ty)) (vs : List (SV C)),app K ps (noneF (C:=C) (R:=R) ps) vs=none
  | [],[]=>rfl
  | [],_::_=>rfl
  | p::r,[]=>rfl
  | p::r,v::vs=>by
    simp only [app]
    split
    · exact app_noneF r vs
    · rfl
theorem conNone {K : Cd C} {ps rs : List (PK Ty)} {f : Nat} {fn : Func} (hf : P.funcs[f]? = some fn) (hb : fn.body.isNone = false) (hname : (fn.name == "runtime.NumGoroutine") = false) : ConOk P K f (mkC K ps rs (noneF ps)) := by
  refine ⟨⟨fn,hf,hb,by simpa using hname⟩,fun w vs us r0 hi hl ha hg => ?_⟩
  have : (mkC K ps rs (noneF (R:=Args C rs) ps)).g vs=none:=app_noneF ps vs
  rw [this] at hg
  cases hg
end
end Go.Proofs.Ytakakoogpmhhkaa.Ab

/- From a law's arguments,as the statements read them,to abstract values. -/
set_option linter.unusedVariables false
set_option linter.unusedSimpArgs false
set_option linter.unusedSectionVars false
namespace Go.Proofs.Ytakakoogpmhhkaa.Ab
open Go Go.RowKit

section
variable {Ty : Type} [DecidableEq Ty] {C : Ty→Type}
variable {P : Program} {w : World} {H : Type} {en : TypeId×Value→H} {base : Nat} {spare : Nat→Bool} {held : Bool}

/-- Numbers of their kind; texts and rows no longer than what a machine holds. -/
inductive Sm (K : Cd C) : Lf C→Prop
  | int (k n) (h : (Lit.int k n).wf=true) : Sm K (.int k n)
  | bool (b) : Sm K (.bool b)
  | str (s) (h : s.size≤maxLen) : Sm K (.str s)
  | row (t xs) (h : xs.length≤maxLen) (h2 : ∀ (j : Nat) (hj : j<xs.length) (i : Nat) (l : Lf C),(K.enc t xs[j])[i]? = some l→Sm K l) : Sm K (.row t xs)

def zls : TK Ty→List (ZL Ty)
  | .one z=>[z]
  | .agg _ zs=>zs
  | .arr .. => [.ptr]
def kindB : ZL Ty→Lf C→Bool
  | .int k,.int k' _=>decide (k=k')
  | .bool,.bool _=>true
  | .str,.str _=>true
  | .sli t,.row t' _=>decide (t=t')
  | _,_=>false
def kindsB : List (ZL Ty)→List (Lf C)→Bool
  | [],[]=>true
  | z::zs,l::ls=>kindB z l&&kindsB zs ls
  | _,_=>false
def notPtr (ok : Ty→Bool) : ZL Ty→Bool
  | .ptr=>false
  | .fnc=>false
  | .nk _=>false
  | .sli t=>ok t
  | _=>true

structure Tab (P : Program) (K : Cd C) (tk : Nat→Option (TK Ty)) (ok : Ty→Bool) : Prop where
  fact : ∀ T k,tk T=some k→TFact P K T k
  el : ∀ t,EFact P K t
  sub : ∀ T fs zs,tk T=some (.agg fs zs) → ∀ fields,P.underlying T=some (.struct fields) → ∀ (j off n : Nat) (ag : Bool) (f : Field),fs[j]? = some (off,n,ag)→fields[j]? = some f → ∃ kf,tk f.type=some kf∧zls kf=(zs.drop off).take n
  cov : ∀ T fs zs,tk T=some (.agg fs zs) → ∀ i,i<zs.length → ∃ (j off n : Nat) (ag : Bool),fs[j]? = some (off,n,ag)∧off≤i∧i<off+n
  elk : ∀ t,ok t=true → ∃ kt,tk (K.tid t)=some kt∧(zls kt).all (notPtr ok)=true ∧ ∀ ls,kindsB (zls kt) ls=true → ∃ x,K.dec t ls=some x

theorem list_of {α : Type} {Q : Nat→α→Prop} : ∀ n,(∀ i,i<n → ∃ x,Q i x) → ∃ xs : List α,xs.length=n ∧ ∀ (i : Nat) (x : α),xs[i]? = some x→Q i x
  | 0,_=>⟨[],rfl,fun i x h=>by simp at h⟩
  | n+1,h=>by
    obtain ⟨xs,h1,h2⟩:=list_of n fun i hi=>h i (by omega)
    obtain ⟨x,hx⟩:=h n (by omega)
    refine ⟨xs++[x],by simp [h1],fun i y hy => ?_⟩
    rcases Nat.lt_or_ge i n with hlt | hge
    · rw [List.getElem?_append_left (by omega)] at hy; exact h2 i y hy
    · rw [List.getElem?_append_right (by omega),h1] at hy
      have : i - n=0:=by
        rcases Nat.eq_zero_or_pos (i - n) with h0 | h0
        · exact h0
        · rw [List.getElem?_eq_none (by simp; omega)] at hy; cases hy
      rw [this] at hy
      simp at hy
      have e : i=n:=by omega
      rw [e,← hy]; exact hx
theorem kinds_of : ∀ {zs : List (ZL Ty)} {ls : List (Lf C)},ls.length=zs.length→(∀ (i : Nat) (z : ZL Ty) (l : Lf C),zs[i]? = some z→ls[i]? = some l→kindB z l=true)→kindsB zs ls=true
  | [],[],_,_=>rfl
  | [],_::_,h,_=>by simp at h
  | _::_,[],h,_=>by simp at h
  | z::zs,l::ls,h,hk=>by
    simp only [kindsB,Bool.and_eq_true]
    exact ⟨hk 0 z l rfl rfl,kinds_of (by simpa using h) fun i z l h1 h2=>hk (i+1) z l (by simpa using h1) (by simpa using h2)⟩
theorem kinds_get : ∀ {zs : List (ZL Ty)} {ls : List (Lf C)},kindsB zs ls=true→ls.length=zs.length ∧ ∀ (i : Nat) (z : ZL Ty) (l : Lf C),zs[i]? = some z→ls[i]? = some l→kindB z l=true
  | [],[],_=>⟨rfl,fun i z l h=>by simp at h⟩
  | [],_::_,h=>by cases h
  | _::_,[],h=>by cases h
  | z::zs,l::ls,h=>by
    simp only [kindsB,Bool.and_eq_true] at h
    obtain ⟨h1,h2⟩:=kinds_get h.2
    refine ⟨by simp [h1],fun i z' l' hz hl => ?_⟩
    cases i with
    | zero=>simp at hz hl; subst hz hl; exact h.1
    | succ i=>exact h2 i z' l' (by simpa using hz) (by simpa using hl)

theorem open_ok {K : Cd C} {tk : Nat→Option (TK Ty)} {ok : Ty→Bool} (ht : Tab P K tk ok) : ∀ (n : Nat) (T : TypeId) (cs : List Value) (x : DataW H×List MemPlace) (k : TK Ty),DataW.trod en P w base spare held n T cs=some x→tk T=some k→(zls k).all (notPtr ok)=true →
    ∃ ls : List (Lf C),kindsB (zls k) ls=true∧ls.length=cs.length ∧ ∀ (i : Nat) (l : Lf C),ls[i]? = some l→Rep K w (fun b=>b<w.heap.size) l (cs.getD i undef)∧Sm K l:=by
  intro n
  induction n with
  | zero=>intro T cs x k h; simp [DataW.trod] at h
  | succ n ih =>
    intro T cs x k h hT hp
    have one : ∀ (z : ZL Ty) (l : Lf C) (v : Value),kindB z l=true→Rep K w (fun b=>b<w.heap.size) l v→Sm K l → ∃ ls : List (Lf C),kindsB (zls (.one z)) ls=true∧ls.length=[v].length ∧ ∀ (i : Nat) (l : Lf C),ls[i]? = some l→Rep K w (fun b=>b<w.heap.size) l ([v].getD i undef)∧Sm K l :=
      fun z l v h1 h2 h3=>⟨[l],by simp [zls,kindsB,h1],rfl,fun i l' hi=>by
        cases i with
        | zero=>simp at hi; subst hi; exact ⟨h2,h3⟩
        | succ i=>simp at hi⟩
    have hF:=ht.fact T k hT
    cases k with
    | one z =>
      obtain ⟨_,d,hd,hz⟩:=hF
      cases z with
      | int ki =>
        have e : d = .int ki:=hz
        subst e
        obtain ⟨m,rfl,-,hw⟩:=DataW.trod_int hd h
        exact one _ (.int ki m) _ (by simp [kindB]) (.int ..) (.int _ _ hw)
      | bool =>
        have e : d = .bool:=hz
        subst e
        obtain ⟨b,rfl,-⟩:=DataW.trod_bool hd h
        exact one _ (.bool b) _ rfl (.bool ..) (.bool _)
      | str =>
        have e : d = .string:=hz
        subst e
        obtain ⟨s,rfl,-,hw⟩:=DataW.trod_string hd h
        exact one _ (.str s) _ rfl (.str ..) (.str _ hw)
      | ptr=>simp [zls,notPtr] at hp
      | fnc=>simp [zls,notPtr] at hp
      | nk n=>simp [zls,notPtr] at hp
      | sli t =>
        have hok : ok t=true:=by simpa [zls,notPtr] using hp
        have e : d = .slice (K.tid t):=hz
        subst e
        rcases DataW.trod_slice hd h with ⟨rfl,-⟩ | ⟨a,len,cap,elems,rest,n',hn,rfl,-,hb,hl,hm,hlen,hel,-,-⟩
        · exact one _ (.row t []) _ (by simp [kindB]) (.row t [] none 0 default (fun _=>undef) (Nat.le_refl _) (fun h=>absurd rfl h) (fun h=>absurd rfl h) (fun j hj=>absurd hj (by simp))) (.row t [] (Nat.zero_le _) (fun j hj=>absurd hj (by simp)))
        · cases hn
          obtain ⟨i0,z0,hi0,hsz,hby,hpos,hz0,hzs,hzl⟩:=ht.el t
          have hcells : P.cellsOf (K.tid t)=K.sz t:=by simp [Program.cellsOf,hi0,hsz]
          obtain ⟨kt,hkt,hnp,hdec⟩:=ht.elk t hok
          have each : ∀ j,j<len → ∃ x : C t,∀ (i : Nat) (l : Lf C),(K.enc t x)[i]? = some l → ∃ u,w.cell? ((a.add (j*K.sz t)).add i)=some u∧Rep K w (fun b=>b<w.heap.size) l u∧Sm K l:=by
            intro j hj
            have h1:=hel j hj
            rw [hcells,List.getElem?_eq_getElem (by omega)] at h1
            rw [Option.bind_eq_some_iff] at h1
            obtain ⟨cs',hc,hd'⟩:=h1
            obtain ⟨_,hcl,hcg⟩:=World.cells?_some hc
            obtain ⟨ls,k1,k2,k3⟩:=ih _ _ _ _ hd' hkt hnp
            obtain ⟨x,hx⟩:=hdec ls k1
            have henc:=K.enc_dec t ls x hx
            refine ⟨x,fun i l hi => ?_⟩
            rw [henc] at hi
            have hil:=idx_lt hi
            obtain ⟨r1,r2⟩:=k3 i l hi
            refine ⟨cs'.getD i undef,?_,r1,r2⟩
            rw [hcg i (by omega),List.getD_eq_getElem?_getD,List.getElem?_eq_getElem (by omega)]
            rfl
          obtain ⟨xs,x1,x2⟩:=list_of len each
          have hrow : ∀ (j : Nat) (hj : j<xs.length) (i : Nat) (l : Lf C),(K.enc t xs[j])[i]? = some l → ∃ u,w.cell? (a.add (j*K.sz t+i))=some u∧Rep K w (fun b=>b<w.heap.size) l u∧Sm K l:=fun j hj i l hi=>by
            have:=x2 j xs[j] (by simp [hj]) i l hi
            rwa [add_add] at this
          have hsome : ∀ m,m<xs.length*K.sz t → ∃ u,w.cell? (a.add m)=some u:=fun m hm=>by
            have hj : m / K.sz t<xs.length:=Nat.div_lt_of_lt_mul (by rw [Nat.mul_comm]; exact hm)
            have hi : m % K.sz t<(K.enc t xs[m / K.sz t]).length:=by rw [K.enc_len]; exact Nat.mod_lt _ (K.pos t)
            obtain ⟨u,hu,_⟩:=hrow _ hj (m % K.sz t) (K.enc t xs[m / K.sz t])[m % K.sz t] (by simp [hi])
            rw [Nat.mul_comm,Nat.div_add_mod] at hu
            exact ⟨u,hu⟩
          refine one _ (.row t xs) _ (by simp [kindB]) ?_ (.row t xs (by omega) fun j hj i l hi=>(hrow j hj i l hi).elim fun u h=>h.2.2)
          have e : (Value.slice (some a) len cap) = .slice (some a) xs.length cap:=by rw [x1]
          rw [e]
          refine .row t xs (some a) cap a (fun m=>(w.cell? (a.add m)).getD undef) (by omega) (fun hne=>⟨rfl,?_⟩) (fun hne m hm => ?_) (fun j hj i l hi => ?_)
          · have hp0 : 0<xs.length*K.sz t:=Nat.mul_pos (List.length_pos_iff.2 hne) (K.pos t)
            have hj0 : 0<len:=by have:=List.length_pos_iff.2 hne; omega
            have h1:=hel 0 hj0
            rw [hcells,List.getElem?_eq_getElem (by omega),Option.bind_eq_some_iff] at h1
            obtain ⟨cs',hc,_⟩:=h1
            have:=World.cells?_block hc (K.pos t)
            rwa [add_block] at this
          · obtain ⟨u,hu⟩:=hsome m hm
            simp [hu]
          · obtain ⟨u,hu,hr,_⟩:=hrow j hj i l hi
            simp only [hu,Option.getD_some]
            exact hr
    | arr n sz ag zs=>simp [zls,notPtr] at hp
    | agg fs zs =>
      obtain ⟨⟨i0,hi0,hsz0,_⟩,fields,hu,hl,hF⟩:=hF
      obtain ⟨xs,n',hn,-,hcl,hxl,hxs⟩:=DataW.trod_struct hu h
      cases hn
      have hcl' : cs.length=zs.length:=by rw [hcl]; simp [Program.cellsOf,hi0,hsz0]
      have each : ∀ i,i<zs.length → ∃ l : Lf C,(∀ z,zs[i]? = some z→kindB z l=true)∧Rep K w (fun b=>b<w.heap.size) l (cs.getD i undef)∧Sm K l:=by
        intro i hi
        obtain ⟨j,off,m,ag,hj,ho1,ho2⟩:=ht.cov T fs zs hT i hi
        obtain ⟨f,fi,q1,q2,q3,q4,q5,_⟩:=hF j off m ag hj
        obtain ⟨kf,hkf,hzk⟩:=ht.sub T fs zs hT fields hu j off m ag f hj q1
        have hc1 : P.cellsOf f.type=m:=by simp [Program.cellsOf,q3,q4]
        have h1:=hxs j f q1
        rw [hc1,q2,List.getElem?_eq_getElem (by
          have:=idx_lt (xs:=fields.toList) (n:=j) (x:=f) (by simpa using q1)
          rw [hxl]; simpa using this)] at h1
        obtain ⟨ls,k1,k2,k3⟩:=ih _ _ _ _ h1 hkf (by
          rw [hzk]
          refine List.all_eq_true.2 fun z hz=>List.all_eq_true.1 hp z ?_
          exact List.mem_of_mem_drop (List.mem_of_mem_take hz))
        obtain ⟨g1,g2⟩:=kinds_get k1
        rw [hzk] at g1 g2
        have hlt : i - off<ls.length:=by rw [g1]; simp; omega
        obtain ⟨r1,r2⟩:=k3 (i - off) ls[i - off] (by simp [hlt])
        have e1 : ((cs.drop off).take m).getD (i - off) undef=cs.getD i undef:=by
          simp only [List.getD]
          rw [List.getElem?_take,if_pos (by omega),List.getElem?_drop,show off+(i - off)=i by omega]
        rw [e1] at r1
        refine ⟨ls[i - off],fun z hz=>g2 (i - off) z _ ?_ (by simp [hlt]),r1,r2⟩
        rw [List.getElem?_take,if_pos (by omega),List.getElem?_drop,show off+(i - off)=i by omega]
        exact hz
      obtain ⟨ls,h1,h2⟩:=list_of zs.length each
      exact ⟨ls,kinds_of h1 fun i z l hz hl=>(h2 i l hl).1 z hz,by omega,fun i l hi=>(h2 i l hi).2⟩

/-! ### What a kind tells -/
theorem kinds_cons {z : ZL Ty} {zs : List (ZL Ty)} {ls : List (Lf C)} (h : kindsB (z::zs) ls=true) : ∃ l ls',ls=l::ls' ∧ kindB z l=true∧kindsB zs ls' = true:=by
  cases ls with
  | nil=>cases h
  | cons l ls=>simp only [kindsB,Bool.and_eq_true] at h; exact ⟨l,ls,rfl,h.1,h.2⟩
theorem kinds_nil {ls : List (Lf C)} (h : kindsB ([] : List (ZL Ty)) ls=true) : ls=[]:=by
  cases ls with
  | nil=>rfl
  | cons l ls=>cases h
theorem kind_int {k : IntKind} {l : Lf C} (h : kindB (.int k : ZL Ty) l=true) : ∃ n,l = .int k n:=by
  cases l <;> simp [kindB] at h
  subst h; exact ⟨_,rfl⟩
theorem kind_bool {l : Lf C} (h : kindB (.bool : ZL Ty) l=true) : ∃ n,l = .bool n:=by
  cases l <;> simp [kindB] at h
  exact ⟨_,rfl⟩
theorem kind_str {l : Lf C} (h : kindB (.str : ZL Ty) l=true) : ∃ n,l = .str n:=by
  cases l <;> simp [kindB] at h
  exact ⟨_,rfl⟩
theorem kind_sli {t : Ty} {l : Lf C} (h : kindB (.sli t) l=true) : ∃ xs,l = .row t xs:=by
  cases l <;> simp [kindB] at h
  subst h; exact ⟨_,rfl⟩

/-! ### The table,reckoned -/
def zlB : ZL Ty→ZL Ty→Bool
  | .int k,.int k' => decide (k=k')
  | .bool,.bool=>true
  | .str,.str=>true
  | .ptr,.ptr=>true
  | .fnc,.fnc=>true
  | .nk .ifc,.nk .ifc=>true
  | .nk .map,.nk .map=>true
  | .sli t,.sli t' => decide (t=t')
  | _,_=>false
def zlsB : List (ZL Ty)→List (ZL Ty)→Bool
  | [],[]=>true
  | z::zs,y::ys=>zlB z y&&zlsB zs ys
  | _,_=>false
theorem zlsB_ok : ∀ {a b : List (ZL Ty)},zlsB a b=true→a=b
  | [],[],_=>rfl
  | [],_::_,h=>by cases h
  | _::_,[],h=>by cases h
  | z::zs,y::ys,h=>by
    simp only [zlsB,Bool.and_eq_true] at h
    have e : z=y:=by
      have h1:=h.1
      cases z <;> cases y <;> first | rfl | (simp [zlB] at h1; done) | (simp [zlB] at h1; subst h1; rfl) | (rename_i n m; cases n <;> cases m <;> first | rfl | (simp [zlB] at h1))
    rw [e,zlsB_ok h.2]
def subB (tk : Nat→Option (TK Ty)) (zs : List (ZL Ty)) : List Field→List (Nat×Nat×Bool)→Bool
  | [],[]=>true
  | f::l,x::r=>(match tk f.type with
    | some kf=>zlsB (zls kf) ((zs.drop x.1).take x.2.1)
    | none=>false)&&subB tk zs l r
  | _,_=>false
theorem subB_ok {tk : Nat→Option (TK Ty)} {zs : List (ZL Ty)} : ∀ {l : List Field} {r : List (Nat×Nat×Bool)},subB tk zs l r=true → ∀ (j off n : Nat) (ag : Bool) (f : Field),r[j]? = some (off,n,ag)→l[j]? = some f → ∃ kf,tk f.type=some kf∧zls kf=(zs.drop off).take n
  | [],[],_,j,off,n,ag,f,h,_=>by simp at h
  | [],_::_,h,_,_,_,_,_,_,_=>by cases h
  | _::_,[],h,_,_,_,_,_,_,_=>by cases h
  | f0::l,x::r,h,j,off,n,ag,f,hj,hf=>by
    simp only [subB,Bool.and_eq_true] at h
    cases j with
    | zero =>
      simp at hj hf
      subst hj hf
      have h1:=h.1
      split at h1
      · rename_i kf hk; exact ⟨kf,hk,zlsB_ok h1⟩
      · cases h1
    | succ j=>exact subB_ok h.2 j off n ag f (by simpa using hj) (by simpa using hf)
def rowB (P : Program) (tk : Nat→Option (TK Ty)) (x : Nat×TK Ty) : Bool:=match x.2 with
  | .one _=>true
  | .arr .. => true
  | .agg fs zs=>(match P.underlying x.1 with
    | some (.struct fields)=>subB tk zs fields.toList fs
    | _=>false)&&(below zs.length).all fun i=>fs.any fun y=>Nat.ble y.1 i&&Nat.ble (i+1) (y.1+y.2.1)
theorem below_mem : ∀ {n j : Nat},j<n→j ∈ Ab.below n
  | n+1,j,h=>by
    simp only [Ab.below,List.mem_cons]
    rcases Nat.lt_succ_iff_lt_or_eq.1 h with h | h
    · exact .inr (below_mem h)
    · exact .inl h
theorem lk_in {α : Type} : ∀ {l : List (Nat×α)} {n : Nat} {v : α},lk l n=some v→(n,v) ∈ l
  | [],n,v,h=>by simp [lk] at h
  | (m,x)::l,n,v,h=>by
    rw [lk_cons] at h
    split at h
    · rename_i e; cases h; subst e; simp
    · exact List.mem_cons_of_mem _ (lk_in h)
theorem tab_of {K : Cd C} {l : List (Nat×TK Ty)} (hf : ∀ T k,lk l T=some k→TFact P K T k) (he : ∀ t,EFact P K t) (hr : l.all (rowB P (lk l))=true)
    {ok : Ty→Bool} (hk : ∀ t,ok t=true → ∃ kt,lk l (K.tid t)=some kt∧(zls kt).all (notPtr ok)=true ∧ ∀ ls,kindsB (zls kt) ls=true → ∃ x,K.dec t ls=some x) : Tab P K (lk l) ok:=by
  refine ⟨hf,he,fun T fs zs hT fields hu j off n ag f hj hf => ?_,fun T fs zs hT i hi => ?_,hk⟩
  · have:=List.all_eq_true.1 hr (T,.agg fs zs) (lk_in hT)
    simp only [rowB,hu,Bool.and_eq_true] at this
    exact subB_ok this.1 j off n ag f hj (by simpa using hf)
  · have:=List.all_eq_true.1 hr (T,.agg fs zs) (lk_in hT)
    simp only [rowB,Bool.and_eq_true] at this
    have:=List.all_eq_true.1 this.2 i (below_mem hi)
    obtain ⟨y,hy,hb⟩:=List.any_eq_true.1 this
    simp only [Bool.and_eq_true] at hb
    obtain ⟨off,n,ag⟩:=y
    obtain ⟨j,hj,e⟩:=List.getElem_of_mem hy
    exact ⟨j,off,n,ag,by rw [List.getElem?_eq_getElem hj,e],Nat.le_of_ble_eq_true hb.1,Nat.le_of_ble_eq_true hb.2⟩
end
end Go.Proofs.Ytakakoogpmhhkaa.Ab

