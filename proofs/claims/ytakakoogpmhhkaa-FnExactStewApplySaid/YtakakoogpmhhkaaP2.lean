/- The abstract machine, part 10: a row is turned; stores. -/
import Derived.Test.YtakakoogpmhhkaaP1
import Derived.Maps.AppendAt
set_option linter.unusedVariables false
set_option linter.unusedSimpArgs false
set_option linter.unusedSectionVars false
set_option linter.unusedVariables false
set_option linter.unusedSimpArgs false
set_option linter.unusedSectionVars false
namespace Go.Proofs.Ytakakoogpmhhkaa.Ab
open Go Go.RowKit

section
variable {Ty : Type} {C : Ty→Type}
variable {K : Cd C} {w0 w : World} {nt : Nat} {S : St C} {β : Nat→Value} {fp : Nat→Nat→Prop} {a : Act}

/-- A row whose length stays. -/
def Keeps' (w w' : World) (objs objs' : Objs C) (β β' : Nat→Value) (id : Nat) : Prop :=
  β' id=β id ∧ ∀ t xs sh,lk objs' id=some (.row t xs sh) → ∃ xs0 sh0,lk objs id=some (.row t xs0 sh0)∧xs.length=xs0.length

theorem LfOk.tr' {w w' : World} {objs objs' : Objs C} {β β' : Nat→Value} {fp fp' : Nat→Nat→Prop} {stb stb' : Nat→Prop} {l : Lf C} {v : Value} {d : Nat}
    (h : LfOk K w objs β fp stb l v) (hst : ∀ k,stb k→stb' k∧w'.heap[k]? = w.heap[k]?) (hid : ∀ id,id ∈ idsL l→id≠d→Keeps w w' objs objs' β β' fp fp' id) (hd : Keeps' w w' objs objs' β β' d) (hn : deepL d l=false) : LfOk K w' objs' β' fp' stb' l v:=by
  by_cases hm : d ∈ idsL l
  · cases l with
    | ptr id off =>
      simp only [idsL,List.mem_singleton] at hm
      subst hm
      obtain ⟨b,h1,h2⟩:=h
      exact ⟨b,hd.1.trans h1,h2⟩
    | vo id =>
      simp only [idsL,List.mem_singleton] at hm
      subst hm
      exact ⟨h.1,h.2.trans hd.1.symm⟩
    | ref id p =>
      simp only [idsL,List.mem_singleton] at hm
      subst hm
      cases p with
      | nil=>exact ⟨h.1,h.2.trans hd.1.symm⟩
      | cons s p=>simp [deepL,Nat.beq_refl] at hn
    | ep id p i o =>
      simp only [idsL,List.mem_singleton] at hm
      subst hm
      cases p with
      | nil =>
        refine ⟨h.1,fun t xs sh ho => ?_⟩
        obtain ⟨xs0,sh0,h1,h2⟩:=hd.2 t xs sh ho
        rw [h2,hd.1]
        exact h.2 t xs0 sh0 h1
      | cons s p=>simp [deepL,Nat.beq_refl] at hn
    | sub id lo hi =>
      simp only [idsL,List.mem_singleton] at hm
      subst hm
      refine ⟨h.1,fun t xs sh ho => ?_⟩
      obtain ⟨xs0,sh0,h1,h2⟩:=hd.2 t xs sh ho
      rw [h2,hd.1]
      exact h.2 t xs0 sh0 h1
    | _=>simp [idsL] at hm
  · exact h.tr hst fun id hi=>hid id hi fun e=>hm (by subst e; exact hi)

theorem LfsOk.tr' {w w' : World} {objs objs' : Objs C} {β β' : Nat→Value} {fp fp' : Nat→Nat→Prop} {stb stb' : Nat→Prop} {ls : List (Lf C)} {vs : List Value} {d : Nat}
    (h : LfsOk K w objs β fp stb ls vs) (hst : ∀ k,stb k→stb' k∧w'.heap[k]? = w.heap[k]?) (hid : ∀ id,id ∈ idsLs ls→id≠d→Keeps w w' objs objs' β β' fp fp' id) (hd : Keeps' w w' objs objs' β β' d) (hn : ls.any (deepL d)=false) : LfsOk K w' objs' β' fp' stb' ls vs :=
  ⟨h.1,fun i l hl=>(h.2 i l hl).tr' hst (fun id hi=>hid id (mem_idsLs hl hi)) hd (by
    have:=List.any_eq_false.1 hn l (List.mem_of_getElem? hl)
    simpa using this)⟩
theorem SVOk.tr' {w w' : World} {objs objs' : Objs C} {β β' : Nat→Value} {fp fp' : Nat→Nat→Prop} {stb stb' : Nat→Prop} {x : SV C} {v : Value} {d : Nat}
    (h : SVOk K w objs β fp stb x v) (hst : ∀ k,stb k→stb' k∧w'.heap[k]? = w.heap[k]?) (hid : ∀ id,id ∈ idsV0 x→id≠d→Keeps w w' objs objs' β β' fp fp' id) (hd : Keeps' w w' objs objs' β β' d) (hn : deepV d x=false) : SVOk K w' objs' β' fp' stb' x v:=by
  cases x with
  | one l=>exact LfOk.tr' h hst hid hd hn
  | agg ls=>obtain ⟨vs,h1,h2⟩:=h; exact ⟨vs,h1,h2.tr' hst hid hd hn⟩
  | tup xs =>
    obtain ⟨vs,h1,h2,h3⟩:=h
    refine ⟨vs,h1,h2,fun i x hx => ?_⟩
    have hm : ∀ id,id ∈ idsLs x.2→id ∈ idsT xs:=by
      clear h3 h2 h1 hid hn
      induction xs generalizing i with
      | nil=>simp at hx
      | cons y r ih =>
        intro id hi
        obtain ⟨b,ls⟩:=y
        simp only [idsT,List.mem_append]
        cases i with
        | zero=>simp at hx; subst hx; exact .inl hi
        | succ i=>simp at hx; exact .inr (ih i hx id hi)
    have hn' : x.2.any (deepL d)=false:=by
      have:=List.any_eq_false.1 hn x (List.mem_of_getElem? hx)
      simpa using this
    have:=h3 i x hx
    obtain ⟨b,ls⟩:=x
    cases b with
    | false =>
      obtain ⟨l,h1,h2⟩:=this
      subst h1
      exact ⟨l,rfl,h2.tr' hst (fun id hi=>hid id (hm id (by simpa [idsLs] using hi))) hd (by simpa using hn')⟩
    | true=>obtain ⟨vs,h1,h2⟩:=this; exact ⟨vs,h1,h2.tr' hst (fun id hi=>hid id (hm id hi)) hd hn'⟩
  | und=>exact h
  | hdr id j =>
    by_cases e : id=d
    · subst e; exact hd.1.trans h
    · exact (hid id (by simp [idsV0]) e).1.trans h
  | frame=>exact fun k hk=>⟨(hst k (h k hk).1).1,(hst k (h k hk).1).2.trans (h k hk).2⟩
  | sus x j =>
    obtain ⟨b,ls⟩:=x
    have hn' : ls.any (deepL d)=false:=hn
    cases b with
    | false =>
      obtain ⟨l,h1,h2⟩:=h
      have h1 : ls=[l]:=h1
      subst h1
      exact ⟨l,rfl,h2.tr' hst (fun id hi=>hid id (by simpa [idsV0,idsLs] using hi)) hd (by simpa using hn')⟩
    | true=>obtain ⟨vs,h1,h2⟩:=h; exact ⟨vs,h1,h2.tr' hst (fun id hi=>hid id hi) hd hn'⟩

/-- A row is turned in place; things may have moved into it. -/
theorem Sim.turnRow (h : Sim K w0 nt S β fp a w) {O1 : Objs C} (hO : ∀ j ob,lk O1 j=some ob→lk S.objs j=some ob) {id : Nat} {t : Ty} {xs xs' : List (C t)} {sh sh' : Bool}
    (ho : lk O1 id=some (.row t xs sh)) (hlen : xs'.length=xs.length) {F' : Nat→Prop} (hF : ∀ k,F' k→fp id k ∨ ∃ j ob,lk S.objs j=some ob∧lk O1 j=none∧fp j k)
    {w' : World} (hw : Below w0.heap.size w w') (hb : ∀ k,¬ fp id k→w'.heap[k]? = w.heap[k]?)
    (hob : ObOk K w' w0.heap.size ((id,.row t xs' sh')::O1) β (upd fp id F') (stbOf ((id,.row t xs' sh')::O1) (upd fp id F') w') F' (.row t xs' sh') (β id))
    (hbox : ∀ j kd ls,lk O1 j=some (.box kd ls)→ls.any (deepL id)=false) {E : List (Nat×SV C)} (hE : ∀ t v,lk E t=some v→lk S.env t=some v∧deepV id v=false) (bs : Nat) :
    Sim K w0 nt ⟨E,(id,.row t xs' sh')::O1,bs⟩ β (upd fp id F') a w' := by
  have hlk : ∀ j ob,lk ((id,Ob.row t xs' sh')::O1) j=some ob→j≠id→lk O1 j=some ob:=fun j ob hj hne=>by rw [lk_cons,if_neg hne] at hj; exact hj
  have hap : ∀ j ob k,lk O1 j=some ob→j≠id→fp j k → ¬ F' k:=fun j ob k hj hne hk hf=>by
    rcases hF k hf with h1 | ⟨j',ob',h1,h2,h3⟩
    · exact hne (h.disj j id ob _ k (hO j ob hj) (hO id _ ho) hk h1)
    · have:=h.disj j j' ob ob' k (hO j ob hj) h1 hk h3
      subst this
      rw [hj] at h2
      cases h2
  have hst : ∀ k,stbOf S.objs fp w k→stbOf ((id,Ob.row t xs' sh')::O1) (upd fp id F') w' k∧w'.heap[k]? = w.heap[k]? := fun k hk=>by
    refine ⟨⟨Nat.lt_of_lt_of_le hk.1 hw.size,fun j ob hj => ?_⟩,hb k (hk.2 id _ (hO _ _ ho))⟩
    by_cases e : j=id
    · subst e
      rw [upd_same]
      intro hf
      rcases hF k hf with h1 | ⟨j',ob',h1,h2,h3⟩
      · exact hk.2 j _ (hO _ _ ho) h1
      · exact hk.2 j' _ h1 h3
    · rw [upd_ne _ _ e]
      exact hk.2 j ob (hO _ _ (hlk j ob hj e))
  have hkp : ∀ j,j≠id→Keeps w w' S.objs ((id,Ob.row t xs' sh')::O1) β β fp (upd fp id F') j:=fun j e=>by
    refine ⟨rfl,fun t0 xs0 sh0 hj => ?_⟩
    have hj' := hlk j _ hj e
    exact ⟨hO _ _ hj',fun k hk=>⟨by rw [upd_ne _ _ e]; exact hk,hb k fun hk' => e (h.disj j id _ _ k (hO _ _ hj') (hO _ _ ho) hk hk')⟩⟩
  have hkd : Keeps' w w' S.objs ((id,Ob.row t xs' sh')::O1) β β id:=by
    refine ⟨rfl,fun t0 xs0 sh0 hj => ?_⟩
    rw [lk_cons,if_pos rfl] at hj
    cases hj
    exact ⟨xs,sh,hO _ _ ho,hlen⟩
  refine ⟨h.below.trans hw,h.defers,h.size,fun j ob k hj hk => ?_,fun i j oi oj k hi hj hki hkj => ?_,fun j ob hj => ?_,fun t v ht=>(h.env t v (hE t v ht).1).tr' hst (fun i _ e=>hkp i e) hkd (hE t v ht).2⟩
  · have hsz:=hw.size
    by_cases e : j=id
    · subst e
      rw [upd_same] at hk
      rcases hF k hk with h1 | ⟨j',ob',h1,h2,h3⟩
      · have:=h.fresh j _ k (hO _ _ ho) h1; omega
      · have:=h.fresh j' _ k h1 h3; omega
    · rw [upd_ne _ _ e] at hk
      have:=h.fresh j ob k (hO _ _ (hlk j ob hj e)) hk; omega
  · by_cases ei : i=id <;> by_cases ej : j=id
    · rw [ei,ej]
    · subst ei
      rw [upd_same] at hki
      rw [upd_ne _ _ ej] at hkj
      exact absurd hki (hap j oj k (hlk j oj hj ej) ej hkj)
    · subst ej
      rw [upd_same] at hkj
      rw [upd_ne _ _ ei] at hki
      exact absurd hkj (hap i oi k (hlk i oi hi ei) ei hki)
    · rw [upd_ne _ _ ei] at hki
      rw [upd_ne _ _ ej] at hkj
      exact h.disj i j oi oj k (hO _ _ (hlk i oi hi ei)) (hO _ _ (hlk j oj hj ej)) hki hkj
  · by_cases e : j=id
    · subst e
      have : ob = .row t xs' sh' := by simp only [lk_cons,if_pos] at hj; cases hj; rfl
      subst this
      rw [upd_same]
      exact hob
    · have hj' := hlk j ob hj e
      rw [upd_ne _ _ e]
      have hobj:=h.objs j ob (hO _ _ hj')
      have hF' : ∀ k,fp j k→w'.heap[k]? = w.heap[k]? := fun k hk' => hb k fun hk'' => e (h.disj j id _ _ k (hO _ _ hj') (hO _ _ ho) hk' hk'')
      cases ob with
      | box kd ls=>cases kd with
        | mem =>
          obtain ⟨b,cs,e',h1,h2,h3,h4⟩:=hobj
          exact ⟨b,cs,e',h1,(hF' b ((h3 b).2 rfl)).trans h2,h3,h4.tr' hst (fun i _ e=>hkp i e) hkd (hbox j _ ls hj')⟩
        | clo f n sh=>obtain ⟨us,h1,h2,h3⟩:=hobj; exact ⟨us,h1,h2,h3.tr' hst (fun i _ e=>hkp i e) hkd (hbox j _ ls hj')⟩
        | ifc t sh=>obtain ⟨us,h1,h2,h3⟩:=hobj; exact ⟨us,h1,h2,h3.tr' hst (fun i _ e=>hkp i e) hkd (hbox j _ ls hj')⟩
      | row t0 xs0 sh0=>exact hobj.tr (objs' := (id,Ob.row t xs' sh')::O1) (β' := β) (fp' := upd fp id F') hst hF' (fun _ ls els=>by cases els)
      | map mk kt vt ys c=>exact hobj.tr (objs' := (id,Ob.row t xs' sh')::O1) (β' := β) (fp' := upd fp id F') hst hF' (fun _ ls els=>by cases els)
      | ghost=>exact hobj.tr (objs' := (id,Ob.row t xs' sh')::O1) (β' := β) (fp' := upd fp id F') hst hF' (fun _ ls els=>by cases els)

/-- Cells of an own row are stored over. -/
theorem ownsRow_store {P : Program} {base : Nat} {e : TypeId} {size n cap g : Nat} {cells : List Value} (h : w.ownsRow base e size (.slice (some ⟨g,0,none⟩) n cap) n cells) {m : Nat} {vs : List Value} (hm : m+vs.length≤n*size) (h1 : ∀ v ∈ vs,v.oneCell' = true) :
    ∃ cur',(storeCells ⟨g,m,none⟩ vs).run P w = .ok () (w.setRow g cur')∧(w.setRow g cur').ownsRow base e size (.slice (some ⟨g,0,none⟩) n cap) n (cells.take m++vs++cells.drop (m+vs.length)):=by
  obtain ⟨hl,h2⟩:=h
  rcases h2 with ⟨h2,_⟩ | ⟨g',cap',cur,h2,hb,hh,hn,hc,hs,ht⟩
  · cases h2
  · cases h2
    have hle : n*size≤cap*size:=Nat.mul_le_mul_right _ hn
    have hst:=run_storeCells_at P g m e vs 0 cur w hh (by rw [hs]; simp; omega) h1
    simp only [Nat.add_zero] at hst
    refine ⟨_,hst,?_,.inr ⟨g,cap,_,rfl,hb,setRow_heap w g cur _ e (0,0) hh,hn,hc,?_,?_⟩⟩
    · simp; omega
    · simp; omega
    · rw [← ht]
      apply List.ext_getElem?
      intro i
      have hcl : cur.toList.length=cap*size:=by simpa using hs
      have hlen : m+vs.length≤(cur.toList.take (n*size)).length:=by rw [List.length_take,hcl]; omega
      have hlen' : m+vs.length≤cur.toList.length:=by rw [hcl]; omega
      rw [splice_get hlen,List.getElem?_take]
      simp only [List.toList_toArray]
      rw [splice_get hlen']
      simp only [List.getElem?_take]
      by_cases hi : i<n*size
      · simp [hi]
      · have hi1 : ¬ i<m:=by omega
        have hi2 : ¬ i<m+vs.length:=by omega
        simp [hi,hi1,hi2]
end
end Go.Proofs.Ytakakoogpmhhkaa.Ab

/- The abstract machine,part 11: stores. -/
set_option linter.unusedVariables false
set_option linter.unusedSimpArgs false
set_option linter.unusedSectionVars false
namespace Go.Proofs.Ytakakoogpmhhkaa.Ab
open Go Go.RowKit

section
variable {Ty : Type} [DecidableEq Ty] {C : Ty→Type}
variable {P : Program} {X : Cx C} {w0 w : World} {nt : Nat} {S : St C} {β : Nat→Value} {fp : Nat→Nat→Prop} {a : Act} {R : Type} {k : St C→Option R} {r : R}
variable {dst : Option Tmp} {ty : TypeId} {pos : String} {aft : Array Edge} {gd : Option (Nat×Bool)} {Q : Exit→Act→World→Prop}

theorem ob_below {base : Nat} {objs : Objs C} {stb F : Nat→Prop} {t : Ty} {xs : List (C t)} {sh : Bool} {K : Cd C} {v : Value} (h : ObOk K w base objs β fp stb F (.row t xs sh) v) :
    ∃ cells,w.ownsRow base (K.tid t) (K.sz t) v xs.length cells∧(∀ g,v.ownBlock=some g→F g):=by
  cases sh with
  | false=>cases h with
    | row _ _ _ _ cells G h h1=>exact ⟨cells,h,h1⟩
  | true=>obtain ⟨cells,h1,h2,_⟩:=h; exact ⟨cells,h1,fun g hg=>(h2 g).2 hg⟩

theorem idx_split {s i j o o' : Nat} (ho : o<s) (ho' : o' < s) (h : i*s+o=j*s+o') : i=j∧o=o' := by
  have h1 : (i*s+o) / s=i:=by rw [Nat.add_comm,Nat.add_mul_div_right _ _ (by omega),Nat.div_eq_of_lt ho,Nat.zero_add]
  have h2 : (j*s+o') / s=j:=by rw [Nat.add_comm,Nat.add_mul_div_right _ _ (by omega),Nat.div_eq_of_lt ho',Nat.zero_add]
  have : i=j:=by rw [← h1,← h2,h]
  subst this
  exact ⟨rfl,by omega⟩

theorem setRow_alike {g : Nat} {cs : Array Value} (k : Nat) (h : k≠g) : (w.setRow g cs).heap[k]? = w.heap[k]? := setRow_other w g k cs h

theorem ownsRow_one {b b' : Nat} {e e' : TypeId} {s n n' : Nat} {v : Value} {c c' : List Value} (h : w.ownsRow b e s v n c) (h' : w.ownsRow b' e' s v n' c') : c=c' := by
  obtain ⟨l,h⟩:=h
  obtain ⟨l',h'⟩:=h'
  rcases h with ⟨rfl,rfl⟩ | ⟨g,cap,cur,rfl,_,hh,_,_,_,ht⟩
  · rcases h' with ⟨_,rfl⟩ | ⟨g',_,_,e,_⟩
    · have e1 : c=[]:=List.eq_nil_of_length_eq_zero (by simpa using l)
      have e2 : c' = []:=List.eq_nil_of_length_eq_zero (by simpa using l')
      rw [e1,e2]
    · cases e
  · rcases h' with ⟨e,_⟩ | ⟨g',cap',cur',e,_,hh',_,_,_,ht'⟩
    · cases e
    · cases e
      rw [hh] at hh'
      cases hh'
      rw [← ht,← ht']

/-- A store into an element of an own row. -/
theorem store_row (hs : Sim X.K w0 nt S β fp a w) {id i off : Nat} {ls ls' : List (Lf C)} {us : List Value} {S1 : St C} {b : Bool} {t : Ty} {xs : List (C t)} {sh : Bool} {x y : C t} {v : Value}
    (hv : LfOk X.K w S.objs β fp (stbOf S.objs fp w) (.ep id [] i off) v) (hl : LfsOk X.K w S.objs β fp (stbOf S.objs fp w) ls us) (hab : absorb S ls=some (ls',S1,b))
    (ho : lk S1.objs id=some (.row t xs sh)) (hbs : (b && !sh)=false) (hx : xs[i]? = some x) (hdec : X.K.dec t (setAt (X.K.enc t x) off ls')=some y) (hoff : off+ls.length≤X.K.sz t)
    (hdeep : S1.objs.any (fun x=>deepO id x.2)=false) :
    ∃ p w',v = .pointer (some p)∧(storeCells p us).run P w = .ok () w' ∧ ∃ F',Sim X.K w0 nt { S1.setObj id (.row t (xs.set i y) sh) with env:=undeep id S1.env } β (upd fp id F') a w' := by
  obtain ⟨g1,g1',g2,g3,G,g4,g5,g6⟩:=absorb_ok hs ls us S.objs ls' S1 b (fun _ _ h=>h) hab hl
  have hoS:=g2 id _ ho
  obtain ⟨_,hep⟩:=hv
  obtain ⟨hi,q,m,c,hq,hvq⟩:=hep t xs sh hoS
  have hob:=hs.objs id _ hoS
  have henc : X.K.enc t y=setAt (X.K.enc t x) off ls' := X.K.enc_dec t _ _ hdec
  have hlx:=X.K.enc_len t x
  have hoff' : off+ls'.length≤(X.K.enc t x).length:=by rw [g3,hlx]; exact hoff
  have hus1 : us.length=ls'.length:=by rw [g3]; exact hl.1
  have hus : ∀ v ∈ us,v.oneCell' = true:=fun v hv=>by
    obtain ⟨j,hj,rfl⟩:=List.getElem_of_mem hv
    have hj' : j<ls'.length:=by omega
    have:=(g6 j ls'[j] (by simp [hj'])).2
    have e : us.getD j undef=us[j]:=by simp [List.getD,hj]
    rw [e] at this
    exact this.one
  have hxe : xs[i]=x:=by simpa [List.getElem?_eq_getElem hi] using hx
  have hlen : (xs.set i y).length=xs.length:=by simp
  have hGst : ∀ o k,G o k → ¬ fp id k∧k<w.heap.size∧(∀ j ob,lk S1.objs j=some ob → ¬ fp j k):=fun o k hk=>by
    obtain ⟨j,ob,h1,h2,h3⟩:=g4 o k hk
    refine ⟨fun h4 => ?_,(hs.fresh j ob k h1 h3).2,fun j' ob' h4 h5 => ?_⟩
    · have:=hs.disj j id ob _ k h1 hoS h3 h4
      subst this
      rw [ho] at h2; cases h2
    · have:=hs.disj j j' ob ob' k h1 (g2 _ _ h4) h3 h5
      subst this
      rw [h4] at h2; cases h2
  -- what the header is
  obtain ⟨cells0,hown0,hF0⟩:=ob_below hob
  obtain ⟨g,cap,e,hbg,hnc,hcell⟩:=own_at hown0 (Nat.mul_pos (by omega) (X.K.pos t))
  rw [hq] at e
  cases e
  have hFg : fp id g:=hF0 g (by rw [hq]; rfl)
  have hgw : w0.heap.size≤g:=hbg
  have hm : i*X.K.sz t+off+us.length≤xs.length*X.K.sz t:=by
    have : i*X.K.sz t+X.K.sz t≤xs.length*X.K.sz t:=by rw [← Nat.succ_mul]; exact Nat.mul_le_mul_right _ hi
    rw [hus1,g3]; omega
  have hadd : (⟨g,0,none⟩ : Addr).add (i*X.K.sz t+off)=⟨g,i*X.K.sz t+off,none⟩:=by rw [add_none]; simp
  -- the new cells,one by one
  have hbox : ∀ j kd ls,lk S1.objs j=some (.box kd ls)→ls.any (deepL id)=false:=fun j kd0 ls0 hj=>by
    have : ∀ (O : Objs C),O.any (fun x=>deepO id x.2)=false→lk O j=some (.box kd0 ls0)→ls0.any (deepL id)=false:=by
      intro O
      induction O with
      | nil=>intro _ h; simp [lk] at h
      | cons y r ih =>
        intro h1 h2
        obtain ⟨n,u⟩:=y
        rw [lk_cons] at h2
        simp only [List.any_cons,Bool.or_eq_false_iff] at h1
        split at h2
        · cases h2; exact h1.1
        · exact ih h1.2 h2
    exact this _ hdeep hj
  have hundeep : ∀ (E : List (Nat×SV C)) t v,lk (undeep id E) t=some v→lk E t=some v∧deepV id v=false:=by
    intro E
    induction E with
    | nil=>intro t v h; simp [undeep,lk] at h
    | cons y r ih =>
      intro t v h
      obtain ⟨n,u⟩:=y
      simp only [undeep] at h
      cases hd : deepV id u with
      | true =>
        rw [hd,cond_true] at h
        rw [lk_rm] at h
        split at h
        · cases h
        · rename_i e
          rw [lk_cons,if_neg e]
          exact ih t v h
      | false =>
        rw [hd,cond_false,lk_cons] at h
        rw [lk_cons]
        split at h
        · rename_i e; rw [if_pos e]; cases h; exact ⟨rfl,hd⟩
        · rename_i e; rw [if_neg e]; exact ih t v h
  obtain ⟨cur',hrun,hown'⟩:=ownsRow_store (P:=P) (by rw [hq] at hown0; exact hown0) hm hus
  have hwb : ∀ k,k≠g→(w.setRow g cur').heap[k]? = w.heap[k]? := fun k h=>setRow_other w g k cur' h
  -- a new cell of element j
  have hget : ∀ j o,j<xs.length→o<X.K.sz t→(cells0.take (i*X.K.sz t+off)++us++cells0.drop (i*X.K.sz t+off+us.length)).getD (j*X.K.sz t+o) undef =
      if j=i∧off≤o∧o<off+us.length then us.getD (o - off) undef else cells0.getD (j*X.K.sz t+o) undef:=by
    intro j o hj ho'
    have hcl : i*X.K.sz t+off+us.length≤cells0.length:=by rw [hown0.1]; exact hm
    rw [List.getD_eq_getElem?_getD,splice_get hcl]
    by_cases hji : j=i
    · subst hji
      by_cases h1 : off≤o
      · by_cases h2 : o<off+us.length
        · rw [if_neg (by omega),if_pos (by omega),if_pos ⟨rfl,h1,h2⟩]
          rw [List.getD_eq_getElem?_getD]
          congr 2
          omega
        · rw [if_neg (by omega),if_neg (by omega),if_neg (by omega),← List.getD_eq_getElem?_getD]
      · rw [if_pos (by omega),if_neg (by omega),← List.getD_eq_getElem?_getD]
    · rw [if_neg (show ¬ (j=i∧off≤o∧o<off+us.length) from fun h=>hji h.1)]
      have hne : ∀ o1,o1<X.K.sz t→j*X.K.sz t+o≠i*X.K.sz t+o1:=fun o1 h1 e=>hji (idx_split ho' h1 e).1
      rcases Nat.lt_or_ge (j*X.K.sz t+o) (i*X.K.sz t) with h1 | h1
      · rw [if_pos (by omega),← List.getD_eq_getElem?_getD]
      · have : i*X.K.sz t+X.K.sz t≤j*X.K.sz t+o:=by
          rcases Nat.lt_or_ge (j*X.K.sz t+o) (i*X.K.sz t+X.K.sz t) with h2 | h2
          · exact absurd (show j*X.K.sz t+o=i*X.K.sz t+(j*X.K.sz t+o - i*X.K.sz t) by omega) (hne _ (by omega))
          · exact h2
        rw [if_neg (by omega),if_neg (by omega),← List.getD_eq_getElem?_getD]
  have hency : ∀ o l,(X.K.enc t y)[o]? = some l→o<X.K.sz t∧((off≤o∧o<off+us.length∧ls'[o - off]? = some l)∨(¬ (off≤o∧o<off+us.length)∧(X.K.enc t x)[o]? = some l)):=by
    intro o l hol
    have ho' := enc_lt hol
    refine ⟨ho',?_⟩
    rw [henc,setAt_eq _ _ _ hoff',splice_get hoff'] at hol
    rw [hus1]
    split at hol
    · exact .inr ⟨by omega,hol⟩
    · split at hol
      · exact .inl ⟨by omega,by omega,hol⟩
      · exact .inr ⟨by omega,hol⟩
  refine ⟨_,w.setRow g cur',hvq,by rw [hadd]; exact hrun,?_⟩
  cases sh with
  | false =>
    have hb : b=false:=by cases b <;> simp at hbs ⊢
    cases hob with
    | row _ _ _ _ cells G0 h0 h1 h2 h3 h4 =>
      have hcells : cells=cells0:=ownsRow_one h0 hown0
      subst hcells
      refine ⟨fun k=>fp id k ∨ ∃ o,G o k,?_⟩
      refine hs.turnRow g2 ho hlen (F' := fun k=>fp id k ∨ ∃ o,G o k) (fun k hk=>hk.imp (fun h=>h) fun ⟨o,hk⟩=>g4 o k hk) (below_setRow g cur' hgw) (fun k hk=>hwb k fun e=>hk (by rw [e]; exact hFg)) ?_ hbox (fun t v h=>by rw [← g1]; exact hundeep _ t v h) S1.base
      have hG0 : ∀ j o k,G0 j o k→fp id k∧k≠g:=fun j o k hk=>⟨(h2 j o k hk).1,fun e=>(h2 j o k hk).2 (by rw [hq,e]; rfl)⟩
      refine .row _ t (xs.set i y) _ _ (fun j o k=>if j=i∧off≤o∧o<off+us.length then G (o - off) k else G0 j o k) (by rw [hlen,hq]; exact hown') (fun g' hg' => .inl (hF0 g' hg')) (fun j o k hk => ?_) (fun j o j' o' k hk hk' => ?_) (fun j hj o l hl' => ?_)
      · split at hk
        · exact ⟨.inr ⟨_,hk⟩,fun e=>(hGst _ k hk).1 (hF0 k e)⟩
        · exact ⟨.inl (h2 j o k hk).1,(h2 j o k hk).2⟩
      · split at hk <;> split at hk'
        · have:=g5 _ _ k hk hk'
          omega
        · exact absurd (h2 j' o' k hk').1 (hGst _ k hk).1
        · exact absurd (h2 j o k hk).1 (hGst _ k hk').1
        · exact h3 j o j' o' k hk hk'
      · have hj1 : j<xs.length:=by simpa using hj
        by_cases hji : j=i
        · subst hji
          have hl' : (X.K.enc t y)[o]? = some l:=by simpa using hl'
          obtain ⟨ho',hor⟩:=hency o l hl'
          rw [hget j o hj1 ho']
          rcases hor with ⟨q1,q2,q3⟩ | ⟨q1,q2⟩
          · rw [if_pos ⟨rfl,q1,q2⟩]
            refine (Own.frame ((g6 _ l q3).1 hb) (fun k hk=>hwb k fun e => ?_)).mono fun k hk => ?_
            · subst e; exact (hGst _ _ hk).1 hFg
            · rw [if_pos ⟨rfl,q1,q2⟩]; exact hk
          · rw [if_neg (by simp; omega)]
            refine ((h4 j hj1 o l (by rw [hxe]; exact q2)).frame fun k hk=>hwb k (hG0 j o k hk).2).mono fun k hk => ?_
            rw [if_neg (by simp; omega)]
            exact hk
        · have hl' : (X.K.enc t xs[j])[o]? = some l:=by
            rw [List.getElem_set_ne (fun e=>hji e.symm)] at hl'
            exact hl'
          rw [hget j o hj1 (enc_lt hl'),if_neg (by simp [hji])]
          simp only [hji,false_and,if_false]
          exact (h4 j hj1 o l hl').frame fun k hk=>hwb k (hG0 j o k hk).2
  | true =>
    obtain ⟨cells,h1,h2,h3⟩:=hob
    have hcells : cells=cells0:=ownsRow_one h1 hown0
    subst hcells
    refine ⟨fp id,?_⟩
    have hst : ∀ k,stbOf S.objs fp w k→stbOf ((id,Ob.row t (xs.set i y) true)::S1.objs) (upd fp id (fp id)) (w.setRow g cur') k∧(w.setRow g cur').heap[k]? = w.heap[k]? := fun k hk=>by
      refine ⟨⟨by simpa using hk.1,fun j ob hj => ?_⟩,hwb k fun e=>hk.2 id _ hoS (by rw [e]; exact hFg)⟩
      rw [lk_cons] at hj
      by_cases e : j=id
      · subst e; rw [upd_same]; exact hk.2 j _ hoS
      · rw [if_neg e] at hj; rw [upd_ne _ _ e]; exact hk.2 j ob (g2 j ob hj)
    have hG : ∀ o k,G o k→stbOf ((id,Ob.row t (xs.set i y) true)::S1.objs) (upd fp id (fp id)) (w.setRow g cur') k∧(w.setRow g cur').heap[k]? = w.heap[k]? := fun o k hk=>by
      obtain ⟨q1,q2,q3⟩:=hGst o k hk
      refine ⟨⟨by simpa using q2,fun j ob hj => ?_⟩,hwb k fun e=>q1 (by rw [e]; exact hFg)⟩
      rw [lk_cons] at hj
      by_cases e : j=id
      · subst e; rw [upd_same]; exact q1
      · rw [if_neg e] at hj; rw [upd_ne _ _ e]; exact q3 j ob hj
    refine hs.turnRow g2 ho hlen (F' := fp id) (fun k hk => .inl hk) (below_setRow g cur' hgw) (fun k hk=>hwb k fun e=>hk (by rw [e]; exact hFg)) ?_ hbox (fun t v h=>by rw [← g1]; exact hundeep _ t v h) S1.base
    refine ⟨_,by rw [hlen,hq]; exact hown',h2,fun j z hz o l hl' => ?_⟩
    have hj : j<xs.length:=by have:=idx_lt hz; simpa using this
    by_cases hji : j=i
    · subst hji
      have hzy : z=y:=by simp [hj] at hz; exact hz.symm
      subst hzy
      obtain ⟨ho',hor⟩:=hency o l hl'
      rw [hget j o hj ho']
      rcases hor with ⟨q1,q2,q3⟩ | ⟨q1,q2⟩
      · rw [if_pos ⟨rfl,q1,q2⟩]
        have:=(g6 _ l q3).2
        refine (this.frame fun k hk => ?_).mono fun k hk => ?_
        · exact hk.elim (fun h=>(hst k h).2) fun h=>(hG _ k h).2
        · exact hk.elim (fun h=>(hst k h).1) fun h=>(hG _ k h).1
      · rw [if_neg (by simp; omega)]
        exact ((h3 j x hx o l q2).frame fun k hk=>(hst k hk).2).mono fun k hk=>(hst k hk).1
    · have hz' : xs[j]? = some z:=by rw [List.getElem?_set_ne (fun e=>hji e.symm)] at hz; exact hz
      rw [hget j o hj (enc_lt hl'),if_neg (by simp [hji])]
      exact ((h3 j z hz' o l hl').frame fun k hk=>(hst k hk).2).mono fun k hk=>(hst k hk).1

theorem s_store (hX : XOk P X) (hs : Sim X.K w0 nt S β fp a w) {t : TypeId} {x y : Operand} (h : ev X ⟨dst,.store t x y,ty,pos,aft,gd⟩ S k=some r) : Goal P X w0 nt k r Q ⟨dst,.store t x y,ty,pos,aft,gd⟩ a w:=by
  simp only [ev] at h
  split at h
  · rename_i tk id off v ht hx hv
    obtain ⟨hf,h⟩:=cond_some h
    obtain ⟨hf1,hf2⟩:=fits_ok hf
    split at h
    · rename_i ls ho
      obtain ⟨hb,h⟩:=cond_some h
      have hb:=Nat.le_of_ble_eq_true hb
      obtain ⟨b,h1,h2⟩:=sv_one (opd_ok hs hx)
      have hc:=sv_cells (opdT_ok hs hv) hf2
      obtain ⟨w',hr,hs'⟩:=store_box (P:=P) hs ho hc (by rw [hf1]; exact hb) h1
      refine wp_skip (w' := w') ?_ ⟨_,⟨β,fp,hs'.drop dst undef⟩,h⟩
      have hsz : (a.eval y).cells.size=tk.size:=by rw [← hf1,← hc.1]; simp
      simp only [execOp,Instr.storeAt,h2,Instr.sureAddr,Sem.run_bind,Sem.run_pure,Result.andThen_ok,run_storeVar (hX.tk _ _ ht) hsz]
      rw [hr]
      rfl
    · cases h
  · rename_i tk id i off v ht hx hv
    obtain ⟨hf,h⟩:=cond_some h
    obtain ⟨hf1,hf2⟩:=fits_ok hf
    split at h
    · rename_i ls S' b hab
      split at h
      · rename_i t1 xs sh ho
        obtain ⟨hbs,h⟩:=cond_some' h
        cases hx' : xs[i]? with
        | none=>rw [hx'] at h; cases h
        | some z =>
          rw [hx'] at h
          simp only [Option.bind_some] at h
          split at h
          · rename_i z' hdec
            obtain ⟨hb,h⟩:=cond_some h
            obtain ⟨hdp,h⟩:=cond_some' h
            have hb:=Nat.le_of_ble_eq_true hb
            have hc:=sv_cells (opdT_ok hs hv) hf2
            obtain ⟨p,w',h2,hr,F',hs'⟩:=store_row (P:=P) hs (sv_one (opd_ok hs hx)) hc hab ho hbs hx' hdec (by rw [hf1]; exact hb) hdp
            refine wp_skip (w' := w') ?_ ⟨_,⟨β,_,hs'.drop dst undef⟩,h⟩
            have hsz : (a.eval y).cells.size=tk.size:=by rw [← hf1,← hc.1]; simp
            simp only [execOp,Instr.storeAt,h2,Instr.sureAddr,Sem.run_bind,Sem.run_pure,Result.andThen_ok,run_storeVar (hX.tk _ _ ht) hsz]
            rw [hr]
            rfl
          · cases h
      · cases h
    · cases h
  · cases h
end
end Go.Proofs.Ytakakoogpmhhkaa.Ab

/- The abstract machine,part 12: rows are made,filled,appended to. -/
set_option linter.unusedVariables false
set_option linter.unusedSimpArgs false
set_option linter.unusedSectionVars false
namespace Go.Proofs.Ytakakoogpmhhkaa.Ab
open Go Go.RowKit

section
variable {Ty : Type} [DecidableEq Ty] {C : Ty→Type}
variable {P : Program} {X : Cx C} {w0 w : World} {nt : Nat} {S : St C} {β : Nat→Value} {fp : Nat→Nat→Prop} {a : Act} {R : Type} {k : St C→Option R} {r : R}
variable {dst : Option Tmp} {ty : TypeId} {pos : String} {aft : Array Edge} {gd : Option (Nat×Bool)} {Q : Exit→Act→World→Prop}

/-- The blocks of what has left the state. -/
def Left' (S : St C) (fp : Nat→Nat→Prop) (O1 : Objs C) (k : Nat) : Prop := ∃ j ob,lk S.objs j=some ob∧lk O1 j=none∧fp j k

theorem left_not {K : Cd C} (h : Sim K w0 nt S β fp a w) {O1 : Objs C} (hO : ∀ j ob,lk O1 j=some ob→lk S.objs j=some ob) {j : Nat} {ob : Ob C} (hj : lk O1 j=some ob) {k : Nat} (hk : fp j k) : ¬ Left' S fp O1 k:=by
  rintro ⟨j',ob',h1,h2,h3⟩
  have:=h.disj j j' ob ob' k (hO j ob hj) h1 hk h3
  subst this
  rw [hj] at h2; cases h2

/-- What has left the state becomes something new. -/
theorem stb_reown {K : Cd C} (h : Sim K w0 nt S β fp a w) {O1 : Objs C} (hO : ∀ j ob,lk O1 j=some ob→lk S.objs j=some ob) {w' : World} (hsz : w.heap.size≤w'.heap.size) (hb : ∀ k,k<w.heap.size → ¬ Left' S fp O1 k→w'.heap[k]? = w.heap[k]?)
    {id : Nat} {ob : Ob C} {F : Nat→Prop} (hF : ∀ k,F k→Left' S fp O1 k∨w.heap.size≤k) {k : Nat} (hk : stbOf S.objs fp w k) :
    stbOf ((id,ob)::O1) (upd fp id F) w' k∧w'.heap[k]? = w.heap[k]? := by
  have hnl : ¬ Left' S fp O1 k:=fun ⟨j,ob',h1,_,h3⟩=>hk.2 j ob' h1 h3
  refine ⟨⟨Nat.lt_of_lt_of_le hk.1 hsz,fun j ob' hj => ?_⟩,hb k hk.1 hnl⟩
  rw [lk_cons] at hj
  by_cases e : j=id
  · subst e
    rw [upd_same]
    intro hf
    rcases hF k hf with h1 | h1
    · exact hnl h1
    · have:=hk.1; omega
  · rw [if_neg e] at hj
    rw [upd_ne _ _ e]
    exact hk.2 j ob' (hO j ob' hj)
theorem keeps_reown {K : Cd C} (h : Sim K w0 nt S β fp a w) {O1 : Objs C} (hO : ∀ j ob,lk O1 j=some ob→lk S.objs j=some ob) {w' : World} (hb : ∀ k,k<w.heap.size → ¬ Left' S fp O1 k→w'.heap[k]? = w.heap[k]?)
    {id : Nat} {ob : Ob C} {hv : Value} {F : Nat→Prop} {i : Nat} (hne : i≠id) : Keeps w w' S.objs ((id,ob)::O1) β (upd β id hv) fp (upd fp id F) i:=by
  refine ⟨upd_ne _ _ hne,fun t xs sh hj => ?_⟩
  rw [lk_cons,if_neg hne] at hj
  exact ⟨hO _ _ hj,fun k hk=>⟨by rw [upd_ne _ _ hne]; exact hk,hb k (h.fresh i _ k (hO _ _ hj) hk).2 (left_not h hO hj hk)⟩⟩

theorem Sim.reown {K : Cd C} (h : Sim K w0 nt S β fp a w) {O1 : Objs C} (hO : ∀ j ob,lk O1 j=some ob→lk S.objs j=some ob) {w' : World} (hw : Below w0.heap.size w w') (hb : ∀ k,k<w.heap.size → ¬ Left' S fp O1 k→w'.heap[k]? = w.heap[k]?)
    {id : Nat} (hid : id ∉ idsE0 S.env∧id ∉ idsO O1) {ob : Ob C} {hv : Value} {F : Nat→Prop} (hF : ∀ k,F k→Left' S fp O1 k∨(w.heap.size≤k∧k<w'.heap.size))
    (hob : ObOk K w' w0.heap.size ((id,ob)::O1) (upd β id hv) (upd fp id F) (stbOf ((id,ob)::O1) (upd fp id F) w') F ob hv) (bs : Nat) :
    Sim K w0 nt ⟨S.env,(id,ob)::O1,bs⟩ (upd β id hv) (upd fp id F) a w' := by
  have hst:=fun k hk=>stb_reown h hO hw.size hb (id:=id) (ob:=ob) (F:=F) (fun k hk=>(hF k hk).imp (fun h=>h) fun h=>h.1) (k:=k) hk
  have hsz0:=h.below.size
  have hFi : ∀ k,F k → ∀ j ob',lk O1 j=some ob' → ¬ fp j k:=fun k hk j ob' hj hjk=>by
    rcases hF k hk with h1 | h1
    · exact left_not h hO hj hjk h1
    · have:=(h.fresh j ob' k (hO _ _ hj) hjk).2; omega
  refine ⟨h.below.trans hw,h.defers,h.size,fun j ob' k ho hk => ?_,fun i j oi oj k hi hj hki hkj => ?_,fun j ob' ho => ?_,fun t v ht => ?_⟩
  · rw [lk_cons] at ho
    by_cases e : j=id
    · subst e
      rw [upd_same] at hk
      have:=hw.size
      rcases hF k hk with ⟨j',ob1,h1,h2,h3⟩ | h1
      · have:=h.fresh j' ob1 k h1 h3; omega
      · omega
    · rw [if_neg e] at ho
      rw [upd_ne _ _ e] at hk
      have:=h.fresh j ob' k (hO _ _ ho) hk
      have:=hw.size
      omega
  · rw [lk_cons] at hi hj
    by_cases ei : i=id <;> by_cases ej : j=id
    · rw [ei,ej]
    · subst ei
      rw [if_neg ej] at hj
      rw [upd_same] at hki
      rw [upd_ne _ _ ej] at hkj
      exact absurd hkj (hFi k hki j oj hj)
    · subst ej
      rw [if_neg ei] at hi
      rw [upd_same] at hkj
      rw [upd_ne _ _ ei] at hki
      exact absurd hki (hFi k hkj i oi hi)
    · rw [if_neg ei] at hi
      rw [if_neg ej] at hj
      rw [upd_ne _ _ ei] at hki
      rw [upd_ne _ _ ej] at hkj
      exact h.disj i j oi oj k (hO _ _ hi) (hO _ _ hj) hki hkj
  · rw [lk_cons] at ho
    by_cases e : j=id
    · subst e
      rw [if_pos rfl] at ho
      cases ho
      rw [upd_same,upd_same]
      exact hob
    · rw [if_neg e] at ho
      rw [upd_ne _ _ e,upd_ne _ _ e]
      exact (h.objs j ob' (hO _ _ ho)).tr hst (fun k hk=>hb k (h.fresh j ob' k (hO _ _ ho) hk).2 (left_not h hO ho hk)) fun kd ls els i hi=>keeps_reown h hO hb fun ei=>hid.2 (by subst ei; exact (mem_idsO ho).2 kd ls els i hi)
  · exact (h.env t v ht).tr hst fun i hi=>keeps_reown h hO hb fun ei=>hid.1 (by subst ei; exact mem_idsE ht hi)

theorem below_grown {w0 : World} {row : Option Nat} {w' : World} (h : w.grownBy w' row) (hr : ∀ g,row=some g→w0.heap.size≤g) (hsz : w0.heap.size≤w.heap.size) : Below w0.heap.size w w' :=
  ⟨h.os,h.tape,h.output,h.size,fun k hk=>h.block k (by omega) fun e=>by have:=hr k e.symm; omega⟩

theorem own_lower {b b' : Nat} {e : TypeId} {s n : Nat} {v : Value} {cs : List Value} (h : w.ownsRow b e s v n cs) (hb : b' ≤ b) : w.ownsRow b' e s v n cs:=by
  obtain ⟨h1,h2⟩:=h
  refine ⟨h1,?_⟩
  rcases h2 with h2 | ⟨g,cap,cur,rfl,hg,r⟩
  · exact .inl h2
  · exact .inr ⟨g,cap,cur,rfl,Nat.le_trans hb hg,r⟩
theorem owns_lt {b : Nat} {e : TypeId} {s n : Nat} {v : Value} {cs : List Value} (h : w.ownsRow b e s v n cs) {g : Nat} (hg : v.ownBlock=some g) : b≤g∧g<w.heap.size:=h.lt g hg

theorem s_makeSlice (hX : XOk P X) (hs : Sim X.K w0 nt S β fp a w) (hd : slot dst nt) {t : TypeId} {x y : Operand} (h : ev X ⟨dst,.makeSlice t x y,ty,pos,aft,gd⟩ S k=some r) : Goal P X w0 nt k r Q ⟨dst,.makeSlice t x y,ty,pos,aft,gd⟩ a w:=by
  simp only [ev] at h
  cases hz0 : isZeroC x with
  | true =>
    rw [hz0] at h
    simp only [cond_true] at h
    split at h
    case h_2=>cases h
    rename_i t1 km m ht hy
    obtain ⟨h0,hB⟩:=cond_some h
    obtain ⟨h1,hC⟩:=cond_some hB
    clear h hB
    have h0:=of_decide_eq_true h0
    have h1:=of_decide_eq_true h1
    split at hC
    case h_2=>cases hC
    rename_i S' hadd
    have hx : ∃ kn,a.eval x = .int kn 0:=by
      unfold isZeroC at hz0
      split at hz0
      · rename_i kn n
        have:=of_decide_eq_true hz0
        subst this
        exact ⟨kn,rfl⟩
      · cases hz0
    obtain ⟨kn,hx⟩:=hx
    obtain ⟨hn,rfl⟩:=add_some hadd
    have hy:=opd_ok hs hy
    simp only [SVOk,LfOk] at hy
    obtain ⟨i,z,hi,hsz,hby,hpos,hz,hzs,hzl⟩:=hX.el t1
    obtain ⟨n',rfl⟩ : ∃ n' : Nat,m=n' := ⟨m.toNat,by omega⟩
    have hb : n' * X.K.bytes t1≤140737488355328:=by
      have : ((n' * X.K.bytes t1 : Nat) : Int)≤140737488355328:=by rw [Int.natCast_mul]; exact h1
      omega
    have hn' : n' ≤ 140737488355328:=Nat.le_trans (Nat.le_mul_of_pos_right _ hpos) hb
    obtain ⟨w',hr,hown,hg⟩:=run_make_own (P:=P) w w.heap.size t (X.K.tid t1) i z (X.K.sz t1) (hX.tk _ _ ht).sli hi hz hsz kn km n' (by rw [hby,Nat.mul_comm]; omega) (by simp only [maxLen]; omega) (Nat.le_refl _)
    have hsz0:=hs.below.size
    have hw : Below w.heap.size w w' := below_grown (w0:=w) hg (fun g e=>by cases e) (Nat.le_refl _)
    have hlt:=owns_lt hown (g:=w.heap.size) rfl
    have h2:=hs.addNew hw hn (ob := .row t1 [] false) (hv := .slice (some ⟨w.heap.size,0,none⟩) 0 n') (F:=fun k=>k=w.heap.size) (fun k hk=>⟨by omega,by omega⟩)
      (.row _ t1 [] _ [] (fun _ _ _=>False) (own_lower hown hsz0) (fun g hg=>by simp [Value.ownBlock] at hg; omega) (fun _ _ _ h=>h.elim) (fun _ _ _ _ _ h=>h.elim) (fun j hj=>absurd hj (by simp)))
    refine wp_value (v := .slice (some ⟨w.heap.size,0,none⟩) 0 n') (w' := w') ?_ (next_put h2 hd (v := .one (.ref _ [])) ⟨rfl,(upd_same _ _ _).symm⟩ hC)
    simp only [execOp,hx,hy,Sem.run_bind,hr,Result.andThen_ok,Sem.run_pure]
  | false =>
  rw [hz0] at h
  simp only [cond_false] at h
  split at h
  · rename_i t1 kn n km m ht hx hy
    obtain ⟨e,hA⟩:=cond_some h
    obtain ⟨h0,hB⟩:=cond_some hA
    obtain ⟨h1,hC⟩:=cond_some hB
    clear h hA hB
    have e:=of_decide_eq_true e
    have h0:=of_decide_eq_true h0
    have h1:=of_decide_eq_true h1
    subst e
    have h:=hC
    clear hC
    split at h
    · rename_i S' hadd
      obtain ⟨hn,rfl⟩:=add_some hadd
      have hx:=opd_ok hs hx
      have hy:=opd_ok hs hy
      simp only [SVOk,LfOk] at hx hy
      obtain ⟨i,z,hi,hsz,hby,hpos,hz,hzs,hzl⟩:=hX.el t1
      obtain ⟨n',rfl⟩ : ∃ n' : Nat,n=n' := ⟨n.toNat,by omega⟩
      have hb : n' * X.K.bytes t1≤140737488355328:=by
        have : ((n' * X.K.bytes t1 : Nat) : Int)≤140737488355328:=by rw [Int.natCast_mul]; exact h1
        omega
      have hn' : n' ≤ 140737488355328:=Nat.le_trans (Nat.le_mul_of_pos_right _ hpos) hb
      obtain ⟨w',hr,hown,hg⟩:=run_make_full (P:=P) w w.heap.size t (X.K.tid t1) i z (X.K.sz t1) (hX.tk _ _ ht).sli hi hz hsz kn km n' (by rw [hby,Nat.mul_comm]; omega) (by simp only [maxLen]; omega) (Nat.le_refl _)
      have hsz0:=hs.below.size
      have hw : Below w.heap.size w w' := below_grown (w0:=w) hg (fun g e=>by cases e) (Nat.le_refl _)
      have hlt:=owns_lt hown (g:=w.heap.size) rfl
      have hcell : ∀ j i',j<n' → i' < X.K.sz t1→(madeCells z.cells (n' * X.K.sz t1)).toList.getD (j*X.K.sz t1+i') undef=z.cells.getD i' undef:=fun j i' hj hi' => by
        have hm : j*X.K.sz t1+i' < n' * X.K.sz t1:=cell_in hj hi'
        have hmod : (j*X.K.sz t1+i') % X.K.sz t1=i' := by rw [Nat.add_comm,Nat.add_mul_mod_self_right,Nat.mod_eq_of_lt hi']
        simp [madeCells,List.getD,hm,hzs,hmod,getElem!_def,Array.getD_eq_getD_getElem?,hi']
      have h2:=hs.addNew hw hn (ob := .row t1 (List.replicate n' (X.K.zero t1)) false) (hv := .slice (some ⟨w.heap.size,0,none⟩) n' n') (F:=fun k=>k=w.heap.size) (fun k hk=>⟨by omega,by omega⟩)
        (.row _ t1 _ _ (madeCells z.cells (n' * X.K.sz t1)).toList (fun _ _ _=>False) (by simpa using own_lower hown hsz0) (fun g hg=>by simp [Value.ownBlock] at hg; omega) (fun _ _ _ h=>h.elim) (fun _ _ _ _ _ h=>h.elim) (fun j hj i' l hl=>by
          have hj' : j<n' := by simpa using hj
          have hl : (X.K.enc t1 (X.K.zero t1))[i']? = some l:=by simpa using hl
          rw [hcell j i' hj' (enc_lt hl)]
          exact hzl i' l hl w' _ _))
      refine wp_value (v := .slice (some ⟨w.heap.size,0,none⟩) n' n') (w' := w') ?_ (next_put h2 hd (v := .one (.ref _ [])) ⟨rfl,(upd_same _ _ _).symm⟩ (by simpa using h))
      simp only [execOp,hx,hy,Sem.run_bind,hr,Result.andThen_ok,Sem.run_pure]
    · cases h
  · cases h

/-- append,whatever is handed. -/
theorem append_run {t e : TypeId} {base : Nat} {i : TypeInfo} {z : Value} {size bytes : Nat} (ht : P.underlying t=some (.slice e)) (hi : P.info? e=some i) (hz : i.zero=some z) (hsize : i.size=size) (hby : i.bytes=bytes) (hzs : z.cells.size=size) (hsz : 0<size)
    {v : Value} {n : Nat} {cs : List Value} (hown : w.ownsRow base e size v n cs) {A : Option Addr} {m c : Nat} {f : Nat→Value} (hA : 0<m → ∃ p,A=some p ∧ ∀ j,j<m*size→w.cell? (p.add j)=some (f j)) (h1 : ∀ j,j<m*size→(f j).oneCell' = true)
    (h63 : n+m≤maxLen) (hbytes : (n+m)*bytes≤140737488355328) (hbase : base≤w.heap.size) {ty : TypeId} :
    ∃ v' w',(Builtin.append_ #[t,t] ty #[v,.slice A m c]).run P w = .ok v' w' ∧ w'.ownsRow base e size v' (n+m) (cs++(List.range (m*size)).map f)∧w.grownBy w' v.ownBlock∧(v'.ownBlock=v.ownBlock∨v'.ownBlock=some w.heap.size):=by
  cases A with
  | some p =>
    have hnews : ∀ j u,((List.range (m*size)).map f)[j]? = some u→w.cell? (p.add j)=some u:=fun j u hu=>by
      simp only [List.getElem?_map,Option.map_eq_some_iff] at hu
      obtain ⟨j',hj,rfl⟩:=hu
      have hlt:=idx_lt hj
      simp only [List.length_range] at hlt
      have : j' = j:=by simp [hlt] at hj; exact hj.symm
      subst this
      have hm : 0<m:=by
        rcases Nat.eq_zero_or_pos m with h | h
        · subst h; simp at hlt
        · exact h
      obtain ⟨p',e,hc⟩:=hA hm
      cases e
      exact hc _ hlt
    obtain ⟨v',w',q1,q2,q3,_,q4⟩:=run_append_own_at (P:=P) w base t ty e i z size bytes ht hi hz hsize hby hzs hsz v n cs hown p m c ((List.range (m*size)).map f) (by simp) hnews
      (fun u hu=>by
        obtain ⟨j,hj,rfl⟩:=List.mem_map.1 hu
        exact h1 j (by simpa using hj)) h63 hbytes hbase
    exact ⟨v',w',q1,q2,q3,q4⟩
  | none =>
    have hm : m=0:=by
      rcases Nat.eq_zero_or_pos m with h | h
      · exact h
      · obtain ⟨p,e,_⟩:=hA h; cases e
    subst hm
    refine ⟨v,w,?_,by simpa using hown,⟨rfl,rfl,rfl,Nat.le_refl _,fun _ _ _=>rfl⟩,.inl rfl⟩
    rcases hown.2 with ⟨rfl,rfl⟩ | ⟨g,cap,cur,rfl,_,_,hnc,_⟩
    · simp [Builtin.append_,run_underlying ht,sizeOf,typeInfo,hi,Builtin.lenOf,Builtin.firstCells]
    · simp [Builtin.append_,run_underlying ht,sizeOf,typeInfo,hi,Builtin.lenOf,Builtin.firstCells,hnc,storeCells]
end
end Go.Proofs.Ytakakoogpmhhkaa.Ab

/- The abstract machine,part 13: append. -/
set_option linter.unusedVariables false
set_option linter.unusedSimpArgs false
set_option linter.unusedSectionVars false
namespace Go.Proofs.Ytakakoogpmhhkaa.Ab
open Go Go.RowKit

section
variable {Ty : Type} [DecidableEq Ty] {C : Ty→Type}
variable {P : Program} {X : Cx C} {w0 w : World} {nt : Nat} {S : St C} {β : Nat→Value} {fp : Nat→Nat→Prop} {a : Act} {R : Type} {k : St C→Option R} {r : R}
variable {dst : Option Tmp} {ty : TypeId} {pos : String} {aft : Array Edge} {gd : Option (Nat×Bool)} {Q : Exit→Act→World→Prop}

/-- A row's elements: G: the blocks of the rows inside; D: all that it has. -/
def Elems (K : Cd C) (w : World) (base : Nat) (stb D : Nat→Prop) (t : Ty) (xs : List (C t)) (own : Option Nat) (val : Nat→Value) (sh : Bool) : Prop :=
  ∃ G : Nat→Nat→Nat→Prop,(∀ j i k,G j i k→D k∧own≠some k)∧(∀ j i j' i' k,G j i k→G j' i' k→j=j' ∧ i=i') ∧
    ∀ (j : Nat) (x : C t),xs[j]? = some x → ∀ (i : Nat) (l : Lf C),(K.enc t x)[i]? = some l→(sh=false→Own K w base (G j i) l (val (j*K.sz t+i)))∧Rep K w (fun k=>stb k∨G j i k) l (val (j*K.sz t+i))

theorem elems_nil {K : Cd C} {base : Nat} {stb D : Nat→Prop} {t : Ty} {own : Option Nat} {val : Nat→Value} {sh : Bool} : Elems K w base stb D t [] own val sh :=
  ⟨fun _ _ _=>False,fun _ _ _ h=>h.elim,fun _ _ _ _ _ h=>h.elim,fun j x h=>by simp at h⟩

theorem ob_elems {K : Cd C} {base : Nat} {objs : Objs C} {stb F : Nat→Prop} {t : Ty} {xs : List (C t)} {sh : Bool} {v : Value} (h : ObOk K w base objs β fp stb F (.row t xs sh) v) :
    ∃ cs,w.ownsRow base (K.tid t) (K.sz t) v xs.length cs∧(∀ g,v.ownBlock=some g→F g)∧Elems K w base stb F t xs v.ownBlock (fun m=>cs.getD m undef) sh:=by
  cases sh with
  | false=>cases h with
    | row _ _ _ _ cells G h h1 h2 h3 h4 =>
      refine ⟨cells,h,h1,G,h2,h3,fun j x hx i l hl => ?_⟩
      have hj:=idx_lt hx
      have hxe : xs[j]=x:=by simpa [List.getElem?_eq_getElem hj] using hx
      have:=h4 j hj i l (by rw [hxe]; exact hl)
      exact ⟨fun _=>this,this.rep.mono fun k hk => .inr hk⟩
  | true =>
    obtain ⟨cells,h1,h2,h3⟩:=h
    exact ⟨cells,h1,fun g hg=>(h2 g).2 hg,fun _ _ _=>False,fun _ _ _ h=>h.elim,fun _ _ _ _ _ h=>h.elim,fun j x hx i l hl=>⟨(fun h=>by cases h),(h3 j x hx i l hl).mono fun k hk => .inl hk⟩⟩

/-- What is handed to an append. -/
def Handed (K : Cd C) (w : World) (base : Nat) (stb D : Nat→Prop) (t : Ty) (ys : List (C t)) (v : Value) (sh : Bool) : Prop :=
  ∃ A c f,v = .slice A ys.length c∧(0<ys.length → ∃ p,A=some p ∧ ∀ j,j<ys.length*K.sz t→w.cell? (p.add j)=some (f j))∧Elems K w base stb D t ys v.ownBlock f sh

theorem handed_ob {K : Cd C} {base : Nat} {objs : Objs C} {stb F : Nat→Prop} {t : Ty} {xs : List (C t)} {sh : Bool} {v : Value} (h : ObOk K w base objs β fp stb F (.row t xs sh) v) : Handed K w base stb F t xs v sh:=by
  obtain ⟨cs,h1,h2,h3⟩:=ob_elems h
  obtain ⟨A,c,e,hA⟩:=owns_head h1
  refine ⟨A,c,fun m=>cs.getD m undef,e,fun hp => ?_,h3⟩
  obtain ⟨g,cap,e',_,_,hc⟩:=own_at h1 (Nat.mul_pos hp (K.pos t))
  rw [e] at e'
  cases e'
  exact ⟨_,rfl,hc⟩
theorem handed_row {K : Cd C} {base : Nat} {stb : Nat→Prop} {t : Ty} {xs : List (C t)} {v : Value} (h : Rep K w stb (.row t xs) v) : Handed K w base stb (fun _=>False) t xs v true:=by
  cases h with
  | row _ _ A c p U hc hA hcell hrep =>
    refine ⟨A,c,U,rfl,fun hp => ?_,fun _ _ _=>False,fun _ _ _ h=>h.elim,fun _ _ _ _ _ h=>h.elim,fun j x hx i l hl=>⟨(fun h=>by cases h),?_⟩⟩
    · have hne:=List.length_pos_iff.1 hp
      exact ⟨p,(hA hne).1,hcell hne⟩
    · have hj:=idx_lt hx
      have hxe : xs[j]=x:=by simpa [List.getElem?_eq_getElem hj] using hx
      exact (hrep j hj i l (by rw [hxe]; exact hl)).mono fun k hk => .inl hk
theorem handed_nil {K : Cd C} {base : Nat} {stb : Nat→Prop} {t : Ty} {sh : Bool} : Handed K w base stb (fun _=>False) t ([] : List (C t)) (.slice none 0 0) sh :=
  ⟨none,0,fun _=>undef,rfl,fun h=>absurd h (by simp),elems_nil⟩
theorem handed_one {K : Cd C} {base : Nat} {stb D : Nat→Prop} {t : Ty} {ys : List (C t)} {own : Option Nat} {f : Nat→Value} {sh : Bool} (h : Elems K w base stb D t ys own f sh) : ∀ m,m<ys.length*K.sz t→(f m).oneCell' = true:=by
  obtain ⟨G,_,_,h⟩:=h
  intro m hm
  have hj : m / K.sz t<ys.length:=Nat.div_lt_of_lt_mul (by rw [Nat.mul_comm]; exact hm)
  have hi : m % K.sz t<K.sz t:=Nat.mod_lt _ (K.pos t)
  have hi' : m % K.sz t<(K.enc t ys[m / K.sz t]).length:=by rw [K.enc_len]; exact hi
  have:=(h (m / K.sz t) ys[m / K.sz t] (by simp [hj]) (m % K.sz t) (K.enc t ys[m / K.sz t])[m % K.sz t] (by simp [hi'])).2.one
  rwa [Nat.mul_comm,Nat.div_add_mod] at this

theorem flat_own {K : Cd C} {t : Ty} (hf : K.flat t=true) {x : C t} {i : Nat} {l : Lf C} (hl : (K.enc t x)[i]? = some l) {F : Nat→Prop} {v : Value} (h : Rep K w F l v) {w' : World} {base : Nat} {G : Nat→Prop} : Own K w' base G l v:=by
  cases h with
  | int=>exact .int ..
  | bool=>exact .bool ..
  | str=>exact .str ..
  | fnc=>exact .fnc ..
  | row t' ys=>exact absurd (List.mem_of_getElem? hl) (K.enc_flat t hf x t' ys)

theorem handed_flat {K : Cd C} {base : Nat} {stb : Nat→Prop} {t : Ty} {xs : List (C t)} {v : Value} {F : Nat→Prop} (hf : K.flat t=true) (h : Rep K w F (.row t xs) v) : Handed K w base stb (fun _=>False) t xs v false:=by
  cases h with
  | row _ _ A c p U hc hA hcell hrep =>
    refine ⟨A,c,U,rfl,fun hp => ?_,fun _ _ _=>False,fun _ _ _ h=>h.elim,fun _ _ _ _ _ h=>h.elim,fun j x hx i l hl => ?_⟩
    · have hne:=List.length_pos_iff.1 hp
      exact ⟨p,(hA hne).1,hcell hne⟩
    · have hj:=idx_lt hx
      have hxe : xs[j]=x:=by simpa [List.getElem?_eq_getElem hj] using hx
      have hr:=hrep j hj i l (by rw [hxe]; exact hl)
      have ho : Own K w base (fun _=>False) l (U (j*K.sz t+i)):=flat_own hf hl hr
      exact ⟨fun _=>ho,ho.rep.mono fun k hk => .inr hk⟩

theorem getD_cat {cs : List Value} {n m : Nat} {f : Nat→Value} (hc : cs.length=n) (i : Nat) : (cs++(List.range m).map f).getD i undef=if i<n then cs.getD i undef else if i<n+m then f (i - n) else undef:=by
  rw [List.getD_eq_getElem?_getD]
  by_cases h : i<n
  · rw [List.getElem?_append_left (by omega),if_pos h,List.getD_eq_getElem?_getD]
  · rw [List.getElem?_append_right (by omega),if_neg h,hc]
    by_cases h2 : i<n+m
    · rw [if_pos h2]; simp [show i - n<m by omega]
    · rw [if_neg h2]; simp [show ¬ i - n<m by omega]

theorem cat_get {α : Type} {xs ys : List α} {j : Nat} {x : α} (h : (xs++ys)[j]? = some x) : (j<xs.length∧xs[j]? = some x)∨(xs.length≤j∧ys[j - xs.length]? = some x):=by
  by_cases hj : j<xs.length
  · rw [List.getElem?_append_left hj] at h; exact .inl ⟨hj,h⟩
  · rw [List.getElem?_append_right (by omega)] at h; exact .inr ⟨by omega,h⟩

/-- Where an element of the new row comes from. -/
def fromB {α : Type} (xs ys : List α) (j : Nat) (x : α) : Sum Nat Nat→Prop
  | .inl a=>xs[a]? = some x
  | .inr a=>ys[a]? = some x
/-- The new row out of the old one and what is handed. -/
theorem cat_obS {K : Cd C} {base : Nat} {stb D0 D1 : Nat→Prop} {t : Ty} {xs ys zs : List (C t)} {own0 own1 : Option Nat} {cs cells : List Value} {f : Nat→Value} {sh0 sh1 sh : Bool} (σ : Nat→Sum Nat Nat)
    (h0 : Elems K w base stb D0 t xs own0 (fun m=>cs.getD m undef) sh0) (h1 : Elems K w base stb D1 t ys own1 f sh1) (hd : ∀ k,D0 k → ¬ D1 k)
    (hσ : ∀ j j',j<zs.length→j' < zs.length→σ j=σ j' → j=j')
    (hz : ∀ j x,zs[j]? = some x→fromB xs ys j x (σ j) ∧ ∀ i,i<K.sz t→cells.getD (j*K.sz t+i) undef=(match σ j with | .inl a=>cs.getD (a*K.sz t+i) undef | .inr a=>f (a*K.sz t+i)))
    {w' : World} {v' : Value} (hown : w'.ownsRow base (K.tid t) (K.sz t) v' zs.length cells)
    (hv : ∀ g,v'.ownBlock=some g→(own0=some g∨(¬ D0 g)) ∧ ¬ D1 g)
    (hw : ∀ k,(D0 k∨D1 k∨stb k)→own0≠some k→w'.heap[k]? = w.heap[k]?)
    (hst0 : ∀ k,stb k→own0≠some k)
    (hsh : sh=cond (K.flat t) false (sh0||sh1)) {objs : Objs C} {stb' : Nat→Prop} (hst : ∀ k,stb k→stb' k) (hnew : ∀ k,sh=true→(D0 k∨D1 k)→v'.ownBlock≠some k→own0≠some k→stb' k) (h01 : ∀ g,own0=some g→D0 g) :
    ObOk K w' base objs β fp stb' (cond sh (fun g=>v'.ownBlock=some g) (fun k=>v'.ownBlock=some k∨D0 k∨D1 k)) (.row t zs sh) v' := by
  obtain ⟨G0,a1,a2,a3⟩:=h0
  obtain ⟨G1,b1,b2,b3⟩:=h1
  have n0 : ∀ j i k,G0 j i k→own0≠some k:=fun j i k hk=>(a1 j i k hk).2
  have n1 : ∀ j i k,G1 j i k→own0≠some k:=fun j i k hk e=>hd k (h01 k e) (b1 j i k hk).1
  cases hsh' : sh with
  | false =>
    rw [hsh'] at hsh
    rw [cond_false]
    refine .row _ t zs v' _ (fun j i k=>cond (K.flat t) False (j<zs.length∧match σ j with | .inl a=>G0 a i k | .inr a=>G1 a i k)) hown (fun g hg => .inl hg) (fun j i k hk => ?_) (fun j i j' i' k hk hk' => ?_) (fun j hj i l hl => ?_)
    · cases hf : K.flat t with
      | true=>rw [hf] at hk; exact hk.elim
      | false =>
        rw [hf,cond_false] at hk
        have hk:=hk.2
        split at hk
        · exact ⟨.inr (.inl (a1 _ i k hk).1),fun e=>by
            rcases (hv k e).1 with h | h
            · exact n0 _ i k hk h
            · exact h (a1 _ i k hk).1⟩
        · exact ⟨.inr (.inr (b1 _ i k hk).1),fun e=>(hv k e).2 (b1 _ i k hk).1⟩
    · cases hf : K.flat t with
      | true=>rw [hf] at hk; exact hk.elim
      | false =>
        rw [hf,cond_false] at hk hk'
        obtain ⟨hj,hk⟩:=hk
        obtain ⟨hj',hk'⟩:=hk'
        split at hk <;> split at hk'
        · rename_i e _ _ e'
          have:=a2 _ i _ i' k hk hk'
          exact ⟨hσ j j' hj hj' (by rw [e,e',this.1]),this.2⟩
        · exact absurd (b1 _ i' k hk').1 (hd k (a1 _ i k hk).1)
        · exact absurd (b1 _ i k hk).1 (hd k (a1 _ i' k hk').1)
        · rename_i e _ _ e'
          have:=b2 _ i _ i' k hk hk'
          exact ⟨hσ j j' hj hj' (by rw [e,e',this.1]),this.2⟩
    · have hx : zs[j]? = some zs[j]:=by simp
      obtain ⟨hz1,hz2⟩:=hz j _ hx
      rw [hz2 i (enc_lt hl)]
      cases e : σ j with
      | inl a =>
        rw [e] at hz1
        have hh:=a3 a _ hz1 i l hl
        cases hf : K.flat t with
        | true=>exact flat_own hf hl hh.2
        | false =>
          rw [hf,cond_false] at hsh
          have hs0 : sh0=false:=by cases sh0 <;> simp at hsh ⊢
          refine ((hh.1 hs0).frame fun k hk=>hw k (.inl (a1 a i k hk).1) (n0 a i k hk)).mono fun k hk => ?_
          exact ⟨hj,hk⟩
      | inr a =>
        rw [e] at hz1
        have hh:=b3 a _ hz1 i l hl
        cases hf : K.flat t with
        | true=>exact flat_own hf hl hh.2
        | false =>
          rw [hf,cond_false] at hsh
          have hs1 : sh1=false:=by cases sh1 <;> simp at hsh ⊢
          refine ((hh.1 hs1).frame fun k hk=>hw k (.inr (.inl (b1 a i k hk).1)) (n1 a i k hk)).mono fun k hk => ?_
          exact ⟨hj,hk⟩
  | true =>
    rw [cond_true]
    refine ⟨_,hown,fun g=>Iff.rfl,fun j x hx i l hl => ?_⟩
    obtain ⟨hz1,hz2⟩:=hz j x hx
    rw [hz2 i (enc_lt hl)]
    cases e : σ j with
    | inl a =>
      rw [e] at hz1
      have hh:=(a3 a _ hz1 i l hl).2
      refine (hh.frame fun k hk => ?_).mono fun k hk => ?_
      · rcases hk with h | h
        · exact hw k (.inr (.inr h)) (hst0 k h)
        · exact hw k (.inl (a1 a i k h).1) (n0 a i k h)
      · rcases hk with h | h
        · exact hst k h
        · refine hnew k hsh' (.inl (a1 a i k h).1) (fun e => ?_) (n0 a i k h)
          rcases (hv k e).1 with h' | h'
          · exact n0 a i k h h'
          · exact h' (a1 a i k h).1
    | inr a =>
      rw [e] at hz1
      have hh:=(b3 a _ hz1 i l hl).2
      refine (hh.frame fun k hk => ?_).mono fun k hk => ?_
      · rcases hk with h | h
        · exact hw k (.inr (.inr h)) (hst0 k h)
        · exact hw k (.inr (.inl (b1 a i k h).1)) (n1 a i k h)
      · rcases hk with h | h
        · exact hst k h
        · exact hnew k hsh' (.inr (b1 a i k h).1) (fun e=>(hv k e).2 (b1 a i k h).1) (n1 a i k h)

theorem cat_ob {K : Cd C} {base : Nat} {stb D0 D1 : Nat→Prop} {t : Ty} {xs ys : List (C t)} {own0 own1 : Option Nat} {cs : List Value} {f : Nat→Value} {sh0 sh1 sh : Bool}
    (h0 : Elems K w base stb D0 t xs own0 (fun m=>cs.getD m undef) sh0) (h1 : Elems K w base stb D1 t ys own1 f sh1) (hd : ∀ k,D0 k → ¬ D1 k) (hcs : cs.length=xs.length*K.sz t)
    {w' : World} {v' : Value} (hown : w'.ownsRow base (K.tid t) (K.sz t) v' (xs.length+ys.length) (cs++(List.range (ys.length*K.sz t)).map f))
    (hv : ∀ g,v'.ownBlock=some g→(own0=some g∨(¬ D0 g)) ∧ ¬ D1 g)
    (hw : ∀ k,(D0 k∨D1 k∨stb k)→own0≠some k→w'.heap[k]? = w.heap[k]?)
    (hst0 : ∀ k,stb k→own0≠some k)
    (hsh : sh=cond (K.flat t) false (sh0||sh1)) {objs : Objs C} {stb' : Nat→Prop} (hst : ∀ k,stb k→stb' k) (hnew : ∀ k,sh=true→(D0 k∨D1 k)→v'.ownBlock≠some k→own0≠some k→stb' k) (h01 : ∀ g,own0=some g→D0 g) :
    ObOk K w' base objs β fp stb' (cond sh (fun g=>v'.ownBlock=some g) (fun k=>v'.ownBlock=some k∨D0 k∨D1 k)) (.row t (xs++ys) sh) v' := by
  refine cat_obS (fun j=>if j<xs.length then .inl j else .inr (j - xs.length)) h0 h1 hd (fun j j' hj hj' e => ?_) (fun j x hx => ?_) (by simpa using hown) hv hw hst0 hsh hst hnew h01
  · skip
    split at e <;> split at e
    · cases e; rfl
    · cases e
    · cases e
    · injection e with e; omega
  · skip
    rcases cat_get hx with ⟨hj,hx⟩ | ⟨hj,hx⟩
    · rw [if_pos hj]
      refine ⟨hx,fun i hi => ?_⟩
      rw [getD_cat hcs,if_pos (cell_in hj hi)]
    · rw [if_neg (by omega)]
      refine ⟨hx,fun i hi => ?_⟩
      have hj2:=idx_lt hx
      have e : j*K.sz t+i=xs.length*K.sz t+((j - xs.length)*K.sz t+i):=by
        rw [← Nat.add_assoc,← Nat.add_mul]; congr 2; omega
      have h3:=cell_in hj2 hi
      rw [getD_cat hcs,e,if_neg (by omega),if_pos (by omega)]
      congr 1; omega

theorem lk_delO {S : St C} {id : Option Nat} {j : Nat} {ob : Ob C} (h : lk (delO S id).objs j=some ob) : lk S.objs j=some ob∧id≠some j:=by
  cases id with
  | none=>exact ⟨h,by simp⟩
  | some i =>
    simp only [delO,St.delObj,lk_rm] at h
    split at h
    · cases h
    · rename_i e; exact ⟨h,fun e' => e (by cases e'; rfl)⟩
theorem lk_delO_none {S : St C} {id : Option Nat} {j : Nat} (h : lk (delO S id).objs j=none) : lk S.objs j=none∨id=some j:=by
  cases id with
  | none=>exact .inl h
  | some i =>
    simp only [delO,St.delObj,lk_rm] at h
    split at h
    · rename_i e; exact .inr (by rw [e])
    · exact .inl h
theorem delO_env {S : St C} {id : Option Nat} : (delO S id).env=S.env:=by cases id <;> rfl

/-- The blocks of a row that may be there. -/
def ofId (fp : Nat→Nat→Prop) : Option Nat→Nat→Prop
  | none,_=>False
  | some id,k=>fp id k

theorem put_get {α : Type} {l m : List α} {p : Nat} (hp : p≤l.length) (q : Nat) : (l.take p++m++l.drop p)[q]? = if q<p then l[q]? else if q<p+m.length then m[q - p]? else l[q - m.length]? := by
  have h1 : (l.take p).length=p:=by simp; omega
  by_cases hq : q<p
  · rw [if_pos hq,List.append_assoc,List.getElem?_append_left (by omega),List.getElem?_take,if_pos hq]
  · rw [if_neg hq]
    by_cases h2 : q<p+m.length
    · rw [if_pos h2,List.getElem?_append_left (by simp; omega),List.getElem?_append_right (by omega),h1]
    · rw [if_neg h2,List.getElem?_append_right (by simp; omega),List.getElem?_drop]
      congr 1; simp; omega
theorem catAt_len {α : Type} {at_ : Option Nat} {xs ys : List α} (h : ∀ i,at_=some i→i≤xs.length) : (catAt at_ xs ys).length=xs.length+ys.length:=by
  cases at_ with
  | none=>simp [catAt]
  | some i=>have:=h i rfl; simp [catAt]; omega
/-- The cells of a row with another one put in. -/
def catCs (at_ : Option Nat) (sz : Nat) (cs gs : List Value) : List Value:=catAt (at_.map (· * sz)) cs gs

theorem cat_obA {K : Cd C} {base : Nat} {stb D0 D1 : Nat→Prop} {t : Ty} {xs ys : List (C t)} {own0 own1 : Option Nat} {cs : List Value} {f : Nat→Value} {sh0 sh1 sh : Bool} {at_ : Option Nat} (hat : ∀ i,at_=some i→i≤xs.length)
    (h0 : Elems K w base stb D0 t xs own0 (fun m=>cs.getD m undef) sh0) (h1 : Elems K w base stb D1 t ys own1 f sh1) (hd : ∀ k,D0 k → ¬ D1 k) (hcs : cs.length=xs.length*K.sz t)
    {w' : World} {v' : Value} (hown : w'.ownsRow base (K.tid t) (K.sz t) v' (xs.length+ys.length) (catCs at_ (K.sz t) cs ((List.range (ys.length*K.sz t)).map f)))
    (hv : ∀ g,v'.ownBlock=some g→(own0=some g∨(¬ D0 g)) ∧ ¬ D1 g)
    (hw : ∀ k,(D0 k∨D1 k∨stb k)→own0≠some k→w'.heap[k]? = w.heap[k]?)
    (hst0 : ∀ k,stb k→own0≠some k)
    (hsh : sh=cond (K.flat t) false (sh0||sh1)) {objs : Objs C} {stb' : Nat→Prop} (hst : ∀ k,stb k→stb' k) (hnew : ∀ k,sh=true→(D0 k∨D1 k)→v'.ownBlock≠some k→own0≠some k→stb' k) (h01 : ∀ g,own0=some g→D0 g) :
    ObOk K w' base objs β fp stb' (cond sh (fun g=>v'.ownBlock=some g) (fun k=>v'.ownBlock=some k∨D0 k∨D1 k)) (.row t (catAt at_ xs ys) sh) v' := by
  cases at_ with
  | none=>exact cat_ob h0 h1 hd hcs hown hv hw hst0 hsh hst hnew h01
  | some p =>
    have hp:=hat p rfl
    have hps : p*K.sz t≤cs.length:=by rw [hcs]; exact Nat.mul_le_mul_right _ hp
    have hlen:=catAt_len (ys:=ys) hat
    refine cat_obS (fun j=>if j<p then .inl j else if j<p+ys.length then .inr (j - p) else .inl (j - ys.length)) h0 h1 hd (fun j j' hj hj' e => ?_) (fun j x hx => ?_) (by rw [hlen]; exact hown) hv hw hst0 hsh hst hnew h01
    · skip
      split at e <;> split at e <;> (try split at e) <;> (try split at e) <;> first | (cases e; done) | (injection e with e; omega) | (cases e; rfl)
    · skip
      simp only [catAt] at hx
      rw [put_get hp] at hx
      have hcell : ∀ i,i<K.sz t→(catCs (some p) (K.sz t) cs ((List.range (ys.length*K.sz t)).map f)).getD (j*K.sz t+i) undef=if j*K.sz t+i<p*K.sz t then cs.getD (j*K.sz t+i) undef else if j*K.sz t+i<p*K.sz t+ys.length*K.sz t then f (j*K.sz t+i - p*K.sz t) else cs.getD (j*K.sz t+i - ys.length*K.sz t) undef:=fun i hi=>by
        simp only [catCs,Option.map_some,catAt]
        rw [List.getD_eq_getElem?_getD,put_get hps]
        simp only [List.length_map,List.length_range]
        split
        · rw [List.getD_eq_getElem?_getD]
        · split
          · simp [show j*K.sz t+i - p*K.sz t<ys.length*K.sz t by omega]
          · rw [List.getD_eq_getElem?_getD]
      by_cases c1 : j<p
      · rw [if_pos c1] at hx ⊢
        refine ⟨hx,fun i hi => ?_⟩
        rw [hcell i hi,if_pos (cell_in c1 hi)]
      · have e1 : p*K.sz t≤j*K.sz t:=Nat.mul_le_mul_right _ (by omega)
        rw [if_neg c1] at hx ⊢
        by_cases c2 : j<p+ys.length
        · rw [if_pos c2] at hx ⊢
          refine ⟨hx,fun i hi => ?_⟩
          have h3:=cell_in c2 hi
          rw [Nat.add_mul] at h3
          rw [hcell i hi,if_neg (by omega),if_pos h3]
          show _=f ((j - p)*K.sz t+i)
          congr 1; rw [Nat.sub_mul]; omega
        · rw [if_neg c2] at hx ⊢
          refine ⟨hx,fun i hi => ?_⟩
          have e2 : (p+ys.length)*K.sz t≤j*K.sz t:=Nat.mul_le_mul_right _ (by omega)
          rw [Nat.add_mul] at e2
          rw [hcell i hi,if_neg (by omega),if_neg (by omega)]
          show _=cs.getD ((j - ys.length)*K.sz t+i) undef
          congr 1; rw [Nat.sub_mul]; omega

theorem apnd_next (hX : XOk P X) (hs : Sim X.K w0 nt S β fp a w) (hd : slot dst nt) {at_ : Option Nat} {o : Oper} (ho : o.dst=dst) {t t0 t1 : Ty} {xs : List (C t0)} {ys : List (C t1)} {id0 id1 : Option Nat} {sh0 sh1 : Bool} {v v1 : Value}
    (h : apnd at_ X o S t t0 t1 xs ys id0 id1 (sh0||sh1) k=some r) (hne : ∀ i,id0=some i→id1≠some i) (hat : ∀ i,at_=some i→i≤xs.length)
    (hb : ∃ cs,w.ownsRow w0.heap.size (X.K.tid t0) (X.K.sz t0) v xs.length cs∧(∀ g,v.ownBlock=some g→ofId fp id0 g)∧Elems X.K w w0.heap.size (stbOf S.objs fp w) (ofId fp id0) t0 xs v.ownBlock (fun m=>cs.getD m undef) sh0)
    (hl0 : ∀ i,id0=some i → ∃ ob,lk S.objs i=some ob) (hl1 : ∀ i,id1=some i → ∃ ob,lk S.objs i=some ob)
    (hh : Handed X.K w w0.heap.size (stbOf S.objs fp w) (ofId fp id1) t1 ys v1 sh1) (hv1 : ∀ i g,id1=some i→v1.ownBlock=some g→fp i g) :
    ∃ (cs : List Value) (A : Option Addr) (c : Nat) (f : Nat→Value),t0=t∧t1=t∧w.ownsRow w0.heap.size (X.K.tid t0) (X.K.sz t0) v xs.length cs∧v1 = .slice A ys.length c ∧
      (0<ys.length → ∃ p,A=some p ∧ ∀ j,j<ys.length*X.K.sz t0→w.cell? (p.add j)=some (f j))∧(∀ m,m<ys.length*X.K.sz t0→(f m).oneCell' = true)∧(∀ m,m<xs.length*X.K.sz t0→(cs.getD m undef).oneCell' = true) ∧
      (xs.length+ys.length)*X.K.bytes t0≤140737488355328∧(∀ g,v.ownBlock=some g→v1.ownBlock≠some g∨id1=none) ∧
      ∀ v' w',w'.ownsRow w0.heap.size (X.K.tid t0) (X.K.sz t0) v' (xs.length+ys.length) (catCs at_ (X.K.sz t0) cs ((List.range (ys.length*X.K.sz t0)).map f))→w.grownBy w' v.ownBlock→(v'.ownBlock=v.ownBlock ∨ ∀ g,v'.ownBlock=some g→w.heap.size≤g) →
        Next X.K w0 nt k r (a.put dst v') w' := by
  unfold apnd at h
  split at h
  · rename_i xs' ys' hx hy
    unfold castT at hx hy
    split at hx
    · rename_i e _
      subst e
      split at hy
      · rename_i e' _
        have e2:=e'.symm
        subst e2
        cases hx
        cases hy
        obtain ⟨hbd,h⟩:=cond_some h
        have hbd:=of_decide_eq_true hbd
        split at h
        · rename_i S' hadd
          obtain ⟨hn,rfl⟩:=add_some hadd
          obtain ⟨i,z,hi,hsz,hby,hpos,hz,hzs,hzl⟩:=hX.el t0
          obtain ⟨cs,hown,hv0,hel0⟩:=hb
          obtain ⟨A,c,f,rfl,hA,hel1⟩:=hh
          have hdis0 : ∀ g,v.ownBlock=some g→(Value.slice A ys.length c).ownBlock≠some g∨id1=none:=fun g hg=>by
            cases e1 : id1 with
            | none=>exact .inr rfl
            | some j =>
              refine .inl fun hg1 => ?_
              have h1:=hv1 j g e1 hg1
              have h0:=hv0 g hg
              cases e0 : id0 with
              | none=>rw [e0] at h0; exact h0
              | some i0 =>
                rw [e0] at h0
                obtain ⟨ob,hob⟩:=hl0 i0 e0
                obtain ⟨ob',hob'⟩:=hl1 j e1
                have:=hs.disj i0 j ob ob' g hob hob' h0 h1
                subst this
                exact hne i0 e0 e1
          refine ⟨cs,A,c,f,rfl,rfl,hown,rfl,hA,handed_one hel1,handed_one (f:=fun m=>cs.getD m undef) hel0,hbd,hdis0,fun v' w' q2 q3 q4 => ?_⟩
          have hO : ∀ j ob,lk (delO (delO S id0) id1).objs j=some ob→lk S.objs j=some ob:=fun j ob hj=>(lk_delO (lk_delO hj).1).1
          have hgone : ∀ i,id0=some i∨id1=some i→lk (delO (delO S id0) id1).objs i=none:=fun i hi=>by
            cases e : lk (delO (delO S id0) id1).objs i with
            | none=>rfl
            | some ob =>
              have h1:=lk_delO e
              have h2:=lk_delO h1.1
              rcases hi with hi | hi
              · exact absurd hi h2.2
              · exact absurd hi h1.2
          have hleft0 : ∀ k,ofId fp id0 k→Left' S fp (delO (delO S id0) id1).objs k:=fun k hk=>by
            cases e : id0 with
            | none=>rw [e] at hk; exact hk.elim
            | some i =>
              obtain ⟨ob,hob⟩:=hl0 i e
              rw [e] at hk
              exact ⟨i,ob,hob,by rw [← e]; exact hgone i (.inl e),hk⟩
          have hleft1 : ∀ k,ofId fp id1 k→Left' S fp (delO (delO S id0) id1).objs k:=fun k hk=>by
            cases e : id1 with
            | none=>rw [e] at hk; exact hk.elim
            | some i =>
              obtain ⟨ob,hob⟩:=hl1 i e
              rw [e] at hk
              exact ⟨i,ob,hob,by rw [← e]; exact hgone i (.inr e),hk⟩
          have hdis : ∀ k,ofId fp id0 k → ¬ ofId fp id1 k:=fun k h0 h1=>by
            cases e0 : id0 with
            | none=>rw [e0] at h0; exact h0
            | some i =>
              cases e1 : id1 with
              | none=>rw [e1] at h1; exact h1
              | some j =>
                rw [e0] at h0
                rw [e1] at h1
                obtain ⟨ob,hob⟩:=hl0 i e0
                obtain ⟨ob',hob'⟩:=hl1 j e1
                have:=hs.disj i j ob ob' k hob hob' h0 h1
                subst this
                exact hne i e0 e1
          have hlt : ∀ k,(ofId fp id0 k∨ofId fp id1 k∨stbOf S.objs fp w k)→k<w.heap.size:=fun k hk=>by
            rcases hk with h | h | h
            · obtain ⟨j,ob,h1,h2,h3⟩:=hleft0 k h; exact (hs.fresh j ob k h1 h3).2
            · obtain ⟨j,ob,h1,h2,h3⟩:=hleft1 k h; exact (hs.fresh j ob k h1 h3).2
            · exact h.1
          have hnst : ∀ k,stbOf S.objs fp w k → ¬ Left' S fp (delO (delO S id0) id1).objs k:=fun k hk ⟨j,ob,h1,_,h3⟩=>hk.2 j ob h1 h3
          have hvb : ∀ g,v'.ownBlock=some g→(v.ownBlock=some g ∨ ¬ ofId fp id0 g) ∧ ¬ ofId fp id1 g:=fun g hg=>by
            rcases q4 with q4 | q4
            · rw [q4] at hg
              exact ⟨.inl hg,hdis g (hv0 g hg)⟩
            · have q5:=q4 g hg
              exact ⟨.inr fun h=>absurd (hlt _ (.inl h)) (by omega),fun h=>absurd (hlt _ (.inr (.inl h))) (by omega)⟩
          have hsz0:=hs.below.size
          have hown2 : ∀ g,v.ownBlock=some g→w0.heap.size≤g∧g<w.heap.size:=fun g hg=>owns_lt hown hg
          have hw : Below w0.heap.size w w' := below_grown (w0:=w0) q3 (fun g e=>(hown2 g e).1) hsz0
          have hcs : cs.length=xs.length*X.K.sz t0:=hown.1
          let sh:=cond (X.K.flat t0) false (sh0||sh1)
          let F : Nat→Prop:=cond sh (fun g=>v'.ownBlock=some g) (fun k=>v'.ownBlock=some k∨ofId fp id0 k∨ofId fp id1 k)
          have hFv : ∀ g,v'.ownBlock=some g→Left' S fp (delO (delO S id0) id1).objs g∨(w.heap.size≤g∧g<w'.heap.size):=fun g hg=>by
            have hl:=owns_lt q2 hg
            rcases q4 with q4 | q4
            · rw [q4] at hg; exact .inl (hleft0 g (hv0 g hg))
            · exact .inr ⟨q4 g hg,hl.2⟩
          have hF : ∀ k,F k→Left' S fp (delO (delO S id0) id1).objs k∨(w.heap.size≤k∧k<w'.heap.size):=fun k hk=>by
            cases e : sh with
            | true=>simp only [F,e,cond_true] at hk; exact hFv k hk
            | false =>
              simp only [F,e,cond_false] at hk
              rcases hk with h | h | h
              · exact hFv k h
              · exact .inl (hleft0 k h)
              · exact .inl (hleft1 k h)
          have hbl : ∀ k,k<w.heap.size→v.ownBlock≠some k→w'.heap[k]? = w.heap[k]? := fun k hk hne=>q3.block k hk fun e=>hne e.symm
          have hst:=fun k hk=>stb_reown hs hO hw.size (fun k hk hnl=>hbl k hk fun e=>hnl (hleft0 k (hv0 k e))) (id:=newId X S o) (ob := .row t0 (catAt at_ xs ys) sh) (F:=F) (fun k hk=>(hF k hk).imp (fun h=>h) fun h=>h.1) (k:=k) hk
          have hob : ObOk X.K w' w0.heap.size ((newId X S o,.row t0 (catAt at_ xs ys) sh)::(delO (delO S id0) id1).objs) (upd β (newId X S o) v') (upd fp (newId X S o) F) (stbOf ((newId X S o,.row t0 (catAt at_ xs ys) sh)::(delO (delO S id0) id1).objs) (upd fp (newId X S o) F) w') F (.row t0 (catAt at_ xs ys) sh) v' :=
            cat_obA hat hel0 hel1 hdis hcs q2 hvb (fun k hk hne=>hbl k (hlt k hk) hne) (fun k hk e=>(hnst k hk) (hleft0 k (hv0 k e))) rfl (fun k hk=>(hst k hk).1)
              (fun k hs1 hk hne1 hne2=>by
                have hk' : Left' S fp (delO (delO S id0) id1).objs k:=hk.elim (hleft0 k) (hleft1 k)
                have hkl:=hlt k (hk.imp (fun h=>h) .inl)
                refine ⟨Nat.lt_of_lt_of_le hkl hw.size,fun j ob' hj => ?_⟩
                rw [lk_cons] at hj
                by_cases e : j=newId X S o
                · rw [e,upd_same]
                  show ¬ (cond sh (fun g=>v'.ownBlock=some g) (fun k=>v'.ownBlock=some k∨ofId fp id0 k∨ofId fp id1 k)) k
                  have hs1' : sh=true:=hs1
                  rw [hs1']
                  exact hne1
                · rw [if_neg e] at hj
                  rw [upd_ne _ _ e]
                  intro hk2
                  exact left_not hs hO hj hk2 hk') hv0
          have h2:=hs.reown hO hw (fun k hk hnl=>hbl k hk fun e=>hnl (hleft0 k (hv0 k e))) (id:=newId X S o) (by
            have:=hn
            unfold Unnamed at this
            rw [delO_env,delO_env] at this
            exact this) (ob := .row t0 (catAt at_ xs ys) sh) (hv:=v') (F:=F) hF hob (delO (delO S id0) id1).base
          have hSe : (⟨S.env,(newId X S o,.row t0 (catAt at_ xs ys) sh)::(delO (delO S id0) id1).objs,(delO (delO S id0) id1).base⟩ : St C)=(delO (delO S id0) id1).setObj (newId X S o) (.row t0 (catAt at_ xs ys) sh):=by
            unfold St.setObj
            rw [delO_env,delO_env]
          rw [hSe] at h2
          subst ho
          refine next_put h2 hd (v := .one (.ref (newId X S o) [])) ⟨?_,(upd_same _ _ _).symm⟩ h
          obtain ⟨A',c',e,_⟩:=owns_head q2
          rw [e]; rfl
        · cases h
      · cases hy
    · cases hx
  · cases h
theorem apnd_ok (hX : XOk P X) (hs : Sim X.K w0 nt S β fp a w) (hd : slot dst nt) {o : Oper} (ho : o.dst=dst) {T : TypeId} {t t0 t1 : Ty} (hT : X.tk T=some (.one (.sli t))) {xs : List (C t0)} {ys : List (C t1)} {id0 id1 : Option Nat} {sh0 sh1 : Bool} {v v1 : Value}
    (h : apnd none X o S t t0 t1 xs ys id0 id1 (sh0||sh1) k=some r) (hne : ∀ i,id0=some i→id1≠some i)
    (hb : ∃ cs,w.ownsRow w0.heap.size (X.K.tid t0) (X.K.sz t0) v xs.length cs∧(∀ g,v.ownBlock=some g→ofId fp id0 g)∧Elems X.K w w0.heap.size (stbOf S.objs fp w) (ofId fp id0) t0 xs v.ownBlock (fun m=>cs.getD m undef) sh0)
    (hl0 : ∀ i,id0=some i → ∃ ob,lk S.objs i=some ob) (hl1 : ∀ i,id1=some i → ∃ ob,lk S.objs i=some ob)
    (hh : Handed X.K w w0.heap.size (stbOf S.objs fp w) (ofId fp id1) t1 ys v1 sh1) (hv1 : ∀ i g,id1=some i→v1.ownBlock=some g→fp i g) {ty : TypeId} :
    ∃ v' w',(Builtin.append_ #[T,T] ty #[v,v1]).run P w = .ok v' w' ∧ Next X.K w0 nt k r (a.put dst v') w' := by
  obtain ⟨cs,A,c,f,e0,e1,hown,hve,hA,h1,_,hbd,_,K⟩:=apnd_next hX hs hd ho h hne (fun i e=>by cases e) hb hl0 hl1 hh hv1
  subst e0
  subst hve
  obtain ⟨i,z,hi,hsz,hby,hpos,hz,hzs,hzl⟩:=hX.el t0
  have hlen : xs.length+ys.length≤140737488355328:=Nat.le_trans (Nat.le_mul_of_pos_right _ hpos) hbd
  obtain ⟨v',w',q1,q2,q3,q4⟩:=append_run (P:=P) (ty:=ty) (hX.tk _ _ hT).sli hi hz hsz hby hzs (X.K.pos t0) hown (m:=ys.length) (c:=c) hA h1 (by simp only [maxLen]; omega) hbd hs.below.size
  exact ⟨v',w',q1,K v' w' q2 q3 (q4.imp (fun h=>h) fun h g hg=>by rw [h] at hg; cases hg; exact Nat.le_refl _)⟩
end
end Go.Proofs.Ytakakoogpmhhkaa.Ab

/- The abstract machine,part 14: append,literals,calls. -/
set_option linter.unusedVariables false
set_option linter.unusedSimpArgs false
set_option linter.unusedSectionVars false
namespace Go.Proofs.Ytakakoogpmhhkaa.Ab
open Go Go.RowKit

section
variable {Ty : Type} [DecidableEq Ty] {C : Ty→Type}
variable {P : Program} {X : Cx C} {w0 w : World} {nt : Nat} {S : St C} {β : Nat→Value} {fp : Nat→Nat→Prop} {a : Act} {R : Type} {k : St C→Option R} {r : R}
variable {dst : Option Tmp} {ty : TypeId} {pos : String} {aft : Array Edge} {gd : Option (Nat×Bool)} {Q : Exit→Act→World→Prop}

theorem s_append (hX : XOk P X) (hs : Sim X.K w0 nt S β fp a w) (hd : slot dst nt) {as : Array Operand} {ts : Array TypeId} (h : ev X ⟨dst,.call { callee := .builtin .append,args:=as,argTypes:=ts },ty,pos,aft,gd⟩ S k=some r) : Goal P X w0 nt k r Q ⟨dst,.call { callee := .builtin .append,args:=as,argTypes:=ts },ty,pos,aft,gd⟩ a w:=by
  obtain ⟨al⟩:=as
  obtain ⟨tl⟩:=ts
  simp only [ev] at h
  split at h
  · rename_i s x t t'
    split at h
    · rename_i t1 l m ht hl hm
      obtain ⟨he,h⟩:=cond_some h
      have he:=Nat.eq_of_beq_eq_true he
      simp only [List.headD_cons] at he
      subst he
      have hl:=sv_one (opdT_ok hs hl)
      have hm:=sv_one (opdT_ok hs hm)
      have fin : ∀ {t0 t1' : Ty} {xs : List (C t0)} {ys : List (C t1')} {id0 id1 : Option Nat} {sh0 sh1 : Bool},
          apnd none X ⟨dst,.call { callee := .builtin .append,args:=⟨[s,x]⟩,argTypes:=⟨[t,t]⟩ },ty,pos,aft,gd⟩ S t1 t0 t1' xs ys id0 id1 (sh0||sh1) k=some r→(∀ i,id0=some i→id1≠some i) →
          (∃ cs,w.ownsRow w0.heap.size (X.K.tid t0) (X.K.sz t0) (a.eval s) xs.length cs∧(∀ g,(a.eval s).ownBlock=some g→ofId fp id0 g)∧Elems X.K w w0.heap.size (stbOf S.objs fp w) (ofId fp id0) t0 xs (a.eval s).ownBlock (fun m=>cs.getD m undef) sh0) →
          (∀ i,id0=some i → ∃ ob,lk S.objs i=some ob)→(∀ i,id1=some i → ∃ ob,lk S.objs i=some ob) →
          Handed X.K w w0.heap.size (stbOf S.objs fp w) (ofId fp id1) t1' ys (a.eval x) sh1→(∀ i g,id1=some i→(a.eval x).ownBlock=some g→fp i g) →
          Goal P X w0 nt k r Q ⟨dst,.call { callee := .builtin .append,args:=⟨[s,x]⟩,argTypes:=⟨[t,t]⟩ },ty,pos,aft,gd⟩ a w:=by
        intro t0 t1' xs ys id0 id1 sh0 sh1 ha hne hb h0 h1 hh hv1
        obtain ⟨v',w',hr,hn⟩:=apnd_ok (P:=P) hX hs hd (o:=⟨dst,.call { callee := .builtin .append,args:=⟨[s,x]⟩,argTypes:=⟨[t,t]⟩ },ty,pos,aft,gd⟩) rfl ht ha hne hb h0 h1 hh hv1 (ty:=ty)
        refine wp_value (v:=v') (w' := w') ?_ hn
        simp only [execOp,resolve,Sem.run_bind,Sem.run_pure,Result.andThen_ok,invoke,builtin,List.map_toArray,List.map_cons,List.map_nil]
        rw [hr]
        rfl
      have nilB : ∀ {t0 : Ty},l = .nil t0 → ∃ cs,w.ownsRow w0.heap.size (X.K.tid t0) (X.K.sz t0) (a.eval s) ([] : List (C t0)).length cs∧(∀ g,(a.eval s).ownBlock=some g→ofId fp none g)∧Elems X.K w w0.heap.size (stbOf S.objs fp w) (ofId fp none) t0 [] (a.eval s).ownBlock (fun m=>cs.getD m undef) false:=by
        intro t0 e
        subst e
        have e : a.eval s = .slice none 0 0:=hl
        rw [e]
        exact ⟨[],World.ownsRow_nil ..,fun g hg=>by simp [Value.ownBlock] at hg,elems_nil⟩
      have refB : ∀ {id0 : Nat} {t0 : Ty} {xs : List (C t0)} {sh0 : Bool},l = .ref id0 []→lk S.objs id0=some (.row t0 xs sh0) → ∃ cs,w.ownsRow w0.heap.size (X.K.tid t0) (X.K.sz t0) (a.eval s) xs.length cs∧(∀ g,(a.eval s).ownBlock=some g→ofId fp (some id0) g)∧Elems X.K w w0.heap.size (stbOf S.objs fp w) (ofId fp (some id0)) t0 xs (a.eval s).ownBlock (fun m=>cs.getD m undef) sh0:=by
        intro id0 t0 xs sh0 e ho
        subst e
        rw [hl.2]
        exact ob_elems (hs.objs id0 _ ho)
      have refH : ∀ {id1 : Nat} {t0 : Ty} {xs : List (C t0)} {sh0 : Bool},m = .ref id1 []→lk S.objs id1=some (.row t0 xs sh0)→Handed X.K w w0.heap.size (stbOf S.objs fp w) (ofId fp (some id1)) t0 xs (a.eval x) sh0:=by
        intro id0 t0 xs sh0 e ho
        subst e
        rw [hm.2]
        exact handed_ob (hs.objs id0 _ ho)
      have rowH : ∀ {t0 : Ty} {xs : List (C t0)},m = .row t0 xs→Handed X.K w w0.heap.size (stbOf S.objs fp w) (ofId fp none) t0 xs (a.eval x) true:=by
        intro t0 xs e
        subst e
        exact handed_row hm
      have nilH : ∀ {t0 : Ty},m = .nil t0→Handed X.K w w0.heap.size (stbOf S.objs fp w) (ofId fp none) t0 [] (a.eval x) false:=by
        intro t0 e
        subst e
        have e : a.eval x = .slice none 0 0:=hm
        rw [e]
        exact handed_nil
      have one : ∀ {i : Nat} {ob : Ob C},lk S.objs i=some ob → ∀ j,some i=some j → ∃ ob,lk S.objs j=some ob:=fun h j e=>by cases e; exact ⟨_,h⟩
      have non : ∀ j,(none : Option Nat)=some j → ∃ ob,lk S.objs j=some ob:=fun j e=>by cases e
      have nonV : ∀ i g,(none : Option Nat)=some i→(a.eval x).ownBlock=some g→fp i g:=fun i g e=>by cases e
      have refV : ∀ {id1 : Nat} {t0 : Ty} {xs : List (C t0)} {sh0 : Bool},m = .ref id1 []→lk S.objs id1=some (.row t0 xs sh0) → ∀ i g,some id1=some i→(a.eval x).ownBlock=some g→fp i g:=by
        intro id0 t0 xs sh0 e ho i g e' hg
        cases e'
        subst e
        rw [hm.2] at hg
        obtain ⟨_,_,h2,_⟩:=ob_elems (hs.objs id0 _ ho)
        exact h2 g hg
      have subH : ∀ {id lo hi : Nat} {t0 : Ty} {xs : List (C t0)} {sh0 : Bool},m = .sub id lo hi→lk S.objs id=some (.row t0 xs sh0)→X.K.flat t0=true→Handed X.K w w0.heap.size (stbOf S.objs fp w) (ofId fp none) t0 ((xs.take hi).drop lo) (a.eval x) false:=by
        intro id lo hi t0 xs sh0 e ho hf
        subst e
        obtain ⟨F,hr⟩:=ob_rep (hs.objs id _ ho)
        exact handed_flat hf (sub_rep hr (hm.2 t0 xs sh0 ho))
      split at h
      · rename_i t0
        split at h
        · rename_i id
          split at h
          · rename_i t1' ys sh ho
            exact fin (sh0:=false) (sh1:=sh) (by simpa using h) (fun i e=>by cases e) (nilB rfl) non (one ho) (refH rfl ho) (refV rfl ho)
          · cases h
        · rename_i id lo hi
          split at h
          · rename_i t1' ys sh ho
            obtain ⟨hf,h⟩:=cond_some h
            exact fin (sh0:=false) (sh1:=false) (by simpa using h) (fun i e=>by cases e) (nilB rfl) non non (subH rfl ho hf) nonV
          · cases h
        · exact fin (sh0:=false) (sh1:=true) (by simpa using h) (fun i e=>by cases e) (nilB rfl) non non (rowH rfl) nonV
        · exact fin (sh0:=false) (sh1:=false) (by simpa using h) (fun i e=>by cases e) (nilB rfl) non non (nilH rfl) nonV
        · cases h
      · rename_i id0
        split at h
        · rename_i t0 xs sh0 ho0
          split at h
          · rename_i id
            obtain ⟨hne,h⟩:=cond_some' h
            split at h
            · rename_i t1' ys sh ho
              refine fin (sh0:=sh0) (sh1:=sh) h (fun i e e' => ?_) (refB rfl ho0) (one ho0) (one ho) (refH rfl ho) (refV rfl ho)
              cases e
              cases e'
              simp [Nat.beq_refl] at hne
            · cases h
          · rename_i id lo hi
            split at h
            · rename_i t1' ys sh ho
              obtain ⟨hf,h⟩:=cond_some h
              exact fin (sh0:=sh0) (sh1:=false) (by simpa using h) (fun i e=>by simp) (refB rfl ho0) (one ho0) non (subH rfl ho hf) nonV
            · cases h
          · exact fin (sh0:=sh0) (sh1:=true) (by simpa using h) (fun i e=>by simp) (refB rfl ho0) (one ho0) non (rowH rfl) nonV
          · exact fin (sh0:=sh0) (sh1:=false) (by simpa using h) (fun i e=>by simp) (refB rfl ho0) (one ho0) non (nilH rfl) nonV
          · cases h
        · cases h
      · cases h
    · cases h
  · cases h

/-! ### copy -/
theorem undeep_lk {id : Nat} : ∀ (E : List (Nat×SV C)) t v,lk (undeep id E) t=some v→lk E t=some v∧deepV id v=false:=by
  intro E
  induction E with
  | nil=>intro t v h; simp [undeep,lk] at h
  | cons y r ih =>
    intro t v h
    obtain ⟨n,u⟩:=y
    simp only [undeep] at h
    cases hd : deepV id u with
    | true =>
      rw [hd,cond_true] at h
      rw [lk_rm] at h
      split at h
      · cases h
      · rename_i e
        rw [lk_cons,if_neg e]
        exact ih t v h
    | false =>
      rw [hd,cond_false,lk_cons] at h
      rw [lk_cons]
      split at h
      · rename_i e; rw [if_pos e]; cases h; exact ⟨rfl,hd⟩
      · rename_i e; rw [if_neg e]; exact ih t v h
theorem deepO_lk {id : Nat} {O : Objs C} (h : O.any (fun x=>deepO id x.2)=false) {j : Nat} {kd0 : VT} {ls0 : List (Lf C)} (hj : lk O j=some (.box kd0 ls0)) : ls0.any (deepL id)=false:=by
  induction O with
  | nil=>simp [lk] at hj
  | cons y r ih =>
    obtain ⟨n,u⟩:=y
    rw [lk_cons] at hj
    simp only [List.any_cons,Bool.or_eq_false_iff] at h
    split at hj
    · cases hj; exact h.1
    · exact ih h.2 hj
theorem over_len {α : Type} (xs ys : List α) : (ys.take xs.length++xs.drop ys.length).length=xs.length:=by
  simp only [List.length_append,List.length_take,List.length_drop]; omega
theorem over_get {α : Type} {xs ys : List α} {j : Nat} (hj : j<xs.length) : (ys.take xs.length++xs.drop ys.length)[j]? = if j<ys.length then ys[j]? else xs[j]? := by
  have hl : (ys.take xs.length).length=min xs.length ys.length:=by simp
  by_cases h : j<ys.length
  · rw [if_pos h,List.getElem?_append_left (by omega),List.getElem?_take,if_pos hj]
  · rw [if_neg h,List.getElem?_append_right (by omega),List.getElem?_drop]
    congr 1; omega
theorem copyTo_ok (hX : XOk P X) (hs : Sim X.K w0 nt S β fp a w) (hd : slot dst nt) {o : Oper} (ho : o.dst=dst) {T T' : TypeId} {t t1 : Ty} (hT : X.tk T=some (.one (.sli t))) {xs : List (C t)} {id : Nat} (hob : lk S.objs id=some (.row t xs false))
    {ys : List (C t1)} {v1 : Value} {D : Nat→Prop} {sh1 : Bool} (hh : Handed X.K w w0.heap.size (stbOf S.objs fp w) D t1 ys v1 sh1) (h : copyTo X o S t xs id t1 ys k=some r) :
    ∃ v' w',(Builtin.copy_ #[T,T'] ty #[β id,v1]).run P w = .ok v' w' ∧ Next X.K w0 nt k r (a.put dst v') w' := by
  unfold copyTo castT at h
  split at h
  · rename_i ys' hy
    split at hy
    · rename_i e _
      have e2:=e.symm
      subst e2
      cases hy
      obtain ⟨hf,h⟩:=cond_some h
      obtain ⟨hdeep,h⟩:=cond_some' h
      obtain ⟨i,z,hi,hsz,hby,hpos,hz,hzs,hzl⟩:=hX.el t
      have hO:=hs.objs id _ hob
      obtain ⟨cells0,hown0,hF0⟩:=ob_below hO
      obtain ⟨A,c,f,rfl,hA,hel⟩:=hh
      have hoc:=handed_one hel
      obtain ⟨A0,c0,e0,hA0⟩:=owns_head hown0
      have hu:=(hX.tk _ _ hT).sli
      have hold : ∀ (j : Nat) (hj : j<xs.length) (i : Nat) (l : Lf C),(X.K.enc t xs[j])[i]? = some l → ∃ F,Rep X.K w F l (cells0.getD (j*X.K.sz t+i) undef):=fun j hj i l hl=>by
        cases hO with
        | row _ _ _ _ cells G q0 q1 q2 q3 q4 =>
          have hc : cells=cells0:=ownsRow_one q0 hown0
          subst hc
          exact ⟨_,(q4 j hj i l hl).rep⟩
      have hnew : ∀ (j : Nat) (hj : j<ys.length) (i : Nat) (l : Lf C),(X.K.enc t ys[j])[i]? = some l → ∃ F,Rep X.K w F l (f (j*X.K.sz t+i)):=fun j hj i l hl=>by
        obtain ⟨G,_,_,q⟩:=hel
        exact ⟨_,(q j ys[j] (by simp [hj]) i l hl).2⟩
      have fin : ∀ (w' : World) (cellsN : List Value),w'.ownsRow w0.heap.size (X.K.tid t) (X.K.sz t) (β id) xs.length cellsN→Below w0.heap.size w w' → (∀ k,¬ fp id k→w'.heap[k]? = w.heap[k]?) →
          (∀ j i,j<xs.length→i<X.K.sz t→cellsN.getD (j*X.K.sz t+i) undef=if j<ys.length then f (j*X.K.sz t+i) else cells0.getD (j*X.K.sz t+i) undef) →
          Next X.K w0 nt k r (a.put dst (goInt (Nat.min ys.length xs.length))) w' := by
        intro w' cellsN hown' hw hb hcell
        have hsim : Sim X.K w0 nt ({ S.setObj id (.row t (ys.take xs.length++xs.drop ys.length) false) with env:=undeep id S.env } : St C) β (upd fp id (fp id)) a w' := by
          refine hs.turnRow (O1:=S.objs) (fun _ _ h=>h) hob (over_len xs ys) (F' := fp id) (fun k hk => .inl hk) hw hb ?_ (fun j kd ls hj=>deepO_lk hdeep hj) (undeep_lk S.env) S.base
          refine .row _ t _ _ _ (fun _ _ _=>False) (by rw [over_len]; exact hown') hF0 (fun j o k hk=>hk.elim) (fun j o j' o' k hk=>hk.elim) (fun j hj i l hl => ?_)
          have hj1 : j<xs.length:=by rw [over_len] at hj; exact hj
          have hi' := enc_lt hl
          rw [hcell j i hj1 hi']
          have hz:=over_get (xs:=xs) (ys:=ys) hj1
          rw [List.getElem?_eq_getElem hj] at hz
          by_cases hlt : j<ys.length
          · rw [if_pos hlt] at hz ⊢
            rw [List.getElem?_eq_getElem hlt] at hz
            have hze:=Option.some.inj hz
            rw [hze] at hl
            obtain ⟨F,hr⟩:=hnew j hlt i l hl
            exact flat_own hf hl hr
          · rw [if_neg hlt] at hz ⊢
            rw [List.getElem?_eq_getElem hj1] at hz
            have hze:=Option.some.inj hz
            rw [hze] at hl
            obtain ⟨F,hr⟩:=hold j hj1 i l hl
            exact flat_own hf hl hr
        subst ho
        exact next_put hsim hd (v := .one (.int .i64 (Nat.min ys.length xs.length : Nat))) (show goInt _=_ from rfl) h
      rcases Nat.eq_zero_or_pos (Nat.min ys.length xs.length) with h0 | h0
      · refine ⟨goInt (Nat.min ys.length xs.length),w,?_,fin w cells0 hown0 (Below.refl _ _) (fun _ _=>rfl) (fun j i hj hi => ?_)⟩
        · rw [e0,h0]
          have h0' : Nat.min ys.length xs.length=0:=h0
          have hfc0 : (Builtin.firstCells (X.K.sz t) 0 (.slice A ys.length c)).run P w = .ok #[] w:=by
            cases A with
            | none=>exact run_firstCells_none (P:=P) w _ _ _ _
            | some p=>exact run_firstCells_some (P:=P) w _ 0 p _ _ [] (by simp) (fun j v h=>by simp at h)
          cases A0 <;> simp [Builtin.copy_,run_underlying hu,sizeOf,typeInfo,hi,hsz,Builtin.lenOf,h0',hfc0,storeCells,Sem.run_bind]
        · rw [if_neg]
          intro hlt
          have : Nat.min ys.length xs.length=min ys.length xs.length:=rfl
          omega
      · have hmin : Nat.min ys.length xs.length=min ys.length xs.length:=rfl
        have hx0 : 0<xs.length:=by omega
        have hy0 : 0<ys.length:=by omega
        obtain ⟨g,rfl⟩:=hA0 hx0
        obtain ⟨p,rfl,hcp⟩:=hA hy0
        have hown1:=hown0
        rw [e0] at hown1
        have hmul : min ys.length xs.length*X.K.sz t≤xs.length*X.K.sz t:=Nat.mul_le_mul_right _ (Nat.min_le_right _ _)
        have hmul2 : min ys.length xs.length*X.K.sz t≤ys.length*X.K.sz t:=Nat.mul_le_mul_right _ (Nat.min_le_left _ _)
        have hfc:=run_firstCells_some (P:=P) w (X.K.sz t) (min ys.length xs.length) p ys.length c ((List.range (min ys.length xs.length*X.K.sz t)).map f) (by simp) (fun j v hv=>by
          simp only [List.getElem?_map,Option.map_eq_some_iff] at hv
          obtain ⟨j',hj,rfl⟩:=hv
          have hlt:=idx_lt hj
          simp only [List.length_range] at hlt
          have : j' = j:=by simp [hlt] at hj; exact hj.symm
          subst this
          exact hcp _ (by omega))
        obtain ⟨cur',hrun,hown'⟩:=ownsRow_store (P:=P) hown1 (m:=0) (vs:=(List.range (min ys.length xs.length*X.K.sz t)).map f) (by simp; omega) (fun v hv=>by
          obtain ⟨j,hj,rfl⟩:=List.mem_map.1 hv
          rw [List.mem_range] at hj
          exact hoc j (by omega))
        have hFg : fp id g:=hF0 g (by rw [e0]; rfl)
        refine ⟨goInt (Nat.min ys.length xs.length),w.setRow g cur',?_,fin _ _ (by rw [e0]; exact hown') (below_setRow g cur' (hs.fresh id _ g hob hFg).1) (fun k hk=>setRow_other w g k cur' fun e=>hk (by rw [e]; exact hFg)) (fun j i hj hi => ?_)⟩
        · rw [e0]
          simp only [Builtin.copy_,List.getElem?_toArray,List.getElem?_cons_zero,List.getElem?_cons_succ,Sem.run_bind,Result.andThen_ok,Sem.run_pure,run_underlying hu,sizeOf,typeInfo,hi,Builtin.lenOf,hsz]
          simp [hmin,hsz,hi,hfc,hrun,Sem.run_bind]
        · have hcl : 0+((List.range (min ys.length xs.length*X.K.sz t)).map f).length≤cells0.length:=by rw [hown0.1]; simp; omega
          have hidx : j*X.K.sz t+i<min ys.length xs.length*X.K.sz t↔j<ys.length:=by
            constructor
            · intro hlt
              have h1 : j*X.K.sz t<min ys.length xs.length*X.K.sz t:=by omega
              have:=Nat.lt_of_mul_lt_mul_right h1
              omega
            · intro hlt
              have : (j+1)*X.K.sz t≤min ys.length xs.length*X.K.sz t:=Nat.mul_le_mul_right _ (by omega)
              rw [Nat.succ_mul] at this
              omega
          rw [List.getD_eq_getElem?_getD,splice_get hcl]
          by_cases hlt : j<ys.length
          · have hl2:=hidx.2 hlt
            rw [if_neg (by omega),if_pos (by simpa using hl2),if_pos hlt]
            simp [hl2]
          · have hl2 : ¬ j*X.K.sz t+i<min ys.length xs.length*X.K.sz t:=fun hc=>hlt (hidx.1 hc)
            rw [if_neg (by omega),if_neg (by simpa using hl2),if_neg hlt,← List.getD_eq_getElem?_getD]
    · cases hy
  · cases h
theorem s_copy (hX : XOk P X) (hs : Sim X.K w0 nt S β fp a w) (hd : slot dst nt) {as : Array Operand} {ts : Array TypeId} (h : ev X ⟨dst,.call { callee := .builtin .copy,args:=as,argTypes:=ts },ty,pos,aft,gd⟩ S k=some r) : Goal P X w0 nt k r Q ⟨dst,.call { callee := .builtin .copy,args:=as,argTypes:=ts },ty,pos,aft,gd⟩ a w:=by
  obtain ⟨al⟩:=as
  obtain ⟨tl⟩:=ts
  simp only [ev] at h
  split at h
  · rename_i s x t t'
    split at h
    · rename_i t1 l m ht hl hm
      have hl:=sv_one (opdT_ok hs hl)
      have hm:=sv_one (opdT_ok hs hm)
      unfold copyV at h
      split at h
      · rename_i id _
        split at h
        · rename_i t0 xs0 ho
          unfold castT at h
          split at h
          · rename_i xs hx
            split at hx
            · rename_i e _
              have e2:=e.symm
              subst e2
              cases hx
              have fin : ∀ {t1' : Ty} {ys : List (C t1')} {D : Nat→Prop} {sh1 : Bool},copyTo X ⟨dst,.call { callee := .builtin .copy,args:=⟨[s,x]⟩,argTypes:=⟨[t,t']⟩ },ty,pos,aft,gd⟩ S t1 xs0 id t1' ys k=some r →
                  Handed X.K w w0.heap.size (stbOf S.objs fp w) D t1' ys (a.eval x) sh1→Goal P X w0 nt k r Q ⟨dst,.call { callee := .builtin .copy,args:=⟨[s,x]⟩,argTypes:=⟨[t,t']⟩ },ty,pos,aft,gd⟩ a w:=by
                intro t1' ys D sh1 hc hh
                obtain ⟨v',w',hr,hn⟩:=copyTo_ok (P:=P) (T' := t') (ty:=ty) hX hs hd (o:=⟨dst,.call { callee := .builtin .copy,args:=⟨[s,x]⟩,argTypes:=⟨[t,t']⟩ },ty,pos,aft,gd⟩) rfl ht ho hh hc
                refine wp_value (v:=v') (w' := w') ?_ hn
                have hle : a.eval s=β id:=hl.2
                rw [← hle] at hr
                simp only [execOp,resolve,Sem.run_bind,Sem.run_pure,Result.andThen_ok,invoke,builtin,List.map_toArray,List.map_cons,List.map_nil]
                rw [hr]
                rfl
              split at h
              · exact fin h (handed_row hm)
              · rename_i t2
                have e : a.eval x = .slice none 0 0:=hm
                refine fin (D:=fun _=>False) (sh1:=false) h ?_
                rw [e]
                exact handed_nil
              · rename_i i2 _
                split at h
                · rename_i t2 ys sh ho2
                  refine fin (D:=fp i2) (sh1:=sh) h ?_
                  rw [hm.2]
                  exact handed_ob (hs.objs i2 _ ho2)
                · cases h
              · cases h
            · cases hx
          · cases h
        · cases h
      · cases h
    · cases h
  · cases h
theorem s_clear (hX : XOk P X) (hs : Sim X.K w0 nt S β fp a w) {as : Array Operand} {ts : Array TypeId} (h : ev X ⟨dst,.call { callee := .builtin .clear,args:=as,argTypes:=ts },ty,pos,aft,gd⟩ S k=some r) : Goal P X w0 nt k r Q ⟨dst,.call { callee := .builtin .clear,args:=as,argTypes:=ts },ty,pos,aft,gd⟩ a w:=by
  obtain ⟨al⟩:=as
  obtain ⟨tl⟩:=ts
  simp only [ev] at h
  split at h
  case h_2=>cases h
  rename_i x T
  split at h
  case h_2=>cases h
  rename_i t1 l hT hx
  unfold clrV at h
  split at h
  case h_2=>cases h
  rename_i id lo hi
  split at h
  case h_2=>cases h
  rename_i t xs hob
  obtain ⟨hc,hB⟩:=cond_some h
  obtain ⟨hdeep,hC⟩:=cond_some' hB
  clear h hB
  have h:=hC
  clear hC
  simp only [Bool.and_eq_true,decide_eq_true_eq] at hc
  obtain ⟨e,hf⟩:=hc
  subst e
  have hxv : LfOk X.K w S.objs β fp (stbOf S.objs fp w) (.sub id lo hi) (a.eval x):=sv_one (opd_ok hs hx)
  obtain ⟨h1,h2,A0,c0,e0,hc0,ev0⟩:=hxv.2 t xs false hob
  obtain ⟨i,z,hi',hsz,hby,hpos,hz,hzs,hzl⟩:=hX.el t
  have hO:=hs.objs id _ hob
  obtain ⟨cells0,hown0,hF0⟩:=ob_below hO
  have hu:=(hX.tk _ _ hT).sli
  have hold : ∀ (j : Nat) (hj : j<xs.length) (i : Nat) (l : Lf C),(X.K.enc t xs[j])[i]? = some l → ∃ F,Rep X.K w F l (cells0.getD (j*X.K.sz t+i) undef):=fun j hj i l hl=>by
    cases hO with
    | row _ _ _ _ cells G q0 q1 q2 q3 q4 =>
      have hc : cells=cells0:=ownsRow_one q0 hown0
      subst hc
      exact ⟨_,(q4 j hj i l hl).rep⟩
  have hlen : (xs.take lo++List.replicate (hi - lo) (X.K.zero t)++xs.drop hi).length=xs.length:=by simp; omega
  have hget : ∀ j,j<xs.length→(xs.take lo++List.replicate (hi - lo) (X.K.zero t)++xs.drop hi)[j]? = if j<lo then xs[j]? else if j<hi then some (X.K.zero t) else xs[j]? := fun j hj=>by
    have hl : (xs.take lo).length=lo:=by simp; omega
    by_cases q1 : j<lo
    · rw [if_pos q1,List.append_assoc,List.getElem?_append_left (by omega),List.getElem?_take,if_pos q1]
    · rw [if_neg q1]
      by_cases q2 : j<hi
      · rw [if_pos q2,List.getElem?_append_left (by simp; omega),List.getElem?_append_right (by omega),List.getElem?_replicate,if_pos (by omega)]
      · rw [if_neg q2,List.getElem?_append_right (by simp; omega),List.getElem?_drop]
        congr 1; simp; omega
  have fin : ∀ (w' : World) (cellsN : List Value),w'.ownsRow w0.heap.size (X.K.tid t) (X.K.sz t) (β id) xs.length cellsN→Below w0.heap.size w w' → (∀ k,¬ fp id k→w'.heap[k]? = w.heap[k]?) →
      (∀ j i,j<xs.length→i<X.K.sz t→cellsN.getD (j*X.K.sz t+i) undef=if lo≤j∧j<hi then z.cells.getD i undef else cells0.getD (j*X.K.sz t+i) undef) →
      Next X.K w0 nt k r (a.put dst (.tuple #[])) w' := by
    intro w' cellsN hown' hw hb hcell
    have hsim : Sim X.K w0 nt ({ S.setObj id (.row t (xs.take lo++List.replicate (hi - lo) (X.K.zero t)++xs.drop hi) false) with env:=undeep id S.env } : St C) β (upd fp id (fp id)) a w' := by
      refine hs.turnRow (O1:=S.objs) (fun _ _ h=>h) hob hlen (F' := fp id) (fun k hk => .inl hk) hw hb ?_ (fun j kd ls hj=>deepO_lk hdeep hj) (undeep_lk S.env) S.base
      refine .row _ t _ _ _ (fun _ _ _=>False) (by rw [hlen]; exact hown') hF0 (fun j o k hk=>hk.elim) (fun j o j' o' k hk=>hk.elim) (fun j hj i l hl => ?_)
      have hj1 : j<xs.length:=by rw [hlen] at hj; exact hj
      have hi' := enc_lt hl
      rw [hcell j i hj1 hi']
      have hz:=hget j hj1
      rw [List.getElem?_eq_getElem hj] at hz
      by_cases hlt : lo≤j∧j<hi
      · rw [if_pos hlt]
        rw [if_neg (by omega),if_pos hlt.2] at hz
        have hze:=Option.some.inj hz
        rw [hze] at hl
        exact hzl i l hl _ _ _
      · rw [if_neg hlt]
        have hz' : xs[j]? = some (xs.take lo++List.replicate (hi - lo) (X.K.zero t)++xs.drop hi)[j]:=by
          rw [hz]
          by_cases q1 : j<lo
          · rw [if_pos q1]
          · rw [if_neg q1,if_neg (by omega)]
        rw [List.getElem?_eq_getElem hj1] at hz'
        have hze:=Option.some.inj hz'
        rw [← hze] at hl
        obtain ⟨F,hr⟩:=hold j hj1 i l hl
        exact flat_own hf hl hr
    exact ⟨_,⟨_,_,hsim.drop dst _⟩,h⟩
  have hrunC : ∀ (w' : World),(Builtin.clear_ #[T] ty #[a.eval x]).run P w = .ok (.tuple #[]) w' → Next X.K w0 nt k r (a.put dst (.tuple #[])) w' → Goal P X w0 nt k r Q ⟨dst,.call { callee := .builtin .clear,args:=⟨[x]⟩,argTypes:=⟨[T]⟩ },ty,pos,aft,gd⟩ a w:=fun w' hr hn=>by
    refine wp_value (v := .tuple #[]) (w' := w') ?_ hn
    simp only [execOp,resolve,Sem.run_bind,Sem.run_pure,Result.andThen_ok,invoke,builtin,List.map_toArray,List.map_cons,List.map_nil]
    rw [hr]
    rfl
  by_cases hn : hi - lo=0
  · refine hrunC w ?_ (fin w cells0 hown0 (Below.refl _ _) (fun _ _=>rfl) (fun j i hj hi=>by rw [if_neg (by omega)]))
    rw [ev0,hn]
    cases (if c0=lo then A0 else A0.map (·.add (lo*X.K.sz t))) <;> simp [Builtin.clear_,run_underlying hu]
  · obtain ⟨A,c,e1,hA⟩:=owns_head hown0
    rw [e0] at e1
    cases e1
    obtain ⟨g,rfl⟩:=hA (by omega)
    have hown1:=hown0
    rw [e0] at hown1
    have hsub : (hi - lo)*X.K.sz t=hi*X.K.sz t - lo*X.K.sz t:=Nat.sub_mul _ _ _
    have hle1 : lo*X.K.sz t≤hi*X.K.sz t:=Nat.mul_le_mul_right _ h1
    have hle2 : hi*X.K.sz t≤xs.length*X.K.sz t:=Nat.mul_le_mul_right _ h2
    have hml : (madeCells z.cells ((hi - lo)*X.K.sz t)).toList.length=(hi - lo)*X.K.sz t:=by simp [madeCells]
    have hmc : ∀ j i',j<hi - lo→i' < X.K.sz t→(madeCells z.cells ((hi - lo)*X.K.sz t)).toList.getD (j*X.K.sz t+i') undef=z.cells.getD i' undef:=fun j i' hj hi' => by
      have hm : j*X.K.sz t+i' < (hi - lo)*X.K.sz t:=cell_in hj hi'
      have hmod : (j*X.K.sz t+i') % X.K.sz t=i' := by rw [Nat.add_comm,Nat.add_mul_mod_self_right,Nat.mod_eq_of_lt hi']
      simp [madeCells,List.getD,hm,hzs,hmod,getElem!_def,Array.getD_eq_getD_getElem?,hi']
    have hone : ∀ v ∈ (madeCells z.cells ((hi - lo)*X.K.sz t)).toList,v.oneCell' = true:=fun v hv=>by
      obtain ⟨m,hm,rfl⟩:=List.getElem_of_mem hv
      rw [hml] at hm
      have hp:=X.K.pos t
      have hj : m / X.K.sz t<hi - lo:=Nat.div_lt_of_lt_mul (by rw [Nat.mul_comm]; exact hm)
      have hi1 : m % X.K.sz t<X.K.sz t:=Nat.mod_lt _ hp
      have h3:=hmc (m / X.K.sz t) (m % X.K.sz t) hj hi1
      rw [show m / X.K.sz t*X.K.sz t+m % X.K.sz t=m by rw [Nat.mul_comm]; exact Nat.div_add_mod ..] at h3
      have hi2 : m % X.K.sz t<(X.K.enc t (X.K.zero t)).length:=by rw [X.K.enc_len]; exact hi1
      have h4:=(hzl (m % X.K.sz t) (X.K.enc t (X.K.zero t))[m % X.K.sz t] (by simp [hi2]) w w0.heap.size (fun _=>False)).one
      rw [← h3,List.getD_eq_getElem?_getD,List.getElem?_eq_getElem (by rw [hml]; exact hm)] at h4
      exact h4
    obtain ⟨cur',hrun,hown'⟩:=ownsRow_store (P:=P) hown1 (m:=lo*X.K.sz t) (vs:=(madeCells z.cells ((hi - lo)*X.K.sz t)).toList) (by rw [hml]; omega) hone
    have hFg : fp id g:=hF0 g (by rw [e0]; rfl)
    refine hrunC (w.setRow g cur') ?_ (fin _ _ (by rw [e0]; exact hown') (below_setRow g cur' (hs.fresh id _ g hob hFg).1) (fun k hk=>setRow_other w g k cur' fun e=>hk (by rw [e]; exact hFg)) (fun j i hj hi9 => ?_))
    · rw [if_neg (by omega)] at ev0
      have hzr : (zeroValue (X.K.tid t)).run P w = .ok z w:=by simp [zeroValue,typeInfo,hi',hz]
      obtain ⟨m,hm⟩ : ∃ m,hi - lo=m+1:=⟨hi - lo - 1,by omega⟩
      have hzc : (Builtin.zeroCells z.cells (m+1)).toList=(madeCells z.cells ((hi - lo)*X.K.sz t)).toList:=by
        rw [hm,← hzs]; rfl
      rw [ev0,hm]
      simp only [Option.map_some,add_none,Nat.zero_add]
      simp only [Builtin.clear_,List.getElem?_toArray,List.getElem?_cons_zero,Sem.run_bind,run_underlying hu,Result.andThen_ok,hzr,hzc,hrun,Sem.run_pure]
    · have hcl : lo*X.K.sz t+(madeCells z.cells ((hi - lo)*X.K.sz t)).toList.length≤cells0.length:=by rw [hml,hown0.1]; omega
      rw [List.getD_eq_getElem?_getD,splice_get hcl,hml]
      by_cases q1 : j<lo
      · have:=cell_in q1 hi9
        rw [if_pos (by omega),if_neg (by omega),← List.getD_eq_getElem?_getD]
      · have q3 : lo*X.K.sz t≤j*X.K.sz t:=Nat.mul_le_mul_right _ (by omega)
        by_cases q2 : j<hi
        · have:=cell_in q2 hi9
          rw [if_neg (by omega),if_pos (by omega),if_pos ⟨by omega,q2⟩,← List.getD_eq_getElem?_getD,← hmc (j - lo) i (by omega) hi9]
          congr 1; rw [Nat.sub_mul]; omega
        · have q4 : hi*X.K.sz t≤j*X.K.sz t:=Nat.mul_le_mul_right _ (by omega)
          rw [if_neg (by omega),if_neg (by omega),if_neg (by omega),← List.getD_eq_getElem?_getD]
theorem own_mono' {K : Cd C} {base : Nat} {F F' : Nat→Prop} {l : Lf C} {v : Value} (h : Own K w base F l v) (hF : ∀ k,F k↔F' k) : Own K w base F' l v:=by
  have : F=F' := funext fun k=>propext (hF k)
  rw [← this]; exact h
theorem s_sliceO (hX : XOk P X) (hs : Sim X.K w0 nt S β fp a w) (hd : slot dst nt) {t : TypeId} {x : Operand} {lo hi mx : Option Operand} {t1 : Ty} {id : Nat} (hm : mx=none) (ht : X.tk t=some (.one (.sli t1))) (hx : opd S x=some (.one (.ref id [])))
    (h : sliceO X S ⟨dst,.slice t x lo hi mx,ty,pos,aft,gd⟩ t1 id lo hi k=some r) : Goal P X w0 nt k r Q ⟨dst,.slice t x lo hi mx,ty,pos,aft,gd⟩ a w:=by
  subst hm
  generalize ho : (⟨dst,.slice t x lo hi none,ty,pos,aft,gd⟩ : Oper)=o at h ⊢
  have hod : o.dst=dst:=by rw [← ho]
  subst hod
  unfold sliceO at h
  split at h
  case h_2=>cases h
  rename_i t0 xs hob
  split at h
  case h_2=>cases h
  rename_i q hq
  obtain ⟨e,hC⟩:=cond_some h
  obtain ⟨h0,hD⟩:=cond_some hC
  obtain ⟨h2,hE⟩:=cond_some hD
  clear h hC hD
  have e:=of_decide_eq_true e
  have h0:=of_decide_eq_true h0
  have h2:=of_decide_eq_true h2
  subst e
  split at hE
  case h_2=>cases hE
  rename_i S' hadd
  have h:=hE
  clear hE
  obtain ⟨hn,rfl⟩:=add_some hadd
  have hxv : LfOk X.K w S.objs β fp (stbOf S.objs fp w) (.ref id []) (a.eval x):=sv_one (opd_ok hs hx)
  have hob' : Own X.K w w0.heap.size (fp id) (.row t0 xs) (β id):=hs.objs id _ hob
  generalize hv : β id=v at hob'
  have hxe : a.eval x=v:=by rw [← hv]; exact hxv.2
  cases hob' with
  | row _ _ _ _ cells G hown hF hG hdj hn' =>
  -- the value
  obtain ⟨A,c,hve,hcl,hgc⟩ : ∃ A c,v = .slice A xs.length c∧xs.length≤c∧(A=none ∨ ∃ g,A=some ⟨g,0,none⟩):=by
    rcases hown.2 with ⟨e,e2⟩ | ⟨g,cap,cur,e,_,_,hcap,_⟩
    · exact ⟨none,0,by rw [e,e2],by omega,.inl rfl⟩
    · exact ⟨_,cap,e,hcap,.inr ⟨g,rfl⟩⟩
  have hbd:=bounds_ok (P:=P) hs (isS:=true) (lo:=none) (l:=0) rfl hq (Int.le_refl 0) h0 h2 hcl
  have hA : (if c=0 then A else A.map (·.add (0*X.K.sz t0)))=A:=by
    rcases hgc with e | ⟨g,e⟩
    · subst e; simp
    · subst e; simp [Addr.add]
  have hrun : (execOp a.eval o).run P w = .ok (.value (.slice A q.toNat c)) w:=by
    rw [← ho]
    simp only [execOp,Instr.sliceAt,Sem.run_bind,run_under (hX.tk _ _ ht).sli,Result.andThen_ok]
    have hA' := hA
    simp only [Nat.zero_mul] at hA'
    have hbd' := hbd
    simp only [Option.map_none,Int.toNat_zero] at hbd'
    simp [Instr.slice,run_under (hX.tk _ _ ht).sli,hxe,hve,hbd',(hX.el t0).size,hA']
  have hlen : (xs.take q.toNat).length=q.toNat:=by simp; omega
  have hown' : w.ownsRow w0.heap.size (X.K.tid t0) (X.K.sz t0) (.slice A q.toNat c) (xs.take q.toNat).length (cells.take (q.toNat*X.K.sz t0)):=by
    have hle : q.toNat*X.K.sz t0≤xs.length*X.K.sz t0:=Nat.mul_le_mul_right _ (by omega)
    refine ⟨by rw [hlen,List.length_take,hown.1]; omega,?_⟩
    rcases hown.2 with ⟨e,e2⟩ | ⟨g,cap,cur,e,hb,hg,hcap,hmx,hsz,hcur⟩
    · rw [hve] at e
      injection e with e1 e3 e4
      subst e1 e4
      exact .inl ⟨by rw [show q.toNat=0 by omega],by rw [hlen]; omega⟩
    · rw [hve] at e
      injection e with e1 e3 e4
      subst e1 e4
      refine .inr ⟨g,c,cur,by rw [hlen],hb,hg,by rw [hlen]; omega,hmx,hsz,?_⟩
      rw [hlen,← hcur,List.take_take,Nat.min_eq_left hle]
  have hvb : ∀ g,(Value.slice A q.toNat c).ownBlock=some g→v.ownBlock=some g:=fun g hg=>by
    rw [hve]
    cases A with
    | none=>cases hg
    | some b=>exact hg
  have hO : ∀ j ob,lk (delO S (some id)).objs j=some ob→lk S.objs j=some ob:=fun j ob hj=>(lk_delO hj).1
  have hgone : lk (delO S (some id)).objs id=none:=by
    cases e : lk (delO S (some id)).objs id with
    | none=>rfl
    | some ob=>exact absurd rfl (lk_delO e).2
  have h3:=hs.reown hO (Below.refl _ w) (fun k _ _=>rfl) (id:=newId X S o) (by
    have:=hn
    unfold Unnamed at this
    rw [delO_env] at this
    exact this) (ob := .row t0 (xs.take q.toNat) false) (hv := .slice A q.toNat c) (F:=fp id) (fun k hk => .inl ⟨id,_,hob,hgone,hk⟩)
    (by
      show Own X.K w w0.heap.size (fp id) (.row t0 (xs.take q.toNat)) (.slice A q.toNat c)
      refine .row _ _ _ _ (cells.take (q.toNat*X.K.sz t0)) (fun j i k=>j<q.toNat∧G j i k) hown' (fun g hg=>hF g (hvb g hg)) (fun j i k hk=>⟨(hG j i k hk.2).1,fun e=>(hG j i k hk.2).2 (hvb k e)⟩) (fun j i j' i' k h1 h2=>hdj j i j' i' k h1.2 h2.2) fun j hj i l hl => ?_
      have hj' : j<q.toNat:=by rw [hlen] at hj; exact hj
      have hx' : (xs.take q.toNat)[j]=xs[j]'(by omega):=by simp
      rw [hx'] at hl
      have hi : i<X.K.sz t0:=by
        have:=(List.getElem?_eq_some_iff.1 hl).1
        rw [X.K.enc_len] at this
        exact this
      have hix : j*X.K.sz t0+i<q.toNat*X.K.sz t0:=by
        have : (j+1)*X.K.sz t0≤q.toNat*X.K.sz t0:=Nat.mul_le_mul_right _ hj'
        rw [Nat.add_mul] at this
        omega
      have hcg : (cells.take (q.toNat*X.K.sz t0)).getD (j*X.K.sz t0+i) undef=cells.getD (j*X.K.sz t0+i) undef:=by
        simp only [List.getD_eq_getElem?_getD,List.getElem?_take,if_pos hix]
      rw [hcg]
      exact own_mono' (hn' j (by omega) i l hl) fun k=>⟨fun hk=>⟨hj',hk⟩,fun hk=>hk.2⟩) (delO S (some id)).base
  have hSe : (⟨S.env,(newId X S o,.row t0 (xs.take q.toNat) false)::(delO S (some id)).objs,(delO S (some id)).base⟩ : St C)=(delO S (some id)).setObj (newId X S o) (.row t0 (xs.take q.toNat) false):=by
    unfold St.setObj
    rw [delO_env]
  rw [hSe] at h3
  exact wp_value hrun (next_put h3 hd (v := .one (.ref (newId X S o) [])) ⟨rfl,(upd_same _ _ _).symm⟩ h)
end
end Go.Proofs.Ytakakoogpmhhkaa.Ab

/- The abstract machine,part 15: literals. -/
set_option linter.unusedVariables false
set_option linter.unusedSimpArgs false
set_option linter.unusedSectionVars false
namespace Go.Proofs.Ytakakoogpmhhkaa.Ab
open Go Go.RowKit

section
variable {Ty : Type} [DecidableEq Ty] {C : Ty→Type}
variable {P : Program} {X : Cx C} {w0 w : World} {nt : Nat} {S : St C} {β : Nat→Value} {fp : Nat→Nat→Prop} {a : Act} {R : Type} {k : St C→Option R} {r : R}
variable {dst : Option Tmp} {ty : TypeId} {pos : String} {aft : Array Edge} {gd : Option (Nat×Bool)} {Q : Exit→Act→World→Prop}

theorem foldl_set (off : Nat) : ∀ (vs : List Value) (n : Nat) (cs : Array Value),(vs.zipIdx n).foldl (fun cs (x : Value×Nat)=>cs.setIfInBounds (off+x.2) x.1) cs=⟨setAt cs.toList (off+n) vs⟩
  | [],n,cs=>by simp [setAt]
  | v::vs,n,cs=>by
    simp only [List.zipIdx_cons,List.foldl_cons]
    rw [foldl_set off vs (n+1)]
    simp [setAt,Nat.add_assoc]
theorem fill_one {place : Nat→Option (Nat×Nat)} {cs : Array Value} {i off n : Nat} {v : Value} {rest : List (Nat×Value)} (hp : place i=some (off,n)) (hn : v.cells.size=n) (hf : off+n≤cs.size) :
    Instr.fill place cs ((i,v)::rest)=Instr.fill place ⟨setAt cs.toList off v.cells.toList⟩ rest:=by
  have h1 : ¬ (v.cells.size≠n||off+v.cells.size>cs.size)=true:=by simp [hn]; omega
  simp only [Instr.fill,hp]
  rw [if_neg (by simpa using h1)]
  congr 1
  have:=foldl_set off v.cells.toList 0 cs
  rw [← Array.foldl_toList]
  simpa using this

/-- The cells of a struct's literal. -/
theorem parts_ok (hs : Sim X.K w0 nt S β fp a w) {fs : List (Nat×Nat×Bool)} {place : Nat→Option (Nat×Nat)} (hp : ∀ (i off n : Nat) (ag : Bool),fs[i]? = some (off,n,ag)→place i=some (off,n)) :
    ∀ (ps : List (Nat×Operand)) (ls ls' : List (Lf C)) (cs : List Value),partsOf X fs S ps ls=some ls' → (∀ (i off n : Nat) (ag : Bool),fs[i]? = some (off,n,ag)→off+n≤ls.length)→LfsOk X.K w S.objs β fp (stbOf S.objs fp w) ls cs →
      ∃ cs',Instr.fill place ⟨cs⟩ (ps.map fun (x : Nat×Operand)=>(x.1,a.eval x.2))=some ⟨cs'⟩∧LfsOk X.K w S.objs β fp (stbOf S.objs fp w) ls' cs'
  | [],ls,ls',cs,h,_,hl=>by
    simp only [partsOf,Option.some.injEq] at h
    subst h
    exact ⟨cs,rfl,hl⟩
  | (i,x)::ps,ls,ls',cs,h,hb,hl=>by
    simp only [partsOf] at h
    split at h
    · rename_i off n ag v hf hx
      obtain ⟨hc,h⟩:=cond_some h
      simp only [Bool.and_eq_true] at hc
      have h1:=Nat.eq_of_beq_eq_true hc.1
      have h2:=Nat.le_of_ble_eq_true hc.2
      have hv:=sv_cells (opd_ok hs hx) (by omega)
      have ho : off+v.leaves.length≤ls.length:=by rw [h1]; exact hb i off n ag hf
      have hl2:=lfs_splice hl hv ho
      have hcs : cs.length=ls.length:=hl.1
      have hcl : (a.eval x).cells.size=n:=by rw [← h1,← hv.1]; simp
      have e : setAt cs off (a.eval x).cells.toList=cs.take off++(a.eval x).cells.toList++cs.drop (off+(a.eval x).cells.toList.length):=setAt_eq _ _ _ (by rw [hv.1,hcs]; exact ho)
      obtain ⟨cs',q1,q2⟩:=parts_ok hs hp ps _ ls' _ h (by rw [setAt_len]; exact hb) hl2
      refine ⟨cs',?_,q2⟩
      simp only [List.map_cons]
      rw [fill_one (hp i off n ag hf) hcl (by have:=hb i off n ag hf; simp; omega)]
      simp only [e]
      exact q1
    · cases h

theorem mapM_list {α β' : Type} {g : α→Sem β'} {g' : α→β'} : ∀ (l : List α),(∀ x ∈ l,(g x).run P w = .ok (g' x) w)→(l.mapM g).run P w = .ok (l.map g') w
  | [],_=>by simp
  | x::l,h=>by
    have h1:=h x (by simp)
    have h2:=mapM_list l (fun y hy=>h y (by simp [hy]))
    simp [List.mapM_cons,h1,h2]

theorem arrFs_at {sz : Nat} {ag : Bool} : ∀ {n o i off m : Nat} {ag' : Bool},(arrFs sz ag o n)[i]? = some (off,m,ag')→off=o+i*sz∧m=sz∧i<n
  | 0,o,i,off,m,ag',h=>by simp [arrFs] at h
  | n+1,o,0,off,m,ag',h=>by simp [arrFs] at h; obtain ⟨rfl,rfl,_⟩:=h; exact ⟨by omega,rfl,by omega⟩
  | n+1,o,i+1,off,m,ag',h=>by
    simp only [arrFs,List.getElem?_cons_succ] at h
    obtain ⟨h1,h2,h3⟩:=arrFs_at h
    refine ⟨?_,h2,by omega⟩
    rw [Nat.add_mul]; omega
theorem s_build (hX : XOk P X) (hs : Sim X.K w0 nt S β fp a w) (hd : slot dst nt) {t : TypeId} {ps : Array (Nat×Operand)} (h : ev X ⟨dst,.build t ps,ty,pos,aft,gd⟩ S k=some r) : Goal P X w0 nt k r Q ⟨dst,.build t ps,ty,pos,aft,gd⟩ a w:=by
  obtain ⟨ps⟩:=ps
  simp only [ev] at h
  split at h
  · rename_i fs zs ht
    split at h
    · rename_i ls hp
      obtain ⟨hb,h⟩:=cond_some h
      obtain ⟨⟨i,h1,h2,h3⟩,fields,hu,hl,hF⟩:=hX.tk _ _ ht
      have hsz : ∀ f ∈ fields.toList,(do pure (f.offset,← sizeOf f.type) : Sem (Nat×Nat)).run P w = .ok (f.offset,((P.info? f.type).map (·.size)).getD 0) w:=by
        intro f hf
        obtain ⟨j,hj,rfl⟩:=List.getElem_of_mem hf
        have hj' : j<fs.length:=by rw [← hl]; simpa using hj
        obtain ⟨f',i',q1,q2,q3,q4,_⟩:=hF j (fs[j]).1 (fs[j]).2.1 (fs[j]).2.2 (by simp [hj'])
        have : fields.toList[j]=f' := by
          have hj2 : j<fields.size:=by simpa using hj
          rw [Array.getElem?_eq_getElem hj2] at q1
          simpa using q1
        rw [this]
        simp [sizeOf,typeInfo,q3]
      have hm:=mapM_list (P:=P) (w:=w) (g:=fun f=>(do pure (f.offset,← sizeOf f.type) : Sem (Nat×Nat))) (g' := fun f=>(f.offset,((P.info? f.type).map (·.size)).getD 0)) fields.toList hsz
      have hplace : ∀ (i off n : Nat) (ag : Bool),fs[i]? = some (off,n,ag)→((fields.toList.map fun f=>(f.offset,((P.info? f.type).map (·.size)).getD 0)).toArray)[i]? = some (off,n):=fun j off n ag hj=>by
        obtain ⟨f',i',q1,q2,q3,q4,_⟩:=hF j off n ag hj
        have q1' : fields.toList[j]? = some f' := by simpa using q1
        simp only [List.getElem?_toArray,List.getElem?_map,q1',Option.map_some,q2,q3,q4,Option.getD_some]
      obtain ⟨cs',q1,q2⟩:=parts_ok hs (place:=fun i=>((fields.toList.map fun f=>(f.offset,((P.info? f.type).map (·.size)).getD 0)).toArray)[i]?) hplace ps _ ls _ hp
        (fun i off n ag hi=>by
          have:=List.all_eq_true.1 hb (off,n,ag) (List.mem_of_getElem? hi)
          have:=Nat.le_of_ble_eq_true this
          simpa using this) (zls_ok zs)
      refine wp_value (v := .agg cs'.toArray) ?_ (next_put hs hd (v := .agg ls) ⟨cs',rfl,q2⟩ h)
      simp only [execOp,Instr.build,Sem.run_bind,zeroValue,typeInfo,run_program,h1,h3,Result.andThen_ok,Sem.run_pure,run_under hu]
      rw [Array.mapM_eq_mapM_toList]
      simp only [Sem.run_bind,Sem.run_map,hm,Result.andThen_ok]
      have : (List.map (fun x : Nat×Operand=>(x.fst,a.eval x.snd)) ps)=(Array.map (fun x : Nat×Operand=>(x.fst,a.eval x.snd)) ps.toArray).toList:=by simp
      rw [← this]
      simp only [Value.cells]
      rw [q1]
      rfl
    · cases h
  · rename_i n sz ag zs ht
    split at h
    · rename_i ls hp
      obtain ⟨⟨i,h1,h2,h3⟩,hz,hp0,e,ie,hu,he,hsz,d,hd1,hd2⟩:=hX.tk _ _ ht
      obtain ⟨cs',q1,q2⟩:=parts_ok hs (place:=fun i=>some (i*sz,sz)) (fun i off m ag' hi=>by
          obtain ⟨e1,e2,e3⟩:=arrFs_at hi
          simp only [Option.some.injEq,Prod.mk.injEq]
          exact ⟨by omega,e2.symm⟩) ps _ ls _ hp
        (fun i off m ag' hi=>by
          obtain ⟨e1,e2,e3⟩:=arrFs_at hi
          have : (i+1)*sz≤n*sz:=Nat.mul_le_mul_right _ e3
          rw [Nat.add_mul] at this
          simp only [List.length_map,hz]
          omega) (zls_ok zs)
      refine wp_value (v := .agg cs'.toArray) ?_ (next_put hs hd (v := .agg ls) ⟨cs',rfl,q2⟩ h)
      have hsize : (sizeOf e).run P w = .ok sz w:=by simp [sizeOf,typeInfo,he,hsz]
      simp only [execOp,Instr.build,Sem.run_bind,zeroValue,typeInfo,run_program,h1,h3,Result.andThen_ok,Sem.run_pure,run_under hu,hsize]
      have : (List.map (fun x : Nat×Operand=>(x.fst,a.eval x.snd)) ps)=(Array.map (fun x : Nat×Operand=>(x.fst,a.eval x.snd)) ps.toArray).toList:=by simp
      rw [← this]
      simp only [Value.cells]
      rw [q1]
      rfl
    · cases h
  · cases h

theorem elems_ok (hs : Sim X.K w0 nt S β fp a w) {t : Ty} : ∀ (ps : List (Nat×Operand)) (n : Nat) (O : Objs C) (es : List (C t)) (S' : St C) (b : Bool) (cs : List Value),(∀ id ob,lk O id=some ob→lk S.objs id=some ob) →
    elems X t { S with objs:=O } n ps=some (es,S',b)→(n+ps.length)*X.K.sz t≤cs.length →
    S'.env=S.env∧S'.base=S.base∧(∀ id ob,lk S'.objs id=some ob→lk O id=some ob)∧es.length=ps.length ∧
    ∃ cs',Instr.fill (fun i=>some (i*X.K.sz t,X.K.sz t)) ⟨cs⟩ (ps.map fun (x : Nat×Operand)=>(x.1,a.eval x.2))=some ⟨cs'⟩∧cs'.length=cs.length∧(∀ m,m<n*X.K.sz t→cs'[m]? = cs[m]?) ∧
    ∃ G : Nat→Nat→Nat→Prop,(∀ j i k,G j i k → ∃ id ob,lk O id=some ob∧lk S'.objs id=none∧fp id k)∧(∀ j i j' i' k,G j i k→G j' i' k→j=j' ∧ i=i') ∧
      ∀ (j : Nat) (x : C t),es[j]? = some x → ∀ (i : Nat) (l : Lf C),(X.K.enc t x)[i]? = some l→(b=false→Own X.K w w0.heap.size (G j i) l (cs'.getD ((n+j)*X.K.sz t+i) undef))∧Rep X.K w (fun k=>stbOf S.objs fp w k∨G j i k) l (cs'.getD ((n+j)*X.K.sz t+i) undef)
  | [],n,O,es,S',b,cs,hO,h,hb=>by
    simp only [elems,Option.some.injEq,Prod.mk.injEq] at h
    obtain ⟨rfl,rfl,rfl⟩:=h
    exact ⟨rfl,rfl,fun _ _ h=>h,rfl,cs,rfl,rfl,fun _ _=>rfl,fun _ _ _=>False,fun _ _ _ h=>h.elim,fun _ _ _ _ _ h=>h.elim,fun j x h=>by simp at h⟩
  | (i0,x0)::ps,n,O,es,S',b,cs,hO,h,hb=>by
    simp only [elems] at h
    split at h
    · rename_i v hv
      split at h
      · rename_i ls S1 b1 hab
        split at h
        · rename_i e hdec
          split at h
          · rename_i es' S2 b2 hel
            obtain ⟨hi,hk⟩:=cond_some h
            have hi:=Nat.eq_of_beq_eq_true hi
            simp only [Option.some.injEq,Prod.mk.injEq] at hk
            obtain ⟨rfl,rfl,rfl⟩:=hk
            clear h
            subst hi
            have hv' : SVOk X.K w S.objs β fp (stbOf S.objs fp w) v (a.eval x0):=opdT_ok hs (T:=X.K.tid t) (x:=x0) (by
              have : opdT X { S with objs:=O } (X.K.tid t) x0=opdT X S (X.K.tid t) x0:=by
                unfold opdT
                split
                · rfl
                · cases x0 <;> rfl
              rw [← this]; exact hv)
            have henc:=X.K.enc_dec t _ _ hdec
            have hls : ls.length=X.K.sz t:=by rw [← henc,X.K.enc_len]
            -- the part's cells
            have hlv : 0<v.leaves.length:=by
              rcases Nat.eq_zero_or_pos v.leaves.length with h0 | h0
              · have : v.leaves=[]:=List.eq_nil_of_length_eq_zero h0
                rw [this] at hab
                simp only [absorb,Option.some.injEq,Prod.mk.injEq] at hab
                rw [← hab.1] at hls
                have:=X.K.pos t
                simp at hls; omega
              · exact h0
            have hc:=sv_cells hv' hlv
            obtain ⟨g1,g1',g2,g3,G,g4,g5,g6⟩:=absorb_ok hs v.leaves (a.eval x0).cells.toList O ls S1 b1 hO hab hc
            have hcl : (a.eval x0).cells.size=X.K.sz t:=by
              have:=hc.1
              simp only [Array.length_toList] at this
              rw [this,← g3,hls]
            have hS1 : S1={ S with objs:=S1.objs }:=by
              obtain ⟨e1,o1,b1⟩:=S1
              rw [St.mk.injEq]
              exact ⟨g1,rfl,g1'⟩
            rw [hS1] at hel
            have hfit : i0*X.K.sz t+X.K.sz t≤cs.length:=by
              rw [← Nat.succ_mul]
              refine Nat.le_trans (Nat.mul_le_mul_right _ ?_) hb
              simp only [List.length_cons]; omega
            have hfit' : i0*X.K.sz t+(a.eval x0).cells.toList.length≤cs.length:=by simpa [hcl] using hfit
            obtain ⟨q1,q1',q2,q3,cs',q4,q5,q6,G',q7,q8,q9⟩:=elems_ok hs ps (i0+1) S1.objs es' S2 b2 (setAt cs (i0*X.K.sz t) (a.eval x0).cells.toList) (fun id ob h=>hO id ob (g2 id ob h)) hel (by rw [setAt_len]; refine Nat.le_trans (Nat.mul_le_mul_right _ ?_) hb; simp; omega)
            refine ⟨q1,q1',fun id ob h=>g2 id ob (q2 id ob h),by simp [q3],cs',?_,by rw [q5,setAt_len],fun m hm => ?_,fun j i k=>match j with | 0=>G i k | j+1=>G' j i k,fun j i k hk => ?_,fun j i j' i' k hk hk' => ?_,fun j x hx i l hl => ?_⟩
            · simp only [List.map_cons]
              rw [fill_one (off:=i0*X.K.sz t) (n:=X.K.sz t) rfl hcl (by simpa using hfit)]
              exact q4
            · rw [q6 m (by rw [Nat.succ_mul]; omega),setAt_eq _ _ _ hfit',splice_get hfit',if_pos hm]
            · cases j with
              | zero =>
                obtain ⟨id,ob,h1,h2,h3⟩:=g4 i k hk
                refine ⟨id,ob,h1,?_,h3⟩
                cases e2 : lk S2.objs id with
                | none=>rfl
                | some ob' => have:=q2 id ob' e2; rw [h2] at this; cases this
              | succ j =>
                obtain ⟨id,ob,h1,h2,h3⟩:=q7 j i k hk
                exact ⟨id,ob,g2 id ob h1,h2,h3⟩
            · have cross : ∀ i j' i' k,G i k→G' j' i' k→False:=fun i j' i' k hk hk' => by
                obtain ⟨id,ob,h1,h2,h3⟩:=g4 i k hk
                obtain ⟨id',ob',h1',h2',h3'⟩:=q7 j' i' k hk'
                have:=hs.disj id id' ob ob' k (hO _ _ h1) (hO _ _ (g2 _ _ h1')) h3 h3'
                subst this
                rw [h1'] at h2; cases h2
              cases j with
              | zero=>cases j' with
                | zero=>exact ⟨rfl,g5 _ _ k hk hk'⟩
                | succ j' => exact (cross _ _ _ k hk hk').elim
              | succ j=>cases j' with
                | zero=>exact (cross _ _ _ k hk' hk).elim
                | succ j' => have:=q8 _ _ _ _ k hk hk'; exact ⟨by rw [this.1],this.2⟩
            · cases j with
              | zero =>
                simp at hx
                subst hx
                have hil:=enc_lt hl
                have hcell : cs'.getD ((i0+0)*X.K.sz t+i) undef=(a.eval x0).cells.toList.getD i undef:=by
                  rw [List.getD_eq_getElem?_getD,List.getD_eq_getElem?_getD,q6 _ (by rw [Nat.succ_mul]; simp; omega),setAt_eq _ _ _ hfit',splice_get hfit',if_neg (by simp),if_pos (by simp [hcl]; omega)]
                  congr 2
                  simp
                rw [hcell]
                have:=g6 i l (by rw [← henc]; exact hl)
                exact ⟨fun hb=>this.1 (by cases b1 <;> simp at hb ⊢),this.2⟩
              | succ j =>
                have hx : es'[j]? = some x:=by simpa using hx
                have:=q9 j x hx i l hl
                have e : i0+1+j=i0+(j+1):=by omega
                rw [e] at this
                exact ⟨fun hb=>this.1 (by cases b2 <;> simp at hb ⊢),this.2⟩
          · cases h
        · cases h
      · cases h
    · cases h

theorem elems_len {t : Ty} : ∀ {ps : List (Nat×Operand)} {n : Nat} {S : St C} {es : List (C t)} {S' : St C} {b : Bool},elems X t S n ps=some (es,S',b)→es.length=ps.length
  | [],n,S,es,S',b,h=>by simp only [elems,Option.some.injEq,Prod.mk.injEq] at h; rw [← h.1]; rfl
  | (i,x)::ps,n,S,es,S',b,h=>by
    simp only [elems] at h
    split at h
    · split at h
      · split at h
        · split at h
          · rename_i hel
            obtain ⟨_,h⟩:=cond_some h
            simp only [Option.some.injEq,Prod.mk.injEq] at h
            rw [← h.1]
            simp [elems_len hel]
          · cases h
        · cases h
      · cases h
    · cases h

theorem s_buildSlice (hX : XOk P X) (hs : Sim X.K w0 nt S β fp a w) (hd : slot dst nt) {t : TypeId} {n : Nat} {ps : Array (Nat×Operand)} (h : ev X ⟨dst,.buildSlice t n ps,ty,pos,aft,gd⟩ S k=some r) : Goal P X w0 nt k r Q ⟨dst,.buildSlice t n ps,ty,pos,aft,gd⟩ a w:=by
  obtain ⟨ps⟩:=ps
  simp only [ev] at h
  split at h
  · rename_i t1 ht
    split at h
    · rename_i es S' b hel
      obtain ⟨hc,h⟩:=cond_some h
      simp only [Bool.and_eq_true] at hc
      have hlen:=Nat.eq_of_beq_eq_true hc.1
      have hroom:=Nat.le_of_ble_eq_true hc.2
      split at h
      · rename_i S'' hadd
        obtain ⟨hn,rfl⟩:=add_some hadd
        obtain ⟨i,z,hi,hsz,hby,hpos,hz,hzs,hzl⟩:=hX.el t1
        let zs : List Value:=(madeCells z.cells (n*X.K.sz t1)).toList
        have hzs' : zs.length=n*X.K.sz t1:=by simp [zs,madeCells]
        have hps0 : n=ps.length:=by rw [← hlen]; exact elems_len hel
        obtain ⟨q1,q1',q2,q3,cs',q4,q5,q6,G,q7,q8,q9⟩:=elems_ok hs ps 0 S.objs es S' b zs (fun _ _ h=>h) hel (by rw [hzs',hps0]; simp)
        have hrun : (execOp a.eval ⟨dst,.buildSlice t n ps.toArray,ty,pos,aft,gd⟩).run P w = .ok (.value (.slice (some ⟨w.heap.size,0,none⟩) n n)) (w.alloc (.cells cs'.toArray (X.K.tid t1))):=by
          have hmap : (Array.map (fun x : Nat×Operand=>(x.fst,a.eval x.snd)) ps.toArray).toList=ps.map fun x=>(x.1,a.eval x.2):=by simp
          simp only [execOp,Instr.buildSlice,Sem.run_bind,run_under (hX.tk _ _ ht).sli,(hX.el t1).size,Result.andThen_ok,Sem.run_pure]
          rw [if_neg (by omega)]
          by_cases h0 : n*X.K.sz t1=0
          · rw [if_pos h0]
            have hz3 : (Array.range (n*X.K.sz t1)).map ((#[] : Array Value)[· % (#[] : Array Value).size]!)=zs.toArray:=by simp [h0,zs,madeCells]
            simp only [Sem.run_bind,Sem.run_pure,Result.andThen_ok,hmap]
            rw [hz3,q4]
            simp [newRow]
          · rw [if_neg h0]
            have hz3 : (Array.range (n*X.K.sz t1)).map (z.cells[· % z.cells.size]!)=zs.toArray:=by
              show madeCells z.cells (n*X.K.sz t1)=_
              simp [zs]
            have hz2 : (zeroValue (X.K.tid t1)).run P w = .ok z w:=by simp [zeroValue,typeInfo,hi,hz]
            simp only [Sem.run_bind,hz2,Sem.run_pure,Result.andThen_ok,hmap]
            rw [hz3,q4]
            simp [newRow]
        have hO:=q2
        have hnl : ∀ k,stbOf S.objs fp w k → ¬ Left' S fp S'.objs k:=fun k hk ⟨j,ob,h1,_,h3⟩=>hk.2 j ob h1 h3
        have hle : ∀ k,Left' S fp S'.objs k→k<w.heap.size:=fun k ⟨j,ob,h1,_,h3⟩=>(hs.fresh j ob k h1 h3).2
        have hcsl : cs'.length=n*X.K.sz t1:=by rw [q5,hzs']
        have hsz0:=hs.below.size
        let w' := w.alloc (.cells cs'.toArray (X.K.tid t1))
        have hwk : ∀ k,k<w.heap.size→w'.heap[k]? = w.heap[k]? := fun k hk=>Below.heap_alloc w _ k hk
        have hw : Below w0.heap.size w w' := (Below.refl _ _).alloc hsz0 _
        have hsize : w'.heap.size=w.heap.size+1:=by simp [w']
        have hcr : (List.range (es.length*X.K.sz t1)).map (fun m=>cs'.getD m undef)=cs' := by
          apply List.ext_getElem?
          intro m
          rw [hlen]
          by_cases hm : m<n*X.K.sz t1
          · simp [hm,List.getD,hcsl]
          · simp [hm,hcsl]
        have hown : w'.ownsRow w0.heap.size (X.K.tid t1) (X.K.sz t1) (.slice (some ⟨w.heap.size,0,none⟩) n n) (([] : List (C t1)).length+es.length) ([]++(List.range (es.length*X.K.sz t1)).map (fun m=>cs'.getD m undef)):=by
          rw [hcr]
          refine ⟨by simp [hcsl,hlen],.inr ⟨w.heap.size,n,cs'.toArray,by simp [hlen],hsz0,heap_alloc_new w _,by simp [hlen],by simp only [maxLen]; have:=Nat.le_mul_of_pos_right n (X.K.pos t1); omega,by simp [hcsl],by
            simp only [List.length_nil,Nat.zero_add,hlen,List.nil_append]
            exact List.take_of_length_le (by simp [hcsl])⟩⟩
        let sh:=cond (X.K.flat t1) false b
        let F : Nat→Prop:=cond sh (fun g=>(Value.slice (some ⟨w.heap.size,0,none⟩) n n).ownBlock=some g) (fun k=>(Value.slice (some ⟨w.heap.size,0,none⟩) n n).ownBlock=some k∨False∨Left' S fp S'.objs k)
        have hFv : ∀ g,(Value.slice (some ⟨w.heap.size,0,none⟩) n n).ownBlock=some g→g=w.heap.size:=fun g hg=>by simp [Value.ownBlock] at hg; exact hg.symm
        have hF : ∀ k,F k→Left' S fp S'.objs k∨(w.heap.size≤k∧k<w'.heap.size):=fun k hk=>by
          cases e : sh with
          | true=>simp only [F,e,cond_true] at hk; have:=hFv k hk; exact .inr ⟨by omega,by omega⟩
          | false =>
            simp only [F,e,cond_false] at hk
            rcases hk with h | h | h
            · have:=hFv k h; exact .inr ⟨by omega,by omega⟩
            · exact h.elim
            · exact .inl h
        have hst:=fun k hk=>stb_reown hs hO (w' := w') (by omega) (fun k hk _=>hwk k hk) (id:=newId X S ⟨dst,.buildSlice t n ps.toArray,ty,pos,aft,gd⟩) (ob := .row t1 es sh) (F:=F) (fun k hk=>(hF k hk).imp (fun h=>h) fun h=>h.1) (k:=k) hk
        have hob:=cat_ob (K:=X.K) (w:=w) (β:=upd β (newId X S ⟨dst,.buildSlice t n ps.toArray,ty,pos,aft,gd⟩) (.slice (some ⟨w.heap.size,0,none⟩) n n)) (fp:=upd fp (newId X S ⟨dst,.buildSlice t n ps.toArray,ty,pos,aft,gd⟩) F)
          (objs:=(newId X S ⟨dst,.buildSlice t n ps.toArray,ty,pos,aft,gd⟩,.row t1 es sh)::S'.objs) (stb' := stbOf ((newId X S ⟨dst,.buildSlice t n ps.toArray,ty,pos,aft,gd⟩,.row t1 es sh)::S'.objs) (upd fp (newId X S ⟨dst,.buildSlice t n ps.toArray,ty,pos,aft,gd⟩) F) w')
          (xs:=[]) (ys:=es) (own0:=none) (own1:=none) (sh0:=false) (sh1:=b) (sh:=sh) (D0:=fun _=>False) (D1:=Left' S fp S'.objs) (stb:=stbOf S.objs fp w) (cs:=[])
          elems_nil (f:=fun m=>cs'.getD m undef) ⟨G,fun j i k hk=>⟨q7 j i k hk,by simp⟩,q8,fun j x hx i l hl=>by have:=q9 j x hx i l hl; simpa using this⟩ (fun k h=>h.elim) (by simp) hown
          (fun g hg=>⟨.inr fun h=>h,fun h=>by have:=hFv g hg; have:=hle g h; omega⟩) (fun k hk _=>hwk k (by rcases hk with h | h | h; exact h.elim; exact hle k h; exact h.1)) (fun k _=>by simp) (by simp [sh]) (fun k hk=>(hst k hk).1)
          (fun k hs1 hk hne1 _=>by
            have hk' : Left' S fp S'.objs k:=hk.elim (fun h=>h.elim) id
            refine ⟨by have:=hle k hk'; omega,fun j ob' hj => ?_⟩
            rw [lk_cons] at hj
            by_cases e : j=newId X S ⟨dst,.buildSlice t n ps.toArray,ty,pos,aft,gd⟩
            · rw [e,upd_same]
              show ¬ (cond sh (fun g=>(Value.slice (some ⟨w.heap.size,0,none⟩) n n).ownBlock=some g) (fun k=>(Value.slice (some ⟨w.heap.size,0,none⟩) n n).ownBlock=some k∨False∨Left' S fp S'.objs k)) k
              have hs1' : sh=true:=hs1
              rw [hs1']
              exact hne1
            · rw [if_neg e] at hj
              rw [upd_ne _ _ e]
              intro hk2
              exact left_not hs hO hj hk2 hk') (fun g hg=>by cases hg)
        have h2:=hs.reown hO hw (fun k hk _=>hwk k hk) (id:=newId X S ⟨dst,.buildSlice t n ps.toArray,ty,pos,aft,gd⟩) (by
          have:=hn
          unfold Unnamed at this
          rw [q1] at this
          exact this) (ob := .row t1 es sh) (hv := .slice (some ⟨w.heap.size,0,none⟩) n n) (F:=F) hF hob S'.base
        have hSe : (⟨S.env,(newId X S ⟨dst,.buildSlice t n ps.toArray,ty,pos,aft,gd⟩,.row t1 es sh)::S'.objs,S'.base⟩ : St C)=S'.setObj (newId X S ⟨dst,.buildSlice t n ps.toArray,ty,pos,aft,gd⟩) (.row t1 es sh):=by
          unfold St.setObj
          rw [← q1]
        rw [hSe] at h2
        exact wp_value hrun (next_put h2 hd (v := .one (.ref _ [])) ⟨rfl,(upd_same _ _ _).symm⟩ h)
      · cases h
    · cases h
  · cases h
end
end Go.Proofs.Ytakakoogpmhhkaa.Ab

/- The abstract machine,part 16: calls by contract. -/
set_option linter.unusedVariables false
set_option linter.unusedSimpArgs false
set_option linter.unusedSectionVars false
namespace Go.Proofs.Ytakakoogpmhhkaa.Ab
open Go Go.RowKit

section
variable {Ty : Type} [DecidableEq Ty] {C : Ty→Type}
variable {P : Program} {X : Cx C} {w0 w : World} {nt : Nat} {S : St C} {β : Nat→Value} {fp : Nat→Nat→Prop} {a : Act} {R : Type} {k : St C→Option R} {r : R}
variable {dst : Option Tmp} {ty : TypeId} {pos : String} {aft : Array Edge} {gd : Option (Nat×Bool)} {Q : Exit→Act→World→Prop}

/-- An argument of a function that only reads. -/
def ArgOk (K : Cd C) (w : World) (F : Nat→Prop) : SV C→Value→Prop
  | .one (.elt t x o),u => ∃ (a : Addr) (U : Nat→Value),u = .pointer (some (a.add o))∧F a.block∧(∀ i,i<K.sz t→w.cell? (a.add i)=some (U i)) ∧ ∀ i l,(K.enc t x)[i]? = some l→Rep K w F l (U i)
  | .one l,u=>l.plain=true∧Rep K w F l u
  | .agg ls,u => ∃ us : List Value,u = .agg us.toArray∧us.length=ls.length ∧ ∀ (i : Nat) (l : Lf C),ls[i]? = some l→Rep K w F l (us.getD i undef)
  | _,_=>False

def packOne : Bool×List (Lf C)→List Value→Value
  | (true,_),us => .agg us.toArray
  | (false,_),us=>us.headD undef
def packAll : List (Bool×List (Lf C))→List Value→List Value
  | [],_=>[]
  | x::r,us=>packOne x (us.take x.2.length)::packAll r (us.drop x.2.length)
def pack (rs : List (Bool×List (Lf C))) (us : List Value) : Value:=match packAll rs us with
  | [v]=>v
  | vs => .tuple vs.toArray
def okRes : List (Bool×List (Lf C))→Bool
  | []=>true
  | (b,ls)::r=>(b||Nat.beq ls.length 1)&&okRes r

/-- Results that are new and the caller's. us: the values of their cells,one behind the other. -/
def ResOk (K : Cd C) (w w' : World) (rs : List (Bool×List (Lf C))) (v : Value) : Prop :=
  ∃ (us : List Value) (G : Nat→Nat→Prop),v=pack rs us∧us.length=(flatten rs).length∧okRes rs=true ∧
    (∀ m k,G m k→w.heap.size≤k∧k<w'.heap.size)∧(∀ m m' k,G m k→G m' k→m=m') ∧
    ∀ (m : Nat) (l : Lf C),(flatten rs)[m]? = some l→Own K w' w.heap.size (G m) l (us.getD m undef)

def ConOk (P : Program) (K : Cd C) (f : Nat) (c : Con C) : Prop :=
  (∃ fn, P.funcs[f]? = some fn ∧ fn.body.isNone = false ∧ fn.name ≠ "runtime.NumGoroutine") ∧
  ∀ (w : World) (vs : List (SV C)) (us : List Value) (r0 : c.R0),K.inv w→us.length=vs.length→(∀ (i : Nat) (v : SV C),vs[i]? = some v→ArgOk K w (fun k=>k<w.heap.size) v (us.getD i undef))→c.g vs=some r0 →
    Calls P f us.toArray w fun e w' => ∃ v,e = .returned v∧Below w.heap.size w w' ∧ ResOk K w w' (c.ret r0) v∧(c.nz=true → ∀ t,c.ret r0=[(false,[.row t []])]→v = .slice none 0 0)

theorem row_view (hs : Sim X.K w0 nt S β fp a w) {id : Nat} {t : Ty} {xs : List (C t)} {sh : Bool} (ho : lk S.objs id=some (.row t xs sh)) : Rep X.K w (fun k=>k<w.heap.size) (.row t xs) (β id):=by
  have hob:=hs.objs id _ ho
  cases sh with
  | false=>exact (Own.rep hob).mono fun k hk=>(hs.fresh id _ k ho hk).2
  | true =>
    obtain ⟨cells,h1,h2,h3⟩:=hob
    by_cases hx : xs=[]
    · subst hx
      obtain ⟨A,c,e,_⟩:=owns_head h1
      rw [e]
      exact .row t [] A c default (fun _=>undef) (Nat.zero_le _) (fun h=>absurd rfl h) (fun h=>absurd rfl h) (fun j hj=>absurd hj (by simp))
    · obtain ⟨g,cap,e,hb,hn,hcell⟩:=own_at h1 (Nat.mul_pos (List.length_pos_iff.2 hx) (X.K.pos t))
      rw [e]
      refine .row t xs _ cap ⟨g,0,none⟩ (fun m=>cells.getD m undef) hn (fun _=>⟨rfl,(hs.fresh id _ g ho ((h2 g).2 (by rw [e]; rfl))).2⟩) (fun _=>hcell) fun j hj i l hl => ?_
      exact (h3 j xs[j] (by simp [hj]) i l hl).mono fun k hk=>hk.1

theorem viewL_ok (hs : Sim X.K w0 nt S β fp a w) {l l' : Lf C} {v : Value} (h : viewL S l=some l') (hl : LfOk X.K w S.objs β fp (stbOf S.objs fp w) l v) : l'.plain=true∧Rep X.K w (fun k=>k<w.heap.size) l' v:=by
  cases l with
  | ref id p =>
    cases p with
    | cons s p=>simp [viewL] at h
    | nil =>
      simp only [viewL] at h
      split at h
      · rename_i t xs sh ho
        cases h
        refine ⟨rfl,?_⟩
        have e : v=β id:=hl.2
        subst e
        exact row_view hs ho
      · cases h
  | sub id lo hi =>
    simp only [viewL] at h
    split at h
    · rename_i t xs sh ho
      cases h
      exact ⟨rfl,sub_rep (row_view hs ho) (hl.2 t xs sh ho)⟩
    · cases h
  | nil t =>
    simp only [viewL] at h
    cases h
    have e : v = .slice none 0 0:=hl
    subst e
    exact ⟨rfl,.row t [] none 0 default (fun _=>undef) (Nat.zero_le _) (fun h=>absurd rfl h) (fun h=>absurd rfl h) (fun j hj=>absurd hj (by simp))⟩
  | row t xs =>
    simp only [viewL] at h
    cases h
    exact ⟨rfl,Rep.mono hl fun k hk=>hk.1⟩
  | int ki n=>simp only [viewL] at h; cases h; have e : v=_:=hl; subst e; exact ⟨rfl,.int ..⟩
  | bool b=>simp only [viewL] at h; cases h; have e : v=_:=hl; subst e; exact ⟨rfl,.bool ..⟩
  | str s=>simp only [viewL] at h; cases h; have e : v=_:=hl; subst e; exact ⟨rfl,.str ..⟩
  | fnc s=>simp only [viewL] at h; cases h; have e : v=_:=hl; subst e; exact ⟨rfl,.fnc ..⟩
  | _=>simp [viewL] at h

theorem viewLs_ok (hs : Sim X.K w0 nt S β fp a w) : ∀ {ls ls' : List (Lf C)} {vs : List Value},viewLs S ls=some ls' → LfsOk X.K w S.objs β fp (stbOf S.objs fp w) ls vs →
    ls'.length=ls.length ∧ ∀ (i : Nat) (l : Lf C),ls'[i]? = some l→Rep X.K w (fun k=>k<w.heap.size) l (vs.getD i undef)
  | [],ls',vs,h,hl=>by simp only [viewLs,Option.some.injEq] at h; subst h; exact ⟨rfl,fun i l h=>by simp at h⟩
  | l::ls,ls',vs,h,hl=>by
    simp only [viewLs] at h
    split at h
    · rename_i l1 h1
      split at h
      · rename_i r' h2
        cases h
        obtain ⟨u,us,rfl⟩ : ∃ u us,vs=u::us:=by
          cases vs with
          | nil=>have:=hl.1; simp at this
          | cons u us=>exact ⟨u,us,rfl⟩
        have hl1 : LfsOk X.K w S.objs β fp (stbOf S.objs fp w) ls us:=⟨by have:=hl.1; simpa using this,fun i l' hi=>hl.2 (i+1) l' (by simpa using hi)⟩
        have ih:=viewLs_ok hs h2 hl1
        refine ⟨by simp [ih.1],fun i l' hi => ?_⟩
        cases i with
        | zero=>simp at hi; subst hi; exact (viewL_ok hs h1 (hl.2 0 l rfl)).2
        | succ i=>exact ih.2 i l' (by simpa using hi)
      · cases h
    · cases h
theorem viewV_ok (hs : Sim X.K w0 nt S β fp a w) {v v' : SV C} {u : Value} (h : viewV S v=some v') (hv : SVOk X.K w S.objs β fp (stbOf S.objs fp w) v u) : ArgOk X.K w (fun k=>k<w.heap.size) v' u:=by
  cases v with
  | one l =>
    simp only [viewV] at h
    split at h
    · rename_i l' hl
      cases h
      have:=viewL_ok hs hl hv
      cases l' <;> first | exact this | cases this.1
    · cases h
  | agg ls =>
    simp only [viewV] at h
    split at h
    · rename_i ls' hl
      cases h
      obtain ⟨vs,rfl,hv⟩:=hv
      obtain ⟨h1,h2⟩:=viewLs_ok hs hl hv
      exact ⟨vs,rfl,by rw [hv.1,h1],h2⟩
    · cases h
  | _=>simp [viewV] at h
theorem argsI_ok (hs : Sim X.K w0 nt S β fp a w) : ∀ {xs : List Operand} {ts : List TypeId} {vs : List (SV C)},argsI X S xs ts=some vs→vs.length=xs.length ∧ ∀ (i : Nat) (v : SV C),vs[i]? = some v→SVOk X.K w S.objs β fp (stbOf S.objs fp w) v ((xs.map a.eval).getD i undef)
  | [],ts,vs,h=>by
    simp only [argsI,Option.some.injEq] at h
    subst h
    exact ⟨rfl,fun i v h=>by simp at h⟩
  | x::xs,ts,vs,h=>by
    simp only [argsI] at h
    split at h
    · rename_i l hv
      split at h
      · rename_i vs' hr
        cases h
        obtain ⟨h1,h2⟩:=argsI_ok hs hr
        refine ⟨by simp [h1],fun i v hi => ?_⟩
        cases i with
        | zero=>simp at hi; subst hi; exact opdT_ok hs hv
        | succ i=>simpa using h2 i v (by simpa using hi)
      · cases h
    · rename_i ls hv
      split at h
      · rename_i vs' hr
        cases h
        obtain ⟨h1,h2⟩:=argsI_ok hs hr
        refine ⟨by simp [h1],fun i v hi => ?_⟩
        cases i with
        | zero=>simp at hi; subst hi; exact opdT_ok hs hv
        | succ i=>simpa using h2 i v (by simpa using hi)
      · cases h
    · cases h


theorem block_lt {w : World} {p : Addr} {u : Value} (h : w.cell? p=some u) : p.block<w.heap.size:=by
  unfold World.cell? at h
  cases e : w.heap[p.block]? with
  | none=>rw [e] at h; cases h
  | some o=>exact (Array.getElem?_eq_some_iff.1 e).1
theorem Rep.lt {K : Cd C} {F : Nat→Prop} {l : Lf C} {v : Value} (h : Rep K w F l v) : Rep K w (fun k=>k<w.heap.size) l v:=by
  induction h with
  | int=>exact .int ..
  | bool=>exact .bool ..
  | str=>exact .str ..
  | fnc=>exact .fnc ..
  | row t xs A c p U hc hA hcell hrep ih =>
    refine .row t xs A c p U hc (fun hx=>⟨(hA hx).1,?_⟩) hcell ih
    have:=block_lt (hcell hx 0 (Nat.mul_pos (List.length_pos_iff.2 hx) (K.pos t)))
    rwa [add_block] at this
theorem viewLX_ok (hs : Sim X.K w0 nt S β fp a w) {l l' : Lf C} {v : Value} (h : viewLX X S l=some l') (hl : LfOk X.K w S.objs β fp (stbOf S.objs fp w) l v) : l'.plain=true∧Rep X.K w (fun k=>k<w.heap.size) l' v:=by
  unfold viewLX at h
  split at h
  · obtain ⟨t,xs,F,h1,h2⟩:=sli_rep hs hl h
    cases h1
    exact ⟨rfl,h2.lt⟩
  · exact viewL_ok hs h hl
theorem viewLXs_ok (hs : Sim X.K w0 nt S β fp a w) : ∀ {ls ls' : List (Lf C)} , viewLXs X S ls=some ls' → ls'.length=ls.length ∧
    ∀ (i : Nat) (l' : Lf C),ls'[i]? = some l' → ∃ l,ls[i]? = some l ∧ ∀ v,LfOk X.K w S.objs β fp (stbOf S.objs fp w) l v→Rep X.K w (fun k=>k<w.heap.size) l' v
  | [],ls',h=>by simp only [viewLXs,Option.some.injEq] at h; subst h; exact ⟨rfl,fun i l h=>by simp at h⟩
  | l::ls,ls',h=>by
    simp only [viewLXs] at h
    split at h
    · rename_i l1 h1
      split at h
      · rename_i r' h2
        cases h
        obtain ⟨q1,q2⟩:=viewLXs_ok hs h2
        refine ⟨by simp [q1],fun i l' hi => ?_⟩
        cases i with
        | zero=>simp at hi; subst hi; exact ⟨l,rfl,fun v hv=>(viewLX_ok hs h1 hv).2⟩
        | succ i=>exact q2 i l' (by simpa using hi)
      · cases h
    · cases h
theorem viewP_ok (hs : Sim X.K w0 nt S β fp a w) {pt : Option Ty} {v v' : SV C} {u : Value} (h : viewP X S pt v=some v') (hv : SVOk X.K w S.objs β fp (stbOf S.objs fp w) v u) : ArgOk X.K w (fun k=>k<w.heap.size) v' u:=by
  unfold viewP at h
  split at h
  · exact viewV_ok hs h hv
  · rename_i t l
    obtain ⟨ls,p,h,rfl,hc⟩:=cells_ok hs hv h
    split at h
    · rename_i ls' hls
      split at h
      · rename_i x hx
        cases h
        obtain ⟨q1,q2⟩:=viewLXs_ok hs hls
        have henc:=X.K.enc_dec _ _ _ hx
        have hlen : ls'.length=X.K.sz t:=by rw [← henc,X.K.enc_len]
        have hle : X.K.sz t≤ls.length:=by simp at q1; omega
        have hcell : ∀ i,i<X.K.sz t → ∃ l' u,ls[i]? = some l' ∧ w.cell? (p.add i)=some u∧LfOk X.K w S.objs β fp (stbOf S.objs fp w) l' u:=fun i hi=>by
          have e : ls[i]? = some (ls[i]'(by omega)):=by simp
          obtain ⟨u,h1,h2⟩:=hc i _ e
          exact ⟨_,u,e,h1,h2⟩
        have hz : p.add 0=p:=rfl
        refine ⟨p,fun i=>(w.cell? (p.add i)).getD undef,rfl,?_,fun i hi => ?_,fun i l hl => ?_⟩
        · obtain ⟨_,u,_,h1,_⟩:=hcell 0 (X.K.pos t)
          exact block_lt (p:=p) h1
        · obtain ⟨_,u,_,h1,_⟩:=hcell i hi
          simp only [h1]; rfl
        · rw [henc] at hl
          have hi : i<X.K.sz t:=by have:=idx_lt hl; omega
          obtain ⟨l1,e1,e2⟩:=q2 i l hl
          obtain ⟨l2,u,e3,h1,h2⟩:=hcell i hi
          rw [List.getElem?_take,if_pos hi,e3] at e1
          cases e1
          simp only [h1]
          exact e2 _ h2
      · cases h
    · cases h
  · cases h
theorem views_ok (hs : Sim X.K w0 nt S β fp a w) : ∀ {vs : List (SV C)} {pt : List (Option Ty)} {vs' : List (SV C)} {us : List Value},views X S pt vs=some vs' → us.length=vs.length →
    (∀ (i : Nat) (v : SV C),vs[i]? = some v→SVOk X.K w S.objs β fp (stbOf S.objs fp w) v (us.getD i undef)) →
    us.length=vs'.length ∧ ∀ (i : Nat) (v : SV C),vs'[i]? = some v→ArgOk X.K w (fun k=>k<w.heap.size) v (us.getD i undef)
  | [],pt,vs',us,h,hl,hv=>by simp only [views,Option.some.injEq] at h; subst h; exact ⟨hl,fun i v h=>by simp at h⟩
  | v::vs,pt,vs',us,h,hl,hv=>by
    simp only [views] at h
    split at h
    · rename_i v1 h1
      split at h
      · rename_i r' h2
        cases h
        obtain ⟨u,us,rfl⟩ : ∃ u us',us=u::us' := by
          cases us with
          | nil=>simp at hl
          | cons u us=>exact ⟨u,us,rfl⟩
        obtain ⟨q1,q2⟩:=views_ok hs h2 (us:=us) (by simpa using hl) (fun i v hi=>hv (i+1) v (by simpa using hi))
        refine ⟨by simp [q1],fun i v' hi => ?_⟩
        cases i with
        | zero=>simp at hi; subst hi; exact viewP_ok hs h1 (hv 0 v rfl)
        | succ i=>exact q2 i v' (by simpa using hi)
      · cases h
    · cases h
/-- Told values,part by part. -/
def SVsOk (K : Cd C) (w : World) (objs : Objs C) (β : Nat→Value) (fp : Nat→Nat→Prop) (stb : Nat→Prop) (vs : List (SV C)) (us : List Value) : Prop :=
  us.length=vs.length ∧ ∀ (i : Nat) (v : SV C),vs[i]? = some v→SVOk K w objs β fp stb v (us.getD i undef)
theorem SVsOk.nil {K : Cd C} {objs : Objs C} {stb : Nat→Prop} : SVsOk K w objs β fp stb [] []:=⟨rfl,fun i v h=>by simp at h⟩
theorem SVsOk.append {K : Cd C} {objs : Objs C} {stb : Nat→Prop} {vs vs' : List (SV C)} {us us' : List Value} (h : SVsOk K w objs β fp stb vs us) (h' : SVsOk K w objs β fp stb vs' us') : SVsOk K w objs β fp stb (vs++vs') (us++us'):=by
  refine ⟨by simp [h.1,h'.1],fun i v hi => ?_⟩
  have e : (us++us').getD i undef=if i<us.length then us.getD i undef else us'.getD (i - us.length) undef:=by
    simp only [List.getD_eq_getElem?_getD,List.getElem?_append]
    split <;> rfl
  rw [List.getElem?_append] at hi
  rw [e,h.1]
  split at hi
  · rename_i hlt; rw [if_pos hlt]; exact h.2 i v hi
  · rename_i hlt; rw [if_neg hlt]; exact h'.2 _ v hi
theorem SVsOk.take {K : Cd C} {objs : Objs C} {stb : Nat→Prop} {vs : List (SV C)} {us : List Value} (h : SVsOk K w objs β fp stb vs us) (n : Nat) : SVsOk K w objs β fp stb (vs.take n) (us.take n):=by
  refine ⟨by simp [h.1],fun i v hi => ?_⟩
  have hlt : i<n:=by
    rcases Nat.lt_or_ge i n with hn | hn
    · exact hn
    · rw [List.getElem?_take,if_neg (by omega)] at hi; cases hi
  rw [List.getElem?_take,if_pos hlt] at hi
  have e : (us.take n).getD i undef=us.getD i undef:=by simp only [List.getD_eq_getElem?_getD,List.getElem?_take,if_pos hlt]
  rw [e]
  exact h.2 i v hi
theorem SVsOk.drop {K : Cd C} {objs : Objs C} {stb : Nat→Prop} {vs : List (SV C)} {us : List Value} (h : SVsOk K w objs β fp stb vs us) (n : Nat) : SVsOk K w objs β fp stb (vs.drop n) (us.drop n):=by
  refine ⟨by simp [h.1],fun i v hi => ?_⟩
  rw [List.getElem?_drop] at hi
  have e : (us.drop n).getD i undef=us.getD (n+i) undef:=by simp only [List.getD_eq_getElem?_getD,List.getElem?_drop]
  rw [e]
  exact h.2 _ v hi
theorem unSh_ok {K : Cd C} {objs : Objs C} {stb : Nat→Prop} : ∀ {sh : List (Bool×Nat)} {ls : List (Lf C)} {us : List Value},shOk sh ls.length=true→LfsOk K w objs β fp stb ls us→SVsOk K w objs β fp stb (unSh sh ls) (packSh sh us)
  | [],ls,us,h,hl=>⟨rfl,fun i v h=>by simp [unSh] at h⟩
  | (b,n)::sh,ls,us,h,hl=>by
    simp only [shOk,Bool.and_eq_true,Bool.or_eq_true] at h
    obtain ⟨⟨h1,h2⟩,h3⟩:=h
    have h2:=Nat.le_of_ble_eq_true h2
    have hd : LfsOk K w objs β fp stb (ls.drop n) (us.drop n):=⟨by simp [hl.1],fun i l hi=>by
      rw [List.getElem?_drop] at hi
      have e : (us.drop n).getD i undef=us.getD (n+i) undef:=by simp only [List.getD_eq_getElem?_getD,List.getElem?_drop]
      rw [e]
      exact hl.2 _ l hi⟩
    have ih:=unSh_ok (sh:=sh) (ls:=ls.drop n) (us:=us.drop n) (by simpa using h3) hd
    refine ⟨by simp [unSh,packSh,ih.1],fun i v hi => ?_⟩
    cases i with
    | succ i=>simpa [packSh] using ih.2 i v (by simpa [unSh] using hi)
    | zero =>
      simp only [unSh,List.getElem?_cons_zero,Option.some.injEq] at hi
      subst hi
      cases b with
      | true =>
        refine ⟨us.take n,rfl,by simp [hl.1],fun i l hi => ?_⟩
        have hlt : i<n:=by
          rcases Nat.lt_or_ge i n with hn | hn
          · exact hn
          · rw [List.getElem?_take,if_neg (by omega)] at hi; cases hi
        rw [List.getElem?_take,if_pos hlt] at hi
        have e : (us.take n).getD i undef=us.getD i undef:=by simp only [List.getD_eq_getElem?_getD,List.getElem?_take,if_pos hlt]
        rw [e]
        exact hl.2 i l hi
      | false =>
        have hn : n=1:=by
          rcases h1 with h1 | h1
          · cases h1
          · exact Nat.eq_of_beq_eq_true h1
        subst hn
        cases ls with
        | nil=>simp at h2
        | cons l ls=>cases us with
          | nil=>have:=hl.1; simp at this
          | cons u us=>exact hl.2 0 l rfl
theorem argsI_sv (hs : Sim X.K w0 nt S β fp a w) {xs : List Operand} {ts : List TypeId} {vs : List (SV C)} (h : argsI X S xs ts=some vs) : SVsOk X.K w S.objs β fp (stbOf S.objs fp w) vs (xs.map a.eval):=by
  obtain ⟨h1,h2⟩:=argsI_ok hs h
  exact ⟨by simp [h1],h2⟩
theorem argsC_ok (hs : Sim X.K w0 nt S β fp a w) {pt : List (Option Ty)} {pre post : List (SV C)} {pu qu : List Value} {xs : List Operand} {ts : List TypeId} {vs : List (SV C)} (h : argsC X S pt pre xs ts post=some vs)
    (hpre : SVsOk X.K w S.objs β fp (stbOf S.objs fp w) pre pu) (hpost : SVsOk X.K w S.objs β fp (stbOf S.objs fp w) post qu) :
    (pu++(xs.map a.eval++qu)).length=vs.length ∧ ∀ (i : Nat) (v : SV C),vs[i]? = some v→ArgOk X.K w (fun k=>k<w.heap.size) v ((pu++(xs.map a.eval++qu)).getD i undef):=by
  unfold argsC at h
  split at h
  · rename_i vs' hvs
    have:=hpre.append ((argsI_sv hs hvs).append hpost)
    exact views_ok hs h this.1 this.2
  · cases h

theorem lk_append {α : Type} (l r : List (Nat×α)) (n : Nat) : lk (l++r) n=match lk l n with
    | some v=>some v
    | none=>lk r n:=by
  induction l with
  | nil=>rfl
  | cons x l ih =>
    obtain ⟨m,v⟩:=x
    rw [List.cons_append,lk_cons,lk_cons,ih]
    split <;> rfl

/-- Several new rows at once. -/
theorem Sim.addMany {K : Cd C} (h : Sim K w0 nt S β fp a w) {w' : World} (hw : Below w.heap.size w w') {news : Objs C} (hids : ∀ id ob,lk news id=some ob→Unnamed S id)
    {hv : Nat→Value} {F : Nat→Nat→Prop} (hF : ∀ id ob k,lk news id=some ob→F id k→w.heap.size≤k∧k<w'.heap.size)
    (hdis : ∀ id id' ob ob' k,lk news id=some ob→lk news id' = some ob' → F id k→F id' k→id=id')
    (hob : ∀ id ob,lk news id=some ob → ∃ t xs,ob = .row t xs false∧Own K w' w0.heap.size (F id) (.row t xs) (hv id)) :
    Sim K w0 nt { S with objs:=news++S.objs } (fun i=>if (lk news i).isSome then hv i else β i) (fun i k=>if (lk news i).isSome then F i k else fp i k) a w' := by
  have hsz : w0.heap.size≤w.heap.size:=h.below.size
  have hsz' := hw.size
  have new : ∀ i ob,lk news i=some ob→lk (news++S.objs) i=some ob:=fun i ob hi=>by rw [lk_append,hi]
  have old : ∀ i,lk news i=none→lk (news++S.objs) i=lk S.objs i:=fun i hi=>by rw [lk_append,hi]
  have keep : ∀ i,lk news i=none→Keeps w w' S.objs (news++S.objs) β (fun i=>if (lk news i).isSome then hv i else β i) fp (fun i k=>if (lk news i).isSome then F i k else fp i k) i:=fun i hi=>by
    refine ⟨by simp [hi],fun t xs sh ho => ?_⟩
    rw [old i hi] at ho
    exact ⟨ho,fun k hk=>⟨by simpa [hi] using hk,hw.block k (h.fresh i _ k ho hk).2⟩⟩
  have hst : ∀ k,stbOf S.objs fp w k→stbOf (news++S.objs) (fun i k=>if (lk news i).isSome then F i k else fp i k) w' k∧w'.heap[k]? = w.heap[k]? := fun k hk=>by
    refine ⟨⟨by have:=hk.1; omega,fun j ob hj => ?_⟩,hw.block k hk.1⟩
    cases e : lk news j with
    | some ob' =>
      simp only [e,Option.isSome_some,if_true]
      intro hf
      have:=hF j ob' k e hf
      have:=hk.1
      omega
    | none =>
      rw [old j e] at hj
      simp only [e,Option.isSome_none,Bool.false_eq_true,if_false]
      exact hk.2 j ob hj
  have nonew : ∀ i,(i ∈ idsE0 S.env∨i ∈ idsO S.objs)→lk news i=none:=fun i hi=>by
    cases e : lk news i with
    | none=>rfl
    | some ob=>have:=hids i ob e; rcases hi with hi | hi; exact absurd hi this.1; exact absurd hi this.2
  refine ⟨h.below.trans (hw.mono hsz),h.defers,h.size,fun j ob k ho hk => ?_,fun i j oi oj k hi hj hki hkj => ?_,fun j ob ho => ?_,fun t v ht => ?_⟩
  · cases e : lk news j with
    | some ob' =>
      simp only [e,Option.isSome_some,if_true] at hk
      have:=hF j ob' k e hk
      omega
    | none =>
      simp only at ho
      rw [old j e] at ho
      simp only [e,Option.isSome_none,Bool.false_eq_true,if_false] at hk
      have:=h.fresh j ob k ho hk
      omega
  · simp only at hi hj
    cases ei : lk news i with
    | some oi' =>
      simp only [ei,Option.isSome_some,if_true] at hki
      cases ej : lk news j with
      | some oj' =>
        simp only [ej,Option.isSome_some,if_true] at hkj
        exact hdis i j oi' oj' k ei ej hki hkj
      | none =>
        rw [old j ej] at hj
        simp only [ej,Option.isSome_none,Bool.false_eq_true,if_false] at hkj
        have:=hF i oi' k ei hki
        have:=h.fresh j oj k hj hkj
        omega
    | none =>
      rw [old i ei] at hi
      simp only [ei,Option.isSome_none,Bool.false_eq_true,if_false] at hki
      cases ej : lk news j with
      | some oj' =>
        simp only [ej,Option.isSome_some,if_true] at hkj
        have:=hF j oj' k ej hkj
        have:=h.fresh i oi k hi hki
        omega
      | none =>
        rw [old j ej] at hj
        simp only [ej,Option.isSome_none,Bool.false_eq_true,if_false] at hkj
        exact h.disj i j oi oj k hi hj hki hkj
  · simp only at ho
    cases e : lk news j with
    | some ob' =>
      rw [new j ob' e] at ho
      cases ho
      obtain ⟨t,xs,rfl,hO⟩:=hob j _ e
      simp only [e,Option.isSome_some,if_true]
      exact hO
    | none =>
      rw [old j e] at ho
      have:=(h.objs j ob ho).tr (objs' := news++S.objs) (β' := fun i=>if (lk news i).isSome then hv i else β i) (fp' := fun i k=>if (lk news i).isSome then F i k else fp i k) hst (fun k hk=>hw.block k (h.fresh j ob k ho hk).2) fun kd ls els i hi=>keep i (nonew i (.inr ((mem_idsO ho).2 kd ls els i hi)))
      simp only [e,Option.isSome_none,Bool.false_eq_true,if_false]
      exact this
  · exact (h.env t v ht).tr hst fun i hi=>keep i (nonew i (.inl (mem_idsE ht hi)))
end
end Go.Proofs.Ytakakoogpmhhkaa.Ab

/- The abstract machine,part 17: a call's results. -/
set_option linter.unusedVariables false
set_option linter.unusedSimpArgs false
set_option linter.unusedSectionVars false
namespace Go.Proofs.Ytakakoogpmhhkaa.Ab
open Go Go.RowKit

section
variable {Ty : Type} [DecidableEq Ty] {C : Ty→Type}
variable {P : Program} {X : Cx C} {w0 w : World} {nt : Nat} {S : St C} {β : Nat→Value} {fp : Nat→Nat→Prop} {a : Act} {R : Type} {k : St C→Option R} {r : R}
variable {dst : Option Tmp} {ty : TypeId} {pos : String} {aft : Array Edge} {gd : Option (Nat×Bool)} {Q : Exit→Act→World→Prop}

theorem addAll_ok : ∀ {news : Objs C} {S S' : St C},S.addAll news=some S' → S'.env=S.env∧S'.base=S.base∧(∀ j,lk S'.objs j=lk (news++S.objs) j) ∧ ∀ j ob,lk news j=some ob→Unnamed S j
  | [],S,S',h=>by simp only [St.addAll,Option.some.injEq] at h; subst h; exact ⟨rfl,rfl,fun j=>rfl,fun j ob h=>by simp [lk] at h⟩
  | (id,ob)::r,S,S',h=>by
    simp only [St.addAll] at h
    split at h
    · rename_i S1 h1
      obtain ⟨hn,rfl⟩:=add_some h1
      obtain ⟨g1,g2,g3,g4⟩:=addAll_ok h
      have hne : ∀ j ob',lk r j=some ob' → j≠id:=fun j ob' hj e=>by
        subst e
        have:=(g4 j ob' hj).2
        exact this (by cases ob <;> simp [St.setObj,idsO])
      refine ⟨g1,g2,fun j => ?_,fun j ob' hj => ?_⟩
      · rw [g3,lk_append,List.cons_append,lk_cons,lk_append]
        simp only [St.setObj,lk_cons]
        cases e : lk r j with
        | some ob' => have:=hne j ob' e; simp [this]
        | none=>split <;> simp_all
      · rw [lk_cons] at hj
        split at hj
        · rename_i e; subst e; exact hn
        · have:=g4 j ob' hj
          refine ⟨this.1,fun hm=>this.2 ?_⟩
          cases ob <;> simp [St.setObj,idsO,hm]
    · cases h

theorem intern_len : ∀ (ls : List (Lf C)) (id : Nat),(intern id ls).1.length=ls.length
  | [],id=>rfl
  | l::r,id=>by cases l <;> simp [intern,intern_len r]
theorem intern_get : ∀ (ls : List (Lf C)) (id m : Nat) (l : Lf C),(intern id ls).1[m]? = some l →
    (∃ t xs,ls[m]? = some (.row t xs)∧l = .ref (id+m) []∧lk (intern id ls).2 (id+m)=some (.row t xs false))∨(ls[m]? = some l ∧ ∀ t xs,l ≠ .row t xs)
  | [],id,m,l,h=>by simp [intern] at h
  | x::r,id,m,l,h=>by
    have ih:=intern_get r (id+1)
    cases m with
    | zero =>
      cases x with
      | row t xs=>simp [intern] at h; exact .inl ⟨t,xs,rfl,h.symm,by simp [intern,lk_cons]⟩
      | _=>simp [intern] at h; subst h; exact .inr ⟨rfl,fun t xs=>by simp⟩
    | succ m =>
      have hm : (intern (id+1) r).1[m]? = some l:=by cases x <;> simpa [intern] using h
      rcases ih m l hm with ⟨t,xs,h1,h2,h3⟩ | h1
      · refine .inl ⟨t,xs,by simpa using h1,by rw [h2]; congr 1; omega,?_⟩
        have e : id+1+m=id+(m+1):=by omega
        rw [e] at h3
        cases x with
        | row t' ys=>rw [show (intern id (Lf.row t' ys::r)).2=(id,.row t' ys false)::(intern (id+1) r).2 from rfl,lk_cons,if_neg (by omega)]; exact h3
        | _=>exact h3
      · exact .inr (by simpa using h1)
theorem intern_lk : ∀ (ls : List (Lf C)) (id j : Nat) (ob : Ob C),lk (intern id ls).2 j=some ob → ∃ m t xs,j=id+m∧ls[m]? = some (.row t xs)∧ob = .row t xs false
  | [],id,j,ob,h=>by simp [intern,lk] at h
  | x::r,id,j,ob,h=>by
    have ih:=intern_lk r (id+1) j ob
    have up : lk (intern (id+1) r).2 j=some ob → ∃ m t xs,j=id+m∧(x::r)[m]? = some (.row t xs)∧ob = .row t xs false:=fun h=>by
      obtain ⟨m,t,xs,h1,h2,h3⟩:=ih h
      exact ⟨m+1,t,xs,by omega,by simpa using h2,h3⟩
    cases x with
    | row t xs =>
      rw [show (intern id (Lf.row t xs::r)).2=(id,.row t xs false)::(intern (id+1) r).2 from rfl,lk_cons] at h
      split at h
      · rename_i e; cases h; exact ⟨0,t,xs,by omega,rfl,rfl⟩
      · exact up h
    | _=>exact up h

theorem all_get : ∀ (rs : List (Bool×List (Lf C))) (id m : Nat) (l : Lf C),(flatten (internAll id rs).1)[m]? = some l →
    (∃ t xs,(flatten rs)[m]? = some (.row t xs)∧l = .ref (id+m) []∧lk (internAll id rs).2 (id+m)=some (.row t xs false))∨((flatten rs)[m]? = some l ∧ ∀ t xs,l ≠ .row t xs)
  | [],id,m,l,h=>by simp [internAll,flatten] at h
  | (b,ls)::r,id,m,l,h=>by
    simp only [internAll,flatten] at h
    rcases cat_get h with ⟨hj,hx⟩ | ⟨hj,hx⟩
    · rw [intern_len] at hj
      rcases intern_get ls id m l hx with ⟨t,xs,h1,h2,h3⟩ | ⟨h1,h2⟩
      · exact .inl ⟨t,xs,by simp only [flatten]; rw [List.getElem?_append_left hj]; exact h1,h2,by simp only [internAll]; rw [lk_append,h3]⟩
      · exact .inr ⟨by simp only [flatten]; rw [List.getElem?_append_left hj]; exact h1,h2⟩
    · rw [intern_len] at hj hx
      have e : id+ls.length+(m - ls.length)=id+m:=by omega
      rcases all_get r (id+ls.length) (m - ls.length) l hx with ⟨t,xs,h1,h2,h3⟩ | ⟨h1,h2⟩
      · rw [e] at h2 h3
        refine .inl ⟨t,xs,by simp only [flatten]; rw [List.getElem?_append_right hj]; exact h1,h2,?_⟩
        simp only [internAll]
        rw [lk_append]
        cases e2 : lk (intern id ls).2 (id+m) with
        | none=>exact h3
        | some ob =>
          obtain ⟨m',t',xs',q1,q2,q3⟩:=intern_lk ls id _ ob e2
          have:=idx_lt q2
          omega
      · exact .inr ⟨by simp only [flatten]; rw [List.getElem?_append_right hj]; exact h1,h2⟩
theorem all_lk : ∀ (rs : List (Bool×List (Lf C))) (id j : Nat) (ob : Ob C),lk (internAll id rs).2 j=some ob → ∃ m t xs,j=id+m∧(flatten rs)[m]? = some (.row t xs)∧ob = .row t xs false
  | [],id,j,ob,h=>by simp [internAll,lk] at h
  | (b,ls)::r,id,j,ob,h=>by
    simp only [internAll] at h
    rw [lk_append] at h
    split at h
    · rename_i ob' h1
      cases h
      obtain ⟨m,t,xs,q1,q2,q3⟩:=intern_lk ls id j ob h1
      exact ⟨m,t,xs,q1,by simp only [flatten]; rw [List.getElem?_append_left (idx_lt q2)]; exact q2,q3⟩
    · obtain ⟨m,t,xs,q1,q2,q3⟩:=all_lk r _ j ob h
      refine ⟨ls.length+m,t,xs,by omega,?_,q3⟩
      simp only [flatten]
      rw [List.getElem?_append_right (by omega),Nat.add_sub_cancel_left]
      exact q2

/-- Two lists of results of one shape. -/
def shape1 : List (Bool×List (Lf C))→List (Bool×Nat)
  | []=>[]
  | (b,ls)::r=>(b,ls.length)::shape1 r
theorem packAll_congr : ∀ {rs rs' : List (Bool×List (Lf C))} {us : List Value},shape1 rs=shape1 rs' → packAll rs us=packAll rs' us
  | [],[],us,h=>rfl
  | [],(b,ls)::r,us,h=>by simp [shape1] at h
  | (b,ls)::r,[],us,h=>by simp [shape1] at h
  | (b,ls)::r,(b',ls')::r',us,h=>by
    simp only [shape1,List.cons.injEq,Prod.mk.injEq] at h
    obtain ⟨⟨rfl,hl⟩,hr⟩:=h
    have ih:=packAll_congr (us:=us.drop ls.length) hr
    simp only [packAll,hl] at ih ⊢
    rw [ih]
    cases b <;> rfl
theorem pack_congr {rs rs' : List (Bool×List (Lf C))} {us : List Value} (h : shape1 rs=shape1 rs') : pack rs us=pack rs' us:=by
  unfold pack
  rw [packAll_congr h]
theorem okRes_congr : ∀ {rs rs' : List (Bool×List (Lf C))},shape1 rs=shape1 rs' → okRes rs=okRes rs'
  | [],[],h=>rfl
  | [],(b,ls)::r,h=>by simp [shape1] at h
  | (b,ls)::r,[],h=>by simp [shape1] at h
  | (b,ls)::r,(b',ls')::r',h=>by
    simp only [shape1,List.cons.injEq,Prod.mk.injEq] at h
    obtain ⟨⟨rfl,hl⟩,hr⟩:=h
    simp only [okRes,hl,okRes_congr hr]
theorem shape_intern : ∀ (rs : List (Bool×List (Lf C))) (id : Nat),shape1 (internAll id rs).1=shape1 rs
  | [],id=>rfl
  | (b,ls)::r,id=>by simp [internAll,shape1,intern_len,shape_intern r]

theorem one_ok {K : Cd C} {objs : Objs C} {stb : Nat→Prop} {b : Bool} {ls : List (Lf C)} {us : List Value} (hok : (b||Nat.beq ls.length 1)=true) (hl : LfsOk K w objs β fp stb ls us) : TupOk K w objs β fp stb (b,ls) (packOne (b,ls) us):=by
  cases b with
  | true=>exact ⟨us,rfl,hl⟩
  | false =>
    simp only [Bool.false_or] at hok
    have h1:=Nat.eq_of_beq_eq_true hok
    obtain ⟨l,rfl⟩:=List.length_eq_one_iff.1 h1
    obtain ⟨u,rfl⟩:=List.length_eq_one_iff.1 (hl.1.trans h1)
    exact ⟨l,rfl,hl.2 0 l rfl⟩
theorem packAll_ok {K : Cd C} {objs : Objs C} {stb : Nat→Prop} : ∀ {rs : List (Bool×List (Lf C))} {us : List Value},okRes rs=true→LfsOk K w objs β fp stb (flatten rs) us →
    (packAll rs us).length=rs.length ∧ ∀ (i : Nat) (x : Bool×List (Lf C)),rs[i]? = some x→TupOk K w objs β fp stb x ((packAll rs us).getD i undef)
  | [],us,_,_=>⟨rfl,fun i x h=>by simp at h⟩
  | (b,ls)::r,us,hok,hl=>by
    simp only [okRes,Bool.and_eq_true] at hok
    have hlen : us.length=ls.length+(flatten r).length:=by have:=hl.1; simpa [flatten] using this
    have h1 : LfsOk K w objs β fp stb ls (us.take ls.length):=⟨by simp; omega,fun i l hi=>by
      have hlt:=idx_lt hi
      have:=hl.2 i l (by simp only [flatten]; rw [List.getElem?_append_left hlt]; exact hi)
      have e : (us.take ls.length).getD i undef=us.getD i undef:=by simp [List.getD,List.getElem?_take,hlt]
      rw [e]; exact this⟩
    have h2 : LfsOk K w objs β fp stb (flatten r) (us.drop ls.length):=⟨by simp; omega,fun i l hi=>by
      have:=hl.2 (ls.length+i) l (by simp only [flatten]; rw [List.getElem?_append_right (by omega),Nat.add_sub_cancel_left]; exact hi)
      have e : (us.drop ls.length).getD i undef=us.getD (ls.length+i) undef:=by simp [List.getD]
      rw [e]; exact this⟩
    have ih:=packAll_ok hok.2 h2
    refine ⟨by simp [packAll,ih.1],fun i x hi => ?_⟩
    cases i with
    | zero=>simp at hi; subst hi; exact one_ok hok.1 h1
    | succ i=>exact ih.2 i x (by simpa using hi)

theorem res_sv {K : Cd C} {objs : Objs C} {stb : Nat→Prop} {rs : List (Bool×List (Lf C))} {us : List Value} {v : SV C} (hok : okRes rs=true) (hv : toSV rs=some v) (hl : LfsOk K w objs β fp stb (flatten rs) us) : SVOk K w objs β fp stb v (pack rs us):=by
  obtain ⟨h1,h2⟩:=packAll_ok hok hl
  unfold toSV at hv
  split at hv
  · rename_i l
    cases hv
    obtain ⟨l',e,h3⟩:=h2 0 _ rfl
    cases e
    exact h3
  · rename_i ls
    cases hv
    exact h2 0 _ rfl
  · cases hv
  · rename_i hn1 hn2 hn3
    cases hv
    have hne : rs.length≠1:=fun e=>by
      obtain ⟨x,rfl⟩:=List.length_eq_one_iff.1 e
      exact hn3 x rfl
    refine ⟨packAll rs us,?_,h1,h2⟩
    unfold pack
    split
    · rename_i u hu
      rw [hu] at h1
      exact absurd h1.symm hne
    · rfl

theorem own_base {K : Cd C} {b b' : Nat} {F : Nat→Prop} {l : Lf C} {v : Value} (h : Own K w b F l v) (hb : b' ≤ b) : Own K w b' F l v:=by
  induction h with
  | int=>exact .int ..
  | bool=>exact .bool ..
  | str=>exact .str ..
  | fnc=>exact .fnc ..
  | row F t xs v cells G h hF hG hd _ ih=>exact .row F t xs v cells G (own_lower h hb) hF hG hd ih

theorem flatten_len : ∀ {rs rs' : List (Bool×List (Lf C))},shape1 rs=shape1 rs' → (flatten rs).length=(flatten rs').length
  | [],[],h=>rfl
  | [],(b,ls)::r,h=>by simp [shape1] at h
  | (b,ls)::r,[],h=>by simp [shape1] at h
  | (b,ls)::r,(b',ls')::r',h=>by
    simp only [shape1,List.cons.injEq,Prod.mk.injEq] at h
    simp [flatten,h.1.2,flatten_len h.2]

/-- The function that a callee's value names. -/
theorem enter_run {f : Nat} {us : Array Value} {fn : Func} (hf1 : P.funcs[f]? = some fn) (hf2 : fn.body.isNone = false) (hf3 : fn.name ≠ "runtime.NumGoroutine") : (callFunc f us).run P w = .ok (.enter f us) w := by
  have hf3' : (fn.name == "runtime.NumGoroutine") = false := by simpa using hf3
  simp [callFunc,hf1,hf2,hf3']
  rw [if_neg hf3,if_neg (by intro hb; simp [hb] at hf2)]
theorem s_callC (hs : Sim X.K w0 nt S β fp a w) {o : Oper} {c : Con C} {f : Nat} (hc : ConOk P X.K f c) {pre post : List (SV C)} {pu qu : List Value} {as : List Operand} {ts : List TypeId}
    (h : callC X c S pre as ts post o k=some r) (hpre : SVsOk X.K w S.objs β fp (stbOf S.objs fp w) pre pu) (hpost : SVsOk X.K w S.objs β fp (stbOf S.objs fp w) post qu)
    (hexec : ∀ fn, P.funcs[f]? = some fn → fn.body.isNone = false → fn.name ≠ "runtime.NumGoroutine" → (execOp a.eval o).run P w = .ok (.enter f (pu ++ (as.map a.eval ++ qu)).toArray) w) (hd : slot o.dst nt) : Goal P X w0 nt k r Q o a w := by
  rw [callC_eq] at h
  unfold callC0 at h
  split at h
  case h_2=>cases h
  rename_i vs hvs
  cases hg : c.g vs with
  | none=>rw [hg] at h; cases h
  | some r0 =>
    rw [hg] at h
    simp only [Option.bind_some] at h
    obtain ⟨⟨fn,hf1,hf2,hf3⟩,hcalls⟩:=hc
    cases hnz : c.nz with
    | true =>
      rw [hnz] at h
      simp only at h
      split at h
      case h_2=>cases h
      rename_i t xs hret
      obtain ⟨hl,hargs⟩:=argsC_ok hs hvs hpre hpost
      have hcall:=hcalls w vs _ r0 (X.K.inv_below _ _ hs.defers.2 hs.below) hl hargs hg
      show o.wp P a w (Next X.K w0 nt k r) Q
      unfold Oper.wp
      rw [hexec fn hf1 hf2 hf3]
      show Calls P f _ w _
      refine hcall.mono fun en w' ⟨v0,he,hb,⟨us,G,hp,hul,hok,hG1,hG2,hG3⟩,hz⟩ => ?_
      subst he
      rw [hret] at hp hul hG3
      have hsim:=hs.addMany hb (news:=[]) (S:=S) (fun j ob hj=>by simp [lk] at hj) (hv:=β) (F:=fp) (fun id ob k hi _=>by simp [lk] at hi) (fun i j oi oj k hi _ _ _=>by simp [lk] at hi) (fun i ob hi=>by simp [lk] at hi)
      have hsim3 : Sim X.K w0 nt S β fp a w' := by simpa [lk] using hsim
      obtain ⟨u,rfl⟩:=List.length_eq_one_iff.1 (show us.length=1 from hul)
      have hv0 : v0=u:=hp
      subst hv0
      have hO:=hG3 0 (.row t xs) rfl
      have hst : ∀ k,G 0 k→stbOf S.objs fp w' k:=fun k hk=>⟨(hG1 0 k hk).2,fun id ob hi hf=>by
        have:=(hs.fresh id ob k hi hf).2
        have:=(hG1 0 k hk).1
        omega⟩
      cases xs with
      | nil=>exact next_put hsim3 hd (v := .one (.nil t)) (hz hnz t hret) h
      | cons x xs=>exact next_put hsim3 hd (v := .one (.row t (x::xs))) ((Own.rep hO).mono hst) h
    | false =>
    rw [hnz] at h
    simp only at h
    split at h
    case h_2=>cases h
    rename_i v S' hv hadd
    obtain ⟨hl,hargs⟩:=argsC_ok hs hvs hpre hpost
    have hcall:=hcalls w vs _ r0 (X.K.inv_below _ _ hs.defers.2 hs.below) hl hargs hg
    show o.wp P a w (Next X.K w0 nt k r) Q
    unfold Oper.wp
    rw [hexec fn hf1 hf2 hf3]
    show Calls P f _ w _
    refine hcall.mono fun en w' ⟨v0,he,hb,⟨us,G,hp,hul,hok,hG1,hG2,hG3⟩,_⟩ => ?_
    subst he
    cases hfr : c.frz with
    | true =>
      simp only [numb,hfr] at hv hadd
      have hS' : S=S' := by simpa [St.addAll] using hadd
      subst hS'
      have hsim:=hs.addMany hb (news:=[]) (S:=S) (fun j ob hj=>by simp [lk] at hj) (hv:=β) (F:=fp) (fun id ob k hi _=>by simp [lk] at hi) (fun i j oi oj k hi _ _ _=>by simp [lk] at hi) (fun i ob hi=>by simp [lk] at hi)
      have hsim3 : Sim X.K w0 nt S β fp a w' := by simpa [lk] using hsim
      have hval : LfsOk X.K w' S.objs β fp (stbOf S.objs fp w') (flatten (c.ret r0)) us:=by
        refine ⟨hul,fun m l hm => ?_⟩
        have hO:=hG3 m l hm
        have hst : ∀ k,G m k→stbOf S.objs fp w' k:=fun k hk=>⟨(hG1 m k hk).2,fun id ob hi hf=>by
          have:=(hs.fresh id ob k hi hf).2
          have:=(hG1 m k hk).1
          omega⟩
        cases l with
        | row t xs=>exact (Own.rep hO).mono hst
        | _=>exact own_lf hO (by intro t xs e; cases e)
      have hsv:=res_sv hok hv hval
      rw [← hp] at hsv
      exact next_put hsim3 hd hsv h
    | false =>
    simp only [numb,hfr] at hv hadd
    let id0:=newId X S o
    let news:=(internAll id0 (c.ret r0)).2
    obtain ⟨g1,g2,g3,g4⟩:=addAll_ok hadd
    have hsz0:=hs.below.size
    have hF : ∀ id ob k,lk news id=some ob→G (id - id0) k→w.heap.size≤k∧k<w'.heap.size:=fun id ob k _ hk=>hG1 _ k hk
    have hsim:=hs.addMany hb (news:=news) g4 (hv:=fun id=>us.getD (id - id0) undef) (F:=fun id=>G (id - id0)) hF
      (fun i j oi oj k hi hj hki hkj=>by
        obtain ⟨m,t,xs,q1,q2,q3⟩:=all_lk _ _ _ _ hi
        obtain ⟨m',t',xs',q1',q2',q3'⟩:=all_lk _ _ _ _ hj
        have:=hG2 _ _ k hki hkj
        omega)
      (fun i ob hi=>by
        obtain ⟨m,t,xs,q1,q2,q3⟩:=all_lk _ _ _ _ hi
        have e : i - id0=m:=by omega
        refine ⟨t,xs,q3,?_⟩
        simp only [e]
        exact own_base (hG3 m _ q2) hsz0)
    have hsim2:=hsim.sub (O:=S'.objs) (fun j ob hj=>by rw [← g3 j]; exact hj)
    have hS' : ({ S with objs:=S'.objs } : St C)=S' := by
      obtain ⟨e1,o1,b1⟩:=S'
      rw [St.mk.injEq]
      exact ⟨g1.symm,rfl,g2.symm⟩
    have hsim3:=hsim2
    rw [hS'] at hsim3
    have hsh:=shape_intern (c.ret r0) id0
    have hval : LfsOk X.K w' S'.objs (fun i=>if (lk news i).isSome then us.getD (i - id0) undef else β i) (fun i k=>if (lk news i).isSome then G (i - id0) k else fp i k) (stbOf S'.objs (fun i k=>if (lk news i).isSome then G (i - id0) k else fp i k) w') (flatten (internAll id0 (c.ret r0)).1) us:=by
      refine ⟨by rw [hul,flatten_len hsh],fun m l hm => ?_⟩
      rcases all_get (c.ret r0) id0 m l hm with ⟨t,xs,q1,q2,q3⟩ | ⟨q1,q2⟩
      · subst q2
        have hO:=hG3 m _ q1
        refine ⟨hO.one,?_⟩
        have e : id0+m - id0=m:=by omega
        have e2 : lk news (id0+m)=some (.row t xs false):=q3
        simp only [e2,Option.isSome_some,if_true,e]
      · exact own_lf (hG3 m l q1) q2
    have hsv:=res_sv (by rw [okRes_congr hsh]; exact hok) hv hval
    rw [pack_congr hsh (us:=us),← hp] at hsv
    exact next_put hsim3 hd hsv h

theorem lfVs_ok (hs : Sim X.K w0 nt S β fp a w) : ∀ {vs : List (SV C)} {us : List Value} {qs : List Value},lfVs vs=some us→qs.length=vs.length→(∀ (i : Nat) (v : SV C),vs[i]? = some v→SVOk X.K w S.objs β fp (stbOf S.objs fp w) v (qs.getD i undef))→qs=us
  | [],us,qs,h,hl,hv=>by
    simp only [lfVs,Option.some.injEq] at h
    subst h
    exact List.length_eq_zero_iff.1 hl
  | v::vs,us,qs,h,hl,hv=>by
    cases v with
    | one l =>
      simp only [lfVs] at h
      split at h
      case h_2=>cases h
      rename_i u us' h1 h2
      cases h
      cases qs with
      | nil=>simp at hl
      | cons q qs =>
        have e:=lfVs_ok hs (qs:=qs) h2 (by simpa using hl) fun i v hi=>by simpa using hv (i+1) v (by simpa using hi)
        have hq : SVOk X.K w S.objs β fp (stbOf S.objs fp w) (.one l) q:=by simpa using hv 0 _ rfl
        rw [e]
        congr 1
        cases l with
        | int k n=>simp only [lfV,Option.some.injEq] at h1; rw [← h1]; exact hq
        | bool b=>simp only [lfV,Option.some.injEq] at h1; rw [← h1]; exact hq
        | str s=>simp only [lfV,Option.some.injEq] at h1; rw [← h1]; exact hq
        | _=>simp [lfV] at h1
    | _=>simp [lfVs] at h
theorem s_ext (hX : XOk P X) (hs : Sim X.K w0 nt S β fp a w) {o : Oper} {f : FuncId} {e : List Value→Option Value} (he : X.ext f=some e) {as : Array Operand} {ts : Array TypeId}
    (hi : X.ins f=none) (h : callN X S f as.toList ts.toList o k=some r) (hd : slot o.dst nt) (ho : o.op = .call { callee := .value (.func f),args:=as,argTypes:=ts }) : Goal P X w0 nt k r Q o a w:=by
  simp only [callN,hi,he] at h
  split at h
  case h_2=>cases h
  rename_i vs hvs
  split at h
  case h_2=>cases h
  rename_i us hus
  split at h
  case h_2=>cases h
  rename_i v hv
  split at h
  case h_2=>cases h
  rename_i l hl
  obtain ⟨h1,h2⟩:=argsI_ok hs hvs
  have hq:=lfVs_ok hs hus (by simpa using h1.symm) h2
  have hrun:=hX.ext f e he us v hv w
  refine wp_value (v:=v) ?_ (next_put hs hd (v := .one l) ?_ h)
  · obtain ⟨dst,op,ty,pos,aft,gd⟩:=o
    have ho : op=_:=ho
    subst ho
    have e1 : (as.map a.eval)=us.toArray:=by rw [← hq,← Array.toList_map,Array.toArray_toList]
    simp [execOp,resolve,Deferred.ofValue,invoke,Act.eval] at hrun ⊢
    first | (rw [← e1] at hrun; simpa [Act.eval] using hrun) | (rw [e1]; exact hrun)
  · cases v <;> simp only [vLf,Option.some.injEq,reduceCtorEq] at hl <;> (rw [← hl]; rfl)
theorem s_ins (hX : XOk P X) (hs : Sim X.K w0 nt S β fp a w) {o : Oper} {f : FuncId} {t : Ty} (he : X.ins f=some t) {as : List Operand} {ts : List TypeId}
    (h : insC X t S as ts o k=some r) (hd : slot o.dst nt)
    (hexec : ∀ fn, P.funcs[f]? = some fn → fn.body.isNone = false → fn.name ≠ "runtime.NumGoroutine" → (execOp a.eval o).run P w = .ok (.enter f (as.map a.eval).toArray) w) : Goal P X w0 nt k r Q o a w := by
  unfold insC at h
  split at h
  case h_2=>cases h
  rename_i s i x T T1 T'
  split at h
  case h_2=>cases h
  rename_i l n id hl0 hi0 hx0
  split at h
  case h_2=>cases h
  rename_i t1 ys sh ho
  have h' := cond_some h
  clear h
  obtain ⟨hc,h⟩:=h'
  simp only [Bool.and_eq_true,decide_eq_true_eq] at hc
  obtain ⟨⟨hy1,e1⟩,h0⟩:=hc
  have hy1:=Nat.eq_of_beq_eq_true hy1
  subst e1
  have hl:=sv_one (opdT_ok hs hl0)
  have hx : LfOk X.K w S.objs β fp (stbOf S.objs fp w) (.ref id []) (a.eval x):=sv_one (opd_ok hs hx0)
  have hi : a.eval i = .int .i64 n:=opd_ok hs hi0
  have hob:=hs.objs id _ ho
  obtain ⟨gs,g1,g2,g3⟩:=ob_elems hob
  have hh : Handed X.K w w0.heap.size (stbOf S.objs fp w) (ofId fp (some id)) t1 ys (a.eval x) sh:=by rw [hx.2]; exact handed_ob hob
  have hxe : a.eval x=β id:=hx.2
  have fin : ∀ {t0 : Ty} {xs : List (C t0)} {id0 : Option Nat} {sh0 : Bool},n≤(xs.length : Int) →
      apnd (some n.toNat) X o S t1 t0 t1 xs ys id0 (some id) (sh0||sh) k=some r→(∀ i,id0=some i→some id≠some i) →
      (∃ cs,w.ownsRow w0.heap.size (X.K.tid t0) (X.K.sz t0) (a.eval s) xs.length cs∧(∀ g,(a.eval s).ownBlock=some g→ofId fp id0 g)∧Elems X.K w w0.heap.size (stbOf S.objs fp w) (ofId fp id0) t0 xs (a.eval s).ownBlock (fun m=>cs.getD m undef) sh0) →
      (∀ i,id0=some i → ∃ ob,lk S.objs i=some ob)→Goal P X w0 nt k r Q o a w:=by
    intro t0 xs id0 sh0 hn ha hne hb h0'
    obtain ⟨cs,A,c,f',e0,_,hown,hve,hA,h1,h2,hbd,hdis,K⟩:=apnd_next hX hs hd rfl ha hne (fun i e=>by cases e; omega) hb h0' (fun i e=>by cases e; exact ⟨_,ho⟩) hh (fun i g e hg=>by cases e; rw [hxe] at hg; exact g2 g hg)
    subst e0
    have hg1 : w.ownsRow w0.heap.size (X.K.tid t0) (X.K.sz t0) (a.eval x) 1 gs:=by rw [hxe]; rw [hy1] at g1; exact g1
    have hgs : (List.range (ys.length*X.K.sz t0)).map f' = gs:=by
      have hgl : gs.length=ys.length*X.K.sz t0:=by rw [hg1.1,hy1]
      obtain ⟨g,cap,e',_,_,hcell⟩:=own_at hg1 (by have:=X.K.pos t0; omega)
      obtain ⟨p,eA,hp⟩:=hA (by omega)
      rw [hve] at e'
      injection e' with q1 q2 q3
      rw [q1] at eA
      cases eA
      apply List.ext_getElem
      · simp [hgl]
      · intro m hm1 hm2
        have hm : m<ys.length*X.K.sz t0:=by simpa using hm1
        have q4:=hp m hm
        rw [hcell m (by rw [← hy1]; exact hm)] at q4
        have q4:=Option.some.inj q4
        simp [List.getD_eq_getElem?_getD,hm2] at q4 ⊢
        exact q4.symm
    have hone : ∀ u,u ∈ gs→u.oneCell' = true:=fun u hu=>by
      rw [← hgs] at hu
      obtain ⟨m,hm,rfl⟩:=List.mem_map.1 hu
      exact h1 m (by simpa using hm)
    have hone2 : ∀ u,u ∈ cs→u.oneCell' = true:=fun u hu=>by
      obtain ⟨m,hm,rfl⟩:=List.getElem_of_mem hu
      have:=h2 m (by rw [← hown.1]; exact hm)
      simpa [List.getD_eq_getElem?_getD,hm] using this
    obtain ⟨⟨fn,hf1,hf2,hf3⟩,hins⟩:=hX.ins f t0 he
    have hcall:=hins w w0.heap.size (a.eval s) (a.eval x) xs.length n.toNat cs gs hown hg1 hs.below.size (by omega) (by rw [hy1] at hbd; exact hbd) (fun g hg=>(hdis g hg).elim (fun h=>h) fun h=>by cases h) hone2 hone
    show o.wp P a w (Next X.K w0 nt k r) Q
    unfold Oper.wp
    rw [hexec fn hf1 hf2 hf3]
    have hargs : (List.map a.eval [s,i,x]).toArray = #[a.eval s,.int .i64 (n.toNat : Nat),a.eval x]:=by
      simp [hi]
      omega
    rw [hargs]
    show Calls P f _ w _
    refine hcall.mono fun en w' ⟨v0,he,q1,q2,q3⟩ => ?_
    subst he
    refine K v0 w' ?_ q2 q3
    rw [hgs,hy1]
    exact q1
  clear hl0
  split at h
  · rename_i t0
    obtain ⟨hn,h⟩:=cond_some h
    have hn:=of_decide_eq_true hn
    have e : a.eval s = .slice none 0 0:=hl
    refine fin (xs:=([] : List (C t0))) (sh0:=false) (by simp [hn]) (by simpa using h) (fun i e=>by cases e) ?_ (fun i e=>by cases e)
    rw [e]
    exact ⟨[],World.ownsRow_nil ..,fun g hg=>by simp [Value.ownBlock] at hg,elems_nil⟩
  · rename_i id0
    obtain ⟨hne,h⟩:=cond_some' h
    split at h
    · rename_i t0 xs sh0 ho0
      obtain ⟨hn,h⟩:=cond_some h
      have hn:=of_decide_eq_true hn
      refine fin hn h (fun i e e' => ?_) ?_ (fun i e=>by cases e; exact ⟨_,ho0⟩)
      · cases e; cases e'; simp [Nat.beq_refl] at hne
      · rw [hl.2]
        exact ob_elems (hs.objs id0 _ ho0)
    · cases h
  · cases h
theorem s_call (hX : XOk P X) (hcon : ∀ f c,X.con f=some c→ConOk P X.K f c) (hs : Sim X.K w0 nt S β fp a w) (hd : slot dst nt) {f : FuncId} {as : Array Operand} {ts : Array TypeId}
    (h : ev X ⟨dst,.call { callee := .value (.func f),args:=as,argTypes:=ts },ty,pos,aft,gd⟩ S k=some r)
    (hW : ∀ o : Oper,o=⟨dst,.call { callee := .value (.func f),args:=as,argTypes:=ts },ty,pos,aft,gd⟩→(match X.conw f with | some _=>callW X S f as.toList ts.toList o k | none=>callN X S f as.toList ts.toList o k)=some r→Goal P X w0 nt k r Q o a w) :
    Goal P X w0 nt k r Q ⟨dst,.call { callee := .value (.func f),args:=as,argTypes:=ts },ty,pos,aft,gd⟩ a w:=by
  generalize ho : (⟨dst,.call { callee := .value (.func f),args:=as,argTypes:=ts },ty,pos,aft,gd⟩ : Oper)=o at h ⊢
  have hod : o.dst=dst:=by rw [← ho]
  subst hod
  have hev : ev X o S k=match X.con f with
      | some c' => callC X c' S [] as.toList ts.toList [] o k
      | none=>(match X.conw f with | some _=>callW X S f as.toList ts.toList o k | none=>callN X S f as.toList ts.toList o k):=by rw [← ho]; rfl
  rw [hev] at h
  split at h
  · rename_i c hc
    refine s_callC hs (hcon f c hc) h .nil .nil (fun fn hf1 hf2 hf3 => ?_) hd
    have e : ([]++(as.toList.map a.eval++[]) : List Value).toArray=as.map a.eval:=by rw [List.nil_append,List.append_nil,← Array.toList_map,Array.toArray_toList]
    rw [e,← enter_run (us:=as.map a.eval) hf1 hf2 hf3,← ho]
    simp [execOp,resolve,Deferred.ofValue,invoke,Act.eval]
  · rw [← ho]; rw [← ho] at h; exact hW _ rfl h
end
end Go.Proofs.Ytakakoogpmhhkaa.Ab

/- The abstract machine: functions that write through what they are handed,part 1: what is handed,what comes back. -/
set_option linter.unusedVariables false
set_option linter.unusedSimpArgs false
set_option linter.unusedSectionVars false
namespace Go.Proofs.Ytakakoogpmhhkaa.Ab
open Go Go.RowKit

section
variable {Ty : Type} [DecidableEq Ty] {C : Ty→Type}
variable {P : Program} {X : Cx C} {w0 w : World} {nt : Nat} {S : St C} {β : Nat→Value} {fp : Nat→Nat→Prop} {a : Act} {R : Type} {k : St C→Option R} {r : R}

/-- The values of the rows among cells. -/
def rowsOf : List (Lf C)→List Value→List Value
  | .row _ _::r,u::us=>u::rowsOf r us
  | _::r,_::us=>rowsOf r us
  | _,_=>[]

def ConWOk (P : Program) (K : Cd C) (f : Nat) (c : ConW C) : Prop :=
  (∃ fn, P.funcs[f]? = some fn ∧ fn.body.isNone = false ∧ fn.name ≠ "runtime.NumGoroutine") ∧
  ∀ (w0 w : World) (rs : List (Bool×List (Lf C))) (uls : List Value) (r0 : c.R0) (G : Nat→Nat→Prop),K.inv w0→Below w0.heap.size w0 w→okRes rs=true→uls.length=(flatten rs).length →
    (∀ m k,G m k→w0.heap.size≤k∧k<w.heap.size)→(∀ m m' k,G m k→G m' k→m=m') →
    (∀ (m : Nat) (l : Lf C),(flatten rs)[m]? = some l→l.plain=true∧Own K w w0.heap.size (G m) l (uls.getD m undef))→c.g rs=some r0 →
    Calls P f (packAll rs uls).toArray w fun e w' => ∃ v,e = .returned v∧Below w0.heap.size w0 w' ∧ (∀ k,k<w.heap.size→(∀ m,¬ G m k)→k<w'.heap.size∧w'.heap[k]? = w.heap[k]?) ∧
      ∃ (rls : List Value) (G' : Nat→Nat→Prop),v=pack (c.ret r0) rls∧rls.length=(flatten (c.ret r0)).length∧okRes (c.ret r0)=true∧(c.out r0).length=(rowsOf (flatten rs) uls).length ∧
        (∀ m k,G' m k→((∃ m0,G m0 k)∨w.heap.size≤k)∧w0.heap.size≤k∧k<w'.heap.size)∧(∀ m m' k,G' m k→G' m' k→m=m') ∧
        ∀ (m : Nat) (l : Lf C),(c.out r0++flatten (c.ret r0))[m]? = some l→Own K w' w0.heap.size (G' m) l ((rowsOf (flatten rs) uls++rls).getD m undef)

theorem own_nil {K : Cd C} {base : Nat} {F : Nat→Prop} (t : Ty) : Own K w base F (.row t []) (.slice none 0 0) :=
  .row F t [] _ [] (fun _ _ _=>False) (World.ownsRow_nil ..) (fun g hg=>by simp [Value.ownBlock] at hg) (fun _ _ _ h=>h.elim) (fun _ _ _ _ _ h=>h.elim) (fun j hj=>absurd hj (by simp))

/-- An own row with another row at a path. -/
theorem own_set {K : Cd C} {F0 : Nat→Prop} {base : Nat} {t : Ty} {xs : List (C t)} {v : Value} {p : List (Nat×Nat)} {t' : Ty} {zs : List (C t')} {v' : Value}
    (h : PRes K w F0 t xs v p t' zs v') : ∀ F,Own K w base F (.row t xs) v → ∃ F1,(∀ k,F1 k→F k)∧Own K w base F1 (.row t' zs) v' ∧
      ∀ (w' : World) (F1' : Nat→Prop) (l : Lf C),(∀ k,F k → ¬ F1 k→w'.heap[k]? = w.heap[k]?)→(∀ k,F1' k→F1 k ∨ ¬ F k)→Own K w' base F1' l v' →
        ∀ (R : Type) (kk : List (C t)→Option R) (r : R),setPath K p t xs l kk=some r → ∃ xs',kk xs' = some r∧Own K w' base (fun k=>(F k ∧ ¬ F1 k)∨F1' k) (.row t xs') v:=by
  induction h with
  | nil t xs v =>
    intro F hO
    refine ⟨F,fun _ h=>h,hO,fun w' F1' l _ _ hl R kk r hs => ?_⟩
    cases l with
    | row t2 ys =>
      simp only [setPath] at hs
      unfold castT at hs
      split at hs
      · rename_i ys' hy
        split at hy
        · rename_i e _
          subst e
          cases hy
          exact ⟨ys,hs,hl.mono fun k hk => .inr hk⟩
        · cases hy
      · cases hs
    | _=>simp [setPath] at hs
  | cons t xs v i o x t1 ys ad n c v1 p t' zs v' hx hl hv hF hc _ ih =>
    intro F hO
    cases hO with
    | row _ _ _ _ cells G0 h h1 h2 h3 h4 =>
      have hi:=idx_lt hx
      have hxe : xs[i]=x:=by simpa [List.getElem?_eq_getElem hi] using hx
      have ho : o<K.sz t:=enc_lt hl
      have hpos : 0<xs.length*K.sz t:=Nat.mul_pos (by omega) (K.pos t)
      obtain ⟨g,cap,e,hb,hn,hcell⟩:=own_at h hpos
      have hv' := hv
      rw [e] at hv'
      cases hv'
      have hm : i*K.sz t+o<xs.length*K.sz t:=cell_in hi ho
      have hv1:=hcell _ hm
      rw [hc] at hv1
      cases hv1
      obtain ⟨F1,a1,a2,a3⟩:=ih (G0 i o) (h4 i hi o _ (by rw [hxe]; exact hl))
      refine ⟨F1,fun k hk=>(h2 i o k (a1 k hk)).1,a2,fun w' F1' l hfr hF' hlO R kk r hs => ?_⟩
      simp only [setPath,hx,Option.bind_some,hl] at hs
      obtain ⟨ys',hk,hO'⟩:=a3 w' F1' l (fun k hk hn=>hfr k (h2 i o k hk).1 hn) (fun k hk=>(hF' k hk).imp id fun hn hg=>hn (h2 i o k hg).1) hlO R _ r hs
      split at hk
      · rename_i y hy
        have henc:=K.enc_dec t _ _ hy
        refine ⟨xs.set i y,hk,?_⟩
        have hnot : ∀ j i' k,G0 j i' k → ¬ (j=i∧i' = o) → ¬ F1 k:=fun j i' k hk hne hf=>hne (h3 j i' i o k hk (a1 k hf))
        have hsame : ∀ j i' k,G0 j i' k → ¬ (j=i∧i' = o)→w'.heap[k]? = w.heap[k]? := fun j i' k hk hne=>hfr k (h2 j i' k hk).1 (hnot j i' k hk hne)
        refine .row _ t (xs.set i y) v cells (fun j i' k=>if j=i∧i' = o then (G0 i o k ∧ ¬ F1 k)∨F1' k else G0 j i' k) (by rw [List.length_set]; exact ownsRow_frame h fun g hg=>hfr g (h1 g hg) fun hf=>(h2 i o g (a1 g hf)).2 hg)
          (fun g hg => .inl ⟨h1 g hg,fun hf=>(h2 i o g (a1 g hf)).2 hg⟩) (fun j i' k hk => ?_) (fun j i' j' i'' k hk hk' => ?_) (fun j hj i' l' hl' => ?_)
        · split at hk
          · rcases hk with ⟨hk,hn⟩ | hk
            · exact ⟨.inl ⟨(h2 i o k hk).1,hn⟩,(h2 i o k hk).2⟩
            · refine ⟨.inr hk,fun e => ?_⟩
              rcases hF' k hk with hf | hf
              · exact (h2 i o k (a1 k hf)).2 e
              · exact hf (h1 k e)
          · rename_i hne
            exact ⟨.inl ⟨(h2 j i' k hk).1,hnot j i' k hk hne⟩,(h2 j i' k hk).2⟩
        · have cross : ∀ j i' k,G0 j i' k→((G0 i o k ∧ ¬ F1 k)∨F1' k)→j=i∧i' = o:=fun j i' k hk hk' => by
            rcases hk' with hk' | hk'
            · exact h3 j i' i o k hk hk'.1
            · rcases hF' k hk' with hf | hf
              · exact h3 j i' i o k hk (a1 k hf)
              · exact absurd (h2 j i' k hk).1 hf
          split at hk <;> split at hk'
          · rename_i e1 e2; exact ⟨e1.1.trans e2.1.symm,e1.2.trans e2.2.symm⟩
          · rename_i e1 e2; exact absurd (cross j' i'' k hk' hk) e2
          · rename_i e1 e2; exact absurd (cross j i' k hk hk') e1
          · exact h3 j i' j' i'' k hk hk'
        · have hj' : j<xs.length:=by simpa using hj
          by_cases ej : j=i
          · subst ej
            have e1 : (xs.set j y)[j]=y:=by simp
            rw [e1,henc] at hl'
            by_cases eo : i' = o
            · subst eo
              simp only [and_self,if_true]
              have : ((K.enc t x).set i' (Lf.row t1 ys'))[i']? = some (.row t1 ys'):=by
                rw [List.getElem?_set]
                simp [show i' < (K.enc t x).length by rw [K.enc_len]; exact ho]
              rw [this] at hl'
              cases hl'
              exact hO'
            · rw [List.getElem?_set,if_neg (fun e=>eo e.symm)] at hl'
              exact ((h4 j hj' i' l' (by rw [hxe]; exact hl')).frame fun k hk=>hsame j i' k hk fun h=>eo h.2).mono fun k hk=>by rw [if_neg (fun h=>eo h.2)]; exact hk
          · have e1 : (xs.set i y)[j]=xs[j]:=by
              rw [List.getElem_set,if_neg (fun e=>ej e.symm)]
            rw [e1] at hl'
            exact ((h4 j hj' i' l' hl').frame fun k hk=>hsame j i' k hk fun h=>ej h.1).mono fun k hk=>by rw [if_neg (fun h=>ej h.1)]; exact hk
      · cases hk

/-- What is known of a place that is handed on. -/
def TgOk (K : Cd C) (w : World) (base : Nat) (S : St C) (β : Nat→Value) (fp : Nat→Nat→Prop) (F1 : Nat→Prop) (u : Value) : Tgt→Prop
  | none => ∀ k,¬ F1 k
  | some (id,p) => ∃ (t : Ty) (xs : List (C t)),lk S.objs id=some (.row t xs false)∧(∀ k,F1 k→fp id k) ∧
      ∀ (w' : World) (F1' : Nat→Prop) (l : Lf C),(∀ k,fp id k → ¬ F1 k→w'.heap[k]? = w.heap[k]?)→(∀ k,F1' k→F1 k ∨ ¬ fp id k)→Own K w' base F1' l u →
        ∀ (R : Type) (kk : List (C t)→Option R) (r : R),setPath K p t xs l kk=some r → ∃ xs',kk xs' = some r∧Own K w' base (fun k=>(fp id k ∧ ¬ F1 k)∨F1' k) (.row t xs') (β id)

theorem ownL_ok (hs : Sim X.K w0 nt S β fp a w) {l : Lf C} {u : Value} (hl : LfOk X.K w S.objs β fp (stbOf S.objs fp w) l u) {kk : Lf C→Tgt→Option R} (h : ownL X S l kk=some r) :
    ∃ (l' : Lf C) (tg : Tgt) (F1 : Nat→Prop),kk l' tg=some r∧l'.plain=true∧Own X.K w w0.heap.size F1 l' u∧TgOk X.K w w0.heap.size S β fp F1 u tg:=by
  cases l with
  | ref id p =>
    simp only [ownL] at h
    split at h
    · rename_i t xs ho
      have hob : Own X.K w w0.heap.size (fp id) (.row t xs) (β id):=hs.objs id _ ho
      have fin : ∀ (t' : Ty) (zs : List (C t')),PRes X.K w (fp id) t xs (β id) p t' zs u → ∃ (l' : Lf C) (tg : Tgt) (F1 : Nat→Prop),kk l' tg=some r∧l'.plain=true∧Own X.K w w0.heap.size F1 l' u∧TgOk X.K w w0.heap.size S β fp F1 u tg:=fun t' zs hp=>by
        obtain ⟨F1,a1,a2,a3⟩:=own_set hp (fp id) hob
        exact ⟨.row t' zs,some (id,p),F1,path_pres hp h,rfl,a2,t,xs,ho,a1,a3⟩
      cases p with
      | nil =>
        have e : u=β id:=hl.2
        subst e
        exact fin t xs (.nil ..)
      | cons s p =>
        obtain ⟨_,t',zs,hp⟩:=hl.2 t xs false ho
        exact fin t' zs hp
    · cases h
  | nil t =>
    have e : u = .slice none 0 0:=hl
    subst e
    exact ⟨.row t [],none,fun _=>False,h,rfl,own_nil t,fun _ h=>h⟩
  | int ki n=>have e : u=_:=hl; subst e; exact ⟨_,none,fun _=>False,h,rfl,.int ..,fun _ h=>h⟩
  | bool b=>have e : u=_:=hl; subst e; exact ⟨_,none,fun _=>False,h,rfl,.bool ..,fun _ h=>h⟩
  | str s=>have e : u=_:=hl; subst e; exact ⟨_,none,fun _=>False,h,rfl,.str ..,fun _ h=>h⟩
  | _=>simp [ownL] at h

def TgsOk (K : Cd C) (w : World) (base : Nat) (S : St C) (β : Nat→Value) (fp G : Nat→Nat→Prop) (ls : List (Lf C)) (ts : List Tgt) (us : List Value) : Prop :=
  us.length=ls.length∧ts.length=ls.length ∧ ∀ (m : Nat) (l : Lf C),ls[m]? = some l→l.plain=true∧Own K w base (G m) l (us.getD m undef) ∧ ∃ tg,ts[m]? = some tg∧TgOk K w base S β fp (G m) (us.getD m undef) tg

theorem tgs_append {K : Cd C} {base : Nat} {G G' : Nat→Nat→Prop} {ls ls' : List (Lf C)} {ts ts' : List Tgt} {us us' : List Value} (h : TgsOk K w base S β fp G ls ts us) (h' : TgsOk K w base S β fp G' ls' ts' us') :
    TgsOk K w base S β fp (fun m=>if m<ls.length then G m else G' (m - ls.length)) (ls++ls') (ts++ts') (us++us'):=by
  refine ⟨by simp [h.1,h'.1],by simp [h.2.1,h'.2.1],fun m l hm => ?_⟩
  rcases cat_get hm with ⟨hj,hx⟩ | ⟨hj,hx⟩
  · have:=h.2.2 m l hx
    have e1 : (us++us').getD m undef=us.getD m undef:=by simp [List.getD,List.getElem?_append_left (by rw [h.1]; exact hj : m<us.length)]
    have e2 : (ts++ts')[m]? = ts[m]? := List.getElem?_append_left (by rw [h.2.1]; exact hj)
    simp only [hj,if_true,e1,e2]
    exact this
  · have:=h'.2.2 _ l hx
    have e1 : (us++us').getD m undef=us'.getD (m - ls.length) undef:=by simp [List.getD,List.getElem?_append_right (by rw [h.1]; exact hj : us.length≤m),h.1]
    have e2 : (ts++ts')[m]? = ts'[m - ls.length]? := by rw [List.getElem?_append_right (by rw [h.2.1]; exact hj),h.2.1]
    rw [e1,e2]
    simp only [show ¬ m<ls.length by omega,if_false]
    exact this

theorem ownLs_ok (hs : Sim X.K w0 nt S β fp a w) : ∀ {ls : List (Lf C)} {us : List Value} {kk : List (Lf C)→List Tgt→Option R},LfsOk X.K w S.objs β fp (stbOf S.objs fp w) ls us→ownLs X S ls kk=some r →
    ∃ (ls' : List (Lf C)) (ts : List Tgt) (G : Nat→Nat→Prop),kk ls' ts=some r∧ls'.length=ls.length∧TgsOk X.K w w0.heap.size S β fp G ls' ts us
  | [],us,kk,hl,h=>⟨[],[],fun _ _=>False,h,rfl,by rw [hl.1],rfl,fun m l hm=>by simp at hm⟩
  | l::ls,us,kk,hl,h=>by
    obtain ⟨u,us,rfl⟩ : ∃ u us',us=u::us' := by
      cases us with
      | nil=>have:=hl.1; simp at this
      | cons u us=>exact ⟨u,us,rfl⟩
    simp only [ownLs] at h
    obtain ⟨l',tg,F1,h1,h2,h3,h4⟩:=ownL_ok hs (hl.2 0 l rfl) h
    have hl1 : LfsOk X.K w S.objs β fp (stbOf S.objs fp w) ls us:=⟨by have:=hl.1; simpa using this,fun i l' hi=>hl.2 (i+1) l' (by simpa using hi)⟩
    obtain ⟨ls',ts,G,q1,q2,q3⟩:=ownLs_ok hs hl1 h1
    have h0 : TgsOk X.K w w0.heap.size S β fp (fun _=>F1) [l'] [tg] [u]:=⟨rfl,rfl,fun m l hm=>by
      cases m with
      | zero=>simp at hm; subst hm; exact ⟨h2,h3,tg,rfl,h4⟩
      | succ m=>simp at hm⟩
    exact ⟨l' :: ls',tg::ts,_,q1,by simp [q2],tgs_append h0 q3⟩

theorem ownAll_ok (hs : Sim X.K w0 nt S β fp a w) : ∀ {xs : List Operand} {ts : List TypeId} {kk : List (Bool×List (Lf C))→List Tgt→Option R},ownAll X S xs ts kk=some r →
    ∃ (rs : List (Bool×List (Lf C))) (tg : List Tgt) (us : List Value) (G : Nat→Nat→Prop),kk rs tg=some r∧okRes rs=true∧xs.map a.eval=packAll rs us∧TgsOk X.K w w0.heap.size S β fp G (flatten rs) tg us
  | [],ts,kk,h=>⟨[],[],[],fun _ _=>False,h,rfl,rfl,rfl,rfl,fun m l hm=>by simp [flatten] at hm⟩
  | x::xs,ts,kk,h=>by
    simp only [ownAll] at h
    split at h
    · rename_i l hv
      have hv : LfOk X.K w S.objs β fp (stbOf S.objs fp w) l (a.eval x):=opdT_ok hs hv
      obtain ⟨ls',t1,G1,h1,h2,h3⟩:=ownLs_ok hs (ls:=[l]) (us:=[a.eval x]) ⟨rfl,fun i l' hi=>by cases i with | zero=>simp at hi; subst hi; exact hv | succ i=>simp at hi⟩ h
      obtain ⟨rs,tg,us,G,q1,q2,q3,q4⟩:=ownAll_ok hs h1
      have hlen : ls'.length=1:=h2
      refine ⟨(false,ls')::rs,t1++tg,[a.eval x]++us,_,q1,by simp [okRes,hlen,q2],?_,tgs_append h3 q4⟩
      simp [packAll,packOne,hlen,q3]
    · rename_i ls hv
      obtain ⟨us0,e,hl⟩:=opdT_ok hs hv
      obtain ⟨ls',t1,G1,h1,h2,h3⟩:=ownLs_ok hs hl h
      obtain ⟨rs,tg,us,G,q1,q2,q3,q4⟩:=ownAll_ok hs h1
      refine ⟨(true,ls')::rs,t1++tg,us0++us,_,q1,by simp [okRes,q2],?_,tgs_append h3 q4⟩
      have e1 : us0.length=ls'.length:=h3.1
      simp [packAll,packOne,← e1,q3,e]
    · cases h
end
end Go.Proofs.Ytakakoogpmhhkaa.Ab

/- The abstract machine: functions that write through what they are handed,part 2: the caller behind the call. -/
set_option linter.unusedVariables false
set_option linter.unusedSimpArgs false
set_option linter.unusedSectionVars false
namespace Go.Proofs.Ytakakoogpmhhkaa.Ab
open Go Go.RowKit

section
variable {Ty : Type} [DecidableEq Ty] {C : Ty→Type}
variable {P : Program} {X : Cx C} {w0 w : World} {nt : Nat} {S : St C} {β : Nat→Value} {fp : Nat→Nat→Prop} {a : Act} {R : Type} {k : St C→Option R} {r : R}
variable {Q : Exit→Act→World→Prop}

/-- A cell that names a place inside a row. -/
def placeL : Lf C→Bool
  | .ref _ (_::_)=>true
  | .ep .. => true
  | .sub .. => true
  | _=>false

section
variable {K : Cd C} {w' : World} {objs objs' : Objs C} {β' : Nat→Value} {fp' : Nat→Nat→Prop} {stb stb' : Nat→Prop}
theorem LfOk.trU {l : Lf C} {v : Value} (h : LfOk K w objs β fp stb l v) (hst : ∀ k,stb k→stb' k∧w'.heap[k]? = w.heap[k]?) (hβ : ∀ id,id ∈ idsL l→β' id=β id)
    (hk : ∀ id,id ∈ idsL l→placeL l=true→Keeps w w' objs objs' β β' fp fp' id) : LfOk K w' objs' β' fp' stb' l v:=by
  cases l with
  | ptr id off=>obtain ⟨b,h1,h2⟩:=h; exact ⟨b,(hβ id (by simp [idsL])).trans h1,h2⟩
  | vo id=>exact ⟨h.1,h.2.trans (hβ id (by simp [idsL])).symm⟩
  | ref id p =>
    cases p with
    | nil=>exact ⟨h.1,h.2.trans (hβ id (by simp [idsL])).symm⟩
    | cons s p=>exact h.tr hst fun id hi=>hk id hi rfl
  | ep id p i o=>exact h.tr hst fun id hi=>hk id hi rfl
  | sub id lo hi=>exact h.tr hst fun id hi=>hk id hi rfl
  | _=>exact h.tr hst fun id hi=>by simp [idsL] at hi
def okU (U : Nat→Prop) (β β' : Nat→Value) (K' : Nat→Prop) (l : Lf C) : Prop:=(∀ id,id ∈ idsL l→β' id=β id) ∧ ∀ id,id ∈ idsL l→placeL l=true→K' id
theorem LfsOk.trU {ls : List (Lf C)} {vs : List Value} (h : LfsOk K w objs β fp stb ls vs) (hst : ∀ k,stb k→stb' k∧w'.heap[k]? = w.heap[k]?) (hβ : ∀ l,l ∈ ls → ∀ id,id ∈ idsL l→β' id=β id)
    (hk : ∀ l,l ∈ ls → ∀ id,id ∈ idsL l→placeL l=true→Keeps w w' objs objs' β β' fp fp' id) : LfsOk K w' objs' β' fp' stb' ls vs :=
  ⟨h.1,fun i l hl=>(h.2 i l hl).trU hst (hβ l (List.mem_of_getElem? hl)) (hk l (List.mem_of_getElem? hl))⟩
/-- All cells of a value. -/
def allL : SV C→List (Lf C)
  | .one l=>[l]
  | .agg ls=>ls
  | .tup vs=>vs.flatMap (·.2)
  | .sus x _=>x.2
  | _=>[]
theorem SVOk.trU {x : SV C} {v : Value} (h : SVOk K w objs β fp stb x v) (hst : ∀ k,stb k→stb' k∧w'.heap[k]? = w.heap[k]?) (hβ : ∀ id,id ∈ idsV0 x→β' id=β id)
    (hk : ∀ l,l ∈ allL x → ∀ id,id ∈ idsL l→placeL l=true→Keeps w w' objs objs' β β' fp fp' id) : SVOk K w' objs' β' fp' stb' x v:=by
  cases x with
  | one l=>exact LfOk.trU h hst hβ (hk l (by simp [allL]))
  | agg ls =>
    obtain ⟨vs,h1,h2⟩:=h
    exact ⟨vs,h1,h2.trU hst (fun l hl id hi=>hβ id (by obtain ⟨i,hi',rfl⟩:=List.getElem_of_mem hl; exact mem_idsLs (i:=i) (by simp [hi']) hi)) fun l hl=>hk l hl⟩
  | tup xs =>
    obtain ⟨vs,h1,h2,h3⟩:=h
    refine ⟨vs,h1,h2,fun i x hx => ?_⟩
    have hmem:=List.mem_of_getElem? hx
    have hm : ∀ id,id ∈ idsLs x.2→id ∈ idsT xs:=by
      clear h3 h2 h1 hβ hk hmem
      induction xs generalizing i with
      | nil=>simp at hx
      | cons y r ih =>
        intro id hi
        obtain ⟨b,ls⟩:=y
        simp only [idsT,List.mem_append]
        cases i with
        | zero=>simp at hx; subst hx; exact .inl hi
        | succ i=>simp at hx; exact .inr (ih i hx id hi)
    have hin : ∀ l,l ∈ x.2→l ∈ allL (.tup xs):=fun l hl=>by simp only [allL,List.mem_flatMap]; exact ⟨x,hmem,hl⟩
    have hids : ∀ l,l ∈ x.2 → ∀ id,id ∈ idsL l→β' id=β id:=fun l hl id hi=>hβ id (hm id (by obtain ⟨i,hi',rfl⟩:=List.getElem_of_mem hl; exact mem_idsLs (i:=i) (by simp [hi']) hi))
    have:=h3 i x hx
    obtain ⟨b,ls⟩:=x
    cases b with
    | false =>
      obtain ⟨l,h1,h2⟩:=this
      subst h1
      exact ⟨l,rfl,h2.trU hst (hids l (by simp)) (hk l (hin l (by simp)))⟩
    | true=>obtain ⟨vs,h1,h2⟩:=this; exact ⟨vs,h1,h2.trU hst hids fun l hl=>hk l (hin l hl)⟩
  | und=>exact h
  | hdr id j=>exact (hβ id (by simp [idsV0])).trans h
  | frame=>exact fun k hk=>⟨(hst k (h k hk).1).1,(hst k (h k hk).1).2.trans (h k hk).2⟩
  | sus x j =>
    obtain ⟨b,ls⟩:=x
    cases b with
    | false =>
      obtain ⟨l,h1,h2⟩:=h
      have h1 : ls=[l]:=h1
      subst h1
      exact ⟨l,rfl,h2.trU hst (fun id hi=>hβ id (by simpa [idsV0,idsLs] using hi)) (hk l (by simp [allL]))⟩
    | true=>obtain ⟨vs,h1,h2⟩:=h; exact ⟨vs,h1,h2.trU hst (fun l hl id hi=>hβ id (by obtain ⟨i,hi',rfl⟩:=List.getElem_of_mem hl; exact mem_idsLs (i:=i) (by simp [hi']) hi)) fun l hl=>hk l hl⟩

/-- Things are turned,things are new; U: these. -/
theorem Sim.write (hs : Sim K w0 nt S β fp a w) {S' : St C} (hb : Below w0.heap.size w0 w') (U : Nat→Prop)
    (hst : ∀ k,stbOf S.objs fp w k→stbOf S'.objs fp' w' k∧w'.heap[k]? = w.heap[k]?)
    (hkeep : ∀ id ob,¬ U id→lk S'.objs id=some ob→lk S.objs id=some ob∧fp' id=fp id ∧ ∀ k,fp id k→k<w'.heap.size∧w'.heap[k]? = w.heap[k]?)
    (hβo : ∀ id ob,¬ U id→lk S'.objs id=some ob→β' id=β id ∧ ∀ kd ls,ob = .box kd ls → ∀ i,i ∈ idsLs ls→β' i=β i)
    (hβe : ∀ t v,lk S'.env t=some v → ∀ i,i ∈ idsV0 v→β' i=β i)
    (hfresh : ∀ id ob k,U id→lk S'.objs id=some ob→fp' id k→w0.heap.size≤k∧k<w'.heap.size)
    (hdisj : ∀ id id' ob ob' k,(U id∨U id')→lk S'.objs id=some ob→lk S'.objs id' = some ob' → fp' id k→fp' id' k→id=id')
    (hU : ∀ id ob,U id→lk S'.objs id=some ob → ∃ t xs,ob = .row t xs false∧Own K w' w0.heap.size (fp' id) (.row t xs) (β' id))
    (hbox : ∀ id kd ls,¬ U id→lk S'.objs id=some (.box kd ls) → ∀ l,l ∈ ls→placeL l=true → ∀ i,i ∈ idsL l → ¬ U i)
    (henv : ∀ t v,lk S'.env t=some v→lk S.env t=some v ∧ ∀ l,l ∈ allL v→placeL l=true → ∀ i,i ∈ idsL l → ¬ U i) : Sim K w0 nt S' β' fp' a w' := by
  have keeps : ∀ i,¬ U i→β' i=β i→Keeps w w' S.objs S'.objs β β' fp fp' i:=fun i hi hn=>by
    refine ⟨hn,fun t xs sh ho => ?_⟩
    obtain ⟨h1,h2,h3⟩:=hkeep i _ hi ho
    exact ⟨h1,fun k hk=>⟨by rw [h2]; exact hk,(h3 k hk).2⟩⟩
  refine ⟨hb,hs.defers,hs.size,fun id ob k ho hk => ?_,fun id id' ob ob' k ho ho' hk hk' => ?_,fun id ob ho => ?_,fun t v ht => ?_⟩
  · by_cases hu : U id
    · exact hfresh id ob k hu ho hk
    · obtain ⟨h1,h2,h3⟩:=hkeep id ob hu ho
      rw [h2] at hk
      exact ⟨(hs.fresh id ob k h1 hk).1,(h3 k hk).1⟩
  · by_cases hu : U id∨U id'
    · exact hdisj id id' ob ob' k hu ho ho' hk hk'
    · obtain ⟨h1,h2,_⟩:=hkeep id ob (fun h=>hu (.inl h)) ho
      obtain ⟨h1',h2',_⟩:=hkeep id' ob' (fun h=>hu (.inr h)) ho'
      rw [h2] at hk
      rw [h2'] at hk'
      exact hs.disj id id' ob ob' k h1 h1' hk hk'
  · by_cases hu : U id
    · obtain ⟨t,xs,rfl,h⟩:=hU id ob hu ho
      exact h
    · obtain ⟨h1,h2,h3⟩:=hkeep id ob hu ho
      obtain ⟨hn,hn2⟩:=hβo id ob hu ho
      have hob:=hs.objs id ob h1
      rw [h2,hn]
      cases ob with
      | row t xs sh=>exact hob.tr hst (fun k hk=>(h3 k hk).2) (fun _ ls e=>by cases e)
      | map mk kt vt xs c=>exact hob.tr hst (fun k hk=>(h3 k hk).2) (fun _ ls e=>by cases e)
      | ghost=>exact hob.tr hst (fun k hk=>(h3 k hk).2) (fun _ ls e=>by cases e)
      | box kd ls =>
        have hin : ∀ l,l ∈ ls → ∀ i,i ∈ idsL l→i ∈ idsLs ls:=fun l hl i hi=>by
          obtain ⟨j,hj,rfl⟩:=List.getElem_of_mem hl
          exact mem_idsLs (i:=j) (by simp [hj]) hi
        have go : ∀ {us : List Value},LfsOk K w S.objs β fp (stbOf S.objs fp w) ls us→LfsOk K w' S'.objs β' fp' (stbOf S'.objs fp' w') ls us:=fun q4=>q4.trU hst (fun l hl i hi=>hn2 _ ls rfl i (hin l hl i hi)) fun l hl i hi hp=>keeps i (hbox id _ ls hu ho l hl hp i hi) (hn2 _ ls rfl i (hin l hl i hi))
        cases kd with
        | mem =>
          obtain ⟨b,cs,e,q1,q2,q3,q4⟩:=hob
          exact ⟨b,cs,e,q1,((h3 b ((q3 b).2 rfl)).2).trans q2,q3,go q4⟩
        | clo f n sh=>obtain ⟨us,q1,q2,q3⟩:=hob; exact ⟨us,q1,q2,go q3⟩
        | ifc t sh=>obtain ⟨us,q1,q2,q3⟩:=hob; exact ⟨us,q1,q2,go q3⟩
  · obtain ⟨h1,h2⟩:=henv t v ht
    refine (hs.env t v h1).trU hst (fun i hi=>hβe t v ht i hi) fun l hl i hi hp=>keeps i (h2 l hl hp i hi) (hβe t v ht i ?_)
    cases v with
    | one l' => simp only [allL,List.mem_singleton] at hl; subst hl; exact hi
    | agg ls =>
      have hl : l ∈ ls:=hl
      obtain ⟨j,hj,rfl⟩:=List.getElem_of_mem hl
      exact mem_idsLs (i:=j) (by simp [hj]) hi
    | tup xs =>
      simp only [allL,List.mem_flatMap] at hl
      obtain ⟨x,hx,hl⟩:=hl
      show i ∈ idsT xs
      clear h2 ht h1 hp
      induction xs with
      | nil=>cases hx
      | cons y r ih =>
        obtain ⟨b,ls⟩:=y
        simp only [idsT,List.mem_append]
        rcases List.mem_cons.1 hx with e | hx
        · subst e; left; obtain ⟨j,hj,rfl⟩:=List.getElem_of_mem hl; exact mem_idsLs (i:=j) (by simp [hj]) hi
        · exact .inr (ih hx)
    | sus x j =>
      have hl : l ∈ x.2:=hl
      obtain ⟨m,hm,rfl⟩:=List.getElem_of_mem hl
      exact mem_idsLs (i:=m) (by simp [hm]) hi
    | _=>simp [allL] at hl
end

theorem nodupB_ok : ∀ {l : List Nat},nodupB l=true→l.Nodup
  | [],_=>List.nodup_nil
  | n::r,h=>by
    simp only [nodupB,Bool.and_eq_true,Bool.not_eq_true'] at h
    refine List.nodup_cons.2 ⟨fun hm => ?_,nodupB_ok h.2⟩
    have:=List.any_eq_false.1 h.1 n hm
    exact this (Nat.beq_refl n)

theorem mem_tids : ∀ {ts : List Tgt} {id : Nat},id ∈ tids ts ↔ ∃ (m : Nat) (p : List (Nat×Nat)),ts[m]? = some (some (id,p))
  | [],id=>by simp [tids]
  | none::ts,id=>by
    simp only [tids]
    rw [mem_tids (ts:=ts)]
    constructor
    · rintro ⟨m,p,h⟩; exact ⟨m+1,p,by simpa using h⟩
    · rintro ⟨m,p,h⟩
      cases m with
      | zero=>simp at h
      | succ m=>exact ⟨m,p,by simpa using h⟩
  | some (i,p0)::ts,id=>by
    simp only [tids,List.mem_cons]
    rw [mem_tids (ts:=ts)]
    constructor
    · rintro (e | ⟨m,p,h⟩)
      · exact ⟨0,p0,by rw [e]; rfl⟩
      · exact ⟨m+1,p,by simpa using h⟩
    · rintro ⟨m,p,h⟩
      cases m with
      | zero=>simp at h; exact .inl h.1.symm
      | succ m=>exact .inr ⟨m,p,by simpa using h⟩
theorem tids_inj : ∀ {ts : List Tgt},(tids ts).Nodup → ∀ {id m m' : Nat} {p p' : List (Nat×Nat)},ts[m]? = some (some (id,p))→ts[m']? = some (some (id,p'))→m=m'
  | [],_,id,m,m',p,p',h,_=>by simp at h
  | none::ts,hn,id,m,m',p,p',h,h' => by
    cases m with
    | zero=>simp at h
    | succ m=>cases m' with
      | zero=>simp at h'
      | succ m' => have:=tids_inj (ts:=ts) hn (by simpa using h) (by simpa using h'); omega
  | some (i,p0)::ts,hn,id,m,m',p,p',h,h' => by
    simp only [tids] at hn
    obtain ⟨h1,h2⟩:=List.nodup_cons.1 hn
    cases m with
    | zero=>cases m' with
      | zero=>rfl
      | succ m' =>
        simp at h
        obtain ⟨rfl,_⟩:=h
        exact absurd (mem_tids.2 ⟨m',p',by simpa using h'⟩) h1
    | succ m=>cases m' with
      | zero =>
        simp at h'
        obtain ⟨rfl,_⟩:=h'
        exact absurd (mem_tids.2 ⟨m,p,by simpa using h⟩) h1
      | succ m' => have:=tids_inj (ts:=ts) h2 (by simpa using h) (by simpa using h'); omega

/-- What stands in the state behind the call. -/
structure PutOk (X : Cx C) (w0 w' : World) (S : St C) (β : Nat→Value) (fp G G' : Nat→Nat→Prop) (ts : List Tgt) (j n : Nat) (S1 S2 : St C) (φ φ' : Nat→Nat→Prop) (J M : Nat→Nat) : Prop where
  env : S2.env=S1.env
  base : S2.base=S1.base
  other : ∀ id,id ∉ tids ts→lk S2.objs id=lk S1.objs id∧φ' id=φ id
  at' : ∀ id,id ∈ tids ts→j≤J id∧J id<j+n∧(∃ p,ts[M id]? = some (some (id,p)))∧(∃ t xs,lk S2.objs id=some (.row t xs false)∧Own X.K w' w0.heap.size (φ' id) (.row t xs) (β id)) ∧
    ∀ k,φ' id k→(fp id k ∧ ¬ G (M id) k)∨G' (J id) k
  inj : ∀ id id',id ∈ tids ts→id' ∈ tids ts→J id=J id' → id=id'

theorem putAll_ok {w' : World} {kk : St C→Option R} {G' : Nat→Nat→Prop} : ∀ (ls : List (Lf C)) (ts : List Tgt) (os : List (Lf C)) (us : List Value) (G : Nat→Nat→Prop) (j : Nat) (S1 : St C) (φ : Nat→Nat→Prop),
    us.length=ls.length→(∀ (m : Nat) (l : Lf C),ls[m]? = some l → ∃ tg,ts[m]? = some tg∧TgOk X.K w w0.heap.size S β fp (G m) (us.getD m undef) tg) →
    (∀ (m id : Nat) (p : List (Nat×Nat)),ts[m]? = some (some (id,p))→(∀ k,fp id k → ¬ G m k→w'.heap[k]? = w.heap[k]?) ∧ ∀ j k,G' j k→G m k ∨ ¬ fp id k) →
    (∀ (i : Nat) (l : Lf C),os[i]? = some l→Own X.K w' w0.heap.size (G' (j+i)) l ((rowsOf ls us).getD i undef))→(tids ts).Nodup→(∀ id,id ∈ tids ts→lk S1.objs id=lk S.objs id) →
    putAll X.K ls ts os S1 kk=some r → ∃ (S2 : St C) (φ' : Nat→Nat→Prop) (J M : Nat→Nat),kk S2=some r∧PutOk X w0 w' S β fp G G' ts j os.length S1 S2 φ φ' J M:=by
  intro ls
  induction ls with
  | nil =>
    intro ts os us G j S1 φ hl htg hfr hos hnd hS1 h
    cases ts with
    | cons _ _=>simp [putAll] at h
    | nil=>cases os with
      | cons _ _=>simp [putAll] at h
      | nil=>exact ⟨S1,φ,id,id,h,rfl,rfl,fun id _=>⟨rfl,rfl⟩,fun id hi=>by simp [tids] at hi,fun id id' hi=>by simp [tids] at hi⟩
  | cons l ls ih =>
    intro ts os us G j S1 φ hl htg hfr hos hnd hS1 h
    obtain ⟨u,us,rfl⟩ : ∃ u us',us=u::us' := by
      cases us with
      | nil=>simp at hl
      | cons u us=>exact ⟨u,us,rfl⟩
    have hl' : us.length=ls.length:=by simpa using hl
    cases ts with
    | nil=>cases l <;> simp [putAll] at h
    | cons tg ts =>
      have htg' : ∀ (m : Nat) (l : Lf C),ls[m]? = some l → ∃ tg,ts[m]? = some tg∧TgOk X.K w w0.heap.size S β fp (G (m+1)) (us.getD m undef) tg:=fun m l hm=>by
        have:=htg (m+1) l (by simpa using hm)
        simpa using this
      have hfr' : ∀ (m id : Nat) (p : List (Nat×Nat)),ts[m]? = some (some (id,p))→(∀ k,fp id k → ¬ G (m+1) k→w'.heap[k]? = w.heap[k]?) ∧ ∀ j k,G' j k→G (m+1) k ∨ ¬ fp id k:=fun m id p hm=>hfr (m+1) id p (by simpa using hm)
      -- a step without a target
      have plain : ∀ (os' : List (Lf C)) (j' : Nat),tg=none→(∀ (i : Nat) (l : Lf C),os'[i]? = some l→Own X.K w' w0.heap.size (G' (j' + i)) l ((rowsOf ls us).getD i undef))→j≤j' → j' + os'.length≤j+os.length →
          putAll X.K ls ts os' S1 kk=some r → ∃ (S2 : St C) (φ' : Nat→Nat→Prop) (J M : Nat→Nat),kk S2=some r∧PutOk X w0 w' S β fp G G' (tg::ts) j os.length S1 S2 φ φ' J M:=by
        intro os' j' e hos' h1 h2 hp
        subst e
        obtain ⟨S2,φ',J,M,q1,q2⟩:=ih ts os' us (fun m=>G (m+1)) j' S1 φ hl' htg' hfr' hos' (by simpa [tids] using hnd) (fun id hi=>hS1 id (by simpa [tids] using hi)) hp
        refine ⟨S2,φ',J,fun id=>M id+1,q1,q2.env,q2.base,fun id hi=>q2.other id (by simpa [tids] using hi),fun id hi => ?_,fun id id' hi hi' => q2.inj id id' (by simpa [tids] using hi) (by simpa [tids] using hi')⟩
        obtain ⟨a1,a2,a3,a4,a5⟩:=q2.at' id (by simpa [tids] using hi)
        exact ⟨by omega,by omega,by simpa using a3,a4,a5⟩
      cases l with
      | row t0 xs0 =>
        cases os with
        | nil=>cases tg with
          | none=>simp [putAll] at h
          | some x=>obtain ⟨id,p⟩:=x; simp [putAll] at h
        | cons l1 os =>
          have hos1 : ∀ (i : Nat) (l : Lf C),os[i]? = some l→Own X.K w' w0.heap.size (G' (j+1+i)) l ((rowsOf ls us).getD i undef):=fun i l hi=>by
            have:=hos (i+1) l (by simpa using hi)
            rw [show j+1+i=j+(i+1) by omega]
            simpa [rowsOf] using this
          cases tg with
          | none=>exact plain os (j+1) rfl hos1 (by omega) (by simp; omega) (by simpa [putAll] using h)
          | some x =>
            obtain ⟨id,p⟩:=x
            simp only [tids] at hnd hS1
            obtain ⟨hnd1,hnd2⟩:=List.nodup_cons.1 hnd
            obtain ⟨tg',e,htg0⟩:=htg 0 _ rfl
            have e : some (id,p)=tg' := by simpa using e
            subst e
            obtain ⟨ht,xs,ho,hsub,hset⟩:=htg0
            simp only [putAll] at h
            rw [hS1 id (by simp),ho] at h
            simp only at h
            obtain ⟨f1,f2⟩:=hfr 0 id p rfl
            have hO:=hos 0 l1 rfl
            obtain ⟨xs',hk,hown⟩:=hset w' (G' j) l1 f1 (fun k hk=>f2 j k hk) (by simpa [rowsOf] using hO) R _ r h
            obtain ⟨S2,φ',J,M,q1,q2⟩:=ih ts os us (fun m=>G (m+1)) (j+1) _ (upd φ id fun k=>(fp id k ∧ ¬ G 0 k)∨G' j k) hl' htg' hfr' hos1 hnd2 (fun i hi=>by
              have hne : i≠id:=fun e=>hnd1 (e ▸ hi)
              simp only [St.setObj,lk_cons,if_neg hne]
              exact hS1 i (by simp [hi])) hk
            obtain ⟨o1,o2⟩:=q2.other id hnd1
            refine ⟨S2,φ',upd J id j,fun i=>if i=id then 0 else M i+1,q1,q2.env,q2.base,fun i hi => ?_,fun i hi => ?_,fun i i' hi hi' e => ?_⟩
            · simp only [tids,List.mem_cons,not_or] at hi
              obtain ⟨h1,h2⟩:=q2.other i hi.2
              simp only [St.setObj,lk_cons,if_neg hi.1] at h1
              exact ⟨h1,h2.trans (upd_ne _ _ hi.1)⟩
            · by_cases e : i=id
              · subst e
                simp only [upd_same,if_true]
                refine ⟨Nat.le_refl _,by simp,⟨p,rfl⟩,⟨ht,xs',by rw [o1]; simp [St.setObj,lk_cons],by rw [o2,upd_same]; exact hown⟩,fun k hk => ?_⟩
                rw [o2,upd_same] at hk
                exact hk
              · simp only [tids,List.mem_cons] at hi
                obtain ⟨a1,a2,a3,a4,a5⟩:=q2.at' i (hi.resolve_left e)
                simp only [upd_ne _ _ e,if_neg e]
                exact ⟨by omega,by simp; omega,by simpa using a3,a4,a5⟩
            · simp only [tids,List.mem_cons] at hi hi'
              by_cases e1 : i=id <;> by_cases e2 : i' = id
              · rw [e1,e2]
              · subst e1
                rw [upd_same,upd_ne _ _ e2] at e
                have:=(q2.at' i' (hi'.resolve_left e2)).1
                omega
              · subst e2
                rw [upd_same,upd_ne _ _ e1] at e
                have:=(q2.at' i (hi.resolve_left e1)).1
                omega
              · rw [upd_ne _ _ e1,upd_ne _ _ e2] at e
                exact q2.inj i i' (hi.resolve_left e1) (hi'.resolve_left e2) e
      | int ki n =>
        cases tg with
        | none=>exact plain os j rfl (fun i l hi=>by simpa [rowsOf] using hos i l hi) (Nat.le_refl _) (Nat.le_refl _) (by simpa [putAll] using h)
        | some x=>simp [putAll] at h
      | bool b =>
        cases tg with
        | none=>exact plain os j rfl (fun i l hi=>by simpa [rowsOf] using hos i l hi) (Nat.le_refl _) (Nat.le_refl _) (by simpa [putAll] using h)
        | some x=>simp [putAll] at h
      | str b =>
        cases tg with
        | none=>exact plain os j rfl (fun i l hi=>by simpa [rowsOf] using hos i l hi) (Nat.le_refl _) (Nat.le_refl _) (by simpa [putAll] using h)
        | some x=>simp [putAll] at h
      | _=>cases tg <;> simp [putAll] at h
end
end Go.Proofs.Ytakakoogpmhhkaa.Ab

/- The abstract machine: functions that write through what they are handed,part 3: the call. -/
set_option linter.unusedVariables false
set_option linter.unusedSimpArgs false
set_option linter.unusedSectionVars false
namespace Go.Proofs.Ytakakoogpmhhkaa.Ab
open Go Go.RowKit

section
variable {Ty : Type} [DecidableEq Ty] {C : Ty→Type}
variable {P : Program} {X : Cx C} {w0 w : World} {nt : Nat} {S : St C} {β : Nat→Value} {fp : Nat→Nat→Prop} {a : Act} {R : Type} {k : St C→Option R} {r : R}
variable {Q : Exit→Act→World→Prop}

theorem lk_mem {α : Type} : ∀ {l : List (Nat×α)} {n : Nat} {v : α},lk l n=some v→(n,v) ∈ l
  | [],n,v,h=>by simp [lk] at h
  | (m,x)::l,n,v,h=>by
    rw [lk_cons] at h
    split at h
    · rename_i e; cases h; subst e; simp
    · exact List.mem_cons_of_mem _ (lk_mem h)
theorem untouch_lk {ids : List Nat} : ∀ {E : List (Nat×SV C)} {t : Nat} {v : SV C},lk (untouch ids E) t=some v→lk E t=some v∧touchV ids v=false
  | [],t,v,h=>by simp [untouch,lk] at h
  | (m,x)::E,t,v,h=>by
    simp only [untouch] at h
    cases hx : touchV ids x with
    | true =>
      rw [hx,cond_true,lk_rm] at h
      split at h
      · cases h
      · rename_i hne
        obtain ⟨h1,h2⟩:=untouch_lk h
        exact ⟨by rw [lk_cons,if_neg hne]; exact h1,h2⟩
    | false =>
      rw [hx,cond_false,lk_cons] at h
      rw [lk_cons]
      split at h
      · rename_i e
        cases h
        exact ⟨by rw [if_pos e],hx⟩
      · rename_i e
        obtain ⟨h1,h2⟩:=untouch_lk h
        exact ⟨by rw [if_neg e]; exact h1,h2⟩
theorem any_beq {n : Nat} {l : List Nat} (h : l.any (Nat.beq n)=false) : n ∉ l:=fun hm=>List.any_eq_false.1 h n hm (Nat.beq_refl n)
theorem touchL_no {ids : List Nat} {l : Lf C} (h : touchL ids l=false) (hp : placeL l=true) : ∀ i,i ∈ idsL l→i ∉ ids:=by
  intro i hi
  cases l with
  | ref j p =>
    cases p with
    | nil=>cases hp
    | cons s p=>simp only [idsL,List.mem_singleton] at hi; subst hi; exact any_beq h
  | ep j p n o=>simp only [idsL,List.mem_singleton] at hi; subst hi; exact any_beq h
  | sub j lo hi' => simp only [idsL,List.mem_singleton] at hi; subst hi; exact any_beq h
  | _=>cases hp
theorem touchV_no {ids : List Nat} {v : SV C} (h : touchV ids v=false) : ∀ l,l ∈ allL v→touchL ids l=false:=by
  intro l hl
  cases v with
  | one l' => simp only [allL,List.mem_singleton] at hl; subst hl; exact h
  | agg ls =>
    have:=List.any_eq_false.1 (h : ls.any (touchL ids)=false) l hl
    simpa using this
  | tup xs =>
    simp only [allL,List.mem_flatMap] at hl
    obtain ⟨x,hx,hl⟩:=hl
    have h1:=List.any_eq_false.1 (h : (xs.any fun x=>x.2.any (touchL ids))=false) x hx
    have h1 : x.2.any (touchL ids)=false:=by simpa using h1
    have:=List.any_eq_false.1 h1 l hl
    simpa using this
  | sus x j =>
    have hl : l ∈ x.2:=hl
    have:=List.any_eq_false.1 (h : x.2.any (touchL ids)=false) l hl
    simpa using this
  | _=>simp [allL] at hl
theorem allL_ids {v : SV C} {l : Lf C} (hl : l ∈ allL v) {i : Nat} (hi : i ∈ idsL l) : i ∈ idsV0 v:=by
  cases v with
  | one l' => simp only [allL,List.mem_singleton] at hl; subst hl; exact hi
  | agg ls =>
    have hl : l ∈ ls:=hl
    obtain ⟨j,hj,rfl⟩:=List.getElem_of_mem hl
    exact mem_idsLs (i:=j) (by simp [hj]) hi
  | tup xs =>
    simp only [allL,List.mem_flatMap] at hl
    obtain ⟨x,hx,hl⟩:=hl
    show i ∈ idsT xs
    induction xs with
    | nil=>cases hx
    | cons y r ih =>
      obtain ⟨b,ls⟩:=y
      simp only [idsT,List.mem_append]
      rcases List.mem_cons.1 hx with e | hx
      · subst e; left; obtain ⟨j,hj,rfl⟩:=List.getElem_of_mem hl; exact mem_idsLs (i:=j) (by simp [hj]) hi
      · exact .inr (ih hx)
  | sus x j =>
    have hl : l ∈ x.2:=hl
    obtain ⟨m,hm,rfl⟩:=List.getElem_of_mem hl
    exact mem_idsLs (i:=m) (by simp [hm]) hi
  | _=>simp [allL] at hl

/-- A call of a function that writes through what it is handed. -/
theorem s_callW (hcon : ∀ f c,X.conw f=some c→ConWOk P X.K f c) (hs : Sim X.K w0 nt S β fp a w) {o : Oper} {dst : Option Tmp} (hd : slot dst nt) {f : FuncId} {as : Array Operand} {ts : Array TypeId} {ty : TypeId} {pos : String} {aft : Array Edge} {gd : Option (Nat×Bool)}
    (ho : o=⟨dst,.call { callee := .value (.func f),args:=as,argTypes:=ts },ty,pos,aft,gd⟩) (h : callW X S f as.toList ts.toList o k=some r) : Goal P X w0 nt k r Q o a w:=by
  have hod : o.dst=dst:=by rw [ho]
  subst hod
  unfold callW at h
  split at h
  case h_2=>cases h
  rename_i c hc
  obtain ⟨rs,tg,uls,G,h,hok,hargs,hul,htl,hG⟩:=ownAll_ok hs h
  obtain ⟨hnd,h⟩:=cond_some h
  simp only [Bool.and_eq_true,Bool.not_eq_true'] at hnd
  obtain ⟨hnd,hto⟩:=hnd
  have hnd:=nodupB_ok hnd
  cases hg : c.g rs with
  | none=>rw [hg] at h; cases h
  | some r0 =>
    rw [hg] at h
    simp only [Option.bind_some] at h
    let G0 : Nat→Nat→Prop:=fun m k=>m<(flatten rs).length∧G m k
    have hG0 : ∀ m,m<(flatten rs).length→G0 m=G m:=fun m hm=>by funext k; simp [G0,hm]
    have hleaf : ∀ (m : Nat) (l : Lf C),(flatten rs)[m]? = some l→l.plain=true∧Own X.K w w0.heap.size (G0 m) l (uls.getD m undef) ∧ ∃ t,tg[m]? = some t∧TgOk X.K w w0.heap.size S β fp (G0 m) (uls.getD m undef) t:=fun m l hm=>by
      rw [hG0 m (idx_lt hm)]; exact hG m l hm
    have hA : ∀ m k,G0 m k → ∃ id p ob,tg[m]? = some (some (id,p))∧fp id k∧lk S.objs id=some ob:=fun m k hk=>by
      obtain ⟨_,_,t,h1,h2⟩:=hleaf m (flatten rs)[m] (by simp [hk.1])
      cases t with
      | none=>exact absurd hk (h2 k)
      | some x=>obtain ⟨id,p⟩:=x; obtain ⟨t,xs,h3,h4,_⟩:=h2; exact ⟨id,p,_,h1,h4 k hk,h3⟩
    have hT : ∀ (m id : Nat) (p : List (Nat×Nat)),tg[m]? = some (some (id,p)) → ∃ ob,lk S.objs id=some ob:=fun m id p hm=>by
      have hlt : m<(flatten rs).length:=by rw [← htl]; exact idx_lt hm
      obtain ⟨_,_,t,h1,h2⟩:=hleaf m (flatten rs)[m] (by simp [hlt])
      rw [hm] at h1
      have e : some (id,p)=t:=Option.some.inj h1
      subst e
      obtain ⟨t,xs,h3,_⟩:=h2
      exact ⟨_,h3⟩
    have hone : ∀ (m id : Nat) (p : List (Nat×Nat)) (ob : Ob C) (m' k : Nat),tg[m]? = some (some (id,p))→lk S.objs id=some ob→fp id k→G0 m' k→m' = m:=fun m id p ob m' k hm hob hk hk' => by
      obtain ⟨id',p',ob',h1,h2,h3⟩:=hA m' k hk'
      have:=hs.disj id' id ob' ob k h3 hob h2 hk
      subst this
      exact tids_inj hnd h1 hm
    obtain ⟨⟨fn,hf1,hf2,hf3⟩,hcalls⟩:=hcon f c hc
    have hcall:=hcalls w0 w rs uls r0 G0 hs.defers.2 hs.below hok hul (fun m k hk=>by
        obtain ⟨id,p,ob,_,h2,h3⟩:=hA m k hk
        exact hs.fresh id ob k h3 h2) (fun m m' k hk hk' => by
        obtain ⟨id,p,ob,h1,h2,h3⟩:=hA m k hk
        exact (hone m id p ob m' k h1 h3 h2 hk').symm) (fun m l hm=>⟨(hleaf m l hm).1,(hleaf m l hm).2.1⟩) hg
    have hexec : (execOp a.eval o).run P w = .ok (.enter f (as.map a.eval)) w:=by
      have hf3' : (fn.name == "runtime.NumGoroutine") = false := by simpa using hf3
      rw [ho]
      simp [execOp,resolve,Deferred.ofValue,invoke,callFunc,hf1,hf2,hf3',Act.eval]
      rw [if_neg hf3,if_neg (by intro hb; simp [hb] at hf2)]
    show o.wp P a w (Next X.K w0 nt k r) Q
    unfold Oper.wp
    rw [hexec]
    show Calls P f (as.map a.eval) w _
    have e : as.map a.eval=(as.toList.map a.eval).toArray:=by rw [← Array.toList_map,Array.toArray_toList]
    rw [e,hargs]
    refine hcall.mono fun en w' ⟨v0,he,hb,hfr,rls,G',hp,hrl,hokr,holen,hG1,hG2,hG3⟩ => ?_
    subst he
    -- the rows are turned
    have hsep : ∀ x k,G' x k → ∀ id ob,lk S.objs id=some ob→fp id k → ∃ m,G0 m k:=fun x k hk id ob hob hf=>by
      rcases (hG1 x k hk).1 with h1 | h1
      · exact h1
      · have:=(hs.fresh id ob k hob hf).2; omega
    obtain ⟨S2,φ',J,M,q1,q2⟩:=putAll_ok (X:=X) (w0:=w0) (w:=w) (w' := w') (S:=S) (β:=β) (fp:=fp) (G' := G') (flatten rs) tg (c.out r0) uls G0 0 { S with env:=untouch (tids tg) S.env } fp hul
      (fun m l hm=>(hleaf m l hm).2.2)
      (fun m id p hm=>by
        obtain ⟨ob,hob⟩:=hT m id p hm
        refine ⟨fun k hk hn=>(hfr k (hs.fresh id ob k hob hk).2 fun m' hk' => ?_).2,fun x k hk => ?_⟩
        · have:=hone m id p ob m' k hm hob hk hk'
          subst this
          exact hn hk'
        · by_cases hf : fp id k
          · left
            obtain ⟨m',hk'⟩:=hsep x k hk id ob hob hf
            have:=hone m id p ob m' k hm hob hf hk'
            subst this
            exact hk'
          · exact .inr hf)
      (fun i l hi=>by
        have hlt:=idx_lt hi
        have:=hG3 i l (by rw [List.getElem?_append_left hlt]; exact hi)
        have e1 : (rowsOf (flatten rs) uls++rls).getD i undef=(rowsOf (flatten rs) uls).getD i undef:=by simp [List.getD,List.getElem?_append_left (by rw [← holen]; exact hlt : i<(rowsOf (flatten rs) uls).length)]
        rw [e1] at this
        rw [Nat.zero_add]
        exact this) hnd (fun id _=>rfl) h
    split at q1
    case h_2=>cases q1
    rename_i v S'' hv hadd
    let id0:=newId X S o
    let n:=(c.out r0).length
    let news:=(internAll id0 (c.ret r0)).2
    obtain ⟨g1,g2,g3,g4⟩:=addAll_ok hadd
    have hnews : ∀ id ob,lk news id=some ob → ∃ m t xs,id=id0+m∧(flatten (c.ret r0))[m]? = some (.row t xs)∧ob = .row t xs false:=fun id ob hi=>all_lk _ _ _ _ hi
    let β' : Nat→Value:=fun id=>if (lk news id).isSome then rls.getD (id - id0) undef else β id
    let fp' : Nat→Nat→Prop:=fun id k=>if (lk news id).isSome then G' (n+(id - id0)) k else φ' id k
    have hβ' : ∀ id,lk news id=none→β' id=β id:=fun id hi=>by simp [β',hi]
    have hnone : ∀ id,¬ (lk news id).isSome→lk news id=none:=fun id hi=>by
      cases e : lk news id with
      | none=>rfl
      | some x=>rw [e] at hi; exact absurd rfl hi
    have hget : ∀ id ob,lk news id=none→lk S''.objs id=some ob→lk S2.objs id=some ob:=fun id ob hn hi=>by
      rw [g3,lk_append] at hi
      have hn' : lk (internAll id0 (c.ret r0)).2 id=none:=hn
      rw [hn'] at hi
      exact hi
    have henv2 : S''.env=untouch (tids tg) S.env:=g1.trans q2.env
    have hunE : ∀ t v,lk S''.env t=some v → ∀ i,i ∈ idsV0 v→lk news i=none:=fun t v ht i hi=>by
      cases e : lk news i with
      | none=>rfl
      | some ob=>exact absurd (mem_idsE (by rw [← g1]; exact ht) hi) (g4 i ob e).1
    have hunO : ∀ id ob,lk S2.objs id=some ob→lk news id=none ∧ ∀ kd ls,ob = .box kd ls → ∀ i,i ∈ idsLs ls→lk news i=none:=fun id ob hi=>by
      obtain ⟨m1,m2⟩:=mem_idsO hi
      refine ⟨?_,fun kd ls e i hi' => ?_⟩
      · cases e : lk news id with
        | none=>rfl
        | some x=>exact absurd m1 (g4 id x e).2
      · cases e2 : lk news i with
        | none=>rfl
        | some x=>exact absurd (m2 kd ls e i hi') (g4 i x e2).2
    let U : Nat→Prop:=fun id=>id ∈ tids tg∨(lk news id).isSome
    let Ix : Nat→Nat:=fun id=>if (lk news id).isSome then n+(id - id0) else J id
    -- where a block comes from
    have hcase : ∀ id ob k,lk S''.objs id=some ob→fp' id k→(∃ ob0,lk S.objs id=some ob0∧fp id k ∧ ∀ m,¬ G0 m k)∨(U id∧G' (Ix id) k):=fun id ob k hi hk=>by
      by_cases hn : (lk news id).isSome
      · right
        simp only [fp',hn,if_true] at hk
        exact ⟨.inr hn,by simpa [Ix,hn] using hk⟩
      · simp only [fp',hn] at hk
        have h2:=hget id ob (hnone id hn) hi
        by_cases ht : id ∈ tids tg
        · obtain ⟨a1,a2,⟨p,a3⟩,a4,a5⟩:=q2.at' id ht
          rcases a5 k hk with ⟨b1,b2⟩ | b1
          · left
            obtain ⟨ob0,hob⟩:=hT _ id p a3
            refine ⟨ob0,hob,b1,fun m hm=>b2 ?_⟩
            have:=hone _ id p ob0 m k a3 hob b1 hm
            subst this
            exact hm
          · exact .inr ⟨.inl ht,by simpa [Ix,hn] using b1⟩
        · left
          obtain ⟨o1,o2⟩:=q2.other id ht
          have hk : φ' id k:=hk
          rw [o2] at hk
          have h3 : lk S.objs id=some ob:=by rw [← h2,o1]
          refine ⟨ob,h3,hk,fun m hm => ?_⟩
          obtain ⟨id',p,ob',c1,c2,c3⟩:=hA m k hm
          have:=hs.disj id' id ob' ob k c3 h3 c2 hk
          subst this
          exact ht (mem_tids.2 ⟨m,p,c1⟩)
    have hIx : ∀ id id' ob ob',U id→U id' → lk S''.objs id=some ob→lk S''.objs id' = some ob' → Ix id=Ix id' → id=id' := fun id id' ob ob' hu hu' ho ho' e=>by
      by_cases hn : (lk news id).isSome <;> by_cases hn' : (lk news id').isSome
      · obtain ⟨x,hx⟩:=Option.isSome_iff_exists.1 hn
        obtain ⟨x',hx'⟩:=Option.isSome_iff_exists.1 hn'
        obtain ⟨m,_,_,e1,_⟩:=hnews id x hx
        obtain ⟨m',_,_,e1',_⟩:=hnews id' x' hx'
        simp only [Ix,hn,hn',if_true] at e
        omega
      · have ht' : id' ∈ tids tg:=hu'.resolve_right hn'
        have:=(q2.at' id' ht').2.1
        simp only [Nat.zero_add] at this
        simp only [Ix,hn,hn',if_true] at e
        have e : n+(id - id0)=J id' := e
        omega
      · have ht : id ∈ tids tg:=hu.resolve_right hn
        have:=(q2.at' id ht).2.1
        simp only [Nat.zero_add] at this
        simp only [Ix,hn,hn',if_true] at e
        have e : J id=n+(id' - id0):=e
        omega
      · simp only [Ix,hn,hn'] at e
        exact q2.inj id id' (hu.resolve_right hn) (hu'.resolve_right hn') e
    have hsim : Sim X.K w0 nt S'' β' fp' a w' := by
      refine hs.write (S' := S'') hb U (fun k hk => ?_) (fun id ob hu hi => ?_) (fun id ob hu hi => ?_) (fun t v ht i hi=>hβ' i (hunE t v ht i hi)) (fun id ob k hu hi hk => ?_) (fun id id' ob ob' k hu hi hi' hk hk' => ?_) (fun id ob hu hi => ?_) (fun id kd ls hu hi l hl hp i hil => ?_) (fun t v ht => ?_)
      · have hno : ∀ m,¬ G0 m k:=fun m hm=>by
          obtain ⟨id,p,ob,_,h2,h3⟩:=hA m k hm
          exact hk.2 id ob h3 h2
        obtain ⟨f1,f2⟩:=hfr k hk.1 hno
        refine ⟨⟨f1,fun id ob hi hf => ?_⟩,f2⟩
        rcases hcase id ob k hi hf with ⟨ob0,h1,h2,_⟩ | ⟨_,h1⟩
        · exact hk.2 id ob0 h1 h2
        · rcases (hG1 _ k h1).1 with ⟨m,hm⟩ | h2
          · exact hno m hm
          · have:=hk.1; omega
      · have hn : lk news id=none:=hnone id fun h=>hu (.inr h)
        have h2:=hget id ob hn hi
        obtain ⟨o1,o2⟩:=q2.other id fun h=>hu (.inl h)
        have h3 : lk S.objs id=some ob:=by rw [← h2,o1]
        refine ⟨h3,?_,fun k hk=>hfr k (hs.fresh id ob k h3 hk).2 fun m hm => ?_⟩
        · funext k; simp [fp',hn,o2]
        · obtain ⟨id',p,ob',c1,c2,c3⟩:=hA m k hm
          have:=hs.disj id' id ob' ob k c3 h3 c2 hk
          subst this
          exact hu (.inl (mem_tids.2 ⟨m,p,c1⟩))
      · have hn : lk news id=none:=hnone id fun h=>hu (.inr h)
        have h2:=hget id ob hn hi
        exact ⟨hβ' id hn,fun kd ls e i hi' => hβ' i ((hunO id ob h2).2 kd ls e i hi')⟩
      · rcases hcase id ob k hi hk with ⟨ob0,h1,h2,h3⟩ | ⟨_,h1⟩
        · have:=hs.fresh id ob0 k h1 h2
          exact ⟨this.1,(hfr k this.2 h3).1⟩
        · exact (hG1 _ k h1).2
      · rcases hcase id ob k hi hk with ⟨ob0,h1,h2,h3⟩ | ⟨u1,h1⟩ <;> rcases hcase id' ob' k hi' hk' with ⟨ob0',h1',h2',h3'⟩ | ⟨u1',h1'⟩
        · exact hs.disj id id' ob0 ob0' k h1 h1' h2 h2'
        · obtain ⟨m,hm⟩:=hsep _ k h1' id ob0 h1 h2
          exact absurd hm (h3 m)
        · obtain ⟨m,hm⟩:=hsep _ k h1 id' ob0' h1' h2'
          exact absurd hm (h3' m)
        · exact hIx id id' ob ob' u1 u1' hi hi' (hG2 _ _ k h1 h1')
      · by_cases hn : (lk news id).isSome
        · obtain ⟨x,hx⟩:=Option.isSome_iff_exists.1 hn
          obtain ⟨m,t,xs,e1,e2,e3⟩:=hnews id x hx
          have hx2 : lk S''.objs id=some x:=by
            rw [g3,lk_append]
            have hx' : lk (internAll id0 (c.ret r0)).2 id=some x:=hx
            rw [hx']
          rw [hx2] at hi
          cases hi
          refine ⟨t,xs,e3,?_⟩
          have hO:=hG3 (n+m) (.row t xs) (by rw [List.getElem?_append_right (by omega)]; simpa [n] using e2)
          have e4 : (rowsOf (flatten rs) uls++rls).getD (n+m) undef=rls.getD m undef:=by
            simp only [List.getD]
            rw [List.getElem?_append_right (by rw [← holen]; omega),← holen]
            simp [n]
          have e5 : id - id0=m:=by omega
          rw [e4] at hO
          simpa [β',fp',hn,e5] using hO
        · have ht : id ∈ tids tg:=hu.resolve_right hn
          obtain ⟨_,_,_,⟨t,xs,a4,a5⟩,_⟩:=q2.at' id ht
          have h2:=hget id ob (hnone id hn) hi
          rw [a4] at h2
          cases h2
          refine ⟨t,xs,rfl,?_⟩
          have e1 : β' id=β id:=hβ' id (hnone id hn)
          have e2 : fp' id=φ' id:=by funext k; simp [fp',hn]
          rw [e1,e2]
          exact a5
      · have hn : lk news id=none:=hnone id fun h=>hu (.inr h)
        have h2:=hget id _ hn hi
        obtain ⟨o1,o2⟩:=q2.other id fun h=>hu (.inl h)
        have h3 : lk S.objs id=some (.box kd ls):=by rw [← h2,o1]
        have hto1:=List.any_eq_false.1 hto (id,.box kd ls) (lk_mem h3)
        have hto2 : ls.any (touchL (tids tg))=false:=by simpa [touchO] using hto1
        have hto3:=List.any_eq_false.1 hto2 l hl
        have hto3 : touchL (tids tg) l=false:=by simpa using hto3
        rintro (h4 | h4)
        · exact touchL_no hto3 hp i hil h4
        · have : lk news i=none:=(hunO id _ h2).2 _ ls rfl i (by
            obtain ⟨j,hj,rfl⟩:=List.getElem_of_mem hl
            exact mem_idsLs (i:=j) (by simp [hj]) hil)
          rw [this] at h4; cases h4
      · have ht' := ht
        rw [henv2] at ht'
        obtain ⟨h1,h2⟩:=untouch_lk ht'
        refine ⟨h1,fun l hl hp i hil => ?_⟩
        rintro (h4 | h4)
        · exact touchL_no (touchV_no h2 l hl) hp i hil h4
        · have:=hunE t v ht i (allL_ids hl hil)
          rw [this] at h4; cases h4
    have hsh:=shape_intern (c.ret r0) id0
    have hval : LfsOk X.K w' S''.objs β' fp' (stbOf S''.objs fp' w') (flatten (internAll id0 (c.ret r0)).1) rls:=by
      refine ⟨by rw [hrl,flatten_len hsh],fun m l hm => ?_⟩
      have own : ∀ l',(flatten (c.ret r0))[m]? = some l' → Own X.K w' w0.heap.size (G' (n+m)) l' (rls.getD m undef):=fun l' hl' => by
        have hO:=hG3 (n+m) l' (by rw [List.getElem?_append_right (by omega)]; simpa [n] using hl')
        have e4 : (rowsOf (flatten rs) uls++rls).getD (n+m) undef=rls.getD m undef:=by
          simp only [List.getD]
          rw [List.getElem?_append_right (by rw [← holen]; omega),← holen]
          simp [n]
        rw [e4] at hO
        exact hO
      rcases all_get (c.ret r0) id0 m l hm with ⟨t,xs,q1,q2,q3⟩ | ⟨q1,q2⟩
      · subst q2
        refine ⟨(own _ q1).one,?_⟩
        have e2 : (lk news (id0+m)).isSome:=by
          have : lk news (id0+m)=some (.row t xs false):=q3
          rw [this]; rfl
        simp [β',e2]
      · exact own_lf (own l q1) q2
    have hsv:=res_sv (by rw [okRes_congr hsh]; exact hokr) hv hval
    rw [pack_congr hsh (us:=rls),← hp] at hsv
    exact next_put hsim hd hsv q1
end
end Go.Proofs.Ytakakoogpmhhkaa.Ab

/- The abstract machine: ghosts may be any. -/
set_option linter.unusedVariables false
set_option linter.unusedSimpArgs false
set_option linter.unusedSectionVars false
namespace Go.Proofs.Ytakakoogpmhhkaa.Ab
open Go Go.RowKit

section
variable {Ty : Type} [DecidableEq Ty] {C : Ty→Type}
variable {P : Program} {X : Cx C} {w0 w : World} {nt : Nat} {S : St C} {β : Nat→Value} {fp : Nat→Nat→Prop} {a : Act} {R : Type} {r : R}

def Cd.gh (K : Cd C) (kp : Nat→Prop) (kh : Nat→Option Obj) (hd : Nat→Value) : Cd C:={ K with kp:=kp,kh:=kh,hd:=hd }
def Cx.gh (X : Cx C) (kp : Nat→Prop) (kh : Nat→Option Obj) (hd : Nat→Value) : Cx C:={ X with K:=X.K.gh kp kh hd }

section
variable {K : Cd C} {kp : Nat→Prop} {kh : Nat→Option Obj} {hd : Nat→Value}
theorem own_gh {base : Nat} {F : Nat→Prop} {l : Lf C} {v : Value} (h : Own K w base F l v) : Own (K.gh kp kh hd) w base F l v:=by
  induction h with
  | int=>exact .int ..
  | bool=>exact .bool ..
  | str=>exact .str ..
  | fnc=>exact .fnc ..
  | row F t xs v cells G h hF hG hd _ ih=>exact .row F t xs v cells G h hF hG hd ih
theorem own_hg {base : Nat} {F : Nat→Prop} {l : Lf C} {v : Value} (h : Own (K.gh kp kh hd) w base F l v) : Own K w base F l v:=by
  induction h with
  | int=>exact .int ..
  | bool=>exact .bool ..
  | str=>exact .str ..
  | fnc=>exact .fnc ..
  | row F t xs v cells G h hF hG hd _ ih=>exact .row F t xs v cells G h hF hG hd ih
theorem rep_gh {F : Nat→Prop} {l : Lf C} {v : Value} (h : Rep K w F l v) : Rep (K.gh kp kh hd) w F l v:=by
  induction h with
  | int=>exact .int ..
  | bool=>exact .bool ..
  | str=>exact .str ..
  | fnc=>exact .fnc ..
  | row t xs A c a U hc hA hcell _ ih=>exact .row t xs A c a U hc hA hcell ih
theorem rep_hg {F : Nat→Prop} {l : Lf C} {v : Value} (h : Rep (K.gh kp kh hd) w F l v) : Rep K w F l v:=by
  induction h with
  | int=>exact .int ..
  | bool=>exact .bool ..
  | str=>exact .str ..
  | fnc=>exact .fnc ..
  | row t xs A c a U hc hA hcell _ ih=>exact .row t xs A c a U hc hA hcell ih
theorem con_gh {f : Nat} {c : Con C} (h : ConOk P K f c) : ConOk P (K.gh kp kh hd) f c:=by
  refine ⟨h.1,fun w vs us r0 hv hl ha hg=>(h.2 w vs us r0 hv hl (fun i v hi => ?_) hg).mono fun e w' ⟨v,he,hb,⟨us',G,q1,q2,q3,q4,q5,q6⟩,hz⟩=>⟨v,he,hb,⟨us',G,q1,q2,q3,q4,q5,fun m l hm=>own_gh (q6 m l hm)⟩,hz⟩⟩
  have:=ha i v hi
  cases v with
  | one l =>
    cases l with
    | elt t x o=>obtain ⟨a,U,h1,h2,h3,h4⟩:=this; exact ⟨a,U,h1,h2,h3,fun i l hl=>rep_hg (h4 i l hl)⟩
    | _=>exact ⟨this.1,rep_hg this.2⟩
  | agg ls=>obtain ⟨us,e,h1,h2⟩:=this; exact ⟨us,e,h1,fun i l hi=>rep_hg (h2 i l hi)⟩
  | _=>exact this.elim
theorem conw_gh {f : Nat} {c : ConW C} (h : ConWOk P K f c) : ConWOk P (K.gh kp kh hd) f c:=by
  refine ⟨h.1,fun w0 w rs uls r0 G hv hb hok hul hG1 hG2 hl hg=>(h.2 w0 w rs uls r0 G hv hb hok hul hG1 hG2 (fun m l hm=>⟨(hl m l hm).1,own_hg (hl m l hm).2⟩) hg).mono fun e w' ⟨v,he,hb',hfr,rls,G',q1,q2,q3,q4,q5,q6,q7⟩ =>
    ⟨v,he,hb',hfr,rls,G',q1,q2,q3,q4,q5,q6,fun m l hm=>own_gh (q7 m l hm)⟩⟩
theorem mget_gh (kt vt : Ty) (x : C kt) : ∀ xs : List (Nat×C kt×C vt),mget (K.gh kp kh hd) kt vt x xs=mget K kt vt x xs
  | []=>rfl
  | e::r=>by simp only [mget,mget_gh kt vt x r]; rfl
theorem mfind_gh (fl : MK) (kt vt : Ty) (x : C kt) : ∀ (xs : List (Nat×C kt×C vt)) (i : Nat),mfind (K.gh kp kh hd) fl kt vt x xs i=mfind K fl kt vt x xs i
  | [],_=>rfl
  | e::r,i=>by simp only [mfind,mfind_gh fl kt vt x r]; rfl
theorem mval_gh (kt vt : Ty) (x : C kt) (xs : List (Nat×C kt×C vt)) : mval (K.gh kp kh hd) kt vt x xs=mval K kt vt x xs:=by unfold mval; rw [mget_gh]; rfl
theorem mhas_gh (kt vt : Ty) (x : C kt) (xs : List (Nat×C kt×C vt)) : mhas (K.gh kp kh hd) kt vt x xs=mhas K kt vt x xs:=by unfold mhas; rw [mget_gh]
theorem mclk_gh (kt vt : Ty) (x : C kt) (c : Nat) (xs : List (Nat×C kt×C vt)) : mclk (K.gh kp kh hd) kt vt x c xs=mclk K kt vt x c xs:=by unfold mclk; rw [mhas_gh]
theorem mput_gh (kt vt : Ty) (x : C kt) (y : C vt) (c : Nat) : ∀ xs : List (Nat×C kt×C vt),mput (K.gh kp kh hd) kt vt x y c xs=mput K kt vt x y c xs
  | []=>rfl
  | e::r=>by simp only [mput,mput_gh kt vt x y c r]; rfl
theorem mdel_gh (kt vt : Ty) (x : C kt) : ∀ xs : List (Nat×C kt×C vt),mdel (K.gh kp kh hd) kt vt x xs=mdel K kt vt x xs
  | []=>rfl
  | e::r=>by simp only [mdel,mdel_gh kt vt x r]; rfl
theorem mbr_gh {R : Type} (kt vt : Ty) (x : C kt) (yes : C vt→Option R) (no : Option R) : ∀ xs : List (Nat×C kt×C vt),mbr (K.gh kp kh hd) kt vt x yes no xs=mbr K kt vt x yes no xs
  | []=>rfl
  | e::r=>by simp only [mbr,mbr_gh kt vt x yes no r]; rfl
theorem xok_gh (h : XOk P X) : XOk P (X.gh kp kh hd):=by
  refine ⟨fun T k hk=>h.tk T k hk,fun t => ?_,fun T m hm => ?_,h.meth,h.ext,h.ins⟩
  rotate_left
  · obtain ⟨kt,et,q⟩:=h.mp T m hm
    exact ⟨kt,et,q.und,q.fk,q.fv,q.zero,q.chk,fun x xs w=>(q.find x xs w).trans (congrArg (Result.ok · w) (mfind_gh m.fl m.kt m.vt x xs 0).symm),q.vone,q.bits⟩
  obtain ⟨i,z,h1,h2,h3,h4,h5,h6,h7⟩:=h.el t
  exact ⟨i,z,h1,h2,h3,h4,h5,h6,fun j l hj w base F=>own_gh (h7 j l hj w base F)⟩
end
end
end Go.Proofs.Ytakakoogpmhhkaa.Ab

/- The abstract machine: what it reckons does not hang on the ghosts. -/
set_option linter.unusedVariables false
set_option linter.unusedSimpArgs false
set_option linter.unusedSectionVars false
namespace Go.Proofs.Ytakakoogpmhhkaa.Ab
open Go Go.RowKit

section
variable {Ty : Type} [DecidableEq Ty] {C : Ty→Type}
variable {X : Cx C} {K : Cd C} {S : St C} {R : Type} {kp : Nat→Prop} {kh : Nat→Option Obj} {hd : Nat→Value}

theorem newId_gh (o : Oper) : newId (X.gh kp kh hd) S o=newId X S o:=rfl
theorem path_gh {α : Type} : ∀ (p : List (Nat×Nat)) (t : Ty) (xs : List (C t)) (k : (t : Ty)→List (C t)→Option α),path (K.gh kp kh hd) p t xs k=path K p t xs k
  | [],_,_,_=>rfl
  | (i,o)::p,t,xs,k=>by
    simp only [path,path_gh p]
    rfl
theorem Sli_gh {α : Type} (l : Lf C) (k : (t : Ty)→List (C t)→Option α) : Sli S (X.gh kp kh hd) l k=Sli S X l k:=by
  cases l with
  | ref id p =>
    simp only [Sli]
    split
    · exact path_gh ..
    · rfl
  | _=>rfl
theorem cellsAt_gh {α : Type} (a : Lf C) (k : List (Lf C)→Option α) : cellsAt (X.gh kp kh hd) S a k=cellsAt X S a k:=by
  cases a with
  | ep id p i o =>
    simp only [cellsAt]
    split
    · exact path_gh ..
    · rfl
  | _=>rfl
theorem elems_gh (t : Ty) : ∀ (l : List (Nat×Operand)) (S : St C) (n : Nat),elems (X.gh kp kh hd) t S n l=elems X t S n l
  | [],_,_=>rfl
  | (i,x)::r,S,n=>by
    simp only [elems,elems_gh t r]
    rfl
theorem partsOf_gh (fs : List (Nat×Nat×Bool)) : ∀ (l : List (Nat×Operand)) (ls : List (Lf C)),partsOf (X.gh kp kh hd) fs S l ls=partsOf X fs S l ls
  | [],_=>rfl
  | (i,x)::r,ls=>by simp only [partsOf,partsOf_gh fs r]
theorem opdT_gh (T : TypeId) (x : Operand) : opdT (X.gh kp kh hd) S T x=opdT X S T x:=rfl
theorem ownL_gh (l : Lf C) (k : Lf C→Tgt→Option R) : ownL (X.gh kp kh hd) S l k=ownL X S l k:=by
  cases l with
  | ref id p =>
    simp only [ownL]
    split
    · exact path_gh ..
    · rfl
  | _=>rfl
theorem ownLs_gh : ∀ (l : List (Lf C)) (k : List (Lf C)→List Tgt→Option R),ownLs (X.gh kp kh hd) S l k=ownLs X S l k
  | [],_=>rfl
  | l::r,k=>by simp only [ownLs,ownL_gh,ownLs_gh r]
theorem ownAll_gh : ∀ (l : List Operand) (ts : List TypeId) (k : List (Bool×List (Lf C))→List Tgt→Option R),ownAll (X.gh kp kh hd) S l ts k=ownAll X S l ts k
  | [],_,_=>rfl
  | x::r,ts,k=>by simp only [ownAll,ownLs_gh,ownAll_gh r,opdT_gh]
theorem setPath_gh : ∀ (p : List (Nat×Nat)) (t : Ty) (xs : List (C t)) (l : Lf C) (k : List (C t)→Option R),setPath (K.gh kp kh hd) p t xs l k=setPath K p t xs l k
  | [],_,_,l,_=>by cases l <;> rfl
  | (i,o)::p,t,xs,l,k=>by
    simp only [setPath,setPath_gh p]
    rfl
theorem putAll_gh : ∀ (ls : List (Lf C)) (ts : List Tgt) (os : List (Lf C)) (S : St C) (k : St C→Option R),putAll (K.gh kp kh hd) ls ts os S k=putAll K ls ts os S k:=by
  intro ls
  induction ls with
  | nil=>intro ts os S k; cases ts <;> cases os <;> rfl
  | cons l ls ih =>
    intro ts os S k
    cases ts with
    | nil=>cases l <;> rfl
    | cons t ts =>
      cases l with
      | row t0 xs0 =>
        cases os with
        | nil=>cases t <;> rfl
        | cons o os =>
          cases t with
          | none=>simp only [putAll,ih]
          | some x =>
            obtain ⟨id,p⟩:=x
            simp only [putAll,setPath_gh,ih]
      | int ki n=>cases t <;> simp only [putAll,ih]
      | bool b=>cases t <;> simp only [putAll,ih]
      | str s=>cases t <;> simp only [putAll,ih]
      | _=>cases t <;> rfl
theorem callW_gh (f : Nat) (as : List Operand) (ts : List TypeId) (o : Oper) (k : St C→Option R) : callW (X.gh kp kh hd) S f as ts o k=callW X S f as ts o k:=by
  simp only [callW,ownAll_gh]
  have e : (X.gh kp kh hd).conw f=X.conw f:=rfl
  rw [e]
  cases X.conw f with
  | none=>rfl
  | some c =>
    have e2 : (X.gh kp kh hd).K=X.K.gh kp kh hd:=rfl
    simp only [e2,putAll_gh,newId_gh]
theorem argsI_gh : ∀ (l : List Operand) (ts : List TypeId),argsI (X.gh kp kh hd) S l ts=argsI X S l ts
  | [],_=>rfl
  | x::r,ts=>by simp only [argsI,argsI_gh r,opdT_gh]
theorem callI_gh (f : Nat) (pre : List (SV C)) (as : List Operand) (ts : List TypeId) (post : List (SV C)) (o : Oper) (k : St C→Option R) : callI (X.gh kp kh hd) S f pre as ts post o k=callI X S f pre as ts post o k:=by
  simp only [callI,argsI_gh]
  rfl
theorem callN_gh (f : Nat) (as : List Operand) (ts : List TypeId) (o : Oper) (k : St C→Option R) : callN (X.gh kp kh hd) S f as ts o k=callN X S f as ts o k:=by
  simp only [callN,callI_gh,argsI_gh]
  rfl
theorem viewLX_gh (l : Lf C) : viewLX (X.gh kp kh hd) S l=viewLX X S l:=by
  unfold viewLX
  simp only [Sli_gh]
theorem viewLXs_gh : ∀ l : List (Lf C),viewLXs (X.gh kp kh hd) S l=viewLXs X S l
  | []=>rfl
  | l::r=>by simp only [viewLXs,viewLX_gh,viewLXs_gh r]
theorem viewP_gh (pt : Option Ty) (v : SV C) : viewP (X.gh kp kh hd) S pt v=viewP X S pt v:=by
  unfold viewP
  simp only [cellsAt_gh,viewLXs_gh]
  rfl
theorem views_gh : ∀ (pt : List (Option Ty)) (l : List (SV C)),views (X.gh kp kh hd) S pt l=views X S pt l
  | _,[]=>rfl
  | pt,v::r=>by simp only [views,viewP_gh,views_gh pt.tail r]
theorem callC_gh (c : Con C) (pre : List (SV C)) (as : List Operand) (ts : List TypeId) (post : List (SV C)) (o : Oper) (k : St C→Option R) : callC (X.gh kp kh hd) c S pre as ts post o k=callC X c S pre as ts post o k:=by
  rw [callC_eq,callC_eq]
  unfold callC0 argsC
  simp only [argsI_gh,views_gh,newId_gh]
theorem callCq_gh (c : Con C) (pre : List (SV C)) (as : List Operand) (ts : List TypeId) (post : List (SV C)) (o : Oper) (k : SV C→List (Nat×Ob C)→List Nat→Option R) : callCq (X.gh kp kh hd) c S pre as ts post o k=callCq X c S pre as ts post o k:=by
  rw [callCq_eq,callCq_eq]
  unfold callCq0 argsC
  simp only [argsI_gh,views_gh,newId_gh]
theorem callF_gh (f : Nat) (pre : List (SV C)) (as : List Operand) (ts : List TypeId) (post : List (SV C)) (o : Oper) (k : St C→Option R) : callF (X.gh kp kh hd) S f pre as ts post o k=callF X S f pre as ts post o k:=by
  unfold callF
  simp only [callC_gh,callI_gh]
  rfl
theorem lookV_gh (m : MT Ty) (l : Lf C) (key : SV C) (ok : Bool) (k : SV C→Option R) : lookV (X.gh kp kh hd) S m l key ok k=lookV X S m l key ok k:=by
  have e2 : (X.gh kp kh hd).K=X.K.gh kp kh hd:=rfl
  unfold lookV mapAt
  simp only [e2,mval_gh,mhas_gh]
  rfl
theorem lookB_gh (m : MT Ty) (l : Lf C) (key : SV C) (ok : Bool) (k : SV C→Option R) : lookB (X.gh kp kh hd) S m l key ok k=lookB X S m l key ok k:=by
  have e2 : (X.gh kp kh hd).K=X.K.gh kp kh hd:=rfl
  unfold lookB mapAt
  simp only [e2,mbr_gh]
  rfl
theorem upd1_gh (m : MT Ty) (l : Lf C) (key v : SV C) (k : St C→Option R) : upd1 (X.gh kp kh hd) S m l key v k=upd1 X S m l key v k:=by
  have e2 : (X.gh kp kh hd).K=X.K.gh kp kh hd:=rfl
  unfold upd1 mapAt
  simp only [e2,mput_gh,mclk_gh]
  rfl
theorem del1_gh (m : MT Ty) (l : Lf C) (key : SV C) (k : St C→Option R) : del1 (X.gh kp kh hd) S m l key k=del1 X S m l key k:=by
  have e2 : (X.gh kp kh hd).K=X.K.gh kp kh hd:=rfl
  unfold del1 mapAt
  simp only [e2,mdel_gh]
  rfl
theorem refsP_gh (t : Ty) : ∀ (l : List (Nat×Operand)) (S : St C),refsP (X.gh kp kh hd) t S l=refsP X t S l
  | [],_=>rfl
  | (i,x)::r,S=>by
    simp only [refsP,refsP_gh t r]
    rfl
theorem nilB_gh (tk : Option (TK Ty)) (op : BinOp) (x : SV C) (k : SV C→Option R) : nilB tk (X.gh kp kh hd) S op x k=nilB tk X S op x k:=by
  unfold nilB
  simp only [Sli_gh]
theorem resOf_gh : ∀ (l : List ResultVar),resOf (X.gh kp kh hd) S l=resOf X S l
  | []=>rfl
  | .tmp t::r=>by simp only [resOf,resOf_gh r]
  | .cell a t::r=>by
    simp only [resOf,resOf_gh r,cellsAt_gh]
    rfl
theorem ev_gh (o : Oper) (S : St C) (k : St C→Option R) : ev (X.gh kp kh hd) o S k=ev X o S k:=by
  obtain ⟨dst,op,ty,pos,aft,gd⟩:=o
  cases op with
  | build t ps=>simp only [ev,partsOf_gh]; rfl
  | buildSlice t n ps=>simp only [ev,elems_gh]; rfl
  | load t x=>simp only [ev,cellsAt_gh]; rfl
  | binOp op t x y t' => simp only [ev,nilB_gh,opdT_gh]; rfl
  | convert t t' x=>simp only [ev,Sli_gh]; rfl
  | indexAddr t x i=>simp only [ev,Sli_gh]; rfl
  | call c =>
    obtain ⟨cal,as,ts⟩:=c
    cases cal with
    | builtin b=>cases b with
      | len=>simp only [ev,Sli_gh]; rfl
      | append=>simp only [ev,opdT_gh]; rfl
      | delete=>simp only [ev,opdT_gh,del1_gh]; rfl
      | copy=>simp only [ev,opdT_gh]; rfl
      | _=>rfl
    | value f=>cases f with
      | func f=>simp only [ev,callC_gh,callW_gh,callN_gh]; rfl
      | tmp t=>simp only [ev,callF_gh]
      | _=>rfl
    | invoke x name=>simp only [ev,callF_gh]; rfl
  | makeFunc fn first captured=>simp only [ev,argsI_gh,newId_gh]
  | makeInterface t x=>simp only [ev,opdT_gh]; rfl
  | lookup t x i ok=>simp only [ev,lookV_gh,lookB_gh]; rfl
  | mapUpdate t x i y=>simp only [ev,upd1_gh]; rfl
  | insert t x i y=>simp only [ev,upd1_gh]; rfl
  | _=>rfl
theorem evq_gh (o : Oper) (S : St C) (k : SV C→List (Nat×Ob C)→List Nat→Option R) : evq (X.gh kp kh hd) o S k=evq X o S k:=by
  obtain ⟨dst,op,ty,pos,aft,gd⟩:=o
  cases op with
  | build t ps=>simp only [evq,partsOf_gh]; rfl
  | buildSlice t n ps=>simp only [evq,elems_gh,refsP_gh]; rfl
  | load t x=>simp only [evq,cellsAt_gh]; rfl
  | convert t t' x=>simp only [evq,Sli_gh]; rfl
  | indexAddr t x i=>simp only [evq,Sli_gh]; rfl
  | call c =>
    obtain ⟨cal,as,ts⟩:=c
    cases cal with
    | builtin b=>cases b with
      | len=>simp only [evq,Sli_gh]; rfl
      | append=>simp only [evq,opdT_gh]; rfl
      | _=>rfl
    | value f=>cases f with
      | func f=>simp only [evq,callCq_gh]; rfl
      | tmp t=>simp only [evq,callCq_gh]; rfl
      | _=>rfl
    | invoke x name=>simp only [evq,callCq_gh]; rfl
  | makeFunc fn first captured=>simp only [evq,argsI_gh,newId_gh]
  | makeInterface t x=>simp only [evq,opdT_gh]; rfl
  | lookup t x i ok=>simp only [evq,lookV_gh]; rfl
  | _=>rfl
theorem evs_gh (all : Array Oper) : ∀ (l : List Oper) (S : St C) (k : St C→Option R),evs (X.gh kp kh hd) all l S k=evs X all l S k
  | [],_,_=>rfl
  | o::r,S,k=>by simp only [evs,ev_gh,evs_gh all r]
theorem isE_gh (o : Oper) : isE (X.gh kp kh hd) o=isE X o:=rfl
theorem preOps_gh (all : Array Oper) (tab : List (Nat×Nat)) : ∀ (n : Nat) (l : List Oper),preOps (X.gh kp kh hd) all tab n l=preOps X all tab n l
  | _,[]=>rfl
  | n,o::r=>by simp only [preOps,preOps_gh all tab]; rfl
theorem pairO_gh (all : Array Oper) (tab : List (Nat×Nat)) : ∀ l : List Nat,pairO (X.gh kp kh hd) all tab l=pairO X all tab l
  | []=>rfl
  | j::r=>by simp only [pairO,pairO_gh all tab r]; rfl
theorem preO_gh (all : Array Oper) (tab : List (Nat×Nat)) (ord : List Nat) : preO (X.gh kp kh hd) all tab ord=preO X all tab ord:=by
  simp only [preO,pairO_gh]
theorem ordX_gh (all : Array Oper) (tab : List (Nat×Nat)) : ordX (X.gh kp kh hd) all tab=ordX X all tab:=rfl
theorem qdsts_gh : ∀ (l : List Oper),qdsts (X.gh kp kh hd) l=qdsts X l
  | []=>rfl
  | o::r=>by simp only [qdsts,qdsts_gh r,isE_gh]
theorem dlay_gh (all : Array Oper) (tab : List (Nat×Nat)) (k : St C→Option R) : ∀ (f : Nat) (l : List (Nat×Oper)) (S0 : St C) (ents : List (Ent C)),dlay (X.gh kp kh hd) all tab k f l S0 ents=dlay X all tab k f l S0 ents
  | 0,_,_,_=>rfl
  | f+1,[],_,_=>rfl
  | f+1,(n,o)::r,S0,ents=>by simp only [dlay,ev_gh,evq_gh,isE_gh,dlay_gh all tab k f]
theorem run_gh (F : Cf) : ∀ (c : Code) (cur : Nat) (S : St C) (k : Ex→St C→Option R),run (X.gh kp kh hd) F c cur S k=run X F c cur S k:=by
  intro c
  induction c with
  | region i ops draw =>
    intro cur S k
    cases draw with
    | false=>simp only [run,evs_gh]
    | true=>simp only [run,drun,dlay_gh,preOps_gh,preO_gh,ordX_gh,qdsts_gh]
  | seq a b iha ihb =>
    intro cur S k
    simp only [run]
    rw [iha]
    congr 1
    funext e S'
    cases e <;> simp only [seqK,ihb]
  | cond c x y ihx ihy =>
    intro cur S k
    simp only [run,ihx,ihy]
  | block id c ih=>intro cur S k; simp only [run,ih]
  | scope c ih=>intro cur S k; simp only [run,ih]
  | loop b ih =>
    intro cur S k
    simp only [run]
    congr 2
    funext rec S'
    exact ih ..
  | _=>intros; rfl
end
end Go.Proofs.Ytakakoogpmhhkaa.Ab

