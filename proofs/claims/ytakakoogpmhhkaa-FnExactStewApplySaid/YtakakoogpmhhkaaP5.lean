/- Rows that are the call's own, copied into: for slices.Insert. -/
import Derived.Test.YtakakoogpmhhkaaP4
import Derived.Shelf.Spec.SlicesInsertGrow
import Derived.Test.YtakakoogpmhhkaaProg
import Derived.WalkKit
import Derived.Lib.Walk
import Derived.KernelRfl
set_option linter.unusedVariables false
set_option linter.unusedSimpArgs false
set_option linter.unusedSectionVars false
set_option linter.unusedVariables false
set_option linter.unusedSimpArgs false
set_option linter.unusedSectionVars false
namespace Go.Proofs.Ytakakoogpmhhkaa.Ab
open Go Go.RowKit Go.Lib

theorem grown_refl (w : World) (r : Option Nat) : w.grownBy w r:=⟨rfl,rfl,rfl,Nat.le_refl _,fun _ _ _=>rfl⟩
theorem grown_drew (w : World) (r : Option Nat) : w.grownBy w.drew r:=⟨rfl,rfl,rfl,Nat.le_refl _,fun _ _ _=>rfl⟩
theorem grown_trans {w w1 w2 : World} {r : Option Nat} (h : w.grownBy w1 r) (h' : w1.grownBy w2 r) : w.grownBy w2 r :=
  ⟨h'.os.trans h.os,h'.tape.trans h.tape,h'.output.trans h.output,Nat.le_trans h.size h'.size,fun k hk hr=>(h'.block k (Nat.lt_of_lt_of_le hk h.size) hr).trans (h.block k hk hr)⟩
theorem grown_setRow (w : World) (g : Nat) (cs : Array Value) : w.grownBy (w.setRow g cs) (some g) :=
  ⟨rfl,rfl,rfl,by have:=(below_setRow (w0:=w) (w:=w) g cs); exact Nat.le_of_eq (by simp [World.setRow]),fun k _ hr=>setRow_other w g k cs fun e=>hr (by rw [e])⟩
/-- What is new may be turned as it likes. -/
theorem grown_new {w w1 w2 : World} {g : Nat} (h : w.grownBy w1 none) (h' : w1.grownBy w2 (some g)) (hg : w.heap.size≤g) (r : Option Nat) : w.grownBy w2 r :=
  ⟨h'.os.trans h.os,h'.tape.trans h.tape,h'.output.trans h.output,Nat.le_trans h.size h'.size,fun k hk _=>(h'.block k (Nat.lt_of_lt_of_le hk h.size) (fun e=>by cases e; omega)).trans (h.block k hk (by simp))⟩

theorem copy_own {P : Program} {w : World} {base tid sz N cap g : Nat} {cells us : List Value} (hown : w.ownsRow base tid sz (.slice (some ⟨g,0,none⟩) N cap) N cells) {T T' ty : TypeId} (hu : P.underlying T=some (.slice tid)) {i : TypeInfo} (hi : P.info? tid=some i) (hsz : i.size=sz)
    {d m c c' q : Nat} (hd : d+q≤N) (hq : min (N - d) m=q) {p : Addr} (hus : us.length=q*sz) (hp : ∀ j u,us[j]? = some u→w.cell? (p.add j)=some u) (h1 : ∀ u ∈ us,u.oneCell' = true) :
    ∃ cur',(Builtin.copy_ #[T,T'] ty #[.slice (some ⟨g,d*sz,none⟩) (N - d) c',.slice (some p) m c]).run P w = .ok (goInt q) (w.setRow g cur') ∧
      (w.setRow g cur').ownsRow base tid sz (.slice (some ⟨g,0,none⟩) N cap) N (cells.take (d*sz)++us++cells.drop (d*sz+us.length)):=by
  have hmul : (d+q)*sz≤N*sz:=Nat.mul_le_mul_right _ hd
  rw [Nat.add_mul] at hmul
  have hfc:=run_firstCells_some (P:=P) w sz q p m c us hus hp
  obtain ⟨cur',hrun,hown'⟩:=ownsRow_store (P:=P) hown (m:=d*sz) (vs:=us) (by omega) h1
  refine ⟨cur',?_,hown'⟩
  simp only [Builtin.copy_,List.getElem?_toArray,List.getElem?_cons_zero,List.getElem?_cons_succ,Sem.run_bind,Result.andThen_ok,Sem.run_pure,run_underlying hu,sizeOf,typeInfo,hi,Builtin.lenOf,hsz]
  have hq' : Nat.min m (N - d)=q:=by rw [Nat.min_comm] at hq; exact hq
  have hq2 : min m (N - d)=q:=hq'
  simp [hq',hq2,hfc,Sem.run_bind,hsz,hi,hrun]

/-- The shape of an own row's block. -/
theorem own_shape {w : World} {base tid sz n cap g : Nat} {cells : List Value} (hown : w.ownsRow base tid sz (.slice (some ⟨g,0,none⟩) n cap) n cells) : w.shape? g=some (tid,cap*sz):=by
  rcases hown.2 with ⟨h,_⟩ | ⟨g',cap',cur,h,hb,hh,hn,hc,hs,ht⟩
  · cases h
  · cases h
    simp [World.shape?,hh,hs]
theorem own_frozen {w : World} {base tid sz n cap g : Nat} {cells : List Value} (hown : w.ownsRow base tid sz (.slice (some ⟨g,0,none⟩) n cap) n cells) (o : Nat) : w.frozen? ⟨g,o,none⟩=false:=by
  rcases hown.2 with ⟨h,_⟩ | ⟨g',cap',cur,h,hb,hh,hn,hc,hs,ht⟩
  · cases h
  · cases h
    simp [World.frozen?,hh]
/-- A row in whose block there is room grows by what lies there. -/
theorem own_more {w : World} {base tid sz n cap g : Nat} {cells : List Value} (hown : w.ownsRow base tid sz (.slice (some ⟨g,0,none⟩) n cap) n cells) {m : Nat} (hn : n≤m) (hm : m≤cap) :
    ∃ cells',w.ownsRow base tid sz (.slice (some ⟨g,0,none⟩) m cap) m cells' ∧ cells'.take (n*sz)=cells:=by
  obtain ⟨hl,h2⟩:=hown
  rcases h2 with ⟨h,_⟩ | ⟨g',cap',cur,h,hb,hh,hn',hc,hs,ht⟩
  · cases h
  · cases h
    have h1 : m*sz≤cap*sz:=Nat.mul_le_mul_right _ hm
    have h2 : n*sz≤m*sz:=Nat.mul_le_mul_right _ hn
    refine ⟨cur.toList.take (m*sz),⟨by simp; omega,.inr ⟨g,cap,cur,rfl,hb,hh,hm,hc,hs,rfl⟩⟩,?_⟩
    rw [List.take_take,Nat.min_eq_left h2,ht]
/-- A row's block. -/
theorem own_some {w : World} {base tid sz n : Nat} {v : Value} {cells : List Value} (hown : w.ownsRow base tid sz v n cells) (hn : 0<n) : ∃ g cap,v = .slice (some ⟨g,0,none⟩) n cap∧base≤g∧g<w.heap.size∧n≤cap∧cap≤maxLen ∧ ∀ m u,cells[m]? = some u→w.cell? ⟨g,m,none⟩=some u:=by
  have h0:=hown
  rcases hown.2 with ⟨h,h'⟩ | ⟨g',cap',cur,h,hb,hh,hn',hc,hs,ht⟩
  · omega
  · refine ⟨g',cap',h,hb,?_,hn',hc,fun m u hm => ?_⟩
    · exact (Array.getElem?_eq_some_iff.1 hh).1
    · have:=h0.cells (g:=g') (by rw [h]; rfl) m u hm
      rw [add_none] at this
      simpa using this
theorem own_mono_base {w : World} {base base' tid sz n : Nat} {v : Value} {cells : List Value} (h : w.ownsRow base tid sz v n cells) (hb : base' ≤ base) : w.ownsRow base' tid sz v n cells:=own_lower h hb

/-- Behind append(s[:i],make(S,k)...) in a new block. -/
theorem own_zeros {w : World} {tid sz i k G : Nat} {cs : List Value} {z : Array Value} (hc : cs.length=i*sz) (hz : z.size=sz) (hG : i+k≤G) (hG2 : G≤maxLen) (base : Nat) (hb : base≤w.heap.size) :
    ∃ zs : List Value,(w.drew.alloc (.cells (cs.toArray++Builtin.zeroCells z k++Builtin.zeroCells z (G - (i+k))) tid)).ownsRow base tid sz (.slice (some ⟨w.heap.size,0,none⟩) (i+k) G) (i+k) (cs++zs):=by
  have e1 : (Builtin.zeroCells z k).size=k*sz:=by simp [Builtin.zeroCells,hz]
  have e2 : (Builtin.zeroCells z (G - (i+k))).size=(G - (i+k))*sz:=by simp [Builtin.zeroCells,hz]
  have h3 : G*sz=(i+k)*sz+(G - (i+k))*sz:=by rw [← Nat.add_mul]; congr 1; omega
  refine ⟨(Builtin.zeroCells z k).toList,by simp only [List.length_append,hc,Array.length_toList,e1,Nat.add_mul],.inr ⟨w.heap.size,G,_,rfl,hb,heap_alloc_new w.drew _,hG,hG2,?_,?_⟩⟩
  · simp only [Array.size_append,e1,e2,List.size_toArray,hc]; rw [h3,Nat.add_mul]
  · simp only [Array.toList_append,List.append_assoc]
    rw [← List.append_assoc]
    refine List.take_left' ?_
    simp only [List.length_append,hc,Array.length_toList,e1,Nat.add_mul]
theorem own_drew {w : World} {base tid sz n : Nat} {v : Value} {cells : List Value} (h : w.ownsRow base tid sz v n cells) : w.drew.ownsRow base tid sz v n cells:=h
/-- Shifted,then put in. -/
theorem ins_fin {cells cs gs : List Value} {n i sz : Nat} (ht : cells.take (n*sz)=cs) (hc : cs.length=n*sz) (hl : cells.length=(n+1)*sz) (hg : gs.length=1*sz) (hi : i≤n) :
    (cells.take ((i+1)*sz)++cs.drop (i*sz)++cells.drop ((i+1)*sz+(cs.drop (i*sz)).length)).take (i*sz)++gs++(cells.take ((i+1)*sz)++cs.drop (i*sz)++cells.drop ((i+1)*sz+(cs.drop (i*sz)).length)).drop (i*sz+gs.length)=cs.take (i*sz)++gs++cs.drop (i*sz):=by
  have e1 : (i+1)*sz=i*sz+sz:=by rw [Nat.add_mul,Nat.one_mul]
  have e2 : (n+1)*sz=n*sz+sz:=by rw [Nat.add_mul,Nat.one_mul]
  have e3 : i*sz≤n*sz:=Nat.mul_le_mul_right _ hi
  have hg : gs.length=sz:=by rw [hg,Nat.one_mul]
  have hd : (cells.drop ((i+1)*sz+(cs.drop (i*sz)).length))=[]:=by
    apply List.drop_of_length_le
    rw [List.length_drop,hc,hl,e1,e2]
    omega
  have h0 : (cells.take ((i+1)*sz)).length=i*sz+sz:=by rw [List.length_take,hl,e1,e2]; omega
  have h1 : (cells.take ((i+1)*sz)).take (i*sz)=cs.take (i*sz):=by
    rw [← ht,List.take_take,List.take_take,Nat.min_eq_left (by rw [e1]; omega),Nat.min_eq_left e3]
  rw [hd,List.append_nil,List.take_append_of_le_length (by rw [h0]; omega),h1,hg]
  congr 1
  rw [List.drop_append_of_le_length (by rw [h0]; omega),List.drop_of_length_le (by rw [h0]; omega),List.nil_append]
/-- Put into a new row,then what stood behind. -/
theorem ins_fin2 {cells cs gs zs : List Value} {n i sz : Nat} (ht : cells=cs.take (i*sz)++zs) (hc : cs.length=n*sz) (hl : cells.length=(n+1)*sz) (hg : gs.length=1*sz) (hi : i≤n) :
    (cells.take (i*sz)++gs++cells.drop (i*sz+gs.length)).take ((i+1)*sz)++cs.drop (i*sz)++(cells.take (i*sz)++gs++cells.drop (i*sz+gs.length)).drop ((i+1)*sz+(cs.drop (i*sz)).length)=cs.take (i*sz)++gs++cs.drop (i*sz):=by
  have e1 : (i+1)*sz=i*sz+sz:=by rw [Nat.add_mul,Nat.one_mul]
  have e2 : (n+1)*sz=n*sz+sz:=by rw [Nat.add_mul,Nat.one_mul]
  have e3 : i*sz≤n*sz:=Nat.mul_le_mul_right _ hi
  have hg : gs.length=sz:=by rw [hg,Nat.one_mul]
  have h0 : (cs.take (i*sz)).length=i*sz:=by rw [List.length_take,hc]; omega
  have h1 : cells.take (i*sz)=cs.take (i*sz):=by rw [ht,List.take_append_of_le_length (by omega),List.take_of_length_le (by omega)]
  rw [h1]
  have h2 : (cs.take (i*sz)++gs++cells.drop (i*sz+gs.length)).length=(n+1)*sz:=by
    simp only [List.length_append,h0,hg,List.length_drop,hl]; omega
  rw [List.drop_of_length_le (i:=(i+1)*sz+(cs.drop (i*sz)).length) (by rw [h2,List.length_drop,hc]; omega),List.append_nil]
  congr 1
  rw [List.take_append_of_le_length (by simp only [List.length_append,h0,hg]; omega),List.take_of_length_le (by simp only [List.length_append,h0,hg]; omega)]
end Go.Proofs.Ytakakoogpmhhkaa.Ab

/- slices.Insert of one element into an own row: its code walked. Printed from a template. -/
set_option linter.unusedVariables false
set_option linter.unusedSimpArgs false
set_option maxRecDepth 100000
namespace Go.Proofs.Ytakakoogpmhhkaa.Ab
open Go Go.RowKit Go.Lib
section
variable (w : World) (base : Nat) (v1 : Value) (g cap vb vc n i : Nat) (cs gs : List Value)
theorem ins66_size : (Try.prog.info? 83).map (·.size)=some 7:=by kernel_rfl
theorem ins66_hov (h1 : w.ownsRow base 83 7 (.slice (some ⟨vb,0,none⟩) 1 vc) 1 gs) {N : Nat} {cells : List Value} (h2 : w.ownsRow base 83 7 (.slice (some ⟨g,0,none⟩) N cap) N cells) (hN : 0<N) (hne : vb≠g) (o lb cb : Nat) :
    (callFunc 75 #[.slice (some ⟨vb,0,none⟩) 1 vc,.slice (some ⟨g,o,none⟩) lb cb]).run Try.prog w = .ok (.value (.bool false)) w:=by
  have hcap : 1≤cap:=by
    obtain ⟨g',cap',e,_,_,h,_⟩:=own_some h2 hN
    cases e
    omega
  have hvc : 1≤vc:=by
    obtain ⟨g',cap',e,_,_,h,_⟩:=own_some h1 (by omega)
    cases e
    omega
  rw [run_callFunc_extern Try.func75 (by kernel_rfl) (by kernel_rfl) (by kernel_rfl) (e:=Extern.SlicesOverlaps.overlaps #[33,33] #[4]) (by kernel_rfl),
    Lib.run_overlaps_apart w 33 4 83 Try.underlying33 7 (fun w=>by kernel_rfl) ⟨vb,0,none⟩ ⟨g,o,none⟩ 1 vc lb cb hne 83 83 (vc*7) (cap*7) (own_shape h1) (own_shape h2) (by omega) (own_frozen h1 _) (own_frozen h1 _)]
  rfl
end
set_option maxHeartbeats 4000000 in
theorem ins66_room (w : World) (base : Nat) (g cap vb vc n i : Nat) (cs gs : List Value) (hs : w.ownsRow base 83 7 (.slice (some ⟨g,0,none⟩) n cap) n cs) (h1 : w.ownsRow base 83 7 (.slice (some ⟨vb,0,none⟩) 1 vc) 1 gs) (hne : vb≠g) (hi : i<n) (hroom : n+1≤cap) (hcm : cap≤maxLen)
    (o1 : ∀ u,u ∈ cs→u.oneCell' = true) (o2 : ∀ u,u ∈ gs→u.oneCell' = true) :
    Calls Try.prog 66 #[.slice (some ⟨g,0,none⟩) n cap,.int .i64 i,.slice (some ⟨vb,0,none⟩) 1 vc] w fun e w' => ∃ v',e = .returned v' ∧ w'.ownsRow base 83 7 v' (n+1) (cs.take (i*7)++gs++cs.drop (i*7))∧w.grownBy w' (some g)∧v'.ownBlock=some g:=by
  have hcl : cs.length=n*7:=hs.1
  have hgl : gs.length=1*7:=h1.1
  obtain ⟨cells,hs2,htk⟩:=own_more hs (m:=n+1) (by omega) hroom
  have hov:=ins66_hov w base g cap vb vc gs h1 hs2 (by omega) hne
  unfold maxLen at hcm
  have hcell : ∀ j u,cs[j]? = some u→w.cell? ⟨g,j,none⟩=some u:=(by
    obtain ⟨g',cap',e,_,_,_,_,h⟩:=own_some hs (by omega)
    cases e
    exact h)
  have hgcell : ∀ j u,gs[j]? = some u→w.cell? ⟨vb,j,none⟩=some u:=(by
    obtain ⟨g',cap',e,_,_,_,_,h⟩:=own_some h1 (by omega)
    cases e
    exact h)
  have hci : i*7≤cells.length:=by rw [hs2.1]; exact Nat.mul_le_mul_right _ (by omega)
  obtain ⟨c1,q1,q2⟩:=copy_own (P:=Try.prog) (w:=w.drew) (T:=33) (T' := 33) (ty:=3) (i:=(Try.prog.info? 83).get (by kernel_rfl)) (d:=i+1) (m:=n+1 - i) (c:=cap - i) (c' := cap - (i+1)) (q:=n - i) (p:=⟨g,i*7,none⟩) (us:=cs.drop (i*7)) (own_drew hs2) Try.underlying33 (by kernel_rfl) (by kernel_rfl) (by omega) (by omega) (by rw [List.length_drop,hcl,Nat.sub_mul])
    (fun j u hj=>by rw [add_none]; rw [List.getElem?_drop] at hj; exact hcell _ u hj) (fun u hu=>o1 u (List.mem_of_mem_drop hu))
  obtain ⟨c2,q3,q4⟩:=copy_own (P:=Try.prog) (w:=w.drew.setRow g c1) (T:=33) (T' := 33) (ty:=3) (i:=(Try.prog.info? 83).get (by kernel_rfl)) (d:=i) (m:=1) (c:=vc) (c' := cap - i) (q:=1) (p:=⟨vb,0,none⟩) (us:=gs) q2 Try.underlying33 (by kernel_rfl) (by kernel_rfl) (by omega) (by omega) hgl
    (fun j u hj=>by
      rw [add_none,World.cell?_of_block (w:=w.drew) (setRow_other w.drew g vb c1 hne),Nat.zero_add]
      exact hgcell j u hj) o2
  have hfin : (cells.take ((i+1)*7)++cs.drop (i*7)++cells.drop ((i+1)*7+(cs.drop (i*7)).length)).take (i*7)++gs++(cells.take ((i+1)*7)++cs.drop (i*7)++cells.drop ((i+1)*7+(cs.drop (i*7)).length)).drop (i*7+gs.length)=cs.take (i*7)++gs++cs.drop (i*7) :=
    ins_fin htk hcl hs2.1 hgl (by omega)
  rw [hfin] at q4
  have hw1 : IntKind.i64.wrap ((n : Int)+1)=(n : Int)+1:=by rw [IntKind.wrap_i64]; omega
  have hw2 : IntKind.i64.wrap ((i : Int)+1)=(i : Int)+1:=by rw [IntKind.wrap_i64]; omega
  have hz2 : ¬ ((i : Int)=(n : Int)):=by omega
  have hz3 : ¬ ((cap : Int)<(n : Int)+1):=by omega
  have hb0 : i≤n:=by omega
  have hb1 : (0 : Int)≤(i : Int)+1:=by omega
  have hb2 : (0 : Int)≤(n : Int)+1:=by omega
  have hb3 : (n : Int)+1≤(cap : Int):=by omega
  have hb4 : (i : Int)+1≤(n : Int)+1:=by omega
  have hb5 : (i : Int)≤(n : Int)+1:=by omega
  have hb6 : ¬ (cap=i):=by omega
  have hb7 : ¬ (cap=i+1):=by omega
  have htn : ((i : Int)+1).toNat=i+1:=by omega
  have htm : ((n : Int)+1).toNat=n+1:=by omega
  have hgrow : w.grownBy ((w.drew.setRow g c1).setRow g c2) (some g):=grown_trans (grown_trans (grown_drew w _) (grown_setRow _ _ _)) (grown_setRow _ _ _)
  clear hfin
  have mixed:=(show Try.prog.follows .mixedOrders=true by kernel_rfl)
  go_enter Try.func66,Try.ntmps66
  go_wp2_with (simp only [hov])
  go_region_law_o (refine step_copy_runI rfl _ _ 33 33 rfl (.slice (some ⟨g,(i+1)*7,none⟩) (n+1 - (i+1)) (cap - (i+1))) (.slice (some ⟨g,i*7,none⟩) (n+1 - i) (cap - i)) (by simp [Act.eval,Act.put]) (by simp [Act.eval,Act.put]) q1 ?_)
  go_wp2_with (at_builtin; refine wpList_copy_runI _ rfl _ _ 33 33 rfl _ _ rfl rfl q3 ?_)
  go_ret
  exact ⟨_,rfl,q4,hgrow,rfl⟩
set_option maxHeartbeats 4000000 in
theorem ins66_end (w : World) (base : Nat) (v : Value) (vb vc n : Nat) (cs gs : List Value) (hs : w.ownsRow base 83 7 v n cs) (h1 : w.ownsRow base 83 7 (.slice (some ⟨vb,0,none⟩) 1 vc) 1 gs) (hb : base≤w.heap.size) (hby : (n+1)*72≤140737488355328) (o2 : ∀ u,u ∈ gs→u.oneCell' = true) :
    Calls Try.prog 66 #[v,.int .i64 n,.slice (some ⟨vb,0,none⟩) 1 vc] w fun e w' => ∃ v',e = .returned v' ∧ w'.ownsRow base 83 7 v' (n+1) (cs++gs)∧w.grownBy w' v.ownBlock∧(v'.ownBlock=v.ownBlock∨v'.ownBlock=some w.heap.size):=by
  have hgl : gs.length=1*7:=h1.1
  have hgcell : ∀ j u,gs[j]? = some u→w.cell? ⟨vb,j,none⟩=some u:=(by
    obtain ⟨g',cap',e,_,_,_,_,h⟩:=own_some h1 (by omega)
    cases e
    exact h)
  have hI : Try.prog.info? 83=some ((Try.prog.info? 83).get (by kernel_rfl)):=by kernel_rfl
  obtain ⟨z,hz⟩ : ∃ z,((Try.prog.info? 83).get (by kernel_rfl)).zero=some z:=⟨_,rfl⟩
  have hzs : z.cells.size=7:=by
    have : ((Try.prog.info? 83).get (by kernel_rfl)).zero.map (·.cells.size)=some 7:=by kernel_rfl
    rw [hz] at this
    exact Option.some.inj this
  have hgs : (List.range (1*7)).map (fun j=>gs.getD j undef)=gs:=by
    apply List.ext_getElem
    · simp [hgl]
    · intro m hm1 hm2
      simp [List.getD_eq_getElem?_getD,hm2]
  have hap : ∃ v' w',(Builtin.append_ #[33,33] 33 #[v,.slice (some ⟨vb,0,none⟩) 1 vc]).run Try.prog w = .ok v' w' ∧ w'.ownsRow base 83 7 v' (n+1) (cs++(List.range (1*7)).map (fun j=>gs.getD j undef))∧w.grownBy w' v.ownBlock∧(v'.ownBlock=v.ownBlock∨v'.ownBlock=some w.heap.size) :=
    append_run (P:=Try.prog) (ty:=33) (bytes:=72) Try.underlying33 hI hz (by kernel_rfl) (by kernel_rfl) hzs (by omega) hs (m:=1) (c:=vc) (A:=some ⟨vb,0,none⟩) (f:=fun j=>gs.getD j undef)
      (fun _=>⟨_,rfl,fun j hj=>by
        rw [add_none,Nat.zero_add]
        refine hgcell j _ ?_
        rw [List.getD_eq_getElem?_getD,List.getElem?_eq_getElem (by omega)]; rfl⟩)
      (fun j hj=>by
        have hj' : j<gs.length:=by omega
        rw [List.getD_eq_getElem?_getD,List.getElem?_eq_getElem hj']
        exact o2 _ (List.getElem_mem hj')) (by unfold maxLen; omega) hby hb
  obtain ⟨v',w',q1,q2,q3,q4⟩:=hap
  rw [hgs] at q2
  have hw1 : IntKind.i64.wrap ((n : Int)+1)=(n : Int)+1:=by rw [IntKind.wrap_i64]; omega
  have mixed:=(show Try.prog.follows .mixedOrders=true by kernel_rfl)
  obtain ⟨A,c,hv,hA⟩:=owns_head hs
  have hnc : n≤c:=by
    rcases hs.2 with ⟨e,e'⟩ | ⟨g',cap',cur,e,_,_,h,_⟩
    · omega
    · rw [hv] at e; cases e; exact h
  have hc63 : c≤9223372036854775807:=by
    rcases hs.2 with ⟨e,e'⟩ | ⟨g',cap',cur,e,_,_,_,h,_⟩
    · rw [hv] at e; cases e; omega
    · rw [hv] at e; cases e; unfold maxLen at h; omega
  rw [hv] at q1 ⊢
  rw [hv] at q3 q4
  clear hI hz hgs hA
  cases A with
  | none =>
    go_enter Try.func66,Try.ntmps66
    go_wp2_with (at_builtin; refine Lib.wpList_append_run _ rfl _ _ _ _ rfl _ _ rfl rfl _ _ q1 ?_)
    all_goals (go_ret; exact ⟨_,rfl,q2,q3,q4⟩)
  | some a =>
    obtain ⟨ab,ao,asp⟩:=a
    go_enter Try.func66,Try.ntmps66
    go_wp2_with (at_builtin; refine Lib.wpList_append_run _ rfl _ _ _ _ rfl _ _ rfl rfl _ _ q1 ?_)
    all_goals (go_ret; exact ⟨_,rfl,q2,q3,q4⟩)
set_option maxHeartbeats 4000000 in
theorem ins66_grow (w : World) (base : Nat) (g cap vb vc n i : Nat) (cs gs : List Value) (hs : w.ownsRow base 83 7 (.slice (some ⟨g,0,none⟩) n cap) n cs) (h1 : w.ownsRow base 83 7 (.slice (some ⟨vb,0,none⟩) 1 vc) 1 gs) (hi : i<n) (hnc : n≤cap) (hroom : cap<n+1) (hb : base≤w.heap.size) (hby : (n+1)*72≤140737488355328)
    (o1 : ∀ u,u ∈ cs→u.oneCell' = true) (o2 : ∀ u,u ∈ gs→u.oneCell' = true) :
    Calls Try.prog 66 #[.slice (some ⟨g,0,none⟩) n cap,.int .i64 i,.slice (some ⟨vb,0,none⟩) 1 vc] w fun e w' => ∃ v',e = .returned v' ∧ w'.ownsRow base 83 7 v' (n+1) (cs.take (i*7)++gs++cs.drop (i*7))∧w.grownBy w' (some g)∧v'.ownBlock=some w.heap.size:=by
  have hcl : cs.length=n*7:=hs.1
  have hgl : gs.length=1*7:=h1.1
  have hcellg : g<w.heap.size ∧ ∀ j u,cs[j]? = some u→w.cell? ⟨g,j,none⟩=some u:=(by
    obtain ⟨g',cap',e,_,h3,_,_,h⟩:=own_some hs (by omega)
    cases e
    exact ⟨h3,h⟩)
  have hcellv : vb<w.heap.size ∧ ∀ j u,gs[j]? = some u→w.cell? ⟨vb,j,none⟩=some u:=(by
    obtain ⟨g',cap',e,_,h3,_,_,h⟩:=own_some h1 (by omega)
    cases e
    exact ⟨h3,h⟩)
  obtain ⟨hgw,hcell⟩:=hcellg
  obtain ⟨hvw,hgcell⟩:=hcellv
  have hI : Try.prog.info? 83=some ((Try.prog.info? 83).get (by kernel_rfl)):=by kernel_rfl
  obtain ⟨i0,hi0⟩ : ∃ i0,i0=(Try.prog.info? 83).get (by kernel_rfl):=⟨_,rfl⟩
  have hisz : i0.size=7:=by rw [hi0]; kernel_rfl
  have hiby : i0.bytes=72:=by rw [hi0]; kernel_rfl
  obtain ⟨z,hz⟩ : ∃ z,((Try.prog.info? 83).get (by kernel_rfl)).zero=some z:=⟨_,rfl⟩
  have hzs : z.cells.size=7:=by
    have : ((Try.prog.info? 83).get (by kernel_rfl)).zero.map (·.cells.size)=some 7:=by kernel_rfl
    rw [hz] at this
    exact Option.some.inj this
  rw [← hi0] at hI hz
  have hik : i+(n+1 - i)=n+1:=by omega
  have hkk : (n : Int)+1 - (i : Int)=((n+1 - i : Nat) : Int):=by omega
  have htl : (cs.take (i*7)).length=i*7:=by rw [List.length_take,hcl]; have : i*7≤n*7:=Nat.mul_le_mul_right _ (by omega); omega
  have hold : (Builtin.firstCells i0.size i (.slice (some ⟨g,0,none⟩) i cap)).run Try.prog w.drew = .ok (cs.take (i*7)).toArray w.drew:=by
    rw [hisz]
    exact run_firstCells_some w.drew 7 i ⟨g,0,none⟩ i cap (cs.take (i*7)) htl (fun j v hj=>by
      rw [add_none,Nat.zero_add]
      rw [List.getElem?_take] at hj
      split at hj
      · exact hcell j v hj
      · cases hj)
  obtain ⟨G,hG⟩ : ∃ G,G=grownCap w (n+1) cap 83:=⟨_,rfl⟩
  have hGn : n+1≤G:=by rw [hG]; exact grownCap_ge w _ _ _
  have hGm : G≤maxLen:=by rw [hG]; exact grownCap_le_maxLen w _ _ _ (by unfold maxLen; omega)
  have hrz : (Builtin.append_ #[33,3] 33 #[.slice (some ⟨g,0,none⟩) i cap,.int .i64 ((n : Int)+1 - (i : Int))]).run Try.prog w =
      .ok (.slice (some ⟨w.heap.size,0,none⟩) (n+1) G) (w.drew.alloc (.cells ((cs.take (i*7)).toArray++Builtin.zeroCells z.cells (n+1 - i)++Builtin.zeroCells z.cells (G - (n+1))) 83)):=by
    have h:=Lib.run_append_grow_zeros w 33 3 33 83 i0 z .i64 .i64 Try.underlying33 Try.underlying3 hI hz (some ⟨g,0,none⟩) i cap (cs.take (i*7)) hold (n+1 - i) (by omega) (by rw [hisz]; omega) (by omega) (by omega) (by rw [hiby]; omega) (by rw [hiby,hik]; exact growslice_fits hroom hby)
    rw [hik,← hG] at h
    rw [hkk]
    exact h
  obtain ⟨zs,hzo⟩:=own_zeros (w:=w) (tid:=83) (sz:=7) (i:=i) (k:=n+1 - i) (G:=G) htl hzs (by omega) hGm base hb
  rw [hik] at hzo
  obtain ⟨ROW,hROW⟩ : ∃ ROW : Array Value,ROW=(cs.take (i*7)).toArray++Builtin.zeroCells z.cells (n+1 - i)++Builtin.zeroCells z.cells (G - (n+1)):=⟨_,rfl⟩
  rw [← hROW] at hrz hzo
  have hzo1 : ((w.alloc (.cells ROW 83)).drew).ownsRow base 83 7 (.slice (some ⟨w.heap.size,0,none⟩) (n+1) G) (n+1) (cs.take (i*7)++zs):=hzo
  have hold1 : ∀ k,k<w.heap.size→((w.alloc (.cells ROW 83)).drew).heap[k]? = w.heap[k]? := fun k hk=>Below.heap_alloc w _ k hk
  obtain ⟨c1,q1,q2⟩:=copy_own (P:=Try.prog) (w:=(w.alloc (.cells ROW 83)).drew) (T:=33) (T' := 33) (ty:=3) (i:=i0) (d:=i) (m:=1) (c:=vc) (c' := G - i) (q:=1) (p:=⟨vb,0,none⟩) (us:=gs) hzo1 Try.underlying33 hI hisz (by omega) (by omega) hgl
    (fun j u hj=>by
      rw [add_none,World.cell?_of_block (w:=w) (hold1 vb hvw),Nat.zero_add]
      exact hgcell j u hj) o2
  have hne : g≠w.heap.size:=by omega
  obtain ⟨c2,q3,q4⟩:=copy_own (P:=Try.prog) (w:=((w.alloc (.cells ROW 83)).drew.setRow w.heap.size c1).drew) (T:=33) (T' := 33) (ty:=3) (i:=i0) (d:=i+1) (m:=n - i) (c:=cap - i) (c' := G - (i+1)) (q:=n - i) (p:=⟨g,i*7,none⟩) (us:=cs.drop (i*7)) (own_drew q2) Try.underlying33 hI hisz (by omega) (by omega) (by rw [List.length_drop,hcl,Nat.sub_mul])
    (fun j u hj=>by
      rw [add_none]
      rw [List.getElem?_drop] at hj
      rw [World.cell?_of_block (w:=(w.alloc (.cells ROW 83)).drew) (setRow_other (w.alloc (.cells ROW 83)).drew w.heap.size g c1 hne),World.cell?_of_block (w:=w) (hold1 g hgw)]
      exact hcell _ u hj) (fun u hu=>o1 u (List.mem_of_mem_drop hu))
  have hfin:=ins_fin2 (cells:=cs.take (i*7)++zs) (cs:=cs) (gs:=gs) (zs:=zs) (n:=n) (i:=i) (sz:=7) rfl hcl hzo1.1 hgl (by omega)
  rw [hfin] at q4
  have hgrow : w.grownBy (((w.alloc (.cells ROW 83)).drew.setRow w.heap.size c1).drew.setRow w.heap.size c2) (some g) :=
    grown_new (g:=w.heap.size) (w1:=(w.alloc (.cells ROW 83)).drew) (grown_trans (World.grownBy_alloc w _ none) (grown_drew _ _)) (grown_trans (grown_trans (grown_setRow _ _ _) (grown_drew _ _)) (grown_setRow _ _ _)) (Nat.le_refl _) _
  have hw1 : IntKind.i64.wrap ((n : Int)+1)=(n : Int)+1:=by rw [IntKind.wrap_i64]; omega
  have hw2 : IntKind.i64.wrap ((i : Int)+1)=(i : Int)+1:=by rw [IntKind.wrap_i64]; omega
  have hw3 : IntKind.i64.wrap ((n : Int)+1 - (i : Int))=(n : Int)+1 - (i : Int):=by rw [IntKind.wrap_i64]; omega
  have hz2 : ¬ ((i : Int)=(n : Int)):=by omega
  have hz3 : (cap : Int)<(n : Int)+1:=by omega
  have hb0 : i≤n:=by omega
  have hb1 : (0 : Int)≤(i : Int)+1:=by omega
  have hb4 : (i : Int)+1≤(n : Int)+1:=by omega
  have hb5 : (i : Int)≤(n : Int)+1:=by omega
  have hb6 : ¬ (G=i):=by omega
  have hb7 : ¬ (G=i+1):=by omega
  have hb8 : ¬ (cap=i):=by omega
  have hb9 : (i : Int)≤(cap : Int):=by omega
  have hba : i≤cap:=by omega
  have htn : ((i : Int)+1).toNat=i+1:=by omega
  unfold maxLen at hGm
  have mixed:=(show Try.prog.follows .mixedOrders=true by kernel_rfl)
  clear hI hz hzs hROW hG hfin hold hkk hik hzo hzo1 hold1 q2
  go_enter Try.func66,Try.ntmps66
  go_wp2_with (first
    | (at_builtin; refine Lib.wpList_append_run _ rfl _ _ _ _ rfl _ _ rfl rfl _ _ hrz ?_)
    | (at_builtin; refine wpList_copy_runI _ rfl _ _ 33 33 rfl _ _ rfl rfl q1 ?_))
  go_region_law_o (refine step_copy_runI rfl _ _ 33 33 rfl (.slice (some ⟨w.heap.size,(i+1)*7,none⟩) (n+1 - (i+1)) (G - (i+1))) (.slice (some ⟨g,i*7,none⟩) (n - i) (cap - i)) (by simp [Act.eval,Act.put]) (by simp [Act.eval,Act.put]) q3 ?_)
  go_wp2
  go_ret
  exact ⟨_,rfl,q4,hgrow,rfl⟩
theorem ins66_ok : InsOk Try.prog 66 83 7 72:=by
  have hnm : (Try.f66.name == "runtime.NumGoroutine") = false := by kernel_rfl
  refine ⟨⟨Try.f66,Try.func66,by kernel_rfl,by simpa using hnm⟩,fun w base v v1 n i cs gs hs h1 hb hin hby hne o1 o2 => ?_⟩
  obtain ⟨vb,vc,e1,_,_,_,_,_⟩:=own_some h1 (by omega)
  subst e1
  rcases Nat.lt_or_ge i n with hlt | hge
  · obtain ⟨g,cap,e,_,_,hnc,hcm,_⟩:=own_some hs (by omega)
    subst e
    rcases Nat.lt_or_ge cap (n+1) with hc | hc
    · exact (ins66_grow w base g cap vb vc n i cs gs hs h1 hlt hnc hc hb hby o1 o2).mono fun e w' ⟨v',h1,h2,h3,h4⟩=>⟨v',h1,h2,h3,.inr fun g' hg=>by rw [h4] at hg; cases hg; exact Nat.le_refl _⟩
    · exact (ins66_room w base g cap vb vc n i cs gs hs h1 (fun e=>hne g rfl (by rw [e]; rfl)) hlt hc hcm o1 o2).mono fun e w' ⟨v',h1,h2,h3,h4⟩=>⟨v',h1,h2,h3,.inl (by rw [h4]; rfl)⟩
  · have : i=n:=by omega
    subst this
    have e1 : cs.take (i*7)=cs:=List.take_of_length_le (by rw [hs.1]; omega)
    have e2 : cs.drop (i*7)=[]:=List.drop_of_length_le (by rw [hs.1]; omega)
    rw [e1,e2,List.append_nil]
    exact (ins66_end w base v vb vc i cs gs hs h1 hb hby o2).mono fun e w' ⟨v',h1,h2,h3,h4⟩=>⟨v',h1,h2,h3,h4.imp (fun h=>h) fun h g' hg=>by rw [h] at hg; cases hg; exact Nat.le_refl _⟩
end Go.Proofs.Ytakakoogpmhhkaa.Ab

/- A codec,printed by codec.py: structures,cells,the table of types and its facts. -/
set_option linter.unusedVariables false
set_option linter.unusedSimpArgs false
namespace Go.Proofs.Ytakakoogpmhhkaa.Ab
open Go Go.RowKit
inductive Ty where
  | e5
  | e26
  | e29
  | e36
  | e42
  | e70
  | e73
  | e76
  | e79
  | e81
  | e83
  | e89
  | e92
  | e98
  deriving DecidableEq
structure VStewService where
  Name : ByteArray
  Version : Int
  Gone : Bool
  Image : Int
  Want : Int
  Down : Int
  Over : Int
  Next : Int
  Per : Int
  Least : Int
  Most : Int
  Load : Int
  Cool : Int
structure VStewCopy where
  Service : ByteArray
  Number : Int
  Version : Int
  Image : Int
  State : Int
  Ending : Bool
  Berth : ByteArray
structure VStewBerth where
  Name : ByteArray
  Drain : Bool
structure VStewBook where
  Now : Int
  Services : List VStewService
  Copies : List VStewCopy
  Berths : List VStewBerth
structure VStewEnd where
  Number : Int
  Seen : Int
structure VStewAct where
  Service : ByteArray
  Seen : Int
  Create : Int
  Want : Int
  Cool : Int
  Scale : Bool
  Ends : List VStewEnd
  Drop : Bool
structure VStewCount where
  Live : Int
  Ready : Int
  Old : Int
  Failed : Int
  Ending : Int
structure VboundsError where
  x : Int
  y : Int
  signed : Bool
  code : Int
structure VerrorAddressString where
  msg : ByteArray
  addr : Int
abbrev C : Ty→Type
  | .e5=>Int
  | .e26=>VStewBook
  | .e29=>VStewAct
  | .e36=>VStewBook
  | .e42=>VStewAct
  | .e70=>VStewService
  | .e73=>VStewCopy
  | .e76=>VStewBerth
  | .e79=>VStewService
  | .e81=>VStewBerth
  | .e83=>VStewCopy
  | .e89=>VStewEnd
  | .e92=>VStewCount
  | .e98=>VStewEnd
def enc : (t : Ty)→C t→List (Lf C)
  | .e5,x=>[.int .u8 x]
  | .e26,x=>[.int .i64 x.Now,.row .e70 x.Services,.row .e73 x.Copies,.row .e76 x.Berths]
  | .e29,x=>[.str x.Service,.int .i64 x.Seen,.int .i64 x.Create,.int .i64 x.Want,.int .i64 x.Cool,.bool x.Scale,.row .e98 x.Ends,.bool x.Drop]
  | .e36,x=>[.int .i64 x.Now,.row .e79 x.Services,.row .e83 x.Copies,.row .e81 x.Berths]
  | .e42,x=>[.str x.Service,.int .i64 x.Seen,.int .i64 x.Create,.int .i64 x.Want,.int .i64 x.Cool,.bool x.Scale,.row .e89 x.Ends,.bool x.Drop]
  | .e70,x=>[.str x.Name,.int .i64 x.Version,.bool x.Gone,.int .i64 x.Image,.int .i64 x.Want,.int .i64 x.Down,.int .i64 x.Over,.int .i64 x.Next,.int .i64 x.Per,.int .i64 x.Least,.int .i64 x.Most,.int .i64 x.Load,.int .i64 x.Cool]
  | .e73,x=>[.str x.Service,.int .i64 x.Number,.int .i64 x.Version,.int .i64 x.Image,.int .i64 x.State,.bool x.Ending,.str x.Berth]
  | .e76,x=>[.str x.Name,.bool x.Drain]
  | .e79,x=>[.str x.Name,.int .i64 x.Version,.bool x.Gone,.int .i64 x.Image,.int .i64 x.Want,.int .i64 x.Down,.int .i64 x.Over,.int .i64 x.Next,.int .i64 x.Per,.int .i64 x.Least,.int .i64 x.Most,.int .i64 x.Load,.int .i64 x.Cool]
  | .e81,x=>[.str x.Name,.bool x.Drain]
  | .e83,x=>[.str x.Service,.int .i64 x.Number,.int .i64 x.Version,.int .i64 x.Image,.int .i64 x.State,.bool x.Ending,.str x.Berth]
  | .e89,x=>[.int .i64 x.Number,.int .i64 x.Seen]
  | .e92,x=>[.int .i64 x.Live,.int .i64 x.Ready,.int .i64 x.Old,.int .i64 x.Failed,.int .i64 x.Ending]
  | .e98,x=>[.int .i64 x.Number,.int .i64 x.Seen]
def d5 (cs : List (Lf C)) : Option (C .e5):=match cs with
  | [.int .u8 x]=>some x
  | _=>none
theorem d5_ok (cs : List (Lf C)) (x : C .e5) (h : d5 cs=some x) : enc .e5 x=cs:=by
  unfold d5 at h
  split at h
  · cases h; rfl
  · cases h
def d26 (cs : List (Lf C)) : Option (C .e26):=match cs with
  | [.int .i64 x0,.row .e70 x1,.row .e73 x2,.row .e76 x3]=>some ⟨x0,x1,x2,x3⟩
  | _=>none
theorem d26_ok (cs : List (Lf C)) (x : C .e26) (h : d26 cs=some x) : enc .e26 x=cs:=by
  unfold d26 at h
  split at h
  · cases h; rfl
  · cases h
def d29 (cs : List (Lf C)) : Option (C .e29):=match cs with
  | [.str x0,.int .i64 x1,.int .i64 x2,.int .i64 x3,.int .i64 x4,.bool x5,.row .e98 x6,.bool x7]=>some ⟨x0,x1,x2,x3,x4,x5,x6,x7⟩
  | _=>none
theorem d29_ok (cs : List (Lf C)) (x : C .e29) (h : d29 cs=some x) : enc .e29 x=cs:=by
  unfold d29 at h
  split at h
  · cases h; rfl
  · cases h
def d36 (cs : List (Lf C)) : Option (C .e36):=match cs with
  | [.int .i64 x0,.row .e79 x1,.row .e83 x2,.row .e81 x3]=>some ⟨x0,x1,x2,x3⟩
  | _=>none
theorem d36_ok (cs : List (Lf C)) (x : C .e36) (h : d36 cs=some x) : enc .e36 x=cs:=by
  unfold d36 at h
  split at h
  · cases h; rfl
  · cases h
def d42 (cs : List (Lf C)) : Option (C .e42):=match cs with
  | [.str x0,.int .i64 x1,.int .i64 x2,.int .i64 x3,.int .i64 x4,.bool x5,.row .e89 x6,.bool x7]=>some ⟨x0,x1,x2,x3,x4,x5,x6,x7⟩
  | _=>none
theorem d42_ok (cs : List (Lf C)) (x : C .e42) (h : d42 cs=some x) : enc .e42 x=cs:=by
  unfold d42 at h
  split at h
  · cases h; rfl
  · cases h
def d70 (cs : List (Lf C)) : Option (C .e70):=match cs with
  | [.str x0,.int .i64 x1,.bool x2,.int .i64 x3,.int .i64 x4,.int .i64 x5,.int .i64 x6,.int .i64 x7,.int .i64 x8,.int .i64 x9,.int .i64 x10,.int .i64 x11,.int .i64 x12]=>some ⟨x0,x1,x2,x3,x4,x5,x6,x7,x8,x9,x10,x11,x12⟩
  | _=>none
theorem d70_ok (cs : List (Lf C)) (x : C .e70) (h : d70 cs=some x) : enc .e70 x=cs:=by
  unfold d70 at h
  split at h
  · cases h; rfl
  · cases h
def d73 (cs : List (Lf C)) : Option (C .e73):=match cs with
  | [.str x0,.int .i64 x1,.int .i64 x2,.int .i64 x3,.int .i64 x4,.bool x5,.str x6]=>some ⟨x0,x1,x2,x3,x4,x5,x6⟩
  | _=>none
theorem d73_ok (cs : List (Lf C)) (x : C .e73) (h : d73 cs=some x) : enc .e73 x=cs:=by
  unfold d73 at h
  split at h
  · cases h; rfl
  · cases h
def d76 (cs : List (Lf C)) : Option (C .e76):=match cs with
  | [.str x0,.bool x1]=>some ⟨x0,x1⟩
  | _=>none
theorem d76_ok (cs : List (Lf C)) (x : C .e76) (h : d76 cs=some x) : enc .e76 x=cs:=by
  unfold d76 at h
  split at h
  · cases h; rfl
  · cases h
def d79 (cs : List (Lf C)) : Option (C .e79):=match cs with
  | [.str x0,.int .i64 x1,.bool x2,.int .i64 x3,.int .i64 x4,.int .i64 x5,.int .i64 x6,.int .i64 x7,.int .i64 x8,.int .i64 x9,.int .i64 x10,.int .i64 x11,.int .i64 x12]=>some ⟨x0,x1,x2,x3,x4,x5,x6,x7,x8,x9,x10,x11,x12⟩
  | _=>none
theorem d79_ok (cs : List (Lf C)) (x : C .e79) (h : d79 cs=some x) : enc .e79 x=cs:=by
  unfold d79 at h
  split at h
  · cases h; rfl
  · cases h
def d81 (cs : List (Lf C)) : Option (C .e81):=match cs with
  | [.str x0,.bool x1]=>some ⟨x0,x1⟩
  | _=>none
theorem d81_ok (cs : List (Lf C)) (x : C .e81) (h : d81 cs=some x) : enc .e81 x=cs:=by
  unfold d81 at h
  split at h
  · cases h; rfl
  · cases h
def d83 (cs : List (Lf C)) : Option (C .e83):=match cs with
  | [.str x0,.int .i64 x1,.int .i64 x2,.int .i64 x3,.int .i64 x4,.bool x5,.str x6]=>some ⟨x0,x1,x2,x3,x4,x5,x6⟩
  | _=>none
theorem d83_ok (cs : List (Lf C)) (x : C .e83) (h : d83 cs=some x) : enc .e83 x=cs:=by
  unfold d83 at h
  split at h
  · cases h; rfl
  · cases h
def d89 (cs : List (Lf C)) : Option (C .e89):=match cs with
  | [.int .i64 x0,.int .i64 x1]=>some ⟨x0,x1⟩
  | _=>none
theorem d89_ok (cs : List (Lf C)) (x : C .e89) (h : d89 cs=some x) : enc .e89 x=cs:=by
  unfold d89 at h
  split at h
  · cases h; rfl
  · cases h
def d92 (cs : List (Lf C)) : Option (C .e92):=match cs with
  | [.int .i64 x0,.int .i64 x1,.int .i64 x2,.int .i64 x3,.int .i64 x4]=>some ⟨x0,x1,x2,x3,x4⟩
  | _=>none
theorem d92_ok (cs : List (Lf C)) (x : C .e92) (h : d92 cs=some x) : enc .e92 x=cs:=by
  unfold d92 at h
  split at h
  · cases h; rfl
  · cases h
def d98 (cs : List (Lf C)) : Option (C .e98):=match cs with
  | [.int .i64 x0,.int .i64 x1]=>some ⟨x0,x1⟩
  | _=>none
theorem d98_ok (cs : List (Lf C)) (x : C .e98) (h : d98 cs=some x) : enc .e98 x=cs:=by
  unfold d98 at h
  split at h
  · cases h; rfl
  · cases h
def dec (t : Ty) : List (Lf C)→Option (C t):=match t with
  | .e5=>d5
  | .e26=>d26
  | .e29=>d29
  | .e36=>d36
  | .e42=>d42
  | .e70=>d70
  | .e73=>d73
  | .e76=>d76
  | .e79=>d79
  | .e81=>d81
  | .e83=>d83
  | .e89=>d89
  | .e92=>d92
  | .e98=>d98
noncomputable def KK : Cd C where
  enc:=enc
  dec:=dec
  sz:=fun t=>match t with
    | .e5=>1
    | .e26=>4
    | .e29=>8
    | .e36=>4
    | .e42=>8
    | .e70=>13
    | .e73=>7
    | .e76=>2
    | .e79=>13
    | .e81=>2
    | .e83=>7
    | .e89=>2
    | .e92=>5
    | .e98=>2
  tid:=fun t=>match t with
    | .e5=>5
    | .e26=>26
    | .e29=>29
    | .e36=>36
    | .e42=>42
    | .e70=>70
    | .e73=>73
    | .e76=>76
    | .e79=>79
    | .e81=>81
    | .e83=>83
    | .e89=>89
    | .e92=>92
    | .e98=>98
  bytes:=fun t=>match t with
    | .e5=>1
    | .e26=>80
    | .e29=>88
    | .e36=>80
    | .e42=>88
    | .e70=>112
    | .e73=>72
    | .e76=>24
    | .e79=>112
    | .e81=>24
    | .e83=>72
    | .e89=>16
    | .e92=>40
    | .e98=>16
  zero:=fun t=>match t with
    | .e5=>(0 : Int)
    | .e26=>(⟨0,[],[],[]⟩ : VStewBook)
    | .e29=>(⟨⟨#[]⟩,0,0,0,0,false,[],false⟩ : VStewAct)
    | .e36=>(⟨0,[],[],[]⟩ : VStewBook)
    | .e42=>(⟨⟨#[]⟩,0,0,0,0,false,[],false⟩ : VStewAct)
    | .e70=>(⟨⟨#[]⟩,0,false,0,0,0,0,0,0,0,0,0,0⟩ : VStewService)
    | .e73=>(⟨⟨#[]⟩,0,0,0,0,false,⟨#[]⟩⟩ : VStewCopy)
    | .e76=>(⟨⟨#[]⟩,false⟩ : VStewBerth)
    | .e79=>(⟨⟨#[]⟩,0,false,0,0,0,0,0,0,0,0,0,0⟩ : VStewService)
    | .e81=>(⟨⟨#[]⟩,false⟩ : VStewBerth)
    | .e83=>(⟨⟨#[]⟩,0,0,0,0,false,⟨#[]⟩⟩ : VStewCopy)
    | .e89=>(⟨0,0⟩ : VStewEnd)
    | .e92=>(⟨0,0,0,0,0⟩ : VStewCount)
    | .e98=>(⟨0,0⟩ : VStewEnd)
  pos:=fun t=>by cases t <;> decide
  enc_len:=fun t x=>by cases t <;> rfl
  enc_dec:=fun t cs x h=>by
    cases t
    · exact d5_ok cs x h
    · exact d26_ok cs x h
    · exact d29_ok cs x h
    · exact d36_ok cs x h
    · exact d42_ok cs x h
    · exact d70_ok cs x h
    · exact d73_ok cs x h
    · exact d76_ok cs x h
    · exact d79_ok cs x h
    · exact d81_ok cs x h
    · exact d83_ok cs x h
    · exact d89_ok cs x h
    · exact d92_ok cs x h
    · exact d98_ok cs x h
  enc_plain:=fun t x l h=>by
    cases t <;> simp only [enc,List.mem_cons,List.not_mem_nil,or_false] at h <;> (first | (subst h; rfl) | (rcases h with rfl <;> rfl) | (repeat (rcases h with rfl | h; · rfl)) <;> (subst h; rfl))
  flat:=fun t=>match t with
    | .e5=>true
    | .e26=>false
    | .e29=>false
    | .e36=>false
    | .e42=>false
    | .e70=>true
    | .e73=>true
    | .e76=>true
    | .e79=>true
    | .e81=>true
    | .e83=>true
    | .e89=>true
    | .e92=>true
    | .e98=>true
  byte:=fun t=>match t with
    | .e5=>true
    | .e26=>false
    | .e29=>false
    | .e36=>false
    | .e42=>false
    | .e70=>false
    | .e73=>false
    | .e76=>false
    | .e79=>false
    | .e81=>false
    | .e83=>false
    | .e89=>false
    | .e92=>false
    | .e98=>false
  enc_byte:=fun t ht x=>by cases t <;> first | (cases ht; done) | exact ⟨_,rfl⟩
  enc_flat:=fun t ht x t' ys h=>by cases t <;> first | (cases ht; done) | (simp [enc] at h)
def tks : List (Nat×TK Ty):=[
  (1,.one (.fnc)),
  (2,.one (.int .i64)),
  (3,.one (.int .i64)),
  (4,.one (.bool)),
  (5,.one (.int .u8)),
  (6,.one (.int .u8)),
  (7,.agg [(0,1,false),(1,1,false),(2,1,false),(3,1,false)] [.int .i64,.int .i64,.bool,.int .u8]),
  (8,.agg [(0,1,false),(1,1,false),(2,1,false),(3,1,false)] [.int .i64,.int .i64,.bool,.int .u8]),
  (9,.one (.str)),
  (10,.one (.str)),
  (11,.one (.str)),
  (12,.one (.int .u64)),
  (13,.agg [(0,1,false),(1,1,false)] [.str,.int .u64]),
  (14,.agg [(0,1,false),(1,1,false)] [.str,.int .u64]),
  (15,.one (.ptr)),
  (16,.one (.ptr)),
  (17,.one (.ptr)),
  (18,.agg [(0,1,false)] [.ptr]),
  (19,.agg [(0,1,false)] [.ptr]),
  (20,.one (.nk .ifc)),
  (21,.one (.int .i32)),
  (22,.one (.sli .e70)),
  (23,.one (.sli .e73)),
  (24,.one (.sli .e76)),
  (25,.agg [(0,1,false),(1,1,false),(2,1,false),(3,1,false)] [.int .i64,.sli .e70,.sli .e73,.sli .e76]),
  (26,.agg [(0,1,false),(1,1,false),(2,1,false),(3,1,false)] [.int .i64,.sli .e70,.sli .e73,.sli .e76]),
  (27,.one (.sli .e98)),
  (28,.agg [(0,1,false),(1,1,false),(2,1,false),(3,1,false),(4,1,false),(5,1,false),(6,1,false),(7,1,false)] [.str,.int .i64,.int .i64,.int .i64,.int .i64,.bool,.sli .e98,.bool]),
  (29,.agg [(0,1,false),(1,1,false),(2,1,false),(3,1,false),(4,1,false),(5,1,false),(6,1,false),(7,1,false)] [.str,.int .i64,.int .i64,.int .i64,.int .i64,.bool,.sli .e98,.bool]),
  (30,.one (.fnc)),
  (31,.one (.fnc)),
  (32,.one (.sli .e79)),
  (33,.one (.sli .e83)),
  (34,.one (.sli .e81)),
  (35,.agg [(0,1,false),(1,1,false),(2,1,false),(3,1,false)] [.int .i64,.sli .e79,.sli .e83,.sli .e81]),
  (36,.agg [(0,1,false),(1,1,false),(2,1,false),(3,1,false)] [.int .i64,.sli .e79,.sli .e83,.sli .e81]),
  (38,.one (.fnc)),
  (39,.one (.fnc)),
  (40,.one (.sli .e89)),
  (41,.agg [(0,1,false),(1,1,false),(2,1,false),(3,1,false),(4,1,false),(5,1,false),(6,1,false),(7,1,false)] [.str,.int .i64,.int .i64,.int .i64,.int .i64,.bool,.sli .e89,.bool]),
  (42,.agg [(0,1,false),(1,1,false),(2,1,false),(3,1,false),(4,1,false),(5,1,false),(6,1,false),(7,1,false)] [.str,.int .i64,.int .i64,.int .i64,.int .i64,.bool,.sli .e89,.bool]),
  (43,.one (.fnc)),
  (44,.one (.fnc)),
  (45,.one (.fnc)),
  (46,.one (.fnc)),
  (47,.one (.fnc)),
  (48,.one (.fnc)),
  (49,.one (.fnc)),
  (50,.one (.fnc)),
  (51,.one (.fnc)),
  (52,.one (.fnc)),
  (53,.one (.fnc)),
  (54,.one (.fnc)),
  (55,.one (.fnc)),
  (56,.one (.fnc)),
  (57,.one (.fnc)),
  (58,.one (.fnc)),
  (59,.one (.fnc)),
  (60,.one (.fnc)),
  (61,.one (.fnc)),
  (62,.one (.fnc)),
  (63,.one (.fnc)),
  (64,.one (.fnc)),
  (65,.one (.fnc)),
  (66,.one (.fnc)),
  (67,.one (.fnc)),
  (68,.one (.fnc)),
  (69,.agg [(0,1,false),(1,1,false),(2,1,false),(3,1,false),(4,1,false),(5,1,false),(6,1,false),(7,1,false),(8,1,false),(9,1,false),(10,1,false),(11,1,false),(12,1,false)] [.str,.int .i64,.bool,.int .i64,.int .i64,.int .i64,.int .i64,.int .i64,.int .i64,.int .i64,.int .i64,.int .i64,.int .i64]),
  (70,.agg [(0,1,false),(1,1,false),(2,1,false),(3,1,false),(4,1,false),(5,1,false),(6,1,false),(7,1,false),(8,1,false),(9,1,false),(10,1,false),(11,1,false),(12,1,false)] [.str,.int .i64,.bool,.int .i64,.int .i64,.int .i64,.int .i64,.int .i64,.int .i64,.int .i64,.int .i64,.int .i64,.int .i64]),
  (71,.one (.fnc)),
  (72,.agg [(0,1,false),(1,1,false),(2,1,false),(3,1,false),(4,1,false),(5,1,false),(6,1,false)] [.str,.int .i64,.int .i64,.int .i64,.int .i64,.bool,.str]),
  (73,.agg [(0,1,false),(1,1,false),(2,1,false),(3,1,false),(4,1,false),(5,1,false),(6,1,false)] [.str,.int .i64,.int .i64,.int .i64,.int .i64,.bool,.str]),
  (74,.one (.fnc)),
  (75,.agg [(0,1,false),(1,1,false)] [.str,.bool]),
  (76,.agg [(0,1,false),(1,1,false)] [.str,.bool]),
  (77,.one (.fnc)),
  (78,.one (.fnc)),
  (79,.agg [(0,1,false),(1,1,false),(2,1,false),(3,1,false),(4,1,false),(5,1,false),(6,1,false),(7,1,false),(8,1,false),(9,1,false),(10,1,false),(11,1,false),(12,1,false)] [.str,.int .i64,.bool,.int .i64,.int .i64,.int .i64,.int .i64,.int .i64,.int .i64,.int .i64,.int .i64,.int .i64,.int .i64]),
  (80,.one (.fnc)),
  (81,.agg [(0,1,false),(1,1,false)] [.str,.bool]),
  (82,.one (.fnc)),
  (83,.agg [(0,1,false),(1,1,false),(2,1,false),(3,1,false),(4,1,false),(5,1,false),(6,1,false)] [.str,.int .i64,.int .i64,.int .i64,.int .i64,.bool,.str]),
  (84,.one (.fnc)),
  (85,.one (.fnc)),
  (86,.one (.fnc)),
  (87,.one (.fnc)),
  (88,.agg [(0,1,false),(1,1,false)] [.int .i64,.int .i64]),
  (89,.agg [(0,1,false),(1,1,false)] [.int .i64,.int .i64]),
  (90,.one (.fnc)),
  (91,.agg [(0,1,false),(1,1,false),(2,1,false),(3,1,false),(4,1,false)] [.int .i64,.int .i64,.int .i64,.int .i64,.int .i64]),
  (92,.agg [(0,1,false),(1,1,false),(2,1,false),(3,1,false),(4,1,false)] [.int .i64,.int .i64,.int .i64,.int .i64,.int .i64]),
  (93,.one (.fnc)),
  (94,.one (.fnc)),
  (95,.one (.fnc)),
  (96,.one (.fnc)),
  (97,.one (.fnc)),
  (98,.agg [(0,1,false),(1,1,false)] [.int .i64,.int .i64]),
  (99,.one (.ptr)),
  (100,.one (.fnc)),
  (101,.one (.ptr)),
  (102,.one (.fnc)),
  (103,.one (.ptr)),
  (104,.one (.ptr)),
  (105,.one (.fnc)),
  (106,.one (.fnc)),
  (107,.one (.fnc)),
  (108,.one (.fnc)),
  (109,.one (.fnc)),
  (110,.one (.fnc)),
  (111,.one (.fnc)),
  (112,.one (.fnc)),
  (113,.one (.fnc)),
  (114,.one (.fnc)),
  (115,.one (.fnc)),
  (116,.one (.fnc)),
  (117,.one (.sli .e5)),
  (118,.one (.fnc)),
  (119,.one (.fnc)),
  (120,.agg [(0,1,false),(1,1,false),(2,1,false),(3,1,false)] [.ptr,.ptr,.ptr,.str]),
  (121,.agg [(0,1,false),(1,1,false),(2,1,false),(3,1,false)] [.ptr,.ptr,.ptr,.str]),
  (125,.one (.fnc)),
  (126,.one (.int .u32)),
  (127,.one (.int .u8)),
  (128,.one (.int .u8)),
  (129,.one (.fnc)),
  (130,.one (.ptr)),
  (131,.one (.int .i32)),
  (132,.one (.int .i32)),
  (133,.agg [(0,1,false),(1,1,false),(2,1,false),(3,1,false),(4,1,false),(5,1,false),(6,1,false),(7,1,false),(8,1,false),(9,1,false),(10,1,false)] [.int .u64,.int .u64,.int .u32,.int .u8,.int .u8,.int .u8,.int .u8,.fnc,.ptr,.int .i32,.int .i32]),
  (134,.agg [(0,1,false),(1,1,false),(2,1,false),(3,1,false),(4,1,false),(5,1,false),(6,1,false),(7,1,false),(8,1,false),(9,1,false),(10,1,false)] [.int .u64,.int .u64,.int .u32,.int .u8,.int .u8,.int .u8,.int .u8,.fnc,.ptr,.int .i32,.int .i32])]
theorem tf1 : TFact Go.Proofs.Try.prog KK 1 (.one (.fnc)):=tfact_fnc (by kernel_rfl) (by kernel_rfl) (by kernel_rfl)
theorem tf2 : TFact Go.Proofs.Try.prog KK 2 (.one (.int .i64)):=tfact_one (by kernel_rfl) (by kernel_rfl) (d := .int .i64) (by kernel_rfl) rfl
theorem tf3 : TFact Go.Proofs.Try.prog KK 3 (.one (.int .i64)):=tfact_one (by kernel_rfl) (by kernel_rfl) (d := .int .i64) (by kernel_rfl) rfl
theorem tf4 : TFact Go.Proofs.Try.prog KK 4 (.one (.bool)):=tfact_one (by kernel_rfl) (by kernel_rfl) (d := .bool) (by kernel_rfl) rfl
theorem tf5 : TFact Go.Proofs.Try.prog KK 5 (.one (.int .u8)):=tfact_one (by kernel_rfl) (by kernel_rfl) (d := .int .u8) (by kernel_rfl) rfl
theorem tf6 : TFact Go.Proofs.Try.prog KK 6 (.one (.int .u8)):=tfact_one (by kernel_rfl) (by kernel_rfl) (d := .int .u8) (by kernel_rfl) rfl
theorem tf7 : TFact Go.Proofs.Try.prog KK 7 (.agg [(0,1,false),(1,1,false),(2,1,false),(3,1,false)] [.int .i64,.int .i64,.bool,.int .u8]):=tfact_agg (by kernel_rfl) (by kernel_rfl) (by kernel_rfl)
theorem tf8 : TFact Go.Proofs.Try.prog KK 8 (.agg [(0,1,false),(1,1,false),(2,1,false),(3,1,false)] [.int .i64,.int .i64,.bool,.int .u8]):=tfact_agg (by kernel_rfl) (by kernel_rfl) (by kernel_rfl)
theorem tf9 : TFact Go.Proofs.Try.prog KK 9 (.one (.str)):=tfact_one (by kernel_rfl) (by kernel_rfl) (d := .string) (by kernel_rfl) rfl
theorem tf10 : TFact Go.Proofs.Try.prog KK 10 (.one (.str)):=tfact_one (by kernel_rfl) (by kernel_rfl) (d := .string) (by kernel_rfl) rfl
theorem tf11 : TFact Go.Proofs.Try.prog KK 11 (.one (.str)):=tfact_one (by kernel_rfl) (by kernel_rfl) (d := .string) (by kernel_rfl) rfl
theorem tf12 : TFact Go.Proofs.Try.prog KK 12 (.one (.int .u64)):=tfact_one (by kernel_rfl) (by kernel_rfl) (d := .int .u64) (by kernel_rfl) rfl
theorem tf13 : TFact Go.Proofs.Try.prog KK 13 (.agg [(0,1,false),(1,1,false)] [.str,.int .u64]):=tfact_agg (by kernel_rfl) (by kernel_rfl) (by kernel_rfl)
theorem tf14 : TFact Go.Proofs.Try.prog KK 14 (.agg [(0,1,false),(1,1,false)] [.str,.int .u64]):=tfact_agg (by kernel_rfl) (by kernel_rfl) (by kernel_rfl)
theorem tf15 : TFact Go.Proofs.Try.prog KK 15 (.one (.ptr)):=tfact_one (by kernel_rfl) (by kernel_rfl) (d := .pointer 121) (by kernel_rfl) ⟨_,rfl⟩
theorem tf16 : TFact Go.Proofs.Try.prog KK 16 (.one (.ptr)):=tfact_one (by kernel_rfl) (by kernel_rfl) (d := .pointer 124) (by kernel_rfl) ⟨_,rfl⟩
theorem tf17 : TFact Go.Proofs.Try.prog KK 17 (.one (.ptr)):=tfact_one (by kernel_rfl) (by kernel_rfl) (d := .pointer 134) (by kernel_rfl) ⟨_,rfl⟩
theorem tf18 : TFact Go.Proofs.Try.prog KK 18 (.agg [(0,1,false)] [.ptr]):=tfact_agg (by kernel_rfl) (by kernel_rfl) (by kernel_rfl)
theorem tf19 : TFact Go.Proofs.Try.prog KK 19 (.agg [(0,1,false)] [.ptr]):=tfact_agg (by kernel_rfl) (by kernel_rfl) (by kernel_rfl)
theorem tf20 : TFact Go.Proofs.Try.prog KK 20 (.one (.nk .ifc)):=tfact_ifc (by kernel_rfl) (by kernel_rfl) (by kernel_rfl)
theorem tf21 : TFact Go.Proofs.Try.prog KK 21 (.one (.int .i32)):=tfact_one (by kernel_rfl) (by kernel_rfl) (d := .int .i32) (by kernel_rfl) rfl
theorem tf22 : TFact Go.Proofs.Try.prog KK 22 (.one (.sli .e70)):=tfact_one (by kernel_rfl) (by kernel_rfl) (d := .slice 70) (by kernel_rfl) rfl
theorem tf23 : TFact Go.Proofs.Try.prog KK 23 (.one (.sli .e73)):=tfact_one (by kernel_rfl) (by kernel_rfl) (d := .slice 73) (by kernel_rfl) rfl
theorem tf24 : TFact Go.Proofs.Try.prog KK 24 (.one (.sli .e76)):=tfact_one (by kernel_rfl) (by kernel_rfl) (d := .slice 76) (by kernel_rfl) rfl
theorem tf25 : TFact Go.Proofs.Try.prog KK 25 (.agg [(0,1,false),(1,1,false),(2,1,false),(3,1,false)] [.int .i64,.sli .e70,.sli .e73,.sli .e76]):=tfact_agg (by kernel_rfl) (by kernel_rfl) (by kernel_rfl)
theorem tf26 : TFact Go.Proofs.Try.prog KK 26 (.agg [(0,1,false),(1,1,false),(2,1,false),(3,1,false)] [.int .i64,.sli .e70,.sli .e73,.sli .e76]):=tfact_agg (by kernel_rfl) (by kernel_rfl) (by kernel_rfl)
theorem tf27 : TFact Go.Proofs.Try.prog KK 27 (.one (.sli .e98)):=tfact_one (by kernel_rfl) (by kernel_rfl) (d := .slice 98) (by kernel_rfl) rfl
theorem tf28 : TFact Go.Proofs.Try.prog KK 28 (.agg [(0,1,false),(1,1,false),(2,1,false),(3,1,false),(4,1,false),(5,1,false),(6,1,false),(7,1,false)] [.str,.int .i64,.int .i64,.int .i64,.int .i64,.bool,.sli .e98,.bool]):=tfact_agg (by kernel_rfl) (by kernel_rfl) (by kernel_rfl)
theorem tf29 : TFact Go.Proofs.Try.prog KK 29 (.agg [(0,1,false),(1,1,false),(2,1,false),(3,1,false),(4,1,false),(5,1,false),(6,1,false),(7,1,false)] [.str,.int .i64,.int .i64,.int .i64,.int .i64,.bool,.sli .e98,.bool]):=tfact_agg (by kernel_rfl) (by kernel_rfl) (by kernel_rfl)
theorem tf30 : TFact Go.Proofs.Try.prog KK 30 (.one (.fnc)):=tfact_fnc (by kernel_rfl) (by kernel_rfl) (by kernel_rfl)
theorem tf31 : TFact Go.Proofs.Try.prog KK 31 (.one (.fnc)):=tfact_fnc (by kernel_rfl) (by kernel_rfl) (by kernel_rfl)
theorem tf32 : TFact Go.Proofs.Try.prog KK 32 (.one (.sli .e79)):=tfact_one (by kernel_rfl) (by kernel_rfl) (d := .slice 79) (by kernel_rfl) rfl
theorem tf33 : TFact Go.Proofs.Try.prog KK 33 (.one (.sli .e83)):=tfact_one (by kernel_rfl) (by kernel_rfl) (d := .slice 83) (by kernel_rfl) rfl
theorem tf34 : TFact Go.Proofs.Try.prog KK 34 (.one (.sli .e81)):=tfact_one (by kernel_rfl) (by kernel_rfl) (d := .slice 81) (by kernel_rfl) rfl
theorem tf35 : TFact Go.Proofs.Try.prog KK 35 (.agg [(0,1,false),(1,1,false),(2,1,false),(3,1,false)] [.int .i64,.sli .e79,.sli .e83,.sli .e81]):=tfact_agg (by kernel_rfl) (by kernel_rfl) (by kernel_rfl)
theorem tf36 : TFact Go.Proofs.Try.prog KK 36 (.agg [(0,1,false),(1,1,false),(2,1,false),(3,1,false)] [.int .i64,.sli .e79,.sli .e83,.sli .e81]):=tfact_agg (by kernel_rfl) (by kernel_rfl) (by kernel_rfl)
theorem tf38 : TFact Go.Proofs.Try.prog KK 38 (.one (.fnc)):=tfact_fnc (by kernel_rfl) (by kernel_rfl) (by kernel_rfl)
theorem tf39 : TFact Go.Proofs.Try.prog KK 39 (.one (.fnc)):=tfact_fnc (by kernel_rfl) (by kernel_rfl) (by kernel_rfl)
theorem tf40 : TFact Go.Proofs.Try.prog KK 40 (.one (.sli .e89)):=tfact_one (by kernel_rfl) (by kernel_rfl) (d := .slice 89) (by kernel_rfl) rfl
theorem tf41 : TFact Go.Proofs.Try.prog KK 41 (.agg [(0,1,false),(1,1,false),(2,1,false),(3,1,false),(4,1,false),(5,1,false),(6,1,false),(7,1,false)] [.str,.int .i64,.int .i64,.int .i64,.int .i64,.bool,.sli .e89,.bool]):=tfact_agg (by kernel_rfl) (by kernel_rfl) (by kernel_rfl)
theorem tf42 : TFact Go.Proofs.Try.prog KK 42 (.agg [(0,1,false),(1,1,false),(2,1,false),(3,1,false),(4,1,false),(5,1,false),(6,1,false),(7,1,false)] [.str,.int .i64,.int .i64,.int .i64,.int .i64,.bool,.sli .e89,.bool]):=tfact_agg (by kernel_rfl) (by kernel_rfl) (by kernel_rfl)
theorem tf43 : TFact Go.Proofs.Try.prog KK 43 (.one (.fnc)):=tfact_fnc (by kernel_rfl) (by kernel_rfl) (by kernel_rfl)
theorem tf44 : TFact Go.Proofs.Try.prog KK 44 (.one (.fnc)):=tfact_fnc (by kernel_rfl) (by kernel_rfl) (by kernel_rfl)
theorem tf45 : TFact Go.Proofs.Try.prog KK 45 (.one (.fnc)):=tfact_fnc (by kernel_rfl) (by kernel_rfl) (by kernel_rfl)
theorem tf46 : TFact Go.Proofs.Try.prog KK 46 (.one (.fnc)):=tfact_fnc (by kernel_rfl) (by kernel_rfl) (by kernel_rfl)
theorem tf47 : TFact Go.Proofs.Try.prog KK 47 (.one (.fnc)):=tfact_fnc (by kernel_rfl) (by kernel_rfl) (by kernel_rfl)
theorem tf48 : TFact Go.Proofs.Try.prog KK 48 (.one (.fnc)):=tfact_fnc (by kernel_rfl) (by kernel_rfl) (by kernel_rfl)
theorem tf49 : TFact Go.Proofs.Try.prog KK 49 (.one (.fnc)):=tfact_fnc (by kernel_rfl) (by kernel_rfl) (by kernel_rfl)
theorem tf50 : TFact Go.Proofs.Try.prog KK 50 (.one (.fnc)):=tfact_fnc (by kernel_rfl) (by kernel_rfl) (by kernel_rfl)
theorem tf51 : TFact Go.Proofs.Try.prog KK 51 (.one (.fnc)):=tfact_fnc (by kernel_rfl) (by kernel_rfl) (by kernel_rfl)
theorem tf52 : TFact Go.Proofs.Try.prog KK 52 (.one (.fnc)):=tfact_fnc (by kernel_rfl) (by kernel_rfl) (by kernel_rfl)
theorem tf53 : TFact Go.Proofs.Try.prog KK 53 (.one (.fnc)):=tfact_fnc (by kernel_rfl) (by kernel_rfl) (by kernel_rfl)
theorem tf54 : TFact Go.Proofs.Try.prog KK 54 (.one (.fnc)):=tfact_fnc (by kernel_rfl) (by kernel_rfl) (by kernel_rfl)
theorem tf55 : TFact Go.Proofs.Try.prog KK 55 (.one (.fnc)):=tfact_fnc (by kernel_rfl) (by kernel_rfl) (by kernel_rfl)
theorem tf56 : TFact Go.Proofs.Try.prog KK 56 (.one (.fnc)):=tfact_fnc (by kernel_rfl) (by kernel_rfl) (by kernel_rfl)
theorem tf57 : TFact Go.Proofs.Try.prog KK 57 (.one (.fnc)):=tfact_fnc (by kernel_rfl) (by kernel_rfl) (by kernel_rfl)
theorem tf58 : TFact Go.Proofs.Try.prog KK 58 (.one (.fnc)):=tfact_fnc (by kernel_rfl) (by kernel_rfl) (by kernel_rfl)
theorem tf59 : TFact Go.Proofs.Try.prog KK 59 (.one (.fnc)):=tfact_fnc (by kernel_rfl) (by kernel_rfl) (by kernel_rfl)
theorem tf60 : TFact Go.Proofs.Try.prog KK 60 (.one (.fnc)):=tfact_fnc (by kernel_rfl) (by kernel_rfl) (by kernel_rfl)
theorem tf61 : TFact Go.Proofs.Try.prog KK 61 (.one (.fnc)):=tfact_fnc (by kernel_rfl) (by kernel_rfl) (by kernel_rfl)
theorem tf62 : TFact Go.Proofs.Try.prog KK 62 (.one (.fnc)):=tfact_fnc (by kernel_rfl) (by kernel_rfl) (by kernel_rfl)
theorem tf63 : TFact Go.Proofs.Try.prog KK 63 (.one (.fnc)):=tfact_fnc (by kernel_rfl) (by kernel_rfl) (by kernel_rfl)
theorem tf64 : TFact Go.Proofs.Try.prog KK 64 (.one (.fnc)):=tfact_fnc (by kernel_rfl) (by kernel_rfl) (by kernel_rfl)
theorem tf65 : TFact Go.Proofs.Try.prog KK 65 (.one (.fnc)):=tfact_fnc (by kernel_rfl) (by kernel_rfl) (by kernel_rfl)
theorem tf66 : TFact Go.Proofs.Try.prog KK 66 (.one (.fnc)):=tfact_fnc (by kernel_rfl) (by kernel_rfl) (by kernel_rfl)
theorem tf67 : TFact Go.Proofs.Try.prog KK 67 (.one (.fnc)):=tfact_fnc (by kernel_rfl) (by kernel_rfl) (by kernel_rfl)
theorem tf68 : TFact Go.Proofs.Try.prog KK 68 (.one (.fnc)):=tfact_fnc (by kernel_rfl) (by kernel_rfl) (by kernel_rfl)
theorem tf69 : TFact Go.Proofs.Try.prog KK 69 (.agg [(0,1,false),(1,1,false),(2,1,false),(3,1,false),(4,1,false),(5,1,false),(6,1,false),(7,1,false),(8,1,false),(9,1,false),(10,1,false),(11,1,false),(12,1,false)] [.str,.int .i64,.bool,.int .i64,.int .i64,.int .i64,.int .i64,.int .i64,.int .i64,.int .i64,.int .i64,.int .i64,.int .i64]):=tfact_agg (by kernel_rfl) (by kernel_rfl) (by kernel_rfl)
theorem tf70 : TFact Go.Proofs.Try.prog KK 70 (.agg [(0,1,false),(1,1,false),(2,1,false),(3,1,false),(4,1,false),(5,1,false),(6,1,false),(7,1,false),(8,1,false),(9,1,false),(10,1,false),(11,1,false),(12,1,false)] [.str,.int .i64,.bool,.int .i64,.int .i64,.int .i64,.int .i64,.int .i64,.int .i64,.int .i64,.int .i64,.int .i64,.int .i64]):=tfact_agg (by kernel_rfl) (by kernel_rfl) (by kernel_rfl)
theorem tf71 : TFact Go.Proofs.Try.prog KK 71 (.one (.fnc)):=tfact_fnc (by kernel_rfl) (by kernel_rfl) (by kernel_rfl)
theorem tf72 : TFact Go.Proofs.Try.prog KK 72 (.agg [(0,1,false),(1,1,false),(2,1,false),(3,1,false),(4,1,false),(5,1,false),(6,1,false)] [.str,.int .i64,.int .i64,.int .i64,.int .i64,.bool,.str]):=tfact_agg (by kernel_rfl) (by kernel_rfl) (by kernel_rfl)
theorem tf73 : TFact Go.Proofs.Try.prog KK 73 (.agg [(0,1,false),(1,1,false),(2,1,false),(3,1,false),(4,1,false),(5,1,false),(6,1,false)] [.str,.int .i64,.int .i64,.int .i64,.int .i64,.bool,.str]):=tfact_agg (by kernel_rfl) (by kernel_rfl) (by kernel_rfl)
theorem tf74 : TFact Go.Proofs.Try.prog KK 74 (.one (.fnc)):=tfact_fnc (by kernel_rfl) (by kernel_rfl) (by kernel_rfl)
theorem tf75 : TFact Go.Proofs.Try.prog KK 75 (.agg [(0,1,false),(1,1,false)] [.str,.bool]):=tfact_agg (by kernel_rfl) (by kernel_rfl) (by kernel_rfl)
theorem tf76 : TFact Go.Proofs.Try.prog KK 76 (.agg [(0,1,false),(1,1,false)] [.str,.bool]):=tfact_agg (by kernel_rfl) (by kernel_rfl) (by kernel_rfl)
theorem tf77 : TFact Go.Proofs.Try.prog KK 77 (.one (.fnc)):=tfact_fnc (by kernel_rfl) (by kernel_rfl) (by kernel_rfl)
theorem tf78 : TFact Go.Proofs.Try.prog KK 78 (.one (.fnc)):=tfact_fnc (by kernel_rfl) (by kernel_rfl) (by kernel_rfl)
theorem tf79 : TFact Go.Proofs.Try.prog KK 79 (.agg [(0,1,false),(1,1,false),(2,1,false),(3,1,false),(4,1,false),(5,1,false),(6,1,false),(7,1,false),(8,1,false),(9,1,false),(10,1,false),(11,1,false),(12,1,false)] [.str,.int .i64,.bool,.int .i64,.int .i64,.int .i64,.int .i64,.int .i64,.int .i64,.int .i64,.int .i64,.int .i64,.int .i64]):=tfact_agg (by kernel_rfl) (by kernel_rfl) (by kernel_rfl)
theorem tf80 : TFact Go.Proofs.Try.prog KK 80 (.one (.fnc)):=tfact_fnc (by kernel_rfl) (by kernel_rfl) (by kernel_rfl)
theorem tf81 : TFact Go.Proofs.Try.prog KK 81 (.agg [(0,1,false),(1,1,false)] [.str,.bool]):=tfact_agg (by kernel_rfl) (by kernel_rfl) (by kernel_rfl)
theorem tf82 : TFact Go.Proofs.Try.prog KK 82 (.one (.fnc)):=tfact_fnc (by kernel_rfl) (by kernel_rfl) (by kernel_rfl)
theorem tf83 : TFact Go.Proofs.Try.prog KK 83 (.agg [(0,1,false),(1,1,false),(2,1,false),(3,1,false),(4,1,false),(5,1,false),(6,1,false)] [.str,.int .i64,.int .i64,.int .i64,.int .i64,.bool,.str]):=tfact_agg (by kernel_rfl) (by kernel_rfl) (by kernel_rfl)
theorem tf84 : TFact Go.Proofs.Try.prog KK 84 (.one (.fnc)):=tfact_fnc (by kernel_rfl) (by kernel_rfl) (by kernel_rfl)
theorem tf85 : TFact Go.Proofs.Try.prog KK 85 (.one (.fnc)):=tfact_fnc (by kernel_rfl) (by kernel_rfl) (by kernel_rfl)
theorem tf86 : TFact Go.Proofs.Try.prog KK 86 (.one (.fnc)):=tfact_fnc (by kernel_rfl) (by kernel_rfl) (by kernel_rfl)
theorem tf87 : TFact Go.Proofs.Try.prog KK 87 (.one (.fnc)):=tfact_fnc (by kernel_rfl) (by kernel_rfl) (by kernel_rfl)
theorem tf88 : TFact Go.Proofs.Try.prog KK 88 (.agg [(0,1,false),(1,1,false)] [.int .i64,.int .i64]):=tfact_agg (by kernel_rfl) (by kernel_rfl) (by kernel_rfl)
theorem tf89 : TFact Go.Proofs.Try.prog KK 89 (.agg [(0,1,false),(1,1,false)] [.int .i64,.int .i64]):=tfact_agg (by kernel_rfl) (by kernel_rfl) (by kernel_rfl)
theorem tf90 : TFact Go.Proofs.Try.prog KK 90 (.one (.fnc)):=tfact_fnc (by kernel_rfl) (by kernel_rfl) (by kernel_rfl)
theorem tf91 : TFact Go.Proofs.Try.prog KK 91 (.agg [(0,1,false),(1,1,false),(2,1,false),(3,1,false),(4,1,false)] [.int .i64,.int .i64,.int .i64,.int .i64,.int .i64]):=tfact_agg (by kernel_rfl) (by kernel_rfl) (by kernel_rfl)
theorem tf92 : TFact Go.Proofs.Try.prog KK 92 (.agg [(0,1,false),(1,1,false),(2,1,false),(3,1,false),(4,1,false)] [.int .i64,.int .i64,.int .i64,.int .i64,.int .i64]):=tfact_agg (by kernel_rfl) (by kernel_rfl) (by kernel_rfl)
theorem tf93 : TFact Go.Proofs.Try.prog KK 93 (.one (.fnc)):=tfact_fnc (by kernel_rfl) (by kernel_rfl) (by kernel_rfl)
theorem tf94 : TFact Go.Proofs.Try.prog KK 94 (.one (.fnc)):=tfact_fnc (by kernel_rfl) (by kernel_rfl) (by kernel_rfl)
theorem tf95 : TFact Go.Proofs.Try.prog KK 95 (.one (.fnc)):=tfact_fnc (by kernel_rfl) (by kernel_rfl) (by kernel_rfl)
theorem tf96 : TFact Go.Proofs.Try.prog KK 96 (.one (.fnc)):=tfact_fnc (by kernel_rfl) (by kernel_rfl) (by kernel_rfl)
theorem tf97 : TFact Go.Proofs.Try.prog KK 97 (.one (.fnc)):=tfact_fnc (by kernel_rfl) (by kernel_rfl) (by kernel_rfl)
theorem tf98 : TFact Go.Proofs.Try.prog KK 98 (.agg [(0,1,false),(1,1,false)] [.int .i64,.int .i64]):=tfact_agg (by kernel_rfl) (by kernel_rfl) (by kernel_rfl)
theorem tf99 : TFact Go.Proofs.Try.prog KK 99 (.one (.ptr)):=tfact_one (by kernel_rfl) (by kernel_rfl) (d := .pointer 79) (by kernel_rfl) ⟨_,rfl⟩
theorem tf100 : TFact Go.Proofs.Try.prog KK 100 (.one (.fnc)):=tfact_fnc (by kernel_rfl) (by kernel_rfl) (by kernel_rfl)
theorem tf101 : TFact Go.Proofs.Try.prog KK 101 (.one (.ptr)):=tfact_one (by kernel_rfl) (by kernel_rfl) (d := .pointer 81) (by kernel_rfl) ⟨_,rfl⟩
theorem tf102 : TFact Go.Proofs.Try.prog KK 102 (.one (.fnc)):=tfact_fnc (by kernel_rfl) (by kernel_rfl) (by kernel_rfl)
theorem tf103 : TFact Go.Proofs.Try.prog KK 103 (.one (.ptr)):=tfact_one (by kernel_rfl) (by kernel_rfl) (d := .pointer 36) (by kernel_rfl) ⟨_,rfl⟩
theorem tf104 : TFact Go.Proofs.Try.prog KK 104 (.one (.ptr)):=tfact_one (by kernel_rfl) (by kernel_rfl) (d := .pointer 83) (by kernel_rfl) ⟨_,rfl⟩
theorem tf105 : TFact Go.Proofs.Try.prog KK 105 (.one (.fnc)):=tfact_fnc (by kernel_rfl) (by kernel_rfl) (by kernel_rfl)
theorem tf106 : TFact Go.Proofs.Try.prog KK 106 (.one (.fnc)):=tfact_fnc (by kernel_rfl) (by kernel_rfl) (by kernel_rfl)
theorem tf107 : TFact Go.Proofs.Try.prog KK 107 (.one (.fnc)):=tfact_fnc (by kernel_rfl) (by kernel_rfl) (by kernel_rfl)
theorem tf108 : TFact Go.Proofs.Try.prog KK 108 (.one (.fnc)):=tfact_fnc (by kernel_rfl) (by kernel_rfl) (by kernel_rfl)
theorem tf109 : TFact Go.Proofs.Try.prog KK 109 (.one (.fnc)):=tfact_fnc (by kernel_rfl) (by kernel_rfl) (by kernel_rfl)
theorem tf110 : TFact Go.Proofs.Try.prog KK 110 (.one (.fnc)):=tfact_fnc (by kernel_rfl) (by kernel_rfl) (by kernel_rfl)
theorem tf111 : TFact Go.Proofs.Try.prog KK 111 (.one (.fnc)):=tfact_fnc (by kernel_rfl) (by kernel_rfl) (by kernel_rfl)
theorem tf112 : TFact Go.Proofs.Try.prog KK 112 (.one (.fnc)):=tfact_fnc (by kernel_rfl) (by kernel_rfl) (by kernel_rfl)
theorem tf113 : TFact Go.Proofs.Try.prog KK 113 (.one (.fnc)):=tfact_fnc (by kernel_rfl) (by kernel_rfl) (by kernel_rfl)
theorem tf114 : TFact Go.Proofs.Try.prog KK 114 (.one (.fnc)):=tfact_fnc (by kernel_rfl) (by kernel_rfl) (by kernel_rfl)
theorem tf115 : TFact Go.Proofs.Try.prog KK 115 (.one (.fnc)):=tfact_fnc (by kernel_rfl) (by kernel_rfl) (by kernel_rfl)
theorem tf116 : TFact Go.Proofs.Try.prog KK 116 (.one (.fnc)):=tfact_fnc (by kernel_rfl) (by kernel_rfl) (by kernel_rfl)
theorem tf117 : TFact Go.Proofs.Try.prog KK 117 (.one (.sli .e5)):=tfact_one (by kernel_rfl) (by kernel_rfl) (d := .slice 5) (by kernel_rfl) rfl
theorem tf118 : TFact Go.Proofs.Try.prog KK 118 (.one (.fnc)):=tfact_fnc (by kernel_rfl) (by kernel_rfl) (by kernel_rfl)
theorem tf119 : TFact Go.Proofs.Try.prog KK 119 (.one (.fnc)):=tfact_fnc (by kernel_rfl) (by kernel_rfl) (by kernel_rfl)
theorem tf120 : TFact Go.Proofs.Try.prog KK 120 (.agg [(0,1,false),(1,1,false),(2,1,false),(3,1,false)] [.ptr,.ptr,.ptr,.str]):=tfact_agg (by kernel_rfl) (by kernel_rfl) (by kernel_rfl)
theorem tf121 : TFact Go.Proofs.Try.prog KK 121 (.agg [(0,1,false),(1,1,false),(2,1,false),(3,1,false)] [.ptr,.ptr,.ptr,.str]):=tfact_agg (by kernel_rfl) (by kernel_rfl) (by kernel_rfl)
theorem tf125 : TFact Go.Proofs.Try.prog KK 125 (.one (.fnc)):=tfact_fnc (by kernel_rfl) (by kernel_rfl) (by kernel_rfl)
theorem tf126 : TFact Go.Proofs.Try.prog KK 126 (.one (.int .u32)):=tfact_one (by kernel_rfl) (by kernel_rfl) (d := .int .u32) (by kernel_rfl) rfl
theorem tf127 : TFact Go.Proofs.Try.prog KK 127 (.one (.int .u8)):=tfact_one (by kernel_rfl) (by kernel_rfl) (d := .int .u8) (by kernel_rfl) rfl
theorem tf128 : TFact Go.Proofs.Try.prog KK 128 (.one (.int .u8)):=tfact_one (by kernel_rfl) (by kernel_rfl) (d := .int .u8) (by kernel_rfl) rfl
theorem tf129 : TFact Go.Proofs.Try.prog KK 129 (.one (.fnc)):=tfact_fnc (by kernel_rfl) (by kernel_rfl) (by kernel_rfl)
theorem tf130 : TFact Go.Proofs.Try.prog KK 130 (.one (.ptr)):=tfact_one (by kernel_rfl) (by kernel_rfl) (d := .pointer 5) (by kernel_rfl) ⟨_,rfl⟩
theorem tf131 : TFact Go.Proofs.Try.prog KK 131 (.one (.int .i32)):=tfact_one (by kernel_rfl) (by kernel_rfl) (d := .int .i32) (by kernel_rfl) rfl
theorem tf132 : TFact Go.Proofs.Try.prog KK 132 (.one (.int .i32)):=tfact_one (by kernel_rfl) (by kernel_rfl) (d := .int .i32) (by kernel_rfl) rfl
theorem tf133 : TFact Go.Proofs.Try.prog KK 133 (.agg [(0,1,false),(1,1,false),(2,1,false),(3,1,false),(4,1,false),(5,1,false),(6,1,false),(7,1,false),(8,1,false),(9,1,false),(10,1,false)] [.int .u64,.int .u64,.int .u32,.int .u8,.int .u8,.int .u8,.int .u8,.fnc,.ptr,.int .i32,.int .i32]):=tfact_agg (by kernel_rfl) (by kernel_rfl) (by kernel_rfl)
theorem tf134 : TFact Go.Proofs.Try.prog KK 134 (.agg [(0,1,false),(1,1,false),(2,1,false),(3,1,false),(4,1,false),(5,1,false),(6,1,false),(7,1,false),(8,1,false),(9,1,false),(10,1,false)] [.int .u64,.int .u64,.int .u32,.int .u8,.int .u8,.int .u8,.int .u8,.fnc,.ptr,.int .i32,.int .i32]):=tfact_agg (by kernel_rfl) (by kernel_rfl) (by kernel_rfl)
set_option maxRecDepth 100000 in
theorem tks_ok : ∀ T k,lk tks T=some k→TFact Go.Proofs.Try.prog KK T k:=tk_all (l:=tks) ⟨tf1,tf2,tf3,tf4,tf5,tf6,tf7,tf8,tf9,tf10,tf11,tf12,tf13,tf14,tf15,tf16,tf17,tf18,tf19,tf20,tf21,tf22,tf23,tf24,tf25,tf26,tf27,tf28,tf29,tf30,tf31,tf32,tf33,tf34,tf35,tf36,tf38,tf39,tf40,tf41,tf42,tf43,tf44,tf45,tf46,tf47,tf48,tf49,tf50,tf51,tf52,tf53,tf54,tf55,tf56,tf57,tf58,tf59,tf60,tf61,tf62,tf63,tf64,tf65,tf66,tf67,tf68,tf69,tf70,tf71,tf72,tf73,tf74,tf75,tf76,tf77,tf78,tf79,tf80,tf81,tf82,tf83,tf84,tf85,tf86,tf87,tf88,tf89,tf90,tf91,tf92,tf93,tf94,tf95,tf96,tf97,tf98,tf99,tf100,tf101,tf102,tf103,tf104,tf105,tf106,tf107,tf108,tf109,tf110,tf111,tf112,tf113,tf114,tf115,tf116,tf117,tf118,tf119,tf120,tf121,tf125,tf126,tf127,tf128,tf129,tf130,tf131,tf132,tf133,tf134,trivial⟩
theorem els_ok : ∀ t,EFact Go.Proofs.Try.prog KK t:=by
  intro t
  cases t
  · exact efact (z := .int .u8 0) (by kernel_rfl) (by show 0<1; decide) (by kernel_rfl) (by kernel_rfl)
  · exact efact (z := .agg #[.int .i64 0,.slice none 0 0,.slice none 0 0,.slice none 0 0]) (by kernel_rfl) (by show 0<80; decide) (by kernel_rfl) (by kernel_rfl)
  · exact efact (z := .agg #[.string ⟨#[]⟩,.int .i64 0,.int .i64 0,.int .i64 0,.int .i64 0,.bool false,.slice none 0 0,.bool false]) (by kernel_rfl) (by show 0<88; decide) (by kernel_rfl) (by kernel_rfl)
  · exact efact (z := .agg #[.int .i64 0,.slice none 0 0,.slice none 0 0,.slice none 0 0]) (by kernel_rfl) (by show 0<80; decide) (by kernel_rfl) (by kernel_rfl)
  · exact efact (z := .agg #[.string ⟨#[]⟩,.int .i64 0,.int .i64 0,.int .i64 0,.int .i64 0,.bool false,.slice none 0 0,.bool false]) (by kernel_rfl) (by show 0<88; decide) (by kernel_rfl) (by kernel_rfl)
  · exact efact (z := .agg #[.string ⟨#[]⟩,.int .i64 0,.bool false,.int .i64 0,.int .i64 0,.int .i64 0,.int .i64 0,.int .i64 0,.int .i64 0,.int .i64 0,.int .i64 0,.int .i64 0,.int .i64 0]) (by kernel_rfl) (by show 0<112; decide) (by kernel_rfl) (by kernel_rfl)
  · exact efact (z := .agg #[.string ⟨#[]⟩,.int .i64 0,.int .i64 0,.int .i64 0,.int .i64 0,.bool false,.string ⟨#[]⟩]) (by kernel_rfl) (by show 0<72; decide) (by kernel_rfl) (by kernel_rfl)
  · exact efact (z := .agg #[.string ⟨#[]⟩,.bool false]) (by kernel_rfl) (by show 0<24; decide) (by kernel_rfl) (by kernel_rfl)
  · exact efact (z := .agg #[.string ⟨#[]⟩,.int .i64 0,.bool false,.int .i64 0,.int .i64 0,.int .i64 0,.int .i64 0,.int .i64 0,.int .i64 0,.int .i64 0,.int .i64 0,.int .i64 0,.int .i64 0]) (by kernel_rfl) (by show 0<112; decide) (by kernel_rfl) (by kernel_rfl)
  · exact efact (z := .agg #[.string ⟨#[]⟩,.bool false]) (by kernel_rfl) (by show 0<24; decide) (by kernel_rfl) (by kernel_rfl)
  · exact efact (z := .agg #[.string ⟨#[]⟩,.int .i64 0,.int .i64 0,.int .i64 0,.int .i64 0,.bool false,.string ⟨#[]⟩]) (by kernel_rfl) (by show 0<72; decide) (by kernel_rfl) (by kernel_rfl)
  · exact efact (z := .agg #[.int .i64 0,.int .i64 0]) (by kernel_rfl) (by show 0<16; decide) (by kernel_rfl) (by kernel_rfl)
  · exact efact (z := .agg #[.int .i64 0,.int .i64 0,.int .i64 0,.int .i64 0,.int .i64 0]) (by kernel_rfl) (by show 0<40; decide) (by kernel_rfl) (by kernel_rfl)
  · exact efact (z := .agg #[.int .i64 0,.int .i64 0]) (by kernel_rfl) (by show 0<16; decide) (by kernel_rfl) (by kernel_rfl)
def mps : List (Nat×MT Ty):=[]
theorem mps_ok : ∀ T m,lk mps T=some m→MFact Go.Proofs.Try.prog KK T m:=mp_of (by
  intro x hx
  simp only [mps,List.mem_cons,List.not_mem_nil,or_false] at hx)
def meths : List (Nat × String × Nat) := [(8, "Error", 80), (8, "RuntimeError", 81), (10, "Error", 82), (10, "RuntimeError", 83), (11, "Error", 84), (11, "RuntimeError", 85), (14, "Error", 86), (14, "RuntimeError", 87), (15, "Error", 88), (15, "RuntimeError", 89), (16, "Error", 90), (16, "RuntimeError", 91), (17, "Align", 92), (19, "Error", 93), (19, "RuntimeError", 94), (103, "loop.example/wharfdesk/impl.act", 28), (103, "loop.example/wharfdesk/impl.berth", 61), (103, "loop.example/wharfdesk/impl.copy", 63), (103, "loop.example/wharfdesk/impl.count", 65), (103, "loop.example/wharfdesk/impl.mayEnd", 64), (103, "loop.example/wharfdesk/impl.service", 60), (103, "loop.example/wharfdesk/impl.tick", 95), (128, "String", 96)]
theorem meths_ok : ∀ T name f,lkS meths T name=some f → ∀ v w,(method (Go.Proofs.Try.prog.types.size+Made.depth) T v name).run Go.Proofs.Try.prog w = .ok (f,v) w:=meth_of (by kernel_rfl)
end Go.Proofs.Ytakakoogpmhhkaa.Ab

/- The functions that the law calls,written plainly,and their contracts: each call answers what its plain function answers. No conditions. -/
set_option linter.unusedVariables false
namespace Go.Proofs.Ytakakoogpmhhkaa.Ab
open Go Go.RowKit
def fuel : Nat:=4611686018427387904
def lkC {α : Type 1} : List (Nat×α)→Nat→Option α
  | [],_=>none
  | (m,v)::r,n=>cond (Nat.beq n m) (some v) (lkC r n)
def allR (P : Program) (K : Cd C) : List (Nat×Con C)→Prop
  | []=>True
  | (f,c)::r=>ConOk P K f c∧allR P K r
def allW (P : Program) (K : Cd C) : List (Nat×ConW C)→Prop
  | []=>True
  | (f,c)::r=>ConWOk P K f c∧allW P K r
theorem lkR_ok {P : Program} {K : Cd C} : ∀ {l : List (Nat×Con C)},allR P K l → ∀ f c,lkC l f=some c→ConOk P K f c
  | [],_,f,c,h=>by cases h
  | (m,v)::r,ha,f,c,h=>by
    simp only [lkC] at h
    cases hb : Nat.beq f m with
    | true=>rw [hb] at h; cases h; have:=Nat.eq_of_beq_eq_true hb; subst this; exact ha.1
    | false=>rw [hb] at h; exact lkR_ok ha.2 f c h
theorem lkW_ok {P : Program} {K : Cd C} : ∀ {l : List (Nat×ConW C)},allW P K l → ∀ f c,lkC l f=some c→ConWOk P K f c
  | [],_,f,c,h=>by cases h
  | (m,v)::r,ha,f,c,h=>by
    simp only [lkC] at h
    cases hb : Nat.beq f m with
    | true=>rw [hb] at h; cases h; have:=Nat.eq_of_beq_eq_true hb; subst this; exact ha.1
    | false=>rw [hb] at h; exact lkW_ok ha.2 f c h
theorem nameB {s t : String} (h : (s == t)=false) : s≠t:=by simpa using h
def exts : List (Nat×(List Value→Option Value)):=[]
theorem exts_ok : ∀ f e,lk exts f=some e→ExtOk Try.prog f e:=by
  intro f e h
  simp only [exts] at h
  simp [lk] at h
def inss : List (Nat×Ty):=[(66,.e83)]
theorem inss_ok : ∀ f t,lk inss f=some t→InsOk Try.prog f (KK.tid t) (KK.sz t) (KK.bytes t):=by
  intro f t h
  simp only [inss,lk_cons] at h
  split at h
  · subst_vars
    cases h
    exact ins66_ok
  cases h
noncomputable def mkX (c : List (Nat×Con C)) (w : List (Nat×ConW C)) (i : List (Nat×Inl C)) (h : List Nat) (o : Nat) (v : List Nat) : Cx C:={ K:=KK,tk:=lk tks,con:=lkC c,conw:=lkC w,inl:=lkA i,hold:=h,mp:=lk mps,meth:=lkS meths,ext:=lk exts,ins:=lk inss,view:=v,off:=o }
theorem mkX_ok {c w i h o v} : XOk Try.prog (mkX c w i h o v):=⟨tks_ok,els_ok,mps_ok,meths_ok,exts_ok,inss_ok⟩
theorem mkQ {c w i h o v} (hc : allR Try.prog KK c) (hw : allW Try.prog KK w) (hi : allI Try.prog KK i) : Cons Try.prog (mkX c w i h o v):=⟨lkR_ok hc,lkW_ok hw,lkI_ok hi⟩
theorem mix_ok : Try.prog.follows .mixedOrders=true:=by kernel_rfl
theorem cO {c w i h o v} (hC : Cons Try.prog (mkX c w i h o v)) {f : Nat} {fn : Func} (hf : Try.prog.funcs[f]? = some fn) (hb : fn.body = some (bodyOf fn)) (hB : codeB fn.ntmps (bodyOf fn) = true) (hname : (fn.name == "runtime.NumGoroutine") = false) {ps rs : List (PK Ty)} {G : Fun C ps (Option (Args C rs))} (F : Cf) (hn : Nat.ble ps.length fn.ntmps = true)
    (t : Hold (PK.enS KK) ps G fun vs r=>runFn (mkX c w i h o v) F fn vs (deR KK rs)=r) : ConOk Try.prog KK f (mkC KK ps rs G):=mkC_ok (X:=mkX c w i h o v) mkX_ok hC mix_ok hf hb hB hname F hn t
theorem zO {c w i h o v} (hC : Cons Try.prog (mkX c w i h o v)) {f : Nat} {fn : Func} (hf : Try.prog.funcs[f]? = some fn) (hb : fn.body = some (bodyOf fn)) (hB : codeB fn.ntmps (bodyOf fn) = true) (hname : (fn.name == "runtime.NumGoroutine") = false) {ps rs : List (PK Ty)} {G : Fun C ps (Option (Args C rs))} (F : Cf) (hn : Nat.ble ps.length fn.ntmps = true)
    (t : Hold (PK.enS KK) ps G fun vs r=>runFnZ (mkX c w i h o v) F fn vs (deR KK rs)=r) : ConOk Try.prog KK f (nzC (mkC KK ps rs G)):=mkZ_ok (X:=mkX c w i h o v) mkX_ok hC mix_ok hf hb hB hname F hn t
theorem wO {c w i h o v} (hC : Cons Try.prog (mkX c w i h o v)) {f : Nat} {fn : Func} (hf : Try.prog.funcs[f]? = some fn) (hb : fn.body = some (bodyOf fn)) (hB : codeB fn.ntmps (bodyOf fn) = true) (hname : (fn.name == "runtime.NumGoroutine") = false) {ps : List (PK Ty)} {os : List Ty} {rs : List (PK Ty)} {G : Fun C ps (Option (ArgsW C os rs))} (F : Cf) (hn : Nat.ble ps.length fn.ntmps = true)
    (t : ∀ kp kh hd,Hold (PK.enL KK) ps G fun vs r=>runFnW ((mkX c w i h o v).gh kp kh hd) F fn vs (deW KK os rs)=r) : ConWOk Try.prog KK f (mkW KK ps os rs G):=mkW_ok (X:=mkX c w i h o v) mkX_ok hC mix_ok hf hb hB hname F hn t
theorem iO {c w i h o v} (hC : Cons Try.prog (mkX c w i h o v)) (F : Cf) {f : Nat} {fn : Func} (hf : Try.prog.funcs[f]? = some fn) (hb : fn.body = some (bodyOf fn)) (hB : codeB fn.ntmps (bodyOf fn) = true) (hname : (fn.name == "runtime.NumGoroutine") = false) : InlOk Try.prog KK f (inlOf (mkX c w i h o v) F fn) := inl_of (X := mkX c w i h o v) mkX_ok hC mix_ok F hf hb hB (by simpa using hname)
/-! ### f40 loop.example/wharfdesk/laws.szStewService -/
noncomputable def X40 : Cx C:=mkX [] [] [] [] 2621440 []
def F40 (n : Nat) : Cf:={ N:=n,keep:=[0,1,2,4,11],live:=lk [] }
noncomputable abbrev dec40:=deR KK [.int .i64]
noncomputable def G40n (n : Nat) (a0 : VStewService) (a1 : Int) : Option (Int) :=
 cond (decide ((IntKind.i64.wrap (a1 - (a0.Name.size : Int)))<0))
 (some ((-1)))
 (some (IntKind.i64.wrap (a1 - (a0.Name.size : Int))))
theorem t40 (n : Nat) (a0 : VStewService) (a1 : Int) : runFn X40 (F40 n) Try.f40 [.agg [.str a0.Name,.int .i64 a0.Version,.bool a0.Gone,.int .i64 a0.Image,.int .i64 a0.Want,.int .i64 a0.Down,.int .i64 a0.Over,.int .i64 a0.Next,.int .i64 a0.Per,.int .i64 a0.Least,.int .i64 a0.Most,.int .i64 a0.Load,.int .i64 a0.Cool],.one (.int .i64 a1)] dec40=G40n n a0 a1:=by
  kernel_rfl
noncomputable def G40 (a0 : VStewService) (a1 : Int) : Option (Int):=G40n fuel a0 a1
noncomputable def con40 : Con C:=mkC KK [.el .e70,.int .i64] [.int .i64] G40
theorem c40 : ConOk Try.prog KK 40 con40:=cO (mkQ trivial trivial trivial : Cons Try.prog X40) (fn:=Try.f40) (by kernel_rfl) (by kernel_rfl) (by kernel_rfl) (by kernel_rfl) (F40 fuel) (by kernel_rfl) (fun a0 a1=>t40 fuel a0 a1)
/-! ### f15 loop.example/wharfdesk/laws.szStewServiceS -/
noncomputable def X15 : Cx C:=mkX [(40,con40)] [] [] [] 983040 []
def F15 (n : Nat) : Cf:={ N:=n,keep:=[0,1,4,5,11,15,25],live:=lk [(0,[0,1,5])] }
noncomputable abbrev dec15:=deR KK [.int .i64]
abbrev A15_0 : Type:=List (C .e70)×Int×Int
def s15_0  : A15_0→St C:=fun (x0_0,x0_1,x0_2)=>{ env:=[(0,.one (.row .e70 x0_0)),(1,.one (.int .i64 x0_1)),(5,.one (.int .i64 x0_2))],objs:=[],base:=0 }
noncomputable def r15_0 (n : Nat)   (rec0 : A15_0→Option (Int)) : A15_0→Option (Int):=fun (x0_0,x0_1,x0_2) =>
 cond (decide (x0_2<(x0_0.length : Int)))
 (cond (decide (0≤x0_2)) (Option.bind x0_0[x0_2.toNat]? fun e1=>Option.bind (G40 e1 x0_1) fun r2 =>
 cond (decide (r2<0))
 (some ((-1)))
 (rec0 ((x0_0,r2,IntKind.i64.wrap (x0_2+1))))) none)
 (some (x0_1))
noncomputable def LP15_0 (n : Nat)   (x : A15_0) : Option (Int):=lpN (r15_0 n  ) n x
noncomputable def MP15_0 (n : Nat)   (x : A15_0) : Option (Int):=iter (fun rec S=>run X15 (F15 n) (codeAt (bodyOf Try.f15) [1,1,1,0,1,0,0]) 0 S (lopK rec (blkK 0 (seqK (run X15 (F15 n) (codeAt (bodyOf Try.f15) [1,1,1,1]) 0) (kTop X15 Try.f15 dec15))))) [0,1,5] n (s15_0  x)
theorem m15_0 (n : Nat)   (x : A15_0) : MP15_0 n   x=LP15_0 n   x:=by
  refine iter_eq (s15_0 ) (r15_0 n  ) (fun rec0 x => ?_) n x
  obtain ⟨x0_0,x0_1,x0_2⟩:=x
  kernel_rfl
noncomputable def G15n (n : Nat) (a0 : List (C .e70)) (a1 : Int) : Option (Int) :=
 cond (decide ((IntKind.i64.wrap (a1 - (a0.length : Int)))<0))
 (some ((-1)))
 (LP15_0 n    ((a0,IntKind.i64.wrap (a1 - (a0.length : Int)),0)))
theorem t15 (n : Nat) (a0 : List (C .e70)) (a1 : Int) : runFn X15 (F15 n) Try.f15 [.one (.row .e70 a0),.one (.int .i64 a1)] dec15=G15n n a0 a1:=by
  refine Eq.trans (b :=
   cond (decide ((IntKind.i64.wrap (a1 - (a0.length : Int)))<0))
   (some ((-1)))
   (MP15_0 n    ((a0,IntKind.i64.wrap (a1 - (a0.length : Int)),0)))) (by kernel_rfl) ?_
  simp only [G15n,m15_0]
noncomputable def G15 (a0 : List (C .e70)) (a1 : Int) : Option (Int):=G15n fuel a0 a1
noncomputable def con15 : Con C:=mkC KK [.row .e70,.int .i64] [.int .i64] G15
theorem c15 : ConOk Try.prog KK 15 con15:=cO (mkQ ⟨c40,trivial⟩ trivial trivial : Cons Try.prog X15) (fn:=Try.f15) (by kernel_rfl) (by kernel_rfl) (by kernel_rfl) (by kernel_rfl) (F15 fuel) (by kernel_rfl) (fun a0 a1=>t15 fuel a0 a1)
/-! ### f41 loop.example/wharfdesk/laws.szStewCopy -/
noncomputable def X41 : Cx C:=mkX [] [] [] [] 2686976 []
def F41 (n : Nat) : Cf:={ N:=n,keep:=[0,1,2,4,11,18],live:=lk [] }
noncomputable abbrev dec41:=deR KK [.int .i64]
noncomputable def G41n (n : Nat) (a0 : VStewCopy) (a1 : Int) : Option (Int) :=
 cond (decide ((IntKind.i64.wrap (a1 - (a0.Service.size : Int)))<0))
 (some ((-1)))
 (cond (decide ((IntKind.i64.wrap ((IntKind.i64.wrap (a1 - (a0.Service.size : Int))) - (a0.Berth.size : Int)))<0))
 (some ((-1)))
 (some (IntKind.i64.wrap ((IntKind.i64.wrap (a1 - (a0.Service.size : Int))) - (a0.Berth.size : Int)))))
theorem t41 (n : Nat) (a0 : VStewCopy) (a1 : Int) : runFn X41 (F41 n) Try.f41 [.agg [.str a0.Service,.int .i64 a0.Number,.int .i64 a0.Version,.int .i64 a0.Image,.int .i64 a0.State,.bool a0.Ending,.str a0.Berth],.one (.int .i64 a1)] dec41=G41n n a0 a1:=by
  kernel_rfl
noncomputable def G41 (a0 : VStewCopy) (a1 : Int) : Option (Int):=G41n fuel a0 a1
noncomputable def con41 : Con C:=mkC KK [.el .e73,.int .i64] [.int .i64] G41
theorem c41 : ConOk Try.prog KK 41 con41:=cO (mkQ trivial trivial trivial : Cons Try.prog X41) (fn:=Try.f41) (by kernel_rfl) (by kernel_rfl) (by kernel_rfl) (by kernel_rfl) (F41 fuel) (by kernel_rfl) (fun a0 a1=>t41 fuel a0 a1)
/-! ### f16 loop.example/wharfdesk/laws.szStewCopyS -/
noncomputable def X16 : Cx C:=mkX [(41,con41)] [] [] [] 1048576 []
def F16 (n : Nat) : Cf:={ N:=n,keep:=[0,1,4,5,11,15,25],live:=lk [(0,[0,1,5])] }
noncomputable abbrev dec16:=deR KK [.int .i64]
abbrev A16_0 : Type:=List (C .e73)×Int×Int
def s16_0  : A16_0→St C:=fun (x0_0,x0_1,x0_2)=>{ env:=[(0,.one (.row .e73 x0_0)),(1,.one (.int .i64 x0_1)),(5,.one (.int .i64 x0_2))],objs:=[],base:=0 }
noncomputable def r16_0 (n : Nat)   (rec0 : A16_0→Option (Int)) : A16_0→Option (Int):=fun (x0_0,x0_1,x0_2) =>
 cond (decide (x0_2<(x0_0.length : Int)))
 (cond (decide (0≤x0_2)) (Option.bind x0_0[x0_2.toNat]? fun e1=>Option.bind (G41 e1 x0_1) fun r2 =>
 cond (decide (r2<0))
 (some ((-1)))
 (rec0 ((x0_0,r2,IntKind.i64.wrap (x0_2+1))))) none)
 (some (x0_1))
noncomputable def LP16_0 (n : Nat)   (x : A16_0) : Option (Int):=lpN (r16_0 n  ) n x
noncomputable def MP16_0 (n : Nat)   (x : A16_0) : Option (Int):=iter (fun rec S=>run X16 (F16 n) (codeAt (bodyOf Try.f16) [1,1,1,0,1,0,0]) 0 S (lopK rec (blkK 0 (seqK (run X16 (F16 n) (codeAt (bodyOf Try.f16) [1,1,1,1]) 0) (kTop X16 Try.f16 dec16))))) [0,1,5] n (s16_0  x)
theorem m16_0 (n : Nat)   (x : A16_0) : MP16_0 n   x=LP16_0 n   x:=by
  refine iter_eq (s16_0 ) (r16_0 n  ) (fun rec0 x => ?_) n x
  obtain ⟨x0_0,x0_1,x0_2⟩:=x
  kernel_rfl
noncomputable def G16n (n : Nat) (a0 : List (C .e73)) (a1 : Int) : Option (Int) :=
 cond (decide ((IntKind.i64.wrap (a1 - (a0.length : Int)))<0))
 (some ((-1)))
 (LP16_0 n    ((a0,IntKind.i64.wrap (a1 - (a0.length : Int)),0)))
theorem t16 (n : Nat) (a0 : List (C .e73)) (a1 : Int) : runFn X16 (F16 n) Try.f16 [.one (.row .e73 a0),.one (.int .i64 a1)] dec16=G16n n a0 a1:=by
  refine Eq.trans (b :=
   cond (decide ((IntKind.i64.wrap (a1 - (a0.length : Int)))<0))
   (some ((-1)))
   (MP16_0 n    ((a0,IntKind.i64.wrap (a1 - (a0.length : Int)),0)))) (by kernel_rfl) ?_
  simp only [G16n,m16_0]
noncomputable def G16 (a0 : List (C .e73)) (a1 : Int) : Option (Int):=G16n fuel a0 a1
noncomputable def con16 : Con C:=mkC KK [.row .e73,.int .i64] [.int .i64] G16
theorem c16 : ConOk Try.prog KK 16 con16:=cO (mkQ ⟨c41,trivial⟩ trivial trivial : Cons Try.prog X16) (fn:=Try.f16) (by kernel_rfl) (by kernel_rfl) (by kernel_rfl) (by kernel_rfl) (F16 fuel) (by kernel_rfl) (fun a0 a1=>t16 fuel a0 a1)
/-! ### f42 loop.example/wharfdesk/laws.szStewBerth -/
noncomputable def X42 : Cx C:=mkX [] [] [] [] 2752512 []
def F42 (n : Nat) : Cf:={ N:=n,keep:=[0,1,2,4,11],live:=lk [] }
noncomputable abbrev dec42:=deR KK [.int .i64]
noncomputable def G42n (n : Nat) (a0 : VStewBerth) (a1 : Int) : Option (Int) :=
 cond (decide ((IntKind.i64.wrap (a1 - (a0.Name.size : Int)))<0))
 (some ((-1)))
 (some (IntKind.i64.wrap (a1 - (a0.Name.size : Int))))
theorem t42 (n : Nat) (a0 : VStewBerth) (a1 : Int) : runFn X42 (F42 n) Try.f42 [.agg [.str a0.Name,.bool a0.Drain],.one (.int .i64 a1)] dec42=G42n n a0 a1:=by
  kernel_rfl
noncomputable def G42 (a0 : VStewBerth) (a1 : Int) : Option (Int):=G42n fuel a0 a1
noncomputable def con42 : Con C:=mkC KK [.el .e76,.int .i64] [.int .i64] G42
theorem c42 : ConOk Try.prog KK 42 con42:=cO (mkQ trivial trivial trivial : Cons Try.prog X42) (fn:=Try.f42) (by kernel_rfl) (by kernel_rfl) (by kernel_rfl) (by kernel_rfl) (F42 fuel) (by kernel_rfl) (fun a0 a1=>t42 fuel a0 a1)
/-! ### f17 loop.example/wharfdesk/laws.szStewBerthS -/
noncomputable def X17 : Cx C:=mkX [(42,con42)] [] [] [] 1114112 []
def F17 (n : Nat) : Cf:={ N:=n,keep:=[0,1,4,5,11,15,25],live:=lk [(0,[0,1,5])] }
noncomputable abbrev dec17:=deR KK [.int .i64]
abbrev A17_0 : Type:=List (C .e76)×Int×Int
def s17_0  : A17_0→St C:=fun (x0_0,x0_1,x0_2)=>{ env:=[(0,.one (.row .e76 x0_0)),(1,.one (.int .i64 x0_1)),(5,.one (.int .i64 x0_2))],objs:=[],base:=0 }
noncomputable def r17_0 (n : Nat)   (rec0 : A17_0→Option (Int)) : A17_0→Option (Int):=fun (x0_0,x0_1,x0_2) =>
 cond (decide (x0_2<(x0_0.length : Int)))
 (cond (decide (0≤x0_2)) (Option.bind x0_0[x0_2.toNat]? fun e1=>Option.bind (G42 e1 x0_1) fun r2 =>
 cond (decide (r2<0))
 (some ((-1)))
 (rec0 ((x0_0,r2,IntKind.i64.wrap (x0_2+1))))) none)
 (some (x0_1))
noncomputable def LP17_0 (n : Nat)   (x : A17_0) : Option (Int):=lpN (r17_0 n  ) n x
noncomputable def MP17_0 (n : Nat)   (x : A17_0) : Option (Int):=iter (fun rec S=>run X17 (F17 n) (codeAt (bodyOf Try.f17) [1,1,1,0,1,0,0]) 0 S (lopK rec (blkK 0 (seqK (run X17 (F17 n) (codeAt (bodyOf Try.f17) [1,1,1,1]) 0) (kTop X17 Try.f17 dec17))))) [0,1,5] n (s17_0  x)
theorem m17_0 (n : Nat)   (x : A17_0) : MP17_0 n   x=LP17_0 n   x:=by
  refine iter_eq (s17_0 ) (r17_0 n  ) (fun rec0 x => ?_) n x
  obtain ⟨x0_0,x0_1,x0_2⟩:=x
  kernel_rfl
noncomputable def G17n (n : Nat) (a0 : List (C .e76)) (a1 : Int) : Option (Int) :=
 cond (decide ((IntKind.i64.wrap (a1 - (a0.length : Int)))<0))
 (some ((-1)))
 (LP17_0 n    ((a0,IntKind.i64.wrap (a1 - (a0.length : Int)),0)))
theorem t17 (n : Nat) (a0 : List (C .e76)) (a1 : Int) : runFn X17 (F17 n) Try.f17 [.one (.row .e76 a0),.one (.int .i64 a1)] dec17=G17n n a0 a1:=by
  refine Eq.trans (b :=
   cond (decide ((IntKind.i64.wrap (a1 - (a0.length : Int)))<0))
   (some ((-1)))
   (MP17_0 n    ((a0,IntKind.i64.wrap (a1 - (a0.length : Int)),0)))) (by kernel_rfl) ?_
  simp only [G17n,m17_0]
noncomputable def G17 (a0 : List (C .e76)) (a1 : Int) : Option (Int):=G17n fuel a0 a1
noncomputable def con17 : Con C:=mkC KK [.row .e76,.int .i64] [.int .i64] G17
theorem c17 : ConOk Try.prog KK 17 con17:=cO (mkQ ⟨c42,trivial⟩ trivial trivial : Cons Try.prog X17) (fn:=Try.f17) (by kernel_rfl) (by kernel_rfl) (by kernel_rfl) (by kernel_rfl) (F17 fuel) (by kernel_rfl) (fun a0 a1=>t17 fuel a0 a1)
/-! ### f4 loop.example/wharfdesk/laws.szStewBook -/
noncomputable def X4 : Cx C:=mkX [(15,con15),(16,con16),(17,con17)] [] [] [] 262144 []
def F4 (n : Nat) : Cf:={ N:=n,keep:=[0,1,2,4,10,16,22],live:=lk [] }
noncomputable abbrev dec4:=deR KK [.int .i64]
noncomputable def G4n (n : Nat) (a0 : VStewBook) (a1 : Int) : Option (Int) :=
 Option.bind (G15 a0.Services a1) fun r1 =>
 cond (decide (r1<0))
 (some ((-1)))
 (Option.bind (G16 a0.Copies r1) fun r2 =>
 cond (decide (r2<0))
 (some ((-1)))
 (Option.bind (G17 a0.Berths r2) fun r3 =>
 cond (decide (r3<0))
 (some ((-1)))
 (some (r3))))
theorem t4 (n : Nat) (a0 : VStewBook) (a1 : Int) : runFn X4 (F4 n) Try.f4 [.agg [.int .i64 a0.Now,.row .e70 a0.Services,.row .e73 a0.Copies,.row .e76 a0.Berths],.one (.int .i64 a1)] dec4=G4n n a0 a1:=by
  kernel_rfl
noncomputable def G4 (a0 : VStewBook) (a1 : Int) : Option (Int):=G4n fuel a0 a1
noncomputable def con4 : Con C:=mkC KK [.el .e26,.int .i64] [.int .i64] G4
theorem c4 : ConOk Try.prog KK 4 con4:=cO (mkQ ⟨c15,c16,c17,trivial⟩ trivial trivial : Cons Try.prog X4) (fn:=Try.f4) (by kernel_rfl) (by kernel_rfl) (by kernel_rfl) (by kernel_rfl) (F4 fuel) (by kernel_rfl) (fun a0 a1=>t4 fuel a0 a1)
/-! ### f18 loop.example/wharfdesk/laws.szStewEndS -/
noncomputable def X18 : Cx C:=mkX [] [] [] [] 1179648 []
def F18 (n : Nat) : Cf:={ N:=n,keep:=[0,1,4,10],live:=lk [] }
noncomputable abbrev dec18:=deR KK [.int .i64]
noncomputable def G18n (n : Nat) (a0 : List (C .e98)) (a1 : Int) : Option (Int) :=
 cond (decide ((IntKind.i64.wrap (a1 - (a0.length : Int)))<0))
 (some ((-1)))
 (some (IntKind.i64.wrap (a1 - (a0.length : Int))))
theorem t18 (n : Nat) (a0 : List (C .e98)) (a1 : Int) : runFn X18 (F18 n) Try.f18 [.one (.row .e98 a0),.one (.int .i64 a1)] dec18=G18n n a0 a1:=by
  kernel_rfl
noncomputable def G18 (a0 : List (C .e98)) (a1 : Int) : Option (Int):=G18n fuel a0 a1
noncomputable def con18 : Con C:=mkC KK [.row .e98,.int .i64] [.int .i64] G18
theorem c18 : ConOk Try.prog KK 18 con18:=cO (mkQ trivial trivial trivial : Cons Try.prog X18) (fn:=Try.f18) (by kernel_rfl) (by kernel_rfl) (by kernel_rfl) (by kernel_rfl) (F18 fuel) (by kernel_rfl) (fun a0 a1=>t18 fuel a0 a1)
/-! ### f5 loop.example/wharfdesk/laws.szStewAct -/
noncomputable def X5 : Cx C:=mkX [(18,con18)] [] [] [] 327680 []
def F5 (n : Nat) : Cf:={ N:=n,keep:=[0,1,2,4,11,17],live:=lk [] }
noncomputable abbrev dec5:=deR KK [.int .i64]
noncomputable def G5n (n : Nat) (a0 : VStewAct) (a1 : Int) : Option (Int) :=
 cond (decide ((IntKind.i64.wrap (a1 - (a0.Service.size : Int)))<0))
 (some ((-1)))
 (Option.bind (G18 a0.Ends (IntKind.i64.wrap (a1 - (a0.Service.size : Int)))) fun r1 =>
 cond (decide (r1<0))
 (some ((-1)))
 (some (r1)))
theorem t5 (n : Nat) (a0 : VStewAct) (a1 : Int) : runFn X5 (F5 n) Try.f5 [.agg [.str a0.Service,.int .i64 a0.Seen,.int .i64 a0.Create,.int .i64 a0.Want,.int .i64 a0.Cool,.bool a0.Scale,.row .e98 a0.Ends,.bool a0.Drop],.one (.int .i64 a1)] dec5=G5n n a0 a1:=by
  kernel_rfl
noncomputable def G5 (a0 : VStewAct) (a1 : Int) : Option (Int):=G5n fuel a0 a1
noncomputable def con5 : Con C:=mkC KK [.el .e29,.int .i64] [.int .i64] G5
theorem c5 : ConOk Try.prog KK 5 con5:=cO (mkQ ⟨c18,trivial⟩ trivial trivial : Cons Try.prog X5) (fn:=Try.f5) (by kernel_rfl) (by kernel_rfl) (by kernel_rfl) (by kernel_rfl) (F5 fuel) (by kernel_rfl) (fun a0 a1=>t5 fuel a0 a1)
/-! ### f43 loop.example/wharfdesk/spec.l12In -/
noncomputable def X43 : Cx C:=mkX [] [] [] [] 2818048 []
def F43 (n : Nat) : Cf:={ N:=n,keep:=[0,1,2,6],live:=lk [] }
noncomputable abbrev dec43:=deR KK [.bool]
noncomputable def G43n (n : Nat) (a0 : Int) (a1 : Int) (a2 : Int) : Option (Bool) :=
 cond (decide (a0≥a1))
 (some (decide (a0≤a2)))
 (some (false))
theorem t43 (n : Nat) (a0 : Int) (a1 : Int) (a2 : Int) : runFn X43 (F43 n) Try.f43 [.one (.int .i64 a0),.one (.int .i64 a1),.one (.int .i64 a2)] dec43=G43n n a0 a1 a2:=by
  kernel_rfl
noncomputable def G43 (a0 : Int) (a1 : Int) (a2 : Int) : Option (Bool):=G43n fuel a0 a1 a2
noncomputable def con43 : Con C:=mkC KK [.int .i64,.int .i64,.int .i64] [.bool] G43
theorem c43 : ConOk Try.prog KK 43 con43:=cO (mkQ trivial trivial trivial : Cons Try.prog X43) (fn:=Try.f43) (by kernel_rfl) (by kernel_rfl) (by kernel_rfl) (by kernel_rfl) (F43 fuel) (by kernel_rfl) (fun a0 a1 a2=>t43 fuel a0 a1 a2)
/-! ### f45 loop.example/wharfdesk/spec.l12NameOk -/
noncomputable def X45 : Cx C:=mkX [(43,con43)] [] [] [] 2949120 []
def F45 (n : Nat) : Cf:={ N:=n,keep:=[0,2,3,4,8,12,36],live:=lk [(0,[0,3])] }
noncomputable abbrev dec45:=deR KK [.bool]
abbrev A45_0 : Type:=Int
section
variable (x0 : ByteArray)
def s45_0 : A45_0→St C:=fun x1=>{ env:=[(0,.one (.str x0)),(3,.one (.int .i64 x1))],objs:=[],base:=0 }
end
noncomputable def r45_0 (x0 : ByteArray) (n : Nat)   (rec0 : A45_0→Option (Bool)) : A45_0→Option (Bool):=fun x1 =>
 cond (decide (x1<(x0.size : Int)))
 (cond (decide (0≤x1)) (cond (decide (x1<(x0.size : Int))) (cond (decide ((sbt x0 x1)≥97))
 (cond (decide ((sbt x0 x1)≤122))
 (rec0 (IntKind.i64.wrap (x1+1)))
 (cond (decide ((sbt x0 x1)≥48))
 (cond (decide ((sbt x0 x1)≤57))
 (rec0 (IntKind.i64.wrap (x1+1)))
 (cond (!((sbt x0 x1) == 45))
 (some (false))
 (rec0 (IntKind.i64.wrap (x1+1)))))
 (cond (!((sbt x0 x1) == 45))
 (some (false))
 (rec0 (IntKind.i64.wrap (x1+1))))))
 (cond (decide ((sbt x0 x1)≥48))
 (cond (decide ((sbt x0 x1)≤57))
 (rec0 (IntKind.i64.wrap (x1+1)))
 (cond (!((sbt x0 x1) == 45))
 (some (false))
 (rec0 (IntKind.i64.wrap (x1+1)))))
 (cond (!((sbt x0 x1) == 45))
 (some (false))
 (rec0 (IntKind.i64.wrap (x1+1)))))) none) none)
 (some (true))
section
variable (x0 : ByteArray)
noncomputable def MP45_0 (n : Nat)  (x : A45_0) : Option (Bool):=iter (fun rec S=>run X45 (F45 n) (codeAt (bodyOf Try.f45) [1,1,0,1,0,0]) 0 S (lopK rec (blkK 0 (seqK (run X45 (F45 n) (codeAt (bodyOf Try.f45) [1,1,1]) 0) (kTop X45 Try.f45 dec45))))) [0,3] n (s45_0 x0 x)
theorem m45_0 (n : Nat)  (x : A45_0) : MP45_0 x0 n  x=lpN (r45_0 x0 n  ) n x:=by
  refine iter_eq (s45_0 x0) (r45_0 x0 n  ) (fun rec0 x1 => ?_) n x
  kernel_rfl
end
noncomputable def G45n (n : Nat) (a0 : ByteArray) : Option (Bool) :=
 Option.bind (G43 (a0.size : Int) 1 20) fun r1 =>
 cond (!r1)
 (some (false))
 (lpN (r45_0 a0 n ) n 0)
theorem t45 (n : Nat) (a0 : ByteArray) : runFn X45 (F45 n) Try.f45 [.one (.str a0)] dec45=G45n n a0:=by
  refine Eq.trans (b :=
   Option.bind (G43 (a0.size : Int) 1 20) fun r1 =>
   cond (!r1)
   (some (false))
   (MP45_0 a0 n   0)) (by kernel_rfl) ?_
  simp only [G45n,m45_0]
noncomputable def G45 (a0 : ByteArray) : Option (Bool):=G45n fuel a0
noncomputable def con45 : Con C:=mkC KK [.str] [.bool] G45
theorem c45 : ConOk Try.prog KK 45 con45:=cO (mkQ ⟨c43,trivial⟩ trivial trivial : Cons Try.prog X45) (fn:=Try.f45) (by kernel_rfl) (by kernel_rfl) (by kernel_rfl) (by kernel_rfl) (F45 fuel) (by kernel_rfl) (fun a0=>t45 fuel a0)
/-! ### f44 loop.example/wharfdesk/spec.l12ServiceOk -/
noncomputable def X44 : Cx C:=mkX [(43,con43),(45,con45)] [] [] [] 2883584 []
def F44 (n : Nat) : Cf:={ N:=n,keep:=[0,1,2,4,53,56],live:=lk [] }
noncomputable abbrev dec44:=deR KK [.bool]
noncomputable def G44n (n : Nat) (a0 : VStewService) (a1 : Int) : Option (Bool) :=
 Option.bind (G45 a0.Name) fun r1 =>
 cond (!r1)
 (some (false))
 (Option.bind (G43 a0.Version 1 a1) fun r2 =>
 cond (!r2)
 (some (false))
 (Option.bind (G43 a0.Image 1 1000000) fun r3 =>
 cond (!r3)
 (some (false))
 (Option.bind (G43 a0.Next 1 1000000) fun r4 =>
 cond (!r4)
 (some (false))
 (Option.bind (G43 a0.Want 0 10) fun r5 =>
 cond (!r5)
 (some (false))
 (Option.bind (G43 a0.Down 0 10) fun r6 =>
 cond (!r6)
 (some (false))
 (Option.bind (G43 a0.Over 0 10) fun r7 =>
 cond (!r7)
 (some (false))
 (cond ((IntKind.i64.wrap (a0.Down+a0.Over)) == 0)
 (some (false))
 (cond (a0.Per == 0)
 (cond (a0.Least == 0)
 (cond (a0.Most == 0)
 (cond (a0.Load == 0)
 (some (a0.Cool == 0))
 (some (false)))
 (some (false)))
 (some (false)))
 (Option.bind (G43 a0.Per 0 1000000) fun r8 =>
 cond r8
 (Option.bind (G43 a0.Load 0 1000000) fun r9 =>
 cond r9
 (Option.bind (G43 a0.Least 0 10) fun r10 =>
 cond r10
 (Option.bind (G43 a0.Most a0.Least 10) fun r11 =>
 cond r11
 (Option.bind (G43 a0.Cool 0 3) fun r12 =>
 some (r12))
 (some (false)))
 (some (false)))
 (some (false)))
 (some (false)))))))))))
theorem t44 (n : Nat) (a0 : VStewService) (a1 : Int) : runFn X44 (F44 n) Try.f44 [.agg [.str a0.Name,.int .i64 a0.Version,.bool a0.Gone,.int .i64 a0.Image,.int .i64 a0.Want,.int .i64 a0.Down,.int .i64 a0.Over,.int .i64 a0.Next,.int .i64 a0.Per,.int .i64 a0.Least,.int .i64 a0.Most,.int .i64 a0.Load,.int .i64 a0.Cool],.one (.int .i64 a1)] dec44=G44n n a0 a1:=by
  kernel_rfl
noncomputable def G44 (a0 : VStewService) (a1 : Int) : Option (Bool):=G44n fuel a0 a1
noncomputable def con44 : Con C:=mkC KK [.el .e79,.int .i64] [.bool] G44
theorem c44 : ConOk Try.prog KK 44 con44:=cO (mkQ ⟨c43,c45,trivial⟩ trivial trivial : Cons Try.prog X44) (fn:=Try.f44) (by kernel_rfl) (by kernel_rfl) (by kernel_rfl) (by kernel_rfl) (F44 fuel) (by kernel_rfl) (fun a0 a1=>t44 fuel a0 a1)
/-! ### f49 loop.example/wharfdesk/spec.l12Service -/
noncomputable def X49 : Cx C:=mkX [] [] [] [] 3211264 []
def F49 (n : Nat) : Cf:={ N:=n,keep:=[0,1,2,4,5,10,20],live:=lk [(0,[1,2,5])] }
noncomputable abbrev dec49:=deR KK [.int .i64]
abbrev A49_0 : Type:=Int
section
variable (x0 : ByteArray) (x2 : Int) (x3 : List (C .e79)) (x4 : List (C .e83)) (x5 : List (C .e81))
def s49_0 : A49_0→St C:=fun x1=>{ env:=[(1,.one (.str x0)),(2,.one (.ptr 3211392 0)),(5,.one (.int .i64 x1))],objs:=[(3211392,.box .mem [.int .i64 x2,.row .e79 x3,.row .e83 x4,.row .e81 x5])],base:=0 }
end
noncomputable def r49_0 (x0 : ByteArray) (x3 : List (C .e79)) (n : Nat)   (rec0 : A49_0→Option (Int)) : A49_0→Option (Int):=fun x1 =>
 cond (decide (x1<(x3.length : Int)))
 (cond (decide (0≤x1)) (Option.bind x3[x1.toNat]? fun e1=>cond (decide (e1.Name=x0))
 (some (x1))
 (rec0 (IntKind.i64.wrap (x1+1)))) none)
 (some ((-1)))
section
variable (x0 : ByteArray) (x2 : Int) (x3 : List (C .e79)) (x4 : List (C .e83)) (x5 : List (C .e81))
noncomputable def MP49_0 (n : Nat)  (x : A49_0) : Option (Int):=iter (fun rec S=>run X49 (F49 n) (codeAt (bodyOf Try.f49) [1,0,1,0,0]) 0 S (lopK rec (blkK 0 (seqK (run X49 (F49 n) (codeAt (bodyOf Try.f49) [1,1]) 0) (kTop X49 Try.f49 dec49))))) [1,2,5] n (s49_0 x0 x2 x3 x4 x5 x)
theorem m49_0 (n : Nat)  (x : A49_0) : MP49_0 x0 x2 x3 x4 x5 n  x=lpN (r49_0 x0 x3 n  ) n x:=by
  refine iter_eq (s49_0 x0 x2 x3 x4 x5) (r49_0 x0 x3 n  ) (fun rec0 x1 => ?_) n x
  kernel_rfl
end
noncomputable def G49n (n : Nat) (a0 : VStewBook) (a1 : ByteArray) : Option (Int) :=
 lpN (r49_0 a1 a0.Services n ) n 0
theorem t49 (n : Nat) (a0 : VStewBook) (a1 : ByteArray) : runFn X49 (F49 n) Try.f49 [.agg [.int .i64 a0.Now,.row .e79 a0.Services,.row .e83 a0.Copies,.row .e81 a0.Berths],.one (.str a1)] dec49=G49n n a0 a1:=by
  refine Eq.trans (b :=
   MP49_0 a1 a0.Now a0.Services a0.Copies a0.Berths n   0) (by kernel_rfl) ?_
  simp only [G49n,m49_0]
noncomputable def G49 (a0 : VStewBook) (a1 : ByteArray) : Option (Int):=G49n fuel a0 a1
noncomputable def con49 : Con C:=mkC KK [.el .e36,.str] [.int .i64] G49
theorem c49 : ConOk Try.prog KK 49 con49:=cO (mkQ trivial trivial trivial : Cons Try.prog X49) (fn:=Try.f49) (by kernel_rfl) (by kernel_rfl) (by kernel_rfl) (by kernel_rfl) (F49 fuel) (by kernel_rfl) (fun a0 a1=>t49 fuel a0 a1)
/-! ### f74 loop.example/wharfdesk/spec.l12Berth -/
noncomputable def X74 : Cx C:=mkX [] [] [] [] 4849664 []
def F74 (n : Nat) : Cf:={ N:=n,keep:=[0,1,2,4,5,10,20],live:=lk [(0,[1,2,5])] }
noncomputable abbrev dec74:=deR KK [.int .i64]
abbrev A74_0 : Type:=Int
section
variable (x0 : ByteArray) (x2 : Int) (x3 : List (C .e79)) (x4 : List (C .e83)) (x5 : List (C .e81))
def s74_0 : A74_0→St C:=fun x1=>{ env:=[(1,.one (.str x0)),(2,.one (.ptr 4849792 0)),(5,.one (.int .i64 x1))],objs:=[(4849792,.box .mem [.int .i64 x2,.row .e79 x3,.row .e83 x4,.row .e81 x5])],base:=0 }
end
noncomputable def r74_0 (x0 : ByteArray) (x5 : List (C .e81)) (n : Nat)   (rec0 : A74_0→Option (Int)) : A74_0→Option (Int):=fun x1 =>
 cond (decide (x1<(x5.length : Int)))
 (cond (decide (0≤x1)) (Option.bind x5[x1.toNat]? fun e1=>cond (decide (e1.Name=x0))
 (some (x1))
 (rec0 (IntKind.i64.wrap (x1+1)))) none)
 (some ((-1)))
section
variable (x0 : ByteArray) (x2 : Int) (x3 : List (C .e79)) (x4 : List (C .e83)) (x5 : List (C .e81))
noncomputable def MP74_0 (n : Nat)  (x : A74_0) : Option (Int):=iter (fun rec S=>run X74 (F74 n) (codeAt (bodyOf Try.f74) [1,0,1,0,0]) 0 S (lopK rec (blkK 0 (seqK (run X74 (F74 n) (codeAt (bodyOf Try.f74) [1,1]) 0) (kTop X74 Try.f74 dec74))))) [1,2,5] n (s74_0 x0 x2 x3 x4 x5 x)
theorem m74_0 (n : Nat)  (x : A74_0) : MP74_0 x0 x2 x3 x4 x5 n  x=lpN (r74_0 x0 x5 n  ) n x:=by
  refine iter_eq (s74_0 x0 x2 x3 x4 x5) (r74_0 x0 x5 n  ) (fun rec0 x1 => ?_) n x
  kernel_rfl
end
noncomputable def G74n (n : Nat) (a0 : VStewBook) (a1 : ByteArray) : Option (Int) :=
 lpN (r74_0 a1 a0.Berths n ) n 0
theorem t74 (n : Nat) (a0 : VStewBook) (a1 : ByteArray) : runFn X74 (F74 n) Try.f74 [.agg [.int .i64 a0.Now,.row .e79 a0.Services,.row .e83 a0.Copies,.row .e81 a0.Berths],.one (.str a1)] dec74=G74n n a0 a1:=by
  refine Eq.trans (b :=
   MP74_0 a1 a0.Now a0.Services a0.Copies a0.Berths n   0) (by kernel_rfl) ?_
  simp only [G74n,m74_0]
noncomputable def G74 (a0 : VStewBook) (a1 : ByteArray) : Option (Int):=G74n fuel a0 a1
noncomputable def con74 : Con C:=mkC KK [.el .e36,.str] [.int .i64] G74
theorem c74 : ConOk Try.prog KK 74 con74:=cO (mkQ trivial trivial trivial : Cons Try.prog X74) (fn:=Try.f74) (by kernel_rfl) (by kernel_rfl) (by kernel_rfl) (by kernel_rfl) (F74 fuel) (by kernel_rfl) (fun a0 a1=>t74 fuel a0 a1)
/-! ### f46 loop.example/wharfdesk/spec.l12CopyOk -/
noncomputable def X46 : Cx C:=mkX [(43,con43),(49,con49),(74,con74)] [] [] [] 3014656 []
def F46 (n : Nat) : Cf:={ N:=n,keep:=[0,1,2,3,4,5,44,47],live:=lk [] }
noncomputable abbrev dec46:=deR KK [.bool]
noncomputable def G46n (n : Nat) (a0 : VStewBook) (a1 : VStewCopy) : Option (Bool) :=
 Option.bind (G49 a0 a1.Service) fun r1 =>
 cond (decide (r1<0))
 (some (false))
 (cond (decide (0≤r1)) (Option.bind a0.Services[r1.toNat]? fun e2=>Option.bind (G43 a1.Number 1 (IntKind.i64.wrap (e2.Next - 1))) fun r3 =>
 cond (!r3)
 (some (false))
 (Option.bind (G43 a1.Version 1 a0.Now) fun r4 =>
 cond (!r4)
 (some (false))
 (Option.bind (G43 a1.Image 1 1000000) fun r5 =>
 cond (!r5)
 (some (false))
 (Option.bind (G43 a1.State 1 4) fun r6 =>
 cond (!r6)
 (some (false))
 (cond (a1.State == 1)
 (some (decide (a1.Berth=(⟨#[]⟩ : ByteArray))))
 (Option.bind (G74 a0 a1.Berth) fun r7 =>
 some (decide (r7≥0)))))))) none)
theorem t46 (n : Nat) (a0 : VStewBook) (a1 : VStewCopy) : runFn X46 (F46 n) Try.f46 [.agg [.int .i64 a0.Now,.row .e79 a0.Services,.row .e83 a0.Copies,.row .e81 a0.Berths],.agg [.str a1.Service,.int .i64 a1.Number,.int .i64 a1.Version,.int .i64 a1.Image,.int .i64 a1.State,.bool a1.Ending,.str a1.Berth]] dec46=G46n n a0 a1:=by
  kernel_rfl
noncomputable def G46 (a0 : VStewBook) (a1 : VStewCopy) : Option (Bool):=G46n fuel a0 a1
noncomputable def con46 : Con C:=mkC KK [.el .e36,.el .e83] [.bool] G46
theorem c46 : ConOk Try.prog KK 46 con46:=cO (mkQ ⟨c43,c49,c74,trivial⟩ trivial trivial : Cons Try.prog X46) (fn:=Try.f46) (by kernel_rfl) (by kernel_rfl) (by kernel_rfl) (by kernel_rfl) (F46 fuel) (by kernel_rfl) (fun a0 a1=>t46 fuel a0 a1)
/-! ### f47 loop.example/wharfdesk/spec.l12Ahead -/
noncomputable def X47 : Cx C:=mkX [] [] [] [] 3080192 []
def F47 (n : Nat) : Cf:={ N:=n,keep:=[0,1,2,3,4],live:=lk [] }
noncomputable abbrev dec47:=deR KK [.bool]
noncomputable def G47n (n : Nat) (a0 : VStewCopy) (a1 : VStewCopy) : Option (Bool) :=
 cond (slt a0.Service a1.Service)
 (some (true))
 (cond (decide (a0.Service=a1.Service))
 (some (decide (a0.Number<a1.Number)))
 (some (false)))
theorem t47 (n : Nat) (a0 : VStewCopy) (a1 : VStewCopy) : runFn X47 (F47 n) Try.f47 [.agg [.str a0.Service,.int .i64 a0.Number,.int .i64 a0.Version,.int .i64 a0.Image,.int .i64 a0.State,.bool a0.Ending,.str a0.Berth],.agg [.str a1.Service,.int .i64 a1.Number,.int .i64 a1.Version,.int .i64 a1.Image,.int .i64 a1.State,.bool a1.Ending,.str a1.Berth]] dec47=G47n n a0 a1:=by
  kernel_rfl
noncomputable def G47 (a0 : VStewCopy) (a1 : VStewCopy) : Option (Bool):=G47n fuel a0 a1
noncomputable def con47 : Con C:=mkC KK [.el .e83,.el .e83] [.bool] G47
theorem c47 : ConOk Try.prog KK 47 con47:=cO (mkQ trivial trivial trivial : Cons Try.prog X47) (fn:=Try.f47) (by kernel_rfl) (by kernel_rfl) (by kernel_rfl) (by kernel_rfl) (F47 fuel) (by kernel_rfl) (fun a0 a1=>t47 fuel a0 a1)
/-! ### f19 loop.example/wharfdesk/spec.StewValid -/
noncomputable def X19 : Cx C:=mkX [(43,con43),(44,con44),(45,con45),(46,con46),(47,con47)] [] [] [] 1245184 []
def F19 (n : Nat) : Cf:={ N:=n,keep:=[0,1,2,3,4,5,27,32,63,68,98,103,132],live:=lk [(0,[1,3]),(2,[1,4]),(4,[1,5])] }
noncomputable abbrev dec19:=deR KK [.bool]
abbrev A19_2 : Type:=Int
abbrev A19_1 : Type:=Int
abbrev A19_0 : Type:=Int
section
variable (x1 : Int) (x2 : List (C .e79)) (x3 : List (C .e83)) (x4 : List (C .e81))
def s19_2 : A19_2→St C:=fun x0=>{ env:=[(1,.one (.ptr 1245248 0)),(5,.one (.int .i64 x0))],objs:=[(1245248,.box .mem [.int .i64 x1,.row .e79 x2,.row .e83 x3,.row .e81 x4])],base:=0 }
end
noncomputable def r19_2 (x1 : Int) (x2 : List (C .e79)) (x3 : List (C .e83)) (x4 : List (C .e81)) (n : Nat)   (rec2 : A19_2→Option (Bool)) : A19_2→Option (Bool):=fun x0 =>
 cond (decide (x0<(x3.length : Int)))
 (cond (decide (0≤x0)) (Option.bind x3[x0.toNat]? fun e10=>Option.bind (G46 (⟨x1,x2,x3,x4⟩ : VStewBook) e10) fun r11 =>
 cond (!r11)
 (some (false))
 (cond (decide (x0>0))
 (cond (decide (0≤IntKind.i64.wrap (x0 - 1))) (Option.bind x3[(IntKind.i64.wrap (x0 - 1)).toNat]? fun e12=>cond (decide (0≤x0)) (Option.bind x3[x0.toNat]? fun e13=>Option.bind (G47 e12 e13) fun r14 =>
 cond (!r14)
 (some (false))
 (rec2 (IntKind.i64.wrap (x0+1)))) none) none)
 (rec2 (IntKind.i64.wrap (x0+1))))) none)
 (some (true))
section
variable (x1 : Int) (x2 : List (C .e79)) (x3 : List (C .e83)) (x4 : List (C .e81))
def s19_1 : A19_1→St C:=fun x0=>{ env:=[(1,.one (.ptr 1245248 0)),(4,.one (.int .i64 x0))],objs:=[(1245248,.box .mem [.int .i64 x1,.row .e79 x2,.row .e83 x3,.row .e81 x4])],base:=0 }
end
noncomputable def r19_1 (x1 : Int) (x2 : List (C .e79)) (x3 : List (C .e83)) (x4 : List (C .e81)) (n : Nat)   (rec1 : A19_1→Option (Bool)) : A19_1→Option (Bool):=fun x0 =>
 cond (decide (x0<(x4.length : Int)))
 (cond (decide (0≤x0)) (Option.bind x4[x0.toNat]? fun e6=>Option.bind (G45 e6.Name) fun r7 =>
 cond (!r7)
 (some (false))
 (cond (decide (x0>0))
 (cond (decide (0≤IntKind.i64.wrap (x0 - 1))) (Option.bind x4[(IntKind.i64.wrap (x0 - 1)).toNat]? fun e8=>cond (decide (0≤x0)) (Option.bind x4[x0.toNat]? fun e9=>cond (!slt e8.Name e9.Name)
 (some (false))
 (rec1 (IntKind.i64.wrap (x0+1)))) none) none)
 (rec1 (IntKind.i64.wrap (x0+1))))) none)
 (lpN (r19_2 x1 x2 x3 x4 n ) n 0)
section
variable (x1 : Int) (x2 : List (C .e79)) (x3 : List (C .e83)) (x4 : List (C .e81))
def s19_0 : A19_0→St C:=fun x0=>{ env:=[(1,.one (.ptr 1245248 0)),(3,.one (.int .i64 x0))],objs:=[(1245248,.box .mem [.int .i64 x1,.row .e79 x2,.row .e83 x3,.row .e81 x4])],base:=0 }
end
noncomputable def r19_0 (x1 : Int) (x2 : List (C .e79)) (x3 : List (C .e83)) (x4 : List (C .e81)) (n : Nat)   (rec0 : A19_0→Option (Bool)) : A19_0→Option (Bool):=fun x0 =>
 cond (decide (x0<(x2.length : Int)))
 (cond (decide (0≤x0)) (Option.bind x2[x0.toNat]? fun e2=>Option.bind (G44 e2 x1) fun r3 =>
 cond (!r3)
 (some (false))
 (cond (decide (x0>0))
 (cond (decide (0≤IntKind.i64.wrap (x0 - 1))) (Option.bind x2[(IntKind.i64.wrap (x0 - 1)).toNat]? fun e4=>cond (decide (0≤x0)) (Option.bind x2[x0.toNat]? fun e5=>cond (!slt e4.Name e5.Name)
 (some (false))
 (rec0 (IntKind.i64.wrap (x0+1)))) none) none)
 (rec0 (IntKind.i64.wrap (x0+1))))) none)
 (lpN (r19_1 x1 x2 x3 x4 n ) n 0)
section
variable (x1 : Int) (x2 : List (C .e79)) (x3 : List (C .e83)) (x4 : List (C .e81))
noncomputable def MP19_2 (n : Nat)  (x : A19_2) : Option (Bool):=iter (fun rec S=>run X19 (F19 n) (codeAt (bodyOf Try.f19) [1,1,1,1,0,1,0,0]) 4 S (lopK rec (blkK 4 (seqK (run X19 (F19 n) (codeAt (bodyOf Try.f19) [1,1,1,1,1]) 0) (kTop X19 Try.f19 dec19))))) [1,5] n (s19_2 x1 x2 x3 x4 x)
theorem m19_2 (n : Nat)  (x : A19_2) : MP19_2 x1 x2 x3 x4 n  x=lpN (r19_2 x1 x2 x3 x4 n  ) n x:=by
  refine iter_eq (s19_2 x1 x2 x3 x4) (r19_2 x1 x2 x3 x4 n  ) (fun rec2 x0 => ?_) n x
  kernel_rfl
end
section
variable (x1 : Int) (x2 : List (C .e79)) (x3 : List (C .e83)) (x4 : List (C .e81))
noncomputable def MP19_1 (n : Nat)  (x : A19_1) : Option (Bool):=iter (fun rec S=>run X19 (F19 n) (codeAt (bodyOf Try.f19) [1,1,1,0,1,0,0]) 2 S (lopK rec (blkK 2 (seqK (run X19 (F19 n) (codeAt (bodyOf Try.f19) [1,1,1,1]) 0) (kTop X19 Try.f19 dec19))))) [1,4] n (s19_1 x1 x2 x3 x4 x)
theorem m19_1 (n : Nat)  (x : A19_1) : MP19_1 x1 x2 x3 x4 n  x=lpN (r19_1 x1 x2 x3 x4 n  ) n x:=by
  refine iter_eq (s19_1 x1 x2 x3 x4) (r19_1 x1 x2 x3 x4 n  ) (fun rec1 x0 => ?_) n x
  have h : run X19 (F19 n) (codeAt (bodyOf Try.f19) [1,1,1,0,1,0,0]) 2 (s19_1 x1 x2 x3 x4 x0) (lopK (canThen [1,4] rec1) (blkK 2 (seqK (run X19 (F19 n) (codeAt (bodyOf Try.f19) [1,1,1,1]) 0) (kTop X19 Try.f19 dec19)))) =
   cond (decide (x0<(x4.length : Int)))
   (cond (decide (0≤x0)) (Option.bind x4[x0.toNat]? fun e6=>Option.bind (G45 e6.Name) fun r7 =>
   cond (!r7)
   (some (false))
   (cond (decide (x0>0))
   (cond (decide (0≤IntKind.i64.wrap (x0 - 1))) (Option.bind x4[(IntKind.i64.wrap (x0 - 1)).toNat]? fun e8=>cond (decide (0≤x0)) (Option.bind x4[x0.toNat]? fun e9=>cond (!slt e8.Name e9.Name)
   (some (false))
   ((fun x=>rec1 (s19_1 x1 x2 x3 x4 x)) (IntKind.i64.wrap (x0+1)))) none) none)
   ((fun x=>rec1 (s19_1 x1 x2 x3 x4 x)) (IntKind.i64.wrap (x0+1))))) none)
   (MP19_2 x1 x2 x3 x4 n   0):=by kernel_rfl
  simp only [m19_2] at h
  exact h
end
section
variable (x1 : Int) (x2 : List (C .e79)) (x3 : List (C .e83)) (x4 : List (C .e81))
noncomputable def MP19_0 (n : Nat)  (x : A19_0) : Option (Bool):=iter (fun rec S=>run X19 (F19 n) (codeAt (bodyOf Try.f19) [1,1,0,1,0,0]) 0 S (lopK rec (blkK 0 (seqK (run X19 (F19 n) (codeAt (bodyOf Try.f19) [1,1,1]) 0) (kTop X19 Try.f19 dec19))))) [1,3] n (s19_0 x1 x2 x3 x4 x)
theorem m19_0 (n : Nat)  (x : A19_0) : MP19_0 x1 x2 x3 x4 n  x=lpN (r19_0 x1 x2 x3 x4 n  ) n x:=by
  refine iter_eq (s19_0 x1 x2 x3 x4) (r19_0 x1 x2 x3 x4 n  ) (fun rec0 x0 => ?_) n x
  have h : run X19 (F19 n) (codeAt (bodyOf Try.f19) [1,1,0,1,0,0]) 0 (s19_0 x1 x2 x3 x4 x0) (lopK (canThen [1,3] rec0) (blkK 0 (seqK (run X19 (F19 n) (codeAt (bodyOf Try.f19) [1,1,1]) 0) (kTop X19 Try.f19 dec19)))) =
   cond (decide (x0<(x2.length : Int)))
   (cond (decide (0≤x0)) (Option.bind x2[x0.toNat]? fun e2=>Option.bind (G44 e2 x1) fun r3 =>
   cond (!r3)
   (some (false))
   (cond (decide (x0>0))
   (cond (decide (0≤IntKind.i64.wrap (x0 - 1))) (Option.bind x2[(IntKind.i64.wrap (x0 - 1)).toNat]? fun e4=>cond (decide (0≤x0)) (Option.bind x2[x0.toNat]? fun e5=>cond (!slt e4.Name e5.Name)
   (some (false))
   ((fun x=>rec0 (s19_0 x1 x2 x3 x4 x)) (IntKind.i64.wrap (x0+1)))) none) none)
   ((fun x=>rec0 (s19_0 x1 x2 x3 x4 x)) (IntKind.i64.wrap (x0+1))))) none)
   (MP19_1 x1 x2 x3 x4 n   0):=by kernel_rfl
  simp only [m19_1] at h
  exact h
end
noncomputable def G19n (n : Nat) (a0 : VStewBook) : Option (Bool) :=
 Option.bind (G43 a0.Now 0 1000000) fun r1 =>
 cond (!r1)
 (some (false))
 (cond (decide ((a0.Services.length : Int)>8))
 (some (false))
 (cond (decide ((a0.Copies.length : Int)>200))
 (some (false))
 (cond (decide ((a0.Berths.length : Int)>6))
 (some (false))
 (lpN (r19_0 a0.Now a0.Services a0.Copies a0.Berths n ) n 0))))
theorem t19 (n : Nat) (a0 : VStewBook) : runFn X19 (F19 n) Try.f19 [.agg [.int .i64 a0.Now,.row .e79 a0.Services,.row .e83 a0.Copies,.row .e81 a0.Berths]] dec19=G19n n a0:=by
  refine Eq.trans (b :=
   Option.bind (G43 a0.Now 0 1000000) fun r1 =>
   cond (!r1)
   (some (false))
   (cond (decide ((a0.Services.length : Int)>8))
   (some (false))
   (cond (decide ((a0.Copies.length : Int)>200))
   (some (false))
   (cond (decide ((a0.Berths.length : Int)>6))
   (some (false))
   (MP19_0 a0.Now a0.Services a0.Copies a0.Berths n   0))))) (by kernel_rfl) ?_
  simp only [G19n,m19_0]
noncomputable def G19 (a0 : VStewBook) : Option (Bool):=G19n fuel a0
noncomputable def con19 : Con C:=mkC KK [.el .e36] [.bool] G19
theorem c19 : ConOk Try.prog KK 19 con19:=cO (mkQ ⟨c43,c44,c45,c46,c47,trivial⟩ trivial trivial : Cons Try.prog X19) (fn:=Try.f19) (by kernel_rfl) (by kernel_rfl) (by kernel_rfl) (by kernel_rfl) (F19 fuel) (by kernel_rfl) (fun a0=>t19 fuel a0)
/-! ### f21 loop.example/wharfdesk/spec.l12Book -/
noncomputable def X21 : Cx C:=mkX [] [] [] [] 1376256 []
def F21 (n : Nat) : Cf:={ N:=n,keep:=[0,1,2],live:=lk [] }
noncomputable abbrev dec21:=deR KK [.el .e36]
noncomputable def G21n (n : Nat) (a0 : VStewBook) : Option (VStewBook) :=
 cond (decide (((([] : List (C .e79))).length+a0.Services.length)*112≤140737488355328)) (cond (decide (((([] : List (C .e83))).length+a0.Copies.length)*72≤140737488355328)) (cond (decide (((([] : List (C .e81))).length+a0.Berths.length)*24≤140737488355328)) (some ((⟨a0.Now,(([] : List (C .e79)))++a0.Services,(([] : List (C .e83)))++a0.Copies,(([] : List (C .e81)))++a0.Berths⟩ : VStewBook))) none) none) none
theorem t21 (n : Nat) (a0 : VStewBook) : runFn X21 (F21 n) Try.f21 [.agg [.int .i64 a0.Now,.row .e79 a0.Services,.row .e83 a0.Copies,.row .e81 a0.Berths]] dec21=G21n n a0:=by
  kernel_rfl
noncomputable def G21 (a0 : VStewBook) : Option (VStewBook):=G21n fuel a0
noncomputable def con21 : Con C:=mkC KK [.el .e36] [.el .e36] G21
theorem c21 : ConOk Try.prog KK 21 con21:=cO (mkQ trivial trivial trivial : Cons Try.prog X21) (fn:=Try.f21) (by kernel_rfl) (by kernel_rfl) (by kernel_rfl) (by kernel_rfl) (F21 fuel) (by kernel_rfl) (fun a0=>t21 fuel a0)
/-! ### f48 loop.example/wharfdesk/spec.l15ActOk -/
noncomputable def X48 : Cx C:=mkX [(43,con43)] [] [] [] 3145728 []
def F48 (n : Nat) : Cf:={ N:=n,keep:=[0,1,2,3,13,18,34,63],live:=lk [(0,[1,3])] }
noncomputable abbrev dec48:=deR KK [.bool]
abbrev A48_0 : Type:=Int
section
variable (x1 : ByteArray) (x2 : Int) (x3 : Int) (x4 : Int) (x5 : Int) (x6 : Bool) (x7 : List (C .e89)) (x8 : Bool)
def s48_0 : A48_0→St C:=fun x0=>{ env:=[(1,.one (.ptr 3145792 0)),(3,.one (.int .i64 x0))],objs:=[(3145792,.box .mem [.str x1,.int .i64 x2,.int .i64 x3,.int .i64 x4,.int .i64 x5,.bool x6,.row .e89 x7,.bool x8])],base:=0 }
end
noncomputable def r48_0 (x3 : Int) (x4 : Int) (x5 : Int) (x6 : Bool) (x7 : List (C .e89)) (x8 : Bool) (n : Nat)   (rec0 : A48_0→Option (Bool)) : A48_0→Option (Bool):=fun x0 =>
 cond (decide (x0<(x7.length : Int)))
 (cond (decide (0≤IntKind.i64.wrap (x0 - 1))) (Option.bind x7[(IntKind.i64.wrap (x0 - 1)).toNat]? fun e2=>cond (decide (0≤x0)) (Option.bind x7[x0.toNat]? fun e3=>cond (decide (e2.Number≥e3.Number))
 (some (false))
 (rec0 (IntKind.i64.wrap (x0+1)))) none) none)
 (cond x6
 (Option.bind (G43 x4 0 10) fun r4 =>
 cond (!r4)
 (some (false))
 (Option.bind (G43 x5 0 3) fun r5 =>
 cond (!r5)
 (some (false))
 (cond (!x6)
 (cond (x4 != 0)
 (some (false))
 (cond (x5 != 0)
 (some (false))
 (cond (!x8)
 (some (true))
 (cond (x3 == 0)
 (cond (!x6)
 (some ((x7.length : Int) == 0))
 (some (false)))
 (some (false))))))
 (cond (!x8)
 (some (true))
 (cond (x3 == 0)
 (cond (!x6)
 (some ((x7.length : Int) == 0))
 (some (false)))
 (some (false)))))))
 (cond (!x6)
 (cond (x4 != 0)
 (some (false))
 (cond (x5 != 0)
 (some (false))
 (cond (!x8)
 (some (true))
 (cond (x3 == 0)
 (cond (!x6)
 (some ((x7.length : Int) == 0))
 (some (false)))
 (some (false))))))
 (cond (!x8)
 (some (true))
 (cond (x3 == 0)
 (cond (!x6)
 (some ((x7.length : Int) == 0))
 (some (false)))
 (some (false))))))
section
variable (x1 : ByteArray) (x2 : Int) (x3 : Int) (x4 : Int) (x5 : Int) (x6 : Bool) (x7 : List (C .e89)) (x8 : Bool)
noncomputable def MP48_0 (n : Nat)  (x : A48_0) : Option (Bool):=iter (fun rec S=>run X48 (F48 n) (codeAt (bodyOf Try.f48) [1,1,0,1,0,0]) 0 S (lopK rec (blkK 0 (seqK (run X48 (F48 n) (codeAt (bodyOf Try.f48) [1,1,1]) 0) (kTop X48 Try.f48 dec48))))) [1,3] n (s48_0 x1 x2 x3 x4 x5 x6 x7 x8 x)
theorem m48_0 (n : Nat)  (x : A48_0) : MP48_0 x1 x2 x3 x4 x5 x6 x7 x8 n  x=lpN (r48_0 x3 x4 x5 x6 x7 x8 n  ) n x:=by
  refine iter_eq (s48_0 x1 x2 x3 x4 x5 x6 x7 x8) (r48_0 x3 x4 x5 x6 x7 x8 n  ) (fun rec0 x0 => ?_) n x
  kernel_rfl
end
noncomputable def G48n (n : Nat) (a0 : VStewAct) : Option (Bool) :=
 Option.bind (G43 a0.Create 0 20) fun r1 =>
 cond (!r1)
 (some (false))
 (cond (decide ((a0.Ends.length : Int)>200))
 (some (false))
 (lpN (r48_0 a0.Create a0.Want a0.Cool a0.Scale a0.Ends a0.Drop n ) n 1))
theorem t48 (n : Nat) (a0 : VStewAct) : runFn X48 (F48 n) Try.f48 [.agg [.str a0.Service,.int .i64 a0.Seen,.int .i64 a0.Create,.int .i64 a0.Want,.int .i64 a0.Cool,.bool a0.Scale,.row .e89 a0.Ends,.bool a0.Drop]] dec48=G48n n a0:=by
  refine Eq.trans (b :=
   Option.bind (G43 a0.Create 0 20) fun r1 =>
   cond (!r1)
   (some (false))
   (cond (decide ((a0.Ends.length : Int)>200))
   (some (false))
   (MP48_0 a0.Service a0.Seen a0.Create a0.Want a0.Cool a0.Scale a0.Ends a0.Drop n   1))) (by kernel_rfl) ?_
  simp only [G48n,m48_0]
noncomputable def G48 (a0 : VStewAct) : Option (Bool):=G48n fuel a0
noncomputable def con48 : Con C:=mkC KK [.el .e42] [.bool] G48
theorem c48 : ConOk Try.prog KK 48 con48:=cO (mkQ ⟨c43,trivial⟩ trivial trivial : Cons Try.prog X48) (fn:=Try.f48) (by kernel_rfl) (by kernel_rfl) (by kernel_rfl) (by kernel_rfl) (F48 fuel) (by kernel_rfl) (fun a0=>t48 fuel a0)
/-! ### f50 loop.example/wharfdesk/spec.l12Copy -/
noncomputable def X50 : Cx C:=mkX [] [] [] [] 3276800 []
def F50 (n : Nat) : Cf:={ N:=n,keep:=[0,1,2,3,6,7,12,32],live:=lk [(0,[1,2,3,7])] }
noncomputable abbrev dec50:=deR KK [.int .i64]
abbrev A50_0 : Type:=Int
section
variable (x0 : ByteArray) (x1 : Int) (x3 : Int) (x4 : List (C .e79)) (x5 : List (C .e83)) (x6 : List (C .e81))
def s50_0 : A50_0→St C:=fun x2=>{ env:=[(1,.one (.str x0)),(2,.one (.int .i64 x1)),(3,.one (.ptr 3276992 0)),(7,.one (.int .i64 x2))],objs:=[(3276992,.box .mem [.int .i64 x3,.row .e79 x4,.row .e83 x5,.row .e81 x6])],base:=0 }
end
noncomputable def r50_0 (x0 : ByteArray) (x1 : Int) (x5 : List (C .e83)) (n : Nat)   (rec0 : A50_0→Option (Int)) : A50_0→Option (Int):=fun x2 =>
 cond (decide (x2<(x5.length : Int)))
 (cond (decide (0≤x2)) (Option.bind x5[x2.toNat]? fun e1=>cond (decide (e1.Service=x0))
 (cond (decide (0≤x2)) (Option.bind x5[x2.toNat]? fun e2=>cond (e2.Number == x1)
 (some (x2))
 (rec0 (IntKind.i64.wrap (x2+1)))) none)
 (rec0 (IntKind.i64.wrap (x2+1)))) none)
 (some ((-1)))
section
variable (x0 : ByteArray) (x1 : Int) (x3 : Int) (x4 : List (C .e79)) (x5 : List (C .e83)) (x6 : List (C .e81))
noncomputable def MP50_0 (n : Nat)  (x : A50_0) : Option (Int):=iter (fun rec S=>run X50 (F50 n) (codeAt (bodyOf Try.f50) [1,0,1,0,0]) 0 S (lopK rec (blkK 0 (seqK (run X50 (F50 n) (codeAt (bodyOf Try.f50) [1,1]) 0) (kTop X50 Try.f50 dec50))))) [1,2,3,7] n (s50_0 x0 x1 x3 x4 x5 x6 x)
theorem m50_0 (n : Nat)  (x : A50_0) : MP50_0 x0 x1 x3 x4 x5 x6 n  x=lpN (r50_0 x0 x1 x5 n  ) n x:=by
  refine iter_eq (s50_0 x0 x1 x3 x4 x5 x6) (r50_0 x0 x1 x5 n  ) (fun rec0 x2 => ?_) n x
  kernel_rfl
end
noncomputable def G50n (n : Nat) (a0 : VStewBook) (a1 : ByteArray) (a2 : Int) : Option (Int) :=
 lpN (r50_0 a1 a2 a0.Copies n ) n 0
theorem t50 (n : Nat) (a0 : VStewBook) (a1 : ByteArray) (a2 : Int) : runFn X50 (F50 n) Try.f50 [.agg [.int .i64 a0.Now,.row .e79 a0.Services,.row .e83 a0.Copies,.row .e81 a0.Berths],.one (.str a1),.one (.int .i64 a2)] dec50=G50n n a0 a1 a2:=by
  refine Eq.trans (b :=
   MP50_0 a1 a2 a0.Now a0.Services a0.Copies a0.Berths n   0) (by kernel_rfl) ?_
  simp only [G50n,m50_0]
noncomputable def G50 (a0 : VStewBook) (a1 : ByteArray) (a2 : Int) : Option (Int):=G50n fuel a0 a1 a2
noncomputable def con50 : Con C:=mkC KK [.el .e36,.str,.int .i64] [.int .i64] G50
theorem c50 : ConOk Try.prog KK 50 con50:=cO (mkQ trivial trivial trivial : Cons Try.prog X50) (fn:=Try.f50) (by kernel_rfl) (by kernel_rfl) (by kernel_rfl) (by kernel_rfl) (F50 fuel) (by kernel_rfl) (fun a0 a1 a2=>t50 fuel a0 a1 a2)
/-! ### f52 loop.example/wharfdesk/spec.l13Count -/
noncomputable def X52 : Cx C:=mkX [(49,con49)] [] [] [] 3407872 []
def F52 (n : Nat) : Cf:={ N:=n,keep:=[0,1,2,4,5,6,7,8,21,32,34,45,52,65],live:=lk [(0,[1,2,4,5,6,7])] }
noncomputable abbrev dec52:=deR KK [.el .e92]
abbrev A52_0 : Type:=Int×Int×Int×Int×Int×Int
section
variable (x0 : ByteArray) (x1 : Int) (x3 : Int) (x4 : List (C .e79)) (x5 : List (C .e83)) (x6 : List (C .e81)) (x7 : Int) (x8 : Int) (x9 : Int) (x10 : Int) (x11 : Int)
def s52_0 : A52_0→St C:=fun (x2,x12,x13,x14,x15,x16)=>{ env:=[(1,.one (.str x0)),(2,.one (.ptr 3408000 0)),(4,.one (.ptr 3408128 0)),(5,.one (.ptr 3408192 0)),(6,.one (.int .i64 x1)),(7,.one (.int .i64 x2))],objs:=[(3408000,.box .mem [.int .i64 x3,.row .e79 x4,.row .e83 x5,.row .e81 x6]),(3408128,.box .mem [.int .i64 x7,.int .i64 x8,.int .i64 x9,.int .i64 x10,.int .i64 x11]),(3408192,.box .mem [.int .i64 x12,.int .i64 x13,.int .i64 x14,.int .i64 x15,.int .i64 x16])],base:=0 }
end
noncomputable def r52_0 (x0 : ByteArray) (x1 : Int) (x4 : List (C .e79)) (x5 : List (C .e83)) (n : Nat)   (rec0 : A52_0→Option (VStewCount)) : A52_0→Option (VStewCount):=fun (x2,x12,x13,x14,x15,x16) =>
 cond (decide (x2<(x5.length : Int)))
 (cond (decide (x1≥0))
 (cond (decide (0≤x2)) (Option.bind x5[x2.toNat]? fun e2=>cond (!decide (e2.Service=x0))
 (rec0 ((IntKind.i64.wrap (x2+1),x12,x13,x14,x15,x16)))
 (cond e2.Ending
 (rec0 ((IntKind.i64.wrap (x2+1),x12,x13,x14,x15,IntKind.i64.wrap (x16+1))))
 (cond (e2.State == 3)
 (cond (e2.State == 4)
 (cond (decide (0≤x1)) (Option.bind x4[x1.toNat]? fun e3=>cond (e2.Image != e3.Image)
 (rec0 ((IntKind.i64.wrap (x2+1),IntKind.i64.wrap (x12+1),IntKind.i64.wrap (x13+1),IntKind.i64.wrap (x14+1),IntKind.i64.wrap (x15+1),x16)))
 (rec0 ((IntKind.i64.wrap (x2+1),IntKind.i64.wrap (x12+1),IntKind.i64.wrap (x13+1),x14,IntKind.i64.wrap (x15+1),x16)))) none)
 (cond (decide (0≤x1)) (Option.bind x4[x1.toNat]? fun e4=>cond (e2.Image != e4.Image)
 (rec0 ((IntKind.i64.wrap (x2+1),IntKind.i64.wrap (x12+1),IntKind.i64.wrap (x13+1),IntKind.i64.wrap (x14+1),x15,x16)))
 (rec0 ((IntKind.i64.wrap (x2+1),IntKind.i64.wrap (x12+1),IntKind.i64.wrap (x13+1),x14,x15,x16)))) none))
 (cond (e2.State == 4)
 (cond (decide (0≤x1)) (Option.bind x4[x1.toNat]? fun e5=>cond (e2.Image != e5.Image)
 (rec0 ((IntKind.i64.wrap (x2+1),IntKind.i64.wrap (x12+1),x13,IntKind.i64.wrap (x14+1),IntKind.i64.wrap (x15+1),x16)))
 (rec0 ((IntKind.i64.wrap (x2+1),IntKind.i64.wrap (x12+1),x13,x14,IntKind.i64.wrap (x15+1),x16)))) none)
 (cond (decide (0≤x1)) (Option.bind x4[x1.toNat]? fun e6=>cond (e2.Image != e6.Image)
 (rec0 ((IntKind.i64.wrap (x2+1),IntKind.i64.wrap (x12+1),x13,IntKind.i64.wrap (x14+1),x15,x16)))
 (rec0 ((IntKind.i64.wrap (x2+1),IntKind.i64.wrap (x12+1),x13,x14,x15,x16)))) none))))) none)
 (some ((⟨x12,x13,x14,x15,x16⟩ : VStewCount))))
 (some ((⟨x12,x13,x14,x15,x16⟩ : VStewCount)))
section
variable (x0 : ByteArray) (x1 : Int) (x3 : Int) (x4 : List (C .e79)) (x5 : List (C .e83)) (x6 : List (C .e81)) (x7 : Int) (x8 : Int) (x9 : Int) (x10 : Int) (x11 : Int)
noncomputable def MP52_0 (n : Nat)  (x : A52_0) : Option (VStewCount):=iter (fun rec S=>run X52 (F52 n) (codeAt (bodyOf Try.f52) [1,1,1,0,1,0,0]) 0 S (lopK rec (blkK 0 (seqK (run X52 (F52 n) (codeAt (bodyOf Try.f52) [1,1,1,1]) 0) (kTop X52 Try.f52 dec52))))) [1,2,4,5,6,7] n (s52_0 x0 x1 x3 x4 x5 x6 x7 x8 x9 x10 x11 x)
theorem m52_0 (n : Nat)  (x : A52_0) : MP52_0 x0 x1 x3 x4 x5 x6 x7 x8 x9 x10 x11 n  x=lpN (r52_0 x0 x1 x4 x5 n  ) n x:=by
  refine iter_eq (s52_0 x0 x1 x3 x4 x5 x6 x7 x8 x9 x10 x11) (r52_0 x0 x1 x4 x5 n  ) (fun rec0 x => ?_) n x
  obtain ⟨x2,x12,x13,x14,x15,x16⟩:=x
  kernel_rfl
end
noncomputable def G52n (n : Nat) (a0 : VStewBook) (a1 : ByteArray) : Option (VStewCount) :=
 Option.bind (G49 a0 a1) fun r1 =>
 lpN (r52_0 a1 r1 a0.Services a0.Copies n ) n (0,0,0,0,0,0)
theorem t52 (n : Nat) (a0 : VStewBook) (a1 : ByteArray) : runFn X52 (F52 n) Try.f52 [.agg [.int .i64 a0.Now,.row .e79 a0.Services,.row .e83 a0.Copies,.row .e81 a0.Berths],.one (.str a1)] dec52=G52n n a0 a1:=by
  refine Eq.trans (b :=
   Option.bind (G49 a0 a1) fun r1 =>
   MP52_0 a1 r1 a0.Now a0.Services a0.Copies a0.Berths 0 0 0 0 0 n   (0,0,0,0,0,0)) (by kernel_rfl) ?_
  simp only [G52n,m52_0]
noncomputable def G52 (a0 : VStewBook) (a1 : ByteArray) : Option (VStewCount):=G52n fuel a0 a1
noncomputable def con52 : Con C:=mkC KK [.el .e36,.str] [.el .e92] G52
theorem c52 : ConOk Try.prog KK 52 con52:=cO (mkQ ⟨c49,trivial⟩ trivial trivial : Cons Try.prog X52) (fn:=Try.f52) (by kernel_rfl) (by kernel_rfl) (by kernel_rfl) (by kernel_rfl) (F52 fuel) (by kernel_rfl) (fun a0 a1=>t52 fuel a0 a1)
/-! ### f51 loop.example/wharfdesk/spec.l14MayEnd -/
noncomputable def X51 : Cx C:=mkX [(49,con49),(50,con50),(52,con52)] [] [] [] 3342336 []
def F51 (n : Nat) : Cf:={ N:=n,keep:=[0,1,2,3,6,7,8,22,40],live:=lk [] }
noncomputable abbrev dec51:=deR KK [.bool]
noncomputable def G51n (n : Nat) (a0 : VStewBook) (a1 : ByteArray) (a2 : Int) : Option (Bool) :=
 Option.bind (G50 a0 a1 a2) fun r1 =>
 cond (decide (r1<0))
 (some (false))
 (cond (decide (0≤r1)) (Option.bind a0.Copies[r1.toNat]? fun e2=>cond e2.Ending
 (some (false))
 (Option.bind (G49 a0 a1) fun r3 =>
 cond (decide (0≤r3)) (Option.bind a0.Services[r3.toNat]? fun e4=>cond (decide (0≤r1)) (Option.bind a0.Copies[r1.toNat]? fun e5=>cond (e5.State != 3)
 (some (true))
 (cond e4.Gone
 (some (true))
 (Option.bind (G52 a0 a1) fun r6 =>
 some (decide ((IntKind.i64.wrap (r6.Ready - 1))≥(IntKind.i64.wrap (e4.Want - e4.Down))))))) none) none)) none)
theorem t51 (n : Nat) (a0 : VStewBook) (a1 : ByteArray) (a2 : Int) : runFn X51 (F51 n) Try.f51 [.agg [.int .i64 a0.Now,.row .e79 a0.Services,.row .e83 a0.Copies,.row .e81 a0.Berths],.one (.str a1),.one (.int .i64 a2)] dec51=G51n n a0 a1 a2:=by
  kernel_rfl
noncomputable def G51 (a0 : VStewBook) (a1 : ByteArray) (a2 : Int) : Option (Bool):=G51n fuel a0 a1 a2
noncomputable def con51 : Con C:=mkC KK [.el .e36,.str,.int .i64] [.bool] G51
theorem c51 : ConOk Try.prog KK 51 con51:=cO (mkQ ⟨c49,c50,c52,trivial⟩ trivial trivial : Cons Try.prog X51) (fn:=Try.f51) (by kernel_rfl) (by kernel_rfl) (by kernel_rfl) (by kernel_rfl) (F51 fuel) (by kernel_rfl) (fun a0 a1 a2=>t51 fuel a0 a1 a2)
/-! ### f20 loop.example/wharfdesk/spec.l15Apply,run in place -/
noncomputable def X20 : Cx C:=mkX [(21,con21),(43,con43),(47,con47),(48,con48),(49,con49),(50,con50),(51,con51),(52,con52)] [] [] [] 1310720 [263,271,291,297]
def F20 (n : Nat) : Cf:={ N:=n,keep:=[0,1,2,3,4,5,6,7,8,9,10,11,12,13,14,15,16,17,20,27,33,46,56,62,86,97,110,156,159,188,206,227,232,256,286],live:=lk [(0,[2,3,4,6,7]),(2,[2,3,4,6,8]),(4,[2,3,4,6,9,10,11]),(6,[3,4,6,9,10,13,15]),(8,[3,4,6,9,10,13,15,16,17])] }
noncomputable def I20 (n : Nat) : Inl C:=inlOf X20 (F20 n) Try.f20
theorem i20 (n : Nat) : InlOk Try.prog KK 20 (I20 n):=iO (mkQ ⟨c21,c43,c47,c48,c49,c50,c51,c52,trivial⟩ trivial trivial : Cons Try.prog X20) (F20 n) (fn:=Try.f20) (by kernel_rfl) (by kernel_rfl) (by kernel_rfl) (by kernel_rfl)
/-! ### f6 loop.example/wharfdesk/spec.StewApply -/
noncomputable def X6 (n : Nat) : Cx C:=mkX [(19,con19),(21,con21)] [] [(20,I20 n)] [4,6,7,12,15,16,17] 393216 []
def F6 (n : Nat) : Cf:={ N:=n,keep:=[0,1,2,3,4,5,6,7,10],live:=lk [] }
noncomputable abbrev dec6:=deR KK [.el .e36,.int .i64]
abbrev A6_4 : Type:=Int
abbrev A6_3 : Type:=Int×List (C .e83)×Int
abbrev A6_2 : Type:=Int×List (C .e83)
abbrev A6_1 : Type:=Int
abbrev A6_0 : Type:=Int
section
variable (x0 : Int) (x1 : Int) (x2 : Int) (x4 : ByteArray) (x5 : Int) (x6 : Int) (x7 : Int) (x8 : Int) (x9 : Bool) (x10 : List (C .e89)) (x11 : Bool) (x12 : Int) (x13 : List (C .e79)) (x14 : List (C .e83)) (x15 : List (C .e81)) (x16 : Int) (x17 : List (C .e79)) (x18 : List (C .e83)) (x19 : List (C .e81)) (x20 : ByteArray) (x21 : Int) (x22 : Bool) (x23 : Int) (x24 : Int) (x25 : Int) (x26 : Int) (x27 : Int) (x28 : Int) (x29 : Int) (x30 : Int) (x31 : Int) (x32 : Int) (x33 : ByteArray) (x34 : Int) (x35 : Int) (x36 : Int) (x37 : Int) (x38 : Bool) (x39 : ByteArray) (x40 : Int) (x41 : List (C .e79)) (x42 : List (C .e83)) (x43 : List (C .e81))
def s6_4 : A6_4→St C:=fun x3=>{ env:=[(3,.one (.ptr 68719478046912 0)),(4,.one (.ptr 68719478046976 0)),(6,.one (.int .i64 x0)),(9,.one (.ptr 68719478047296 0)),(10,.one (.int .i64 x1)),(13,.one (.ptr 68719478047552 0)),(15,.one (.int .i64 x2)),(16,.one (.ptr 68719478047744 0)),(17,.one (.int .i64 x3)),(1004,.sus (false,[.ptr 393472 0]) 16004)],objs:=[(68719478046912,.box .mem [.str x4,.int .i64 x5,.int .i64 x6,.int .i64 x7,.int .i64 x8,.bool x9,.row .e89 x10,.bool x11]),(68719478046976,.box .mem [.int .i64 x12,.ref 6871947805697601 [],.ref 6871947805697602 [],.ref 6871947805697603 []]),(6871947805697601,.row .e79 x13 false),(6871947805697602,.row .e83 x14 false),(6871947805697603,.row .e81 x15 false),(68719478047296,.box .mem [.int .i64 x16,.ref 6871947805729601 [],.ref 6871947805729602 [],.ref 6871947805729603 []]),(6871947805729601,.row .e79 x17 false),(6871947805729602,.row .e83 x18 false),(6871947805729603,.row .e81 x19 false),(68719478047552,.box .mem [.str x20,.int .i64 x21,.bool x22,.int .i64 x23,.int .i64 x24,.int .i64 x25,.int .i64 x26,.int .i64 x27,.int .i64 x28,.int .i64 x29,.int .i64 x30,.int .i64 x31,.int .i64 x32]),(68719478047744,.box .mem [.str x33,.int .i64 x34,.int .i64 x35,.int .i64 x36,.int .i64 x37,.bool x38,.str x39]),(393472,.box .mem [.int .i64 x40,.ref 40347201 [],.ref 40347202 [],.ref 40347203 []]),(40347201,.row .e79 x41 false),(40347202,.row .e83 x42 false),(40347203,.row .e81 x43 false)],base:=16000 }
end
noncomputable def r6_4 (x2 : Int) (x18 : List (C .e83)) (x27 : Int) (x33 : ByteArray) (x34 : Int) (x35 : Int) (x36 : Int) (x37 : Int) (x38 : Bool) (x39 : ByteArray) (n : Nat)  (rec3 : A6_3→Option (VStewBook×Int)) (rec4 : A6_4→Option (VStewBook×Int)) : A6_4→Option (VStewBook×Int):=fun x3 =>
 cond (decide (x3<(x18.length : Int)))
 (cond (decide (0≤x3)) (cond (decide (x3<(x18.length : Int))) (Option.bind x18[x3.toNat]? fun e37=>Option.bind (G47 e37 (⟨x33,x34,x35,x36,x37,x38,x39⟩ : VStewCopy)) fun r38 =>
 cond r38
 (rec4 (IntKind.i64.wrap (x3+1)))
 (cond (decide ((0 : Int)≤0)) (cond (decide ((0 : Int)≤x3)) (cond (decide (x3≤(x18.length : Int))) (cond (decide (((([] : List (C .e83))).length+((x18.take x3.toNat).drop ((0 : Int).toNat)).length)*72≤140737488355328)) (cond (decide ((((([] : List (C .e83)))++((x18.take x3.toNat).drop ((0 : Int).toNat))).length+(([(⟨x33,x34,x35,x36,x37,x38,x39⟩ : VStewCopy)] : List (C .e83))).length)*72≤140737488355328)) (cond (decide ((0 : Int)≤x3)) (cond (decide ((x3 : Int)≤(x18.length : Int))) (cond (decide ((x18.length : Int)≤(x18.length : Int))) (cond (decide (((((([] : List (C .e83)))++((x18.take x3.toNat).drop ((0 : Int).toNat)))++(([(⟨x33,x34,x35,x36,x37,x38,x39⟩ : VStewCopy)] : List (C .e83)))).length+((x18.take ((x18.length : Int).toNat)).drop ((x3 : Int).toNat)).length)*72≤140737488355328)) (rec3 ((IntKind.i64.wrap (x2+1),(((([] : List (C .e83)))++((x18.take x3.toNat).drop ((0 : Int).toNat)))++(([(⟨x33,x34,x35,x36,x37,x38,x39⟩ : VStewCopy)] : List (C .e83))))++((x18.take ((x18.length : Int).toNat)).drop ((x3 : Int).toNat)),IntKind.i64.wrap (x27+1)))) none) none) none) none) none) none) none) none) none)) none) none)
 (cond (decide ((0 : Int)≤0)) (cond (decide ((0 : Int)≤x3)) (cond (decide (x3≤(x18.length : Int))) (cond (decide (((([] : List (C .e83))).length+((x18.take x3.toNat).drop ((0 : Int).toNat)).length)*72≤140737488355328)) (cond (decide ((((([] : List (C .e83)))++((x18.take x3.toNat).drop ((0 : Int).toNat))).length+(([(⟨x33,x34,x35,x36,x37,x38,x39⟩ : VStewCopy)] : List (C .e83))).length)*72≤140737488355328)) (cond (decide ((0 : Int)≤x3)) (cond (decide ((x3 : Int)≤(x18.length : Int))) (cond (decide ((x18.length : Int)≤(x18.length : Int))) (cond (decide (((((([] : List (C .e83)))++((x18.take x3.toNat).drop ((0 : Int).toNat)))++(([(⟨x33,x34,x35,x36,x37,x38,x39⟩ : VStewCopy)] : List (C .e83)))).length+((x18.take ((x18.length : Int).toNat)).drop ((x3 : Int).toNat)).length)*72≤140737488355328)) (rec3 ((IntKind.i64.wrap (x2+1),(((([] : List (C .e83)))++((x18.take x3.toNat).drop ((0 : Int).toNat)))++(([(⟨x33,x34,x35,x36,x37,x38,x39⟩ : VStewCopy)] : List (C .e83))))++((x18.take ((x18.length : Int).toNat)).drop ((x3 : Int).toNat)),IntKind.i64.wrap (x27+1)))) none) none) none) none) none) none) none) none) none)
section
variable (x0 : Int) (x1 : Int) (x3 : ByteArray) (x4 : Int) (x5 : Int) (x6 : Int) (x7 : Int) (x8 : Bool) (x9 : List (C .e89)) (x10 : Bool) (x11 : Int) (x12 : List (C .e79)) (x13 : List (C .e83)) (x14 : List (C .e81)) (x15 : Int) (x16 : List (C .e79)) (x18 : List (C .e81)) (x19 : ByteArray) (x20 : Int) (x21 : Bool) (x22 : Int) (x23 : Int) (x24 : Int) (x25 : Int) (x27 : Int) (x28 : Int) (x29 : Int) (x30 : Int) (x31 : Int) (x32 : Int) (x33 : List (C .e79)) (x34 : List (C .e83)) (x35 : List (C .e81))
def s6_3 : A6_3→St C:=fun (x2,x17,x26)=>{ env:=[(3,.one (.ptr 68719478046912 0)),(4,.one (.ptr 68719478046976 0)),(6,.one (.int .i64 x0)),(9,.one (.ptr 68719478047296 0)),(10,.one (.int .i64 x1)),(13,.one (.ptr 68719478047552 0)),(15,.one (.int .i64 x2)),(1004,.sus (false,[.ptr 393472 0]) 16004)],objs:=[(68719478046912,.box .mem [.str x3,.int .i64 x4,.int .i64 x5,.int .i64 x6,.int .i64 x7,.bool x8,.row .e89 x9,.bool x10]),(68719478046976,.box .mem [.int .i64 x11,.ref 6871947805697601 [],.ref 6871947805697602 [],.ref 6871947805697603 []]),(6871947805697601,.row .e79 x12 false),(6871947805697602,.row .e83 x13 false),(6871947805697603,.row .e81 x14 false),(68719478047296,.box .mem [.int .i64 x15,.ref 6871947805729601 [],.ref 6871947805729602 [],.ref 6871947805729603 []]),(6871947805729601,.row .e79 x16 false),(6871947805729602,.row .e83 x17 false),(6871947805729603,.row .e81 x18 false),(68719478047552,.box .mem [.str x19,.int .i64 x20,.bool x21,.int .i64 x22,.int .i64 x23,.int .i64 x24,.int .i64 x25,.int .i64 x26,.int .i64 x27,.int .i64 x28,.int .i64 x29,.int .i64 x30,.int .i64 x31]),(393472,.box .mem [.int .i64 x32,.ref 40347201 [],.ref 40347202 [],.ref 40347203 []]),(40347201,.row .e79 x33 false),(40347202,.row .e83 x34 false),(40347203,.row .e81 x35 false)],base:=16000 }
end
noncomputable def r6_3 (x0 : Int) (x1 : Int) (x3 : ByteArray) (x5 : Int) (x10 : Bool) (x16 : List (C .e79)) (x18 : List (C .e81)) (x19 : ByteArray) (x21 : Bool) (x22 : Int) (x23 : Int) (x24 : Int) (x25 : Int) (x27 : Int) (x28 : Int) (x29 : Int) (x30 : Int) (x31 : Int) (n : Nat)   (rec3 : A6_3→Option (VStewBook×Int)) : A6_3→Option (VStewBook×Int):=fun (x2,x17,x26) =>
 cond (decide (x2<x5))
 (lpN (r6_4 x2 x17 x26 x3 x26 x1 x22 1 false (⟨#[]⟩ : ByteArray) n rec3) n 0)
 (cond (decide (0≤x0)) (cond (decide (x0<(x16.length : Int))) (Option.bind x16[x0.toNat]? fun e39=>cond x10
 (cond (decide ((0 : Int)≤0)) (cond (decide ((0 : Int)≤x0)) (cond (decide (x0≤((x16.set x0.toNat (⟨x19,x1,x21,x22,x23,x24,x25,x26,x27,x28,x29,x30,x31⟩ : VStewService)).length : Int))) (cond (decide (((([] : List (C .e79))).length+(((x16.set x0.toNat (⟨x19,x1,x21,x22,x23,x24,x25,x26,x27,x28,x29,x30,x31⟩ : VStewService)).take x0.toNat).drop ((0 : Int).toNat)).length)*112≤140737488355328)) (cond (decide ((0 : Int)≤IntKind.i64.wrap (x0+1))) (cond (decide ((IntKind.i64.wrap (x0+1) : Int)≤((x16.set x0.toNat (⟨x19,x1,x21,x22,x23,x24,x25,x26,x27,x28,x29,x30,x31⟩ : VStewService)).length : Int))) (cond (decide (((x16.set x0.toNat (⟨x19,x1,x21,x22,x23,x24,x25,x26,x27,x28,x29,x30,x31⟩ : VStewService)).length : Int)≤((x16.set x0.toNat (⟨x19,x1,x21,x22,x23,x24,x25,x26,x27,x28,x29,x30,x31⟩ : VStewService)).length : Int))) (cond (decide ((((([] : List (C .e79)))++(((x16.set x0.toNat (⟨x19,x1,x21,x22,x23,x24,x25,x26,x27,x28,x29,x30,x31⟩ : VStewService)).take x0.toNat).drop ((0 : Int).toNat))).length+(((x16.set x0.toNat (⟨x19,x1,x21,x22,x23,x24,x25,x26,x27,x28,x29,x30,x31⟩ : VStewService)).take ((((x16.set x0.toNat (⟨x19,x1,x21,x22,x23,x24,x25,x26,x27,x28,x29,x30,x31⟩ : VStewService)).length : Int)).toNat)).drop ((IntKind.i64.wrap (x0+1) : Int).toNat)).length)*112≤140737488355328)) (Option.bind (G21 ((⟨x1,((([] : List (C .e79)))++(((x16.set x0.toNat (⟨x19,x1,x21,x22,x23,x24,x25,x26,x27,x28,x29,x30,x31⟩ : VStewService)).take x0.toNat).drop ((0 : Int).toNat)))++(((x16.set x0.toNat (⟨x19,x1,x21,x22,x23,x24,x25,x26,x27,x28,x29,x30,x31⟩ : VStewService)).take ((((x16.set x0.toNat (⟨x19,x1,x21,x22,x23,x24,x25,x26,x27,x28,x29,x30,x31⟩ : VStewService)).length : Int)).toNat)).drop ((IntKind.i64.wrap (x0+1) : Int).toNat)),x17,x18⟩ : VStewBook))) fun r40 =>
 some (r40,0)) none) none) none) none) none) none) none) none)
 (Option.bind (G21 ((⟨x1,x16.set x0.toNat (⟨x19,x1,x21,x22,x23,x24,x25,x26,x27,x28,x29,x30,x31⟩ : VStewService),x17,x18⟩ : VStewBook))) fun r41 =>
 some (r41,0))) none) none)
section
variable (x0 : Int) (x1 : Int) (x3 : Int) (x4 : List (C .e79)) (x5 : List (C .e83)) (x6 : List (C .e81)) (x7 : ByteArray) (x8 : Int) (x9 : Int) (x10 : Int) (x11 : Int) (x12 : Bool) (x13 : List (C .e89)) (x14 : Bool) (x15 : Int) (x16 : List (C .e79)) (x17 : List (C .e83)) (x18 : List (C .e81)) (x19 : Int) (x20 : List (C .e79)) (x22 : List (C .e81)) (x23 : Int) (x24 : List (C .e79)) (x25 : List (C .e83)) (x26 : List (C .e81))
def s6_2 : A6_2→St C:=fun (x2,x21)=>{ env:=[(2,.one (.ptr 68719478046848 0)),(3,.one (.ptr 68719478046912 0)),(4,.one (.ptr 68719478046976 0)),(6,.one (.int .i64 x0)),(9,.one (.ptr 68719478047296 0)),(10,.one (.int .i64 x1)),(11,.one (.int .i64 x2)),(1004,.sus (false,[.ptr 393472 0]) 16004)],objs:=[(68719478046848,.box .mem [.int .i64 x3,.row .e79 x4,.row .e83 x5,.row .e81 x6]),(68719478046912,.box .mem [.str x7,.int .i64 x8,.int .i64 x9,.int .i64 x10,.int .i64 x11,.bool x12,.row .e89 x13,.bool x14]),(68719478046976,.box .mem [.int .i64 x15,.ref 6871947805697601 [],.ref 6871947805697602 [],.ref 6871947805697603 []]),(6871947805697601,.row .e79 x16 false),(6871947805697602,.row .e83 x17 false),(6871947805697603,.row .e81 x18 false),(68719478047296,.box .mem [.int .i64 x19,.ref 6871947805729601 [],.ref 6871947805729602 [],.ref 6871947805729603 []]),(6871947805729601,.row .e79 x20 false),(6871947805729602,.row .e83 x21 false),(6871947805729603,.row .e81 x22 false),(393472,.box .mem [.int .i64 x23,.ref 40347201 [],.ref 40347202 [],.ref 40347203 []]),(40347201,.row .e79 x24 false),(40347202,.row .e83 x25 false),(40347203,.row .e81 x26 false)],base:=16000 }
end
noncomputable def r6_2 (x0 : Int) (x1 : Int) (x3 : Int) (x4 : List (C .e79)) (x5 : List (C .e83)) (x6 : List (C .e81)) (x7 : ByteArray) (x9 : Int) (x10 : Int) (x11 : Int) (x12 : Bool) (x13 : List (C .e89)) (x14 : Bool) (x19 : Int) (x20 : List (C .e79)) (x22 : List (C .e81)) (n : Nat)   (rec2 : A6_2→Option (VStewBook×Int)) : A6_2→Option (VStewBook×Int):=fun (x2,x21) =>
 cond (decide (x2<(x13.length : Int)))
 (cond (decide (0≤x2)) (Option.bind x13[x2.toNat]? fun e17=>Option.bind (G51 (⟨x19,x20,x21,x22⟩ : VStewBook) x7 e17.Number) fun r18 =>
 cond (!r18)
 (Option.bind (G21 (⟨x3,x4,x5,x6⟩ : VStewBook)) fun r19 =>
 some (r19,5))
 (cond (decide (0≤x2)) (Option.bind x13[x2.toNat]? fun e20=>Option.bind (G50 (⟨x19,x20,x21,x22⟩ : VStewBook) x7 e20.Number) fun r21 =>
 cond (decide (0≤r21)) (cond (decide (r21<(x21.length : Int))) (Option.bind x21[r21.toNat]? fun e22=>cond (decide (0≤r21)) (cond (decide (r21<((x21.set r21.toNat (⟨e22.Service,e22.Number,e22.Version,e22.Image,e22.State,true,e22.Berth⟩ : VStewCopy)).length : Int))) (Option.bind (x21.set r21.toNat (⟨e22.Service,e22.Number,e22.Version,e22.Image,e22.State,true,e22.Berth⟩ : VStewCopy))[r21.toNat]? fun e23=>rec2 ((IntKind.i64.wrap (x2+1),(x21.set r21.toNat (⟨e22.Service,e22.Number,e22.Version,e22.Image,e22.State,true,e22.Berth⟩ : VStewCopy)).set r21.toNat (⟨e23.Service,e23.Number,x1,e23.Image,e23.State,e23.Ending,e23.Berth⟩ : VStewCopy)))) none) none) none) none) none)) none)
 (cond (decide (0≤x0)) (cond (decide (x0<(x20.length : Int))) (Option.bind x20[x0.toNat]? fun e24=>Option.bind (G52 (⟨x3,x4,x5,x6⟩ : VStewBook) x7) fun r25 =>
 cond x14
 (cond (!e24.Gone)
 (Option.bind (G21 (⟨x3,x4,x5,x6⟩ : VStewBook)) fun r26 =>
 some (r26,6))
 (cond (decide ((IntKind.i64.wrap (r25.Live+r25.Ending))>0))
 (Option.bind (G21 (⟨x3,x4,x5,x6⟩ : VStewBook)) fun r27 =>
 some (r27,6))
 (cond x12
 (cond (decide (x9>0))
 (cond e24.Gone
 (Option.bind (G21 (⟨x3,x4,x5,x6⟩ : VStewBook)) fun r28 =>
 some (r28,6))
 (Option.bind (G52 (⟨x19,x20,x21,x22⟩ : VStewBook) x7) fun r29 =>
 cond (decide ((IntKind.i64.wrap (r29.Live+x9))>(IntKind.i64.wrap (x10+e24.Over))))
 (Option.bind (G21 (⟨x3,x4,x5,x6⟩ : VStewBook)) fun r30 =>
 some (r30,6))
 (cond x12
 (cond (e24.Per == 0)
 (Option.bind (G21 (⟨x3,x4,x5,x6⟩ : VStewBook)) fun r31 =>
 some (r31,6))
 (Option.bind (G43 x10 e24.Least e24.Most) fun r32 =>
 cond (!r32)
 (Option.bind (G21 (⟨x3,x4,x5,x6⟩ : VStewBook)) fun r33 =>
 some (r33,6))
 (cond (decide ((IntKind.i64.wrap ((x5.length : Int)+x9))>200))
 (Option.bind (G21 (⟨x3,x4,x5,x6⟩ : VStewBook)) fun r34 =>
 some (r34,7))
 (cond (decide ((IntKind.i64.wrap (e24.Next+x9))>1000000))
 (Option.bind (G21 (⟨x3,x4,x5,x6⟩ : VStewBook)) fun r35 =>
 some (r35,7))
 (cond (decide (x3≥1000000))
 (Option.bind (G21 (⟨x3,x4,x5,x6⟩ : VStewBook)) fun r36 =>
 some (r36,7))
 (lpN (r6_3 x0 x1 x7 x9 x14 x20 x22 e24.Name e24.Gone e24.Image x10 e24.Down e24.Over e24.Per e24.Least e24.Most e24.Load x11 n ) n (0,x21,e24.Next)))))))
 (cond (decide ((IntKind.i64.wrap ((x5.length : Int)+x9))>200))
 (Option.bind (G21 (⟨x3,x4,x5,x6⟩ : VStewBook)) fun r42 =>
 some (r42,7))
 (cond (decide ((IntKind.i64.wrap (e24.Next+x9))>1000000))
 (Option.bind (G21 (⟨x3,x4,x5,x6⟩ : VStewBook)) fun r43 =>
 some (r43,7))
 (cond (decide (x3≥1000000))
 (Option.bind (G21 (⟨x3,x4,x5,x6⟩ : VStewBook)) fun r44 =>
 some (r44,7))
 (lpN (r6_3 x0 x1 x7 x9 x14 x20 x22 e24.Name e24.Gone e24.Image x10 e24.Down e24.Over e24.Per e24.Least e24.Most e24.Load x11 n ) n (0,x21,e24.Next))))))))
 (cond x12
 (cond (e24.Per == 0)
 (Option.bind (G21 (⟨x3,x4,x5,x6⟩ : VStewBook)) fun r45 =>
 some (r45,6))
 (Option.bind (G43 x10 e24.Least e24.Most) fun r46 =>
 cond (!r46)
 (Option.bind (G21 (⟨x3,x4,x5,x6⟩ : VStewBook)) fun r47 =>
 some (r47,6))
 (cond (decide ((IntKind.i64.wrap ((x5.length : Int)+x9))>200))
 (Option.bind (G21 (⟨x3,x4,x5,x6⟩ : VStewBook)) fun r48 =>
 some (r48,7))
 (cond (decide ((IntKind.i64.wrap (e24.Next+x9))>1000000))
 (Option.bind (G21 (⟨x3,x4,x5,x6⟩ : VStewBook)) fun r49 =>
 some (r49,7))
 (cond (decide (x3≥1000000))
 (Option.bind (G21 (⟨x3,x4,x5,x6⟩ : VStewBook)) fun r50 =>
 some (r50,7))
 (lpN (r6_3 x0 x1 x7 x9 x14 x20 x22 e24.Name e24.Gone e24.Image x10 e24.Down e24.Over e24.Per e24.Least e24.Most e24.Load x11 n ) n (0,x21,e24.Next)))))))
 (cond (decide ((IntKind.i64.wrap ((x5.length : Int)+x9))>200))
 (Option.bind (G21 (⟨x3,x4,x5,x6⟩ : VStewBook)) fun r51 =>
 some (r51,7))
 (cond (decide ((IntKind.i64.wrap (e24.Next+x9))>1000000))
 (Option.bind (G21 (⟨x3,x4,x5,x6⟩ : VStewBook)) fun r52 =>
 some (r52,7))
 (cond (decide (x3≥1000000))
 (Option.bind (G21 (⟨x3,x4,x5,x6⟩ : VStewBook)) fun r53 =>
 some (r53,7))
 (lpN (r6_3 x0 x1 x7 x9 x14 x20 x22 e24.Name e24.Gone e24.Image x10 e24.Down e24.Over e24.Per e24.Least e24.Most e24.Load x11 n ) n (0,x21,e24.Next)))))))
 (cond (decide (x9>0))
 (cond e24.Gone
 (Option.bind (G21 (⟨x3,x4,x5,x6⟩ : VStewBook)) fun r54 =>
 some (r54,6))
 (Option.bind (G52 (⟨x19,x20,x21,x22⟩ : VStewBook) x7) fun r55 =>
 cond (decide ((IntKind.i64.wrap (r55.Live+x9))>(IntKind.i64.wrap (e24.Want+e24.Over))))
 (Option.bind (G21 (⟨x3,x4,x5,x6⟩ : VStewBook)) fun r56 =>
 some (r56,6))
 (cond x12
 (cond (e24.Per == 0)
 (Option.bind (G21 (⟨x3,x4,x5,x6⟩ : VStewBook)) fun r57 =>
 some (r57,6))
 (Option.bind (G43 x10 e24.Least e24.Most) fun r58 =>
 cond (!r58)
 (Option.bind (G21 (⟨x3,x4,x5,x6⟩ : VStewBook)) fun r59 =>
 some (r59,6))
 (cond (decide ((IntKind.i64.wrap ((x5.length : Int)+x9))>200))
 (Option.bind (G21 (⟨x3,x4,x5,x6⟩ : VStewBook)) fun r60 =>
 some (r60,7))
 (cond (decide ((IntKind.i64.wrap (e24.Next+x9))>1000000))
 (Option.bind (G21 (⟨x3,x4,x5,x6⟩ : VStewBook)) fun r61 =>
 some (r61,7))
 (cond (decide (x3≥1000000))
 (Option.bind (G21 (⟨x3,x4,x5,x6⟩ : VStewBook)) fun r62 =>
 some (r62,7))
 (lpN (r6_3 x0 x1 x7 x9 x14 x20 x22 e24.Name e24.Gone e24.Image e24.Want e24.Down e24.Over e24.Per e24.Least e24.Most e24.Load e24.Cool n ) n (0,x21,e24.Next)))))))
 (cond (decide ((IntKind.i64.wrap ((x5.length : Int)+x9))>200))
 (Option.bind (G21 (⟨x3,x4,x5,x6⟩ : VStewBook)) fun r63 =>
 some (r63,7))
 (cond (decide ((IntKind.i64.wrap (e24.Next+x9))>1000000))
 (Option.bind (G21 (⟨x3,x4,x5,x6⟩ : VStewBook)) fun r64 =>
 some (r64,7))
 (cond (decide (x3≥1000000))
 (Option.bind (G21 (⟨x3,x4,x5,x6⟩ : VStewBook)) fun r65 =>
 some (r65,7))
 (lpN (r6_3 x0 x1 x7 x9 x14 x20 x22 e24.Name e24.Gone e24.Image e24.Want e24.Down e24.Over e24.Per e24.Least e24.Most e24.Load e24.Cool n ) n (0,x21,e24.Next))))))))
 (cond x12
 (cond (e24.Per == 0)
 (Option.bind (G21 (⟨x3,x4,x5,x6⟩ : VStewBook)) fun r66 =>
 some (r66,6))
 (Option.bind (G43 x10 e24.Least e24.Most) fun r67 =>
 cond (!r67)
 (Option.bind (G21 (⟨x3,x4,x5,x6⟩ : VStewBook)) fun r68 =>
 some (r68,6))
 (cond (decide ((IntKind.i64.wrap ((x5.length : Int)+x9))>200))
 (Option.bind (G21 (⟨x3,x4,x5,x6⟩ : VStewBook)) fun r69 =>
 some (r69,7))
 (cond (decide ((IntKind.i64.wrap (e24.Next+x9))>1000000))
 (Option.bind (G21 (⟨x3,x4,x5,x6⟩ : VStewBook)) fun r70 =>
 some (r70,7))
 (cond (decide (x3≥1000000))
 (Option.bind (G21 (⟨x3,x4,x5,x6⟩ : VStewBook)) fun r71 =>
 some (r71,7))
 (lpN (r6_3 x0 x1 x7 x9 x14 x20 x22 e24.Name e24.Gone e24.Image e24.Want e24.Down e24.Over e24.Per e24.Least e24.Most e24.Load e24.Cool n ) n (0,x21,e24.Next)))))))
 (cond (decide ((IntKind.i64.wrap ((x5.length : Int)+x9))>200))
 (Option.bind (G21 (⟨x3,x4,x5,x6⟩ : VStewBook)) fun r72 =>
 some (r72,7))
 (cond (decide ((IntKind.i64.wrap (e24.Next+x9))>1000000))
 (Option.bind (G21 (⟨x3,x4,x5,x6⟩ : VStewBook)) fun r73 =>
 some (r73,7))
 (cond (decide (x3≥1000000))
 (Option.bind (G21 (⟨x3,x4,x5,x6⟩ : VStewBook)) fun r74 =>
 some (r74,7))
 (lpN (r6_3 x0 x1 x7 x9 x14 x20 x22 e24.Name e24.Gone e24.Image e24.Want e24.Down e24.Over e24.Per e24.Least e24.Most e24.Load e24.Cool n ) n (0,x21,e24.Next))))))))))
 (cond x12
 (cond (decide (x9>0))
 (cond e24.Gone
 (Option.bind (G21 (⟨x3,x4,x5,x6⟩ : VStewBook)) fun r75 =>
 some (r75,6))
 (Option.bind (G52 (⟨x19,x20,x21,x22⟩ : VStewBook) x7) fun r76 =>
 cond (decide ((IntKind.i64.wrap (r76.Live+x9))>(IntKind.i64.wrap (x10+e24.Over))))
 (Option.bind (G21 (⟨x3,x4,x5,x6⟩ : VStewBook)) fun r77 =>
 some (r77,6))
 (cond x12
 (cond (e24.Per == 0)
 (Option.bind (G21 (⟨x3,x4,x5,x6⟩ : VStewBook)) fun r78 =>
 some (r78,6))
 (Option.bind (G43 x10 e24.Least e24.Most) fun r79 =>
 cond (!r79)
 (Option.bind (G21 (⟨x3,x4,x5,x6⟩ : VStewBook)) fun r80 =>
 some (r80,6))
 (cond (decide ((IntKind.i64.wrap ((x5.length : Int)+x9))>200))
 (Option.bind (G21 (⟨x3,x4,x5,x6⟩ : VStewBook)) fun r81 =>
 some (r81,7))
 (cond (decide ((IntKind.i64.wrap (e24.Next+x9))>1000000))
 (Option.bind (G21 (⟨x3,x4,x5,x6⟩ : VStewBook)) fun r82 =>
 some (r82,7))
 (cond (decide (x3≥1000000))
 (Option.bind (G21 (⟨x3,x4,x5,x6⟩ : VStewBook)) fun r83 =>
 some (r83,7))
 (lpN (r6_3 x0 x1 x7 x9 x14 x20 x22 e24.Name e24.Gone e24.Image x10 e24.Down e24.Over e24.Per e24.Least e24.Most e24.Load x11 n ) n (0,x21,e24.Next)))))))
 (cond (decide ((IntKind.i64.wrap ((x5.length : Int)+x9))>200))
 (Option.bind (G21 (⟨x3,x4,x5,x6⟩ : VStewBook)) fun r84 =>
 some (r84,7))
 (cond (decide ((IntKind.i64.wrap (e24.Next+x9))>1000000))
 (Option.bind (G21 (⟨x3,x4,x5,x6⟩ : VStewBook)) fun r85 =>
 some (r85,7))
 (cond (decide (x3≥1000000))
 (Option.bind (G21 (⟨x3,x4,x5,x6⟩ : VStewBook)) fun r86 =>
 some (r86,7))
 (lpN (r6_3 x0 x1 x7 x9 x14 x20 x22 e24.Name e24.Gone e24.Image x10 e24.Down e24.Over e24.Per e24.Least e24.Most e24.Load x11 n ) n (0,x21,e24.Next))))))))
 (cond x12
 (cond (e24.Per == 0)
 (Option.bind (G21 (⟨x3,x4,x5,x6⟩ : VStewBook)) fun r87 =>
 some (r87,6))
 (Option.bind (G43 x10 e24.Least e24.Most) fun r88 =>
 cond (!r88)
 (Option.bind (G21 (⟨x3,x4,x5,x6⟩ : VStewBook)) fun r89 =>
 some (r89,6))
 (cond (decide ((IntKind.i64.wrap ((x5.length : Int)+x9))>200))
 (Option.bind (G21 (⟨x3,x4,x5,x6⟩ : VStewBook)) fun r90 =>
 some (r90,7))
 (cond (decide ((IntKind.i64.wrap (e24.Next+x9))>1000000))
 (Option.bind (G21 (⟨x3,x4,x5,x6⟩ : VStewBook)) fun r91 =>
 some (r91,7))
 (cond (decide (x3≥1000000))
 (Option.bind (G21 (⟨x3,x4,x5,x6⟩ : VStewBook)) fun r92 =>
 some (r92,7))
 (lpN (r6_3 x0 x1 x7 x9 x14 x20 x22 e24.Name e24.Gone e24.Image x10 e24.Down e24.Over e24.Per e24.Least e24.Most e24.Load x11 n ) n (0,x21,e24.Next)))))))
 (cond (decide ((IntKind.i64.wrap ((x5.length : Int)+x9))>200))
 (Option.bind (G21 (⟨x3,x4,x5,x6⟩ : VStewBook)) fun r93 =>
 some (r93,7))
 (cond (decide ((IntKind.i64.wrap (e24.Next+x9))>1000000))
 (Option.bind (G21 (⟨x3,x4,x5,x6⟩ : VStewBook)) fun r94 =>
 some (r94,7))
 (cond (decide (x3≥1000000))
 (Option.bind (G21 (⟨x3,x4,x5,x6⟩ : VStewBook)) fun r95 =>
 some (r95,7))
 (lpN (r6_3 x0 x1 x7 x9 x14 x20 x22 e24.Name e24.Gone e24.Image x10 e24.Down e24.Over e24.Per e24.Least e24.Most e24.Load x11 n ) n (0,x21,e24.Next)))))))
 (cond (decide (x9>0))
 (cond e24.Gone
 (Option.bind (G21 (⟨x3,x4,x5,x6⟩ : VStewBook)) fun r96 =>
 some (r96,6))
 (Option.bind (G52 (⟨x19,x20,x21,x22⟩ : VStewBook) x7) fun r97 =>
 cond (decide ((IntKind.i64.wrap (r97.Live+x9))>(IntKind.i64.wrap (e24.Want+e24.Over))))
 (Option.bind (G21 (⟨x3,x4,x5,x6⟩ : VStewBook)) fun r98 =>
 some (r98,6))
 (cond x12
 (cond (e24.Per == 0)
 (Option.bind (G21 (⟨x3,x4,x5,x6⟩ : VStewBook)) fun r99 =>
 some (r99,6))
 (Option.bind (G43 x10 e24.Least e24.Most) fun r100 =>
 cond (!r100)
 (Option.bind (G21 (⟨x3,x4,x5,x6⟩ : VStewBook)) fun r101 =>
 some (r101,6))
 (cond (decide ((IntKind.i64.wrap ((x5.length : Int)+x9))>200))
 (Option.bind (G21 (⟨x3,x4,x5,x6⟩ : VStewBook)) fun r102 =>
 some (r102,7))
 (cond (decide ((IntKind.i64.wrap (e24.Next+x9))>1000000))
 (Option.bind (G21 (⟨x3,x4,x5,x6⟩ : VStewBook)) fun r103 =>
 some (r103,7))
 (cond (decide (x3≥1000000))
 (Option.bind (G21 (⟨x3,x4,x5,x6⟩ : VStewBook)) fun r104 =>
 some (r104,7))
 (lpN (r6_3 x0 x1 x7 x9 x14 x20 x22 e24.Name e24.Gone e24.Image e24.Want e24.Down e24.Over e24.Per e24.Least e24.Most e24.Load e24.Cool n ) n (0,x21,e24.Next)))))))
 (cond (decide ((IntKind.i64.wrap ((x5.length : Int)+x9))>200))
 (Option.bind (G21 (⟨x3,x4,x5,x6⟩ : VStewBook)) fun r105 =>
 some (r105,7))
 (cond (decide ((IntKind.i64.wrap (e24.Next+x9))>1000000))
 (Option.bind (G21 (⟨x3,x4,x5,x6⟩ : VStewBook)) fun r106 =>
 some (r106,7))
 (cond (decide (x3≥1000000))
 (Option.bind (G21 (⟨x3,x4,x5,x6⟩ : VStewBook)) fun r107 =>
 some (r107,7))
 (lpN (r6_3 x0 x1 x7 x9 x14 x20 x22 e24.Name e24.Gone e24.Image e24.Want e24.Down e24.Over e24.Per e24.Least e24.Most e24.Load e24.Cool n ) n (0,x21,e24.Next))))))))
 (cond x12
 (cond (e24.Per == 0)
 (Option.bind (G21 (⟨x3,x4,x5,x6⟩ : VStewBook)) fun r108 =>
 some (r108,6))
 (Option.bind (G43 x10 e24.Least e24.Most) fun r109 =>
 cond (!r109)
 (Option.bind (G21 (⟨x3,x4,x5,x6⟩ : VStewBook)) fun r110 =>
 some (r110,6))
 (cond (decide ((IntKind.i64.wrap ((x5.length : Int)+x9))>200))
 (Option.bind (G21 (⟨x3,x4,x5,x6⟩ : VStewBook)) fun r111 =>
 some (r111,7))
 (cond (decide ((IntKind.i64.wrap (e24.Next+x9))>1000000))
 (Option.bind (G21 (⟨x3,x4,x5,x6⟩ : VStewBook)) fun r112 =>
 some (r112,7))
 (cond (decide (x3≥1000000))
 (Option.bind (G21 (⟨x3,x4,x5,x6⟩ : VStewBook)) fun r113 =>
 some (r113,7))
 (lpN (r6_3 x0 x1 x7 x9 x14 x20 x22 e24.Name e24.Gone e24.Image e24.Want e24.Down e24.Over e24.Per e24.Least e24.Most e24.Load e24.Cool n ) n (0,x21,e24.Next)))))))
 (cond (decide ((IntKind.i64.wrap ((x5.length : Int)+x9))>200))
 (Option.bind (G21 (⟨x3,x4,x5,x6⟩ : VStewBook)) fun r114 =>
 some (r114,7))
 (cond (decide ((IntKind.i64.wrap (e24.Next+x9))>1000000))
 (Option.bind (G21 (⟨x3,x4,x5,x6⟩ : VStewBook)) fun r115 =>
 some (r115,7))
 (cond (decide (x3≥1000000))
 (Option.bind (G21 (⟨x3,x4,x5,x6⟩ : VStewBook)) fun r116 =>
 some (r116,7))
 (lpN (r6_3 x0 x1 x7 x9 x14 x20 x22 e24.Name e24.Gone e24.Image e24.Want e24.Down e24.Over e24.Per e24.Least e24.Most e24.Load e24.Cool n ) n (0,x21,e24.Next))))))))) none) none)
section
variable (x0 : Int) (x2 : Int) (x3 : List (C .e79)) (x4 : List (C .e83)) (x5 : List (C .e81)) (x6 : ByteArray) (x7 : Int) (x8 : Int) (x9 : Int) (x10 : Int) (x11 : Bool) (x12 : List (C .e89)) (x13 : Bool) (x14 : Int) (x15 : List (C .e79)) (x16 : List (C .e83)) (x17 : List (C .e81)) (x18 : Int) (x19 : List (C .e79)) (x20 : List (C .e83)) (x21 : List (C .e81))
def s6_1 : A6_1→St C:=fun x1=>{ env:=[(2,.one (.ptr 68719478046848 0)),(3,.one (.ptr 68719478046912 0)),(4,.one (.ptr 68719478046976 0)),(6,.one (.int .i64 x0)),(8,.one (.int .i64 x1)),(1004,.sus (false,[.ptr 393472 0]) 16004)],objs:=[(68719478046848,.box .mem [.int .i64 x2,.row .e79 x3,.row .e83 x4,.row .e81 x5]),(68719478046912,.box .mem [.str x6,.int .i64 x7,.int .i64 x8,.int .i64 x9,.int .i64 x10,.bool x11,.row .e89 x12,.bool x13]),(68719478046976,.box .mem [.int .i64 x14,.ref 6871947805697601 [],.ref 6871947805697602 [],.ref 6871947805697603 []]),(6871947805697601,.row .e79 x15 false),(6871947805697602,.row .e83 x16 false),(6871947805697603,.row .e81 x17 false),(393472,.box .mem [.int .i64 x18,.ref 40347201 [],.ref 40347202 [],.ref 40347203 []]),(40347201,.row .e79 x19 false),(40347202,.row .e83 x20 false),(40347203,.row .e81 x21 false)],base:=16000 }
end
noncomputable def r6_1 (x0 : Int) (x2 : Int) (x3 : List (C .e79)) (x4 : List (C .e83)) (x5 : List (C .e81)) (x6 : ByteArray) (x8 : Int) (x9 : Int) (x10 : Int) (x11 : Bool) (x12 : List (C .e89)) (x13 : Bool) (n : Nat)   (rec1 : A6_1→Option (VStewBook×Int)) : A6_1→Option (VStewBook×Int):=fun x1 =>
 cond (decide (x1<(x12.length : Int)))
 (cond (decide (0≤x1)) (Option.bind x12[x1.toNat]? fun e11=>Option.bind (G50 (⟨x2,x3,x4,x5⟩ : VStewBook) x6 e11.Number) fun r12 =>
 cond (decide (0≤r12)) (Option.bind x4[r12.toNat]? fun e13=>cond (decide (0≤x1)) (Option.bind x12[x1.toNat]? fun e14=>cond (e13.Version != e14.Seen)
 (Option.bind (G21 (⟨x2,x3,x4,x5⟩ : VStewBook)) fun r15 =>
 some (r15,4))
 (rec1 (IntKind.i64.wrap (x1+1)))) none) none) none)
 (Option.bind (G21 (⟨x2,x3,x4,x5⟩ : VStewBook)) fun r16 =>
 lpN (r6_2 x0 (IntKind.i64.wrap (x2+1)) x2 x3 x4 x5 x6 x8 x9 x10 x11 x12 x13 r16.Now r16.Services r16.Berths n ) n (0,r16.Copies))
section
variable (x0 : Int) (x2 : Int) (x3 : List (C .e79)) (x4 : List (C .e83)) (x5 : List (C .e81)) (x6 : ByteArray) (x7 : Int) (x8 : Int) (x9 : Int) (x10 : Int) (x11 : Bool) (x12 : List (C .e89)) (x13 : Bool) (x14 : Int) (x15 : List (C .e79)) (x16 : List (C .e83)) (x17 : List (C .e81)) (x18 : Int) (x19 : List (C .e79)) (x20 : List (C .e83)) (x21 : List (C .e81))
def s6_0 : A6_0→St C:=fun x1=>{ env:=[(2,.one (.ptr 68719478046848 0)),(3,.one (.ptr 68719478046912 0)),(4,.one (.ptr 68719478046976 0)),(6,.one (.int .i64 x0)),(7,.one (.int .i64 x1)),(1004,.sus (false,[.ptr 393472 0]) 16004)],objs:=[(68719478046848,.box .mem [.int .i64 x2,.row .e79 x3,.row .e83 x4,.row .e81 x5]),(68719478046912,.box .mem [.str x6,.int .i64 x7,.int .i64 x8,.int .i64 x9,.int .i64 x10,.bool x11,.row .e89 x12,.bool x13]),(68719478046976,.box .mem [.int .i64 x14,.ref 6871947805697601 [],.ref 6871947805697602 [],.ref 6871947805697603 []]),(6871947805697601,.row .e79 x15 false),(6871947805697602,.row .e83 x16 false),(6871947805697603,.row .e81 x17 false),(393472,.box .mem [.int .i64 x18,.ref 40347201 [],.ref 40347202 [],.ref 40347203 []]),(40347201,.row .e79 x19 false),(40347202,.row .e83 x20 false),(40347203,.row .e81 x21 false)],base:=16000 }
end
noncomputable def r6_0 (x0 : Int) (x2 : Int) (x3 : List (C .e79)) (x4 : List (C .e83)) (x5 : List (C .e81)) (x6 : ByteArray) (x7 : Int) (x8 : Int) (x9 : Int) (x10 : Int) (x11 : Bool) (x12 : List (C .e89)) (x13 : Bool) (n : Nat)   (rec0 : A6_0→Option (VStewBook×Int)) : A6_0→Option (VStewBook×Int):=fun x1 =>
 cond (decide (x1<(x12.length : Int)))
 (cond (decide (0≤x1)) (Option.bind x12[x1.toNat]? fun e6=>Option.bind (G50 (⟨x2,x3,x4,x5⟩ : VStewBook) x6 e6.Number) fun r7 =>
 cond (decide (r7<0))
 (Option.bind (G21 (⟨x2,x3,x4,x5⟩ : VStewBook)) fun r8 =>
 some (r8,3))
 (rec0 (IntKind.i64.wrap (x1+1)))) none)
 (cond (decide (0≤x0)) (Option.bind x3[x0.toNat]? fun e9=>cond (e9.Version != x7)
 (Option.bind (G21 (⟨x2,x3,x4,x5⟩ : VStewBook)) fun r10 =>
 some (r10,4))
 (lpN (r6_1 x0 x2 x3 x4 x5 x6 x8 x9 x10 x11 x12 x13 n ) n 0)) none)
section
variable (x0 : Int) (x1 : Int) (x2 : Int) (x4 : ByteArray) (x5 : Int) (x6 : Int) (x7 : Int) (x8 : Int) (x9 : Bool) (x10 : List (C .e89)) (x11 : Bool) (x12 : Int) (x13 : List (C .e79)) (x14 : List (C .e83)) (x15 : List (C .e81)) (x16 : Int) (x17 : List (C .e79)) (x18 : List (C .e83)) (x19 : List (C .e81)) (x20 : ByteArray) (x21 : Int) (x22 : Bool) (x23 : Int) (x24 : Int) (x25 : Int) (x26 : Int) (x27 : Int) (x28 : Int) (x29 : Int) (x30 : Int) (x31 : Int) (x32 : Int) (x33 : ByteArray) (x34 : Int) (x35 : Int) (x36 : Int) (x37 : Int) (x38 : Bool) (x39 : ByteArray) (x40 : Int) (x41 : List (C .e79)) (x42 : List (C .e83)) (x43 : List (C .e81))
noncomputable def MP6_4 (n : Nat) (rec3 : St C→Option (VStewBook×Int)) (x : A6_4) : Option (VStewBook×Int):=iter (fun rec S=>run X20 (F20 n) (codeAt (bodyOf Try.f20) [1,1,1,1,1,1,1,1,1,1,1,1,1,1,1,1,1,0,1,0,0,1,0,0,1,1,0,0,0]) 8 S (lopK rec (blkK 8 (seqK (run X20 (F20 n) (codeAt (bodyOf Try.f20) [1,1,1,1,1,1,1,1,1,1,1,1,1,1,1,1,1,0,1,0,0,1,0,0,1,1,1]) 7) (blkK 7 (seqK (run X20 (F20 n) (codeAt (bodyOf Try.f20) [1,1,1,1,1,1,1,1,1,1,1,1,1,1,1,1,1,0,1,0,0,1,1]) 6) (lopK (canThen [3,4,6,9,10,13,15] rec3) (blkK 6 (seqK (run X20 (F20 n) (codeAt (bodyOf Try.f20) [1,1,1,1,1,1,1,1,1,1,1,1,1,1,1,1,1,1]) 0) (inlK X20 Try.f20 (callK 15000 0 (some 15) (restK (X6 n) (codeAt (bodyOf Try.f6) [1,1,0]) 3 (regK (F6 n) (seqK (run (X6 n) (F6 n) (codeAt (bodyOf Try.f6) [1,1,1]) 0) (kTop (X6 n) Try.f6 dec6))))))))))))))) [3,4,6,9,10,13,15,16,17] n (s6_4 x0 x1 x2 x4 x5 x6 x7 x8 x9 x10 x11 x12 x13 x14 x15 x16 x17 x18 x19 x20 x21 x22 x23 x24 x25 x26 x27 x28 x29 x30 x31 x32 x33 x34 x35 x36 x37 x38 x39 x40 x41 x42 x43 x)
theorem m6_4 (n : Nat) (rec3 : St C→Option (VStewBook×Int)) (x : A6_4) : MP6_4 x0 x1 x2 x4 x5 x6 x7 x8 x9 x10 x11 x12 x13 x14 x15 x16 x17 x18 x19 x20 x21 x22 x23 x24 x25 x26 x27 x28 x29 x30 x31 x32 x33 x34 x35 x36 x37 x38 x39 x40 x41 x42 x43 n rec3 x=lpN (r6_4 x2 x18 x27 x33 x34 x35 x36 x37 x38 x39 n  (fun x=>rec3 (s6_3 x0 x1 x4 x5 x6 x7 x8 x9 x10 x11 x12 x13 x14 x15 x16 x17 x19 x20 x21 x22 x23 x24 x25 x26 x28 x29 x30 x31 x32 x40 x41 x42 x43 x))) n x:=by
  refine iter_eq (s6_4 x0 x1 x2 x4 x5 x6 x7 x8 x9 x10 x11 x12 x13 x14 x15 x16 x17 x18 x19 x20 x21 x22 x23 x24 x25 x26 x27 x28 x29 x30 x31 x32 x33 x34 x35 x36 x37 x38 x39 x40 x41 x42 x43) (r6_4 x2 x18 x27 x33 x34 x35 x36 x37 x38 x39 n  (fun x=>rec3 (s6_3 x0 x1 x4 x5 x6 x7 x8 x9 x10 x11 x12 x13 x14 x15 x16 x17 x19 x20 x21 x22 x23 x24 x25 x26 x28 x29 x30 x31 x32 x40 x41 x42 x43 x))) (fun rec4 x3 => ?_) n x
  kernel_rfl
end
section
variable (x0 : Int) (x1 : Int) (x3 : ByteArray) (x4 : Int) (x5 : Int) (x6 : Int) (x7 : Int) (x8 : Bool) (x9 : List (C .e89)) (x10 : Bool) (x11 : Int) (x12 : List (C .e79)) (x13 : List (C .e83)) (x14 : List (C .e81)) (x15 : Int) (x16 : List (C .e79)) (x18 : List (C .e81)) (x19 : ByteArray) (x20 : Int) (x21 : Bool) (x22 : Int) (x23 : Int) (x24 : Int) (x25 : Int) (x27 : Int) (x28 : Int) (x29 : Int) (x30 : Int) (x31 : Int) (x32 : Int) (x33 : List (C .e79)) (x34 : List (C .e83)) (x35 : List (C .e81))
noncomputable def MP6_3 (n : Nat)  (x : A6_3) : Option (VStewBook×Int):=iter (fun rec S=>run X20 (F20 n) (codeAt (bodyOf Try.f20) [1,1,1,1,1,1,1,1,1,1,1,1,1,1,1,1,1,0,1,0,0]) 6 S (lopK rec (blkK 6 (seqK (run X20 (F20 n) (codeAt (bodyOf Try.f20) [1,1,1,1,1,1,1,1,1,1,1,1,1,1,1,1,1,1]) 0) (inlK X20 Try.f20 (callK 15000 0 (some 15) (restK (X6 n) (codeAt (bodyOf Try.f6) [1,1,0]) 3 (regK (F6 n) (seqK (run (X6 n) (F6 n) (codeAt (bodyOf Try.f6) [1,1,1]) 0) (kTop (X6 n) Try.f6 dec6)))))))))) [3,4,6,9,10,13,15] n (s6_3 x0 x1 x3 x4 x5 x6 x7 x8 x9 x10 x11 x12 x13 x14 x15 x16 x18 x19 x20 x21 x22 x23 x24 x25 x27 x28 x29 x30 x31 x32 x33 x34 x35 x)
theorem m6_3 (n : Nat)  (x : A6_3) : MP6_3 x0 x1 x3 x4 x5 x6 x7 x8 x9 x10 x11 x12 x13 x14 x15 x16 x18 x19 x20 x21 x22 x23 x24 x25 x27 x28 x29 x30 x31 x32 x33 x34 x35 n  x=lpN (r6_3 x0 x1 x3 x5 x10 x16 x18 x19 x21 x22 x23 x24 x25 x27 x28 x29 x30 x31 n  ) n x:=by
  refine iter_eq (s6_3 x0 x1 x3 x4 x5 x6 x7 x8 x9 x10 x11 x12 x13 x14 x15 x16 x18 x19 x20 x21 x22 x23 x24 x25 x27 x28 x29 x30 x31 x32 x33 x34 x35) (r6_3 x0 x1 x3 x5 x10 x16 x18 x19 x21 x22 x23 x24 x25 x27 x28 x29 x30 x31 n  ) (fun rec3 x => ?_) n x
  obtain ⟨x2,x17,x26⟩:=x
  have h : run X20 (F20 n) (codeAt (bodyOf Try.f20) [1,1,1,1,1,1,1,1,1,1,1,1,1,1,1,1,1,0,1,0,0]) 6 (s6_3 x0 x1 x3 x4 x5 x6 x7 x8 x9 x10 x11 x12 x13 x14 x15 x16 x18 x19 x20 x21 x22 x23 x24 x25 x27 x28 x29 x30 x31 x32 x33 x34 x35 (x2,x17,x26)) (lopK (canThen [3,4,6,9,10,13,15] rec3) (blkK 6 (seqK (run X20 (F20 n) (codeAt (bodyOf Try.f20) [1,1,1,1,1,1,1,1,1,1,1,1,1,1,1,1,1,1]) 0) (inlK X20 Try.f20 (callK 15000 0 (some 15) (restK (X6 n) (codeAt (bodyOf Try.f6) [1,1,0]) 3 (regK (F6 n) (seqK (run (X6 n) (F6 n) (codeAt (bodyOf Try.f6) [1,1,1]) 0) (kTop (X6 n) Try.f6 dec6))))))))) =
   cond (decide (x2<x5))
   (MP6_4 x0 x1 x2 x3 x4 x5 x6 x7 x8 x9 x10 x11 x12 x13 x14 x15 x16 x17 x18 x19 x20 x21 x22 x23 x24 x25 x26 x27 x28 x29 x30 x31 x3 x26 x1 x22 1 false (⟨#[]⟩ : ByteArray) x32 x33 x34 x35 n  rec3 0)
   (cond (decide (0≤x0)) (cond (decide (x0<(x16.length : Int))) (Option.bind x16[x0.toNat]? fun e39=>cond x10
   (cond (decide ((0 : Int)≤0)) (cond (decide ((0 : Int)≤x0)) (cond (decide (x0≤((x16.set x0.toNat (⟨x19,x1,x21,x22,x23,x24,x25,x26,x27,x28,x29,x30,x31⟩ : VStewService)).length : Int))) (cond (decide (((([] : List (C .e79))).length+(((x16.set x0.toNat (⟨x19,x1,x21,x22,x23,x24,x25,x26,x27,x28,x29,x30,x31⟩ : VStewService)).take x0.toNat).drop ((0 : Int).toNat)).length)*112≤140737488355328)) (cond (decide ((0 : Int)≤IntKind.i64.wrap (x0+1))) (cond (decide ((IntKind.i64.wrap (x0+1) : Int)≤((x16.set x0.toNat (⟨x19,x1,x21,x22,x23,x24,x25,x26,x27,x28,x29,x30,x31⟩ : VStewService)).length : Int))) (cond (decide (((x16.set x0.toNat (⟨x19,x1,x21,x22,x23,x24,x25,x26,x27,x28,x29,x30,x31⟩ : VStewService)).length : Int)≤((x16.set x0.toNat (⟨x19,x1,x21,x22,x23,x24,x25,x26,x27,x28,x29,x30,x31⟩ : VStewService)).length : Int))) (cond (decide ((((([] : List (C .e79)))++(((x16.set x0.toNat (⟨x19,x1,x21,x22,x23,x24,x25,x26,x27,x28,x29,x30,x31⟩ : VStewService)).take x0.toNat).drop ((0 : Int).toNat))).length+(((x16.set x0.toNat (⟨x19,x1,x21,x22,x23,x24,x25,x26,x27,x28,x29,x30,x31⟩ : VStewService)).take ((((x16.set x0.toNat (⟨x19,x1,x21,x22,x23,x24,x25,x26,x27,x28,x29,x30,x31⟩ : VStewService)).length : Int)).toNat)).drop ((IntKind.i64.wrap (x0+1) : Int).toNat)).length)*112≤140737488355328)) (Option.bind (G21 ((⟨x1,((([] : List (C .e79)))++(((x16.set x0.toNat (⟨x19,x1,x21,x22,x23,x24,x25,x26,x27,x28,x29,x30,x31⟩ : VStewService)).take x0.toNat).drop ((0 : Int).toNat)))++(((x16.set x0.toNat (⟨x19,x1,x21,x22,x23,x24,x25,x26,x27,x28,x29,x30,x31⟩ : VStewService)).take ((((x16.set x0.toNat (⟨x19,x1,x21,x22,x23,x24,x25,x26,x27,x28,x29,x30,x31⟩ : VStewService)).length : Int)).toNat)).drop ((IntKind.i64.wrap (x0+1) : Int).toNat)),x17,x18⟩ : VStewBook))) fun r40 =>
   some (r40,0)) none) none) none) none) none) none) none) none)
   (Option.bind (G21 ((⟨x1,x16.set x0.toNat (⟨x19,x1,x21,x22,x23,x24,x25,x26,x27,x28,x29,x30,x31⟩ : VStewService),x17,x18⟩ : VStewBook))) fun r41 =>
   some (r41,0))) none) none):=by kernel_rfl
  simp only [m6_4] at h
  exact h
end
section
variable (x0 : Int) (x1 : Int) (x3 : Int) (x4 : List (C .e79)) (x5 : List (C .e83)) (x6 : List (C .e81)) (x7 : ByteArray) (x8 : Int) (x9 : Int) (x10 : Int) (x11 : Int) (x12 : Bool) (x13 : List (C .e89)) (x14 : Bool) (x15 : Int) (x16 : List (C .e79)) (x17 : List (C .e83)) (x18 : List (C .e81)) (x19 : Int) (x20 : List (C .e79)) (x22 : List (C .e81)) (x23 : Int) (x24 : List (C .e79)) (x25 : List (C .e83)) (x26 : List (C .e81))
noncomputable def MP6_2 (n : Nat)  (x : A6_2) : Option (VStewBook×Int):=iter (fun rec S=>run X20 (F20 n) (codeAt (bodyOf Try.f20) [1,1,1,1,1,1,1,1,1,0,1,0,0]) 4 S (lopK rec (blkK 4 (seqK (run X20 (F20 n) (codeAt (bodyOf Try.f20) [1,1,1,1,1,1,1,1,1,1]) 0) (inlK X20 Try.f20 (callK 15000 0 (some 15) (restK (X6 n) (codeAt (bodyOf Try.f6) [1,1,0]) 3 (regK (F6 n) (seqK (run (X6 n) (F6 n) (codeAt (bodyOf Try.f6) [1,1,1]) 0) (kTop (X6 n) Try.f6 dec6)))))))))) [2,3,4,6,9,10,11] n (s6_2 x0 x1 x3 x4 x5 x6 x7 x8 x9 x10 x11 x12 x13 x14 x15 x16 x17 x18 x19 x20 x22 x23 x24 x25 x26 x)
theorem m6_2 (n : Nat)  (x : A6_2) : MP6_2 x0 x1 x3 x4 x5 x6 x7 x8 x9 x10 x11 x12 x13 x14 x15 x16 x17 x18 x19 x20 x22 x23 x24 x25 x26 n  x=lpN (r6_2 x0 x1 x3 x4 x5 x6 x7 x9 x10 x11 x12 x13 x14 x19 x20 x22 n  ) n x:=by
  refine iter_eq (s6_2 x0 x1 x3 x4 x5 x6 x7 x8 x9 x10 x11 x12 x13 x14 x15 x16 x17 x18 x19 x20 x22 x23 x24 x25 x26) (r6_2 x0 x1 x3 x4 x5 x6 x7 x9 x10 x11 x12 x13 x14 x19 x20 x22 n  ) (fun rec2 x => ?_) n x
  obtain ⟨x2,x21⟩:=x
  have h : run X20 (F20 n) (codeAt (bodyOf Try.f20) [1,1,1,1,1,1,1,1,1,0,1,0,0]) 4 (s6_2 x0 x1 x3 x4 x5 x6 x7 x8 x9 x10 x11 x12 x13 x14 x15 x16 x17 x18 x19 x20 x22 x23 x24 x25 x26 (x2,x21)) (lopK (canThen [2,3,4,6,9,10,11] rec2) (blkK 4 (seqK (run X20 (F20 n) (codeAt (bodyOf Try.f20) [1,1,1,1,1,1,1,1,1,1]) 0) (inlK X20 Try.f20 (callK 15000 0 (some 15) (restK (X6 n) (codeAt (bodyOf Try.f6) [1,1,0]) 3 (regK (F6 n) (seqK (run (X6 n) (F6 n) (codeAt (bodyOf Try.f6) [1,1,1]) 0) (kTop (X6 n) Try.f6 dec6))))))))) =
   cond (decide (x2<(x13.length : Int)))
   (cond (decide (0≤x2)) (Option.bind x13[x2.toNat]? fun e17=>Option.bind (G51 (⟨x19,x20,x21,x22⟩ : VStewBook) x7 e17.Number) fun r18 =>
   cond (!r18)
   (Option.bind (G21 (⟨x3,x4,x5,x6⟩ : VStewBook)) fun r19 =>
   some (r19,5))
   (cond (decide (0≤x2)) (Option.bind x13[x2.toNat]? fun e20=>Option.bind (G50 (⟨x19,x20,x21,x22⟩ : VStewBook) x7 e20.Number) fun r21 =>
   cond (decide (0≤r21)) (cond (decide (r21<(x21.length : Int))) (Option.bind x21[r21.toNat]? fun e22=>cond (decide (0≤r21)) (cond (decide (r21<((x21.set r21.toNat (⟨e22.Service,e22.Number,e22.Version,e22.Image,e22.State,true,e22.Berth⟩ : VStewCopy)).length : Int))) (Option.bind (x21.set r21.toNat (⟨e22.Service,e22.Number,e22.Version,e22.Image,e22.State,true,e22.Berth⟩ : VStewCopy))[r21.toNat]? fun e23=>(fun x=>rec2 (s6_2 x0 x1 x3 x4 x5 x6 x7 x8 x9 x10 x11 x12 x13 x14 x15 x16 x17 x18 x19 x20 x22 x23 x24 x25 x26 x)) ((IntKind.i64.wrap (x2+1),(x21.set r21.toNat (⟨e22.Service,e22.Number,e22.Version,e22.Image,e22.State,true,e22.Berth⟩ : VStewCopy)).set r21.toNat (⟨e23.Service,e23.Number,x1,e23.Image,e23.State,e23.Ending,e23.Berth⟩ : VStewCopy)))) none) none) none) none) none)) none)
   (cond (decide (0≤x0)) (cond (decide (x0<(x20.length : Int))) (Option.bind x20[x0.toNat]? fun e24=>Option.bind (G52 (⟨x3,x4,x5,x6⟩ : VStewBook) x7) fun r25 =>
   cond x14
   (cond (!e24.Gone)
   (Option.bind (G21 (⟨x3,x4,x5,x6⟩ : VStewBook)) fun r26 =>
   some (r26,6))
   (cond (decide ((IntKind.i64.wrap (r25.Live+r25.Ending))>0))
   (Option.bind (G21 (⟨x3,x4,x5,x6⟩ : VStewBook)) fun r27 =>
   some (r27,6))
   (cond x12
   (cond (decide (x9>0))
   (cond e24.Gone
   (Option.bind (G21 (⟨x3,x4,x5,x6⟩ : VStewBook)) fun r28 =>
   some (r28,6))
   (Option.bind (G52 (⟨x19,x20,x21,x22⟩ : VStewBook) x7) fun r29 =>
   cond (decide ((IntKind.i64.wrap (r29.Live+x9))>(IntKind.i64.wrap (x10+e24.Over))))
   (Option.bind (G21 (⟨x3,x4,x5,x6⟩ : VStewBook)) fun r30 =>
   some (r30,6))
   (cond x12
   (cond (e24.Per == 0)
   (Option.bind (G21 (⟨x3,x4,x5,x6⟩ : VStewBook)) fun r31 =>
   some (r31,6))
   (Option.bind (G43 x10 e24.Least e24.Most) fun r32 =>
   cond (!r32)
   (Option.bind (G21 (⟨x3,x4,x5,x6⟩ : VStewBook)) fun r33 =>
   some (r33,6))
   (cond (decide ((IntKind.i64.wrap ((x5.length : Int)+x9))>200))
   (Option.bind (G21 (⟨x3,x4,x5,x6⟩ : VStewBook)) fun r34 =>
   some (r34,7))
   (cond (decide ((IntKind.i64.wrap (e24.Next+x9))>1000000))
   (Option.bind (G21 (⟨x3,x4,x5,x6⟩ : VStewBook)) fun r35 =>
   some (r35,7))
   (cond (decide (x3≥1000000))
   (Option.bind (G21 (⟨x3,x4,x5,x6⟩ : VStewBook)) fun r36 =>
   some (r36,7))
   (MP6_3 x0 x1 x7 x8 x9 x10 x11 x12 x13 x14 x15 x16 x17 x18 x19 x20 x22 e24.Name e24.Version e24.Gone e24.Image x10 e24.Down e24.Over e24.Per e24.Least e24.Most e24.Load x11 x23 x24 x25 x26 n   (0,x21,e24.Next)))))))
   (cond (decide ((IntKind.i64.wrap ((x5.length : Int)+x9))>200))
   (Option.bind (G21 (⟨x3,x4,x5,x6⟩ : VStewBook)) fun r42 =>
   some (r42,7))
   (cond (decide ((IntKind.i64.wrap (e24.Next+x9))>1000000))
   (Option.bind (G21 (⟨x3,x4,x5,x6⟩ : VStewBook)) fun r43 =>
   some (r43,7))
   (cond (decide (x3≥1000000))
   (Option.bind (G21 (⟨x3,x4,x5,x6⟩ : VStewBook)) fun r44 =>
   some (r44,7))
   (MP6_3 x0 x1 x7 x8 x9 x10 x11 x12 x13 x14 x15 x16 x17 x18 x19 x20 x22 e24.Name e24.Version e24.Gone e24.Image x10 e24.Down e24.Over e24.Per e24.Least e24.Most e24.Load x11 x23 x24 x25 x26 n   (0,x21,e24.Next))))))))
   (cond x12
   (cond (e24.Per == 0)
   (Option.bind (G21 (⟨x3,x4,x5,x6⟩ : VStewBook)) fun r45 =>
   some (r45,6))
   (Option.bind (G43 x10 e24.Least e24.Most) fun r46 =>
   cond (!r46)
   (Option.bind (G21 (⟨x3,x4,x5,x6⟩ : VStewBook)) fun r47 =>
   some (r47,6))
   (cond (decide ((IntKind.i64.wrap ((x5.length : Int)+x9))>200))
   (Option.bind (G21 (⟨x3,x4,x5,x6⟩ : VStewBook)) fun r48 =>
   some (r48,7))
   (cond (decide ((IntKind.i64.wrap (e24.Next+x9))>1000000))
   (Option.bind (G21 (⟨x3,x4,x5,x6⟩ : VStewBook)) fun r49 =>
   some (r49,7))
   (cond (decide (x3≥1000000))
   (Option.bind (G21 (⟨x3,x4,x5,x6⟩ : VStewBook)) fun r50 =>
   some (r50,7))
   (MP6_3 x0 x1 x7 x8 x9 x10 x11 x12 x13 x14 x15 x16 x17 x18 x19 x20 x22 e24.Name e24.Version e24.Gone e24.Image x10 e24.Down e24.Over e24.Per e24.Least e24.Most e24.Load x11 x23 x24 x25 x26 n   (0,x21,e24.Next)))))))
   (cond (decide ((IntKind.i64.wrap ((x5.length : Int)+x9))>200))
   (Option.bind (G21 (⟨x3,x4,x5,x6⟩ : VStewBook)) fun r51 =>
   some (r51,7))
   (cond (decide ((IntKind.i64.wrap (e24.Next+x9))>1000000))
   (Option.bind (G21 (⟨x3,x4,x5,x6⟩ : VStewBook)) fun r52 =>
   some (r52,7))
   (cond (decide (x3≥1000000))
   (Option.bind (G21 (⟨x3,x4,x5,x6⟩ : VStewBook)) fun r53 =>
   some (r53,7))
   (MP6_3 x0 x1 x7 x8 x9 x10 x11 x12 x13 x14 x15 x16 x17 x18 x19 x20 x22 e24.Name e24.Version e24.Gone e24.Image x10 e24.Down e24.Over e24.Per e24.Least e24.Most e24.Load x11 x23 x24 x25 x26 n   (0,x21,e24.Next)))))))
   (cond (decide (x9>0))
   (cond e24.Gone
   (Option.bind (G21 (⟨x3,x4,x5,x6⟩ : VStewBook)) fun r54 =>
   some (r54,6))
   (Option.bind (G52 (⟨x19,x20,x21,x22⟩ : VStewBook) x7) fun r55 =>
   cond (decide ((IntKind.i64.wrap (r55.Live+x9))>(IntKind.i64.wrap (e24.Want+e24.Over))))
   (Option.bind (G21 (⟨x3,x4,x5,x6⟩ : VStewBook)) fun r56 =>
   some (r56,6))
   (cond x12
   (cond (e24.Per == 0)
   (Option.bind (G21 (⟨x3,x4,x5,x6⟩ : VStewBook)) fun r57 =>
   some (r57,6))
   (Option.bind (G43 x10 e24.Least e24.Most) fun r58 =>
   cond (!r58)
   (Option.bind (G21 (⟨x3,x4,x5,x6⟩ : VStewBook)) fun r59 =>
   some (r59,6))
   (cond (decide ((IntKind.i64.wrap ((x5.length : Int)+x9))>200))
   (Option.bind (G21 (⟨x3,x4,x5,x6⟩ : VStewBook)) fun r60 =>
   some (r60,7))
   (cond (decide ((IntKind.i64.wrap (e24.Next+x9))>1000000))
   (Option.bind (G21 (⟨x3,x4,x5,x6⟩ : VStewBook)) fun r61 =>
   some (r61,7))
   (cond (decide (x3≥1000000))
   (Option.bind (G21 (⟨x3,x4,x5,x6⟩ : VStewBook)) fun r62 =>
   some (r62,7))
   (MP6_3 x0 x1 x7 x8 x9 x10 x11 x12 x13 x14 x15 x16 x17 x18 x19 x20 x22 e24.Name e24.Version e24.Gone e24.Image e24.Want e24.Down e24.Over e24.Per e24.Least e24.Most e24.Load e24.Cool x23 x24 x25 x26 n   (0,x21,e24.Next)))))))
   (cond (decide ((IntKind.i64.wrap ((x5.length : Int)+x9))>200))
   (Option.bind (G21 (⟨x3,x4,x5,x6⟩ : VStewBook)) fun r63 =>
   some (r63,7))
   (cond (decide ((IntKind.i64.wrap (e24.Next+x9))>1000000))
   (Option.bind (G21 (⟨x3,x4,x5,x6⟩ : VStewBook)) fun r64 =>
   some (r64,7))
   (cond (decide (x3≥1000000))
   (Option.bind (G21 (⟨x3,x4,x5,x6⟩ : VStewBook)) fun r65 =>
   some (r65,7))
   (MP6_3 x0 x1 x7 x8 x9 x10 x11 x12 x13 x14 x15 x16 x17 x18 x19 x20 x22 e24.Name e24.Version e24.Gone e24.Image e24.Want e24.Down e24.Over e24.Per e24.Least e24.Most e24.Load e24.Cool x23 x24 x25 x26 n   (0,x21,e24.Next))))))))
   (cond x12
   (cond (e24.Per == 0)
   (Option.bind (G21 (⟨x3,x4,x5,x6⟩ : VStewBook)) fun r66 =>
   some (r66,6))
   (Option.bind (G43 x10 e24.Least e24.Most) fun r67 =>
   cond (!r67)
   (Option.bind (G21 (⟨x3,x4,x5,x6⟩ : VStewBook)) fun r68 =>
   some (r68,6))
   (cond (decide ((IntKind.i64.wrap ((x5.length : Int)+x9))>200))
   (Option.bind (G21 (⟨x3,x4,x5,x6⟩ : VStewBook)) fun r69 =>
   some (r69,7))
   (cond (decide ((IntKind.i64.wrap (e24.Next+x9))>1000000))
   (Option.bind (G21 (⟨x3,x4,x5,x6⟩ : VStewBook)) fun r70 =>
   some (r70,7))
   (cond (decide (x3≥1000000))
   (Option.bind (G21 (⟨x3,x4,x5,x6⟩ : VStewBook)) fun r71 =>
   some (r71,7))
   (MP6_3 x0 x1 x7 x8 x9 x10 x11 x12 x13 x14 x15 x16 x17 x18 x19 x20 x22 e24.Name e24.Version e24.Gone e24.Image e24.Want e24.Down e24.Over e24.Per e24.Least e24.Most e24.Load e24.Cool x23 x24 x25 x26 n   (0,x21,e24.Next)))))))
   (cond (decide ((IntKind.i64.wrap ((x5.length : Int)+x9))>200))
   (Option.bind (G21 (⟨x3,x4,x5,x6⟩ : VStewBook)) fun r72 =>
   some (r72,7))
   (cond (decide ((IntKind.i64.wrap (e24.Next+x9))>1000000))
   (Option.bind (G21 (⟨x3,x4,x5,x6⟩ : VStewBook)) fun r73 =>
   some (r73,7))
   (cond (decide (x3≥1000000))
   (Option.bind (G21 (⟨x3,x4,x5,x6⟩ : VStewBook)) fun r74 =>
   some (r74,7))
   (MP6_3 x0 x1 x7 x8 x9 x10 x11 x12 x13 x14 x15 x16 x17 x18 x19 x20 x22 e24.Name e24.Version e24.Gone e24.Image e24.Want e24.Down e24.Over e24.Per e24.Least e24.Most e24.Load e24.Cool x23 x24 x25 x26 n   (0,x21,e24.Next))))))))))
   (cond x12
   (cond (decide (x9>0))
   (cond e24.Gone
   (Option.bind (G21 (⟨x3,x4,x5,x6⟩ : VStewBook)) fun r75 =>
   some (r75,6))
   (Option.bind (G52 (⟨x19,x20,x21,x22⟩ : VStewBook) x7) fun r76 =>
   cond (decide ((IntKind.i64.wrap (r76.Live+x9))>(IntKind.i64.wrap (x10+e24.Over))))
   (Option.bind (G21 (⟨x3,x4,x5,x6⟩ : VStewBook)) fun r77 =>
   some (r77,6))
   (cond x12
   (cond (e24.Per == 0)
   (Option.bind (G21 (⟨x3,x4,x5,x6⟩ : VStewBook)) fun r78 =>
   some (r78,6))
   (Option.bind (G43 x10 e24.Least e24.Most) fun r79 =>
   cond (!r79)
   (Option.bind (G21 (⟨x3,x4,x5,x6⟩ : VStewBook)) fun r80 =>
   some (r80,6))
   (cond (decide ((IntKind.i64.wrap ((x5.length : Int)+x9))>200))
   (Option.bind (G21 (⟨x3,x4,x5,x6⟩ : VStewBook)) fun r81 =>
   some (r81,7))
   (cond (decide ((IntKind.i64.wrap (e24.Next+x9))>1000000))
   (Option.bind (G21 (⟨x3,x4,x5,x6⟩ : VStewBook)) fun r82 =>
   some (r82,7))
   (cond (decide (x3≥1000000))
   (Option.bind (G21 (⟨x3,x4,x5,x6⟩ : VStewBook)) fun r83 =>
   some (r83,7))
   (MP6_3 x0 x1 x7 x8 x9 x10 x11 x12 x13 x14 x15 x16 x17 x18 x19 x20 x22 e24.Name e24.Version e24.Gone e24.Image x10 e24.Down e24.Over e24.Per e24.Least e24.Most e24.Load x11 x23 x24 x25 x26 n   (0,x21,e24.Next)))))))
   (cond (decide ((IntKind.i64.wrap ((x5.length : Int)+x9))>200))
   (Option.bind (G21 (⟨x3,x4,x5,x6⟩ : VStewBook)) fun r84 =>
   some (r84,7))
   (cond (decide ((IntKind.i64.wrap (e24.Next+x9))>1000000))
   (Option.bind (G21 (⟨x3,x4,x5,x6⟩ : VStewBook)) fun r85 =>
   some (r85,7))
   (cond (decide (x3≥1000000))
   (Option.bind (G21 (⟨x3,x4,x5,x6⟩ : VStewBook)) fun r86 =>
   some (r86,7))
   (MP6_3 x0 x1 x7 x8 x9 x10 x11 x12 x13 x14 x15 x16 x17 x18 x19 x20 x22 e24.Name e24.Version e24.Gone e24.Image x10 e24.Down e24.Over e24.Per e24.Least e24.Most e24.Load x11 x23 x24 x25 x26 n   (0,x21,e24.Next))))))))
   (cond x12
   (cond (e24.Per == 0)
   (Option.bind (G21 (⟨x3,x4,x5,x6⟩ : VStewBook)) fun r87 =>
   some (r87,6))
   (Option.bind (G43 x10 e24.Least e24.Most) fun r88 =>
   cond (!r88)
   (Option.bind (G21 (⟨x3,x4,x5,x6⟩ : VStewBook)) fun r89 =>
   some (r89,6))
   (cond (decide ((IntKind.i64.wrap ((x5.length : Int)+x9))>200))
   (Option.bind (G21 (⟨x3,x4,x5,x6⟩ : VStewBook)) fun r90 =>
   some (r90,7))
   (cond (decide ((IntKind.i64.wrap (e24.Next+x9))>1000000))
   (Option.bind (G21 (⟨x3,x4,x5,x6⟩ : VStewBook)) fun r91 =>
   some (r91,7))
   (cond (decide (x3≥1000000))
   (Option.bind (G21 (⟨x3,x4,x5,x6⟩ : VStewBook)) fun r92 =>
   some (r92,7))
   (MP6_3 x0 x1 x7 x8 x9 x10 x11 x12 x13 x14 x15 x16 x17 x18 x19 x20 x22 e24.Name e24.Version e24.Gone e24.Image x10 e24.Down e24.Over e24.Per e24.Least e24.Most e24.Load x11 x23 x24 x25 x26 n   (0,x21,e24.Next)))))))
   (cond (decide ((IntKind.i64.wrap ((x5.length : Int)+x9))>200))
   (Option.bind (G21 (⟨x3,x4,x5,x6⟩ : VStewBook)) fun r93 =>
   some (r93,7))
   (cond (decide ((IntKind.i64.wrap (e24.Next+x9))>1000000))
   (Option.bind (G21 (⟨x3,x4,x5,x6⟩ : VStewBook)) fun r94 =>
   some (r94,7))
   (cond (decide (x3≥1000000))
   (Option.bind (G21 (⟨x3,x4,x5,x6⟩ : VStewBook)) fun r95 =>
   some (r95,7))
   (MP6_3 x0 x1 x7 x8 x9 x10 x11 x12 x13 x14 x15 x16 x17 x18 x19 x20 x22 e24.Name e24.Version e24.Gone e24.Image x10 e24.Down e24.Over e24.Per e24.Least e24.Most e24.Load x11 x23 x24 x25 x26 n   (0,x21,e24.Next)))))))
   (cond (decide (x9>0))
   (cond e24.Gone
   (Option.bind (G21 (⟨x3,x4,x5,x6⟩ : VStewBook)) fun r96 =>
   some (r96,6))
   (Option.bind (G52 (⟨x19,x20,x21,x22⟩ : VStewBook) x7) fun r97 =>
   cond (decide ((IntKind.i64.wrap (r97.Live+x9))>(IntKind.i64.wrap (e24.Want+e24.Over))))
   (Option.bind (G21 (⟨x3,x4,x5,x6⟩ : VStewBook)) fun r98 =>
   some (r98,6))
   (cond x12
   (cond (e24.Per == 0)
   (Option.bind (G21 (⟨x3,x4,x5,x6⟩ : VStewBook)) fun r99 =>
   some (r99,6))
   (Option.bind (G43 x10 e24.Least e24.Most) fun r100 =>
   cond (!r100)
   (Option.bind (G21 (⟨x3,x4,x5,x6⟩ : VStewBook)) fun r101 =>
   some (r101,6))
   (cond (decide ((IntKind.i64.wrap ((x5.length : Int)+x9))>200))
   (Option.bind (G21 (⟨x3,x4,x5,x6⟩ : VStewBook)) fun r102 =>
   some (r102,7))
   (cond (decide ((IntKind.i64.wrap (e24.Next+x9))>1000000))
   (Option.bind (G21 (⟨x3,x4,x5,x6⟩ : VStewBook)) fun r103 =>
   some (r103,7))
   (cond (decide (x3≥1000000))
   (Option.bind (G21 (⟨x3,x4,x5,x6⟩ : VStewBook)) fun r104 =>
   some (r104,7))
   (MP6_3 x0 x1 x7 x8 x9 x10 x11 x12 x13 x14 x15 x16 x17 x18 x19 x20 x22 e24.Name e24.Version e24.Gone e24.Image e24.Want e24.Down e24.Over e24.Per e24.Least e24.Most e24.Load e24.Cool x23 x24 x25 x26 n   (0,x21,e24.Next)))))))
   (cond (decide ((IntKind.i64.wrap ((x5.length : Int)+x9))>200))
   (Option.bind (G21 (⟨x3,x4,x5,x6⟩ : VStewBook)) fun r105 =>
   some (r105,7))
   (cond (decide ((IntKind.i64.wrap (e24.Next+x9))>1000000))
   (Option.bind (G21 (⟨x3,x4,x5,x6⟩ : VStewBook)) fun r106 =>
   some (r106,7))
   (cond (decide (x3≥1000000))
   (Option.bind (G21 (⟨x3,x4,x5,x6⟩ : VStewBook)) fun r107 =>
   some (r107,7))
   (MP6_3 x0 x1 x7 x8 x9 x10 x11 x12 x13 x14 x15 x16 x17 x18 x19 x20 x22 e24.Name e24.Version e24.Gone e24.Image e24.Want e24.Down e24.Over e24.Per e24.Least e24.Most e24.Load e24.Cool x23 x24 x25 x26 n   (0,x21,e24.Next))))))))
   (cond x12
   (cond (e24.Per == 0)
   (Option.bind (G21 (⟨x3,x4,x5,x6⟩ : VStewBook)) fun r108 =>
   some (r108,6))
   (Option.bind (G43 x10 e24.Least e24.Most) fun r109 =>
   cond (!r109)
   (Option.bind (G21 (⟨x3,x4,x5,x6⟩ : VStewBook)) fun r110 =>
   some (r110,6))
   (cond (decide ((IntKind.i64.wrap ((x5.length : Int)+x9))>200))
   (Option.bind (G21 (⟨x3,x4,x5,x6⟩ : VStewBook)) fun r111 =>
   some (r111,7))
   (cond (decide ((IntKind.i64.wrap (e24.Next+x9))>1000000))
   (Option.bind (G21 (⟨x3,x4,x5,x6⟩ : VStewBook)) fun r112 =>
   some (r112,7))
   (cond (decide (x3≥1000000))
   (Option.bind (G21 (⟨x3,x4,x5,x6⟩ : VStewBook)) fun r113 =>
   some (r113,7))
   (MP6_3 x0 x1 x7 x8 x9 x10 x11 x12 x13 x14 x15 x16 x17 x18 x19 x20 x22 e24.Name e24.Version e24.Gone e24.Image e24.Want e24.Down e24.Over e24.Per e24.Least e24.Most e24.Load e24.Cool x23 x24 x25 x26 n   (0,x21,e24.Next)))))))
   (cond (decide ((IntKind.i64.wrap ((x5.length : Int)+x9))>200))
   (Option.bind (G21 (⟨x3,x4,x5,x6⟩ : VStewBook)) fun r114 =>
   some (r114,7))
   (cond (decide ((IntKind.i64.wrap (e24.Next+x9))>1000000))
   (Option.bind (G21 (⟨x3,x4,x5,x6⟩ : VStewBook)) fun r115 =>
   some (r115,7))
   (cond (decide (x3≥1000000))
   (Option.bind (G21 (⟨x3,x4,x5,x6⟩ : VStewBook)) fun r116 =>
   some (r116,7))
   (MP6_3 x0 x1 x7 x8 x9 x10 x11 x12 x13 x14 x15 x16 x17 x18 x19 x20 x22 e24.Name e24.Version e24.Gone e24.Image e24.Want e24.Down e24.Over e24.Per e24.Least e24.Most e24.Load e24.Cool x23 x24 x25 x26 n   (0,x21,e24.Next))))))))) none) none):=by kernel_rfl
  simp only [m6_3] at h
  exact h
end
section
variable (x0 : Int) (x2 : Int) (x3 : List (C .e79)) (x4 : List (C .e83)) (x5 : List (C .e81)) (x6 : ByteArray) (x7 : Int) (x8 : Int) (x9 : Int) (x10 : Int) (x11 : Bool) (x12 : List (C .e89)) (x13 : Bool) (x14 : Int) (x15 : List (C .e79)) (x16 : List (C .e83)) (x17 : List (C .e81)) (x18 : Int) (x19 : List (C .e79)) (x20 : List (C .e83)) (x21 : List (C .e81))
noncomputable def MP6_1 (n : Nat)  (x : A6_1) : Option (VStewBook×Int):=iter (fun rec S=>run X20 (F20 n) (codeAt (bodyOf Try.f20) [1,1,1,1,1,1,0,1,0,0]) 2 S (lopK rec (blkK 2 (seqK (run X20 (F20 n) (codeAt (bodyOf Try.f20) [1,1,1,1,1,1,1]) 0) (inlK X20 Try.f20 (callK 15000 0 (some 15) (restK (X6 n) (codeAt (bodyOf Try.f6) [1,1,0]) 3 (regK (F6 n) (seqK (run (X6 n) (F6 n) (codeAt (bodyOf Try.f6) [1,1,1]) 0) (kTop (X6 n) Try.f6 dec6)))))))))) [2,3,4,6,8] n (s6_1 x0 x2 x3 x4 x5 x6 x7 x8 x9 x10 x11 x12 x13 x14 x15 x16 x17 x18 x19 x20 x21 x)
theorem m6_1 (n : Nat)  (x : A6_1) : MP6_1 x0 x2 x3 x4 x5 x6 x7 x8 x9 x10 x11 x12 x13 x14 x15 x16 x17 x18 x19 x20 x21 n  x=lpN (r6_1 x0 x2 x3 x4 x5 x6 x8 x9 x10 x11 x12 x13 n  ) n x:=by
  refine iter_eq (s6_1 x0 x2 x3 x4 x5 x6 x7 x8 x9 x10 x11 x12 x13 x14 x15 x16 x17 x18 x19 x20 x21) (r6_1 x0 x2 x3 x4 x5 x6 x8 x9 x10 x11 x12 x13 n  ) (fun rec1 x1 => ?_) n x
  have h : run X20 (F20 n) (codeAt (bodyOf Try.f20) [1,1,1,1,1,1,0,1,0,0]) 2 (s6_1 x0 x2 x3 x4 x5 x6 x7 x8 x9 x10 x11 x12 x13 x14 x15 x16 x17 x18 x19 x20 x21 x1) (lopK (canThen [2,3,4,6,8] rec1) (blkK 2 (seqK (run X20 (F20 n) (codeAt (bodyOf Try.f20) [1,1,1,1,1,1,1]) 0) (inlK X20 Try.f20 (callK 15000 0 (some 15) (restK (X6 n) (codeAt (bodyOf Try.f6) [1,1,0]) 3 (regK (F6 n) (seqK (run (X6 n) (F6 n) (codeAt (bodyOf Try.f6) [1,1,1]) 0) (kTop (X6 n) Try.f6 dec6))))))))) =
   cond (decide (x1<(x12.length : Int)))
   (cond (decide (0≤x1)) (Option.bind x12[x1.toNat]? fun e11=>Option.bind (G50 (⟨x2,x3,x4,x5⟩ : VStewBook) x6 e11.Number) fun r12 =>
   cond (decide (0≤r12)) (Option.bind x4[r12.toNat]? fun e13=>cond (decide (0≤x1)) (Option.bind x12[x1.toNat]? fun e14=>cond (e13.Version != e14.Seen)
   (Option.bind (G21 (⟨x2,x3,x4,x5⟩ : VStewBook)) fun r15 =>
   some (r15,4))
   ((fun x=>rec1 (s6_1 x0 x2 x3 x4 x5 x6 x7 x8 x9 x10 x11 x12 x13 x14 x15 x16 x17 x18 x19 x20 x21 x)) (IntKind.i64.wrap (x1+1)))) none) none) none)
   (Option.bind (G21 (⟨x2,x3,x4,x5⟩ : VStewBook)) fun r16 =>
   MP6_2 x0 (IntKind.i64.wrap (x2+1)) x2 x3 x4 x5 x6 x7 x8 x9 x10 x11 x12 x13 x14 x15 x16 x17 r16.Now r16.Services r16.Berths x18 x19 x20 x21 n   (0,r16.Copies)):=by kernel_rfl
  simp only [m6_2] at h
  exact h
end
section
variable (x0 : Int) (x2 : Int) (x3 : List (C .e79)) (x4 : List (C .e83)) (x5 : List (C .e81)) (x6 : ByteArray) (x7 : Int) (x8 : Int) (x9 : Int) (x10 : Int) (x11 : Bool) (x12 : List (C .e89)) (x13 : Bool) (x14 : Int) (x15 : List (C .e79)) (x16 : List (C .e83)) (x17 : List (C .e81)) (x18 : Int) (x19 : List (C .e79)) (x20 : List (C .e83)) (x21 : List (C .e81))
noncomputable def MP6_0 (n : Nat)  (x : A6_0) : Option (VStewBook×Int):=iter (fun rec S=>run X20 (F20 n) (codeAt (bodyOf Try.f20) [1,1,1,1,0,1,0,0]) 0 S (lopK rec (blkK 0 (seqK (run X20 (F20 n) (codeAt (bodyOf Try.f20) [1,1,1,1,1]) 0) (inlK X20 Try.f20 (callK 15000 0 (some 15) (restK (X6 n) (codeAt (bodyOf Try.f6) [1,1,0]) 3 (regK (F6 n) (seqK (run (X6 n) (F6 n) (codeAt (bodyOf Try.f6) [1,1,1]) 0) (kTop (X6 n) Try.f6 dec6)))))))))) [2,3,4,6,7] n (s6_0 x0 x2 x3 x4 x5 x6 x7 x8 x9 x10 x11 x12 x13 x14 x15 x16 x17 x18 x19 x20 x21 x)
theorem m6_0 (n : Nat)  (x : A6_0) : MP6_0 x0 x2 x3 x4 x5 x6 x7 x8 x9 x10 x11 x12 x13 x14 x15 x16 x17 x18 x19 x20 x21 n  x=lpN (r6_0 x0 x2 x3 x4 x5 x6 x7 x8 x9 x10 x11 x12 x13 n  ) n x:=by
  refine iter_eq (s6_0 x0 x2 x3 x4 x5 x6 x7 x8 x9 x10 x11 x12 x13 x14 x15 x16 x17 x18 x19 x20 x21) (r6_0 x0 x2 x3 x4 x5 x6 x7 x8 x9 x10 x11 x12 x13 n  ) (fun rec0 x1 => ?_) n x
  have h : run X20 (F20 n) (codeAt (bodyOf Try.f20) [1,1,1,1,0,1,0,0]) 0 (s6_0 x0 x2 x3 x4 x5 x6 x7 x8 x9 x10 x11 x12 x13 x14 x15 x16 x17 x18 x19 x20 x21 x1) (lopK (canThen [2,3,4,6,7] rec0) (blkK 0 (seqK (run X20 (F20 n) (codeAt (bodyOf Try.f20) [1,1,1,1,1]) 0) (inlK X20 Try.f20 (callK 15000 0 (some 15) (restK (X6 n) (codeAt (bodyOf Try.f6) [1,1,0]) 3 (regK (F6 n) (seqK (run (X6 n) (F6 n) (codeAt (bodyOf Try.f6) [1,1,1]) 0) (kTop (X6 n) Try.f6 dec6))))))))) =
   cond (decide (x1<(x12.length : Int)))
   (cond (decide (0≤x1)) (Option.bind x12[x1.toNat]? fun e6=>Option.bind (G50 (⟨x2,x3,x4,x5⟩ : VStewBook) x6 e6.Number) fun r7 =>
   cond (decide (r7<0))
   (Option.bind (G21 (⟨x2,x3,x4,x5⟩ : VStewBook)) fun r8 =>
   some (r8,3))
   ((fun x=>rec0 (s6_0 x0 x2 x3 x4 x5 x6 x7 x8 x9 x10 x11 x12 x13 x14 x15 x16 x17 x18 x19 x20 x21 x)) (IntKind.i64.wrap (x1+1)))) none)
   (cond (decide (0≤x0)) (Option.bind x3[x0.toNat]? fun e9=>cond (e9.Version != x7)
   (Option.bind (G21 (⟨x2,x3,x4,x5⟩ : VStewBook)) fun r10 =>
   some (r10,4))
   (MP6_1 x0 x2 x3 x4 x5 x6 x7 x8 x9 x10 x11 x12 x13 x14 x15 x16 x17 x18 x19 x20 x21 n   0)) none):=by kernel_rfl
  simp only [m6_1] at h
  exact h
end
noncomputable def G6n (n : Nat) (a0 : VStewBook) (a1 : VStewAct) : Option (VStewBook×Int) :=
 Option.bind (G19 a0) fun r1 =>
 cond (!r1)
 (some ((⟨0,([] : List (C .e79)),([] : List (C .e83)),([] : List (C .e81))⟩ : VStewBook),1))
 (Option.bind (G48 a1) fun r2 =>
 cond (!r2)
 (Option.bind (G21 a0) fun r3 =>
 some (r3,2))
 (Option.bind (G49 a0 a1.Service) fun r4 =>
 cond (decide (r4<0))
 (Option.bind (G21 a0) fun r5 =>
 some (r5,3))
 (lpN (r6_0 r4 a0.Now a0.Services a0.Copies a0.Berths a1.Service a1.Seen a1.Create a1.Want a1.Cool a1.Scale a1.Ends a1.Drop n ) n 0)))
theorem t6 (n : Nat) (a0 : VStewBook) (a1 : VStewAct) : runFn (X6 n) (F6 n) Try.f6 [.agg [.int .i64 a0.Now,.row .e79 a0.Services,.row .e83 a0.Copies,.row .e81 a0.Berths],.agg [.str a1.Service,.int .i64 a1.Seen,.int .i64 a1.Create,.int .i64 a1.Want,.int .i64 a1.Cool,.bool a1.Scale,.row .e89 a1.Ends,.bool a1.Drop]] dec6=G6n n a0 a1:=by
  refine Eq.trans (b :=
   Option.bind (G19 a0) fun r1 =>
   cond (!r1)
   (some ((⟨0,([] : List (C .e79)),([] : List (C .e83)),([] : List (C .e81))⟩ : VStewBook),1))
   (Option.bind (G48 a1) fun r2 =>
   cond (!r2)
   (Option.bind (G21 a0) fun r3 =>
   some (r3,2))
   (Option.bind (G49 a0 a1.Service) fun r4 =>
   cond (decide (r4<0))
   (Option.bind (G21 a0) fun r5 =>
   some (r5,3))
   (MP6_0 r4 a0.Now a0.Services a0.Copies a0.Berths a1.Service a1.Seen a1.Create a1.Want a1.Cool a1.Scale a1.Ends a1.Drop 0 (([] : List (C .e79))) (([] : List (C .e83))) (([] : List (C .e81))) 0 (([] : List (C .e79))) (([] : List (C .e83))) (([] : List (C .e81))) n   0)))) (by kernel_rfl) ?_
  simp only [G6n,m6_0]
noncomputable def G6 (a0 : VStewBook) (a1 : VStewAct) : Option (VStewBook×Int):=G6n fuel a0 a1
noncomputable def con6 : Con C:=mkC KK [.el .e36,.el .e42] [.el .e36,.int .i64] G6
theorem c6 : ConOk Try.prog KK 6 con6:=cO (mkQ ⟨c19,c21,trivial⟩ trivial ⟨i20 _,trivial⟩ : Cons Try.prog (X6 fuel)) (fn:=Try.f6) (by kernel_rfl) (by kernel_rfl) (by kernel_rfl) (by kernel_rfl) (F6 fuel) (by kernel_rfl) (fun a0 a1=>t6 fuel a0 a1)
/-! ### f53 loop.example/wharfdesk/laws.toStewService -/
noncomputable def X53 : Cx C:=mkX [] [] [] [] 3473408 []
def F53 (n : Nat) : Cf:={ N:=n,keep:=[0,1,2,3],live:=lk [] }
noncomputable abbrev dec53:=deR KK [.el .e79]
noncomputable def G53n (n : Nat) (a0 : VStewService) : Option (VStewService) :=
 some (a0)
theorem t53 (n : Nat) (a0 : VStewService) : runFn X53 (F53 n) Try.f53 [.agg [.str a0.Name,.int .i64 a0.Version,.bool a0.Gone,.int .i64 a0.Image,.int .i64 a0.Want,.int .i64 a0.Down,.int .i64 a0.Over,.int .i64 a0.Next,.int .i64 a0.Per,.int .i64 a0.Least,.int .i64 a0.Most,.int .i64 a0.Load,.int .i64 a0.Cool]] dec53=G53n n a0:=by
  kernel_rfl
noncomputable def G53 (a0 : VStewService) : Option (VStewService):=G53n fuel a0
noncomputable def con53 : Con C:=mkC KK [.el .e70] [.el .e79] G53
theorem c53 : ConOk Try.prog KK 53 con53:=cO (mkQ trivial trivial trivial : Cons Try.prog X53) (fn:=Try.f53) (by kernel_rfl) (by kernel_rfl) (by kernel_rfl) (by kernel_rfl) (F53 fuel) (by kernel_rfl) (fun a0=>t53 fuel a0)
/-! ### f22 loop.example/wharfdesk/laws.toStewServiceS -/
noncomputable def X22 : Cx C:=mkX [(53,con53)] [] [] [] 1441792 []
def F22 (n : Nat) : Cf:={ N:=n,keep:=[0,2,3,4,11],live:=lk [(0,[0,3,4])] }
noncomputable abbrev dec22:=deR KK [.row .e79]
abbrev A22_0 : Type:=List (C .e70)×List (C .e79)×Int
def s22_0  : A22_0→St C:=fun (x0_0,x0_1,x0_2)=>{ env:=[(0,.one (.row .e70 x0_0)),(3,.one (.ref 100003 [])),(4,.one (.int .i64 x0_2))],objs:=[(100003,.row .e79 x0_1 false)],base:=0 }
noncomputable def r22_0 (n : Nat)   (rec0 : A22_0→Option (List (C .e79))) : A22_0→Option (List (C .e79)):=fun (x0_0,x0_1,x0_2) =>
 cond (decide (x0_2<(x0_0.length : Int)))
 (cond (decide (0≤x0_2)) (Option.bind x0_0[x0_2.toNat]? fun e1=>Option.bind (G53 e1) fun r2 =>
 cond (decide (0≤x0_2)) (cond (decide (x0_2<(x0_1.length : Int))) (Option.bind x0_1[x0_2.toNat]? fun e3=>rec0 ((x0_0,x0_1.set x0_2.toNat r2,IntKind.i64.wrap (x0_2+1)))) none) none) none)
 (some (x0_1))
noncomputable def LP22_0 (n : Nat)   (x : A22_0) : Option (List (C .e79)):=lpN (r22_0 n  ) n x
noncomputable def MP22_0 (n : Nat)   (x : A22_0) : Option (List (C .e79)):=iter (fun rec S=>run X22 (F22 n) (codeAt (bodyOf Try.f22) [1,1,0,1,0,0]) 0 S (lopK rec (blkK 0 (seqK (run X22 (F22 n) (codeAt (bodyOf Try.f22) [1,1,1]) 0) (kTop X22 Try.f22 dec22))))) [0,3,4] n (s22_0  x)
theorem m22_0 (n : Nat)   (x : A22_0) : MP22_0 n   x=LP22_0 n   x:=by
  refine iter_eq (s22_0 ) (r22_0 n  ) (fun rec0 x => ?_) n x
  obtain ⟨x0_0,x0_1,x0_2⟩:=x
  kernel_rfl
noncomputable def G22n (n : Nat) (a0 : List (C .e70)) : Option (List (C .e79)) :=
 cond (decide ((a0.length : Int)=(a0.length : Int))) (cond (decide (0≤(a0.length : Int))) (cond (decide ((a0.length : Int)*112≤140737488355328)) (LP22_0 n    ((a0,List.replicate (a0.length : Int).toNat (⟨⟨#[]⟩,0,false,0,0,0,0,0,0,0,0,0,0⟩ : C .e79),0))) none) none) none
theorem t22 (n : Nat) (a0 : List (C .e70)) : runFn X22 (F22 n) Try.f22 [.one (.row .e70 a0)] dec22=G22n n a0:=by
  refine Eq.trans (b :=
   cond (decide ((a0.length : Int)=(a0.length : Int))) (cond (decide (0≤(a0.length : Int))) (cond (decide ((a0.length : Int)*112≤140737488355328)) (MP22_0 n    ((a0,List.replicate (a0.length : Int).toNat (⟨⟨#[]⟩,0,false,0,0,0,0,0,0,0,0,0,0⟩ : C .e79),0))) none) none) none) (by kernel_rfl) ?_
  simp only [G22n,m22_0]
noncomputable def G22 (a0 : List (C .e70)) : Option (List (C .e79)):=G22n fuel a0
noncomputable def con22 : Con C:=mkC KK [.row .e70] [.row .e79] G22
theorem c22 : ConOk Try.prog KK 22 con22:=cO (mkQ ⟨c53,trivial⟩ trivial trivial : Cons Try.prog X22) (fn:=Try.f22) (by kernel_rfl) (by kernel_rfl) (by kernel_rfl) (by kernel_rfl) (F22 fuel) (by kernel_rfl) (fun a0=>t22 fuel a0)
/-! ### f54 loop.example/wharfdesk/laws.toStewCopy -/
noncomputable def X54 : Cx C:=mkX [] [] [] [] 3538944 []
def F54 (n : Nat) : Cf:={ N:=n,keep:=[0,1,2,3],live:=lk [] }
noncomputable abbrev dec54:=deR KK [.el .e83]
noncomputable def G54n (n : Nat) (a0 : VStewCopy) : Option (VStewCopy) :=
 some (a0)
theorem t54 (n : Nat) (a0 : VStewCopy) : runFn X54 (F54 n) Try.f54 [.agg [.str a0.Service,.int .i64 a0.Number,.int .i64 a0.Version,.int .i64 a0.Image,.int .i64 a0.State,.bool a0.Ending,.str a0.Berth]] dec54=G54n n a0:=by
  kernel_rfl
noncomputable def G54 (a0 : VStewCopy) : Option (VStewCopy):=G54n fuel a0
noncomputable def con54 : Con C:=mkC KK [.el .e73] [.el .e83] G54
theorem c54 : ConOk Try.prog KK 54 con54:=cO (mkQ trivial trivial trivial : Cons Try.prog X54) (fn:=Try.f54) (by kernel_rfl) (by kernel_rfl) (by kernel_rfl) (by kernel_rfl) (F54 fuel) (by kernel_rfl) (fun a0=>t54 fuel a0)
/-! ### f23 loop.example/wharfdesk/laws.toStewCopyS -/
noncomputable def X23 : Cx C:=mkX [(54,con54)] [] [] [] 1507328 []
def F23 (n : Nat) : Cf:={ N:=n,keep:=[0,2,3,4,11],live:=lk [(0,[0,3,4])] }
noncomputable abbrev dec23:=deR KK [.row .e83]
abbrev A23_0 : Type:=List (C .e73)×List (C .e83)×Int
def s23_0  : A23_0→St C:=fun (x0_0,x0_1,x0_2)=>{ env:=[(0,.one (.row .e73 x0_0)),(3,.one (.ref 100003 [])),(4,.one (.int .i64 x0_2))],objs:=[(100003,.row .e83 x0_1 false)],base:=0 }
noncomputable def r23_0 (n : Nat)   (rec0 : A23_0→Option (List (C .e83))) : A23_0→Option (List (C .e83)):=fun (x0_0,x0_1,x0_2) =>
 cond (decide (x0_2<(x0_0.length : Int)))
 (cond (decide (0≤x0_2)) (Option.bind x0_0[x0_2.toNat]? fun e1=>Option.bind (G54 e1) fun r2 =>
 cond (decide (0≤x0_2)) (cond (decide (x0_2<(x0_1.length : Int))) (Option.bind x0_1[x0_2.toNat]? fun e3=>rec0 ((x0_0,x0_1.set x0_2.toNat r2,IntKind.i64.wrap (x0_2+1)))) none) none) none)
 (some (x0_1))
noncomputable def LP23_0 (n : Nat)   (x : A23_0) : Option (List (C .e83)):=lpN (r23_0 n  ) n x
noncomputable def MP23_0 (n : Nat)   (x : A23_0) : Option (List (C .e83)):=iter (fun rec S=>run X23 (F23 n) (codeAt (bodyOf Try.f23) [1,1,0,1,0,0]) 0 S (lopK rec (blkK 0 (seqK (run X23 (F23 n) (codeAt (bodyOf Try.f23) [1,1,1]) 0) (kTop X23 Try.f23 dec23))))) [0,3,4] n (s23_0  x)
theorem m23_0 (n : Nat)   (x : A23_0) : MP23_0 n   x=LP23_0 n   x:=by
  refine iter_eq (s23_0 ) (r23_0 n  ) (fun rec0 x => ?_) n x
  obtain ⟨x0_0,x0_1,x0_2⟩:=x
  kernel_rfl
noncomputable def G23n (n : Nat) (a0 : List (C .e73)) : Option (List (C .e83)) :=
 cond (decide ((a0.length : Int)=(a0.length : Int))) (cond (decide (0≤(a0.length : Int))) (cond (decide ((a0.length : Int)*72≤140737488355328)) (LP23_0 n    ((a0,List.replicate (a0.length : Int).toNat (⟨⟨#[]⟩,0,0,0,0,false,⟨#[]⟩⟩ : C .e83),0))) none) none) none
theorem t23 (n : Nat) (a0 : List (C .e73)) : runFn X23 (F23 n) Try.f23 [.one (.row .e73 a0)] dec23=G23n n a0:=by
  refine Eq.trans (b :=
   cond (decide ((a0.length : Int)=(a0.length : Int))) (cond (decide (0≤(a0.length : Int))) (cond (decide ((a0.length : Int)*72≤140737488355328)) (MP23_0 n    ((a0,List.replicate (a0.length : Int).toNat (⟨⟨#[]⟩,0,0,0,0,false,⟨#[]⟩⟩ : C .e83),0))) none) none) none) (by kernel_rfl) ?_
  simp only [G23n,m23_0]
noncomputable def G23 (a0 : List (C .e73)) : Option (List (C .e83)):=G23n fuel a0
noncomputable def con23 : Con C:=mkC KK [.row .e73] [.row .e83] G23
theorem c23 : ConOk Try.prog KK 23 con23:=cO (mkQ ⟨c54,trivial⟩ trivial trivial : Cons Try.prog X23) (fn:=Try.f23) (by kernel_rfl) (by kernel_rfl) (by kernel_rfl) (by kernel_rfl) (F23 fuel) (by kernel_rfl) (fun a0=>t23 fuel a0)
/-! ### f55 loop.example/wharfdesk/laws.toStewBerth -/
noncomputable def X55 : Cx C:=mkX [] [] [] [] 3604480 []
def F55 (n : Nat) : Cf:={ N:=n,keep:=[0,1,2,3],live:=lk [] }
noncomputable abbrev dec55:=deR KK [.el .e81]
noncomputable def G55n (n : Nat) (a0 : VStewBerth) : Option (VStewBerth) :=
 some (a0)
theorem t55 (n : Nat) (a0 : VStewBerth) : runFn X55 (F55 n) Try.f55 [.agg [.str a0.Name,.bool a0.Drain]] dec55=G55n n a0:=by
  kernel_rfl
noncomputable def G55 (a0 : VStewBerth) : Option (VStewBerth):=G55n fuel a0
noncomputable def con55 : Con C:=mkC KK [.el .e76] [.el .e81] G55
theorem c55 : ConOk Try.prog KK 55 con55:=cO (mkQ trivial trivial trivial : Cons Try.prog X55) (fn:=Try.f55) (by kernel_rfl) (by kernel_rfl) (by kernel_rfl) (by kernel_rfl) (F55 fuel) (by kernel_rfl) (fun a0=>t55 fuel a0)
/-! ### f24 loop.example/wharfdesk/laws.toStewBerthS -/
noncomputable def X24 : Cx C:=mkX [(55,con55)] [] [] [] 1572864 []
def F24 (n : Nat) : Cf:={ N:=n,keep:=[0,2,3,4,11],live:=lk [(0,[0,3,4])] }
noncomputable abbrev dec24:=deR KK [.row .e81]
abbrev A24_0 : Type:=List (C .e76)×List (C .e81)×Int
def s24_0  : A24_0→St C:=fun (x0_0,x0_1,x0_2)=>{ env:=[(0,.one (.row .e76 x0_0)),(3,.one (.ref 100003 [])),(4,.one (.int .i64 x0_2))],objs:=[(100003,.row .e81 x0_1 false)],base:=0 }
noncomputable def r24_0 (n : Nat)   (rec0 : A24_0→Option (List (C .e81))) : A24_0→Option (List (C .e81)):=fun (x0_0,x0_1,x0_2) =>
 cond (decide (x0_2<(x0_0.length : Int)))
 (cond (decide (0≤x0_2)) (Option.bind x0_0[x0_2.toNat]? fun e1=>Option.bind (G55 e1) fun r2 =>
 cond (decide (0≤x0_2)) (cond (decide (x0_2<(x0_1.length : Int))) (Option.bind x0_1[x0_2.toNat]? fun e3=>rec0 ((x0_0,x0_1.set x0_2.toNat r2,IntKind.i64.wrap (x0_2+1)))) none) none) none)
 (some (x0_1))
noncomputable def LP24_0 (n : Nat)   (x : A24_0) : Option (List (C .e81)):=lpN (r24_0 n  ) n x
noncomputable def MP24_0 (n : Nat)   (x : A24_0) : Option (List (C .e81)):=iter (fun rec S=>run X24 (F24 n) (codeAt (bodyOf Try.f24) [1,1,0,1,0,0]) 0 S (lopK rec (blkK 0 (seqK (run X24 (F24 n) (codeAt (bodyOf Try.f24) [1,1,1]) 0) (kTop X24 Try.f24 dec24))))) [0,3,4] n (s24_0  x)
theorem m24_0 (n : Nat)   (x : A24_0) : MP24_0 n   x=LP24_0 n   x:=by
  refine iter_eq (s24_0 ) (r24_0 n  ) (fun rec0 x => ?_) n x
  obtain ⟨x0_0,x0_1,x0_2⟩:=x
  kernel_rfl
noncomputable def G24n (n : Nat) (a0 : List (C .e76)) : Option (List (C .e81)) :=
 cond (decide ((a0.length : Int)=(a0.length : Int))) (cond (decide (0≤(a0.length : Int))) (cond (decide ((a0.length : Int)*24≤140737488355328)) (LP24_0 n    ((a0,List.replicate (a0.length : Int).toNat (⟨⟨#[]⟩,false⟩ : C .e81),0))) none) none) none
theorem t24 (n : Nat) (a0 : List (C .e76)) : runFn X24 (F24 n) Try.f24 [.one (.row .e76 a0)] dec24=G24n n a0:=by
  refine Eq.trans (b :=
   cond (decide ((a0.length : Int)=(a0.length : Int))) (cond (decide (0≤(a0.length : Int))) (cond (decide ((a0.length : Int)*24≤140737488355328)) (MP24_0 n    ((a0,List.replicate (a0.length : Int).toNat (⟨⟨#[]⟩,false⟩ : C .e81),0))) none) none) none) (by kernel_rfl) ?_
  simp only [G24n,m24_0]
noncomputable def G24 (a0 : List (C .e76)) : Option (List (C .e81)):=G24n fuel a0
noncomputable def con24 : Con C:=mkC KK [.row .e76] [.row .e81] G24
theorem c24 : ConOk Try.prog KK 24 con24:=cO (mkQ ⟨c55,trivial⟩ trivial trivial : Cons Try.prog X24) (fn:=Try.f24) (by kernel_rfl) (by kernel_rfl) (by kernel_rfl) (by kernel_rfl) (F24 fuel) (by kernel_rfl) (fun a0=>t24 fuel a0)
/-! ### f7 loop.example/wharfdesk/laws.toStewBook -/
noncomputable def X7 : Cx C:=mkX [(22,con22),(23,con23),(24,con24)] [] [] [] 458752 []
def F7 (n : Nat) : Cf:={ N:=n,keep:=[0,1,2,3],live:=lk [] }
noncomputable abbrev dec7:=deR KK [.el .e36]
noncomputable def G7n (n : Nat) (a0 : VStewBook) : Option (VStewBook) :=
 Option.bind (G22 a0.Services) fun r1 =>
 Option.bind (G23 a0.Copies) fun r2 =>
 Option.bind (G24 a0.Berths) fun r3 =>
 some ((⟨a0.Now,r1,r2,r3⟩ : VStewBook))
theorem t7 (n : Nat) (a0 : VStewBook) : runFn X7 (F7 n) Try.f7 [.agg [.int .i64 a0.Now,.row .e70 a0.Services,.row .e73 a0.Copies,.row .e76 a0.Berths]] dec7=G7n n a0:=by
  kernel_rfl
noncomputable def G7 (a0 : VStewBook) : Option (VStewBook):=G7n fuel a0
noncomputable def con7 : Con C:=mkC KK [.el .e26] [.el .e36] G7
theorem c7 : ConOk Try.prog KK 7 con7:=cO (mkQ ⟨c22,c23,c24,trivial⟩ trivial trivial : Cons Try.prog X7) (fn:=Try.f7) (by kernel_rfl) (by kernel_rfl) (by kernel_rfl) (by kernel_rfl) (F7 fuel) (by kernel_rfl) (fun a0=>t7 fuel a0)
/-! ### f56 loop.example/wharfdesk/laws.toStewEnd -/
noncomputable def X56 : Cx C:=mkX [] [] [] [] 3670016 []
def F56 (n : Nat) : Cf:={ N:=n,keep:=[0,1,2,3],live:=lk [] }
noncomputable abbrev dec56:=deR KK [.el .e89]
noncomputable def G56n (n : Nat) (a0 : VStewEnd) : Option (VStewEnd) :=
 some (a0)
theorem t56 (n : Nat) (a0 : VStewEnd) : runFn X56 (F56 n) Try.f56 [.agg [.int .i64 a0.Number,.int .i64 a0.Seen]] dec56=G56n n a0:=by
  kernel_rfl
noncomputable def G56 (a0 : VStewEnd) : Option (VStewEnd):=G56n fuel a0
noncomputable def con56 : Con C:=mkC KK [.el .e98] [.el .e89] G56
theorem c56 : ConOk Try.prog KK 56 con56:=cO (mkQ trivial trivial trivial : Cons Try.prog X56) (fn:=Try.f56) (by kernel_rfl) (by kernel_rfl) (by kernel_rfl) (by kernel_rfl) (F56 fuel) (by kernel_rfl) (fun a0=>t56 fuel a0)
/-! ### f25 loop.example/wharfdesk/laws.toStewEndS -/
noncomputable def X25 : Cx C:=mkX [(56,con56)] [] [] [] 1638400 []
def F25 (n : Nat) : Cf:={ N:=n,keep:=[0,2,3,4,11],live:=lk [(0,[0,3,4])] }
noncomputable abbrev dec25:=deR KK [.row .e89]
abbrev A25_0 : Type:=List (C .e98)×List (C .e89)×Int
def s25_0  : A25_0→St C:=fun (x0_0,x0_1,x0_2)=>{ env:=[(0,.one (.row .e98 x0_0)),(3,.one (.ref 100003 [])),(4,.one (.int .i64 x0_2))],objs:=[(100003,.row .e89 x0_1 false)],base:=0 }
noncomputable def r25_0 (n : Nat)   (rec0 : A25_0→Option (List (C .e89))) : A25_0→Option (List (C .e89)):=fun (x0_0,x0_1,x0_2) =>
 cond (decide (x0_2<(x0_0.length : Int)))
 (cond (decide (0≤x0_2)) (Option.bind x0_0[x0_2.toNat]? fun e1=>Option.bind (G56 e1) fun r2 =>
 cond (decide (0≤x0_2)) (cond (decide (x0_2<(x0_1.length : Int))) (Option.bind x0_1[x0_2.toNat]? fun e3=>rec0 ((x0_0,x0_1.set x0_2.toNat r2,IntKind.i64.wrap (x0_2+1)))) none) none) none)
 (some (x0_1))
noncomputable def LP25_0 (n : Nat)   (x : A25_0) : Option (List (C .e89)):=lpN (r25_0 n  ) n x
noncomputable def MP25_0 (n : Nat)   (x : A25_0) : Option (List (C .e89)):=iter (fun rec S=>run X25 (F25 n) (codeAt (bodyOf Try.f25) [1,1,0,1,0,0]) 0 S (lopK rec (blkK 0 (seqK (run X25 (F25 n) (codeAt (bodyOf Try.f25) [1,1,1]) 0) (kTop X25 Try.f25 dec25))))) [0,3,4] n (s25_0  x)
theorem m25_0 (n : Nat)   (x : A25_0) : MP25_0 n   x=LP25_0 n   x:=by
  refine iter_eq (s25_0 ) (r25_0 n  ) (fun rec0 x => ?_) n x
  obtain ⟨x0_0,x0_1,x0_2⟩:=x
  kernel_rfl
noncomputable def G25n (n : Nat) (a0 : List (C .e98)) : Option (List (C .e89)) :=
 cond (decide ((a0.length : Int)=(a0.length : Int))) (cond (decide (0≤(a0.length : Int))) (cond (decide ((a0.length : Int)*16≤140737488355328)) (LP25_0 n    ((a0,List.replicate (a0.length : Int).toNat (⟨0,0⟩ : C .e89),0))) none) none) none
theorem t25 (n : Nat) (a0 : List (C .e98)) : runFn X25 (F25 n) Try.f25 [.one (.row .e98 a0)] dec25=G25n n a0:=by
  refine Eq.trans (b :=
   cond (decide ((a0.length : Int)=(a0.length : Int))) (cond (decide (0≤(a0.length : Int))) (cond (decide ((a0.length : Int)*16≤140737488355328)) (MP25_0 n    ((a0,List.replicate (a0.length : Int).toNat (⟨0,0⟩ : C .e89),0))) none) none) none) (by kernel_rfl) ?_
  simp only [G25n,m25_0]
noncomputable def G25 (a0 : List (C .e98)) : Option (List (C .e89)):=G25n fuel a0
noncomputable def con25 : Con C:=mkC KK [.row .e98] [.row .e89] G25
theorem c25 : ConOk Try.prog KK 25 con25:=cO (mkQ ⟨c56,trivial⟩ trivial trivial : Cons Try.prog X25) (fn:=Try.f25) (by kernel_rfl) (by kernel_rfl) (by kernel_rfl) (by kernel_rfl) (F25 fuel) (by kernel_rfl) (fun a0=>t25 fuel a0)
/-! ### f8 loop.example/wharfdesk/laws.toStewAct -/
noncomputable def X8 : Cx C:=mkX [(25,con25)] [] [] [] 524288 []
def F8 (n : Nat) : Cf:={ N:=n,keep:=[0,1,2,3],live:=lk [] }
noncomputable abbrev dec8:=deR KK [.el .e42]
noncomputable def G8n (n : Nat) (a0 : VStewAct) : Option (VStewAct) :=
 Option.bind (G25 a0.Ends) fun r1 =>
 some ((⟨a0.Service,a0.Seen,a0.Create,a0.Want,a0.Cool,a0.Scale,r1,a0.Drop⟩ : VStewAct))
theorem t8 (n : Nat) (a0 : VStewAct) : runFn X8 (F8 n) Try.f8 [.agg [.str a0.Service,.int .i64 a0.Seen,.int .i64 a0.Create,.int .i64 a0.Want,.int .i64 a0.Cool,.bool a0.Scale,.row .e98 a0.Ends,.bool a0.Drop]] dec8=G8n n a0:=by
  kernel_rfl
noncomputable def G8 (a0 : VStewAct) : Option (VStewAct):=G8n fuel a0
noncomputable def con8 : Con C:=mkC KK [.el .e29] [.el .e42] G8
theorem c8 : ConOk Try.prog KK 8 con8:=cO (mkQ ⟨c25,trivial⟩ trivial trivial : Cons Try.prog X8) (fn:=Try.f8) (by kernel_rfl) (by kernel_rfl) (by kernel_rfl) (by kernel_rfl) (F8 fuel) (by kernel_rfl) (fun a0=>t8 fuel a0)
/-! ### f57 loop.example/wharfdesk/impl.within -/
noncomputable def X57 : Cx C:=mkX [] [] [] [] 3735552 []
def F57 (n : Nat) : Cf:={ N:=n,keep:=[0,1,2,6],live:=lk [] }
noncomputable abbrev dec57:=deR KK [.bool]
noncomputable def G57n (n : Nat) (a0 : Int) (a1 : Int) (a2 : Int) : Option (Bool) :=
 cond (decide (a0≥a1))
 (some (decide (a0≤a2)))
 (some (false))
theorem t57 (n : Nat) (a0 : Int) (a1 : Int) (a2 : Int) : runFn X57 (F57 n) Try.f57 [.one (.int .i64 a0),.one (.int .i64 a1),.one (.int .i64 a2)] dec57=G57n n a0 a1 a2:=by
  kernel_rfl
noncomputable def G57 (a0 : Int) (a1 : Int) (a2 : Int) : Option (Bool):=G57n fuel a0 a1 a2
noncomputable def con57 : Con C:=mkC KK [.int .i64,.int .i64,.int .i64] [.bool] G57
theorem c57 : ConOk Try.prog KK 57 con57:=cO (mkQ trivial trivial trivial : Cons Try.prog X57) (fn:=Try.f57) (by kernel_rfl) (by kernel_rfl) (by kernel_rfl) (by kernel_rfl) (F57 fuel) (by kernel_rfl) (fun a0 a1 a2=>t57 fuel a0 a1 a2)
/-! ### f59 loop.example/wharfdesk/impl.isName_stew -/
noncomputable def X59 : Cx C:=mkX [] [] [] [] 3866624 []
def F59 (n : Nat) : Cf:={ N:=n,keep:=[0,2,3,4,12,14,15,16,39],live:=lk [(0,[0,14,15])] }
noncomputable abbrev dec59:=deR KK [.bool]
abbrev A59_0 : Type:=Int
section
variable (x0 : ByteArray) (x1 : Int)
def s59_0 : A59_0→St C:=fun x2=>{ env:=[(0,.one (.str x0)),(14,.one (.int .i64 x1)),(15,.one (.int .i64 x2))],objs:=[],base:=0 }
end
noncomputable def r59_0 (x0 : ByteArray) (x1 : Int) (n : Nat)   (rec0 : A59_0→Option (Bool)) : A59_0→Option (Bool):=fun x2 =>
 cond (decide (x2<x1))
 (cond (decide (0≤x2)) (cond (decide (x2<(x0.size : Int))) (cond (decide ((sbt x0 x2)≥97))
 (cond (decide ((sbt x0 x2)≤122))
 (rec0 (IntKind.i64.wrap (x2+1)))
 (cond (decide ((sbt x0 x2)≥48))
 (cond (decide ((sbt x0 x2)≤57))
 (rec0 (IntKind.i64.wrap (x2+1)))
 (cond (!((sbt x0 x2) == 45))
 (some (false))
 (rec0 (IntKind.i64.wrap (x2+1)))))
 (cond (!((sbt x0 x2) == 45))
 (some (false))
 (rec0 (IntKind.i64.wrap (x2+1))))))
 (cond (decide ((sbt x0 x2)≥48))
 (cond (decide ((sbt x0 x2)≤57))
 (rec0 (IntKind.i64.wrap (x2+1)))
 (cond (!((sbt x0 x2) == 45))
 (some (false))
 (rec0 (IntKind.i64.wrap (x2+1)))))
 (cond (!((sbt x0 x2) == 45))
 (some (false))
 (rec0 (IntKind.i64.wrap (x2+1)))))) none) none)
 (some (true))
section
variable (x0 : ByteArray) (x1 : Int)
noncomputable def MP59_0 (n : Nat)  (x : A59_0) : Option (Bool):=iter (fun rec S=>run X59 (F59 n) (codeAt (bodyOf Try.f59) [1,1,0,1,0,0]) 0 S (lopK rec (blkK 0 (seqK (run X59 (F59 n) (codeAt (bodyOf Try.f59) [1,1,1]) 0) (kTop X59 Try.f59 dec59))))) [0,14,15] n (s59_0 x0 x1 x)
theorem m59_0 (n : Nat)  (x : A59_0) : MP59_0 x0 x1 n  x=lpN (r59_0 x0 x1 n  ) n x:=by
  refine iter_eq (s59_0 x0 x1) (r59_0 x0 x1 n  ) (fun rec0 x2 => ?_) n x
  kernel_rfl
end
noncomputable def G59n (n : Nat) (a0 : ByteArray) : Option (Bool) :=
 cond (decide ((a0.size : Int)<1))
 (some (false))
 (cond (decide ((a0.size : Int)>20))
 (some (false))
 (lpN (r59_0 a0 (a0.size : Int) n ) n 0))
theorem t59 (n : Nat) (a0 : ByteArray) : runFn X59 (F59 n) Try.f59 [.one (.str a0)] dec59=G59n n a0:=by
  refine Eq.trans (b :=
   cond (decide ((a0.size : Int)<1))
   (some (false))
   (cond (decide ((a0.size : Int)>20))
   (some (false))
   (MP59_0 a0 (a0.size : Int) n   0))) (by kernel_rfl) ?_
  simp only [G59n,m59_0]
noncomputable def G59 (a0 : ByteArray) : Option (Bool):=G59n fuel a0
noncomputable def con59 : Con C:=mkC KK [.str] [.bool] G59
theorem c59 : ConOk Try.prog KK 59 con59:=cO (mkQ trivial trivial trivial : Cons Try.prog X59) (fn:=Try.f59) (by kernel_rfl) (by kernel_rfl) (by kernel_rfl) (by kernel_rfl) (F59 fuel) (by kernel_rfl) (fun a0=>t59 fuel a0)
/-! ### f58 loop.example/wharfdesk/impl.serviceOk -/
noncomputable def X58 : Cx C:=mkX [(57,con57),(59,con59)] [] [] [] 3801088 []
def F58 (n : Nat) : Cf:={ N:=n,keep:=[0,1,2,4,53,88],live:=lk [] }
noncomputable abbrev dec58:=deR KK [.bool]
noncomputable def G58n (n : Nat) (a0 : VStewService) (a1 : Int) : Option (Bool) :=
 Option.bind (G59 a0.Name) fun r1 =>
 cond (!r1)
 (some (false))
 (Option.bind (G57 a0.Version 1 a1) fun r2 =>
 cond (!r2)
 (some (false))
 (Option.bind (G57 a0.Image 1 1000000) fun r3 =>
 cond (!r3)
 (some (false))
 (Option.bind (G57 a0.Next 1 1000000) fun r4 =>
 cond (!r4)
 (some (false))
 (Option.bind (G57 a0.Want 0 10) fun r5 =>
 cond (!r5)
 (some (false))
 (Option.bind (G57 a0.Down 0 10) fun r6 =>
 cond (!r6)
 (some (false))
 (Option.bind (G57 a0.Over 0 10) fun r7 =>
 cond (!r7)
 (some (false))
 (cond ((IntKind.i64.wrap (a0.Down+a0.Over)) == 0)
 (some (false))
 (Option.bind (G57 a0.Per 0 1000000) fun r8 =>
 cond (!r8)
 (some (false))
 (Option.bind (G57 a0.Load 0 1000000) fun r9 =>
 cond (!r9)
 (some (false))
 (Option.bind (G57 a0.Least 0 10) fun r10 =>
 cond (!r10)
 (some (false))
 (Option.bind (G57 a0.Most 0 10) fun r11 =>
 cond (!r11)
 (some (false))
 (cond (decide (a0.Least>a0.Most))
 (some (false))
 (Option.bind (G57 a0.Cool 0 3) fun r12 =>
 cond (!r12)
 (some (false))
 (cond (decide (a0.Per>0))
 (some (true))
 (cond (a0.Least == 0)
 (cond (a0.Most == 0)
 (cond (a0.Load == 0)
 (some (a0.Cool == 0))
 (some (false)))
 (some (false)))
 (some (false)))))))))))))))))
theorem t58 (n : Nat) (a0 : VStewService) (a1 : Int) : runFn X58 (F58 n) Try.f58 [.agg [.str a0.Name,.int .i64 a0.Version,.bool a0.Gone,.int .i64 a0.Image,.int .i64 a0.Want,.int .i64 a0.Down,.int .i64 a0.Over,.int .i64 a0.Next,.int .i64 a0.Per,.int .i64 a0.Least,.int .i64 a0.Most,.int .i64 a0.Load,.int .i64 a0.Cool],.one (.int .i64 a1)] dec58=G58n n a0 a1:=by
  kernel_rfl
noncomputable def G58 (a0 : VStewService) (a1 : Int) : Option (Bool):=G58n fuel a0 a1
noncomputable def con58 : Con C:=mkC KK [.el .e79,.int .i64] [.bool] G58
theorem c58 : ConOk Try.prog KK 58 con58:=cO (mkQ ⟨c57,c59,trivial⟩ trivial trivial : Cons Try.prog X58) (fn:=Try.f58) (by kernel_rfl) (by kernel_rfl) (by kernel_rfl) (by kernel_rfl) (F58 fuel) (by kernel_rfl) (fun a0 a1=>t58 fuel a0 a1)
/-! ### f60 (*loop.example/wharfdesk/impl.StewBook).service,run in place -/
noncomputable def X60 : Cx C:=mkX [] [] [] [] 3932160 []
def F60 (n : Nat) : Cf:={ N:=n,keep:=[0,1,4,5,10,11,12,23],live:=lk [(0,[0,1,10,11])] }
noncomputable def I60 (n : Nat) : Inl C:=inlOf X60 (F60 n) Try.f60
theorem i60 (n : Nat) : InlOk Try.prog KK 60 (I60 n):=iO (mkQ trivial trivial trivial : Cons Try.prog X60) (F60 n) (fn:=Try.f60) (by kernel_rfl) (by kernel_rfl) (by kernel_rfl) (by kernel_rfl)
/-! ### f61 (*loop.example/wharfdesk/impl.StewBook).berth,run in place -/
noncomputable def X61 : Cx C:=mkX [] [] [] [] 3997696 []
def F61 (n : Nat) : Cf:={ N:=n,keep:=[0,1,4,5,10,11,12,23],live:=lk [(0,[0,1,10,11])] }
noncomputable def I61 (n : Nat) : Inl C:=inlOf X61 (F61 n) Try.f61
theorem i61 (n : Nat) : InlOk Try.prog KK 61 (I61 n):=iO (mkQ trivial trivial trivial : Cons Try.prog X61) (F61 n) (fn:=Try.f61) (by kernel_rfl) (by kernel_rfl) (by kernel_rfl) (by kernel_rfl)

end Go.Proofs.Ytakakoogpmhhkaa.Ab

/- The functions that the law calls,written plainly,and their contracts: each call answers what its plain function answers. No conditions. -/
set_option linter.unusedVariables false
set_option linter.unusedSimpArgs false
set_option maxRecDepth 100000
namespace Go.Proofs.Ytakakoogpmhhkaa.Ab
open Go Go.RowKit
/-! ### f26 loop.example/wharfdesk/impl.StewValid -/
noncomputable def X26 (n : Nat) : Cx C:=mkX [(57,con57),(58,con58),(59,con59)] [] [(60,I60 n),(61,I61 n)] [1,7,8,9,93,94,95,102,144,148,151,152,153,154] 1703936 []
def F26 (n : Nat) : Cf:={ N:=n,keep:=[0,1,2,3,4,5,6,7,8,9,10,32,34,35,36,37,61,64,65,66,67,90,93,94,95,96,135,154,156,181],live:=lk [(0,[1,34,35,36]),(2,[1,64,65,66]),(4,[1,93,94,95])] }
noncomputable abbrev dec26:=deR KK [.bool]
abbrev A26_4 : Type:=Int
abbrev A26_3 : Type:=Int
abbrev A26_2 : Type:=Int
abbrev A26_1 : Type:=Int
abbrev A26_0 : Type:=Int
section
variable (x0 : ByteArray) (x1 : Int) (x3 : Int) (x4 : C .e79) (x5 : List (C .e83)) (x6 : Int) (x7 : Int) (x8 : Bool) (x9 : Bool) (x10 : Int) (x11 : List (C .e79)) (x12 : List (C .e83)) (x13 : List (C .e81)) (x14 : ByteArray) (x15 : Int) (x16 : Int) (x17 : Int) (x18 : Int) (x19 : Bool) (x20 : ByteArray)
def s26_4 : A26_4→St C:=fun x2=>{ env:=[(0,.one (.ptr 1704000 0)),(1,.one (.str x0)),(10,.one (.int .i64 x1)),(11,.one (.int .i64 x2)),(1001,.sus (false,[.ptr 1704000 0]) 152001),(1007,.sus (false,[.int .i64 x3]) 152007),(1008,.sus (false,[.ptr 1704448 0]) 152008),(1009,.sus (false,[.elt .e79 x4 0]) 152009),(1093,.sus (false,[.row .e83 x5]) 152093),(1094,.sus (false,[.int .i64 x6]) 152094),(1095,.sus (false,[.int .i64 x7]) 152095),(1144,.sus (false,[.bool x8]) 152144),(1148,.sus (false,[.bool x9]) 152148)],objs:=[(1704000,.box .mem [.int .i64 x10,.row .e79 x11,.row .e83 x12,.row .e81 x13]),(1704448,.box .mem [.str x14,.int .i64 x15,.int .i64 x16,.int .i64 x17,.int .i64 x18,.bool x19,.str x20])],base:=152000 }
end
noncomputable def r26_4 (x0 : ByteArray) (x1 : Int) (x3 : Int) (x7 : Int) (x8 : Bool) (x9 : Bool) (x12 : List (C .e83)) (x13 : List (C .e81)) (x14 : ByteArray) (x15 : Int) (n : Nat)  (rec2 : A26_2→Option (Bool)) (rec4 : A26_4→Option (Bool)) : A26_4→Option (Bool):=fun x2 =>
 cond (decide (x2<x1))
 (cond (decide (0≤x2)) (Option.bind x13[x2.toNat]? fun e15=>cond (decide (e15.Name=x0))
 (cond (decide (0≤x2)) (Option.bind x13[x2.toNat]? fun e16=>cond x9
 (cond x8
 (some (false))
 (cond (decide (x3>0))
 (cond (decide (0≤IntKind.i64.wrap (x3 - 1))) (Option.bind x12[(IntKind.i64.wrap (x3 - 1)).toNat]? fun e17=>cond (slt x14 e17.Service)
 (some (false))
 (cond (decide (x14=e17.Service))
 (cond (decide (x15≤e17.Number))
 (some (false))
 (rec2 (IntKind.i64.wrap (x7+1))))
 (rec2 (IntKind.i64.wrap (x7+1))))) none)
 (rec2 (IntKind.i64.wrap (x7+1)))))
 (cond x8
 (some (false))
 (cond (decide (x3>0))
 (cond (decide (0≤IntKind.i64.wrap (x3 - 1))) (Option.bind x12[(IntKind.i64.wrap (x3 - 1)).toNat]? fun e18=>cond (slt x14 e18.Service)
 (some (false))
 (cond (decide (x14=e18.Service))
 (cond (decide (x15≤e18.Number))
 (some (false))
 (rec2 (IntKind.i64.wrap (x7+1))))
 (rec2 (IntKind.i64.wrap (x7+1))))) none)
 (rec2 (IntKind.i64.wrap (x7+1)))))) none)
 (rec4 (IntKind.i64.wrap (x2+1)))) none)
 (cond x9
 (cond x8
 (some (false))
 (some (false)))
 (cond x8
 (some (false))
 (cond (decide (x3>0))
 (cond (decide (0≤IntKind.i64.wrap (x3 - 1))) (Option.bind x12[(IntKind.i64.wrap (x3 - 1)).toNat]? fun e19=>cond (slt x14 e19.Service)
 (some (false))
 (cond (decide (x14=e19.Service))
 (cond (decide (x15≤e19.Number))
 (some (false))
 (rec2 (IntKind.i64.wrap (x7+1))))
 (rec2 (IntKind.i64.wrap (x7+1))))) none)
 (rec2 (IntKind.i64.wrap (x7+1))))))
section
variable (x0 : ByteArray) (x1 : Int) (x3 : Int) (x4 : List (C .e83)) (x5 : Int) (x6 : Int) (x7 : Int) (x8 : List (C .e79)) (x9 : List (C .e83)) (x10 : List (C .e81)) (x11 : ByteArray) (x12 : Int) (x13 : Int) (x14 : Int) (x15 : Int) (x16 : Bool) (x17 : ByteArray)
def s26_3 : A26_3→St C:=fun x2=>{ env:=[(0,.one (.ptr 1704000 0)),(1,.one (.str x0)),(10,.one (.int .i64 x1)),(11,.one (.int .i64 x2)),(1001,.sus (false,[.ptr 1704000 0]) 103001),(1007,.sus (false,[.int .i64 x3]) 103007),(1008,.sus (false,[.ptr 1704448 0]) 103008),(1093,.sus (false,[.row .e83 x4]) 103093),(1094,.sus (false,[.int .i64 x5]) 103094),(1095,.sus (false,[.int .i64 x6]) 103095)],objs:=[(1704000,.box .mem [.int .i64 x7,.row .e79 x8,.row .e83 x9,.row .e81 x10]),(1704448,.box .mem [.str x11,.int .i64 x12,.int .i64 x13,.int .i64 x14,.int .i64 x15,.bool x16,.str x17])],base:=103000 }
end
noncomputable def r26_3 (x0 : ByteArray) (x1 : Int) (x3 : Int) (x6 : Int) (x7 : Int) (x8 : List (C .e79)) (x9 : List (C .e83)) (x10 : List (C .e81)) (x11 : ByteArray) (x12 : Int) (x13 : Int) (x14 : Int) (x15 : Int) (x17 : ByteArray) (n : Nat)  (rec2 : A26_2→Option (Bool)) (rec3 : A26_3→Option (Bool)) : A26_3→Option (Bool):=fun x2 =>
 cond (decide (x2<x1))
 (cond (decide (0≤x2)) (Option.bind x8[x2.toNat]? fun e9=>cond (decide (e9.Name=x0))
 (cond (decide (0≤x2)) (Option.bind x8[x2.toNat]? fun e10=>Option.bind (G57 x12 1 (IntKind.i64.wrap (e10.Next - 1))) fun r11 =>
 cond (!r11)
 (some (false))
 (Option.bind (G57 x13 1 x7) fun r12 =>
 cond (!r12)
 (some (false))
 (Option.bind (G57 x14 1 1000000) fun r13 =>
 cond (!r13)
 (some (false))
 (Option.bind (G57 x15 1 4) fun r14 =>
 cond (!r14)
 (some (false))
 (cond (x15 == 1)
 (cond (!decide (x17=(⟨#[]⟩ : ByteArray)))
 (some (false))
 (cond (x15 != 1)
 (lpN (r26_4 x17 (x10.length : Int) x3 x6 false true x9 x10 x11 x12 n rec2) n 0)
 (cond (decide (x3>0))
 (cond (decide (0≤IntKind.i64.wrap (x3 - 1))) (Option.bind x9[(IntKind.i64.wrap (x3 - 1)).toNat]? fun e20=>cond (slt x11 e20.Service)
 (some (false))
 (cond (decide (x11=e20.Service))
 (cond (decide (x12≤e20.Number))
 (some (false))
 (rec2 (IntKind.i64.wrap (x6+1))))
 (rec2 (IntKind.i64.wrap (x6+1))))) none)
 (rec2 (IntKind.i64.wrap (x6+1))))))
 (cond (x15 != 1)
 (lpN (r26_4 x17 (x10.length : Int) x3 x6 false true x9 x10 x11 x12 n rec2) n 0)
 (cond (decide (x3>0))
 (cond (decide (0≤IntKind.i64.wrap (x3 - 1))) (Option.bind x9[(IntKind.i64.wrap (x3 - 1)).toNat]? fun e21=>cond (slt x11 e21.Service)
 (some (false))
 (cond (decide (x11=e21.Service))
 (cond (decide (x12≤e21.Number))
 (some (false))
 (rec2 (IntKind.i64.wrap (x6+1))))
 (rec2 (IntKind.i64.wrap (x6+1))))) none)
 (rec2 (IntKind.i64.wrap (x6+1)))))))))) none)
 (rec3 (IntKind.i64.wrap (x2+1)))) none)
 (some (false))
section
variable (x0 : List (C .e83)) (x1 : Int) (x3 : Int) (x4 : List (C .e79)) (x5 : List (C .e83)) (x6 : List (C .e81))
def s26_2 : A26_2→St C:=fun x2=>{ env:=[(1,.one (.ptr 1704000 0)),(93,.one (.row .e83 x0)),(94,.one (.int .i64 x1)),(95,.one (.int .i64 x2))],objs:=[(1704000,.box .mem [.int .i64 x3,.row .e79 x4,.row .e83 x5,.row .e81 x6])],base:=0 }
end
noncomputable def r26_2 (x0 : List (C .e83)) (x1 : Int) (x3 : Int) (x4 : List (C .e79)) (x5 : List (C .e83)) (x6 : List (C .e81)) (n : Nat)   (rec2 : A26_2→Option (Bool)) : A26_2→Option (Bool):=fun x2 =>
 cond (decide (x2<x1))
 (cond (decide (0≤x2)) (Option.bind x0[x2.toNat]? fun e8=>lpN (r26_3 e8.Service (x4.length : Int) x2 x2 x3 x4 x5 x6 e8.Service e8.Number e8.Version e8.Image e8.State e8.Berth n rec2) n 0) none)
 (some (true))
section
variable (x0 : List (C .e81)) (x1 : Int) (x3 : Int) (x4 : List (C .e79)) (x5 : List (C .e83)) (x6 : List (C .e81))
def s26_1 : A26_1→St C:=fun x2=>{ env:=[(1,.one (.ptr 1704000 0)),(64,.one (.row .e81 x0)),(65,.one (.int .i64 x1)),(66,.one (.int .i64 x2))],objs:=[(1704000,.box .mem [.int .i64 x3,.row .e79 x4,.row .e83 x5,.row .e81 x6])],base:=0 }
end
noncomputable def r26_1 (x0 : List (C .e81)) (x1 : Int) (x3 : Int) (x4 : List (C .e79)) (x5 : List (C .e83)) (x6 : List (C .e81)) (n : Nat)   (rec1 : A26_1→Option (Bool)) : A26_1→Option (Bool):=fun x2 =>
 cond (decide (x2<x1))
 (cond (decide (0≤x2)) (Option.bind x0[x2.toNat]? fun e5=>Option.bind (G59 e5.Name) fun r6 =>
 cond (!r6)
 (some (false))
 (cond (decide (x2>0))
 (cond (decide (0≤IntKind.i64.wrap (x2 - 1))) (Option.bind x6[(IntKind.i64.wrap (x2 - 1)).toNat]? fun e7=>cond (!slt e7.Name e5.Name)
 (some (false))
 (rec1 (IntKind.i64.wrap (x2+1)))) none)
 (rec1 (IntKind.i64.wrap (x2+1))))) none)
 (lpN (r26_2 x5 (x5.length : Int) x3 x4 x5 x6 n ) n 0)
section
variable (x0 : List (C .e79)) (x1 : Int) (x3 : Int) (x4 : List (C .e79)) (x5 : List (C .e83)) (x6 : List (C .e81))
def s26_0 : A26_0→St C:=fun x2=>{ env:=[(1,.one (.ptr 1704000 0)),(34,.one (.row .e79 x0)),(35,.one (.int .i64 x1)),(36,.one (.int .i64 x2))],objs:=[(1704000,.box .mem [.int .i64 x3,.row .e79 x4,.row .e83 x5,.row .e81 x6])],base:=0 }
end
noncomputable def r26_0 (x0 : List (C .e79)) (x1 : Int) (x3 : Int) (x4 : List (C .e79)) (x5 : List (C .e83)) (x6 : List (C .e81)) (n : Nat)   (rec0 : A26_0→Option (Bool)) : A26_0→Option (Bool):=fun x2 =>
 cond (decide (x2<x1))
 (cond (decide (0≤x2)) (Option.bind x0[x2.toNat]? fun e2=>Option.bind (G58 e2 x3) fun r3 =>
 cond (!r3)
 (some (false))
 (cond (decide (x2>0))
 (cond (decide (0≤IntKind.i64.wrap (x2 - 1))) (Option.bind x4[(IntKind.i64.wrap (x2 - 1)).toNat]? fun e4=>cond (!slt e4.Name e2.Name)
 (some (false))
 (rec0 (IntKind.i64.wrap (x2+1)))) none)
 (rec0 (IntKind.i64.wrap (x2+1))))) none)
 (lpN (r26_1 x6 (x6.length : Int) x3 x4 x5 x6 n ) n 0)
section
variable (x0 : ByteArray) (x1 : Int) (x3 : Int) (x4 : C .e79) (x5 : List (C .e83)) (x6 : Int) (x7 : Int) (x8 : Bool) (x9 : Bool) (x10 : Int) (x11 : List (C .e79)) (x12 : List (C .e83)) (x13 : List (C .e81)) (x14 : ByteArray) (x15 : Int) (x16 : Int) (x17 : Int) (x18 : Int) (x19 : Bool) (x20 : ByteArray)
noncomputable def MP26_4 (n : Nat) (rec2 : St C→Option (Bool)) (x : A26_4) : Option (Bool):=iter (fun rec S=>run X61 (F61 n) (codeAt (bodyOf Try.f61) [1,0,1,0,0]) 0 S (lopK rec (blkK 0 (seqK (run X61 (F61 n) (codeAt (bodyOf Try.f61) [1,1]) 0) (inlK X61 Try.f61 (callK 151000 0 (some 151) (restK (X26 n) (codeAt (bodyOf Try.f26) [1,1,1,1,0,1,0,0,1,1,0,0,1,1,1,0,0]) 16 (regK (F26 n) (seqK (run (X26 n) (F26 n) (codeAt (bodyOf Try.f26) [1,1,1,1,0,1,0,0,1,1,0,0,1,1,1,0,1]) 5) (seqK (run (X26 n) (F26 n) (codeAt (bodyOf Try.f26) [1,1,1,1,0,1,0,0,1,1,0,0,1,1,1,1]) 5) (blkK 5 (seqK (run (X26 n) (F26 n) (codeAt (bodyOf Try.f26) [1,1,1,1,0,1,0,0,1,1,1]) 4) (lopK (canThen [1,93,94,95] rec2) (blkK 4 (seqK (run (X26 n) (F26 n) (codeAt (bodyOf Try.f26) [1,1,1,1,1]) 0) (kTop (X26 n) Try.f26 dec26)))))))))))))))) [0,1,10,11] n (s26_4 x0 x1 x3 x4 x5 x6 x7 x8 x9 x10 x11 x12 x13 x14 x15 x16 x17 x18 x19 x20 x)
theorem m26_4 (n : Nat) (rec2 : St C→Option (Bool)) (x : A26_4) : MP26_4 x0 x1 x3 x4 x5 x6 x7 x8 x9 x10 x11 x12 x13 x14 x15 x16 x17 x18 x19 x20 n rec2 x=lpN (r26_4 x0 x1 x3 x7 x8 x9 x12 x13 x14 x15 n  (fun x=>rec2 (s26_2 x5 x6 x10 x11 x12 x13 x))) n x:=by
  refine iter_eq (s26_4 x0 x1 x3 x4 x5 x6 x7 x8 x9 x10 x11 x12 x13 x14 x15 x16 x17 x18 x19 x20) (r26_4 x0 x1 x3 x7 x8 x9 x12 x13 x14 x15 n  (fun x=>rec2 (s26_2 x5 x6 x10 x11 x12 x13 x))) (fun rec4 x2 => ?_) n x
  kernel_rfl
end
section
variable (x0 : ByteArray) (x1 : Int) (x3 : Int) (x4 : List (C .e83)) (x5 : Int) (x6 : Int) (x7 : Int) (x8 : List (C .e79)) (x9 : List (C .e83)) (x10 : List (C .e81)) (x11 : ByteArray) (x12 : Int) (x13 : Int) (x14 : Int) (x15 : Int) (x16 : Bool) (x17 : ByteArray)
noncomputable def MP26_3 (n : Nat) (rec2 : St C→Option (Bool)) (x : A26_3) : Option (Bool):=iter (fun rec S=>run X60 (F60 n) (codeAt (bodyOf Try.f60) [1,0,1,0,0]) 0 S (lopK rec (blkK 0 (seqK (run X60 (F60 n) (codeAt (bodyOf Try.f60) [1,1]) 0) (inlK X60 Try.f60 (callK 102000 0 (some 102) (restK (X26 n) (codeAt (bodyOf Try.f26) [1,1,1,1,0,1,0,0,1,1,0,0,1,0]) 3 (regK (F26 n) (seqK (run (X26 n) (F26 n) (codeAt (bodyOf Try.f26) [1,1,1,1,0,1,0,0,1,1,0,0,1,1]) 5) (blkK 5 (seqK (run (X26 n) (F26 n) (codeAt (bodyOf Try.f26) [1,1,1,1,0,1,0,0,1,1,1]) 4) (lopK (canThen [1,93,94,95] rec2) (blkK 4 (seqK (run (X26 n) (F26 n) (codeAt (bodyOf Try.f26) [1,1,1,1,1]) 0) (kTop (X26 n) Try.f26 dec26))))))))))))))) [0,1,10,11] n (s26_3 x0 x1 x3 x4 x5 x6 x7 x8 x9 x10 x11 x12 x13 x14 x15 x16 x17 x)
theorem m26_3 (n : Nat) (rec2 : St C→Option (Bool)) (x : A26_3) : MP26_3 x0 x1 x3 x4 x5 x6 x7 x8 x9 x10 x11 x12 x13 x14 x15 x16 x17 n rec2 x=lpN (r26_3 x0 x1 x3 x6 x7 x8 x9 x10 x11 x12 x13 x14 x15 x17 n  (fun x=>rec2 (s26_2 x4 x5 x7 x8 x9 x10 x))) n x:=by
  refine iter_eq (s26_3 x0 x1 x3 x4 x5 x6 x7 x8 x9 x10 x11 x12 x13 x14 x15 x16 x17) (r26_3 x0 x1 x3 x6 x7 x8 x9 x10 x11 x12 x13 x14 x15 x17 n  (fun x=>rec2 (s26_2 x4 x5 x7 x8 x9 x10 x))) (fun rec3 x2 => ?_) n x
  have h : run X60 (F60 n) (codeAt (bodyOf Try.f60) [1,0,1,0,0]) 0 (s26_3 x0 x1 x3 x4 x5 x6 x7 x8 x9 x10 x11 x12 x13 x14 x15 x16 x17 x2) (lopK (canThen [0,1,10,11] rec3) (blkK 0 (seqK (run X60 (F60 n) (codeAt (bodyOf Try.f60) [1,1]) 0) (inlK X60 Try.f60 (callK 102000 0 (some 102) (restK (X26 n) (codeAt (bodyOf Try.f26) [1,1,1,1,0,1,0,0,1,1,0,0,1,0]) 3 (regK (F26 n) (seqK (run (X26 n) (F26 n) (codeAt (bodyOf Try.f26) [1,1,1,1,0,1,0,0,1,1,0,0,1,1]) 5) (blkK 5 (seqK (run (X26 n) (F26 n) (codeAt (bodyOf Try.f26) [1,1,1,1,0,1,0,0,1,1,1]) 4) (lopK (canThen [1,93,94,95] rec2) (blkK 4 (seqK (run (X26 n) (F26 n) (codeAt (bodyOf Try.f26) [1,1,1,1,1]) 0) (kTop (X26 n) Try.f26 dec26)))))))))))))) =
   cond (decide (x2<x1))
   (cond (decide (0≤x2)) (Option.bind x8[x2.toNat]? fun e9=>cond (decide (e9.Name=x0))
   (cond (decide (0≤x2)) (Option.bind x8[x2.toNat]? fun e10=>Option.bind (G57 x12 1 (IntKind.i64.wrap (e10.Next - 1))) fun r11 =>
   cond (!r11)
   (some (false))
   (Option.bind (G57 x13 1 x7) fun r12 =>
   cond (!r12)
   (some (false))
   (Option.bind (G57 x14 1 1000000) fun r13 =>
   cond (!r13)
   (some (false))
   (Option.bind (G57 x15 1 4) fun r14 =>
   cond (!r14)
   (some (false))
   (cond (x15 == 1)
   (cond (!decide (x17=(⟨#[]⟩ : ByteArray)))
   (some (false))
   (cond (x15 != 1)
   (MP26_4 x17 (x10.length : Int) x3 e10 x4 x5 x6 false true x7 x8 x9 x10 x11 x12 x13 x14 x15 x16 x17 n  rec2 0)
   (cond (decide (x3>0))
   (cond (decide (0≤IntKind.i64.wrap (x3 - 1))) (Option.bind x9[(IntKind.i64.wrap (x3 - 1)).toNat]? fun e20=>cond (slt x11 e20.Service)
   (some (false))
   (cond (decide (x11=e20.Service))
   (cond (decide (x12≤e20.Number))
   (some (false))
   ((fun x=>rec2 (s26_2 x4 x5 x7 x8 x9 x10 x)) (IntKind.i64.wrap (x6+1))))
   ((fun x=>rec2 (s26_2 x4 x5 x7 x8 x9 x10 x)) (IntKind.i64.wrap (x6+1))))) none)
   ((fun x=>rec2 (s26_2 x4 x5 x7 x8 x9 x10 x)) (IntKind.i64.wrap (x6+1))))))
   (cond (x15 != 1)
   (MP26_4 x17 (x10.length : Int) x3 e10 x4 x5 x6 false true x7 x8 x9 x10 x11 x12 x13 x14 x15 x16 x17 n  rec2 0)
   (cond (decide (x3>0))
   (cond (decide (0≤IntKind.i64.wrap (x3 - 1))) (Option.bind x9[(IntKind.i64.wrap (x3 - 1)).toNat]? fun e21=>cond (slt x11 e21.Service)
   (some (false))
   (cond (decide (x11=e21.Service))
   (cond (decide (x12≤e21.Number))
   (some (false))
   ((fun x=>rec2 (s26_2 x4 x5 x7 x8 x9 x10 x)) (IntKind.i64.wrap (x6+1))))
   ((fun x=>rec2 (s26_2 x4 x5 x7 x8 x9 x10 x)) (IntKind.i64.wrap (x6+1))))) none)
   ((fun x=>rec2 (s26_2 x4 x5 x7 x8 x9 x10 x)) (IntKind.i64.wrap (x6+1)))))))))) none)
   ((fun x=>rec3 (s26_3 x0 x1 x3 x4 x5 x6 x7 x8 x9 x10 x11 x12 x13 x14 x15 x16 x17 x)) (IntKind.i64.wrap (x2+1)))) none)
   (some (false)):=by kernel_rfl
  simp only [m26_4] at h
  exact h
end
section
variable (x0 : List (C .e83)) (x1 : Int) (x3 : Int) (x4 : List (C .e79)) (x5 : List (C .e83)) (x6 : List (C .e81))
noncomputable def MP26_2 (n : Nat)  (x : A26_2) : Option (Bool):=iter (fun rec S=>run (X26 n) (F26 n) (codeAt (bodyOf Try.f26) [1,1,1,1,0,1,0,0]) 4 S (lopK rec (blkK 4 (seqK (run (X26 n) (F26 n) (codeAt (bodyOf Try.f26) [1,1,1,1,1]) 0) (kTop (X26 n) Try.f26 dec26))))) [1,93,94,95] n (s26_2 x0 x1 x3 x4 x5 x6 x)
theorem m26_2 (n : Nat)  (x : A26_2) : MP26_2 x0 x1 x3 x4 x5 x6 n  x=lpN (r26_2 x0 x1 x3 x4 x5 x6 n  ) n x:=by
  refine iter_eq (s26_2 x0 x1 x3 x4 x5 x6) (r26_2 x0 x1 x3 x4 x5 x6 n  ) (fun rec2 x2 => ?_) n x
  have h : run (X26 n) (F26 n) (codeAt (bodyOf Try.f26) [1,1,1,1,0,1,0,0]) 4 (s26_2 x0 x1 x3 x4 x5 x6 x2) (lopK (canThen [1,93,94,95] rec2) (blkK 4 (seqK (run (X26 n) (F26 n) (codeAt (bodyOf Try.f26) [1,1,1,1,1]) 0) (kTop (X26 n) Try.f26 dec26)))) =
   cond (decide (x2<x1))
   (cond (decide (0≤x2)) (Option.bind x0[x2.toNat]? fun e8=>MP26_3 e8.Service (x4.length : Int) x2 x0 x1 x2 x3 x4 x5 x6 e8.Service e8.Number e8.Version e8.Image e8.State e8.Ending e8.Berth n  rec2 0) none)
   (some (true)):=by kernel_rfl
  simp only [m26_3] at h
  exact h
end
section
variable (x0 : List (C .e81)) (x1 : Int) (x3 : Int) (x4 : List (C .e79)) (x5 : List (C .e83)) (x6 : List (C .e81))
noncomputable def MP26_1 (n : Nat)  (x : A26_1) : Option (Bool):=iter (fun rec S=>run (X26 n) (F26 n) (codeAt (bodyOf Try.f26) [1,1,1,0,1,0,0]) 2 S (lopK rec (blkK 2 (seqK (run (X26 n) (F26 n) (codeAt (bodyOf Try.f26) [1,1,1,1]) 0) (kTop (X26 n) Try.f26 dec26))))) [1,64,65,66] n (s26_1 x0 x1 x3 x4 x5 x6 x)
theorem m26_1 (n : Nat)  (x : A26_1) : MP26_1 x0 x1 x3 x4 x5 x6 n  x=lpN (r26_1 x0 x1 x3 x4 x5 x6 n  ) n x:=by
  refine iter_eq (s26_1 x0 x1 x3 x4 x5 x6) (r26_1 x0 x1 x3 x4 x5 x6 n  ) (fun rec1 x2 => ?_) n x
  have h : run (X26 n) (F26 n) (codeAt (bodyOf Try.f26) [1,1,1,0,1,0,0]) 2 (s26_1 x0 x1 x3 x4 x5 x6 x2) (lopK (canThen [1,64,65,66] rec1) (blkK 2 (seqK (run (X26 n) (F26 n) (codeAt (bodyOf Try.f26) [1,1,1,1]) 0) (kTop (X26 n) Try.f26 dec26)))) =
   cond (decide (x2<x1))
   (cond (decide (0≤x2)) (Option.bind x0[x2.toNat]? fun e5=>Option.bind (G59 e5.Name) fun r6 =>
   cond (!r6)
   (some (false))
   (cond (decide (x2>0))
   (cond (decide (0≤IntKind.i64.wrap (x2 - 1))) (Option.bind x6[(IntKind.i64.wrap (x2 - 1)).toNat]? fun e7=>cond (!slt e7.Name e5.Name)
   (some (false))
   ((fun x=>rec1 (s26_1 x0 x1 x3 x4 x5 x6 x)) (IntKind.i64.wrap (x2+1)))) none)
   ((fun x=>rec1 (s26_1 x0 x1 x3 x4 x5 x6 x)) (IntKind.i64.wrap (x2+1))))) none)
   (MP26_2 x5 (x5.length : Int) x3 x4 x5 x6 n   0):=by kernel_rfl
  simp only [m26_2] at h
  exact h
end
section
variable (x0 : List (C .e79)) (x1 : Int) (x3 : Int) (x4 : List (C .e79)) (x5 : List (C .e83)) (x6 : List (C .e81))
noncomputable def MP26_0 (n : Nat)  (x : A26_0) : Option (Bool):=iter (fun rec S=>run (X26 n) (F26 n) (codeAt (bodyOf Try.f26) [1,1,0,1,0,0]) 0 S (lopK rec (blkK 0 (seqK (run (X26 n) (F26 n) (codeAt (bodyOf Try.f26) [1,1,1]) 0) (kTop (X26 n) Try.f26 dec26))))) [1,34,35,36] n (s26_0 x0 x1 x3 x4 x5 x6 x)
theorem m26_0 (n : Nat)  (x : A26_0) : MP26_0 x0 x1 x3 x4 x5 x6 n  x=lpN (r26_0 x0 x1 x3 x4 x5 x6 n  ) n x:=by
  refine iter_eq (s26_0 x0 x1 x3 x4 x5 x6) (r26_0 x0 x1 x3 x4 x5 x6 n  ) (fun rec0 x2 => ?_) n x
  have h : run (X26 n) (F26 n) (codeAt (bodyOf Try.f26) [1,1,0,1,0,0]) 0 (s26_0 x0 x1 x3 x4 x5 x6 x2) (lopK (canThen [1,34,35,36] rec0) (blkK 0 (seqK (run (X26 n) (F26 n) (codeAt (bodyOf Try.f26) [1,1,1]) 0) (kTop (X26 n) Try.f26 dec26)))) =
   cond (decide (x2<x1))
   (cond (decide (0≤x2)) (Option.bind x0[x2.toNat]? fun e2=>Option.bind (G58 e2 x3) fun r3 =>
   cond (!r3)
   (some (false))
   (cond (decide (x2>0))
   (cond (decide (0≤IntKind.i64.wrap (x2 - 1))) (Option.bind x4[(IntKind.i64.wrap (x2 - 1)).toNat]? fun e4=>cond (!slt e4.Name e2.Name)
   (some (false))
   ((fun x=>rec0 (s26_0 x0 x1 x3 x4 x5 x6 x)) (IntKind.i64.wrap (x2+1)))) none)
   ((fun x=>rec0 (s26_0 x0 x1 x3 x4 x5 x6 x)) (IntKind.i64.wrap (x2+1))))) none)
   (MP26_1 x6 (x6.length : Int) x3 x4 x5 x6 n   0):=by kernel_rfl
  simp only [m26_1] at h
  exact h
end
noncomputable def G26n (n : Nat) (a0 : VStewBook) : Option (Bool) :=
 Option.bind (G57 a0.Now 0 1000000) fun r1 =>
 cond (!r1)
 (some (false))
 (cond (decide ((a0.Services.length : Int)>8))
 (some (false))
 (cond (decide ((a0.Copies.length : Int)>200))
 (some (false))
 (cond (decide ((a0.Berths.length : Int)>6))
 (some (false))
 (lpN (r26_0 a0.Services (a0.Services.length : Int) a0.Now a0.Services a0.Copies a0.Berths n ) n 0))))
theorem t26 (n : Nat) (a0 : VStewBook) : runFn (X26 n) (F26 n) Try.f26 [.agg [.int .i64 a0.Now,.row .e79 a0.Services,.row .e83 a0.Copies,.row .e81 a0.Berths]] dec26=G26n n a0:=by
  refine Eq.trans (b :=
   Option.bind (G57 a0.Now 0 1000000) fun r1 =>
   cond (!r1)
   (some (false))
   (cond (decide ((a0.Services.length : Int)>8))
   (some (false))
   (cond (decide ((a0.Copies.length : Int)>200))
   (some (false))
   (cond (decide ((a0.Berths.length : Int)>6))
   (some (false))
   (MP26_0 a0.Services (a0.Services.length : Int) a0.Now a0.Services a0.Copies a0.Berths n   0))))) (by kernel_rfl) ?_
  simp only [G26n,m26_0]
noncomputable def G26 (a0 : VStewBook) : Option (Bool):=G26n fuel a0
noncomputable def con26 : Con C:=mkC KK [.el .e36] [.bool] G26
theorem c26 : ConOk Try.prog KK 26 con26:=cO (mkQ ⟨c57,c58,c59,trivial⟩ trivial ⟨i60 _,i61 _,trivial⟩ : Cons Try.prog (X26 fuel)) (fn:=Try.f26) (by kernel_rfl) (by kernel_rfl) (by kernel_rfl) (by kernel_rfl) (F26 fuel) (by kernel_rfl) (fun a0=>t26 fuel a0)
/-! ### f27 loop.example/wharfdesk/impl.clone -/
noncomputable def X27 : Cx C:=mkX [] [] [] [] 1769472 []
def F27 (n : Nat) : Cf:={ N:=n,keep:=[0,1,2],live:=lk [] }
noncomputable abbrev dec27:=deR KK [.el .e36]
noncomputable def G27n (n : Nat) (a0 : VStewBook) : Option (VStewBook) :=
 cond (decide (((([] : List (C .e79))).length+a0.Services.length)*112≤140737488355328)) (cond (decide (((([] : List (C .e83))).length+a0.Copies.length)*72≤140737488355328)) (cond (decide (((([] : List (C .e81))).length+a0.Berths.length)*24≤140737488355328)) (some ((⟨a0.Now,(([] : List (C .e79)))++a0.Services,(([] : List (C .e83)))++a0.Copies,(([] : List (C .e81)))++a0.Berths⟩ : VStewBook))) none) none) none
theorem t27 (n : Nat) (a0 : VStewBook) : runFn X27 (F27 n) Try.f27 [.agg [.int .i64 a0.Now,.row .e79 a0.Services,.row .e83 a0.Copies,.row .e81 a0.Berths]] dec27=G27n n a0:=by
  kernel_rfl
noncomputable def G27 (a0 : VStewBook) : Option (VStewBook):=G27n fuel a0
noncomputable def con27 : Con C:=mkC KK [.el .e36] [.el .e36] G27
theorem c27 : ConOk Try.prog KK 27 con27:=cO (mkQ trivial trivial trivial : Cons Try.prog X27) (fn:=Try.f27) (by kernel_rfl) (by kernel_rfl) (by kernel_rfl) (by kernel_rfl) (F27 fuel) (by kernel_rfl) (fun a0=>t27 fuel a0)
/-! ### f62 loop.example/wharfdesk/impl.formed -/
noncomputable def X62 : Cx C:=mkX [(57,con57)] [] [] [] 4063232 []
def F62 (n : Nat) : Cf:={ N:=n,keep:=[0,1,2,3,13,18,34,63],live:=lk [(0,[1,3])] }
noncomputable abbrev dec62:=deR KK [.bool]
abbrev A62_0 : Type:=Int
section
variable (x1 : ByteArray) (x2 : Int) (x3 : Int) (x4 : Int) (x5 : Int) (x6 : Bool) (x7 : List (C .e89)) (x8 : Bool)
def s62_0 : A62_0→St C:=fun x0=>{ env:=[(1,.one (.ptr 4063296 0)),(3,.one (.int .i64 x0))],objs:=[(4063296,.box .mem [.str x1,.int .i64 x2,.int .i64 x3,.int .i64 x4,.int .i64 x5,.bool x6,.row .e89 x7,.bool x8])],base:=0 }
end
noncomputable def r62_0 (x3 : Int) (x4 : Int) (x5 : Int) (x6 : Bool) (x7 : List (C .e89)) (x8 : Bool) (n : Nat)   (rec0 : A62_0→Option (Bool)) : A62_0→Option (Bool):=fun x0 =>
 cond (decide (x0<(x7.length : Int)))
 (cond (decide (0≤x0)) (Option.bind x7[x0.toNat]? fun e2=>cond (decide (0≤IntKind.i64.wrap (x0 - 1))) (Option.bind x7[(IntKind.i64.wrap (x0 - 1)).toNat]? fun e3=>cond (decide (e2.Number≤e3.Number))
 (some (false))
 (rec0 (IntKind.i64.wrap (x0+1)))) none) none)
 (cond x6
 (Option.bind (G57 x4 0 10) fun r4 =>
 cond (!r4)
 (some (false))
 (Option.bind (G57 x5 0 3) fun r5 =>
 cond (!r5)
 (some (false))
 (cond (!x6)
 (cond (x4 != 0)
 (some (false))
 (cond (x5 != 0)
 (some (false))
 (cond (!x8)
 (some (true))
 (cond (x3 == 0)
 (cond (!x6)
 (some ((x7.length : Int) == 0))
 (some (false)))
 (some (false))))))
 (cond (!x8)
 (some (true))
 (cond (x3 == 0)
 (cond (!x6)
 (some ((x7.length : Int) == 0))
 (some (false)))
 (some (false)))))))
 (cond (!x6)
 (cond (x4 != 0)
 (some (false))
 (cond (x5 != 0)
 (some (false))
 (cond (!x8)
 (some (true))
 (cond (x3 == 0)
 (cond (!x6)
 (some ((x7.length : Int) == 0))
 (some (false)))
 (some (false))))))
 (cond (!x8)
 (some (true))
 (cond (x3 == 0)
 (cond (!x6)
 (some ((x7.length : Int) == 0))
 (some (false)))
 (some (false))))))
section
variable (x1 : ByteArray) (x2 : Int) (x3 : Int) (x4 : Int) (x5 : Int) (x6 : Bool) (x7 : List (C .e89)) (x8 : Bool)
noncomputable def MP62_0 (n : Nat)  (x : A62_0) : Option (Bool):=iter (fun rec S=>run X62 (F62 n) (codeAt (bodyOf Try.f62) [1,1,0,1,0,0]) 0 S (lopK rec (blkK 0 (seqK (run X62 (F62 n) (codeAt (bodyOf Try.f62) [1,1,1]) 0) (kTop X62 Try.f62 dec62))))) [1,3] n (s62_0 x1 x2 x3 x4 x5 x6 x7 x8 x)
theorem m62_0 (n : Nat)  (x : A62_0) : MP62_0 x1 x2 x3 x4 x5 x6 x7 x8 n  x=lpN (r62_0 x3 x4 x5 x6 x7 x8 n  ) n x:=by
  refine iter_eq (s62_0 x1 x2 x3 x4 x5 x6 x7 x8) (r62_0 x3 x4 x5 x6 x7 x8 n  ) (fun rec0 x0 => ?_) n x
  kernel_rfl
end
noncomputable def G62n (n : Nat) (a0 : VStewAct) : Option (Bool) :=
 Option.bind (G57 a0.Create 0 20) fun r1 =>
 cond (!r1)
 (some (false))
 (cond (decide ((a0.Ends.length : Int)>200))
 (some (false))
 (lpN (r62_0 a0.Create a0.Want a0.Cool a0.Scale a0.Ends a0.Drop n ) n 1))
theorem t62 (n : Nat) (a0 : VStewAct) : runFn X62 (F62 n) Try.f62 [.agg [.str a0.Service,.int .i64 a0.Seen,.int .i64 a0.Create,.int .i64 a0.Want,.int .i64 a0.Cool,.bool a0.Scale,.row .e89 a0.Ends,.bool a0.Drop]] dec62=G62n n a0:=by
  refine Eq.trans (b :=
   Option.bind (G57 a0.Create 0 20) fun r1 =>
   cond (!r1)
   (some (false))
   (cond (decide ((a0.Ends.length : Int)>200))
   (some (false))
   (MP62_0 a0.Service a0.Seen a0.Create a0.Want a0.Cool a0.Scale a0.Ends a0.Drop n   1))) (by kernel_rfl) ?_
  simp only [G62n,m62_0]
noncomputable def G62 (a0 : VStewAct) : Option (Bool):=G62n fuel a0
noncomputable def con62 : Con C:=mkC KK [.el .e42] [.bool] G62
theorem c62 : ConOk Try.prog KK 62 con62:=cO (mkQ ⟨c57,trivial⟩ trivial trivial : Cons Try.prog X62) (fn:=Try.f62) (by kernel_rfl) (by kernel_rfl) (by kernel_rfl) (by kernel_rfl) (F62 fuel) (by kernel_rfl) (fun a0=>t62 fuel a0)
/-! ### f63 (*loop.example/wharfdesk/impl.StewBook).copy,run in place -/
noncomputable def X63 : Cx C:=mkX [] [] [] [] 4128768 []
def F63 (n : Nat) : Cf:={ N:=n,keep:=[0,1,2,6,7,12,13,14,37],live:=lk [(0,[0,1,2,12,13])] }
noncomputable def I63 (n : Nat) : Inl C:=inlOf X63 (F63 n) Try.f63
theorem i63 (n : Nat) : InlOk Try.prog KK 63 (I63 n):=iO (mkQ trivial trivial trivial : Cons Try.prog X63) (F63 n) (fn:=Try.f63) (by kernel_rfl) (by kernel_rfl) (by kernel_rfl) (by kernel_rfl)
/-! ### f65 (*loop.example/wharfdesk/impl.StewBook).count -/
noncomputable def X65 : Cx C:=mkX [] [] [] [] 4259840 []
def F65 (n : Nat) : Cf:={ N:=n,keep:=[0,1,4,5,7,11,12,13,14,23,34,41,46,54],live:=lk [(0,[1,4,5,11,12,13])] }
noncomputable abbrev dec65:=deR KK [.el .e92]
abbrev A65_0 : Type:=Int×Int×Int×Int×Int×Int
section
variable (x0 : C .e79) (x1 : List (C .e83)) (x2 : Int) (x4 : Int) (x5 : Int) (x6 : Int) (x7 : Int) (x8 : Int)
def s65_0 : A65_0→St C:=fun (x3,x9,x10,x11,x12,x13)=>{ env:=[(1,.one (.elt .e79 x0 0)),(4,.one (.ptr 4260096 0)),(5,.one (.ptr 4260160 0)),(11,.one (.row .e83 x1)),(12,.one (.int .i64 x2)),(13,.one (.int .i64 x3))],objs:=[(4260096,.box .mem [.int .i64 x4,.int .i64 x5,.int .i64 x6,.int .i64 x7,.int .i64 x8]),(4260160,.box .mem [.int .i64 x9,.int .i64 x10,.int .i64 x11,.int .i64 x12,.int .i64 x13])],base:=0 }
end
noncomputable def r65_0 (x0 : C .e79) (x1 : List (C .e83)) (x2 : Int) (n : Nat)   (rec0 : A65_0→Option (VStewCount)) : A65_0→Option (VStewCount):=fun (x3,x9,x10,x11,x12,x13) =>
 cond (decide (x3<x2))
 (cond (decide (0≤x3)) (Option.bind x1[x3.toNat]? fun e1=>cond (!decide (e1.Service=x0.Name))
 (rec0 ((IntKind.i64.wrap (x3+1),x9,x10,x11,x12,x13)))
 (cond e1.Ending
 (rec0 ((IntKind.i64.wrap (x3+1),x9,x10,x11,x12,IntKind.i64.wrap (x13+1))))
 (cond (e1.State == 3)
 (cond (e1.Image != x0.Image)
 (cond (e1.State == 4)
 (rec0 ((IntKind.i64.wrap (x3+1),IntKind.i64.wrap (x9+1),IntKind.i64.wrap (x10+1),IntKind.i64.wrap (x11+1),IntKind.i64.wrap (x12+1),x13)))
 (rec0 ((IntKind.i64.wrap (x3+1),IntKind.i64.wrap (x9+1),IntKind.i64.wrap (x10+1),IntKind.i64.wrap (x11+1),x12,x13))))
 (cond (e1.State == 4)
 (rec0 ((IntKind.i64.wrap (x3+1),IntKind.i64.wrap (x9+1),IntKind.i64.wrap (x10+1),x11,IntKind.i64.wrap (x12+1),x13)))
 (rec0 ((IntKind.i64.wrap (x3+1),IntKind.i64.wrap (x9+1),IntKind.i64.wrap (x10+1),x11,x12,x13)))))
 (cond (e1.Image != x0.Image)
 (cond (e1.State == 4)
 (rec0 ((IntKind.i64.wrap (x3+1),IntKind.i64.wrap (x9+1),x10,IntKind.i64.wrap (x11+1),IntKind.i64.wrap (x12+1),x13)))
 (rec0 ((IntKind.i64.wrap (x3+1),IntKind.i64.wrap (x9+1),x10,IntKind.i64.wrap (x11+1),x12,x13))))
 (cond (e1.State == 4)
 (rec0 ((IntKind.i64.wrap (x3+1),IntKind.i64.wrap (x9+1),x10,x11,IntKind.i64.wrap (x12+1),x13)))
 (rec0 ((IntKind.i64.wrap (x3+1),IntKind.i64.wrap (x9+1),x10,x11,x12,x13)))))))) none)
 (some ((⟨x9,x10,x11,x12,x13⟩ : VStewCount)))
section
variable (x0 : C .e79) (x1 : List (C .e83)) (x2 : Int) (x4 : Int) (x5 : Int) (x6 : Int) (x7 : Int) (x8 : Int)
noncomputable def MP65_0 (n : Nat)  (x : A65_0) : Option (VStewCount):=iter (fun rec S=>run X65 (F65 n) (codeAt (bodyOf Try.f65) [1,1,0,1,0,0]) 0 S (lopK rec (blkK 0 (seqK (run X65 (F65 n) (codeAt (bodyOf Try.f65) [1,1,1]) 0) (kTop X65 Try.f65 dec65))))) [1,4,5,11,12,13] n (s65_0 x0 x1 x2 x4 x5 x6 x7 x8 x)
theorem m65_0 (n : Nat)  (x : A65_0) : MP65_0 x0 x1 x2 x4 x5 x6 x7 x8 n  x=lpN (r65_0 x0 x1 x2 n  ) n x:=by
  refine iter_eq (s65_0 x0 x1 x2 x4 x5 x6 x7 x8) (r65_0 x0 x1 x2 n  ) (fun rec0 x => ?_) n x
  obtain ⟨x3,x9,x10,x11,x12,x13⟩:=x
  kernel_rfl
end
noncomputable def G65n (n : Nat) (a0 : C .e36) (a1 : C .e79) : Option (VStewCount) :=
 lpN (r65_0 a1 a0.Copies (a0.Copies.length : Int) n ) n (0,0,0,0,0,0)
theorem t65 (n : Nat) (a0 : C .e36) (a1 : C .e79) : runFn X65 (F65 n) Try.f65 [.one (.elt .e36 a0 0),.one (.elt .e79 a1 0)] dec65=G65n n a0 a1:=by
  refine Eq.trans (b :=
   MP65_0 a1 a0.Copies (a0.Copies.length : Int) 0 0 0 0 0 n   (0,0,0,0,0,0)) (by kernel_rfl) ?_
  simp only [G65n,m65_0]
noncomputable def G65 (a0 : C .e36) (a1 : C .e79) : Option (VStewCount):=G65n fuel a0 a1
noncomputable def con65 : Con C:=mkC KK [.ptr .e36,.ptr .e79] [.el .e92] G65
theorem c65 : ConOk Try.prog KK 65 con65:=cO (mkQ trivial trivial trivial : Cons Try.prog X65) (fn:=Try.f65) (by kernel_rfl) (by kernel_rfl) (by kernel_rfl) (by kernel_rfl) (F65 fuel) (by kernel_rfl) (fun a0 a1=>t65 fuel a0 a1)
/-! ### f64 (*loop.example/wharfdesk/impl.StewBook).mayEnd,run in place -/
noncomputable def X64 : Cx C:=mkX [(65,con65)] [] [] [] 4194304 []
def F64 (n : Nat) : Cf:={ N:=n,keep:=[0,1,2,6,14],live:=lk [] }
noncomputable def I64 (n : Nat) : Inl C:=inlOf X64 (F64 n) Try.f64
theorem i64 (n : Nat) : InlOk Try.prog KK 64 (I64 n):=iO (mkQ ⟨c65,trivial⟩ trivial trivial : Cons Try.prog X64) (F64 n) (fn:=Try.f64) (by kernel_rfl) (by kernel_rfl) (by kernel_rfl) (by kernel_rfl)
/-! ### f68 (*loop.example/wharfdesk/impl.StewBook).act$1 -/
noncomputable def X68 : Cx C:=mkX [] [] [] [] 4456448 []
def F68 (n : Nat) : Cf:={ N:=n,keep:=[0,1,2,3],live:=lk [] }
noncomputable abbrev dec68:=deR KK [.bool]
noncomputable def G68n (n : Nat) (a0 : VStewService) (a1 : C .e42) : Option (Bool) :=
 some (decide (a0.Name=a1.Service))
theorem t68 (n : Nat) (a0 : VStewService) (a1 : C .e42) : runFn X68 (F68 n) Try.f68 [.agg [.str a0.Name,.int .i64 a0.Version,.bool a0.Gone,.int .i64 a0.Image,.int .i64 a0.Want,.int .i64 a0.Down,.int .i64 a0.Over,.int .i64 a0.Next,.int .i64 a0.Per,.int .i64 a0.Least,.int .i64 a0.Most,.int .i64 a0.Load,.int .i64 a0.Cool],.one (.elt .e42 a1 0)] dec68=G68n n a0 a1:=by
  kernel_rfl
noncomputable def G68 (a0 : VStewService) (a1 : C .e42) : Option (Bool):=G68n fuel a0 a1
noncomputable def con68 : Con C:=mkC KK [.el .e79,.ptr .e42] [.bool] G68
theorem c68 : ConOk Try.prog KK 68 con68:=cO (mkQ trivial trivial trivial : Cons Try.prog X68) (fn:=Try.f68) (by kernel_rfl) (by kernel_rfl) (by kernel_rfl) (by kernel_rfl) (F68 fuel) (by kernel_rfl) (fun a0 a1=>t68 fuel a0 a1)
/-! ### f77 slices.IndexFunc[[]loop.example/wharfdesk/impl.StewService,loop.example/wharfdesk/impl.StewService],run in place -/
noncomputable def X77 : Cx C:=mkX [(68,con68)] [] [] [] 5046272 []
def F77 (n : Nat) : Cf:={ N:=n,keep:=[0,1,4,5,7,8,9,16],live:=lk [(0,[0,1,7,8])] }
noncomputable def I77 (n : Nat) : Inl C:=inlOf X77 (F77 n) Try.f77
theorem i77 (n : Nat) : InlOk Try.prog KK 77 (I77 n):=iO (mkQ ⟨c68,trivial⟩ trivial trivial : Cons Try.prog X77) (F77 n) (fn:=Try.f77) (by kernel_rfl) (by kernel_rfl) (by kernel_rfl) (by kernel_rfl)
/-! ### f67 slices.DeleteFunc[[]loop.example/wharfdesk/impl.StewService,loop.example/wharfdesk/impl.StewService],run in place -/
noncomputable def X67 (n : Nat) : Cx C:=mkX [(68,con68)] [] [(77,I77 n)] [0,1,5,6,7,10,28,29] 4390912 [38]
def F67 (n : Nat) : Cf:={ N:=n,keep:=[0,1,4,5,6,7,12,19,29],live:=lk [(0,[0,1,5,6])] }
noncomputable def I67 (n : Nat) : Inl C:=inlOf (X67 n) (F67 n) Try.f67
theorem i67 (n : Nat) : InlOk Try.prog KK 67 (I67 n):=iO (mkQ ⟨c68,trivial⟩ trivial ⟨i77 _,trivial⟩ : Cons Try.prog (X67 n)) (F67 n) (fn:=Try.f67) (by kernel_rfl) (by kernel_rfl) (by kernel_rfl) (by kernel_rfl)
/-! ### f28 (*loop.example/wharfdesk/impl.StewBook).act,run in place -/
noncomputable def X28 (n : Nat) : Cx C:=mkX [(57,con57),(62,con62),(65,con65),(68,con68)] [] [(60,I60 n),(63,I63 n),(64,I64 n),(67,I67 n)] [0,3,5,9,12,21,25,26,27,36,37,47,48,49,53,54,55,56,57,58,59,60,61,62,63,64,67,68,69,78,82,83,280,286,287,288] 1835008 []
def F28 (n : Nat) : Cf:={ N:=n,keep:=[0,1,3,4,5,7,9,11,12,13,14,17,23,25,26,27,28,37,45,47,48,49,50,64,67,68,69,70,83,115,117,136,172,198,234,238,239,240,279],live:=lk [(0,[0,3,5,25,26,27]),(2,[0,3,5,47,48,49]),(4,[0,3,5,67,68,69]),(6,[0,3,5,14]),(8,[0,3,5,14,238,239])] }
noncomputable def I28 (n : Nat) : Inl C:=inlOf (X28 n) (F28 n) Try.f28
theorem i28 (n : Nat) : InlOk Try.prog KK 28 (I28 n):=iO (mkQ ⟨c57,c62,c65,c68,trivial⟩ trivial ⟨i60 _,i63 _,i64 _,i67 _,trivial⟩ : Cons Try.prog (X28 n)) (F28 n) (fn:=Try.f28) (by kernel_rfl) (by kernel_rfl) (by kernel_rfl) (by kernel_rfl)

end Go.Proofs.Ytakakoogpmhhkaa.Ab

