/- Part 4 of the proof: an abstract machine proved sound over the model, the functions that it reckons, the plain law. Names made short by a program. No conditions. -/
import Derived.Test.YtipemmgoipbojaaP3
import Derived.Shelf.Spec.SlicesInsertGrow
import Derived.Test.YtipemmgoipbojaaProg
import Derived.WalkKit
import Derived.Lib.Walk
import Derived.KernelRfl
set_option linter.unusedVariables false
set_option linter.unusedSimpArgs false
set_option linter.unusedSectionVars false
noncomputable section
namespace Go.Proofs.Ytipemmgoipbojaa.Ab
open Go Go.RowKit Go.Lib
theorem ri (w:World) (r:Option Nat):w.grownBy w.drew r:=⟨rfl,rfl,rfl,Nat.le_refl _,fun _ _ _=>rfl⟩
theorem j9 {w w1 w2:World} {r:Option Nat} (h:w.grownBy w1 r) (h':w1.grownBy w2 r):w.grownBy w2 r:=
 ⟨h'.os.trans h.os,h'.tape.trans h.tape,h'.output.trans h.output,Nat.le_trans h.size h'.size,fun k hk hr=>(h'.block k (Nat.lt_of_lt_of_le hk h.size) hr).trans (h.block k hk hr)⟩
theorem ld (w:World) (g:Nat) (cs:Array Value):w.grownBy (w.setRow g cs) (some g):=
 ⟨rfl,rfl,rfl,by have:=(iy (w0:=w) (w:=w) g cs);exact Nat.le_of_eq (by simp [World.setRow]),fun k _ hr=>setRow_other w g k cs fun e=>hr (by rw [e])⟩
theorem MO {w w1 w2:World} {g:Nat} (h:w.grownBy w1 none) (h':w1.grownBy w2 (some g)) (hg:w.heap.size≤g) (r:Option Nat):w.grownBy w2 r:=
 ⟨h'.os.trans h.os,h'.tape.trans h.tape,h'.output.trans h.output,Nat.le_trans h.size h'.size,fun k hk _=>(h'.block k (Nat.lt_of_lt_of_le hk h.size) (fun e=>by cases e;omega)).trans (h.block k hk (by simp))⟩
theorem sL {P:Program} {w:World} {base tid sz N cap g:Nat} {cells us:List Value} (hown:w.ownsRow base tid sz (.slice (some ⟨g,0,none⟩) N cap) N cells) {T T' ty:TypeId} (hu:P.underlying T=some (.slice tid)) {i:TypeInfo} (hi:P.info? tid=some i) (hsz:i.size=sz)
  {d m c c' q:Nat} (hd:d+q≤N) (hq:min (N-d) m=q) {p:Addr} (DA:us.length=q*sz) (hp:∀ j u,us[j]?=some u→w.cell? (p.add j)=some u) (h1:∀ u∈us,u.oneCell'=true) :
  ∃ kr,(Builtin.copy_ #[T,T'] ty #[.slice (some ⟨g,d*sz,none⟩) (N-d) c',.slice (some p) m c]).run P w = .ok (goInt q) (w.setRow g kr) ∧
   (w.setRow g kr).ownsRow base tid sz (.slice (some ⟨g,0,none⟩) N cap) N (cells.take (d*sz)++us++cells.drop (d*sz+us.length)):=by
 have hmul:(d+q)*sz≤N*sz:=Nat.mul_le_mul_right _ hd;rw [Nat.add_mul] at hmul;have hfc:=run_firstCells_some (P:=P) w sz q p m c us DA hp;obtain ⟨kr,hrun,hown'⟩:=jT (P:=P) hown (m:=d*sz) (vs:=us) (by omega) h1;refine ⟨kr,?_,hown'⟩;simp only [Builtin.copy_,List.getElem?_toArray,List.getElem?_cons_zero,List.getElem?_cons_succ,Sem.run_bind,Result.andThen_ok,Sem.run_pure,run_underlying hu,sizeOf,typeInfo,hi,Builtin.lenOf,hsz]
 have hq':Nat.min m (N-d)=q:=by rw [Nat.min_comm] at hq;exact hq
 have hq2:min m (N-d)=q:=hq';simp [hq',hq2,hfc,Sem.run_bind,hsz,hi,hrun]
theorem Aq {w:World} {base tid sz n cap g:Nat} {cells:List Value} (hown:w.ownsRow base tid sz (.slice (some ⟨g,0,none⟩) n cap) n cells):w.shape? g=some (tid,cap*sz):=by
 rcases hown.2 with ⟨h,_⟩ | ⟨g',cap',cur,h,hb,hh,hn,hc,hs,ht⟩
 ·cases h
 ·cases h
  simp [World.shape?,hh,hs]
theorem xA {w:World} {base tid sz n cap g:Nat} {cells:List Value} (hown:w.ownsRow base tid sz (.slice (some ⟨g,0,none⟩) n cap) n cells) (o:Nat):w.frozen? ⟨g,o,none⟩=false:=by
 rcases hown.2 with ⟨h,_⟩ | ⟨g',cap',cur,h,hb,hh,hn,hc,hs,ht⟩
 ·cases h
 ·cases h
  simp [World.frozen?,hh]
theorem O0 {w:World} {base tid sz n cap g:Nat} {cells:List Value} (hown:w.ownsRow base tid sz (.slice (some ⟨g,0,none⟩) n cap) n cells) {m:Nat} (hn:n≤m) (hm:m≤cap) :
  ∃ Q1,w.ownsRow base tid sz (.slice (some ⟨g,0,none⟩) m cap) m Q1∧Q1.take (n*sz)=cells:=by
 obtain ⟨hl,h2⟩:=hown
 rcases h2 with ⟨h,_⟩ | ⟨g',cap',cur,h,hb,hh,qv,hc,hs,ht⟩
 ·cases h
 ·cases h
  have h1:m*sz≤cap*sz:=Nat.mul_le_mul_right _ hm;have h2:n*sz≤m*sz:=Nat.mul_le_mul_right _ hn;refine ⟨cur.toList.take (m*sz),⟨by simp;omega,.inr ⟨g,cap,cur,rfl,hb,hh,hm,hc,hs,rfl⟩⟩,?_⟩;rw [List.take_take,Nat.min_eq_left h2,ht]
theorem jv {w:World} {base tid sz n:Nat} {v:Value} {cells:List Value} (hown:w.ownsRow base tid sz v n cells) (hn:0<n):∃ g cap,v = .slice (some ⟨g,0,none⟩) n cap∧base≤g∧g<w.heap.size∧n≤cap∧cap≤maxLen∧∀ m u,cells[m]?=some u→w.cell? ⟨g,m,none⟩=some u:=by
 have h0:=hown
 rcases hown.2 with ⟨h,h'⟩ | ⟨g',cap',cur,h,hb,hh,qv,hc,hs,ht⟩
 ·omega
 ·refine ⟨g',cap',h,hb,?_,qv,hc,fun m u hm=>?_⟩
  ·exact (Array.getElem?_eq_some_iff.1 hh).1
  ·have:=h0.cells (g:=g') (by rw [h];rfl) m u hm
   rw [iq] at this
   simpa using this
theorem L6 {w:World} {tid sz i k G:Nat} {cs:List Value} {z:Array Value} (hc:cs.length=i*sz) (hz:z.size=sz) (hG:i+k≤G) (Tq:G≤maxLen) (base:Nat) (hb:base≤w.heap.size) :
  ∃ zs:List Value,(w.drew.alloc (.cells (cs.toArray++Builtin.zeroCells z k++Builtin.zeroCells z (G-(i+k))) tid)).ownsRow base tid sz (.slice (some ⟨w.heap.size,0,none⟩) (i+k) G) (i+k) (cs++zs):=by
 have e1:(Builtin.zeroCells z k).size=k*sz:=by simp [Builtin.zeroCells,hz]
 have e2:(Builtin.zeroCells z (G-(i+k))).size=(G-(i+k))*sz:=by simp [Builtin.zeroCells,hz]
 have h3:G*sz=(i+k)*sz+(G-(i+k))*sz:=by rw [←Nat.add_mul];congr 1;omega
 refine ⟨(Builtin.zeroCells z k).toList,by simp only [List.length_append,hc,Array.length_toList,e1,Nat.add_mul],.inr ⟨w.heap.size,G,_,rfl,hb,heap_alloc_new w.drew _,hG,Tq,?_,?_⟩⟩
 ·simp only [Array.size_append,e1,e2,List.size_toArray,hc];rw [h3,Nat.add_mul]
 ·simp only [Array.toList_append,List.append_assoc]
  rw [←List.append_assoc];refine List.take_left' ?_;simp only [List.length_append,hc,Array.length_toList,e1,Nat.add_mul]
theorem ES {w:World} {base tid sz n:Nat} {v:Value} {cells:List Value} (h:w.ownsRow base tid sz v n cells):w.drew.ownsRow base tid sz v n cells:=h
theorem UF {cells cs gs:List Value} {n i sz:Nat} (ht:cells.take (n*sz)=cs) (hc:cs.length=n*sz) (hl:cells.length=(n+1)*sz) (hg:gs.length=1*sz) (hi:i≤n) :
  (cells.take ((i+1)*sz)++cs.drop (i*sz)++cells.drop ((i+1)*sz+(cs.drop (i*sz)).length)).take (i*sz)++gs++(cells.take ((i+1)*sz)++cs.drop (i*sz)++cells.drop ((i+1)*sz+(cs.drop (i*sz)).length)).drop (i*sz+gs.length)=cs.take (i*sz)++gs++cs.drop (i*sz):=by
 have e1:(i+1)*sz=i*sz+sz:=by rw [Nat.add_mul,Nat.one_mul]
 have e2:(n+1)*sz=n*sz+sz:=by rw [Nat.add_mul,Nat.one_mul]
 have e3:i*sz≤n*sz:=Nat.mul_le_mul_right _ hi
 have hg:gs.length=sz:=by rw [hg,Nat.one_mul]
 have hd:(cells.drop ((i+1)*sz+(cs.drop (i*sz)).length))=[]:=by
  apply List.drop_of_length_le;rw [List.length_drop,hc,hl,e1,e2];omega
 have h0:(cells.take ((i+1)*sz)).length=i*sz+sz:=by rw [List.length_take,hl,e1,e2];omega
 have h1:(cells.take ((i+1)*sz)).take (i*sz)=cs.take (i*sz):=by
  rw [←ht,List.take_take,List.take_take,Nat.min_eq_left (by rw [e1];omega),Nat.min_eq_left e3]
 rw [hd,List.append_nil,List.take_append_of_le_length (by rw [h0];omega),h1,hg]
 congr 1
 rw [List.drop_append_of_le_length (by rw [h0];omega),List.drop_of_length_le (by rw [h0];omega),List.nil_append]
theorem PU {cells cs gs zs:List Value} {n i sz:Nat} (ht:cells=cs.take (i*sz)++zs) (hc:cs.length=n*sz) (hl:cells.length=(n+1)*sz) (hg:gs.length=1*sz) (hi:i≤n) :
  (cells.take (i*sz)++gs++cells.drop (i*sz+gs.length)).take ((i+1)*sz)++cs.drop (i*sz)++(cells.take (i*sz)++gs++cells.drop (i*sz+gs.length)).drop ((i+1)*sz+(cs.drop (i*sz)).length)=cs.take (i*sz)++gs++cs.drop (i*sz):=by
 have e1:(i+1)*sz=i*sz+sz:=by rw [Nat.add_mul,Nat.one_mul]
 have e2:(n+1)*sz=n*sz+sz:=by rw [Nat.add_mul,Nat.one_mul]
 have e3:i*sz≤n*sz:=Nat.mul_le_mul_right _ hi
 have hg:gs.length=sz:=by rw [hg,Nat.one_mul]
 have h0:(cs.take (i*sz)).length=i*sz:=by rw [List.length_take,hc];omega
 have h1:cells.take (i*sz)=cs.take (i*sz):=by rw [ht,List.take_append_of_le_length (by omega),List.take_of_length_le (by omega)]
 rw [h1]
 have h2:(cs.take (i*sz)++gs++cells.drop (i*sz+gs.length)).length=(n+1)*sz:=by
  simp only [List.length_append,h0,hg,List.length_drop,hl];omega
 rw [List.drop_of_length_le (i:=(i+1)*sz+(cs.drop (i*sz)).length) (by rw [h2,List.length_drop,hc];omega),List.append_nil]
 congr 1
 rw [List.take_append_of_le_length (by simp only [List.length_append,h0,hg];omega),List.take_of_length_le (by simp only [List.length_append,h0,hg];omega)]
end Go.Proofs.Ytipemmgoipbojaa.Ab
set_option maxRecDepth 100000
namespace Go.Proofs.Ytipemmgoipbojaa.Ab
open Go Go.RowKit Go.IntKind Go.Lib
section
variable (w:World) (base:Nat) (v1:Value) (g cap vb vc n i:Nat) (cs gs:List Value)
theorem Ms (h1:w.ownsRow base 62 7 (.slice (some ⟨vb,0,none⟩) 1 vc) 1 gs) {N:Nat} {cells:List Value} (h2:w.ownsRow base 62 7 (.slice (some ⟨g,0,none⟩) N cap) N cells) (hN:0<N) (hne:vb≠g) (o lb cb:Nat) :
  (callFunc 113 #[.slice (some ⟨vb,0,none⟩) 1 vc,.slice (some ⟨g,o,none⟩) lb cb]).run Try.prog w = .ok (.value (.bool false)) w:=by
 have hcap:1≤cap:=by
  obtain ⟨g',cap',e,_,_,h,_⟩:=jv h2 hN;cases e;omega
 have hvc:1≤vc:=by
  obtain ⟨g',cap',e,_,_,h,_⟩:=jv h1 (by omega);cases e;omega
 rw [run_callFunc_extern Try.func113 (by kernel_rfl) (by kernel_rfl) (by kernel_rfl) (e:=Extern.SlicesOverlaps.overlaps #[24,24] #[4]) (by kernel_rfl),
  Lib.run_overlaps_apart w 24 4 62 Try.underlying24 7 (fun w=>by kernel_rfl) ⟨vb,0,none⟩ ⟨g,o,none⟩ 1 vc lb cb hne 62 62 (vc*7) (cap*7) (Aq h1) (Aq h2) (by omega) (xA h1 _) (xA h1 _)]
 rfl
end
set_option maxHeartbeats 4000000 in
theorem H9 (w:World) (base:Nat) (g cap vb vc n i:Nat) (cs gs:List Value) (hs:w.ownsRow base 62 7 (.slice (some ⟨g,0,none⟩) n cap) n cs) (h1:w.ownsRow base 62 7 (.slice (some ⟨vb,0,none⟩) 1 vc) 1 gs) (hne:vb≠g) (hi:i<n) (hroom:n+1≤cap) (hcm:cap≤maxLen)
  (o1:∀ u,u∈cs→u.oneCell'=true) (o2:∀ u,u∈gs→u.oneCell'=true) :
  Calls Try.prog 78 #[.slice (some ⟨g,0,none⟩) n cap,.int .i64 i,.slice (some ⟨vb,0,none⟩) 1 vc] w fun e w'=>∃ v',e = .returned v'∧w'.ownsRow base 62 7 v' (n+1) (cs.take (i*7)++gs++cs.drop (i*7))∧w.grownBy w' (some g)∧v'.ownBlock=some g:=by
 have hcl:cs.length=n*7:=hs.1;have UO:gs.length=1*7:=h1.1;obtain ⟨cells,Ih,htk⟩:=O0 hs (m:=n+1) (by omega) hroom;have hov:=Ms w base g cap vb vc gs h1 Ih (by omega) hne;unfold maxLen at hcm
 have hcell:∀ j u,cs[j]?=some u→w.cell? ⟨g,j,none⟩=some u:=(by
  obtain ⟨g',cap',e,_,_,_,_,h⟩:=jv hs (by omega);cases e
  exact h)
 have xX:∀ j u,gs[j]?=some u→w.cell? ⟨vb,j,none⟩=some u:=(by
  obtain ⟨g',cap',e,_,_,_,_,h⟩:=jv h1 (by omega);cases e
  exact h)
 have hci:i*7≤cells.length:=by rw [Ih.1];exact Nat.mul_le_mul_right _ (by omega)
 obtain ⟨c1,q1,q2⟩:=sL (P:=Try.prog) (w:=w.drew) (T:=24) (T':=24) (ty:=3) (i:=(Try.prog.info? 62).get (by kernel_rfl)) (d:=i+1) (m:=n+1-i) (c:=cap-i) (c':=cap-(i+1)) (q:=n-i) (p:=⟨g,i*7,none⟩) (us:=cs.drop (i*7)) (ES Ih) Try.underlying24 (by kernel_rfl) (by kernel_rfl) (by omega) (by omega) (by rw [List.length_drop,hcl,Nat.sub_mul])
  (fun j u hj=>by rw [iq];rw [List.getElem?_drop] at hj;exact hcell _ u hj) (fun u hu=>o1 u (List.mem_of_mem_drop hu))
 obtain ⟨c2,q3,q4⟩:=sL (P:=Try.prog) (w:=w.drew.setRow g c1) (T:=24) (T':=24) (ty:=3) (i:=(Try.prog.info? 62).get (by kernel_rfl)) (d:=i) (m:=1) (c:=vc) (c':=cap-i) (q:=1) (p:=⟨vb,0,none⟩) (us:=gs) q2 Try.underlying24 (by kernel_rfl) (by kernel_rfl) (by omega) (by omega) UO
  (fun j u hj=>by
   rw [iq,World.cell?_of_block (w:=w.drew) (setRow_other w.drew g vb c1 hne),Nat.zero_add]
   exact xX j u hj) o2
 have Qd:(cells.take ((i+1)*7)++cs.drop (i*7)++cells.drop ((i+1)*7+(cs.drop (i*7)).length)).take (i*7)++gs++(cells.take ((i+1)*7)++cs.drop (i*7)++cells.drop ((i+1)*7+(cs.drop (i*7)).length)).drop (i*7+gs.length)=cs.take (i*7)++gs++cs.drop (i*7):=
  UF htk hcl Ih.1 UO (by omega)
 rw [Qd] at q4
 have hw1:i64.wrap ((n:Int)+1)=(n:Int)+1:=by rw [IntKind.wrap_i64];omega
 have hw2:i64.wrap ((i:Int)+1)=(i:Int)+1:=by rw [IntKind.wrap_i64];omega
 have hz2:¬ ((i:Int)=(n:Int)):=by omega
 have hz3:¬ ((cap:Int)<(n:Int)+1):=by omega
 have hb0:i≤n:=by omega
 have hb1:(0:Int)≤(i:Int)+1:=by omega
 have Ip:(0:Int)≤(n:Int)+1:=by omega
 have hb3:(n:Int)+1≤(cap:Int):=by omega
 have hb4:(i:Int)+1≤(n:Int)+1:=by omega
 have hb5:(i:Int)≤(n:Int)+1:=by omega
 have hb6:¬ (cap=i):=by omega
 have hb7:¬ (cap=i+1):=by omega
 have htn:((i:Int)+1).toNat=i+1:=by omega
 have htm:((n:Int)+1).toNat=n+1:=by omega
 have hgrow:w.grownBy ((w.drew.setRow g c1).setRow g c2) (some g):=j9 (j9 (ri w _) (ld _ _ _)) (ld _ _ _);clear Qd;have mixed:=(show Try.prog.follows .mixedOrders=true by kernel_rfl)
 go_enter Try.func78,Try.ntmps78
 go_wp2_with (simp only [hov])
 go_region_law_o (refine step_copy_runI rfl _ _ 24 24 rfl (.slice (some ⟨g,(i+1)*7,none⟩) (n+1-(i+1)) (cap-(i+1))) (.slice (some ⟨g,i*7,none⟩) (n+1-i) (cap-i)) (by simp [Act.eval,Act.put]) (by simp [Act.eval,Act.put]) q1 ?_)
 go_wp2_with (at_builtin;refine wpList_copy_runI _ rfl _ _ 24 24 rfl _ _ rfl rfl q3 ?_)
 go_ret
 exact ⟨_,rfl,q4,hgrow,rfl⟩
set_option maxHeartbeats 4000000 in
theorem Mt (w:World) (base:Nat) (v:Value) (vb vc n:Nat) (cs gs:List Value) (hs:w.ownsRow base 62 7 v n cs) (h1:w.ownsRow base 62 7 (.slice (some ⟨vb,0,none⟩) 1 vc) 1 gs) (hb:base≤w.heap.size) (hby:(n+1)*72≤140737488355328) (o2:∀ u,u∈gs→u.oneCell'=true) :
  Calls Try.prog 78 #[v,.int .i64 n,.slice (some ⟨vb,0,none⟩) 1 vc] w fun e w'=>∃ v',e = .returned v'∧w'.ownsRow base 62 7 v' (n+1) (cs++gs)∧w.grownBy w' v.ownBlock∧(v'.ownBlock=v.ownBlock∨v'.ownBlock=some w.heap.size):=by
 have UO:gs.length=1*7:=h1.1
 have xX:∀ j u,gs[j]?=some u→w.cell? ⟨vb,j,none⟩=some u:=(by
  obtain ⟨g',cap',e,_,_,_,_,h⟩:=jv h1 (by omega);cases e
  exact h)
 have hI:Try.prog.info? 62=some ((Try.prog.info? 62).get (by kernel_rfl)):=by kernel_rfl
 obtain ⟨z,hz⟩:∃ z,((Try.prog.info? 62).get (by kernel_rfl)).zero=some z:=⟨_,rfl⟩
 have hzs:z.cells.size=7:=by
  have:((Try.prog.info? 62).get (by kernel_rfl)).zero.map (·.cells.size)=some 7:=by kernel_rfl
  rw [hz] at this;exact Option.some.inj this
 have hgs:(List.range (1*7)).map (fun j=>gs.getD j undef)=gs:=by
  apply List.ext_getElem
  ·simp [UO]
  ·intro m zA CL
   simp [List.getD_eq_getElem?_getD,CL]
 have hap:∃ v' w',(Builtin.append_ #[24,24] 24 #[v,.slice (some ⟨vb,0,none⟩) 1 vc]).run Try.prog w = .ok v' w'∧w'.ownsRow base 62 7 v' (n+1) (cs++(List.range (1*7)).map (fun j=>gs.getD j undef))∧w.grownBy w' v.ownBlock∧(v'.ownBlock=v.ownBlock∨v'.ownBlock=some w.heap.size):=
  yC (P:=Try.prog) (ty:=24) (bytes:=72) Try.underlying24 hI hz (by kernel_rfl) (by kernel_rfl) hzs (by omega) hs (m:=1) (c:=vc) (A:=some ⟨vb,0,none⟩) (f:=fun j=>gs.getD j undef)
   (fun _=>⟨_,rfl,fun j hj=>by
    rw [iq,Nat.zero_add];refine xX j _ ?_
    rw [List.getD_eq_getElem?_getD,List.getElem?_eq_getElem (by omega)];rfl⟩)
   (fun j hj=>by
    have iK:j<gs.length:=by omega
    rw [List.getD_eq_getElem?_getD,List.getElem?_eq_getElem iK]
    exact o2 _ (List.getElem_mem iK)) (by unfold maxLen;omega) hby hb
 obtain ⟨v',w',q1,q2,q3,q4⟩:=hap;rw [hgs] at q2
 have hw1:i64.wrap ((n:Int)+1)=(n:Int)+1:=by rw [IntKind.wrap_i64];omega
 have mixed:=(show Try.prog.follows .mixedOrders=true by kernel_rfl);obtain ⟨A,c,hv,hA⟩:=gq hs
 have hnc:n≤c:=by
  rcases hs.2 with ⟨e,e'⟩ | ⟨g',cap',cur,e,_,_,h,_⟩
  ·omega
  ·rw [hv] at e;cases e;exact h
 have hc63:c≤9223372036854775807:=by
  rcases hs.2 with ⟨e,e'⟩ | ⟨g',cap',cur,e,_,_,_,h,_⟩
  ·rw [hv] at e;cases e;omega
  ·rw [hv] at e;cases e;unfold maxLen at h;omega
 rw [hv] at q1 ⊢;rw [hv] at q3 q4;clear hI hz hgs hA
 cases A with
 | none=>
  go_enter Try.func78,Try.ntmps78
  go_wp2_with (at_builtin;refine Lib.wpList_append_run _ rfl _ _ _ _ rfl _ _ rfl rfl _ _ q1 ?_)
  all_goals (go_ret;exact ⟨_,rfl,q2,q3,q4⟩)
 | some a=>
  obtain ⟨ab,ao,asp⟩:=a
  go_enter Try.func78,Try.ntmps78
  go_wp2_with (at_builtin;refine Lib.wpList_append_run _ rfl _ _ _ _ rfl _ _ rfl rfl _ _ q1 ?_)
  all_goals (go_ret;exact ⟨_,rfl,q2,q3,q4⟩)
set_option maxHeartbeats 4000000 in
theorem Ia (w:World) (base:Nat) (g cap vb vc n i:Nat) (cs gs:List Value) (hs:w.ownsRow base 62 7 (.slice (some ⟨g,0,none⟩) n cap) n cs) (h1:w.ownsRow base 62 7 (.slice (some ⟨vb,0,none⟩) 1 vc) 1 gs) (hi:i<n) (hnc:n≤cap) (hroom:cap<n+1) (hb:base≤w.heap.size) (hby:(n+1)*72≤140737488355328)
  (o1:∀ u,u∈cs→u.oneCell'=true) (o2:∀ u,u∈gs→u.oneCell'=true) :
  Calls Try.prog 78 #[.slice (some ⟨g,0,none⟩) n cap,.int .i64 i,.slice (some ⟨vb,0,none⟩) 1 vc] w fun e w'=>∃ v',e = .returned v'∧w'.ownsRow base 62 7 v' (n+1) (cs.take (i*7)++gs++cs.drop (i*7))∧w.grownBy w' (some g)∧v'.ownBlock=some w.heap.size:=by
 have hcl:cs.length=n*7:=hs.1;have UO:gs.length=1*7:=h1.1
 have hcellg:g<w.heap.size∧∀ j u,cs[j]?=some u→w.cell? ⟨g,j,none⟩=some u:=(by
  obtain ⟨g',cap',e,_,h3,_,_,h⟩:=jv hs (by omega);cases e
  exact ⟨h3,h⟩)
 have hcellv:vb<w.heap.size∧∀ j u,gs[j]?=some u→w.cell? ⟨vb,j,none⟩=some u:=(by
  obtain ⟨g',cap',e,_,h3,_,_,h⟩:=jv h1 (by omega);cases e
  exact ⟨h3,h⟩)
 obtain ⟨WX,hcell⟩:=hcellg;obtain ⟨hvw,xX⟩:=hcellv
 have hI:Try.prog.info? 62=some ((Try.prog.info? 62).get (by kernel_rfl)):=by kernel_rfl
 obtain ⟨i0,hi0⟩:∃ i0,i0=(Try.prog.info? 62).get (by kernel_rfl):=⟨_,rfl⟩
 have UN:i0.size=7:=by rw [hi0];kernel_rfl
 have hiby:i0.bytes=72:=by rw [hi0];kernel_rfl
 obtain ⟨z,hz⟩:∃ z,((Try.prog.info? 62).get (by kernel_rfl)).zero=some z:=⟨_,rfl⟩
 have hzs:z.cells.size=7:=by
  have:((Try.prog.info? 62).get (by kernel_rfl)).zero.map (·.cells.size)=some 7:=by kernel_rfl
  rw [hz] at this;exact Option.some.inj this
 rw [←hi0] at hI hz
 have hik:i+(n+1-i)=n+1:=by omega
 have hkk:(n:Int)+1-(i:Int)=((n+1-i:Nat):Int):=by omega
 have htl:(cs.take (i*7)).length=i*7:=by rw [List.length_take,hcl];have:i*7≤n*7:=Nat.mul_le_mul_right _ (by omega);omega
 have hold:(Builtin.firstCells i0.size i (.slice (some ⟨g,0,none⟩) i cap)).run Try.prog w.drew = .ok (cs.take (i*7)).toArray w.drew:=by
  rw [UN]
  exact run_firstCells_some w.drew 7 i ⟨g,0,none⟩ i cap (cs.take (i*7)) htl (fun j v hj=>by
   rw [iq,Nat.zero_add];rw [List.getElem?_take] at hj;split at hj
   ·exact hcell j v hj
   ·cases hj)
 obtain ⟨G,hG⟩:∃ G,G=grownCap w (n+1) cap 62:=⟨_,rfl⟩
 have hGn:n+1≤G:=by rw [hG];exact grownCap_ge w _ _ _
 have hGm:G≤maxLen:=by rw [hG];exact grownCap_le_maxLen w _ _ _ (by unfold maxLen;omega)
 have hrz:(Builtin.append_ #[24,3] 24 #[.slice (some ⟨g,0,none⟩) i cap,.int .i64 ((n:Int)+1-(i:Int))]).run Try.prog w =
   .ok (.slice (some ⟨w.heap.size,0,none⟩) (n+1) G) (w.drew.alloc (.cells ((cs.take (i*7)).toArray++Builtin.zeroCells z.cells (n+1-i)++Builtin.zeroCells z.cells (G-(n+1))) 62)):=by
  have h:=Lib.run_append_grow_zeros w 24 3 24 62 i0 z .i64 .i64 Try.underlying24 Try.underlying3 hI hz (some ⟨g,0,none⟩) i cap (cs.take (i*7)) hold (n+1-i) (by omega) (by rw [UN];omega) (by omega) (by omega) (by rw [hiby];omega) (by rw [hiby,hik];exact growslice_fits hroom hby);rw [hik,← hG] at h;rw [hkk];exact h
 obtain ⟨zs,hzo⟩:=L6 (w:=w) (tid:=62) (sz:=7) (i:=i) (k:=n+1-i) (G:=G) htl hzs (by omega) hGm base hb;rw [hik] at hzo;obtain ⟨ROW,hROW⟩:∃ ROW:Array Value,ROW=(cs.take (i*7)).toArray++Builtin.zeroCells z.cells (n+1-i)++Builtin.zeroCells z.cells (G-(n+1)):=⟨_,rfl⟩;rw [←hROW] at hrz hzo;have ZR:((w.alloc (.cells ROW 62)).drew).ownsRow base 62 7 (.slice (some ⟨w.heap.size,0,none⟩) (n+1) G) (n+1) (cs.take (i*7)++zs):=hzo
 have P9:∀ k,k<w.heap.size→((w.alloc (.cells ROW 62)).drew).heap[k]?=w.heap[k]?:=fun k hk=>Below.heap_alloc w _ k hk
 obtain ⟨c1,q1,q2⟩:=sL (P:=Try.prog) (w:=(w.alloc (.cells ROW 62)).drew) (T:=24) (T':=24) (ty:=3) (i:=i0) (d:=i) (m:=1) (c:=vc) (c':=G-i) (q:=1) (p:=⟨vb,0,none⟩) (us:=gs) ZR Try.underlying24 hI UN (by omega) (by omega) UO
  (fun j u hj=>by
   rw [iq,World.cell?_of_block (w:=w) (P9 vb hvw),Nat.zero_add]
   exact xX j u hj) o2
 have hne:g≠w.heap.size:=by omega
 obtain ⟨c2,q3,q4⟩:=sL (P:=Try.prog) (w:=((w.alloc (.cells ROW 62)).drew.setRow w.heap.size c1).drew) (T:=24) (T':=24) (ty:=3) (i:=i0) (d:=i+1) (m:=n-i) (c:=cap-i) (c':=G-(i+1)) (q:=n-i) (p:=⟨g,i*7,none⟩) (us:=cs.drop (i*7)) (ES q2) Try.underlying24 hI UN (by omega) (by omega) (by rw [List.length_drop,hcl,Nat.sub_mul])
  (fun j u hj=>by
   rw [iq];rw [List.getElem?_drop] at hj;rw [World.cell?_of_block (w:=(w.alloc (.cells ROW 62)).drew) (setRow_other (w.alloc (.cells ROW 62)).drew w.heap.size g c1 hne),World.cell?_of_block (w:=w) (P9 g WX)]
   exact hcell _ u hj) (fun u hu=>o1 u (List.mem_of_mem_drop hu))
 have Qd:=PU (cells:=cs.take (i*7)++zs) (cs:=cs) (gs:=gs) (zs:=zs) (n:=n) (i:=i) (sz:=7) rfl hcl ZR.1 UO (by omega);rw [Qd] at q4
 have hgrow:w.grownBy (((w.alloc (.cells ROW 62)).drew.setRow w.heap.size c1).drew.setRow w.heap.size c2) (some g):=
  MO (g:=w.heap.size) (w1:=(w.alloc (.cells ROW 62)).drew) (j9 (World.grownBy_alloc w _ none) (ri _ _)) (j9 (j9 (ld _ _ _) (ri _ _)) (ld _ _ _)) (Nat.le_refl _) _
 have hw1:i64.wrap ((n:Int)+1)=(n:Int)+1:=by rw [IntKind.wrap_i64];omega
 have hw2:i64.wrap ((i:Int)+1)=(i:Int)+1:=by rw [IntKind.wrap_i64];omega
 have hw3:i64.wrap ((n:Int)+1-(i:Int))=(n:Int)+1-(i:Int):=by rw [IntKind.wrap_i64];omega
 have hz2:¬ ((i:Int)=(n:Int)):=by omega
 have hz3:(cap:Int)<(n:Int)+1:=by omega
 have hb0:i≤n:=by omega
 have hb1:(0:Int)≤(i:Int)+1:=by omega
 have hb4:(i:Int)+1≤(n:Int)+1:=by omega
 have hb5:(i:Int)≤(n:Int)+1:=by omega
 have hb6:¬ (G=i):=by omega
 have hb7:¬ (G=i+1):=by omega
 have hb8:¬ (cap=i):=by omega
 have hb9:(i:Int)≤(cap:Int):=by omega
 have hba:i≤cap:=by omega
 have htn:((i:Int)+1).toNat=i+1:=by omega
 unfold maxLen at hGm;have mixed:=(show Try.prog.follows .mixedOrders=true by kernel_rfl);clear hI hz hzs hROW hG Qd hold hkk hik hzo ZR P9 q2
 go_enter Try.func78,Try.ntmps78
 go_wp2_with (first
  | (at_builtin;refine Lib.wpList_append_run _ rfl _ _ _ _ rfl _ _ rfl rfl _ _ hrz ?_)
  | (at_builtin;refine wpList_copy_runI _ rfl _ _ 24 24 rfl _ _ rfl rfl q1 ?_))
 go_region_law_o (refine step_copy_runI rfl _ _ 24 24 rfl (.slice (some ⟨w.heap.size,(i+1)*7,none⟩) (n+1-(i+1)) (G-(i+1))) (.slice (some ⟨g,i*7,none⟩) (n-i) (cap-i)) (by simp [Act.eval,Act.put]) (by simp [Act.eval,Act.put]) q3 ?_)
 go_wp2
 go_ret
 exact ⟨_,rfl,q4,hgrow,rfl⟩
theorem PV:SY Try.prog 78 62 7 72:=by
 have hnm:(Try.f78.name == "runtime.NumGoroutine")=false:=by kernel_rfl
 refine ⟨⟨Try.f78,Try.func78,by kernel_rfl,by simpa using hnm⟩,fun w base v v1 n i cs gs hs h1 hb hin hby hne o1 o2=>?_⟩;obtain ⟨vb,vc,e1,_,_,_,_,_⟩:=jv h1 (by omega);subst e1
 rcases Nat.lt_or_ge i n with hlt | hge
 ·obtain ⟨g,cap,e,_,_,hnc,hcm,_⟩:=jv hs (by omega)
  subst e
  rcases Nat.lt_or_ge cap (n+1) with hc | hc
  ·exact (Ia w base g cap vb vc n i cs gs hs h1 hlt hnc hc hb hby o1 o2).mono fun e w' ⟨v',h1,h2,h3,h4⟩=>⟨v',h1,h2,h3,.inr fun g' hg=>by rw [h4] at hg;cases hg;exact Nat.le_refl _⟩
  ·exact (H9 w base g cap vb vc n i cs gs hs h1 (fun e=>hne g rfl (by rw [e];rfl)) hlt hc hcm o1 o2).mono fun e w' ⟨v',h1,h2,h3,h4⟩=>⟨v',h1,h2,h3,.inl (by rw [h4];rfl)⟩
 ·have:i=n:=by omega
  subst this;have e1:cs.take (i*7)=cs:=List.take_of_length_le (by rw [hs.1];omega);have e2:cs.drop (i*7)=[]:=List.drop_of_length_le (by rw [hs.1];omega);rw [e1,e2,List.append_nil]
  exact (Mt w base v vb vc i cs gs hs h1 hb hby o2).mono fun e w' ⟨v',h1,h2,h3,h4⟩=>⟨v',h1,h2,h3,h4.imp (fun h=>h) fun h g' hg=>by rw [h] at hg;cases hg;exact Nat.le_refl _⟩
inductive Ty where
 | e3
 | e5
 | e9
 | bU
 | bD
 | s8
 | jq
 | bX
 | cC
 | Be
 | fw
 | Bd
 | ui
 deriving DecidableEq
structure ae where
 Name:ByteArray
 Version:Int
 bq:Bool
 ax:Int
 Want:Int
 Down:Int
 bg:Int
 Next:Int
 bY:Int
 aD:Int
 aU:Int
 bF:Int
 bb:Int
structure ai where
 aq:ByteArray
 Number:Int
 Version:Int
 ax:Int
 State:Int
 Ending:Bool
 bE:ByteArray
structure aG where
 Name:ByteArray
 qF:Bool
structure aa where
 bM:Int
 af:List ae
 ah:List ai
 ak:List aG
structure aJ where
 Kind:Int
 eZ:ByteArray
 dN:Int
 ff:Bool
 eF:Int
 eW:Int
 fg:Int
 eX:Int
 eY:Int
 fU:Int
 eE:Int
 fb:Int
 fe:Int
 fm:Int
 Name:ByteArray
 Number:Int
 yO:Bool
structure cu where
 Number:Int
 Seen:Int
structure au where
 aq:ByteArray
 Seen:Int
 bK:Int
 Want:Int
 bb:Int
 cM:Bool
 Ends:List cu
 Drop:Bool
structure aR where
 iS:List aa
 cA:Int
 aV:List ae
 bH:List ai
 bI:List aG
structure dm where
 Live:Int
 qE:Int
 Old:Int
 Failed:Int
 Ending:Int
structure gw where
 Dj:Int
 Age:Int
 ry:Int
 jc:ByteArray
 gQ:Int
 jf:Bool
 iJ:Int
 iZ:Int
 jg:Int
 ja:Int
 jb:Int
 jI:Int
 iI:Int
 jd:Int
 je:Int
 jh:Int
 ru:ByteArray
 nT:Int
 rz:Bool
structure Vs where
 x:Int
 y:Int
 signed:Bool
 code:Int
structure Vl12Rd where
 b:List Int
 p:Int
abbrev C:Ty→Type
 | .e3=>Int
 | .e5=>Int
 | .e9=>ByteArray
 | .bU=>aa
 | .bD=>ae
 | .s8=>aJ
 | .jq=>au
 | .bX=>ai
 | .cC=>aG
 | .Be=>aR
 | .fw=>cu
 | .Bd=>dm
 | .ui=>gw
def enc:(t:Ty)→C t→List (Lf C)
 | .e3,x=>[.int .i64 x]
 | .e5,x=>[.int .u8 x]
 | .e9,x=>[.str x]
 | .bU,x=>[.int .i64 x.bM,.row .bD x.af,.row .bX x.ah,.row .cC x.ak]
 | .bD,x=>[.str x.Name,.int .i64 x.Version,.bool x.bq,.int .i64 x.ax,.int .i64 x.Want,.int .i64 x.Down,.int .i64 x.bg,.int .i64 x.Next,.int .i64 x.bY,.int .i64 x.aD,.int .i64 x.aU,.int .i64 x.bF,.int .i64 x.bb]
 | .s8,x=>[.int .i64 x.Kind,.str x.eZ,.int .i64 x.dN,.bool x.ff,.int .i64 x.eF,.int .i64 x.eW,.int .i64 x.fg,.int .i64 x.eX,.int .i64 x.eY,.int .i64 x.fU,.int .i64 x.eE,.int .i64 x.fb,.int .i64 x.fe,.int .i64 x.fm,.str x.Name,.int .i64 x.Number,.bool x.yO]
 | .jq,x=>[.str x.aq,.int .i64 x.Seen,.int .i64 x.bK,.int .i64 x.Want,.int .i64 x.bb,.bool x.cM,.row .fw x.Ends,.bool x.Drop]
 | .bX,x=>[.str x.aq,.int .i64 x.Number,.int .i64 x.Version,.int .i64 x.ax,.int .i64 x.State,.bool x.Ending,.str x.bE]
 | .cC,x=>[.str x.Name,.bool x.qF]
 | .Be,x=>[.row .bU x.iS,.int .i64 x.cA,.row .bD x.aV,.row .bX x.bH,.row .cC x.bI]
 | .fw,x=>[.int .i64 x.Number,.int .i64 x.Seen]
 | .Bd,x=>[.int .i64 x.Live,.int .i64 x.qE,.int .i64 x.Old,.int .i64 x.Failed,.int .i64 x.Ending]
 | .ui,x=>[.int .i64 x.Dj,.int .i64 x.Age,.int .i64 x.ry,.str x.jc,.int .i64 x.gQ,.bool x.jf,.int .i64 x.iJ,.int .i64 x.iZ,.int .i64 x.jg,.int .i64 x.ja,.int .i64 x.jb,.int .i64 x.jI,.int .i64 x.iI,.int .i64 x.jd,.int .i64 x.je,.int .i64 x.jh,.str x.ru,.int .i64 x.nT,.bool x.rz]
def d3 (cs:List (Lf C)):Option (C .e3):=match cs with
 | [.int .i64 x]=>some x
 | _=>none
theorem d3_ok (cs:List (Lf C)) (x:C .e3) (h:d3 cs=some x):enc .e3 x=cs:=by
 unfold d3 at h;split at h
 ·cases h;rfl
 ·cases h
def d5 (cs:List (Lf C)):Option (C .e5):=match cs with
 | [.int .u8 x]=>some x
 | _=>none
theorem d5_ok (cs:List (Lf C)) (x:C .e5) (h:d5 cs=some x):enc .e5 x=cs:=by
 unfold d5 at h;split at h
 ·cases h;rfl
 ·cases h
def d9 (cs:List (Lf C)):Option (C .e9):=match cs with
 | [.str x]=>some x
 | _=>none
theorem d9_ok (cs:List (Lf C)) (x:C .e9) (h:d9 cs=some x):enc .e9 x=cs:=by
 unfold d9 at h;split at h
 ·cases h;rfl
 ·cases h
def d27 (cs:List (Lf C)):Option (C .bU):=match cs with
 | [.int .i64 x0,.row .bD x1,.row .bX x2,.row .cC x3]=>some ⟨x0,x1,x2,x3⟩
 | _=>none
theorem d27_ok (cs:List (Lf C)) (x:C .bU) (h:d27 cs=some x):enc .bU x=cs:=by
 unfold d27 at h;split at h
 ·cases h;rfl
 ·cases h
def d29 (cs:List (Lf C)):Option (C .bD):=match cs with
 | [.str x0,.int .i64 x1,.bool x2,.int .i64 x3,.int .i64 x4,.int .i64 x5,.int .i64 x6,.int .i64 x7,.int .i64 x8,.int .i64 x9,.int .i64 aK,.int .i64 aN,.int .i64 aP]=>some ⟨x0,x1,x2,x3,x4,x5,x6,x7,x8,x9,aK,aN,aP⟩
 | _=>none
theorem d29_ok (cs:List (Lf C)) (x:C .bD) (h:d29 cs=some x):enc .bD x=cs:=by
 unfold d29 at h;split at h
 ·cases h;rfl
 ·cases h
def d31 (cs:List (Lf C)):Option (C .s8):=match cs with
 | [.int .i64 x0,.str x1,.int .i64 x2,.bool x3,.int .i64 x4,.int .i64 x5,.int .i64 x6,.int .i64 x7,.int .i64 x8,.int .i64 x9,.int .i64 aK,.int .i64 aN,.int .i64 aP,.int .i64 aX,.str bf,.int .i64 aS,.bool aO]=>some ⟨x0,x1,x2,x3,x4,x5,x6,x7,x8,x9,aK,aN,aP,aX,bf,aS,aO⟩
 | _=>none
theorem d31_ok (cs:List (Lf C)) (x:C .s8) (h:d31 cs=some x):enc .s8 x=cs:=by
 unfold d31 at h;split at h
 ·cases h;rfl
 ·cases h
def d41 (cs:List (Lf C)):Option (C .jq):=match cs with
 | [.str x0,.int .i64 x1,.int .i64 x2,.int .i64 x3,.int .i64 x4,.bool x5,.row .fw x6,.bool x7]=>some ⟨x0,x1,x2,x3,x4,x5,x6,x7⟩
 | _=>none
theorem d41_ok (cs:List (Lf C)) (x:C .jq) (h:d41 cs=some x):enc .jq x=cs:=by
 unfold d41 at h;split at h
 ·cases h;rfl
 ·cases h
def d62 (cs:List (Lf C)):Option (C .bX):=match cs with
 | [.str x0,.int .i64 x1,.int .i64 x2,.int .i64 x3,.int .i64 x4,.bool x5,.str x6]=>some ⟨x0,x1,x2,x3,x4,x5,x6⟩
 | _=>none
theorem d62_ok (cs:List (Lf C)) (x:C .bX) (h:d62 cs=some x):enc .bX x=cs:=by
 unfold d62 at h;split at h
 ·cases h;rfl
 ·cases h
def d64 (cs:List (Lf C)):Option (C .cC):=match cs with
 | [.str x0,.bool x1]=>some ⟨x0,x1⟩
 | _=>none
theorem d64_ok (cs:List (Lf C)) (x:C .cC) (h:d64 cs=some x):enc .cC x=cs:=by
 unfold d64 at h;split at h
 ·cases h;rfl
 ·cases h
def d75 (cs:List (Lf C)):Option (C .Be):=match cs with
 | [.row .bU x0,.int .i64 x1,.row .bD x2,.row .bX x3,.row .cC x4]=>some ⟨x0,x1,x2,x3,x4⟩
 | _=>none
theorem d75_ok (cs:List (Lf C)) (x:C .Be) (h:d75 cs=some x):enc .Be x=cs:=by
 unfold d75 at h;split at h
 ·cases h;rfl
 ·cases h
def d80 (cs:List (Lf C)):Option (C .fw):=match cs with
 | [.int .i64 x0,.int .i64 x1]=>some ⟨x0,x1⟩
 | _=>none
theorem d80_ok (cs:List (Lf C)) (x:C .fw) (h:d80 cs=some x):enc .fw x=cs:=by
 unfold d80 at h;split at h
 ·cases h;rfl
 ·cases h
def d85 (cs:List (Lf C)):Option (C .Bd):=match cs with
 | [.int .i64 x0,.int .i64 x1,.int .i64 x2,.int .i64 x3,.int .i64 x4]=>some ⟨x0,x1,x2,x3,x4⟩
 | _=>none
theorem d85_ok (cs:List (Lf C)) (x:C .Bd) (h:d85 cs=some x):enc .Bd x=cs:=by
 unfold d85 at h;split at h
 ·cases h;rfl
 ·cases h
def d117 (cs:List (Lf C)):Option (C .ui):=match cs with
 | [.int .i64 x0,.int .i64 x1,.int .i64 x2,.str x3,.int .i64 x4,.bool x5,.int .i64 x6,.int .i64 x7,.int .i64 x8,.int .i64 x9,.int .i64 aK,.int .i64 aN,.int .i64 aP,.int .i64 aX,.int .i64 bf,.int .i64 aS,.str aO,.int .i64 aT,.bool aW]=>some ⟨x0,x1,x2,x3,x4,x5,x6,x7,x8,x9,aK,aN,aP,aX,bf,aS,aO,aT,aW⟩
 | _=>none
theorem Vd (cs:List (Lf C)) (x:C .ui) (h:d117 cs=some x):enc .ui x=cs:=by
 unfold d117 at h;split at h
 ·cases h;rfl
 ·cases h
def dec (t:Ty):List (Lf C)→Option (C t):=match t with
 | .e3=>d3
 | .e5=>d5
 | .e9=>d9
 | .bU=>d27
 | .bD=>d29
 | .s8=>d31
 | .jq=>d41
 | .bX=>d62
 | .cC=>d64
 | .Be=>d75
 | .fw=>d80
 | .Bd=>d85
 | .ui=>d117
def KK:Cd C where
 enc:=enc
 dec:=dec
 sz:=fun t=>match t with
  | .e3=>1
  | .e5=>1
  | .e9=>1
  | .bU=>4
  | .bD=>13
  | .s8=>17
  | .jq=>8
  | .bX=>7
  | .cC=>2
  | .Be=>5
  | .fw=>2
  | .Bd=>5
  | .ui=>19
 tid:=fun t=>match t with
  | .e3=>3
  | .e5=>5
  | .e9=>9
  | .bU=>27
  | .bD=>29
  | .s8=>31
  | .jq=>41
  | .bX=>62
  | .cC=>64
  | .Be=>75
  | .fw=>80
  | .Bd=>85
  | .ui=>117
 bytes:=fun t=>match t with
  | .e3=>8
  | .e5=>1
  | .e9=>16
  | .bU=>80
  | .bD=>112
  | .s8=>152
  | .jq=>88
  | .bX=>72
  | .cC=>24
  | .Be=>104
  | .fw=>16
  | .Bd=>40
  | .ui=>168
 zero:=fun t=>match t with
  | .e3=>(0:Int)
  | .e5=>(0:Int)
  | .e9=>(⟨#[]⟩:ByteArray)
  | .bU=>(⟨0,[],[],[]⟩:aa)
  | .bD=>(⟨⟨#[]⟩,0,false,0,0,0,0,0,0,0,0,0,0⟩:ae)
  | .s8=>(⟨0,⟨#[]⟩,0,false,0,0,0,0,0,0,0,0,0,0,⟨#[]⟩,0,false⟩:aJ)
  | .jq=>(⟨⟨#[]⟩,0,0,0,0,false,[],false⟩:au)
  | .bX=>(⟨⟨#[]⟩,0,0,0,0,false,⟨#[]⟩⟩:ai)
  | .cC=>(⟨⟨#[]⟩,false⟩:aG)
  | .Be=>(⟨[],0,[],[],[]⟩:aR)
  | .fw=>(⟨0,0⟩:cu)
  | .Bd=>(⟨0,0,0,0,0⟩:dm)
  | .ui=>(⟨0,0,0,⟨#[]⟩,0,false,0,0,0,0,0,0,0,0,0,0,⟨#[]⟩,0,false⟩:gw)
 pos:=fun t=>by cases t<;>decide
 gH:=fun t x=>by cases t<;>rfl
 jD:=fun t cs x h=>by
  cases t
  ·exact d3_ok cs x h
  ·exact d5_ok cs x h
  ·exact d9_ok cs x h
  ·exact d27_ok cs x h
  ·exact d29_ok cs x h
  ·exact d31_ok cs x h
  ·exact d41_ok cs x h
  ·exact d62_ok cs x h
  ·exact d64_ok cs x h
  ·exact d75_ok cs x h
  ·exact d80_ok cs x h
  ·exact d85_ok cs x h
  ·exact Vd cs x h
 Bb:=fun t x l h=>by
  cases t<;>simp only [enc,List.mem_cons,List.not_mem_nil,or_false] at h<;>(first | (subst h;rfl) | (rcases h with rfl<;>rfl) | (repeat (rcases h with rfl | h;· rfl))<;>(subst h;rfl))
 flat:=fun t=>match t with
  | .e3=>true
  | .e5=>true
  | .e9=>true
  | .bU=>false
  | .bD=>true
  | .s8=>true
  | .jq=>false
  | .bX=>true
  | .cC=>true
  | .Be=>false
  | .fw=>true
  | .Bd=>true
  | .ui=>true
 byte:=fun t=>match t with
  | .e3=>false
  | .e5=>true
  | .e9=>false
  | .bU=>false
  | .bD=>false
  | .s8=>false
  | .jq=>false
  | .bX=>false
  | .cC=>false
  | .Be=>false
  | .fw=>false
  | .Bd=>false
  | .ui=>false
 sI:=fun t ht x=>by cases t<;>first | (cases ht;done) | exact ⟨_,rfl⟩
 yl:=fun t ht x t' ys h=>by cases t<;>first | (cases ht;done) | (simp [enc] at h)
def tks:List (Nat×TK Ty):=[
 (1,.one (.dP)),
 (2,.one (.int .i64)),
 (3,.one (.int .i64)),
 (4,.one (.bool)),
 (5,.one (.int .u8)),
 (6,.one (.int .u8)),
 (7,.agg [(0,1,false),(1,1,false),(2,1,false),(3,1,false)] [.int .i64,.int .i64,.bool,.int .u8]),
 (8,.agg [(0,1,false),(1,1,false),(2,1,false),(3,1,false)] [.int .i64,.int .i64,.bool,.int .u8]),
 (9,.one (.str)),
 (10,.one (.str)),
 (11,.one (.str)),
 (12,.one (.int .u64)),
 (20,.one (.nk .mF)),
 (22,.one (.er .e5)),
 (23,.one (.er .bD)),
 (24,.one (.er .bX)),
 (25,.one (.er .cC)),
 (27,.agg [(0,1,false),(1,1,false),(2,1,false),(3,1,false)] [.int .i64,.er .bD,.er .bX,.er .cC]),
 (29,.agg [(0,1,false),(1,1,false),(2,1,false),(3,1,false),(4,1,false),(5,1,false),(6,1,false),(7,1,false),(8,1,false),(9,1,false),(10,1,false),(11,1,false),(12,1,false)] [.str,.int .i64,.bool,.int .i64,.int .i64,.int .i64,.int .i64,.int .i64,.int .i64,.int .i64,.int .i64,.int .i64,.int .i64]),
 (31,.agg [(0,1,false),(1,13,true),(14,1,false),(15,1,false),(16,1,false)] [.int .i64,.str,.int .i64,.bool,.int .i64,.int .i64,.int .i64,.int .i64,.int .i64,.int .i64,.int .i64,.int .i64,.int .i64,.int .i64,.str,.int .i64,.bool]),
 (39,.one (.er .fw)),
 (41,.agg [(0,1,false),(1,1,false),(2,1,false),(3,1,false),(4,1,false),(5,1,false),(6,1,false),(7,1,false)] [.str,.int .i64,.int .i64,.int .i64,.int .i64,.bool,.er .fw,.bool]),
 (48,.one (.er .jq)),
 (51,.one (.ptr)),
 (56,.one (.er .e3)),
 (57,.one (.er .e9)),
 (62,.agg [(0,1,false),(1,1,false),(2,1,false),(3,1,false),(4,1,false),(5,1,false),(6,1,false)] [.str,.int .i64,.int .i64,.int .i64,.int .i64,.bool,.str]),
 (64,.agg [(0,1,false),(1,1,false)] [.str,.bool]),
 (69,.one (.ptr)),
 (71,.one (.ptr)),
 (73,.one (.er .bU)),
 (75,.agg [(0,1,false),(1,4,true)] [.er .bU,.int .i64,.er .bD,.er .bX,.er .cC]),
 (80,.agg [(0,1,false),(1,1,false)] [.int .i64,.int .i64]),
 (85,.agg [(0,1,false),(1,1,false),(2,1,false),(3,1,false),(4,1,false)] [.int .i64,.int .i64,.int .i64,.int .i64,.int .i64]),
 (94,.agg [(0,1,false),(1,1,false)] [.er .e5,.int .i64]),
 (97,.one (.ptr)),
 (99,.one (.dP)),
 (101,.one (.ptr)),
 (106,.one (.dP)),
 (117,.agg [(0,1,false),(1,1,false),(2,17,true)] [.int .i64,.int .i64,.int .i64,.str,.int .i64,.bool,.int .i64,.int .i64,.int .i64,.int .i64,.int .i64,.int .i64,.int .i64,.int .i64,.int .i64,.int .i64,.str,.int .i64,.bool]),
 (129,.one (.dP)),
 (130,.one (.dP)),
 (131,.one (.dP)),
 (133,.one (.dP)),
 (153,.one (.dP))]
theorem tf1:cw Try.prog KK 1 (.one (.dP)):=ji (by kernel_rfl) (by kernel_rfl) (by kernel_rfl)
theorem tf2:cw Try.prog KK 2 (.one (.int .i64)):=cQ (by kernel_rfl) (by kernel_rfl) (d:=.int .i64) (by kernel_rfl) rfl
theorem tf3:cw Try.prog KK 3 (.one (.int .i64)):=cQ (by kernel_rfl) (by kernel_rfl) (d:=.int .i64) (by kernel_rfl) rfl
theorem tf4:cw Try.prog KK 4 (.one (.bool)):=cQ (by kernel_rfl) (by kernel_rfl) (d:=.bool) (by kernel_rfl) rfl
theorem tf5:cw Try.prog KK 5 (.one (.int .u8)):=cQ (by kernel_rfl) (by kernel_rfl) (d:=.int .u8) (by kernel_rfl) rfl
theorem tf6:cw Try.prog KK 6 (.one (.int .u8)):=cQ (by kernel_rfl) (by kernel_rfl) (d:=.int .u8) (by kernel_rfl) rfl
theorem tf7:cw Try.prog KK 7 (.agg [(0,1,false),(1,1,false),(2,1,false),(3,1,false)] [.int .i64,.int .i64,.bool,.int .u8]):=fo (by kernel_rfl) (by kernel_rfl) (by kernel_rfl)
theorem tf8:cw Try.prog KK 8 (.agg [(0,1,false),(1,1,false),(2,1,false),(3,1,false)] [.int .i64,.int .i64,.bool,.int .u8]):=fo (by kernel_rfl) (by kernel_rfl) (by kernel_rfl)
theorem tf9:cw Try.prog KK 9 (.one (.str)):=cQ (by kernel_rfl) (by kernel_rfl) (d:=.string) (by kernel_rfl) rfl
theorem tf10:cw Try.prog KK 10 (.one (.str)):=cQ (by kernel_rfl) (by kernel_rfl) (d:=.string) (by kernel_rfl) rfl
theorem tf11:cw Try.prog KK 11 (.one (.str)):=cQ (by kernel_rfl) (by kernel_rfl) (d:=.string) (by kernel_rfl) rfl
theorem tf12:cw Try.prog KK 12 (.one (.int .u64)):=cQ (by kernel_rfl) (by kernel_rfl) (d:=.int .u64) (by kernel_rfl) rfl
theorem tf20:cw Try.prog KK 20 (.one (.nk .mF)):=LJ (by kernel_rfl) (by kernel_rfl) (by kernel_rfl)
theorem tf22:cw Try.prog KK 22 (.one (.er .e5)):=cQ (by kernel_rfl) (by kernel_rfl) (d:=.slice 5) (by kernel_rfl) rfl
theorem tf23:cw Try.prog KK 23 (.one (.er .bD)):=cQ (by kernel_rfl) (by kernel_rfl) (d:=.slice 29) (by kernel_rfl) rfl
theorem tf24:cw Try.prog KK 24 (.one (.er .bX)):=cQ (by kernel_rfl) (by kernel_rfl) (d:=.slice 62) (by kernel_rfl) rfl
theorem tf25:cw Try.prog KK 25 (.one (.er .cC)):=cQ (by kernel_rfl) (by kernel_rfl) (d:=.slice 64) (by kernel_rfl) rfl
theorem tf27:cw Try.prog KK 27 (.agg [(0,1,false),(1,1,false),(2,1,false),(3,1,false)] [.int .i64,.er .bD,.er .bX,.er .cC]):=fo (by kernel_rfl) (by kernel_rfl) (by kernel_rfl)
theorem tf29:cw Try.prog KK 29 (.agg [(0,1,false),(1,1,false),(2,1,false),(3,1,false),(4,1,false),(5,1,false),(6,1,false),(7,1,false),(8,1,false),(9,1,false),(10,1,false),(11,1,false),(12,1,false)] [.str,.int .i64,.bool,.int .i64,.int .i64,.int .i64,.int .i64,.int .i64,.int .i64,.int .i64,.int .i64,.int .i64,.int .i64]):=fo (by kernel_rfl) (by kernel_rfl) (by kernel_rfl)
theorem tf31:cw Try.prog KK 31 (.agg [(0,1,false),(1,13,true),(14,1,false),(15,1,false),(16,1,false)] [.int .i64,.str,.int .i64,.bool,.int .i64,.int .i64,.int .i64,.int .i64,.int .i64,.int .i64,.int .i64,.int .i64,.int .i64,.int .i64,.str,.int .i64,.bool]):=fo (by kernel_rfl) (by kernel_rfl) (by kernel_rfl)
theorem tf39:cw Try.prog KK 39 (.one (.er .fw)):=cQ (by kernel_rfl) (by kernel_rfl) (d:=.slice 80) (by kernel_rfl) rfl
theorem tf41:cw Try.prog KK 41 (.agg [(0,1,false),(1,1,false),(2,1,false),(3,1,false),(4,1,false),(5,1,false),(6,1,false),(7,1,false)] [.str,.int .i64,.int .i64,.int .i64,.int .i64,.bool,.er .fw,.bool]):=fo (by kernel_rfl) (by kernel_rfl) (by kernel_rfl)
theorem tf48:cw Try.prog KK 48 (.one (.er .jq)):=cQ (by kernel_rfl) (by kernel_rfl) (d:=.slice 41) (by kernel_rfl) rfl
theorem tf51:cw Try.prog KK 51 (.one (.ptr)):=cQ (by kernel_rfl) (by kernel_rfl) (d:=.pointer 94) (by kernel_rfl) ⟨_,rfl⟩
theorem tf56:cw Try.prog KK 56 (.one (.er .e3)):=cQ (by kernel_rfl) (by kernel_rfl) (d:=.slice 3) (by kernel_rfl) rfl
theorem tf57:cw Try.prog KK 57 (.one (.er .e9)):=cQ (by kernel_rfl) (by kernel_rfl) (d:=.slice 9) (by kernel_rfl) rfl
theorem tf62:cw Try.prog KK 62 (.agg [(0,1,false),(1,1,false),(2,1,false),(3,1,false),(4,1,false),(5,1,false),(6,1,false)] [.str,.int .i64,.int .i64,.int .i64,.int .i64,.bool,.str]):=fo (by kernel_rfl) (by kernel_rfl) (by kernel_rfl)
theorem tf64:cw Try.prog KK 64 (.agg [(0,1,false),(1,1,false)] [.str,.bool]):=fo (by kernel_rfl) (by kernel_rfl) (by kernel_rfl)
theorem tf69:cw Try.prog KK 69 (.one (.ptr)):=cQ (by kernel_rfl) (by kernel_rfl) (d:=.pointer 29) (by kernel_rfl) ⟨_,rfl⟩
theorem tf71:cw Try.prog KK 71 (.one (.ptr)):=cQ (by kernel_rfl) (by kernel_rfl) (d:=.pointer 64) (by kernel_rfl) ⟨_,rfl⟩
theorem tf73:cw Try.prog KK 73 (.one (.er .bU)):=cQ (by kernel_rfl) (by kernel_rfl) (d:=.slice 27) (by kernel_rfl) rfl
theorem tf75:cw Try.prog KK 75 (.agg [(0,1,false),(1,4,true)] [.er .bU,.int .i64,.er .bD,.er .bX,.er .cC]):=fo (by kernel_rfl) (by kernel_rfl) (by kernel_rfl)
theorem tf80:cw Try.prog KK 80 (.agg [(0,1,false),(1,1,false)] [.int .i64,.int .i64]):=fo (by kernel_rfl) (by kernel_rfl) (by kernel_rfl)
theorem tf85:cw Try.prog KK 85 (.agg [(0,1,false),(1,1,false),(2,1,false),(3,1,false),(4,1,false)] [.int .i64,.int .i64,.int .i64,.int .i64,.int .i64]):=fo (by kernel_rfl) (by kernel_rfl) (by kernel_rfl)
theorem tf94:cw Try.prog KK 94 (.agg [(0,1,false),(1,1,false)] [.er .e5,.int .i64]):=fo (by kernel_rfl) (by kernel_rfl) (by kernel_rfl)
theorem tf97:cw Try.prog KK 97 (.one (.ptr)):=cQ (by kernel_rfl) (by kernel_rfl) (d:=.pointer 27) (by kernel_rfl) ⟨_,rfl⟩
theorem tf99:cw Try.prog KK 99 (.one (.dP)):=ji (by kernel_rfl) (by kernel_rfl) (by kernel_rfl)
theorem tf101:cw Try.prog KK 101 (.one (.ptr)):=cQ (by kernel_rfl) (by kernel_rfl) (d:=.pointer 62) (by kernel_rfl) ⟨_,rfl⟩
theorem tf106:cw Try.prog KK 106 (.one (.dP)):=ji (by kernel_rfl) (by kernel_rfl) (by kernel_rfl)
theorem tf117:cw Try.prog KK 117 (.agg [(0,1,false),(1,1,false),(2,17,true)] [.int .i64,.int .i64,.int .i64,.str,.int .i64,.bool,.int .i64,.int .i64,.int .i64,.int .i64,.int .i64,.int .i64,.int .i64,.int .i64,.int .i64,.int .i64,.str,.int .i64,.bool]):=fo (by kernel_rfl) (by kernel_rfl) (by kernel_rfl)
theorem tf129:cw Try.prog KK 129 (.one (.dP)):=ji (by kernel_rfl) (by kernel_rfl) (by kernel_rfl)
theorem tf130:cw Try.prog KK 130 (.one (.dP)):=ji (by kernel_rfl) (by kernel_rfl) (by kernel_rfl)
theorem tf131:cw Try.prog KK 131 (.one (.dP)):=ji (by kernel_rfl) (by kernel_rfl) (by kernel_rfl)
theorem tf133:cw Try.prog KK 133 (.one (.dP)):=ji (by kernel_rfl) (by kernel_rfl) (by kernel_rfl)
theorem tf153:cw Try.prog KK 153 (.one (.dP)):=ji (by kernel_rfl) (by kernel_rfl) (by kernel_rfl)
set_option maxRecDepth 100000 in
theorem N9:∀ T k,lk tks T=some k→cw Try.prog KK T k:=Oa (l:=tks) ⟨tf1,tf2,tf3,tf4,tf5,tf6,tf7,tf8,tf9,tf10,tf11,tf12,tf20,tf22,tf23,tf24,tf25,tf27,tf29,tf31,tf39,tf41,tf48,tf51,tf56,tf57,tf62,tf64,tf69,tf71,tf73,tf75,tf80,tf85,tf94,tf97,tf99,tf101,tf106,tf117,tf129,tf130,tf131,tf133,tf153,trivial⟩
theorem Qv:∀ t,yR Try.prog KK t:=by
 intro t;cases t
 ·exact mY (z:=.int .i64 0) (by kernel_rfl) (by show 0<8;decide) (by kernel_rfl) (by kernel_rfl)
 ·exact mY (z:=.int .u8 0) (by kernel_rfl) (by show 0<1;decide) (by kernel_rfl) (by kernel_rfl)
 ·exact mY (z:=.string ⟨#[]⟩) (by kernel_rfl) (by show 0<16;decide) (by kernel_rfl) (by kernel_rfl)
 ·exact mY (z:=.agg #[.int .i64 0,.slice none 0 0,.slice none 0 0,.slice none 0 0]) (by kernel_rfl) (by show 0<80;decide) (by kernel_rfl) (by kernel_rfl)
 ·exact mY (z:=.agg #[.string ⟨#[]⟩,.int .i64 0,.bool false,.int .i64 0,.int .i64 0,.int .i64 0,.int .i64 0,.int .i64 0,.int .i64 0,.int .i64 0,.int .i64 0,.int .i64 0,.int .i64 0]) (by kernel_rfl) (by show 0<112;decide) (by kernel_rfl) (by kernel_rfl)
 ·exact mY (z:=.agg #[.int .i64 0,.string ⟨#[]⟩,.int .i64 0,.bool false,.int .i64 0,.int .i64 0,.int .i64 0,.int .i64 0,.int .i64 0,.int .i64 0,.int .i64 0,.int .i64 0,.int .i64 0,.int .i64 0,.string ⟨#[]⟩,.int .i64 0,.bool false]) (by kernel_rfl) (by show 0<152;decide) (by kernel_rfl) (by kernel_rfl)
 ·exact mY (z:=.agg #[.string ⟨#[]⟩,.int .i64 0,.int .i64 0,.int .i64 0,.int .i64 0,.bool false,.slice none 0 0,.bool false]) (by kernel_rfl) (by show 0<88;decide) (by kernel_rfl) (by kernel_rfl)
 ·exact mY (z:=.agg #[.string ⟨#[]⟩,.int .i64 0,.int .i64 0,.int .i64 0,.int .i64 0,.bool false,.string ⟨#[]⟩]) (by kernel_rfl) (by show 0<72;decide) (by kernel_rfl) (by kernel_rfl)
 ·exact mY (z:=.agg #[.string ⟨#[]⟩,.bool false]) (by kernel_rfl) (by show 0<24;decide) (by kernel_rfl) (by kernel_rfl)
 ·exact mY (z:=.agg #[.slice none 0 0,.int .i64 0,.slice none 0 0,.slice none 0 0,.slice none 0 0]) (by kernel_rfl) (by show 0<104;decide) (by kernel_rfl) (by kernel_rfl)
 ·exact mY (z:=.agg #[.int .i64 0,.int .i64 0]) (by kernel_rfl) (by show 0<16;decide) (by kernel_rfl) (by kernel_rfl)
 ·exact mY (z:=.agg #[.int .i64 0,.int .i64 0,.int .i64 0,.int .i64 0,.int .i64 0]) (by kernel_rfl) (by show 0<40;decide) (by kernel_rfl) (by kernel_rfl)
 ·exact mY (z:=.agg #[.int .i64 0,.int .i64 0,.int .i64 0,.string ⟨#[]⟩,.int .i64 0,.bool false,.int .i64 0,.int .i64 0,.int .i64 0,.int .i64 0,.int .i64 0,.int .i64 0,.int .i64 0,.int .i64 0,.int .i64 0,.int .i64 0,.string ⟨#[]⟩,.int .i64 0,.bool false]) (by kernel_rfl) (by show 0<168;decide) (by kernel_rfl) (by kernel_rfl)
def mps:List (Nat×MT Ty):=[]
theorem Zf:∀ T m,lk mps T=some m→Gg Try.prog KK T m:=mp_of (by
 intro x hx
 simp only [mps,List.mem_cons,List.not_mem_nil,or_false] at hx)
def WE:List (Nat×String×Nat):=[(8, "Error",128),(8, "RuntimeError",129),(10, "Error",130),(10, "RuntimeError",131),(11, "Error",132),(11, "RuntimeError",133),(51, "loop.example/wharfdesk/spec.pick",23),(97, "loop.example/wharfdesk/impl.act",41),(97, "loop.example/wharfdesk/impl.ask",46),(97, "loop.example/wharfdesk/impl.berth",37),(97, "loop.example/wharfdesk/impl.copy",56),(97, "loop.example/wharfdesk/impl.count",77),(97, "loop.example/wharfdesk/impl.drained",85),(97, "loop.example/wharfdesk/impl.first",91),(97, "loop.example/wharfdesk/impl.mayEnd",76),(97, "loop.example/wharfdesk/impl.sea",25),(97, "loop.example/wharfdesk/impl.service",36),(97, "loop.example/wharfdesk/impl.tick",52)]
theorem Pv:∀ T name f,lkS WE T name=some f→∀ v w,(method (Try.prog.types.size+Made.depth) T v name).run Try.prog w = .ok (f,v) w:=Ut (by kernel_rfl)
abbrev BA:=ByteArray
abbrev cJ:=List (C .e3)
abbrev ed:=List (C .e5)
abbrev zq:=List (C .e9)
abbrev dK:=List (C .bU)
abbrev aB:=List (C .bD)
abbrev eI:=List (C .jq)
abbrev ay:=List (C .bX)
abbrev aA:=List (C .cC)
abbrev aI:=List (C .fw)
end Go.Proofs.Ytipemmgoipbojaa.Ab
namespace Go.Proofs.Ytipemmgoipbojaa.Ab
open Go Go.RowKit Go.IntKind
def fuel:Nat:=4611686018427387904
def ZI {α:Type 1}:List (Nat×α)→Nat→Option α
 | [],_=>none
 | (m,v)::r,n=>cond (Nat.beq n m) (some v) (ZI r n)
def allR (P:Program) (K:Cd C):List (Nat×iu C)→Prop
 | []=>True
 | (f,c)::r=>cL P K f c∧allR P K r
def allW (P:Program) (K:Cd C):List (Nat×rA C)→Prop
 | []=>True
 | (f,c)::r=>uy P K f c∧allW P K r
theorem PJ {P:Program} {K:Cd C}:∀ {l:List (Nat×iu C)},allR P K l→∀ f c,ZI l f=some c→cL P K f c
 | [],_,f,c,h=>by cases h
 | (m,v)::r,ha,f,c,h=>by
  simp only [ZI] at h
  cases hb:Nat.beq f m with
  | true=>rw [hb] at h;cases h;have:=Nat.eq_of_beq_eq_true hb;subst this;exact ha.1
  | false=>rw [hb] at h;exact PJ ha.2 f c h
theorem PI {P:Program} {K:Cd C}:∀ {l:List (Nat×rA C)},allW P K l→∀ f c,ZI l f=some c→uy P K f c
 | [],_,f,c,h=>by cases h
 | (m,v)::r,ha,f,c,h=>by
  simp only [ZI] at h
  cases hb:Nat.beq f m with
  | true=>rw [hb] at h;cases h;have:=Nat.eq_of_beq_eq_true hb;subst this;exact ha.1
  | false=>rw [hb] at h;exact PI ha.2 f c h
theorem iD {s t:String} (h:(s==t)=false):s≠t:=by simpa using h
def exts:List (Nat×(List Value→Option Value)):=[]
theorem U0:∀ f e,lk exts f=some e→Yr Try.prog f e:=by
 intro f e h;simp only [exts] at h;simp [lk] at h
def ZN:List (Nat×Ty):=[(78,.bX)]
theorem UC:∀ f t,lk ZN f=some t→SY Try.prog f (KK.tid t) (KK.sz t) (KK.bytes t):=by
 intro f t h;simp only [ZN,aQ] at h;split at h
 ·subst_vars
  cases h;exact PV
 cases h
def eqts:List (Nat×List EK):=[(29,[.str,.int .i64,.bool,.int .i64,.int .i64,.int .i64,.int .i64,.int .i64,.int .i64,.int .i64,.int .i64,.int .i64,.int .i64]),(62,[.str,.int .i64,.int .i64,.int .i64,.int .i64,.bool,.str]),(64,[.str,.bool]),(80,[.int .i64,.int .i64])]
theorem U1:∀ T ks,lk eqts T=some ks→yP Try.prog T ks:=by
 intro T ks h;simp only [eqts,aQ] at h;split at h
 ·subst_vars
  cases h;exact qa (by kernel_rfl)
 split at h
 ·subst_vars
  cases h;exact qa (by kernel_rfl)
 split at h
 ·subst_vars
  cases h;exact qa (by kernel_rfl)
 split at h
 ·subst_vars
  cases h;exact qa (by kernel_rfl)
 cases h
def eP (c:List (Nat×iu C)) (w:List (Nat×rA C)) (i:List (Nat×lz C)) (h:List Nat) (o:Nat) (v:List Nat):Cx C:={ K:=KK,tk:=lk tks,KM:=ZI c,yt:=ZI w,inl:=lkA i,hold:=h,mp:=lk mps,H3:=lkS WE,ext:=lk exts,ins:=lk ZN,U2:=lk eqts,view:=v,off:=o }
theorem jw {c w i h o v}:jk Try.prog (eP c w i h o v):=⟨N9,Qv,Zf,Pv,U0,UC,U1⟩
theorem fV {c w i h o v} (hc:allR Try.prog KK c) (hw:allW Try.prog KK w) (hi:allI Try.prog KK i):Cons Try.prog (eP c w i h o v):=⟨PJ hc,PI hw,PL hi⟩
theorem H0:Try.prog.follows .mixedOrders=true:=by kernel_rfl
theorem cO {c w i h o v} (hC:Cons Try.prog (eP c w i h o v)) {f:Nat} {fn:Func} (hf:Try.prog.funcs[f]?=some fn) (hb:fn.body=some (av fn)) (hB:iE fn.ntmps (av fn)=true) (hname:(fn.name == "runtime.NumGoroutine")=false) {ps rs:List (PK Ty)} {G:Nf C ps (Option (yS C rs))} (F:Cf) (hn:Nat.ble ps.length fn.ntmps=true)
  (t:Gh (PK.Tu KK) ps G fun vs r=>db (eP c w i h o v) F fn vs (iX KK rs)=r):cL Try.prog KK f (kD KK ps rs G):=Zi (X:=eP c w i h o v) jw hC H0 hf hb hB hname F hn t
theorem eO {c w i h o v} (hC:Cons Try.prog (eP c w i h o v)) {f:Nat} {fn:Func} (hf:Try.prog.funcs[f]?=some fn) (hb:fn.body=some (av fn)) (hB:iE fn.ntmps (av fn)=true) (hname:(fn.name == "runtime.NumGoroutine")=false) {ps:List (PK Ty)} {rs:List (PK Ty)} {G:Nf C ps (Option (sY C [] rs))} (F:Cf) (hn:Nat.ble ps.length fn.ntmps=true)
  (t:∀ kp kh hd,Gh (PK.Tv KK) ps G fun vs r=>oH ((eP c w i h o v).gh kp kh hd) F fn vs (Bh KK [] rs)=r):pJ Try.prog KK f (mkW KK ps [] rs G):=Zh (X:=eP c w i h o v) jw hC H0 hf hb hB hname F hn t
theorem iO {c w i h o v} (hC:Cons Try.prog (eP c w i h o v)) (F:Cf) {f:Nat} {fn:Func} (hf:Try.prog.funcs[f]?=some fn) (hb:fn.body=some (av fn)) (hB:iE fn.ntmps (av fn)=true) (hname:(fn.name == "runtime.NumGoroutine")=false):cG Try.prog KK f (gg (eP c w i h o v) F fn):=ZO (X:=eP c w i h o v) jw hC H0 F hf hb hB (by simpa using hname)
theorem iP {c w i h o v} (hC:Cons Try.prog (eP c w i h o v)) (F:Cf) {f:Nat} {fn:Func} (hf:Try.prog.funcs[f]?=some fn:=by kernel_rfl) (hb:fn.body=some (av fn):=by kernel_rfl) (hB:iE fn.ntmps (av fn)=true:=by kernel_rfl) (hname:(fn.name == "runtime.NumGoroutine")=false:=by kernel_rfl):cG Try.prog KK f (gg (eP c w i h o v) F fn):=iO hC F hf hb hB hname
theorem cP {c w i h o v} (hC:Cons Try.prog (eP c w i h o v)) {f:Nat} {fn:Func} {ps rs:List (PK Ty)} {G:Nf C ps (Option (yS C rs))} (F:Cf) (t:Gh (PK.Tu KK) ps G fun vs r=>db (eP c w i h o v) F fn vs (iX KK rs)=r) (hf:Try.prog.funcs[f]?=some fn:=by kernel_rfl) (hb:fn.body=some (av fn):=by kernel_rfl) (hB:iE fn.ntmps (av fn)=true:=by kernel_rfl) (hname:(fn.name == "runtime.NumGoroutine")=false:=by kernel_rfl) (hn:Nat.ble ps.length fn.ntmps=true:=by kernel_rfl):cL Try.prog KK f (kD KK ps rs G):=cO hC hf hb hB hname F hn t
theorem lQ {c:iR C} {vs:List (SV C)} {O:cm C} {r0:c.R0} (h1:wV (gO O) c.roots=true:=by kernel_rfl) (h2:decide (oI O=c.eU)=true:=by kernel_rfl) (h3:tL O=true:=by kernel_rfl) (h4:tL (c.out r0)=true:=by kernel_rfl) (h5:wO (dJ (c.out r0)) c.ids=true:=by kernel_rfl) (h6:wO (oI (c.out r0)) c.eU=true:=by kernel_rfl) (h7:wO (dX (c.out r0)) c.ids=true:=by kernel_rfl) (h8:c.ids.any (Nat.beq qy)=false:=by kernel_rfl) (h9:(flatten (c.ret r0)).all pS=true:=by kernel_rfl):yJ c vs O r0:=fit_of h1 h2 h3 h4 h5 h6 h7 h8 h9
def X26:Cx C:=eP [] [] [] [] 1703936 []
def F26 (n:Nat):Cf:={ N:=n,keep:=[0,1,2,6],live:=lk [] }
abbrev dec26:=iX KK [.bool]
def G26n (n:Nat) (a0 a1 a2:Int):Option (Bool):=
 cond (decide (a0≥a1))
 (some (decide (a0≤a2)))
 (some (false))
theorem t26 (n:Nat) (a0 a1 a2:Int):db X26 (F26 n) Try.f26 [.one (.int .i64 a0),.one (.int .i64 a1),.one (.int .i64 a2)] dec26=G26n n a0 a1 a2:=by
 kernel_rfl
def nS (a0 a1 a2:Int):Option (Bool):=G26n fuel a0 a1 a2
def qB:iu C:=kD KK [.int .i64,.int .i64,.int .i64] [.bool] nS
theorem Vk:cL Try.prog KK 26 qB:=cP (fV trivial trivial trivial:Cons Try.prog X26) (fn:=Try.f26) (F26 fuel) (fun a0 a1 a2=>t26 fuel a0 a1 a2)
def X30:Cx C:=eP [(26,qB)] [] [] [] 1966080 []
def F30 (n:Nat):Cf:={ N:=n,keep:=[0,2,3,4,8,12,36],live:=lk [(0,[0,3])] }
abbrev Xr:=iX KK [.bool]
abbrev GQ:Type:=Int
section
variable (x0:BA)
def s30_0:GQ→St C:=fun x1=>{ env:=[(0,.one (.str x0)),(3,.one (.int .i64 x1))],aj:=[],base:=0 }
end
def JD (x0:BA) (n:Nat)   (aM:GQ→Option (Bool)):GQ→Option (Bool):=fun x1=>
 cond (decide (x1<(x0.size:Int)))
 (cond (decide (0≤x1)) (cond (decide (x1<(x0.size:Int))) (cond (decide ((uF x0 x1)≥97))
 (cond (decide ((uF x0 x1)≤122))
 (aM (i64.wrap (x1+1)))
 (cond (decide ((uF x0 x1)≥48))
 (cond (decide ((uF x0 x1)≤57))
 (aM (i64.wrap (x1+1)))
 (cond (!((uF x0 x1)==45))
 (some (false))
 (aM (i64.wrap (x1+1)))))
 (cond (!((uF x0 x1)==45))
 (some (false))
 (aM (i64.wrap (x1+1))))))
 (cond (decide ((uF x0 x1)≥48))
 (cond (decide ((uF x0 x1)≤57))
 (aM (i64.wrap (x1+1)))
 (cond (!((uF x0 x1)==45))
 (some (false))
 (aM (i64.wrap (x1+1)))))
 (cond (!((uF x0 x1)==45))
 (some (false))
 (aM (i64.wrap (x1+1)))))) none) none)
 (some (true))
section
variable (x0:BA)
def Sq (n:Nat)  (x:GQ):Option (Bool):=iter (fun rec S=>run X30 (F30 n) (aw (av Try.f30) [1,1,0,1,0,0]) 0 S (cH rec (bW 0 (bA (run X30 (F30 n) (aw (av Try.f30) [1,1,1]) 0) (dM X30 Try.f30 Xr))))) [0,3] n (s30_0 x0 x)
theorem m30_0 (n:Nat)  (x:GQ):Sq x0 n  x=bS (JD x0 n  ) n x:=by
 refine iter_eq _ _ (fun aM x1=>?_) n x
 kernel_rfl
end
def VO (n:Nat) (a0:BA):Option (Bool):=
 Option.bind (nS (a0.size:Int) 1 20) fun r1=>
 cond (!r1)
 (some (false))
 (bS (JD a0 n ) n 0)
theorem t30 (n:Nat) (a0:BA):db X30 (F30 n) Try.f30 [.one (.str a0)] Xr=VO n a0:=by
 refine Eq.trans (b:=
  Option.bind (nS (a0.size:Int) 1 20) fun r1=>
  cond (!r1)
  (some (false))
  (Sq a0 n   0)) (by kernel_rfl) ?_
 simp only [VO,m30_0]
def G30 (a0:BA):Option (Bool):=VO fuel a0
def QQ:iu C:=kD KK [.str] [.bool] G30
theorem c30:cL Try.prog KK 30 QQ:=cP (fV ⟨Vk,trivial⟩ trivial trivial:Cons Try.prog X30) (fn:=Try.f30) (F30 fuel) (fun a0=>t30 fuel a0)
def X29:Cx C:=eP [(26,qB),(30,QQ)] [] [] [] 1900544 []
def F29 (n:Nat):Cf:={ N:=n,keep:=[0,1,2,4,53,56],live:=lk [] }
abbrev dec29:=iX KK [.bool]
def G29n (n:Nat) (a0:ae) (a1:Int):Option (Bool):=
 Option.bind (G30 a0.Name) fun r1=>
 cond (!r1)
 (some (false))
 (Option.bind (nS a0.Version 1 a1) fun r2=>
 cond (!r2)
 (some (false))
 (Option.bind (nS a0.ax 1 1000000) fun r3=>
 cond (!r3)
 (some (false))
 (Option.bind (nS a0.Next 1 1000000) fun r4=>
 cond (!r4)
 (some (false))
 (Option.bind (nS a0.Want 0 10) fun r5=>
 cond (!r5)
 (some (false))
 (Option.bind (nS a0.Down 0 10) fun r6=>
 cond (!r6)
 (some (false))
 (Option.bind (nS a0.bg 0 10) fun r7=>
 cond (!r7)
 (some (false))
 (cond ((i64.wrap (a0.Down+a0.bg))==0)
 (some (false))
 (cond (a0.bY==0)
 (cond (a0.aD==0)
 (cond (a0.aU==0)
 (cond (a0.bF==0)
 (some (a0.bb==0))
 (some (false)))
 (some (false)))
 (some (false)))
 (Option.bind (nS a0.bY 0 1000000) fun r8=>
 cond r8
 (Option.bind (nS a0.bF 0 1000000) fun r9=>
 cond r9
 (Option.bind (nS a0.aD 0 10) fun ib=>
 cond ib
 (Option.bind (nS a0.aU a0.aD 10) fun rT=>
 cond rT
 (Option.bind (nS a0.bb 0 3) fun s6=>
 some (s6))
 (some (false)))
 (some (false)))
 (some (false)))
 (some (false)))))))))))
theorem t29 (n:Nat) (a0:ae) (a1:Int):db X29 (F29 n) Try.f29 [.agg [.str a0.Name,.int .i64 a0.Version,.bool a0.bq,.int .i64 a0.ax,.int .i64 a0.Want,.int .i64 a0.Down,.int .i64 a0.bg,.int .i64 a0.Next,.int .i64 a0.bY,.int .i64 a0.aD,.int .i64 a0.aU,.int .i64 a0.bF,.int .i64 a0.bb],.one (.int .i64 a1)] dec29=G29n n a0 a1:=by
 kernel_rfl
def G29 (a0:ae) (a1:Int):Option (Bool):=G29n fuel a0 a1
def XL:iu C:=kD KK [.el .bD,.int .i64] [.bool] G29
theorem c29:cL Try.prog KK 29 XL:=cP (fV ⟨Vk,c30,trivial⟩ trivial trivial:Cons Try.prog X29) (fn:=Try.f29) (F29 fuel) (fun a0 a1=>t29 fuel a0 a1)
def X69:Cx C:=eP [] [] [] [] 4521984 []
def F69 (n:Nat):Cf:={ N:=n,keep:=[0,1,2,4,5,10,20],live:=lk [(0,[1,2,5])] }
abbrev Xk:=iX KK [.int .i64]
abbrev GI:Type:=Int
section
variable (x0:BA) (x2:Int) (x3:aB) (x4:ay) (x5:aA)
def s69_0:GI→St C:=fun x1=>{ env:=[(1,.one (.str x0)),(2,.one (.ptr 4522112 0)),(5,.one (.int .i64 x1))],aj:=[(4522112,.box .mem [.int .i64 x2,.row .bD x3,.row .bX x4,.row .cC x5])],base:=0 }
end
def Jv (x0:BA) (x3:aB) (n:Nat)   (aM:GI→Option (Int)):GI→Option (Int):=fun x1=>
 cond (decide (x1<(x3.length:Int)))
 (cond (decide (0≤x1)) (Option.bind x3[x1.toNat]? fun e1=>cond (decide (e1.Name=x0))
 (some (x1))
 (aM (i64.wrap (x1+1)))) none)
 (some ((-1)))
section
variable (x0:BA) (x2:Int) (x3:aB) (x4:ay) (x5:aA)
def RU (n:Nat)  (x:GI):Option (Int):=iter (fun rec S=>run X69 (F69 n) (aw (av Try.f69) [1,0,1,0,0]) 0 S (cH rec (bW 0 (bA (run X69 (F69 n) (aw (av Try.f69) [1,1]) 0) (dM X69 Try.f69 Xk))))) [1,2,5] n (s69_0 x0 x2 x3 x4 x5 x)
theorem m69_0 (n:Nat)  (x:GI):RU x0 x2 x3 x4 x5 n  x=bS (Jv x0 x3 n  ) n x:=by
 refine iter_eq _ _ (fun aM x1=>?_) n x
 kernel_rfl
end
def VD (n:Nat) (a0:aa) (a1:BA):Option (Int):=
 bS (Jv a1 a0.af n ) n 0
theorem t69 (n:Nat) (a0:aa) (a1:BA):db X69 (F69 n) Try.f69 [.agg [.int .i64 a0.bM,.row .bD a0.af,.row .bX a0.ah,.row .cC a0.ak],.one (.str a1)] Xk=VD n a0 a1:=by
 refine Eq.trans (b:=
  RU a1 a0.bM a0.af a0.ah a0.ak n   0) (by kernel_rfl) ?_
 simp only [VD,m69_0]
def Ta (a0:aa) (a1:BA):Option (Int):=VD fuel a0 a1
def Bi:iu C:=kD KK [.el .bU,.str] [.int .i64] Ta
theorem c69:cL Try.prog KK 69 Bi:=cP (fV trivial trivial trivial:Cons Try.prog X69) (fn:=Try.f69) (F69 fuel) (fun a0 a1=>t69 fuel a0 a1)
def X66:Cx C:=eP [] [] [] [] 4325376 []
def F66 (n:Nat):Cf:={ N:=n,keep:=[0,1,2,3,6,7,12,32],live:=lk [(0,[1,2,3,7])] }
abbrev Xn:=iX KK [.int .i64]
abbrev GL:Type:=Int
section
variable (x0:BA) (x1 x3:Int) (x4:aB) (x5:ay) (x6:aA)
def s66_0:GL→St C:=fun x2=>{ env:=[(1,.one (.str x0)),(2,.one (.int .i64 x1)),(3,.one (.ptr 4325568 0)),(7,.one (.int .i64 x2))],aj:=[(4325568,.box .mem [.int .i64 x3,.row .bD x4,.row .bX x5,.row .cC x6])],base:=0 }
end
def Jy (x0:BA) (x1:Int) (x5:ay) (n:Nat)   (aM:GL→Option (Int)):GL→Option (Int):=fun x2=>
 cond (decide (x2<(x5.length:Int)))
 (cond (decide (0≤x2)) (Option.bind x5[x2.toNat]? fun e1=>cond (decide (e1.aq=x0))
 (cond (decide (0≤x2)) (Option.bind x5[x2.toNat]? fun e2=>cond (e2.Number==x1)
 (some (x2))
 (aM (i64.wrap (x2+1)))) none)
 (aM (i64.wrap (x2+1)))) none)
 (some ((-1)))
section
variable (x0:BA) (x1 x3:Int) (x4:aB) (x5:ay) (x6:aA)
def RX (n:Nat)  (x:GL):Option (Int):=iter (fun rec S=>run X66 (F66 n) (aw (av Try.f66) [1,0,1,0,0]) 0 S (cH rec (bW 0 (bA (run X66 (F66 n) (aw (av Try.f66) [1,1]) 0) (dM X66 Try.f66 Xn))))) [1,2,3,7] n (s66_0 x0 x1 x3 x4 x5 x6 x)
theorem m66_0 (n:Nat)  (x:GL):RX x0 x1 x3 x4 x5 x6 n  x=bS (Jy x0 x1 x5 n  ) n x:=by
 refine iter_eq _ _ (fun aM x2=>?_) n x
 kernel_rfl
end
def VG (n:Nat) (a0:aa) (a1:BA) (a2:Int):Option (Int):=
 bS (Jy a1 a2 a0.ah n ) n 0
theorem t66 (n:Nat) (a0:aa) (a1:BA) (a2:Int):db X66 (F66 n) Try.f66 [.agg [.int .i64 a0.bM,.row .bD a0.af,.row .bX a0.ah,.row .cC a0.ak],.one (.str a1),.one (.int .i64 a2)] Xn=VG n a0 a1 a2:=by
 refine Eq.trans (b:=
  RX a1 a2 a0.bM a0.af a0.ah a0.ak n   0) (by kernel_rfl) ?_
 simp only [VG,m66_0]
def VH (a0:aa) (a1:BA) (a2:Int):Option (Int):=VG fuel a0 a1 a2
def KJ:iu C:=kD KK [.el .bU,.str,.int .i64] [.int .i64] VH
theorem c66:cL Try.prog KK 66 KJ:=cP (fV trivial trivial trivial:Cons Try.prog X66) (fn:=Try.f66) (F66 fuel) (fun a0 a1 a2=>t66 fuel a0 a1 a2)
def X67:Cx C:=eP [] [] [] [] 4390912 []
def F67 (n:Nat):Cf:={ N:=n,keep:=[0,1,2,4,5,10,20],live:=lk [(0,[1,2,5])] }
abbrev Xm:=iX KK [.int .i64]
abbrev GK:Type:=Int
section
variable (x0:BA) (x2:Int) (x3:aB) (x4:ay) (x5:aA)
def s67_0:GK→St C:=fun x1=>{ env:=[(1,.one (.str x0)),(2,.one (.ptr 4391040 0)),(5,.one (.int .i64 x1))],aj:=[(4391040,.box .mem [.int .i64 x2,.row .bD x3,.row .bX x4,.row .cC x5])],base:=0 }
end
def Jw (x0:BA) (x5:aA) (n:Nat)   (aM:GK→Option (Int)):GK→Option (Int):=fun x1=>
 cond (decide (x1<(x5.length:Int)))
 (cond (decide (0≤x1)) (Option.bind x5[x1.toNat]? fun e1=>cond (decide (e1.Name=x0))
 (some (x1))
 (aM (i64.wrap (x1+1)))) none)
 (some ((-1)))
section
variable (x0:BA) (x2:Int) (x3:aB) (x4:ay) (x5:aA)
def RW (n:Nat)  (x:GK):Option (Int):=iter (fun rec S=>run X67 (F67 n) (aw (av Try.f67) [1,0,1,0,0]) 0 S (cH rec (bW 0 (bA (run X67 (F67 n) (aw (av Try.f67) [1,1]) 0) (dM X67 Try.f67 Xm))))) [1,2,5] n (s67_0 x0 x2 x3 x4 x5 x)
theorem m67_0 (n:Nat)  (x:GK):RW x0 x2 x3 x4 x5 n  x=bS (Jw x0 x5 n  ) n x:=by
 refine iter_eq _ _ (fun aM x1=>?_) n x
 kernel_rfl
end
def VF (n:Nat) (a0:aa) (a1:BA):Option (Int):=
 bS (Jw a1 a0.ak n ) n 0
theorem t67 (n:Nat) (a0:aa) (a1:BA):db X67 (F67 n) Try.f67 [.agg [.int .i64 a0.bM,.row .bD a0.af,.row .bX a0.ah,.row .cC a0.ak],.one (.str a1)] Xm=VF n a0 a1:=by
 refine Eq.trans (b:=
  RW a1 a0.bM a0.af a0.ah a0.ak n   0) (by kernel_rfl) ?_
 simp only [VF,m67_0]
def G67 (a0:aa) (a1:BA):Option (Int):=VF fuel a0 a1
def KI:iu C:=kD KK [.el .bU,.str] [.int .i64] G67
theorem c67:cL Try.prog KK 67 KI:=cP (fV trivial trivial trivial:Cons Try.prog X67) (fn:=Try.f67) (F67 fuel) (fun a0 a1=>t67 fuel a0 a1)
def X31:Cx C:=eP [(26,qB),(67,KI),(69,Bi)] [] [] [] 2031616 []
def F31 (n:Nat):Cf:={ N:=n,keep:=[0,1,2,3,4,5,44,47],live:=lk [] }
abbrev dec31:=iX KK [.bool]
def G31n (n:Nat) (a0:aa) (a1:ai):Option (Bool):=
 Option.bind (Ta a0 a1.aq) fun r1=>
 cond (decide (r1<0))
 (some (false))
 (cond (decide (0≤r1)) (Option.bind a0.af[r1.toNat]? fun e2=>Option.bind (nS a1.Number 1 (i64.wrap (e2.Next-1))) fun r3=>
 cond (!r3)
 (some (false))
 (Option.bind (nS a1.Version 1 a0.bM) fun r4=>
 cond (!r4)
 (some (false))
 (Option.bind (nS a1.ax 1 1000000) fun r5=>
 cond (!r5)
 (some (false))
 (Option.bind (nS a1.State 1 4) fun r6=>
 cond (!r6)
 (some (false))
 (cond (a1.State==1)
 (some (decide (a1.bE=(⟨#[]⟩:BA))))
 (Option.bind (G67 a0 a1.bE) fun r7=>
 some (decide (r7≥0)))))))) none)
theorem t31 (n:Nat) (a0:aa) (a1:ai):db X31 (F31 n) Try.f31 [.agg [.int .i64 a0.bM,.row .bD a0.af,.row .bX a0.ah,.row .cC a0.ak],.agg [.str a1.aq,.int .i64 a1.Number,.int .i64 a1.Version,.int .i64 a1.ax,.int .i64 a1.State,.bool a1.Ending,.str a1.bE]] dec31=G31n n a0 a1:=by
 kernel_rfl
def G31 (a0:aa) (a1:ai):Option (Bool):=G31n fuel a0 a1
def XJ:iu C:=kD KK [.el .bU,.el .bX] [.bool] G31
theorem c31:cL Try.prog KK 31 XJ:=cP (fV ⟨Vk,c67,c69,trivial⟩ trivial trivial:Cons Try.prog X31) (fn:=Try.f31) (F31 fuel) (fun a0 a1=>t31 fuel a0 a1)
def X32:Cx C:=eP [] [] [] [] 2097152 []
def F32 (n:Nat):Cf:={ N:=n,keep:=[0,1,2,3,4],live:=lk [] }
abbrev dec32:=iX KK [.bool]
def G32n (n:Nat) (a0 a1:ai):Option (Bool):=
 cond (slt a0.aq a1.aq)
 (some (true))
 (cond (decide (a0.aq=a1.aq))
 (some (decide (a0.Number<a1.Number)))
 (some (false)))
theorem t32 (n:Nat) (a0 a1:ai):db X32 (F32 n) Try.f32 [.agg [.str a0.aq,.int .i64 a0.Number,.int .i64 a0.Version,.int .i64 a0.ax,.int .i64 a0.State,.bool a0.Ending,.str a0.bE],.agg [.str a1.aq,.int .i64 a1.Number,.int .i64 a1.Version,.int .i64 a1.ax,.int .i64 a1.State,.bool a1.Ending,.str a1.bE]] dec32=G32n n a0 a1:=by
 kernel_rfl
def G32 (a0 a1:ai):Option (Bool):=G32n fuel a0 a1
def QP:iu C:=kD KK [.el .bX,.el .bX] [.bool] G32
theorem c32:cL Try.prog KK 32 QP:=cP (fV trivial trivial trivial:Cons Try.prog X32) (fn:=Try.f32) (F32 fuel) (fun a0 a1=>t32 fuel a0 a1)
def Rs:Cx C:=eP [(26,qB),(29,XL),(30,QQ),(31,XJ),(32,QP)] [] [] [] 655360 []
def Yq (n:Nat):Cf:={ N:=n,keep:=[0,1,2,3,4,5,27,32,63,68,98,103,132],live:=lk [(0,[1,3]),(2,[1,4]),(4,[1,5])] }
abbrev Kz:=iX KK [.bool]
abbrev BV:Type:=Int
abbrev vi:Type:=Int
abbrev zg:Type:=Int
section
variable (x1:Int) (x2:aB) (x3:ay) (x4:aA)
def s10_2:BV→St C:=fun x0=>{ env:=[(1,.one (.ptr 655424 0)),(5,.one (.int .i64 x0))],aj:=[(655424,.box .mem [.int .i64 x1,.row .bD x2,.row .bX x3,.row .cC x4])],base:=0 }
end
def EG (x1:Int) (x2:aB) (x3:ay) (x4:aA) (n:Nat)   (dD:BV→Option (Bool)):BV→Option (Bool):=fun x0=>
 cond (decide (x0<(x3.length:Int)))
 (cond (decide (0≤x0)) (Option.bind x3[x0.toNat]? fun DC=>Option.bind (G31 (⟨x1,x2,x3,x4⟩:aa) DC) fun rT=>
 cond (!rT)
 (some (false))
 (cond (decide (x0>0))
 (cond (decide (0≤i64.wrap (x0-1))) (Option.bind x3[(i64.wrap (x0-1)).toNat]? fun nu=>cond (decide (0≤x0)) (Option.bind x3[x0.toNat]? fun FJ=>Option.bind (G32 nu FJ) fun gM=>
 cond (!gM)
 (some (false))
 (dD (i64.wrap (x0+1)))) none) none)
 (dD (i64.wrap (x0+1))))) none)
 (some (true))
section
variable (x1:Int) (x2:aB) (x3:ay) (x4:aA)
def Wq:vi→St C:=fun x0=>{ env:=[(1,.one (.ptr 655424 0)),(4,.one (.int .i64 x0))],aj:=[(655424,.box .mem [.int .i64 x1,.row .bD x2,.row .bX x3,.row .cC x4])],base:=0 }
end
def K5 (x4:aA) (n:Nat)   (dg:vi→Option (Bool)) (l2:BV→Option (Bool)):vi→Option (Bool):=fun x0=>
 cond (decide (x0<(x4.length:Int)))
 (cond (decide (0≤x0)) (Option.bind x4[x0.toNat]? fun e6=>Option.bind (G30 e6.Name) fun r7=>
 cond (!r7)
 (some (false))
 (cond (decide (x0>0))
 (cond (decide (0≤i64.wrap (x0-1))) (Option.bind x4[(i64.wrap (x0-1)).toNat]? fun e8=>cond (decide (0≤x0)) (Option.bind x4[x0.toNat]? fun e9=>cond (!slt e8.Name e9.Name)
 (some (false))
 (dg (i64.wrap (x0+1)))) none) none)
 (dg (i64.wrap (x0+1))))) none)
 (l2 0)
def xk (x1:Int) (x2:aB) (x3:ay) (x4:aA) (n:Nat)   (dg:vi→Option (Bool)):vi→Option (Bool):=K5 x4 n  dg (fun z=>bS (EG x1 x2 x3 x4 n ) n z)
section
variable (x1:Int) (x2:aB) (x3:ay) (x4:aA)
def Wr:zg→St C:=fun x0=>{ env:=[(1,.one (.ptr 655424 0)),(3,.one (.int .i64 x0))],aj:=[(655424,.box .mem [.int .i64 x1,.row .bD x2,.row .bX x3,.row .cC x4])],base:=0 }
end
def K6 (x1:Int) (x2:aB) (n:Nat)   (aM:zg→Option (Bool)) (l1:vi→Option (Bool)):zg→Option (Bool):=fun x0=>
 cond (decide (x0<(x2.length:Int)))
 (cond (decide (0≤x0)) (Option.bind x2[x0.toNat]? fun e2=>Option.bind (G29 e2 x1) fun r3=>
 cond (!r3)
 (some (false))
 (cond (decide (x0>0))
 (cond (decide (0≤i64.wrap (x0-1))) (Option.bind x2[(i64.wrap (x0-1)).toNat]? fun e4=>cond (decide (0≤x0)) (Option.bind x2[x0.toNat]? fun e5=>cond (!slt e4.Name e5.Name)
 (some (false))
 (aM (i64.wrap (x0+1)))) none) none)
 (aM (i64.wrap (x0+1))))) none)
 (l1 0)
def Aj (x1:Int) (x2:aB) (x3:ay) (x4:aA) (n:Nat)   (aM:zg→Option (Bool)):zg→Option (Bool):=K6 x1 x2 n  aM (fun z=>bS (xk x1 x2 x3 x4 n ) n z)
section
variable (x1:Int) (x2:aB) (x3:ay) (x4:aA)
def SS (n:Nat)  (x:BV):Option (Bool):=iter (fun rec S=>run Rs (Yq n) (aw (av Try.f10) [1,1,1,1,0,1,0,0]) 4 S (cH rec (bW 4 (bA (run Rs (Yq n) (aw (av Try.f10) [1,1,1,1,1]) 0) (dM Rs Try.f10 Kz))))) [1,5] n (s10_2 x1 x2 x3 x4 x)
theorem m10_2 (n:Nat)  (x:BV):SS x1 x2 x3 x4 n  x=bS (EG x1 x2 x3 x4 n  ) n x:=by
 refine iter_eq _ _ (fun dD x0=>?_) n x
 kernel_rfl
end
section
variable (x1:Int) (x2:aB) (x3:ay) (x4:aA)
def SU (n:Nat)  (x:vi):Option (Bool):=iter (fun rec S=>run Rs (Yq n) (aw (av Try.f10) [1,1,1,0,1,0,0]) 2 S (cH rec (bW 2 (bA (run Rs (Yq n) (aw (av Try.f10) [1,1,1,1]) 0) (dM Rs Try.f10 Kz))))) [1,4] n (Wq x1 x2 x3 x4 x)
theorem m10_1 (n:Nat)  (x:vi):SU x1 x2 x3 x4 n  x=bS (xk x1 x2 x3 x4 n  ) n x:=by
 refine iter_eq _ _ (fun dg x0=>?_) n x;refine Eq.trans (b:=K5 x4 n   (fun x=>dg (Wq x1 x2 x3 x4 x)) (fun z=>SS x1 x2 x3 x4 n   z) x0) (by kernel_rfl) ?_;simp only [xk,m10_2]
end
section
variable (x1:Int) (x2:aB) (x3:ay) (x4:aA)
def SW (n:Nat)  (x:zg):Option (Bool):=iter (fun rec S=>run Rs (Yq n) (aw (av Try.f10) [1,1,0,1,0,0]) 0 S (cH rec (bW 0 (bA (run Rs (Yq n) (aw (av Try.f10) [1,1,1]) 0) (dM Rs Try.f10 Kz))))) [1,3] n (Wr x1 x2 x3 x4 x)
theorem m10_0 (n:Nat)  (x:zg):SW x1 x2 x3 x4 n  x=bS (Aj x1 x2 x3 x4 n  ) n x:=by
 refine iter_eq _ _ (fun aM x0=>?_) n x;refine Eq.trans (b:=K6 x1 x2 n   (fun x=>aM (Wr x1 x2 x3 x4 x)) (fun z=>SU x1 x2 x3 x4 n   z) x0) (by kernel_rfl) ?_;simp only [Aj,m10_1]
end
def VU (n:Nat) (a0:aa):Option (Bool):=
 Option.bind (nS a0.bM 0 1000000) fun r1=>
 cond (!r1)
 (some (false))
 (cond (decide ((a0.af.length:Int)>8))
 (some (false))
 (cond (decide ((a0.ah.length:Int)>200))
 (some (false))
 (cond (decide ((a0.ak.length:Int)>6))
 (some (false))
 (bS (Aj a0.bM a0.af a0.ah a0.ak n ) n 0))))
theorem t10 (n:Nat) (a0:aa):db Rs (Yq n) Try.f10 [.agg [.int .i64 a0.bM,.row .bD a0.af,.row .bX a0.ah,.row .cC a0.ak]] Kz=VU n a0:=by
 refine Eq.trans (b:=
  Option.bind (nS a0.bM 0 1000000) fun r1=>
  cond (!r1)
  (some (false))
  (cond (decide ((a0.af.length:Int)>8))
  (some (false))
  (cond (decide ((a0.ah.length:Int)>200))
  (some (false))
  (cond (decide ((a0.ak.length:Int)>6))
  (some (false))
  (SW a0.bM a0.af a0.ah a0.ak n   0))))) (by kernel_rfl) ?_
 simp only [VU,m10_0]
def Nd (a0:aa):Option (Bool):=VU fuel a0
def Bk:iu C:=kD KK [.el .bU] [.bool] Nd
theorem c10:cL Try.prog KK 10 Bk:=cP (fV ⟨Vk,c29,c30,c31,c32,trivial⟩ trivial trivial:Cons Try.prog Rs) (fn:=Try.f10) (Yq fuel) (fun a0=>t10 fuel a0)
def X27:Cx C:=eP [] [] [] [] 1769472 []
def F27 (n:Nat):Cf:={ N:=n,keep:=[0,1,2],live:=lk [] }
abbrev dec27:=iX KK [.el .bU]
def G27n (n:Nat) (a0:aa):Option (aa):=
 cond (decide (((([]:aB)).length+a0.af.length)*112≤140737488355328)) (cond (decide (((([]:ay)).length+a0.ah.length)*72≤140737488355328)) (cond (decide (((([]:aA)).length+a0.ak.length)*24≤140737488355328)) (some ((⟨a0.bM,(([]:aB))++a0.af,(([]:ay))++a0.ah,(([]:aA))++a0.ak⟩:aa))) none) none) none
theorem t27 (n:Nat) (a0:aa):db X27 (F27 n) Try.f27 [.agg [.int .i64 a0.bM,.row .bD a0.af,.row .bX a0.ah,.row .cC a0.ak]] dec27=G27n n a0:=by
 kernel_rfl
def DE (a0:aa):Option (aa):=G27n fuel a0
def Bj:iu C:=kD KK [.el .bU] [.el .bU] DE
theorem c27:cL Try.prog KK 27 Bj:=cP (fV trivial trivial trivial:Cons Try.prog X27) (fn:=Try.f27) (F27 fuel) (fun a0=>t27 fuel a0)
def zG:Cx C:=eP [] [] [] [] 7143424 []
def Gr (n:Nat):Cf:={ N:=n,keep:=[0,1,2,3,4,5,6,7,12,19,34,52],live:=lk [(0,[1,3,4,5]),(2,[1,3,4,5,6,7])] }
abbrev IG:=iX KK [.str]
abbrev zh:Type:=Int×Int
abbrev rB:Type:=BA×Int×Int
section
variable (x0:BA) (x1 x2 x5:Int) (x6:aB) (x7:ay) (x8:aA)
def YR:zh→St C:=fun (x3,x4)=>{ env:=[(1,.one (.ptr 7143488 0)),(3,.one (.str x0)),(4,.one (.int .i64 x1)),(5,.one (.int .i64 x2)),(6,.one (.int .i64 x3)),(7,.one (.int .i64 x4))],aj:=[(7143488,.box .mem [.int .i64 x5,.row .bD x6,.row .bX x7,.row .cC x8])],base:=0 }
end
def xm (x0:BA) (x1 x2:Int) (x7:ay) (x8:aA) (n:Nat)  (aM:rB→Option (BA)) (dg:zh→Option (BA)):zh→Option (BA):=fun (x3,x4)=>
 cond (decide (x4<(x7.length:Int)))
 (cond (decide (0≤x4)) (Option.bind x7[x4.toNat]? fun e1=>cond (decide (0≤x2)) (Option.bind x8[x2.toNat]? fun e2=>cond (decide (e1.bE=e2.Name))
 (dg ((i64.wrap (x3+1),i64.wrap (x4+1))))
 (dg ((x3,i64.wrap (x4+1))))) none) none)
 (cond (decide (0≤x2)) (Option.bind x8[x2.toNat]? fun e3=>cond (!e3.qF)
 (cond (decide (x0=(⟨#[]⟩:BA)))
 (cond (decide (0≤x2)) (Option.bind x8[x2.toNat]? fun e4=>aM ((e4.Name,x3,i64.wrap (x2+1)))) none)
 (cond (decide (x3<x1))
 (cond (decide (0≤x2)) (Option.bind x8[x2.toNat]? fun e5=>aM ((e5.Name,x3,i64.wrap (x2+1)))) none)
 (aM ((x0,x1,i64.wrap (x2+1))))))
 (aM ((x0,x1,i64.wrap (x2+1))))) none)
section
variable (x3:Int) (x4:aB) (x5:ay) (x6:aA)
def OI:rB→St C:=fun (x0,x1,x2)=>{ env:=[(1,.one (.ptr 7143488 0)),(3,.one (.str x0)),(4,.one (.int .i64 x1)),(5,.one (.int .i64 x2))],aj:=[(7143488,.box .mem [.int .i64 x3,.row .bD x4,.row .bX x5,.row .cC x6])],base:=0 }
end
def Cj (x5:ay) (x6:aA) (n:Nat)   (aM:rB→Option (BA)):rB→Option (BA):=fun (x0,x1,x2)=>
 cond (decide (x2<(x6.length:Int)))
 (bS (xm x0 x1 x2 x5 x6 n aM) n (0,0))
 (some (x0))
section
variable (x0:BA) (x1 x2 x5:Int) (x6:aB) (x7:ay) (x8:aA)
def Ll (n:Nat) (aM:St C→Option (BA)) (x:zh):Option (BA):=iter (fun rec S=>run zG (Gr n) (aw (av Try.f109) [1,1,1,0,1,0,0,1,0,0,1,0,1,0,0]) 2 S (cH rec (bW 2 (bA (run zG (Gr n) (aw (av Try.f109) [1,1,1,0,1,0,0,1,0,0,1,1]) 1) (bW 1 (bA (run zG (Gr n) (aw (av Try.f109) [1,1,1,0,1,0,0,1,1]) 0) (cH (fR [1,3,4,5] aM) (bW 0 (bA (run zG (Gr n) (aw (av Try.f109) [1,1,1,1]) 0) (dM zG Try.f109 IG)))))))))) [1,3,4,5,6,7] n (YR x0 x1 x2 x5 x6 x7 x8 x)
theorem Zt (n:Nat) (aM:St C→Option (BA)) (x:zh):Ll x0 x1 x2 x5 x6 x7 x8 n aM x=bS (xm x0 x1 x2 x7 x8 n  (fun x=>aM (OI x5 x6 x7 x8 x))) n x:=by
 refine iter_eq _ _ (fun dg x=>?_) n x;obtain ⟨x3,x4⟩:=x
 kernel_rfl
end
section
variable (x3:Int) (x4:aB) (x5:ay) (x6:aA)
def Lm (n:Nat)  (x:rB):Option (BA):=iter (fun rec S=>run zG (Gr n) (aw (av Try.f109) [1,1,1,0,1,0,0]) 0 S (cH rec (bW 0 (bA (run zG (Gr n) (aw (av Try.f109) [1,1,1,1]) 0) (dM zG Try.f109 IG))))) [1,3,4,5] n (OI x3 x4 x5 x6 x)
theorem Zu (n:Nat)  (x:rB):Lm x3 x4 x5 x6 n  x=bS (Cj x5 x6 n  ) n x:=by
 refine iter_eq _ _ (fun aM x=>?_) n x;obtain ⟨x0,x1,x2⟩:=x
 refine Eq.trans (b:=
  cond (decide (x2<(x6.length:Int)))
  (Ll x0 x1 x2 x3 x4 x5 x6 n  aM (0,0))
  (some (x0))) (by kernel_rfl) ?_
 simp only [Zt];rfl
end
def Lv (n:Nat) (a0:aa):Option (BA):=
 bS (Cj a0.ah a0.ak n ) n (((⟨#[]⟩:BA),0,0))
theorem t109 (n:Nat) (a0:aa):db zG (Gr n) Try.f109 [.agg [.int .i64 a0.bM,.row .bD a0.af,.row .bX a0.ah,.row .cC a0.ak]] IG=Lv n a0:=by
 refine Eq.trans (b:=
  Lm a0.bM a0.af a0.ah a0.ak n   (((⟨#[]⟩:BA),0,0))) (by kernel_rfl) ?_
 simp only [Lv,Zu]
def Te (a0:aa):Option (BA):=Lv fuel a0
def QX:iu C:=kD KK [.el .bU] [.str] Te
theorem c109:cL Try.prog KK 109 QX:=cP (fV trivial trivial trivial:Cons Try.prog zG) (fn:=Try.f109) (Gr fuel) (fun a0=>t109 fuel a0)
def Yd:Cx C:=eP [(109,QX)] [] [] [] 4194304 []
def F64 (n:Nat):Cf:={ N:=n,keep:=[0,1,2,4,5,6,7,8,9,15,24,27,41,56],live:=lk [(0,[1,2,4,5,6]),(2,[1,2,4,8])] }
abbrev QC:=Bh KK [] [.el .bU]
abbrev BI:Type:=Int×ay
abbrev yV:Type:=ay×Int
section
variable (x0 x2:Int) (x3:aB) (x5:aA) (x6:Int) (x7:aB) (x8:ay) (x9:aA)
def s64_1:BI→St C:=fun (x1,x4)=>{ env:=[(1,.one (.int .i64 x0)),(2,.one (.ptr 4194432 0)),(4,.one (.ptr 4194560 0)),(8,.one (.int .i64 x1)),(90000,.frame),(90002,.jo 420443201 1),(90004,.jo 420443203 3)],aj:=[(4194432,.box .mem [.int .i64 x2,.ref 420443201 [],.ref 420443202 [],.ref 420443203 []]),(420443201,.row .bD x3 false),(420443202,.row .bX x4 false),(420443203,.row .cC x5 false),(4194560,.box .mem [.int .i64 x6,.ref 420456001 [],.ref 420456002 [],.ref 420456003 []]),(420456001,.row .bD x7 false),(420456002,.row .bX x8 false),(420456003,.row .cC x9 false)],base:=0 }
end
def En (x0 x2:Int) (x3:aB) (x5:aA) (n:Nat)   (dg:BI→Option (aa)):BI→Option (aa):=fun (x1,x4)=>
 cond (decide (x1<(x4.length:Int)))
 (Option.bind (Te (⟨x2,x3,x4,x5⟩:aa)) fun r2=>
 cond (decide (0≤x1)) (cond (decide (x1<(x4.length:Int))) (Option.bind x4[x1.toNat]? fun e3=>cond (e3.State==1)
 (cond (!decide (r2=(⟨#[]⟩:BA)))
 (cond (decide (0≤x1)) (cond (decide (x1<(x4.length:Int))) (Option.bind x4[x1.toNat]? fun e4=>cond (decide (0≤x1)) (cond (decide (x1<((x4.set x1.toNat (⟨e4.aq,e4.Number,e4.Version,e4.ax,2,e4.Ending,e4.bE⟩:ai)).length:Int))) (Option.bind (x4.set x1.toNat (⟨e4.aq,e4.Number,e4.Version,e4.ax,2,e4.Ending,e4.bE⟩:ai))[x1.toNat]? fun e5=>cond (decide (0≤x1)) (cond (decide (x1<(((x4.set x1.toNat (⟨e4.aq,e4.Number,e4.Version,e4.ax,2,e4.Ending,e4.bE⟩:ai)).set x1.toNat (⟨e5.aq,e5.Number,e5.Version,e5.ax,e5.State,e5.Ending,r2⟩:ai)).length:Int))) (Option.bind ((x4.set x1.toNat (⟨e4.aq,e4.Number,e4.Version,e4.ax,2,e4.Ending,e4.bE⟩:ai)).set x1.toNat (⟨e5.aq,e5.Number,e5.Version,e5.ax,e5.State,e5.Ending,r2⟩:ai))[x1.toNat]? fun e6=>dg ((i64.wrap (x1+1),((x4.set x1.toNat (⟨e4.aq,e4.Number,e4.Version,e4.ax,2,e4.Ending,e4.bE⟩:ai)).set x1.toNat (⟨e5.aq,e5.Number,e5.Version,e5.ax,e5.State,e5.Ending,r2⟩:ai)).set x1.toNat (⟨e6.aq,e6.Number,x0,e6.ax,e6.State,e6.Ending,e6.bE⟩:ai)))) none) none) none) none) none) none)
 (dg ((i64.wrap (x1+1),x4))))
 (dg ((i64.wrap (x1+1),x4)))) none) none)
 (some ((⟨x2,x3,x4,x5⟩:aa)))
section
variable (x0 x3:Int) (x4:aB) (x5:ay) (x6:aA) (x7:Int) (x8:aB) (x9:ay) (aK:aA)
def V9:yV→St C:=fun (x1,x2)=>{ env:=[(1,.one (.int .i64 x0)),(2,.one (.ptr 4194432 0)),(4,.one (.ptr 4194560 0)),(5,.one (.ref 100005 [])),(6,.one (.int .i64 x2)),(90000,.frame),(90002,.jo 420443201 1),(90003,.jo 420443202 2),(90004,.jo 420443203 3)],aj:=[(100005,.row .bX x1 false),(4194432,.box .mem [.int .i64 x3,.ref 420443201 [],.ref 420443202 [],.ref 420443203 []]),(420443201,.row .bD x4 false),(420443202,.row .bX x5 false),(420443203,.row .cC x6 false),(4194560,.box .mem [.int .i64 x7,.ref 420456001 [],.ref 420456002 [],.ref 420456003 []]),(420456001,.row .bD x8 false),(420456002,.row .bX x9 false),(420456003,.row .cC aK false)],base:=0 }
end
def KU (x0:Int) (x5:ay) (n:Nat)   (aM:yV→Option (aa)) (l1:BI→Option (aa)):yV→Option (aa):=fun (x1,x2)=>
 cond (decide (x2<(x5.length:Int)))
 (cond (decide (0≤x2)) (cond (decide (x2<(x5.length:Int))) (Option.bind x5[x2.toNat]? fun e1=>cond e1.Ending
 (aM ((x1,i64.wrap (x2+1))))
 (cond (e1.State==2)
 (cond (decide ((x1.length+(([(⟨e1.aq,e1.Number,x0,e1.ax,3,e1.Ending,e1.bE⟩:ai)]:ay)).length)*72≤140737488355328)) (aM ((x1++(([(⟨e1.aq,e1.Number,x0,e1.ax,3,e1.Ending,e1.bE⟩:ai)]:ay)),i64.wrap (x2+1)))) none)
 (cond (decide ((x1.length+(([e1]:ay)).length)*72≤140737488355328)) (aM ((x1++(([e1]:ay)),i64.wrap (x2+1)))) none))) none) none)
 (l1 (0,x1))
def Eo (x0 x3:Int) (x4:aB) (x5:ay) (x6:aA) (n:Nat)   (aM:yV→Option (aa)):yV→Option (aa):=KU x0 x5 n  aM (fun z=>bS (En x0 x3 x4 x6 n ) n z)
section
variable (x0 x2:Int) (x3:aB) (x5:aA) (x6:Int) (x7:aB) (x8:ay) (x9:aA)
def RZ (kp:Nat→Prop) (kh:Nat→Option Obj) (hd:Nat→Value) (n:Nat)  (x:BI):Option (aa):=iter (fun rec S=>run (Yd.gh kp kh hd) (F64 n) (aw (av Try.f64) [1,1,1,1,0,1,0,0]) 2 S (cH rec (bW 2 (bA (run (Yd.gh kp kh hd) (F64 n) (aw (av Try.f64) [1,1,1,1,1]) 0) (xR (Yd.gh kp kh hd) Try.f64 [] QC))))) [1,2,4,8] n (s64_1 x0 x2 x3 x5 x6 x7 x8 x9 x)
theorem m64_1 (kp:Nat→Prop) (kh:Nat→Option Obj) (hd:Nat→Value) (n:Nat)  (x:BI):RZ x0 x2 x3 x5 x6 x7 x8 x9 kp kh hd n  x=bS (En x0 x2 x3 x5 n  ) n x:=by
 refine iter_eq _ _ (fun dg x=>?_) n x;obtain ⟨x1,x4⟩:=x
 kernel_rfl
end
section
variable (x0 x3:Int) (x4:aB) (x5:ay) (x6:aA) (x7:Int) (x8:aB) (x9:ay) (aK:aA)
def R3 (kp:Nat→Prop) (kh:Nat→Option Obj) (hd:Nat→Value) (n:Nat)  (x:yV):Option (aa):=iter (fun rec S=>run (Yd.gh kp kh hd) (F64 n) (aw (av Try.f64) [1,1,0,1,0,0]) 0 S (cH rec (bW 0 (bA (run (Yd.gh kp kh hd) (F64 n) (aw (av Try.f64) [1,1,1]) 0) (xR (Yd.gh kp kh hd) Try.f64 [] QC))))) [1,2,4,5,6] n (V9 x0 x3 x4 x5 x6 x7 x8 x9 aK x)
theorem m64_0 (kp:Nat→Prop) (kh:Nat→Option Obj) (hd:Nat→Value) (n:Nat)  (x:yV):R3 x0 x3 x4 x5 x6 x7 x8 x9 aK kp kh hd n  x=bS (Eo x0 x3 x4 x5 x6 n  ) n x:=by
 refine iter_eq _ _ (fun aM x=>?_) n x;obtain ⟨x1,x2⟩:=x;refine Eq.trans (b:=KU x0 x5 n   (fun x=>aM (V9 x0 x3 x4 x5 x6 x7 x8 x9 aK x)) (fun z=>RZ x0 x3 x4 x6 x7 x8 x9 aK kp kh hd n   z) (x1,x2)) (by kernel_rfl) ?_;simp only [Eo,m64_1]
end
def VJ (n:Nat) (a0:aa) (a1:Int):Option (aa):=
 bS (Eo a1 a0.bM a0.af a0.ah a0.ak n ) n ((([]:ay),0))
theorem t64 (kp:Nat→Prop) (kh:Nat→Option Obj) (hd:Nat→Value) (n:Nat) (a0:aa) (a1:Int):oH (Yd.gh kp kh hd) (F64 n) Try.f64 [(true,[.int .i64 a0.bM,.row .bD a0.af,.row .bX a0.ah,.row .cC a0.ak]),(false,[.int .i64 a1])] QC=VJ n a0 a1:=by
 refine Eq.trans (b:=
  R3 a1 a0.bM a0.af a0.ah a0.ak 0 (([]:aB)) (([]:ay)) (([]:aA)) kp kh hd n   ((([]:ay),0))) (by kernel_rfl) ?_
 simp only [VJ,m64_0]
def G64 (a0:aa) (a1:Int):Option (aa):=VJ fuel a0 a1
def XE:rA C:=mkW KK [.el .bU,.int .i64] [] [.el .bU] G64
theorem c64:pJ Try.prog KK 64 XE:=eO (fV ⟨c109,trivial⟩ trivial trivial:Cons Try.prog Yd) (fn:=Try.f64) (by kernel_rfl) (by kernel_rfl) (by kernel_rfl) (by kernel_rfl) (F64 fuel) (by kernel_rfl) fun kp kh hd=>fun a0 a1=>t64 kp kh hd fuel a0 a1
def I64 (n:Nat):lz C:=uh KK 64 XE
theorem iz64 (n:Nat):cG Try.prog KK 64 (I64 n):=C1 c64
def X65:Cx C:=eP [] [] [] [] 4259840 [33,53,58]
def F65 (n:Nat):Cf:={ N:=n,keep:=[0,1,2,3,4,6,7,8,24,46],live:=lk [(0,[2,3,4,6,7])] }
abbrev Xo:=Bh KK [] [.el .bU]
abbrev GM:Type:=Int
section
variable (x0 x2:Int) (x3:aB) (x4:ay) (x5:aA) (x6:BA) (x7:Int) (x8:Bool) (x9 aK aN aP aX bf aS aO aT aW bh:Int) (bJ:aB) (bG:ay) (bL:aA)
def s65_0:GM→St C:=fun x1=>{ env:=[(2,.one (.int .i64 x0)),(3,.one (.ptr 4260032 0)),(4,.one (.ptr 4260096 0)),(6,.one (.ptr 4260224 0)),(7,.one (.int .i64 x1)),(90000,.frame),(90002,.jo 427003201 1),(90003,.jo 427003202 2),(90004,.jo 427003203 3)],aj:=[(4260032,.box .mem [.int .i64 x2,.ref 427003201 [],.ref 427003202 [],.ref 427003203 []]),(427003201,.row .bD x3 false),(427003202,.row .bX x4 false),(427003203,.row .cC x5 false),(4260096,.box .mem [.str x6,.int .i64 x7,.bool x8,.int .i64 x9,.int .i64 aK,.int .i64 aN,.int .i64 aP,.int .i64 aX,.int .i64 bf,.int .i64 aS,.int .i64 aO,.int .i64 aT,.int .i64 aW]),(4260224,.box .mem [.int .i64 bh,.ref 427022401 [],.ref 427022402 [],.ref 427022403 []]),(427022401,.row .bD bJ false),(427022402,.row .bX bG false),(427022403,.row .cC bL false)],base:=0 }
end
def Em (x0 x2:Int) (x3:aB) (x4:ay) (x5:aA) (x6:BA) (x8:Bool) (x9 aK aN aP bf aS aO aT:Int) (n:Nat)   (aM:GM→Option (aa)):GM→Option (aa):=fun x1=>
 cond (decide (x1<(x3.length:Int)))
 (cond (decide (0≤x1)) (cond (decide (x1<(x3.length:Int))) (Option.bind x3[x1.toNat]? fun e1=>cond (slt e1.Name x6)
 (aM (i64.wrap (x1+1)))
 (cond (decide ((0:Int)≤x1)) (cond (decide ((x1:Int)≤(x3.length:Int))) (cond (decide ((x3.length:Int)≤(x3.length:Int))) (cond (decide (((((x3.take ((x3.length:Int).toNat)).drop ((x1:Int).toNat)).length:Int))>0))
 (cond (decide (0≤0)) (cond (decide (0<((((x3.length:Int).toNat)-((x1:Int).toNat):Nat):Int))) (Option.bind x3[((x1:Int).toNat)+(0:Int).toNat]? fun e2=>cond (decide (e2.Name=x6))
 (cond (decide (0≤0)) (cond (decide (0<((((x3.length:Int).toNat)-((x1:Int).toNat):Nat):Int))) (Option.bind x3[((x1:Int).toNat)+(0:Int).toNat]? fun e3=>cond (decide ((0:Int)≤1)) (cond (decide ((1:Int)≤((((x3.length:Int).toNat)-((x1:Int).toNat):Nat):Int))) (cond (decide (((((x3.length:Int).toNat)-((x1:Int).toNat):Nat):Int)≤((((x3.length:Int).toNat)-((x1:Int).toNat):Nat):Int))) (cond (decide ((0:Int)≤0)) (cond (decide ((0:Int)≤x1)) (cond (decide (x1≤(x3.length:Int))) (cond (decide (((([]:aB)).length+((x3.take x1.toNat).drop ((0:Int).toNat)).length)*112≤140737488355328)) (cond (decide ((((([]:aB))++((x3.take x1.toNat).drop ((0:Int).toNat))).length+(([(⟨x6,x0,x8,x9,aK,aN,aP,e3.Next,bf,aS,aO,aT,0⟩:ae)]:aB)).length)*112≤140737488355328)) (cond (decide (((((([]:aB))++((x3.take x1.toNat).drop ((0:Int).toNat)))++(([(⟨x6,x0,x8,x9,aK,aN,aP,e3.Next,bf,aS,aO,aT,0⟩:ae)]:aB))).length+((x3.take (((x1:Int).toNat)+(((((x3.length:Int).toNat)-((x1:Int).toNat):Nat):Int)).toNat)).drop (((x1:Int).toNat)+(1:Int).toNat)).length)*112≤140737488355328)) (some ((⟨x2,(((([]:aB))++((x3.take x1.toNat).drop ((0:Int).toNat)))++(([(⟨x6,x0,x8,x9,aK,aN,aP,e3.Next,bf,aS,aO,aT,0⟩:ae)]:aB)))++((x3.take (((x1:Int).toNat)+(((((x3.length:Int).toNat)-((x1:Int).toNat):Nat):Int)).toNat)).drop (((x1:Int).toNat)+(1:Int).toNat)),x4,x5⟩:aa))) none) none) none) none) none) none) none) none) none) none) none)
 (cond (decide ((0:Int)≤0)) (cond (decide ((0:Int)≤x1)) (cond (decide (x1≤(x3.length:Int))) (cond (decide (((([]:aB)).length+((x3.take x1.toNat).drop ((0:Int).toNat)).length)*112≤140737488355328)) (cond (decide ((((([]:aB))++((x3.take x1.toNat).drop ((0:Int).toNat))).length+(([(⟨x6,x0,x8,x9,aK,aN,aP,1,bf,aS,aO,aT,0⟩:ae)]:aB)).length)*112≤140737488355328)) (cond (decide (((((([]:aB))++((x3.take x1.toNat).drop ((0:Int).toNat)))++(([(⟨x6,x0,x8,x9,aK,aN,aP,1,bf,aS,aO,aT,0⟩:ae)]:aB))).length+((x3.take ((x3.length:Int).toNat)).drop ((x1:Int).toNat)).length)*112≤140737488355328)) (some ((⟨x2,(((([]:aB))++((x3.take x1.toNat).drop ((0:Int).toNat)))++(([(⟨x6,x0,x8,x9,aK,aN,aP,1,bf,aS,aO,aT,0⟩:ae)]:aB)))++((x3.take ((x3.length:Int).toNat)).drop ((x1:Int).toNat)),x4,x5⟩:aa))) none) none) none) none) none) none)) none) none)
 (cond (decide ((0:Int)≤0)) (cond (decide ((0:Int)≤x1)) (cond (decide (x1≤(x3.length:Int))) (cond (decide (((([]:aB)).length+((x3.take x1.toNat).drop ((0:Int).toNat)).length)*112≤140737488355328)) (cond (decide ((((([]:aB))++((x3.take x1.toNat).drop ((0:Int).toNat))).length+(([(⟨x6,x0,x8,x9,aK,aN,aP,1,bf,aS,aO,aT,0⟩:ae)]:aB)).length)*112≤140737488355328)) (cond (decide (((((([]:aB))++((x3.take x1.toNat).drop ((0:Int).toNat)))++(([(⟨x6,x0,x8,x9,aK,aN,aP,1,bf,aS,aO,aT,0⟩:ae)]:aB))).length+((x3.take ((x3.length:Int).toNat)).drop ((x1:Int).toNat)).length)*112≤140737488355328)) (some ((⟨x2,(((([]:aB))++((x3.take x1.toNat).drop ((0:Int).toNat)))++(([(⟨x6,x0,x8,x9,aK,aN,aP,1,bf,aS,aO,aT,0⟩:ae)]:aB)))++((x3.take ((x3.length:Int).toNat)).drop ((x1:Int).toNat)),x4,x5⟩:aa))) none) none) none) none) none) none)) none) none) none)) none) none)
 (cond (decide ((0:Int)≤x1)) (cond (decide ((x1:Int)≤(x3.length:Int))) (cond (decide ((x3.length:Int)≤(x3.length:Int))) (cond (decide (((((x3.take ((x3.length:Int).toNat)).drop ((x1:Int).toNat)).length:Int))>0))
 (cond (decide (0≤0)) (cond (decide (0<((((x3.length:Int).toNat)-((x1:Int).toNat):Nat):Int))) (Option.bind x3[((x1:Int).toNat)+(0:Int).toNat]? fun e4=>cond (decide (e4.Name=x6))
 (cond (decide (0≤0)) (cond (decide (0<((((x3.length:Int).toNat)-((x1:Int).toNat):Nat):Int))) (Option.bind x3[((x1:Int).toNat)+(0:Int).toNat]? fun e5=>cond (decide ((0:Int)≤1)) (cond (decide ((1:Int)≤((((x3.length:Int).toNat)-((x1:Int).toNat):Nat):Int))) (cond (decide (((((x3.length:Int).toNat)-((x1:Int).toNat):Nat):Int)≤((((x3.length:Int).toNat)-((x1:Int).toNat):Nat):Int))) (cond (decide ((0:Int)≤0)) (cond (decide ((0:Int)≤x1)) (cond (decide (x1≤(x3.length:Int))) (cond (decide (((([]:aB)).length+((x3.take x1.toNat).drop ((0:Int).toNat)).length)*112≤140737488355328)) (cond (decide ((((([]:aB))++((x3.take x1.toNat).drop ((0:Int).toNat))).length+(([(⟨x6,x0,x8,x9,aK,aN,aP,e5.Next,bf,aS,aO,aT,0⟩:ae)]:aB)).length)*112≤140737488355328)) (cond (decide (((((([]:aB))++((x3.take x1.toNat).drop ((0:Int).toNat)))++(([(⟨x6,x0,x8,x9,aK,aN,aP,e5.Next,bf,aS,aO,aT,0⟩:ae)]:aB))).length+((x3.take (((x1:Int).toNat)+(((((x3.length:Int).toNat)-((x1:Int).toNat):Nat):Int)).toNat)).drop (((x1:Int).toNat)+(1:Int).toNat)).length)*112≤140737488355328)) (some ((⟨x2,(((([]:aB))++((x3.take x1.toNat).drop ((0:Int).toNat)))++(([(⟨x6,x0,x8,x9,aK,aN,aP,e5.Next,bf,aS,aO,aT,0⟩:ae)]:aB)))++((x3.take (((x1:Int).toNat)+(((((x3.length:Int).toNat)-((x1:Int).toNat):Nat):Int)).toNat)).drop (((x1:Int).toNat)+(1:Int).toNat)),x4,x5⟩:aa))) none) none) none) none) none) none) none) none) none) none) none)
 (cond (decide ((0:Int)≤0)) (cond (decide ((0:Int)≤x1)) (cond (decide (x1≤(x3.length:Int))) (cond (decide (((([]:aB)).length+((x3.take x1.toNat).drop ((0:Int).toNat)).length)*112≤140737488355328)) (cond (decide ((((([]:aB))++((x3.take x1.toNat).drop ((0:Int).toNat))).length+(([(⟨x6,x0,x8,x9,aK,aN,aP,1,bf,aS,aO,aT,0⟩:ae)]:aB)).length)*112≤140737488355328)) (cond (decide (((((([]:aB))++((x3.take x1.toNat).drop ((0:Int).toNat)))++(([(⟨x6,x0,x8,x9,aK,aN,aP,1,bf,aS,aO,aT,0⟩:ae)]:aB))).length+((x3.take ((x3.length:Int).toNat)).drop ((x1:Int).toNat)).length)*112≤140737488355328)) (some ((⟨x2,(((([]:aB))++((x3.take x1.toNat).drop ((0:Int).toNat)))++(([(⟨x6,x0,x8,x9,aK,aN,aP,1,bf,aS,aO,aT,0⟩:ae)]:aB)))++((x3.take ((x3.length:Int).toNat)).drop ((x1:Int).toNat)),x4,x5⟩:aa))) none) none) none) none) none) none)) none) none)
 (cond (decide ((0:Int)≤0)) (cond (decide ((0:Int)≤x1)) (cond (decide (x1≤(x3.length:Int))) (cond (decide (((([]:aB)).length+((x3.take x1.toNat).drop ((0:Int).toNat)).length)*112≤140737488355328)) (cond (decide ((((([]:aB))++((x3.take x1.toNat).drop ((0:Int).toNat))).length+(([(⟨x6,x0,x8,x9,aK,aN,aP,1,bf,aS,aO,aT,0⟩:ae)]:aB)).length)*112≤140737488355328)) (cond (decide (((((([]:aB))++((x3.take x1.toNat).drop ((0:Int).toNat)))++(([(⟨x6,x0,x8,x9,aK,aN,aP,1,bf,aS,aO,aT,0⟩:ae)]:aB))).length+((x3.take ((x3.length:Int).toNat)).drop ((x1:Int).toNat)).length)*112≤140737488355328)) (some ((⟨x2,(((([]:aB))++((x3.take x1.toNat).drop ((0:Int).toNat)))++(([(⟨x6,x0,x8,x9,aK,aN,aP,1,bf,aS,aO,aT,0⟩:ae)]:aB)))++((x3.take ((x3.length:Int).toNat)).drop ((x1:Int).toNat)),x4,x5⟩:aa))) none) none) none) none) none) none)) none) none) none)
section
variable (x0 x2:Int) (x3:aB) (x4:ay) (x5:aA) (x6:BA) (x7:Int) (x8:Bool) (x9 aK aN aP aX bf aS aO aT aW bh:Int) (bJ:aB) (bG:ay) (bL:aA)
def RY (kp:Nat→Prop) (kh:Nat→Option Obj) (hd:Nat→Value) (n:Nat)  (x:GM):Option (aa):=iter (fun rec S=>run (X65.gh kp kh hd) (F65 n) (aw (av Try.f65) [1,1,0,0,0]) 0 S (cH rec (bW 0 (bA (run (X65.gh kp kh hd) (F65 n) (aw (av Try.f65) [1,1,1]) 0) (xR (X65.gh kp kh hd) Try.f65 [] Xo))))) [2,3,4,6,7] n (s65_0 x0 x2 x3 x4 x5 x6 x7 x8 x9 aK aN aP aX bf aS aO aT aW bh bJ bG bL x)
theorem m65_0 (kp:Nat→Prop) (kh:Nat→Option Obj) (hd:Nat→Value) (n:Nat)  (x:GM):RY x0 x2 x3 x4 x5 x6 x7 x8 x9 aK aN aP aX bf aS aO aT aW bh bJ bG bL kp kh hd n  x=bS (Em x0 x2 x3 x4 x5 x6 x8 x9 aK aN aP bf aS aO aT n  ) n x:=by
 refine iter_eq _ _ (fun aM x1=>?_) n x
 kernel_rfl
end
def VI (n:Nat) (a0:aa) (a1:ae) (a2:Int):Option (aa):=
 bS (Em a2 a0.bM a0.af a0.ah a0.ak a1.Name a1.bq a1.ax a1.Want a1.Down a1.bg a1.bY a1.aD a1.aU a1.bF n ) n 0
theorem t65 (kp:Nat→Prop) (kh:Nat→Option Obj) (hd:Nat→Value) (n:Nat) (a0:aa) (a1:ae) (a2:Int):oH (X65.gh kp kh hd) (F65 n) Try.f65 [(true,[.int .i64 a0.bM,.row .bD a0.af,.row .bX a0.ah,.row .cC a0.ak]),(true,[.str a1.Name,.int .i64 a1.Version,.bool a1.bq,.int .i64 a1.ax,.int .i64 a1.Want,.int .i64 a1.Down,.int .i64 a1.bg,.int .i64 a1.Next,.int .i64 a1.bY,.int .i64 a1.aD,.int .i64 a1.aU,.int .i64 a1.bF,.int .i64 a1.bb]),(false,[.int .i64 a2])] Xo=VI n a0 a1 a2:=by
 refine Eq.trans (b:=
  RY a2 a0.bM a0.af a0.ah a0.ak a1.Name a1.Version a1.bq a1.ax a1.Want a1.Down a1.bg a1.Next a1.bY a1.aD a1.aU a1.bF a1.bb 0 (([]:aB)) (([]:ay)) (([]:aA)) kp kh hd n   0) (by kernel_rfl) ?_
 simp only [VI,m65_0]
def G65 (a0:aa) (a1:ae) (a2:Int):Option (aa):=VI fuel a0 a1 a2
def XD:rA C:=mkW KK [.el .bU,.el .bD,.int .i64] [] [.el .bU] G65
theorem c65:pJ Try.prog KK 65 XD:=eO (fV trivial trivial trivial:Cons Try.prog X65) (fn:=Try.f65) (by kernel_rfl) (by kernel_rfl) (by kernel_rfl) (by kernel_rfl) (F65 fuel) (by kernel_rfl) fun kp kh hd=>fun a0 a1 a2=>t65 kp kh hd fuel a0 a1 a2
def I65 (n:Nat):lz C:=uh KK 65 XD
theorem i65 (n:Nat):cG Try.prog KK 65 (I65 n):=C1 c65
def X68:Cx C:=eP [] [] [] [] 4456448 [29,42,47]
def F68 (n:Nat):Cf:={ N:=n,keep:=[0,1,2,3,6,7,8,23,40],live:=lk [(0,[1,2,3,6,7])] }
abbrev Xl:=Bh KK [] [.el .bU]
abbrev GJ:Type:=Int
section
variable (x0:BA) (x1:Bool) (x3:Int) (x4:aB) (x5:ay) (x6:aA) (x7:Int) (x8:aB) (x9:ay) (aK:aA)
def s68_0:GJ→St C:=fun x2=>{ env:=[(1,.one (.str x0)),(2,.one (.bool x1)),(3,.one (.ptr 4456640 0)),(6,.one (.ptr 4456832 0)),(7,.one (.int .i64 x2)),(90000,.frame),(90002,.jo 446664001 1),(90003,.jo 446664002 2),(90004,.jo 446664003 3)],aj:=[(4456640,.box .mem [.int .i64 x3,.ref 446664001 [],.ref 446664002 [],.ref 446664003 []]),(446664001,.row .bD x4 false),(446664002,.row .bX x5 false),(446664003,.row .cC x6 false),(4456832,.box .mem [.int .i64 x7,.ref 446683201 [],.ref 446683202 [],.ref 446683203 []]),(446683201,.row .bD x8 false),(446683202,.row .bX x9 false),(446683203,.row .cC aK false)],base:=0 }
end
def El (x0:BA) (x1:Bool) (x3:Int) (x4:aB) (x5:ay) (x6:aA) (n:Nat)   (aM:GJ→Option (aa)):GJ→Option (aa):=fun x2=>
 cond (decide (x2<(x6.length:Int)))
 (cond (decide (0≤x2)) (cond (decide (x2<(x6.length:Int))) (Option.bind x6[x2.toNat]? fun e1=>cond (slt e1.Name x0)
 (aM (i64.wrap (x2+1)))
 (cond (decide ((0:Int)≤x2)) (cond (decide ((x2:Int)≤(x6.length:Int))) (cond (decide ((x6.length:Int)≤(x6.length:Int))) (cond (decide (((((x6.take ((x6.length:Int).toNat)).drop ((x2:Int).toNat)).length:Int))>0))
 (cond (decide (0≤0)) (cond (decide (0<((((x6.length:Int).toNat)-((x2:Int).toNat):Nat):Int))) (Option.bind x6[((x2:Int).toNat)+(0:Int).toNat]? fun e2=>cond (decide (e2.Name=x0))
 (cond (decide ((0:Int)≤1)) (cond (decide ((1:Int)≤((((x6.length:Int).toNat)-((x2:Int).toNat):Nat):Int))) (cond (decide (((((x6.length:Int).toNat)-((x2:Int).toNat):Nat):Int)≤((((x6.length:Int).toNat)-((x2:Int).toNat):Nat):Int))) (cond (decide ((0:Int)≤0)) (cond (decide ((0:Int)≤x2)) (cond (decide (x2≤(x6.length:Int))) (cond (decide (((([]:aA)).length+((x6.take x2.toNat).drop ((0:Int).toNat)).length)*24≤140737488355328)) (cond (decide ((((([]:aA))++((x6.take x2.toNat).drop ((0:Int).toNat))).length+(([(⟨x0,x1⟩:aG)]:aA)).length)*24≤140737488355328)) (cond (decide (((((([]:aA))++((x6.take x2.toNat).drop ((0:Int).toNat)))++(([(⟨x0,x1⟩:aG)]:aA))).length+((x6.take (((x2:Int).toNat)+(((((x6.length:Int).toNat)-((x2:Int).toNat):Nat):Int)).toNat)).drop (((x2:Int).toNat)+(1:Int).toNat)).length)*24≤140737488355328)) (some ((⟨x3,x4,x5,(((([]:aA))++((x6.take x2.toNat).drop ((0:Int).toNat)))++(([(⟨x0,x1⟩:aG)]:aA)))++((x6.take (((x2:Int).toNat)+(((((x6.length:Int).toNat)-((x2:Int).toNat):Nat):Int)).toNat)).drop (((x2:Int).toNat)+(1:Int).toNat))⟩:aa))) none) none) none) none) none) none) none) none) none)
 (cond (decide ((0:Int)≤0)) (cond (decide ((0:Int)≤x2)) (cond (decide (x2≤(x6.length:Int))) (cond (decide (((([]:aA)).length+((x6.take x2.toNat).drop ((0:Int).toNat)).length)*24≤140737488355328)) (cond (decide ((((([]:aA))++((x6.take x2.toNat).drop ((0:Int).toNat))).length+(([(⟨x0,x1⟩:aG)]:aA)).length)*24≤140737488355328)) (cond (decide (((((([]:aA))++((x6.take x2.toNat).drop ((0:Int).toNat)))++(([(⟨x0,x1⟩:aG)]:aA))).length+((x6.take ((x6.length:Int).toNat)).drop ((x2:Int).toNat)).length)*24≤140737488355328)) (some ((⟨x3,x4,x5,(((([]:aA))++((x6.take x2.toNat).drop ((0:Int).toNat)))++(([(⟨x0,x1⟩:aG)]:aA)))++((x6.take ((x6.length:Int).toNat)).drop ((x2:Int).toNat))⟩:aa))) none) none) none) none) none) none)) none) none)
 (cond (decide ((0:Int)≤0)) (cond (decide ((0:Int)≤x2)) (cond (decide (x2≤(x6.length:Int))) (cond (decide (((([]:aA)).length+((x6.take x2.toNat).drop ((0:Int).toNat)).length)*24≤140737488355328)) (cond (decide ((((([]:aA))++((x6.take x2.toNat).drop ((0:Int).toNat))).length+(([(⟨x0,x1⟩:aG)]:aA)).length)*24≤140737488355328)) (cond (decide (((((([]:aA))++((x6.take x2.toNat).drop ((0:Int).toNat)))++(([(⟨x0,x1⟩:aG)]:aA))).length+((x6.take ((x6.length:Int).toNat)).drop ((x2:Int).toNat)).length)*24≤140737488355328)) (some ((⟨x3,x4,x5,(((([]:aA))++((x6.take x2.toNat).drop ((0:Int).toNat)))++(([(⟨x0,x1⟩:aG)]:aA)))++((x6.take ((x6.length:Int).toNat)).drop ((x2:Int).toNat))⟩:aa))) none) none) none) none) none) none)) none) none) none)) none) none)
 (cond (decide ((0:Int)≤x2)) (cond (decide ((x2:Int)≤(x6.length:Int))) (cond (decide ((x6.length:Int)≤(x6.length:Int))) (cond (decide (((((x6.take ((x6.length:Int).toNat)).drop ((x2:Int).toNat)).length:Int))>0))
 (cond (decide (0≤0)) (cond (decide (0<((((x6.length:Int).toNat)-((x2:Int).toNat):Nat):Int))) (Option.bind x6[((x2:Int).toNat)+(0:Int).toNat]? fun e3=>cond (decide (e3.Name=x0))
 (cond (decide ((0:Int)≤1)) (cond (decide ((1:Int)≤((((x6.length:Int).toNat)-((x2:Int).toNat):Nat):Int))) (cond (decide (((((x6.length:Int).toNat)-((x2:Int).toNat):Nat):Int)≤((((x6.length:Int).toNat)-((x2:Int).toNat):Nat):Int))) (cond (decide ((0:Int)≤0)) (cond (decide ((0:Int)≤x2)) (cond (decide (x2≤(x6.length:Int))) (cond (decide (((([]:aA)).length+((x6.take x2.toNat).drop ((0:Int).toNat)).length)*24≤140737488355328)) (cond (decide ((((([]:aA))++((x6.take x2.toNat).drop ((0:Int).toNat))).length+(([(⟨x0,x1⟩:aG)]:aA)).length)*24≤140737488355328)) (cond (decide (((((([]:aA))++((x6.take x2.toNat).drop ((0:Int).toNat)))++(([(⟨x0,x1⟩:aG)]:aA))).length+((x6.take (((x2:Int).toNat)+(((((x6.length:Int).toNat)-((x2:Int).toNat):Nat):Int)).toNat)).drop (((x2:Int).toNat)+(1:Int).toNat)).length)*24≤140737488355328)) (some ((⟨x3,x4,x5,(((([]:aA))++((x6.take x2.toNat).drop ((0:Int).toNat)))++(([(⟨x0,x1⟩:aG)]:aA)))++((x6.take (((x2:Int).toNat)+(((((x6.length:Int).toNat)-((x2:Int).toNat):Nat):Int)).toNat)).drop (((x2:Int).toNat)+(1:Int).toNat))⟩:aa))) none) none) none) none) none) none) none) none) none)
 (cond (decide ((0:Int)≤0)) (cond (decide ((0:Int)≤x2)) (cond (decide (x2≤(x6.length:Int))) (cond (decide (((([]:aA)).length+((x6.take x2.toNat).drop ((0:Int).toNat)).length)*24≤140737488355328)) (cond (decide ((((([]:aA))++((x6.take x2.toNat).drop ((0:Int).toNat))).length+(([(⟨x0,x1⟩:aG)]:aA)).length)*24≤140737488355328)) (cond (decide (((((([]:aA))++((x6.take x2.toNat).drop ((0:Int).toNat)))++(([(⟨x0,x1⟩:aG)]:aA))).length+((x6.take ((x6.length:Int).toNat)).drop ((x2:Int).toNat)).length)*24≤140737488355328)) (some ((⟨x3,x4,x5,(((([]:aA))++((x6.take x2.toNat).drop ((0:Int).toNat)))++(([(⟨x0,x1⟩:aG)]:aA)))++((x6.take ((x6.length:Int).toNat)).drop ((x2:Int).toNat))⟩:aa))) none) none) none) none) none) none)) none) none)
 (cond (decide ((0:Int)≤0)) (cond (decide ((0:Int)≤x2)) (cond (decide (x2≤(x6.length:Int))) (cond (decide (((([]:aA)).length+((x6.take x2.toNat).drop ((0:Int).toNat)).length)*24≤140737488355328)) (cond (decide ((((([]:aA))++((x6.take x2.toNat).drop ((0:Int).toNat))).length+(([(⟨x0,x1⟩:aG)]:aA)).length)*24≤140737488355328)) (cond (decide (((((([]:aA))++((x6.take x2.toNat).drop ((0:Int).toNat)))++(([(⟨x0,x1⟩:aG)]:aA))).length+((x6.take ((x6.length:Int).toNat)).drop ((x2:Int).toNat)).length)*24≤140737488355328)) (some ((⟨x3,x4,x5,(((([]:aA))++((x6.take x2.toNat).drop ((0:Int).toNat)))++(([(⟨x0,x1⟩:aG)]:aA)))++((x6.take ((x6.length:Int).toNat)).drop ((x2:Int).toNat))⟩:aa))) none) none) none) none) none) none)) none) none) none)
section
variable (x0:BA) (x1:Bool) (x3:Int) (x4:aB) (x5:ay) (x6:aA) (x7:Int) (x8:aB) (x9:ay) (aK:aA)
def RV (kp:Nat→Prop) (kh:Nat→Option Obj) (hd:Nat→Value) (n:Nat)  (x:GJ):Option (aa):=iter (fun rec S=>run (X68.gh kp kh hd) (F68 n) (aw (av Try.f68) [1,1,0,0,0]) 0 S (cH rec (bW 0 (bA (run (X68.gh kp kh hd) (F68 n) (aw (av Try.f68) [1,1,1]) 0) (xR (X68.gh kp kh hd) Try.f68 [] Xl))))) [1,2,3,6,7] n (s68_0 x0 x1 x3 x4 x5 x6 x7 x8 x9 aK x)
theorem m68_0 (kp:Nat→Prop) (kh:Nat→Option Obj) (hd:Nat→Value) (n:Nat)  (x:GJ):RV x0 x1 x3 x4 x5 x6 x7 x8 x9 aK kp kh hd n  x=bS (El x0 x1 x3 x4 x5 x6 n  ) n x:=by
 refine iter_eq _ _ (fun aM x2=>?_) n x
 kernel_rfl
end
def VE (n:Nat) (a0:aa) (a1:BA) (a2:Bool):Option (aa):=
 bS (El a1 a2 a0.bM a0.af a0.ah a0.ak n ) n 0
theorem t68 (kp:Nat→Prop) (kh:Nat→Option Obj) (hd:Nat→Value) (n:Nat) (a0:aa) (a1:BA) (a2:Bool):oH (X68.gh kp kh hd) (F68 n) Try.f68 [(true,[.int .i64 a0.bM,.row .bD a0.af,.row .bX a0.ah,.row .cC a0.ak]),(false,[.str a1]),(false,[.bool a2])] Xl=VE n a0 a1 a2:=by
 refine Eq.trans (b:=
  RV a1 a2 a0.bM a0.af a0.ah a0.ak 0 (([]:aB)) (([]:ay)) (([]:aA)) kp kh hd n   0) (by kernel_rfl) ?_
 simp only [VE,m68_0]
def G68 (a0:aa) (a1:BA) (a2:Bool):Option (aa):=VE fuel a0 a1 a2
def XC:rA C:=mkW KK [.el .bU,.str,.bool] [] [.el .bU] G68
theorem c68:pJ Try.prog KK 68 XC:=eO (fV trivial trivial trivial:Cons Try.prog X68) (fn:=Try.f68) (by kernel_rfl) (by kernel_rfl) (by kernel_rfl) (by kernel_rfl) (F68 fuel) (by kernel_rfl) fun kp kh hd=>fun a0 a1 a2=>t68 kp kh hd fuel a0 a1 a2
def I68 (n:Nat):lz C:=uh KK 68 XC
theorem i68 (n:Nat):cG Try.prog KK 68 (I68 n):=C1 c68
def X28 (n:Nat):Cx C:=eP [(66,KJ),(67,KI),(69,Bi)] [] [(64,I64 n),(65,I65 n),(68,I68 n)] [2,4,6,22,29,126] 1835008 [83,89]
def F28 (n:Nat):Cf:={ N:=n,keep:=[0,1,2,3,4,5,6,7,8,9,10,11,16,18,23,30,57,70,77,97,108,119,127,143],live:=lk [(1,[2,3,4,6,9,10])] }
abbrev Xt:=Bh KK [] [.el .bU,.int .i64]
abbrev GR:Type:=ay×Int
section
variable (x0 x3:Int) (x4:aB) (x5:ay) (x6:aA) (x7:Int) (x8:BA) (x9:Int) (aK:Bool) (aN aP aX bf aS aO aT aW bh bJ:Int) (bG:BA) (bL:Int) (bZ:Bool) (da:Int) (cW:aB) (dE:ay) (dI:aA)
def s28_0:GR→St C:=fun (x1,x2)=>{ env:=[(2,.one (.ptr 1835136 0)),(3,.one (.ptr 1835200 0)),(4,.one (.ptr 1835264 0)),(6,.one (.int .i64 x0)),(9,.one (.ref 100009 [])),(10,.one (.int .i64 x2)),(90000,.frame),(90002,.jo 184513601 1),(90003,.jo 184513602 2)],aj:=[(100009,.row .bX x1 false),(1835136,.box .mem [.int .i64 x3,.ref 184513601 [],.ref 184513602 [],.ref 184513603 []]),(184513601,.row .bD x4 false),(184513602,.row .bX x5 false),(184513603,.row .cC x6 false),(1835200,.box .mem [.int .i64 x7,.str x8,.int .i64 x9,.bool aK,.int .i64 aN,.int .i64 aP,.int .i64 aX,.int .i64 bf,.int .i64 aS,.int .i64 aO,.int .i64 aT,.int .i64 aW,.int .i64 bh,.int .i64 bJ,.str bG,.int .i64 bL,.bool bZ]),(1835264,.box .mem [.int .i64 da,.ref 184526401 [],.ref 184526402 [],.ref 184526403 []]),(184526401,.row .bD cW false),(184526402,.row .bX dE false),(184526403,.row .cC dI false)],base:=0 }
end
def Ez (x0:Int) (x4:aB) (x5:ay) (x6:aA) (bG:BA) (n:Nat)   (aM:GR→Option (aa×Int)):GR→Option (aa×Int):=fun (x1,x2)=>
 cond (decide (x2<(x5.length:Int)))
 (cond (decide (0≤x2)) (cond (decide (x2<(x5.length:Int))) (Option.bind x5[x2.toNat]? fun IC=>cond (!decide (IC.bE=bG))
 (cond (decide (0≤x2)) (cond (decide (x2<(x5.length:Int))) (Option.bind x5[x2.toNat]? fun nu=>cond (decide ((x1.length+(([nu]:ay)).length)*72≤140737488355328)) (aM ((x1++(([nu]:ay)),i64.wrap (x2+1)))) none) none) none)
 (aM ((x1,i64.wrap (x2+1))))) none) none)
 (some ((⟨x0,x4,x1,x6⟩:aa),0))
section
variable (x0 x3:Int) (x4:aB) (x5:ay) (x6:aA) (x7:Int) (x8:BA) (x9:Int) (aK:Bool) (aN aP aX bf aS aO aT aW bh bJ:Int) (bG:BA) (bL:Int) (bZ:Bool) (da:Int) (cW:aB) (dE:ay) (dI:aA)
def Sr (kp:Nat→Prop) (kh:Nat→Option Obj) (hd:Nat→Value) (n:Nat)  (x:GR):Option (aa×Int):=iter (fun rec S=>run ((X28 n).gh kp kh hd) (F28 n) (aw (av Try.f28) [1,1,0,1,0,1,1,1,1,1,1,1,0,1,1,1,1,0,1,0,0]) 1 S (cH rec (bW 1 (bA (run ((X28 n).gh kp kh hd) (F28 n) (aw (av Try.f28) [1,1,0,1,0,1,1,1,1,1,1,1,0,1,1,1,1,1]) 0) (bW 0 (bA (run ((X28 n).gh kp kh hd) (F28 n) (aw (av Try.f28) [1,1,1]) 0) (xR ((X28 n).gh kp kh hd) Try.f28 [] Xt))))))) [2,3,4,6,9,10] n (s28_0 x0 x3 x4 x5 x6 x7 x8 x9 aK aN aP aX bf aS aO aT aW bh bJ bG bL bZ da cW dE dI x)
theorem m28_0 (kp:Nat→Prop) (kh:Nat→Option Obj) (hd:Nat→Value) (n:Nat)  (x:GR):Sr x0 x3 x4 x5 x6 x7 x8 x9 aK aN aP aX bf aS aO aT aW bh bJ bG bL bZ da cW dE dI kp kh hd n  x=bS (Ez x0 x4 x5 x6 bG n  ) n x:=by
 refine iter_eq _ _ (fun aM x=>?_) n x;obtain ⟨x1,x2⟩:=x
 kernel_rfl
end
def VP (n:Nat) (a0:aa) (a1:aJ):Option (aa×Int):=
 cond (a1.Kind==1)
 (Option.bind (G64 a0 (i64.wrap (a0.bM+1))) fun r1=>
 some ((⟨i64.wrap (a0.bM+1),r1.af,r1.ah,r1.ak⟩:aa),0))
 (cond (a1.Kind==2)
 (Option.bind (G65 a0 (⟨a1.eZ,a1.dN,a1.ff,a1.eF,a1.eW,a1.fg,a1.eX,a1.eY,a1.fU,a1.eE,a1.fb,a1.fe,a1.fm⟩:ae) (i64.wrap (a0.bM+1))) fun r2=>
 some ((⟨i64.wrap (a0.bM+1),r2.af,r2.ah,r2.ak⟩:aa),0))
 (cond (a1.Kind==3)
 (Option.bind (VH a0 a1.Name a1.Number) fun r3=>
 cond (decide (r3<0))
 (some (a0,3))
 (cond (decide (0≤r3)) (cond (decide (r3<(a0.ah.length:Int))) (Option.bind a0.ah[r3.toNat]? fun e4=>cond (e4.State != 3)
 (cond (decide (0≤r3)) (cond (decide (r3<(a0.ah.length:Int))) (Option.bind a0.ah[r3.toNat]? fun e5=>cond (e5.State != 2)
 (some (a0,3))
 (cond (decide (0≤r3)) (cond (decide (r3<(a0.ah.length:Int))) (Option.bind a0.ah[r3.toNat]? fun e6=>cond (decide (0≤r3)) (cond (decide (r3<((a0.ah.set r3.toNat (⟨e6.aq,e6.Number,e6.Version,e6.ax,4,e6.Ending,e6.bE⟩:ai)).length:Int))) (Option.bind (a0.ah.set r3.toNat (⟨e6.aq,e6.Number,e6.Version,e6.ax,4,e6.Ending,e6.bE⟩:ai))[r3.toNat]? fun e7=>some ((⟨i64.wrap (a0.bM+1),a0.af,(a0.ah.set r3.toNat (⟨e6.aq,e6.Number,e6.Version,e6.ax,4,e6.Ending,e6.bE⟩:ai)).set r3.toNat ((⟨e7.aq,e7.Number,i64.wrap (a0.bM+1),e7.ax,e7.State,e7.Ending,e7.bE⟩:ai)),a0.ak⟩:aa),0)) none) none) none) none)) none) none)
 (cond (decide (0≤r3)) (cond (decide (r3<(a0.ah.length:Int))) (Option.bind a0.ah[r3.toNat]? fun e8=>cond (decide (0≤r3)) (cond (decide (r3<((a0.ah.set r3.toNat (⟨e8.aq,e8.Number,e8.Version,e8.ax,4,e8.Ending,e8.bE⟩:ai)).length:Int))) (Option.bind (a0.ah.set r3.toNat (⟨e8.aq,e8.Number,e8.Version,e8.ax,4,e8.Ending,e8.bE⟩:ai))[r3.toNat]? fun e9=>some ((⟨i64.wrap (a0.bM+1),a0.af,(a0.ah.set r3.toNat (⟨e8.aq,e8.Number,e8.Version,e8.ax,4,e8.Ending,e8.bE⟩:ai)).set r3.toNat ((⟨e9.aq,e9.Number,i64.wrap (a0.bM+1),e9.ax,e9.State,e9.Ending,e9.bE⟩:ai)),a0.ak⟩:aa),0)) none) none) none) none)) none) none))
 (cond (a1.Kind==4)
 (Option.bind (G67 a0 a1.Name) fun ib=>
 cond (decide (ib<0))
 (some (a0,3))
 (cond (decide ((0:Int)≤0)) (cond (decide ((0:Int)≤ib)) (cond (decide (ib≤(a0.ak.length:Int))) (cond (decide (((([]:aA)).length+((a0.ak.take ib.toNat).drop ((0:Int).toNat)).length)*24≤140737488355328)) (cond (decide ((0:Int)≤i64.wrap (ib+1))) (cond (decide ((i64.wrap (ib+1):Int)≤(a0.ak.length:Int))) (cond (decide ((a0.ak.length:Int)≤(a0.ak.length:Int))) (cond (decide ((((([]:aA))++((a0.ak.take ib.toNat).drop ((0:Int).toNat))).length+((a0.ak.take ((a0.ak.length:Int).toNat)).drop ((i64.wrap (ib+1):Int).toNat)).length)*24≤140737488355328)) (bS (Ez (i64.wrap (a0.bM+1)) a0.af a0.ah (((([]:aA))++((a0.ak.take ib.toNat).drop ((0:Int).toNat)))++((a0.ak.take ((a0.ak.length:Int).toNat)).drop ((i64.wrap (ib+1):Int).toNat))) a1.Name n ) n ((([]:ay),0))) none) none) none) none) none) none) none) none))
 (cond (a1.Kind==5)
 (Option.bind (G68 a0 a1.Name a1.yO) fun qL=>
 some ((⟨i64.wrap (a0.bM+1),qL.af,qL.ah,qL.ak⟩:aa),0))
 (cond (a1.Kind==6)
 (Option.bind (Ta a0 a1.Name) fun gM=>
 cond (decide (gM<0))
 (some (a0,3))
 (cond (decide (0≤gM)) (cond (decide (gM<(a0.af.length:Int))) (Option.bind a0.af[gM.toNat]? fun qd=>cond (qd.bY==0)
 (some (a0,3))
 (cond (decide (0≤gM)) (cond (decide (gM<(a0.af.length:Int))) (Option.bind a0.af[gM.toNat]? fun gb=>cond (decide (0≤gM)) (cond (decide (gM<((a0.af.set gM.toNat (⟨gb.Name,gb.Version,gb.bq,gb.ax,gb.Want,gb.Down,gb.bg,gb.Next,gb.bY,gb.aD,gb.aU,a1.Number,gb.bb⟩:ae)).length:Int))) (Option.bind (a0.af.set gM.toNat (⟨gb.Name,gb.Version,gb.bq,gb.ax,gb.Want,gb.Down,gb.bg,gb.Next,gb.bY,gb.aD,gb.aU,a1.Number,gb.bb⟩:ae))[gM.toNat]? fun bQ=>some ((⟨i64.wrap (a0.bM+1),(a0.af.set gM.toNat (⟨gb.Name,gb.Version,gb.bq,gb.ax,gb.Want,gb.Down,gb.bg,gb.Next,gb.bY,gb.aD,gb.aU,a1.Number,gb.bb⟩:ae)).set gM.toNat ((⟨bQ.Name,i64.wrap (a0.bM+1),bQ.bq,bQ.ax,bQ.Want,bQ.Down,bQ.bg,bQ.Next,bQ.bY,bQ.aD,bQ.aU,bQ.bF,bQ.bb⟩:ae)),a0.ah,a0.ak⟩:aa),0)) none) none) none) none)) none) none))
 (some (a0,4)))))))
theorem t28 (kp:Nat→Prop) (kh:Nat→Option Obj) (hd:Nat→Value) (n:Nat) (a0:aa) (a1:aJ):oH ((X28 n).gh kp kh hd) (F28 n) Try.f28 [(true,[.int .i64 a0.bM,.row .bD a0.af,.row .bX a0.ah,.row .cC a0.ak]),(true,[.int .i64 a1.Kind,.str a1.eZ,.int .i64 a1.dN,.bool a1.ff,.int .i64 a1.eF,.int .i64 a1.eW,.int .i64 a1.fg,.int .i64 a1.eX,.int .i64 a1.eY,.int .i64 a1.fU,.int .i64 a1.eE,.int .i64 a1.fb,.int .i64 a1.fe,.int .i64 a1.fm,.str a1.Name,.int .i64 a1.Number,.bool a1.yO])] Xt=VP n a0 a1:=by
 refine Eq.trans (b:=
  cond (a1.Kind==1)
  (Option.bind (G64 a0 (i64.wrap (a0.bM+1))) fun r1=>
  some ((⟨i64.wrap (a0.bM+1),r1.af,r1.ah,r1.ak⟩:aa),0))
  (cond (a1.Kind==2)
  (Option.bind (G65 a0 (⟨a1.eZ,a1.dN,a1.ff,a1.eF,a1.eW,a1.fg,a1.eX,a1.eY,a1.fU,a1.eE,a1.fb,a1.fe,a1.fm⟩:ae) (i64.wrap (a0.bM+1))) fun r2=>
  some ((⟨i64.wrap (a0.bM+1),r2.af,r2.ah,r2.ak⟩:aa),0))
  (cond (a1.Kind==3)
  (Option.bind (VH a0 a1.Name a1.Number) fun r3=>
  cond (decide (r3<0))
  (some (a0,3))
  (cond (decide (0≤r3)) (cond (decide (r3<(a0.ah.length:Int))) (Option.bind a0.ah[r3.toNat]? fun e4=>cond (e4.State != 3)
  (cond (decide (0≤r3)) (cond (decide (r3<(a0.ah.length:Int))) (Option.bind a0.ah[r3.toNat]? fun e5=>cond (e5.State != 2)
  (some (a0,3))
  (cond (decide (0≤r3)) (cond (decide (r3<(a0.ah.length:Int))) (Option.bind a0.ah[r3.toNat]? fun e6=>cond (decide (0≤r3)) (cond (decide (r3<((a0.ah.set r3.toNat (⟨e6.aq,e6.Number,e6.Version,e6.ax,4,e6.Ending,e6.bE⟩:ai)).length:Int))) (Option.bind (a0.ah.set r3.toNat (⟨e6.aq,e6.Number,e6.Version,e6.ax,4,e6.Ending,e6.bE⟩:ai))[r3.toNat]? fun e7=>some ((⟨i64.wrap (a0.bM+1),a0.af,(a0.ah.set r3.toNat (⟨e6.aq,e6.Number,e6.Version,e6.ax,4,e6.Ending,e6.bE⟩:ai)).set r3.toNat ((⟨e7.aq,e7.Number,i64.wrap (a0.bM+1),e7.ax,e7.State,e7.Ending,e7.bE⟩:ai)),a0.ak⟩:aa),0)) none) none) none) none)) none) none)
  (cond (decide (0≤r3)) (cond (decide (r3<(a0.ah.length:Int))) (Option.bind a0.ah[r3.toNat]? fun e8=>cond (decide (0≤r3)) (cond (decide (r3<((a0.ah.set r3.toNat (⟨e8.aq,e8.Number,e8.Version,e8.ax,4,e8.Ending,e8.bE⟩:ai)).length:Int))) (Option.bind (a0.ah.set r3.toNat (⟨e8.aq,e8.Number,e8.Version,e8.ax,4,e8.Ending,e8.bE⟩:ai))[r3.toNat]? fun e9=>some ((⟨i64.wrap (a0.bM+1),a0.af,(a0.ah.set r3.toNat (⟨e8.aq,e8.Number,e8.Version,e8.ax,4,e8.Ending,e8.bE⟩:ai)).set r3.toNat ((⟨e9.aq,e9.Number,i64.wrap (a0.bM+1),e9.ax,e9.State,e9.Ending,e9.bE⟩:ai)),a0.ak⟩:aa),0)) none) none) none) none)) none) none))
  (cond (a1.Kind==4)
  (Option.bind (G67 a0 a1.Name) fun ib=>
  cond (decide (ib<0))
  (some (a0,3))
  (cond (decide ((0:Int)≤0)) (cond (decide ((0:Int)≤ib)) (cond (decide (ib≤(a0.ak.length:Int))) (cond (decide (((([]:aA)).length+((a0.ak.take ib.toNat).drop ((0:Int).toNat)).length)*24≤140737488355328)) (cond (decide ((0:Int)≤i64.wrap (ib+1))) (cond (decide ((i64.wrap (ib+1):Int)≤(a0.ak.length:Int))) (cond (decide ((a0.ak.length:Int)≤(a0.ak.length:Int))) (cond (decide ((((([]:aA))++((a0.ak.take ib.toNat).drop ((0:Int).toNat))).length+((a0.ak.take ((a0.ak.length:Int).toNat)).drop ((i64.wrap (ib+1):Int).toNat)).length)*24≤140737488355328)) (Sr (i64.wrap (a0.bM+1)) a0.bM a0.af a0.ah (((([]:aA))++((a0.ak.take ib.toNat).drop ((0:Int).toNat)))++((a0.ak.take ((a0.ak.length:Int).toNat)).drop ((i64.wrap (ib+1):Int).toNat))) a1.Kind a1.eZ a1.dN a1.ff a1.eF a1.eW a1.fg a1.eX a1.eY a1.fU a1.eE a1.fb a1.fe a1.fm a1.Name a1.Number a1.yO 0 (([]:aB)) (([]:ay)) (([]:aA)) kp kh hd n   ((([]:ay),0))) none) none) none) none) none) none) none) none))
  (cond (a1.Kind==5)
  (Option.bind (G68 a0 a1.Name a1.yO) fun qL=>
  some ((⟨i64.wrap (a0.bM+1),qL.af,qL.ah,qL.ak⟩:aa),0))
  (cond (a1.Kind==6)
  (Option.bind (Ta a0 a1.Name) fun gM=>
  cond (decide (gM<0))
  (some (a0,3))
  (cond (decide (0≤gM)) (cond (decide (gM<(a0.af.length:Int))) (Option.bind a0.af[gM.toNat]? fun qd=>cond (qd.bY==0)
  (some (a0,3))
  (cond (decide (0≤gM)) (cond (decide (gM<(a0.af.length:Int))) (Option.bind a0.af[gM.toNat]? fun gb=>cond (decide (0≤gM)) (cond (decide (gM<((a0.af.set gM.toNat (⟨gb.Name,gb.Version,gb.bq,gb.ax,gb.Want,gb.Down,gb.bg,gb.Next,gb.bY,gb.aD,gb.aU,a1.Number,gb.bb⟩:ae)).length:Int))) (Option.bind (a0.af.set gM.toNat (⟨gb.Name,gb.Version,gb.bq,gb.ax,gb.Want,gb.Down,gb.bg,gb.Next,gb.bY,gb.aD,gb.aU,a1.Number,gb.bb⟩:ae))[gM.toNat]? fun bQ=>some ((⟨i64.wrap (a0.bM+1),(a0.af.set gM.toNat (⟨gb.Name,gb.Version,gb.bq,gb.ax,gb.Want,gb.Down,gb.bg,gb.Next,gb.bY,gb.aD,gb.aU,a1.Number,gb.bb⟩:ae)).set gM.toNat ((⟨bQ.Name,i64.wrap (a0.bM+1),bQ.bq,bQ.ax,bQ.Want,bQ.Down,bQ.bg,bQ.Next,bQ.bY,bQ.aD,bQ.aU,bQ.bF,bQ.bb⟩:ae)),a0.ah,a0.ak⟩:aa),0)) none) none) none) none)) none) none))
  (some (a0,4)))))))) (by kernel_rfl) ?_
 simp only [VP,m28_0]
def G28 (a0:aa) (a1:aJ):Option (aa×Int):=VP fuel a0 a1
def XM:rA C:=mkW KK [.el .bU,.el .s8] [] [.el .bU,.int .i64] G28
theorem c28:pJ Try.prog KK 28 XM:=eO (fV ⟨c66,c67,c69,trivial⟩ trivial ⟨iz64 _,i65 _,i68 _,trivial⟩:Cons Try.prog (X28 fuel)) (fn:=Try.f28) (by kernel_rfl) (by kernel_rfl) (by kernel_rfl) (by kernel_rfl) (F28 fuel) (by kernel_rfl) fun kp kh hd=>fun a0 a1=>t28 kp kh hd fuel a0 a1
def I28 (n:Nat):lz C:=uh KK 28 XM
theorem i28 (n:Nat):cG Try.prog KK 28 (I28 n):=C1 c28
def X8 (n:Nat):Cx C:=eP [(10,Bk),(26,qB),(27,Bj)] [] [(28,I28 n)] [2,3,4,6,7,23,24,25,26,27,28,29] 524288 []
def F8 (n:Nat):Cf:={ N:=n,keep:=[0,1,2,3,4,5,6,7,10,14,18,36,38],live:=lk [] }
abbrev dec8:=iX KK [.el .bU,.int .i64]
def G8n (n:Nat) (a0:aa) (a1:aJ):Option (aa×Int):=
 Option.bind (Nd a0) fun r1=>
 cond (!r1)
 (some ((⟨0,([]:aB),([]:ay),([]:aA)⟩:aa),1))
 (cond (decide (a0.bM≥1000000))
 (Option.bind (nS a1.Kind 1 6) fun r2=>
 cond (!r2)
 (Option.bind (DE a0) fun r3=>
 some (r3,4))
 (Option.bind (DE a0) fun r4=>
 some (r4,7)))
 (Option.bind (DE a0) fun r5=>
 (fun y=>alt y (y))
 (Option.bind (G28 r5 a1) fun r6=>
 (fun y=>alt y (y))
 (cond (r6.2==0)
 (Option.bind (Nd r6.1) fun r7=>
 cond (!r7)
 (cond (2 != 0)
 (Option.bind (DE a0) fun r8=>
 some (r8,2))
 (Option.bind (DE r6.1) fun r9=>
 some (r9,0)))
 (cond (r6.2 != 0)
 (Option.bind (DE a0) fun ib=>
 some (ib,r6.2))
 (Option.bind (DE r6.1) fun rT=>
 some (rT,0))))
 (cond (r6.2 != 0)
 (Option.bind (DE a0) fun s6=>
 some (s6,r6.2))
 (Option.bind (DE r6.1) fun qL=>
 some (qL,0)))))))
theorem t8 (n:Nat) (a0:aa) (a1:aJ):db (X8 n) (F8 n) Try.f8 [.agg [.int .i64 a0.bM,.row .bD a0.af,.row .bX a0.ah,.row .cC a0.ak],.agg [.int .i64 a1.Kind,.str a1.eZ,.int .i64 a1.dN,.bool a1.ff,.int .i64 a1.eF,.int .i64 a1.eW,.int .i64 a1.fg,.int .i64 a1.eX,.int .i64 a1.eY,.int .i64 a1.fU,.int .i64 a1.eE,.int .i64 a1.fb,.int .i64 a1.fe,.int .i64 a1.fm,.str a1.Name,.int .i64 a1.Number,.bool a1.yO]] dec8=G8n n a0 a1:=by
 kernel_rfl
def G8 (a0:aa) (a1:aJ):Option (aa×Int):=G8n fuel a0 a1
def con8:iu C:=kD KK [.el .bU,.el .s8] [.el .bU,.int .i64] G8
theorem c8:cL Try.prog KK 8 con8:=cP (fV ⟨c10,Vk,c27,trivial⟩ trivial ⟨i28 _,trivial⟩:Cons Try.prog (X8 fuel)) (fn:=Try.f8) (F8 fuel) (fun a0 a1=>t8 fuel a0 a1)
def X83:Cx C:=eP [(69,Bi)] [] [] [] 5439488 []
def F83 (n:Nat):Cf:={ N:=n,keep:=[0,1,2,4,5,6,7,8,21,32,34,45,52,65],live:=lk [(0,[1,2,4,5,6,7])] }
abbrev Xf:=iX KK [.el .Bd]
abbrev BG:Type:=Int×Int×Int×Int×Int×Int
section
variable (x0:BA) (x1 x3:Int) (x4:aB) (x5:ay) (x6:aA) (x7 x8 x9 aK aN:Int)
def s83_0:BG→St C:=fun (x2,aP,aX,bf,aS,aO)=>{ env:=[(1,.one (.str x0)),(2,.one (.ptr 5439616 0)),(4,.one (.ptr 5439744 0)),(5,.one (.ptr 5439808 0)),(6,.one (.int .i64 x1)),(7,.one (.int .i64 x2))],aj:=[(5439616,.box .mem [.int .i64 x3,.row .bD x4,.row .bX x5,.row .cC x6]),(5439744,.box .mem [.int .i64 x7,.int .i64 x8,.int .i64 x9,.int .i64 aK,.int .i64 aN]),(5439808,.box .mem [.int .i64 aP,.int .i64 aX,.int .i64 bf,.int .i64 aS,.int .i64 aO])],base:=0 }
end
def w7 (x0:BA) (x1:Int) (x4:aB) (x5:ay) (n:Nat)   (aM:BG→Option (dm)):BG→Option (dm):=fun (x2,aP,aX,bf,aS,aO)=>
 cond (decide (x2<(x5.length:Int)))
 (cond (decide (x1≥0))
 (cond (decide (0≤x2)) (Option.bind x5[x2.toNat]? fun e2=>cond (!decide (e2.aq=x0))
 (aM ((i64.wrap (x2+1),aP,aX,bf,aS,aO)))
 (cond e2.Ending
 (aM ((i64.wrap (x2+1),aP,aX,bf,aS,i64.wrap (aO+1))))
 (cond (e2.State==3)
 (cond (e2.State==4)
 (cond (decide (0≤x1)) (Option.bind x4[x1.toNat]? fun e3=>cond (e2.ax != e3.ax)
 (aM ((i64.wrap (x2+1),i64.wrap (aP+1),i64.wrap (aX+1),i64.wrap (bf+1),i64.wrap (aS+1),aO)))
 (aM ((i64.wrap (x2+1),i64.wrap (aP+1),i64.wrap (aX+1),bf,i64.wrap (aS+1),aO)))) none)
 (cond (decide (0≤x1)) (Option.bind x4[x1.toNat]? fun e4=>cond (e2.ax != e4.ax)
 (aM ((i64.wrap (x2+1),i64.wrap (aP+1),i64.wrap (aX+1),i64.wrap (bf+1),aS,aO)))
 (aM ((i64.wrap (x2+1),i64.wrap (aP+1),i64.wrap (aX+1),bf,aS,aO)))) none))
 (cond (e2.State==4)
 (cond (decide (0≤x1)) (Option.bind x4[x1.toNat]? fun e5=>cond (e2.ax != e5.ax)
 (aM ((i64.wrap (x2+1),i64.wrap (aP+1),aX,i64.wrap (bf+1),i64.wrap (aS+1),aO)))
 (aM ((i64.wrap (x2+1),i64.wrap (aP+1),aX,bf,i64.wrap (aS+1),aO)))) none)
 (cond (decide (0≤x1)) (Option.bind x4[x1.toNat]? fun e6=>cond (e2.ax != e6.ax)
 (aM ((i64.wrap (x2+1),i64.wrap (aP+1),aX,i64.wrap (bf+1),aS,aO)))
 (aM ((i64.wrap (x2+1),i64.wrap (aP+1),aX,bf,aS,aO)))) none))))) none)
 (some ((⟨aP,aX,bf,aS,aO⟩:dm))))
 (some ((⟨aP,aX,bf,aS,aO⟩:dm)))
section
variable (x0:BA) (x1 x3:Int) (x4:aB) (x5:ay) (x6:aA) (x7 x8 x9 aK aN:Int)
def RL (n:Nat)  (x:BG):Option (dm):=iter (fun rec S=>run X83 (F83 n) (aw (av Try.f83) [1,1,1,0,1,0,0]) 0 S (cH rec (bW 0 (bA (run X83 (F83 n) (aw (av Try.f83) [1,1,1,1]) 0) (dM X83 Try.f83 Xf))))) [1,2,4,5,6,7] n (s83_0 x0 x1 x3 x4 x5 x6 x7 x8 x9 aK aN x)
theorem m83_0 (n:Nat)  (x:BG):RL x0 x1 x3 x4 x5 x6 x7 x8 x9 aK aN n  x=bS (w7 x0 x1 x4 x5 n  ) n x:=by
 refine iter_eq _ _ (fun aM x=>?_) n x;obtain ⟨x2,aP,aX,bf,aS,aO⟩:=x
 kernel_rfl
end
def S8 (n:Nat) (a0:aa) (a1:BA):Option (dm):=
 Option.bind (Ta a0 a1) fun r1=>
 bS (w7 a1 r1 a0.af a0.ah n ) n (0,0,0,0,0,0)
theorem t83 (n:Nat) (a0:aa) (a1:BA):db X83 (F83 n) Try.f83 [.agg [.int .i64 a0.bM,.row .bD a0.af,.row .bX a0.ah,.row .cC a0.ak],.one (.str a1)] Xf=S8 n a0 a1:=by
 refine Eq.trans (b:=
  Option.bind (Ta a0 a1) fun r1=>
  RL a1 r1 a0.bM a0.af a0.ah a0.ak 0 0 0 0 0 n   (0,0,0,0,0,0)) (by kernel_rfl) ?_
 simp only [S8,m83_0]
def M7 (a0:aa) (a1:BA):Option (dm):=S8 fuel a0 a1
def KE:iu C:=kD KK [.el .bU,.str] [.el .Bd] M7
theorem c83:cL Try.prog KK 83 KE:=cP (fV ⟨c69,trivial⟩ trivial trivial:Cons Try.prog X83) (fn:=Try.f83) (F83 fuel) (fun a0 a1=>t83 fuel a0 a1)
def X82:Cx C:=eP [(66,KJ),(69,Bi),(83,KE)] [] [] [] 5373952 []
def F82 (n:Nat):Cf:={ N:=n,keep:=[0,1,2,3,6,7,8,22,40],live:=lk [] }
abbrev dec82:=iX KK [.bool]
def Vw (n:Nat) (a0:aa) (a1:BA) (a2:Int):Option (Bool):=
 Option.bind (VH a0 a1 a2) fun r1=>
 cond (decide (r1<0))
 (some (false))
 (cond (decide (0≤r1)) (Option.bind a0.ah[r1.toNat]? fun e2=>cond e2.Ending
 (some (false))
 (Option.bind (Ta a0 a1) fun r3=>
 cond (decide (0≤r3)) (Option.bind a0.af[r3.toNat]? fun e4=>cond (decide (0≤r1)) (Option.bind a0.ah[r1.toNat]? fun e5=>cond (e5.State != 3)
 (some (true))
 (cond e4.bq
 (some (true))
 (Option.bind (M7 a0 a1) fun r6=>
 some (decide ((i64.wrap (r6.qE-1))≥(i64.wrap (e4.Want-e4.Down))))))) none) none)) none)
theorem t82 (n:Nat) (a0:aa) (a1:BA) (a2:Int):db X82 (F82 n) Try.f82 [.agg [.int .i64 a0.bM,.row .bD a0.af,.row .bX a0.ah,.row .cC a0.ak],.one (.str a1),.one (.int .i64 a2)] dec82=Vw n a0 a1 a2:=by
 kernel_rfl
def M8 (a0:aa) (a1:BA) (a2:Int):Option (Bool):=Vw fuel a0 a1 a2
def KF:iu C:=kD KK [.el .bU,.str,.int .i64] [.bool] M8
theorem c82:cL Try.prog KK 82 KF:=cP (fV ⟨c66,c69,c83,trivial⟩ trivial trivial:Cons Try.prog X82) (fn:=Try.f82) (F82 fuel) (fun a0 a1 a2=>t82 fuel a0 a1 a2)
def X81:Cx C:=eP [(26,qB)] [] [] [] 5308416 []
def F81 (n:Nat):Cf:={ N:=n,keep:=[0,1,2,3,13,18,34,63],live:=lk [(0,[1,3])] }
abbrev Xg:=iX KK [.bool]
abbrev GD:Type:=Int
section
variable (x1:BA) (x2 x3 x4 x5:Int) (x6:Bool) (x7:aI) (x8:Bool)
def s81_0:GD→St C:=fun x0=>{ env:=[(1,.one (.ptr 5308480 0)),(3,.one (.int .i64 x0))],aj:=[(5308480,.box .mem [.str x1,.int .i64 x2,.int .i64 x3,.int .i64 x4,.int .i64 x5,.bool x6,.row .fw x7,.bool x8])],base:=0 }
end
def uK (x3 x4 x5:Int) (x6:Bool) (x7:aI) (x8:Bool) (n:Nat)   (aM:GD→Option (Bool)):GD→Option (Bool):=fun x0=>
 cond (decide (x0<(x7.length:Int)))
 (cond (decide (0≤i64.wrap (x0-1))) (Option.bind x7[(i64.wrap (x0-1)).toNat]? fun e2=>cond (decide (0≤x0)) (Option.bind x7[x0.toNat]? fun e3=>cond (decide (e2.Number≥e3.Number))
 (some (false))
 (aM (i64.wrap (x0+1)))) none) none)
 (cond x6
 (Option.bind (nS x4 0 10) fun r4=>
 cond (!r4)
 (some (false))
 (Option.bind (nS x5 0 3) fun r5=>
 cond (!r5)
 (some (false))
 (cond (!x6)
 (cond (x4 != 0)
 (some (false))
 (cond (x5 != 0)
 (some (false))
 (cond (!x8)
 (some (true))
 (cond (x3==0)
 (cond (!x6)
 (some ((x7.length:Int)==0))
 (some (false)))
 (some (false))))))
 (cond (!x8)
 (some (true))
 (cond (x3==0)
 (cond (!x6)
 (some ((x7.length:Int)==0))
 (some (false)))
 (some (false)))))))
 (cond (!x6)
 (cond (x4 != 0)
 (some (false))
 (cond (x5 != 0)
 (some (false))
 (cond (!x8)
 (some (true))
 (cond (x3==0)
 (cond (!x6)
 (some ((x7.length:Int)==0))
 (some (false)))
 (some (false))))))
 (cond (!x8)
 (some (true))
 (cond (x3==0)
 (cond (!x6)
 (some ((x7.length:Int)==0))
 (some (false)))
 (some (false))))))
section
variable (x1:BA) (x2 x3 x4 x5:Int) (x6:Bool) (x7:aI) (x8:Bool)
def RM (n:Nat)  (x:GD):Option (Bool):=iter (fun rec S=>run X81 (F81 n) (aw (av Try.f81) [1,1,0,1,0,0]) 0 S (cH rec (bW 0 (bA (run X81 (F81 n) (aw (av Try.f81) [1,1,1]) 0) (dM X81 Try.f81 Xg))))) [1,3] n (s81_0 x1 x2 x3 x4 x5 x6 x7 x8 x)
theorem m81_0 (n:Nat)  (x:GD):RM x1 x2 x3 x4 x5 x6 x7 x8 n  x=bS (uK x3 x4 x5 x6 x7 x8 n  ) n x:=by
 refine iter_eq _ _ (fun aM x0=>?_) n x
 kernel_rfl
end
def S9 (n:Nat) (a0:au):Option (Bool):=
 Option.bind (nS a0.bK 0 20) fun r1=>
 cond (!r1)
 (some (false))
 (cond (decide ((a0.Ends.length:Int)>200))
 (some (false))
 (bS (uK a0.bK a0.Want a0.bb a0.cM a0.Ends a0.Drop n ) n 1))
theorem t81 (n:Nat) (a0:au):db X81 (F81 n) Try.f81 [.agg [.str a0.aq,.int .i64 a0.Seen,.int .i64 a0.bK,.int .i64 a0.Want,.int .i64 a0.bb,.bool a0.cM,.row .fw a0.Ends,.bool a0.Drop]] Xg=S9 n a0:=by
 refine Eq.trans (b:=
  Option.bind (nS a0.bK 0 20) fun r1=>
  cond (!r1)
  (some (false))
  (cond (decide ((a0.Ends.length:Int)>200))
  (some (false))
  (RM a0.aq a0.Seen a0.bK a0.Want a0.bb a0.cM a0.Ends a0.Drop n   1))) (by kernel_rfl) ?_
 simp only [S9,m81_0]
def G81 (a0:au):Option (Bool):=S9 fuel a0
def Xz:iu C:=kD KK [.el .jq] [.bool] G81
theorem c81:cL Try.prog KK 81 Xz:=cP (fV ⟨Vk,trivial⟩ trivial trivial:Cons Try.prog X81) (fn:=Try.f81) (F81 fuel) (fun a0=>t81 fuel a0)
def I3 (n:Nat):Cf:={ N:=n,keep:=[0,1,2,3,4,5,6,7,8,9,10,11,12,13,14,15,16,17,20,27,33,46,56,62,86,97,110,156,159,188,206,227,232,256,286],live:=lk [(0,[2,3,4,6,7]),(2,[2,3,4,6,8]),(4,[2,3,4,6,9,10,11]),(6,[3,4,6,9,10,13,15]),(8,[3,4,6,9,10,13,15,16,17])] }
def sK (os:cm C) (ls:List (Lf C)) (rs:List (Bool×List (Lf C))):Option (aa×Int):=match os,ls,rs with
 | [(77777777,.ghost)],[],[(true,[.int .i64 wo,.row .bD Hl,.row .bX Hk,.row .cC Hj]),(false,[.int .i64 NU])]=>some ((⟨wo,Hl,Hk,Hj⟩:aa),NU)
 | _,_,_=>none
abbrev BO:Type:=Int
abbrev qH:Type:=Int×ay×Int
abbrev u9:Type:=Int×ay
abbrev ve:Type:=Int
abbrev yW:Type:=Int
section
variable (x0 x1 x2:Int) (x4:BA) (x5 x6 x7 x8:Int) (x9:Bool) (aK:aI) (aN:Bool) (aP:Int) (aX:aB) (bf:ay) (aS:aA) (aO:Int) (aT:aB) (aW:ay) (bh:aA) (bJ:BA) (bG:Int) (bL:Bool) (bZ da cW dE dI dS gz gi gy lW:Int) (mw:BA) (qn qm pQ pP:Int) (pO:Bool) (pN:BA)
def s42_4:BO→St C:=fun x3=>{ env:=[(3,.one (.ptr 2752704 0)),(4,.one (.ptr 2752768 0)),(6,.one (.int .i64 x0)),(9,.one (.ptr 2753088 0)),(10,.one (.int .i64 x1)),(13,.one (.ptr 2753344 0)),(15,.one (.int .i64 x2)),(16,.one (.ptr 2753536 0)),(17,.one (.int .i64 x3)),(90000,.frame),(90001,.bz (true,[]) 0)],aj:=[(2752704,.box .mem [.str x4,.int .i64 x5,.int .i64 x6,.int .i64 x7,.int .i64 x8,.bool x9,.row .fw aK,.bool aN]),(2752768,.box .mem [.int .i64 aP,.ref 276276801 [],.ref 276276802 [],.ref 276276803 []]),(276276801,.row .bD aX false),(276276802,.row .bX bf false),(276276803,.row .cC aS false),(2753088,.box .mem [.int .i64 aO,.ref 276308801 [],.ref 276308802 [],.ref 276308803 []]),(276308801,.row .bD aT false),(276308802,.row .bX aW false),(276308803,.row .cC bh false),(2753344,.box .mem [.str bJ,.int .i64 bG,.bool bL,.int .i64 bZ,.int .i64 da,.int .i64 cW,.int .i64 dE,.int .i64 dI,.int .i64 dS,.int .i64 gz,.int .i64 gi,.int .i64 gy,.int .i64 lW]),(2753536,.box .mem [.str mw,.int .i64 qn,.int .i64 qm,.int .i64 pQ,.int .i64 pP,.bool pO,.str pN]),(77777777,.ghost)],base:=0 }
end
def JA (x2:Int) (aW:ay) (dI:Int) (mw:BA) (qn qm pQ pP:Int) (pO:Bool) (pN:BA) (n:Nat) (rc:(Int)→(aB)→(ay)→(aA)→(BA)→(Int)→(Int)→(Int)→(Int)→(Bool)→(aI)→(Bool)→Option (aa×Int)) (dz:qH→Option (aa×Int)) (qp:BO→Option (aa×Int)):BO→Option (aa×Int):=fun x3=>
 cond (decide (x3<(aW.length:Int)))
 (cond (decide (0≤x3)) (cond (decide (x3<(aW.length:Int))) (Option.bind aW[x3.toNat]? fun DB=>Option.bind (G32 DB (⟨mw,qn,qm,pQ,pP,pO,pN⟩:ai)) fun dx=>
 cond dx
 (qp (i64.wrap (x3+1)))
 (cond (decide ((0:Int)≤0)) (cond (decide ((0:Int)≤x3)) (cond (decide (x3≤(aW.length:Int))) (cond (decide (((([]:ay)).length+((aW.take x3.toNat).drop ((0:Int).toNat)).length)*72≤140737488355328)) (cond (decide ((((([]:ay))++((aW.take x3.toNat).drop ((0:Int).toNat))).length+(([(⟨mw,qn,qm,pQ,pP,pO,pN⟩:ai)]:ay)).length)*72≤140737488355328)) (cond (decide ((0:Int)≤x3)) (cond (decide ((x3:Int)≤(aW.length:Int))) (cond (decide ((aW.length:Int)≤(aW.length:Int))) (cond (decide (((((([]:ay))++((aW.take x3.toNat).drop ((0:Int).toNat)))++(([(⟨mw,qn,qm,pQ,pP,pO,pN⟩:ai)]:ay))).length+((aW.take ((aW.length:Int).toNat)).drop ((x3:Int).toNat)).length)*72≤140737488355328)) (dz ((i64.wrap (x2+1),(((([]:ay))++((aW.take x3.toNat).drop ((0:Int).toNat)))++(([(⟨mw,qn,qm,pQ,pP,pO,pN⟩:ai)]:ay)))++((aW.take ((aW.length:Int).toNat)).drop ((x3:Int).toNat)),i64.wrap (dI+1)))) none) none) none) none) none) none) none) none) none)) none) none)
 (cond (decide ((0:Int)≤0)) (cond (decide ((0:Int)≤x3)) (cond (decide (x3≤(aW.length:Int))) (cond (decide (((([]:ay)).length+((aW.take x3.toNat).drop ((0:Int).toNat)).length)*72≤140737488355328)) (cond (decide ((((([]:ay))++((aW.take x3.toNat).drop ((0:Int).toNat))).length+(([(⟨mw,qn,qm,pQ,pP,pO,pN⟩:ai)]:ay)).length)*72≤140737488355328)) (cond (decide ((0:Int)≤x3)) (cond (decide ((x3:Int)≤(aW.length:Int))) (cond (decide ((aW.length:Int)≤(aW.length:Int))) (cond (decide (((((([]:ay))++((aW.take x3.toNat).drop ((0:Int).toNat)))++(([(⟨mw,qn,qm,pQ,pP,pO,pN⟩:ai)]:ay))).length+((aW.take ((aW.length:Int).toNat)).drop ((x3:Int).toNat)).length)*72≤140737488355328)) (dz ((i64.wrap (x2+1),(((([]:ay))++((aW.take x3.toNat).drop ((0:Int).toNat)))++(([(⟨mw,qn,qm,pQ,pP,pO,pN⟩:ai)]:ay)))++((aW.take ((aW.length:Int).toNat)).drop ((x3:Int).toNat)),i64.wrap (dI+1)))) none) none) none) none) none) none) none) none) none)
section
variable (x0 x1:Int) (x3:BA) (x4 x5 x6 x7:Int) (x8:Bool) (x9:aI) (aK:Bool) (aN:Int) (aP:aB) (aX:ay) (bf:aA) (aS:Int) (aO:aB) (aW:aA) (bh:BA) (bJ:Int) (bG:Bool) (bL bZ da cW dI dS gz gi gy:Int)
def OB:qH→St C:=fun (x2,aT,dE)=>{ env:=[(3,.one (.ptr 2752704 0)),(4,.one (.ptr 2752768 0)),(6,.one (.int .i64 x0)),(9,.one (.ptr 2753088 0)),(10,.one (.int .i64 x1)),(13,.one (.ptr 2753344 0)),(15,.one (.int .i64 x2)),(90000,.frame),(90001,.bz (true,[]) 0)],aj:=[(2752704,.box .mem [.str x3,.int .i64 x4,.int .i64 x5,.int .i64 x6,.int .i64 x7,.bool x8,.row .fw x9,.bool aK]),(2752768,.box .mem [.int .i64 aN,.ref 276276801 [],.ref 276276802 [],.ref 276276803 []]),(276276801,.row .bD aP false),(276276802,.row .bX aX false),(276276803,.row .cC bf false),(2753088,.box .mem [.int .i64 aS,.ref 276308801 [],.ref 276308802 [],.ref 276308803 []]),(276308801,.row .bD aO false),(276308802,.row .bX aT false),(276308803,.row .cC aW false),(2753344,.box .mem [.str bh,.int .i64 bJ,.bool bG,.int .i64 bL,.int .i64 bZ,.int .i64 da,.int .i64 cW,.int .i64 dE,.int .i64 dI,.int .i64 dS,.int .i64 gz,.int .i64 gi,.int .i64 gy]),(77777777,.ghost)],base:=0 }
end
def Ru (x0 x1 x5:Int) (aK:Bool) (aO:aB) (aW:aA) (bh:BA) (bG:Bool) (bL bZ da cW dI dS gz gi gy:Int) (n:Nat) (rc:(Int)→(aB)→(ay)→(aA)→(BA)→(Int)→(Int)→(Int)→(Int)→(Bool)→(aI)→(Bool)→Option (aa×Int))  (dz:qH→Option (aa×Int)) (l4:(Int)→(ay)→(Int)→(Int)→(BA)→BO→Option (aa×Int)):qH→Option (aa×Int):=fun (x2,aT,dE)=>
 cond (decide (x2<x5))
 (l4 x2 aT dE dE (⟨#[]⟩:BA) 0)
 (cond (decide (0≤x0)) (cond (decide (x0<(aO.length:Int))) (Option.bind aO[x0.toNat]? fun e23=>cond aK
 (cond (decide ((0:Int)≤0)) (cond (decide ((0:Int)≤x0)) (cond (decide (x0≤((aO.set x0.toNat (⟨bh,x1,bG,bL,bZ,da,cW,dE,dI,dS,gz,gi,gy⟩:ae)).length:Int))) (cond (decide (((([]:aB)).length+(((aO.set x0.toNat (⟨bh,x1,bG,bL,bZ,da,cW,dE,dI,dS,gz,gi,gy⟩:ae)).take x0.toNat).drop ((0:Int).toNat)).length)*112≤140737488355328)) (cond (decide ((0:Int)≤i64.wrap (x0+1))) (cond (decide ((i64.wrap (x0+1):Int)≤((aO.set x0.toNat (⟨bh,x1,bG,bL,bZ,da,cW,dE,dI,dS,gz,gi,gy⟩:ae)).length:Int))) (cond (decide (((aO.set x0.toNat (⟨bh,x1,bG,bL,bZ,da,cW,dE,dI,dS,gz,gi,gy⟩:ae)).length:Int)≤((aO.set x0.toNat (⟨bh,x1,bG,bL,bZ,da,cW,dE,dI,dS,gz,gi,gy⟩:ae)).length:Int))) (cond (decide ((((([]:aB))++(((aO.set x0.toNat (⟨bh,x1,bG,bL,bZ,da,cW,dE,dI,dS,gz,gi,gy⟩:ae)).take x0.toNat).drop ((0:Int).toNat))).length+(((aO.set x0.toNat (⟨bh,x1,bG,bL,bZ,da,cW,dE,dI,dS,gz,gi,gy⟩:ae)).take ((((aO.set x0.toNat (⟨bh,x1,bG,bL,bZ,da,cW,dE,dI,dS,gz,gi,gy⟩:ae)).length:Int)).toNat)).drop ((i64.wrap (x0+1):Int).toNat)).length)*112≤140737488355328)) (some ((⟨x1,((([]:aB))++(((aO.set x0.toNat (⟨bh,x1,bG,bL,bZ,da,cW,dE,dI,dS,gz,gi,gy⟩:ae)).take x0.toNat).drop ((0:Int).toNat)))++(((aO.set x0.toNat (⟨bh,x1,bG,bL,bZ,da,cW,dE,dI,dS,gz,gi,gy⟩:ae)).take ((((aO.set x0.toNat (⟨bh,x1,bG,bL,bZ,da,cW,dE,dI,dS,gz,gi,gy⟩:ae)).length:Int)).toNat)).drop ((i64.wrap (x0+1):Int).toNat)),aT,aW⟩:aa),0)) none) none) none) none) none) none) none) none)
 (some ((⟨x1,aO.set x0.toNat (⟨bh,x1,bG,bL,bZ,da,cW,dE,dI,dS,gz,gi,gy⟩:ae),aT,aW⟩:aa),0))) none) none)
def Ev (x0 x1:Int) (x3:BA) (x5:Int) (aK:Bool) (aO:aB) (aW:aA) (bh:BA) (bG:Bool) (bL bZ da cW dI dS gz gi gy:Int) (n:Nat) (rc:(Int)→(aB)→(ay)→(aA)→(BA)→(Int)→(Int)→(Int)→(Int)→(Bool)→(aI)→(Bool)→Option (aa×Int))  (dz:qH→Option (aa×Int)):qH→Option (aa×Int):=Ru x0 x1 x5 aK aO aW bh bG bL bZ da cW dI dS gz gi gy n rc  dz (fun y2 Ja GZ TD y38 z=>bS (JA y2 Ja GZ x3 TD x1 bL 1 false y38 n rc dz) n z)
section
variable (x0 x1 x3:Int) (x4:aB) (x5:ay) (x6:aA) (x7:BA) (x8 x9 aK aN:Int) (aP:Bool) (aX:aI) (bf:Bool) (aS:Int) (aO:aB) (aT:ay) (aW:aA) (bh:Int) (bJ:aB) (bL:aA)
def Wf:u9→St C:=fun (x2,bG)=>{ env:=[(2,.one (.ptr 2752640 0)),(3,.one (.ptr 2752704 0)),(4,.one (.ptr 2752768 0)),(6,.one (.int .i64 x0)),(9,.one (.ptr 2753088 0)),(10,.one (.int .i64 x1)),(11,.one (.int .i64 x2)),(90000,.frame),(90001,.bz (true,[]) 0)],aj:=[(2752640,.box .mem [.int .i64 x3,.row .bD x4,.row .bX x5,.row .cC x6]),(2752704,.box .mem [.str x7,.int .i64 x8,.int .i64 x9,.int .i64 aK,.int .i64 aN,.bool aP,.row .fw aX,.bool bf]),(2752768,.box .mem [.int .i64 aS,.ref 276276801 [],.ref 276276802 [],.ref 276276803 []]),(276276801,.row .bD aO false),(276276802,.row .bX aT false),(276276803,.row .cC aW false),(2753088,.box .mem [.int .i64 bh,.ref 276308801 [],.ref 276308802 [],.ref 276308803 []]),(276308801,.row .bD bJ false),(276308802,.row .bX bG false),(276308803,.row .cC bL false),(77777777,.ghost)],base:=0 }
end
def Rv (x0 x1 x3:Int) (x4:aB) (x5:ay) (x6:aA) (x7:BA) (x9 aK aN:Int) (aP:Bool) (aX:aI) (bf:Bool) (bh:Int) (bJ:aB) (bL:aA) (n:Nat) (rc:(Int)→(aB)→(ay)→(aA)→(BA)→(Int)→(Int)→(Int)→(Int)→(Bool)→(aI)→(Bool)→Option (aa×Int))  (dD:u9→Option (aa×Int)) (l3:(BA)→(Int)→(Bool)→(Int)→(Int)→(Int)→(Int)→(Int)→(Int)→(Int)→(Int)→(Int)→qH→Option (aa×Int)):u9→Option (aa×Int):=fun (x2,bG)=>
 cond (decide (x2<(aX.length:Int)))
 (cond (decide (0≤x2)) (Option.bind aX[x2.toNat]? fun IC=>Option.bind (M8 (⟨bh,bJ,bG,bL⟩:aa) x7 IC.Number) fun s6=>
 cond (!s6)
 (some ((⟨x3,x4,x5,x6⟩:aa),5))
 (cond (decide (0≤x2)) (Option.bind aX[x2.toNat]? fun FJ=>Option.bind (VH (⟨bh,bJ,bG,bL⟩:aa) x7 FJ.Number) fun gM=>
 cond (decide (0≤gM)) (cond (decide (gM<(bG.length:Int))) (Option.bind bG[gM.toNat]? fun qd=>cond (decide (0≤gM)) (cond (decide (gM<((bG.set gM.toNat (⟨qd.aq,qd.Number,qd.Version,qd.ax,qd.State,true,qd.bE⟩:ai)).length:Int))) (Option.bind (bG.set gM.toNat (⟨qd.aq,qd.Number,qd.Version,qd.ax,qd.State,true,qd.bE⟩:ai))[gM.toNat]? fun gb=>dD ((i64.wrap (x2+1),(bG.set gM.toNat (⟨qd.aq,qd.Number,qd.Version,qd.ax,qd.State,true,qd.bE⟩:ai)).set gM.toNat (⟨gb.aq,gb.Number,x1,gb.ax,gb.State,gb.Ending,gb.bE⟩:ai)))) none) none) none) none) none)) none)
 (cond (decide (0≤x0)) (cond (decide (x0<(bJ.length:Int))) (Option.bind bJ[x0.toNat]? fun bQ=>Option.bind (M7 (⟨x3,x4,x5,x6⟩:aa) x7) fun Dy=>
 cond bf
 (cond (!bQ.bq)
 (some ((⟨x3,x4,x5,x6⟩:aa),6))
 (cond (decide ((i64.wrap (Dy.Live+Dy.Ending))>0))
 (some ((⟨x3,x4,x5,x6⟩:aa),6))
 (cond aP
 (cond (decide (x9>0))
 (cond bQ.bq
 (some ((⟨x3,x4,x5,x6⟩:aa),6))
 (Option.bind (M7 (⟨bh,bJ,bG,bL⟩:aa) x7) fun zl=>
 cond (decide ((i64.wrap (zl.Live+x9))>(i64.wrap (aK+bQ.bg))))
 (some ((⟨x3,x4,x5,x6⟩:aa),6))
 (cond aP
 (cond (bQ.bY==0)
 (some ((⟨x3,x4,x5,x6⟩:aa),6))
 (Option.bind (nS aK bQ.aD bQ.aU) fun kH=>
 cond (!kH)
 (some ((⟨x3,x4,x5,x6⟩:aa),6))
 (cond (decide ((i64.wrap ((x5.length:Int)+x9))>200))
 (some ((⟨x3,x4,x5,x6⟩:aa),7))
 (cond (decide ((i64.wrap (bQ.Next+x9))>1000000))
 (some ((⟨x3,x4,x5,x6⟩:aa),7))
 (cond (decide (x3≥1000000))
 (some ((⟨x3,x4,x5,x6⟩:aa),7))
 (l3 bQ.Name bQ.Version bQ.bq bQ.ax aK bQ.Down bQ.bg bQ.bY bQ.aD bQ.aU bQ.bF aN (0,bG,bQ.Next)))))))
 (cond (decide ((i64.wrap ((x5.length:Int)+x9))>200))
 (some ((⟨x3,x4,x5,x6⟩:aa),7))
 (cond (decide ((i64.wrap (bQ.Next+x9))>1000000))
 (some ((⟨x3,x4,x5,x6⟩:aa),7))
 (cond (decide (x3≥1000000))
 (some ((⟨x3,x4,x5,x6⟩:aa),7))
 (l3 bQ.Name bQ.Version bQ.bq bQ.ax aK bQ.Down bQ.bg bQ.bY bQ.aD bQ.aU bQ.bF aN (0,bG,bQ.Next))))))))
 (cond aP
 (cond (bQ.bY==0)
 (some ((⟨x3,x4,x5,x6⟩:aa),6))
 (Option.bind (nS aK bQ.aD bQ.aU) fun jX=>
 cond (!jX)
 (some ((⟨x3,x4,x5,x6⟩:aa),6))
 (cond (decide ((i64.wrap ((x5.length:Int)+x9))>200))
 (some ((⟨x3,x4,x5,x6⟩:aa),7))
 (cond (decide ((i64.wrap (bQ.Next+x9))>1000000))
 (some ((⟨x3,x4,x5,x6⟩:aa),7))
 (cond (decide (x3≥1000000))
 (some ((⟨x3,x4,x5,x6⟩:aa),7))
 (l3 bQ.Name bQ.Version bQ.bq bQ.ax aK bQ.Down bQ.bg bQ.bY bQ.aD bQ.aU bQ.bF aN (0,bG,bQ.Next)))))))
 (cond (decide ((i64.wrap ((x5.length:Int)+x9))>200))
 (some ((⟨x3,x4,x5,x6⟩:aa),7))
 (cond (decide ((i64.wrap (bQ.Next+x9))>1000000))
 (some ((⟨x3,x4,x5,x6⟩:aa),7))
 (cond (decide (x3≥1000000))
 (some ((⟨x3,x4,x5,x6⟩:aa),7))
 (l3 bQ.Name bQ.Version bQ.bq bQ.ax aK bQ.Down bQ.bg bQ.bY bQ.aD bQ.aU bQ.bF aN (0,bG,bQ.Next)))))))
 (cond (decide (x9>0))
 (cond bQ.bq
 (some ((⟨x3,x4,x5,x6⟩:aa),6))
 (Option.bind (M7 (⟨bh,bJ,bG,bL⟩:aa) x7) fun gY=>
 cond (decide ((i64.wrap (gY.Live+x9))>(i64.wrap (bQ.Want+bQ.bg))))
 (some ((⟨x3,x4,x5,x6⟩:aa),6))
 (cond aP
 (cond (bQ.bY==0)
 (some ((⟨x3,x4,x5,x6⟩:aa),6))
 (Option.bind (nS aK bQ.aD bQ.aU) fun EA=>
 cond (!EA)
 (some ((⟨x3,x4,x5,x6⟩:aa),6))
 (cond (decide ((i64.wrap ((x5.length:Int)+x9))>200))
 (some ((⟨x3,x4,x5,x6⟩:aa),7))
 (cond (decide ((i64.wrap (bQ.Next+x9))>1000000))
 (some ((⟨x3,x4,x5,x6⟩:aa),7))
 (cond (decide (x3≥1000000))
 (some ((⟨x3,x4,x5,x6⟩:aa),7))
 (l3 bQ.Name bQ.Version bQ.bq bQ.ax bQ.Want bQ.Down bQ.bg bQ.bY bQ.aD bQ.aU bQ.bF bQ.bb (0,bG,bQ.Next)))))))
 (cond (decide ((i64.wrap ((x5.length:Int)+x9))>200))
 (some ((⟨x3,x4,x5,x6⟩:aa),7))
 (cond (decide ((i64.wrap (bQ.Next+x9))>1000000))
 (some ((⟨x3,x4,x5,x6⟩:aa),7))
 (cond (decide (x3≥1000000))
 (some ((⟨x3,x4,x5,x6⟩:aa),7))
 (l3 bQ.Name bQ.Version bQ.bq bQ.ax bQ.Want bQ.Down bQ.bg bQ.bY bQ.aD bQ.aU bQ.bF bQ.bb (0,bG,bQ.Next))))))))
 (cond aP
 (cond (bQ.bY==0)
 (some ((⟨x3,x4,x5,x6⟩:aa),6))
 (Option.bind (nS aK bQ.aD bQ.aU) fun vM=>
 cond (!vM)
 (some ((⟨x3,x4,x5,x6⟩:aa),6))
 (cond (decide ((i64.wrap ((x5.length:Int)+x9))>200))
 (some ((⟨x3,x4,x5,x6⟩:aa),7))
 (cond (decide ((i64.wrap (bQ.Next+x9))>1000000))
 (some ((⟨x3,x4,x5,x6⟩:aa),7))
 (cond (decide (x3≥1000000))
 (some ((⟨x3,x4,x5,x6⟩:aa),7))
 (l3 bQ.Name bQ.Version bQ.bq bQ.ax bQ.Want bQ.Down bQ.bg bQ.bY bQ.aD bQ.aU bQ.bF bQ.bb (0,bG,bQ.Next)))))))
 (cond (decide ((i64.wrap ((x5.length:Int)+x9))>200))
 (some ((⟨x3,x4,x5,x6⟩:aa),7))
 (cond (decide ((i64.wrap (bQ.Next+x9))>1000000))
 (some ((⟨x3,x4,x5,x6⟩:aa),7))
 (cond (decide (x3≥1000000))
 (some ((⟨x3,x4,x5,x6⟩:aa),7))
 (l3 bQ.Name bQ.Version bQ.bq bQ.ax bQ.Want bQ.Down bQ.bg bQ.bY bQ.aD bQ.aU bQ.bF bQ.bb (0,bG,bQ.Next))))))))))
 (cond aP
 (cond (decide (x9>0))
 (cond bQ.bq
 (some ((⟨x3,x4,x5,x6⟩:aa),6))
 (Option.bind (M7 (⟨bh,bJ,bG,bL⟩:aa) x7) fun Tk=>
 cond (decide ((i64.wrap (Tk.Live+x9))>(i64.wrap (aK+bQ.bg))))
 (some ((⟨x3,x4,x5,x6⟩:aa),6))
 (cond aP
 (cond (bQ.bY==0)
 (some ((⟨x3,x4,x5,x6⟩:aa),6))
 (Option.bind (nS aK bQ.aD bQ.aU) fun Aa=>
 cond (!Aa)
 (some ((⟨x3,x4,x5,x6⟩:aa),6))
 (cond (decide ((i64.wrap ((x5.length:Int)+x9))>200))
 (some ((⟨x3,x4,x5,x6⟩:aa),7))
 (cond (decide ((i64.wrap (bQ.Next+x9))>1000000))
 (some ((⟨x3,x4,x5,x6⟩:aa),7))
 (cond (decide (x3≥1000000))
 (some ((⟨x3,x4,x5,x6⟩:aa),7))
 (l3 bQ.Name bQ.Version bQ.bq bQ.ax aK bQ.Down bQ.bg bQ.bY bQ.aD bQ.aU bQ.bF aN (0,bG,bQ.Next)))))))
 (cond (decide ((i64.wrap ((x5.length:Int)+x9))>200))
 (some ((⟨x3,x4,x5,x6⟩:aa),7))
 (cond (decide ((i64.wrap (bQ.Next+x9))>1000000))
 (some ((⟨x3,x4,x5,x6⟩:aa),7))
 (cond (decide (x3≥1000000))
 (some ((⟨x3,x4,x5,x6⟩:aa),7))
 (l3 bQ.Name bQ.Version bQ.bq bQ.ax aK bQ.Down bQ.bg bQ.bY bQ.aD bQ.aU bQ.bF aN (0,bG,bQ.Next))))))))
 (cond aP
 (cond (bQ.bY==0)
 (some ((⟨x3,x4,x5,x6⟩:aa),6))
 (Option.bind (nS aK bQ.aD bQ.aU) fun r30=>
 cond (!r30)
 (some ((⟨x3,x4,x5,x6⟩:aa),6))
 (cond (decide ((i64.wrap ((x5.length:Int)+x9))>200))
 (some ((⟨x3,x4,x5,x6⟩:aa),7))
 (cond (decide ((i64.wrap (bQ.Next+x9))>1000000))
 (some ((⟨x3,x4,x5,x6⟩:aa),7))
 (cond (decide (x3≥1000000))
 (some ((⟨x3,x4,x5,x6⟩:aa),7))
 (l3 bQ.Name bQ.Version bQ.bq bQ.ax aK bQ.Down bQ.bg bQ.bY bQ.aD bQ.aU bQ.bF aN (0,bG,bQ.Next)))))))
 (cond (decide ((i64.wrap ((x5.length:Int)+x9))>200))
 (some ((⟨x3,x4,x5,x6⟩:aa),7))
 (cond (decide ((i64.wrap (bQ.Next+x9))>1000000))
 (some ((⟨x3,x4,x5,x6⟩:aa),7))
 (cond (decide (x3≥1000000))
 (some ((⟨x3,x4,x5,x6⟩:aa),7))
 (l3 bQ.Name bQ.Version bQ.bq bQ.ax aK bQ.Down bQ.bg bQ.bY bQ.aD bQ.aU bQ.bF aN (0,bG,bQ.Next)))))))
 (cond (decide (x9>0))
 (cond bQ.bq
 (some ((⟨x3,x4,x5,x6⟩:aa),6))
 (Option.bind (M7 (⟨bh,bJ,bG,bL⟩:aa) x7) fun vL=>
 cond (decide ((i64.wrap (vL.Live+x9))>(i64.wrap (bQ.Want+bQ.bg))))
 (some ((⟨x3,x4,x5,x6⟩:aa),6))
 (cond aP
 (cond (bQ.bY==0)
 (some ((⟨x3,x4,x5,x6⟩:aa),6))
 (Option.bind (nS aK bQ.aD bQ.aU) fun r32=>
 cond (!r32)
 (some ((⟨x3,x4,x5,x6⟩:aa),6))
 (cond (decide ((i64.wrap ((x5.length:Int)+x9))>200))
 (some ((⟨x3,x4,x5,x6⟩:aa),7))
 (cond (decide ((i64.wrap (bQ.Next+x9))>1000000))
 (some ((⟨x3,x4,x5,x6⟩:aa),7))
 (cond (decide (x3≥1000000))
 (some ((⟨x3,x4,x5,x6⟩:aa),7))
 (l3 bQ.Name bQ.Version bQ.bq bQ.ax bQ.Want bQ.Down bQ.bg bQ.bY bQ.aD bQ.aU bQ.bF bQ.bb (0,bG,bQ.Next)))))))
 (cond (decide ((i64.wrap ((x5.length:Int)+x9))>200))
 (some ((⟨x3,x4,x5,x6⟩:aa),7))
 (cond (decide ((i64.wrap (bQ.Next+x9))>1000000))
 (some ((⟨x3,x4,x5,x6⟩:aa),7))
 (cond (decide (x3≥1000000))
 (some ((⟨x3,x4,x5,x6⟩:aa),7))
 (l3 bQ.Name bQ.Version bQ.bq bQ.ax bQ.Want bQ.Down bQ.bg bQ.bY bQ.aD bQ.aU bQ.bF bQ.bb (0,bG,bQ.Next))))))))
 (cond aP
 (cond (bQ.bY==0)
 (some ((⟨x3,x4,x5,x6⟩:aa),6))
 (Option.bind (nS aK bQ.aD bQ.aU) fun Y7=>
 cond (!Y7)
 (some ((⟨x3,x4,x5,x6⟩:aa),6))
 (cond (decide ((i64.wrap ((x5.length:Int)+x9))>200))
 (some ((⟨x3,x4,x5,x6⟩:aa),7))
 (cond (decide ((i64.wrap (bQ.Next+x9))>1000000))
 (some ((⟨x3,x4,x5,x6⟩:aa),7))
 (cond (decide (x3≥1000000))
 (some ((⟨x3,x4,x5,x6⟩:aa),7))
 (l3 bQ.Name bQ.Version bQ.bq bQ.ax bQ.Want bQ.Down bQ.bg bQ.bY bQ.aD bQ.aU bQ.bF bQ.bb (0,bG,bQ.Next)))))))
 (cond (decide ((i64.wrap ((x5.length:Int)+x9))>200))
 (some ((⟨x3,x4,x5,x6⟩:aa),7))
 (cond (decide ((i64.wrap (bQ.Next+x9))>1000000))
 (some ((⟨x3,x4,x5,x6⟩:aa),7))
 (cond (decide (x3≥1000000))
 (some ((⟨x3,x4,x5,x6⟩:aa),7))
 (l3 bQ.Name bQ.Version bQ.bq bQ.ax bQ.Want bQ.Down bQ.bg bQ.bY bQ.aD bQ.aU bQ.bF bQ.bb (0,bG,bQ.Next))))))))) none) none)
def Ew (x0 x1 x3:Int) (x4:aB) (x5:ay) (x6:aA) (x7:BA) (x9 aK aN:Int) (aP:Bool) (aX:aI) (bf:Bool) (bh:Int) (bJ:aB) (bL:aA) (n:Nat) (rc:(Int)→(aB)→(ay)→(aA)→(BA)→(Int)→(Int)→(Int)→(Int)→(Bool)→(aI)→(Bool)→Option (aa×Int))  (dD:u9→Option (aa×Int)):u9→Option (aa×Int):=Rv x0 x1 x3 x4 x5 x6 x7 x9 aK aN aP aX bf bh bJ bL n rc  dD (fun Ja G3 I9 zK G2 zi LA y24 y25 GZ y27 Ni z=>bS (Ev x0 x1 x7 x9 bf bJ bL Ja I9 zK G2 zi LA y24 y25 GZ y27 Ni n rc ) n z)
section
variable (x0 x2:Int) (x3:aB) (x4:ay) (x5:aA) (x6:BA) (x7 x8 x9 aK:Int) (aN:Bool) (aP:aI) (aX:Bool) (bf:Int) (aS:aB) (aO:ay) (aT:aA)
def Wh:ve→St C:=fun x1=>{ env:=[(2,.one (.ptr 2752640 0)),(3,.one (.ptr 2752704 0)),(4,.one (.ptr 2752768 0)),(6,.one (.int .i64 x0)),(8,.one (.int .i64 x1)),(90000,.frame),(90001,.bz (true,[]) 0)],aj:=[(2752640,.box .mem [.int .i64 x2,.row .bD x3,.row .bX x4,.row .cC x5]),(2752704,.box .mem [.str x6,.int .i64 x7,.int .i64 x8,.int .i64 x9,.int .i64 aK,.bool aN,.row .fw aP,.bool aX]),(2752768,.box .mem [.int .i64 bf,.ref 276276801 [],.ref 276276802 [],.ref 276276803 []]),(276276801,.row .bD aS false),(276276802,.row .bX aO false),(276276803,.row .cC aT false),(77777777,.ghost)],base:=0 }
end
def Rw (x2:Int) (x3:aB) (x4:ay) (x5:aA) (x6:BA) (aP:aI) (n:Nat) (rc:(Int)→(aB)→(ay)→(aA)→(BA)→(Int)→(Int)→(Int)→(Int)→(Bool)→(aI)→(Bool)→Option (aa×Int))  (dg:ve→Option (aa×Int)) (l2:(Int)→(Int)→(aB)→(aA)→u9→Option (aa×Int)):ve→Option (aa×Int):=fun x1=>
 cond (decide (x1<(aP.length:Int)))
 (cond (decide (0≤x1)) (Option.bind aP[x1.toNat]? fun e6=>Option.bind (VH (⟨x2,x3,x4,x5⟩:aa) x6 e6.Number) fun r7=>
 cond (decide (0≤r7)) (Option.bind x4[r7.toNat]? fun e8=>cond (decide (0≤x1)) (Option.bind aP[x1.toNat]? fun e9=>cond (e8.Version != e9.Seen)
 (some ((⟨x2,x3,x4,x5⟩:aa),4))
 (dg (i64.wrap (x1+1)))) none) none) none)
 (Option.bind (DE (⟨x2,x3,x4,x5⟩:aa)) fun ib=>
 l2 (i64.wrap (x2+1)) ib.bM ib.af ib.ak (0,ib.ah))
def Ey (x0 x2:Int) (x3:aB) (x4:ay) (x5:aA) (x6:BA) (x8 x9 aK:Int) (aN:Bool) (aP:aI) (aX:Bool) (n:Nat) (rc:(Int)→(aB)→(ay)→(aA)→(BA)→(Int)→(Int)→(Int)→(Int)→(Bool)→(aI)→(Bool)→Option (aa×Int))  (dg:ve→Option (aa×Int)):ve→Option (aa×Int):=Rw x2 x3 x4 x5 x6 aP n rc  dg (fun y1 G3 I9 zK z=>bS (Ew x0 y1 x2 x3 x4 x5 x6 x8 x9 aK aN aP aX G3 I9 zK n rc ) n z)
section
variable (x0 x2:Int) (x3:aB) (x4:ay) (x5:aA) (x6:BA) (x7 x8 x9 aK:Int) (aN:Bool) (aP:aI) (aX:Bool) (bf:Int) (aS:aB) (aO:ay) (aT:aA)
def Wi:yW→St C:=fun x1=>{ env:=[(2,.one (.ptr 2752640 0)),(3,.one (.ptr 2752704 0)),(4,.one (.ptr 2752768 0)),(6,.one (.int .i64 x0)),(7,.one (.int .i64 x1)),(90000,.frame),(90001,.bz (true,[]) 0)],aj:=[(2752640,.box .mem [.int .i64 x2,.row .bD x3,.row .bX x4,.row .cC x5]),(2752704,.box .mem [.str x6,.int .i64 x7,.int .i64 x8,.int .i64 x9,.int .i64 aK,.bool aN,.row .fw aP,.bool aX]),(2752768,.box .mem [.int .i64 bf,.ref 276276801 [],.ref 276276802 [],.ref 276276803 []]),(276276801,.row .bD aS false),(276276802,.row .bX aO false),(276276803,.row .cC aT false),(77777777,.ghost)],base:=0 }
end
def Rx (x0 x2:Int) (x3:aB) (x4:ay) (x5:aA) (x6:BA) (x7:Int) (aP:aI) (n:Nat) (rc:(Int)→(aB)→(ay)→(aA)→(BA)→(Int)→(Int)→(Int)→(Int)→(Bool)→(aI)→(Bool)→Option (aa×Int))  (aM:yW→Option (aa×Int)) (l1:ve→Option (aa×Int)):yW→Option (aa×Int):=fun x1=>
 cond (decide (x1<(aP.length:Int)))
 (cond (decide (0≤x1)) (Option.bind aP[x1.toNat]? fun e3=>Option.bind (VH (⟨x2,x3,x4,x5⟩:aa) x6 e3.Number) fun r4=>
 cond (decide (r4<0))
 (some ((⟨x2,x3,x4,x5⟩:aa),3))
 (aM (i64.wrap (x1+1)))) none)
 (cond (decide (0≤x0)) (Option.bind x3[x0.toNat]? fun e5=>cond (e5.Version != x7)
 (some ((⟨x2,x3,x4,x5⟩:aa),4))
 (l1 0)) none)
def JB (x0 x2:Int) (x3:aB) (x4:ay) (x5:aA) (x6:BA) (x7 x8 x9 aK:Int) (aN:Bool) (aP:aI) (aX:Bool) (n:Nat) (rc:(Int)→(aB)→(ay)→(aA)→(BA)→(Int)→(Int)→(Int)→(Int)→(Bool)→(aI)→(Bool)→Option (aa×Int))  (aM:yW→Option (aa×Int)):yW→Option (aa×Int):=Rx x0 x2 x3 x4 x5 x6 x7 aP n rc  aM (fun z=>bS (Ey x0 x2 x3 x4 x5 x6 x8 x9 aK aN aP aX n rc ) n z)
def B42 (n:Nat) (rc:(Int)→(aB)→(ay)→(aA)→(BA)→(Int)→(Int)→(Int)→(Int)→(Bool)→(aI)→(Bool)→Option (aa×Int)) (a0:Int) (a1:aB) (a2:ay) (a3:aA) (a4:BA) (a5 a6 a7 a8:Int) (a9:Bool) (Gc:aI) (Dh:Bool):Option (aa×Int):=
 Option.bind (G81 (⟨a4,a5,a6,a7,a8,a9,Gc,Dh⟩:au)) fun r1=>
 cond (!r1)
 (some ((⟨a0,a1,a2,a3⟩:aa),2))
 (Option.bind (Ta (⟨a0,a1,a2,a3⟩:aa) a4) fun r2=>
 cond (decide (r2<0))
 (some ((⟨a0,a1,a2,a3⟩:aa),3))
 (bS (JB r2 a0 a1 a2 a3 a4 a5 a6 a7 a8 a9 Gc Dh n rc ) n 0))
def oz (n:Nat):Nat→(Int)→(aB)→(ay)→(aA)→(BA)→(Int)→(Int)→(Int)→(Int)→(Bool)→(aI)→(Bool)→Option (aa×Int)
 | 0=>fun _ _ _ _ _ _ _ _ _ _ _ _=>none
 | d+1=>B42 n (oz n d)
def DQ (n d:Nat):iR C:={ ids:=[],roots:=[],eU:=[],R0:=aa×Int,out:=fun r=>[],ret:=fun r=>[(true,[.int .i64 r.1.bM,.row .bD r.1.af,.row .bX r.1.ah,.row .cC r.1.ak]),(false,[.int .i64 r.2])],g:=fun vs O=>match vs,O with
 | [.agg [.int .i64 y0,.row .bD y1,.row .bX y2,.row .cC y3],.agg [.str y4,.int .i64 y5,.int .i64 y6,.int .i64 y7,.int .i64 y8,.bool y9,.row .fw wy,.bool G4]],[]=>oz n d y0 y1 y2 y3 y4 y5 y6 y7 y8 y9 wy G4
 | _,_=>none }
def zC (n d:Nat):Cx C:=eP [(26,qB),(27,Bj),(32,QP),(66,KJ),(69,Bi),(81,Xz),(82,KF),(83,KE)] [] [(42,de (DQ n d))] [] 2752512 [263,271,291,297]
section
variable (x0 x1 x2:Int) (x4:BA) (x5 x6 x7 x8:Int) (x9:Bool) (aK:aI) (aN:Bool) (aP:Int) (aX:aB) (bf:ay) (aS:aA) (aO:Int) (aT:aB) (aW:ay) (bh:aA) (bJ:BA) (bG:Int) (bL:Bool) (bZ da cW dE dI dS gz gi gy lW:Int) (mw:BA) (qn qm pQ pP:Int) (pO:Bool) (pN:BA)
def Si (n d:Nat) (dz:St C→Option (aa×Int)) (x:BO):Option (aa×Int):=iter (fun rec S=>run (zC n d) (I3 n) (aw (av Try.f42) [1,1,1,1,1,1,1,1,1,1,1,1,1,1,1,1,1,0,1,0,0,1,0,0,1,1,0,0,0]) 8 S (cH rec (bW 8 (bA (run (zC n d) (I3 n) (aw (av Try.f42) [1,1,1,1,1,1,1,1,1,1,1,1,1,1,1,1,1,0,1,0,0,1,0,0,1,1,1]) 7) (bW 7 (bA (run (zC n d) (I3 n) (aw (av Try.f42) [1,1,1,1,1,1,1,1,1,1,1,1,1,1,1,1,1,0,1,0,0,1,1]) 6) (cH (fR [3,4,6,9,10,13,15] dz) (bW 6 (bA (run (zC n d) (I3 n) (aw (av Try.f42) [1,1,1,1,1,1,1,1,1,1,1,1,1,1,1,1,1,1]) 0) (j8 (zC n d) Try.f42 sK)))))))))) [3,4,6,9,10,13,15,16,17] n (s42_4 x0 x1 x2 x4 x5 x6 x7 x8 x9 aK aN aP aX bf aS aO aT aW bh bJ bG bL bZ da cW dE dI dS gz gi gy lW mw qn qm pQ pP pO pN x)
theorem m42_4 (n d:Nat) (dz:St C→Option (aa×Int)) (x:BO):Si x0 x1 x2 x4 x5 x6 x7 x8 x9 aK aN aP aX bf aS aO aT aW bh bJ bG bL bZ da cW dE dI dS gz gi gy lW mw qn qm pQ pP pO pN n d dz x=bS (JA x2 aW dI mw qn qm pQ pP pO pN n (oz n d) (fun x=>dz (OB x0 x1 x4 x5 x6 x7 x8 x9 aK aN aP aX bf aS aO aT bh bJ bG bL bZ da cW dE dS gz gi gy lW x))) n x:=by
 refine iter_eq _ _ (fun qp x3=>?_) n x
 kernel_rfl
end
section
variable (x0 x1:Int) (x3:BA) (x4 x5 x6 x7:Int) (x8:Bool) (x9:aI) (aK:Bool) (aN:Int) (aP:aB) (aX:ay) (bf:aA) (aS:Int) (aO:aB) (aW:aA) (bh:BA) (bJ:Int) (bG:Bool) (bL bZ da cW dI dS gz gi gy:Int)
def Sj (n d:Nat)  (x:qH):Option (aa×Int):=iter (fun rec S=>run (zC n d) (I3 n) (aw (av Try.f42) [1,1,1,1,1,1,1,1,1,1,1,1,1,1,1,1,1,0,1,0,0]) 6 S (cH rec (bW 6 (bA (run (zC n d) (I3 n) (aw (av Try.f42) [1,1,1,1,1,1,1,1,1,1,1,1,1,1,1,1,1,1]) 0) (j8 (zC n d) Try.f42 sK))))) [3,4,6,9,10,13,15] n (OB x0 x1 x3 x4 x5 x6 x7 x8 x9 aK aN aP aX bf aS aO aW bh bJ bG bL bZ da cW dI dS gz gi gy x)
theorem m42_3 (n d:Nat)  (x:qH):Sj x0 x1 x3 x4 x5 x6 x7 x8 x9 aK aN aP aX bf aS aO aW bh bJ bG bL bZ da cW dI dS gz gi gy n d  x=bS (Ev x0 x1 x3 x5 aK aO aW bh bG bL bZ da cW dI dS gz gi gy n (oz n d) ) n x:=by
 refine iter_eq _ _ (fun dz x=>?_) n x;obtain ⟨x2,aT,dE⟩:=x;refine Eq.trans (b:=Ru x0 x1 x5 aK aO aW bh bG bL bZ da cW dI dS gz gi gy n (oz n d)  (fun x=>dz (OB x0 x1 x3 x4 x5 x6 x7 x8 x9 aK aN aP aX bf aS aO aW bh bJ bG bL bZ da cW dI dS gz gi gy x)) (fun y2 Ja GZ TD y38 z=>Si x0 x1 y2 x3 x4 x5 x6 x7 x8 x9 aK aN aP aX bf aS aO Ja aW bh bJ bG bL bZ da cW GZ dI dS gz gi gy x3 TD x1 bL 1 false y38 n d dz z) (x2,aT,dE)) (by kernel_rfl) ?_;simp only [Ev,m42_4]
end
section
variable (x0 x1 x3:Int) (x4:aB) (x5:ay) (x6:aA) (x7:BA) (x8 x9 aK aN:Int) (aP:Bool) (aX:aI) (bf:Bool) (aS:Int) (aO:aB) (aT:ay) (aW:aA) (bh:Int) (bJ:aB) (bL:aA)
def Sk (n d:Nat)  (x:u9):Option (aa×Int):=iter (fun rec S=>run (zC n d) (I3 n) (aw (av Try.f42) [1,1,1,1,1,1,1,1,1,0,1,0,0]) 4 S (cH rec (bW 4 (bA (run (zC n d) (I3 n) (aw (av Try.f42) [1,1,1,1,1,1,1,1,1,1]) 0) (j8 (zC n d) Try.f42 sK))))) [2,3,4,6,9,10,11] n (Wf x0 x1 x3 x4 x5 x6 x7 x8 x9 aK aN aP aX bf aS aO aT aW bh bJ bL x)
theorem m42_2 (n d:Nat)  (x:u9):Sk x0 x1 x3 x4 x5 x6 x7 x8 x9 aK aN aP aX bf aS aO aT aW bh bJ bL n d  x=bS (Ew x0 x1 x3 x4 x5 x6 x7 x9 aK aN aP aX bf bh bJ bL n (oz n d) ) n x:=by
 refine iter_eq _ _ (fun dD x=>?_) n x;obtain ⟨x2,bG⟩:=x;refine Eq.trans (b:=Rv x0 x1 x3 x4 x5 x6 x7 x9 aK aN aP aX bf bh bJ bL n (oz n d)  (fun x=>dD (Wf x0 x1 x3 x4 x5 x6 x7 x8 x9 aK aN aP aX bf aS aO aT aW bh bJ bL x)) (fun Ja G3 I9 zK G2 zi LA y24 y25 GZ y27 Ni z=>Sj x0 x1 x7 x8 x9 aK aN aP aX bf aS aO aT aW bh bJ bL Ja G3 I9 zK G2 zi LA y24 y25 GZ y27 Ni n d  z) (x2,bG)) (by kernel_rfl) ?_;simp only [Ew,m42_3]
end
section
variable (x0 x2:Int) (x3:aB) (x4:ay) (x5:aA) (x6:BA) (x7 x8 x9 aK:Int) (aN:Bool) (aP:aI) (aX:Bool) (bf:Int) (aS:aB) (aO:ay) (aT:aA)
def Sl (n d:Nat)  (x:ve):Option (aa×Int):=iter (fun rec S=>run (zC n d) (I3 n) (aw (av Try.f42) [1,1,1,1,1,1,0,1,0,0]) 2 S (cH rec (bW 2 (bA (run (zC n d) (I3 n) (aw (av Try.f42) [1,1,1,1,1,1,1]) 0) (j8 (zC n d) Try.f42 sK))))) [2,3,4,6,8] n (Wh x0 x2 x3 x4 x5 x6 x7 x8 x9 aK aN aP aX bf aS aO aT x)
theorem m42_1 (n d:Nat)  (x:ve):Sl x0 x2 x3 x4 x5 x6 x7 x8 x9 aK aN aP aX bf aS aO aT n d  x=bS (Ey x0 x2 x3 x4 x5 x6 x8 x9 aK aN aP aX n (oz n d) ) n x:=by
 refine iter_eq _ _ (fun dg x1=>?_) n x;refine Eq.trans (b:=Rw x2 x3 x4 x5 x6 aP n (oz n d)  (fun x=>dg (Wh x0 x2 x3 x4 x5 x6 x7 x8 x9 aK aN aP aX bf aS aO aT x)) (fun y1 G3 I9 zK z=>Sk x0 y1 x2 x3 x4 x5 x6 x7 x8 x9 aK aN aP aX bf aS aO aT G3 I9 zK n d  z) x1) (by kernel_rfl) ?_;simp only [Ey,m42_2]
end
section
variable (x0 x2:Int) (x3:aB) (x4:ay) (x5:aA) (x6:BA) (x7 x8 x9 aK:Int) (aN:Bool) (aP:aI) (aX:Bool) (bf:Int) (aS:aB) (aO:ay) (aT:aA)
def Sn (n d:Nat)  (x:yW):Option (aa×Int):=iter (fun rec S=>run (zC n d) (I3 n) (aw (av Try.f42) [1,1,1,1,0,1,0,0]) 0 S (cH rec (bW 0 (bA (run (zC n d) (I3 n) (aw (av Try.f42) [1,1,1,1,1]) 0) (j8 (zC n d) Try.f42 sK))))) [2,3,4,6,7] n (Wi x0 x2 x3 x4 x5 x6 x7 x8 x9 aK aN aP aX bf aS aO aT x)
theorem m42_0 (n d:Nat)  (x:yW):Sn x0 x2 x3 x4 x5 x6 x7 x8 x9 aK aN aP aX bf aS aO aT n d  x=bS (JB x0 x2 x3 x4 x5 x6 x7 x8 x9 aK aN aP aX n (oz n d) ) n x:=by
 refine iter_eq _ _ (fun aM x1=>?_) n x;refine Eq.trans (b:=Rx x0 x2 x3 x4 x5 x6 x7 aP n (oz n d)  (fun x=>aM (Wi x0 x2 x3 x4 x5 x6 x7 x8 x9 aK aN aP aX bf aS aO aT x)) (fun z=>Sl x0 x2 x3 x4 x5 x6 x7 x8 x9 aK aN aP aX bf aS aO aT n d  z) x1) (by kernel_rfl) ?_;simp only [JB,m42_1]
end
theorem t42 (n d:Nat) (a0:Int) (a1:aB) (a2:ay) (a3:aA) (a4:BA) (a5 a6 a7 a8:Int) (a9:Bool) (Gc:aI) (Dh:Bool):gF (zC n d) (I3 n) Try.f42 (DQ n (d+1)) [.agg [.int .i64 a0,.row .bD a1,.row .bX a2,.row .cC a3],.agg [.str a4,.int .i64 a5,.int .i64 a6,.int .i64 a7,.int .i64 a8,.bool a9,.row .fw Gc,.bool Dh]] [] sK=B42 n (oz n d) a0 a1 a2 a3 a4 a5 a6 a7 a8 a9 Gc Dh:=by
 have h:gF (zC n d) (I3 n) Try.f42 (DQ n (d+1)) [.agg [.int .i64 a0,.row .bD a1,.row .bX a2,.row .cC a3],.agg [.str a4,.int .i64 a5,.int .i64 a6,.int .i64 a7,.int .i64 a8,.bool a9,.row .fw Gc,.bool Dh]] [] sK =
  Option.bind (G81 (⟨a4,a5,a6,a7,a8,a9,Gc,Dh⟩:au)) fun r1=>
  cond (!r1)
  (some ((⟨a0,a1,a2,a3⟩:aa),2))
  (Option.bind (Ta (⟨a0,a1,a2,a3⟩:aa) a4) fun r2=>
  cond (decide (r2<0))
  (some ((⟨a0,a1,a2,a3⟩:aa),3))
  (Sn r2 a0 a1 a2 a3 a4 a5 a6 a7 a8 a9 Gc Dh 0 (([]:aB)) (([]:ay)) (([]:aA)) n d  0)):=by kernel_rfl
 simp only [h,B42,m42_0]
def I42 (n:Nat):lz C:=de (DQ n n)
theorem i42d (n:Nat):∀ d:Nat,cG Try.prog KK 42 (de (DQ n d))
 | 0=>gX (fn:=Try.f42) (by kernel_rfl) (by kernel_rfl) (iD (by kernel_rfl)) _ (fun vs O=>by simp only [DQ];split<;>rfl)
 | d+1=>by
  have ih:=i42d n d;have x:jk Try.prog (zC n d):=jw;have q:Cons Try.prog (zC n d):=fV ⟨Vk,c27,c32,c66,c69,c81,c82,c83,trivial⟩ trivial ⟨ih,trivial⟩;refine lB x q (by kernel_rfl) (f:=42) (fn:=Try.f42) (c:=av Try.f42) (by kernel_rfl) (by kernel_rfl) (by kernel_rfl) (iD (by kernel_rfl)) (DQ n (d+1)) (Nat.le_of_ble_eq_true (by kernel_rfl)) sK (fun os ls rs r0 h=>?_) (fun vs O r0 hk h=>?_)
  ·unfold sK at h
   split at h
   ·cases h;exact ⟨rfl,rfl,rfl⟩
   ·cases h
  ·simp only [DQ] at h
   split at h
   ·rename_i y0 y1 y2 y3 y4 y5 y6 y7 y8 y9 wy G4
    exact ⟨lQ,Nat.le_of_ble_eq_true (by kernel_rfl),I3 n,(t42 n d y0 y1 y2 y3 y4 y5 y6 y7 y8 y9 wy G4).trans h⟩
   ·cases h
theorem i42 (n:Nat):cG Try.prog KK 42 (I42 n):=i42d n n
def X14 (n:Nat):Cx C:=eP [(10,Bk),(27,Bj)] [] [(42,I42 n)] [4,6,7,12,15,16,17] 917504 []
def F14 (n:Nat):Cf:={ N:=n,keep:=[0,1,2,3,4,5,6,7,10],live:=lk [] }
abbrev dec14:=iX KK [.el .bU,.int .i64]
def G14n (n:Nat) (a0:aa) (a1:au):Option (aa×Int):=
 Option.bind (Nd a0) fun r1=>
 cond (!r1)
 (some ((⟨0,([]:aB),([]:ay),([]:aA)⟩:aa),1))
 (Option.bind ((oz n n) a0.bM a0.af a0.ah a0.ak a1.aq a1.Seen a1.bK a1.Want a1.bb a1.cM a1.Ends a1.Drop) fun r2=>
 Option.bind (DE r2.1) fun r3=>
 some (r3,r2.2))
theorem t14 (n:Nat) (a0:aa) (a1:au):db (X14 n) (F14 n) Try.f14 [.agg [.int .i64 a0.bM,.row .bD a0.af,.row .bX a0.ah,.row .cC a0.ak],.agg [.str a1.aq,.int .i64 a1.Seen,.int .i64 a1.bK,.int .i64 a1.Want,.int .i64 a1.bb,.bool a1.cM,.row .fw a1.Ends,.bool a1.Drop]] dec14=G14n n a0 a1:=by
 kernel_rfl
def G14 (a0:aa) (a1:au):Option (aa×Int):=G14n fuel a0 a1
def XQ:iu C:=kD KK [.el .bU,.el .jq] [.el .bU,.int .i64] G14
theorem c14:cL Try.prog KK 14 XQ:=cP (fV ⟨c10,c27,trivial⟩ trivial ⟨i42 _,trivial⟩:Cons Try.prog (X14 fuel)) (fn:=Try.f14) (F14 fuel) (fun a0 a1=>t14 fuel a0 a1)
def X99:Cx C:=eP [] [] [] [] 6488064 []
def F99 (n:Nat):Cf:={ N:=n,keep:=[0,1,2,4,5,6,12,31],live:=lk [(0,[1,2,5,6])] }
abbrev Xb:=iX KK [.row .e3]
abbrev Gu:Type:=cJ×Int
section
variable (x0:BA) (x3:Int) (x4:aB) (x5:ay) (x6:aA)
def s99_0:Gu→St C:=fun (x1,x2)=>{ env:=[(1,.one (.str x0)),(2,.one (.ptr 6488192 0)),(5,.one (.ref 100005 [])),(6,.one (.int .i64 x2))],aj:=[(100005,.row .e3 x1 false),(6488192,.box .mem [.int .i64 x3,.row .bD x4,.row .bX x5,.row .cC x6])],base:=0 }
end
def Ee (x0:BA) (x5:ay) (n:Nat)   (aM:Gu→Option (cJ)):Gu→Option (cJ):=fun (x1,x2)=>
 cond (decide (x2<(x5.length:Int)))
 (cond (decide (0≤x2)) (Option.bind x5[x2.toNat]? fun e1=>cond (decide (e1.aq=x0))
 (cond (decide (0≤x2)) (Option.bind x5[x2.toNat]? fun e2=>cond (!e2.Ending)
 (cond (decide ((x1.length+(([x2]:cJ)).length)*8≤140737488355328)) (aM ((x1++(([x2]:cJ)),i64.wrap (x2+1)))) none)
 (aM ((x1,i64.wrap (x2+1))))) none)
 (aM ((x1,i64.wrap (x2+1))))) none)
 (some (x1))
section
variable (x0:BA) (x3:Int) (x4:aB) (x5:ay) (x6:aA)
def RB (n:Nat)  (x:Gu):Option (cJ):=iter (fun rec S=>run X99 (F99 n) (aw (av Try.f99) [1,1,0,1,0,0]) 0 S (cH rec (bW 0 (bA (run X99 (F99 n) (aw (av Try.f99) [1,1,1]) 0) (dM X99 Try.f99 Xb))))) [1,2,5,6] n (s99_0 x0 x3 x4 x5 x6 x)
theorem m99_0 (n:Nat)  (x:Gu):RB x0 x3 x4 x5 x6 n  x=bS (Ee x0 x5 n  ) n x:=by
 refine iter_eq _ _ (fun aM x=>?_) n x;obtain ⟨x1,x2⟩:=x
 kernel_rfl
end
def SZ (n:Nat) (a0:aa) (a1:BA):Option (cJ):=
 bS (Ee a1 a0.ah n ) n ((([]:cJ),0))
theorem t99 (n:Nat) (a0:aa) (a1:BA):db X99 (F99 n) Try.f99 [.agg [.int .i64 a0.bM,.row .bD a0.af,.row .bX a0.ah,.row .cC a0.ak],.one (.str a1)] Xb=SZ n a0 a1:=by
 refine Eq.trans (b:=
  RB a1 a0.bM a0.af a0.ah a0.ak n   ((([]:cJ),0))) (by kernel_rfl) ?_
 simp only [SZ,m99_0]
def S4 (a0:aa) (a1:BA):Option (cJ):=SZ fuel a0 a1
def FT:iu C:=kD KK [.el .bU,.str] [.row .e3] S4
theorem c99:cL Try.prog KK 99 FT:=cP (fV trivial trivial trivial:Cons Try.prog X99) (fn:=Try.f99) (F99 fuel) (fun a0 a1=>t99 fuel a0 a1)
def X97:Cx C:=eP [] [] [] [] 6356992 []
def F97 (n:Nat):Cf:={ N:=n,keep:=[0,1,2,4,5,6,11],live:=lk [(0,[1,2,5,6])] }
abbrev Xd:=iX KK [.row .fw]
abbrev Gw:Type:=aI×Int
section
variable (x0:cJ) (x3:Int) (x4:aB) (x5:ay) (x6:aA)
def s97_0:Gw→St C:=fun (x1,x2)=>{ env:=[(1,.one (.row .e3 x0)),(2,.one (.ptr 6357120 0)),(5,.one (.ref 100005 [])),(6,.one (.int .i64 x2))],aj:=[(100005,.row .fw x1 false),(6357120,.box .mem [.int .i64 x3,.row .bD x4,.row .bX x5,.row .cC x6])],base:=0 }
end
def zW (x0:cJ) (x5:ay) (n:Nat)   (aM:Gw→Option (aI)):Gw→Option (aI):=fun (x1,x2)=>
 cond (decide (x2<(x0.length:Int)))
 (cond (decide (0≤x2)) (Option.bind x0[x2.toNat]? fun e1=>cond (decide (0≤e1)) (Option.bind x5[e1.toNat]? fun e2=>cond (decide (0≤x2)) (Option.bind x0[x2.toNat]? fun e3=>cond (decide (0≤e3)) (Option.bind x5[e3.toNat]? fun e4=>cond (decide ((x1.length+(([(⟨e2.Number,e4.Version⟩:cu)]:aI)).length)*16≤140737488355328)) (aM ((x1++(([(⟨e2.Number,e4.Version⟩:cu)]:aI)),i64.wrap (x2+1)))) none) none) none) none) none)
 (some (x1))
section
variable (x0:cJ) (x3:Int) (x4:aB) (x5:ay) (x6:aA)
def RD (n:Nat)  (x:Gw):Option (aI):=iter (fun rec S=>run X97 (F97 n) (aw (av Try.f97) [1,1,0,1,0,0]) 0 S (cH rec (bW 0 (bA (run X97 (F97 n) (aw (av Try.f97) [1,1,1]) 0) (dM X97 Try.f97 Xd))))) [1,2,5,6] n (s97_0 x0 x3 x4 x5 x6 x)
theorem m97_0 (n:Nat)  (x:Gw):RD x0 x3 x4 x5 x6 n  x=bS (zW x0 x5 n  ) n x:=by
 refine iter_eq _ _ (fun aM x=>?_) n x;obtain ⟨x1,x2⟩:=x
 kernel_rfl
end
def S7 (n:Nat) (a0:aa) (a1:cJ):Option (aI):=
 bS (zW a1 a0.ah n ) n ((([]:aI),0))
theorem t97 (n:Nat) (a0:aa) (a1:cJ):db X97 (F97 n) Try.f97 [.agg [.int .i64 a0.bM,.row .bD a0.af,.row .bX a0.ah,.row .cC a0.ak],.one (.row .e3 a1)] Xd=S7 n a0 a1:=by
 refine Eq.trans (b:=
  RD a1 a0.bM a0.af a0.ah a0.ak n   ((([]:aI),0))) (by kernel_rfl) ?_
 simp only [S7,m97_0]
def G97 (a0:aa) (a1:cJ):Option (aI):=S7 fuel a0 a1
def Xx:iu C:=kD KK [.el .bU,.row .e3] [.row .fw] G97
theorem c97:cL Try.prog KK 97 Xx:=cP (fV trivial trivial trivial:Cons Try.prog X97) (fn:=Try.f97) (F97 fuel) (fun a0 a1=>t97 fuel a0 a1)
def X117:Cx C:=eP [(67,KI)] [] [] [] 7667712 []
def F117 (n:Nat):Cf:={ N:=n,keep:=[0,1,2,3,4,5],live:=lk [] }
abbrev dec117:=iX KK [.bool]
def Ls (n:Nat) (a0:aa) (a1:ai):Option (Bool):=
 Option.bind (G67 a0 a1.bE) fun r1=>
 cond (decide (r1≥0))
 (cond (decide (0≤r1)) (Option.bind a0.ak[r1.toNat]? fun e2=>some (e2.qF)) none)
 (some (false))
theorem t117 (n:Nat) (a0:aa) (a1:ai):db X117 (F117 n) Try.f117 [.agg [.int .i64 a0.bM,.row .bD a0.af,.row .bX a0.ah,.row .cC a0.ak],.agg [.str a1.aq,.int .i64 a1.Number,.int .i64 a1.Version,.int .i64 a1.ax,.int .i64 a1.State,.bool a1.Ending,.str a1.bE]] dec117=Ls n a0 a1:=by
 kernel_rfl
def yN (a0:aa) (a1:ai):Option (Bool):=Ls fuel a0 a1
def IM:iu C:=kD KK [.el .bU,.el .bX] [.bool] yN
theorem c117:cL Try.prog KK 117 IM:=cP (fV ⟨c67,trivial⟩ trivial trivial:Cons Try.prog X117) (fn:=Try.f117) (F117 fuel) (fun a0 a1=>t117 fuel a0 a1)
end Go.Proofs.Ytipemmgoipbojaa.Ab
set_option maxRecDepth 100000
namespace Go.Proofs.Ytipemmgoipbojaa.Ab
open Go Go.RowKit Go.IntKind
def X98:Cx C:=eP [(99,FT),(117,IM)] [] [] [] 6422528 []
def F98 (n:Nat):Cf:={ N:=n,keep:=[0,1,2,3,4,6,7,8,9,10,19,56],live:=lk [(0,[2,3,4,7,8,9])] }
abbrev Xc:=iX KK [.row .e3]
abbrev Gv:Type:=cJ×Int
section
variable (x0:Int) (x2:cJ) (x4:Int) (x5:aB) (x6:ay) (x7:aA) (x8:BA) (x9:Int) (aK:Bool) (aN aP aX bf aS aO aT aW bh bJ:Int)
def s98_0:Gv→St C:=fun (x1,x3)=>{ env:=[(2,.one (.int .i64 x0)),(3,.one (.ptr 6422720 0)),(4,.one (.ptr 6422784 0)),(7,.one (.ref 100007 [])),(8,.one (.ref 100008 [])),(9,.one (.int .i64 x3))],aj:=[(100007,.row .e3 x1 false),(100008,.row .e3 x2 false),(6422720,.box .mem [.int .i64 x4,.row .bD x5,.row .bX x6,.row .cC x7]),(6422784,.box .mem [.str x8,.int .i64 x9,.bool aK,.int .i64 aN,.int .i64 aP,.int .i64 aX,.int .i64 bf,.int .i64 aS,.int .i64 aO,.int .i64 aT,.int .i64 aW,.int .i64 bh,.int .i64 bJ])],base:=0 }
end
def Ef (x0:Int) (x2:cJ) (x4:Int) (x5:aB) (x6:ay) (x7:aA) (aN:Int) (n:Nat)   (aM:Gv→Option (cJ)):Gv→Option (cJ):=fun (x1,x3)=>
 cond (decide (x3<(x2.length:Int)))
 (cond (decide (0≤x3)) (cond (decide (x3<(x2.length:Int))) (Option.bind x2[x3.toNat]? fun e2=>cond (decide (0≤e2)) (Option.bind x6[e2.toNat]? fun e3=>cond (x0==2)
 (cond (e3.ax != aN)
 (cond (decide (0≤x3)) (cond (decide (x3<(x2.length:Int))) (Option.bind x2[x3.toNat]? fun e4=>cond (decide ((x1.length+(([e4]:cJ)).length)*8≤140737488355328)) (aM ((x1++(([e4]:cJ)),i64.wrap (x3+1)))) none) none) none)
 (cond (x0==6)
 (Option.bind (yN (⟨x4,x5,x6,x7⟩:aa) e3) fun r5=>
 cond r5
 (cond (decide (0≤x3)) (cond (decide (x3<(x2.length:Int))) (Option.bind x2[x3.toNat]? fun e6=>cond (decide ((x1.length+(([e6]:cJ)).length)*8≤140737488355328)) (aM ((x1++(([e6]:cJ)),i64.wrap (x3+1)))) none) none) none)
 (cond (x0==3)
 (cond (e3.State==4)
 (cond (decide (0≤x3)) (cond (decide (x3<(x2.length:Int))) (Option.bind x2[x3.toNat]? fun e7=>cond (decide ((x1.length+(([e7]:cJ)).length)*8≤140737488355328)) (aM ((x1++(([e7]:cJ)),i64.wrap (x3+1)))) none) none) none)
 (aM ((x1,i64.wrap (x3+1)))))
 (aM ((x1,i64.wrap (x3+1))))))
 (cond (x0==3)
 (cond (e3.State==4)
 (cond (decide (0≤x3)) (cond (decide (x3<(x2.length:Int))) (Option.bind x2[x3.toNat]? fun e8=>cond (decide ((x1.length+(([e8]:cJ)).length)*8≤140737488355328)) (aM ((x1++(([e8]:cJ)),i64.wrap (x3+1)))) none) none) none)
 (aM ((x1,i64.wrap (x3+1)))))
 (aM ((x1,i64.wrap (x3+1)))))))
 (cond (x0==6)
 (Option.bind (yN (⟨x4,x5,x6,x7⟩:aa) e3) fun r9=>
 cond r9
 (cond (decide (0≤x3)) (cond (decide (x3<(x2.length:Int))) (Option.bind x2[x3.toNat]? fun DC=>cond (decide ((x1.length+(([DC]:cJ)).length)*8≤140737488355328)) (aM ((x1++(([DC]:cJ)),i64.wrap (x3+1)))) none) none) none)
 (cond (x0==3)
 (cond (e3.State==4)
 (cond (decide (0≤x3)) (cond (decide (x3<(x2.length:Int))) (Option.bind x2[x3.toNat]? fun IC=>cond (decide ((x1.length+(([IC]:cJ)).length)*8≤140737488355328)) (aM ((x1++(([IC]:cJ)),i64.wrap (x3+1)))) none) none) none)
 (aM ((x1,i64.wrap (x3+1)))))
 (aM ((x1,i64.wrap (x3+1))))))
 (cond (x0==3)
 (cond (e3.State==4)
 (cond (decide (0≤x3)) (cond (decide (x3<(x2.length:Int))) (Option.bind x2[x3.toNat]? fun nu=>cond (decide ((x1.length+(([nu]:cJ)).length)*8≤140737488355328)) (aM ((x1++(([nu]:cJ)),i64.wrap (x3+1)))) none) none) none)
 (aM ((x1,i64.wrap (x3+1)))))
 (aM ((x1,i64.wrap (x3+1))))))) none) none) none)
 (some (x1))
section
variable (x0:Int) (x2:cJ) (x4:Int) (x5:aB) (x6:ay) (x7:aA) (x8:BA) (x9:Int) (aK:Bool) (aN aP aX bf aS aO aT aW bh bJ:Int)
def RC (n:Nat)  (x:Gv):Option (cJ):=iter (fun rec S=>run X98 (F98 n) (aw (av Try.f98) [1,1,1,0,1,0,0]) 0 S (cH rec (bW 0 (bA (run X98 (F98 n) (aw (av Try.f98) [1,1,1,1]) 0) (dM X98 Try.f98 Xc))))) [2,3,4,7,8,9] n (s98_0 x0 x2 x4 x5 x6 x7 x8 x9 aK aN aP aX bf aS aO aT aW bh bJ x)
theorem m98_0 (n:Nat)  (x:Gv):RC x0 x2 x4 x5 x6 x7 x8 x9 aK aN aP aX bf aS aO aT aW bh bJ n  x=bS (Ef x0 x2 x4 x5 x6 x7 aN n  ) n x:=by
 refine iter_eq _ _ (fun aM x=>?_) n x;obtain ⟨x1,x3⟩:=x
 kernel_rfl
end
def S5 (n:Nat) (a0:aa) (a1:ae) (a2:Int):Option (cJ):=
 Option.bind (S4 a0 a1.Name) fun r1=>
 bS (Ef a2 r1 a0.bM a0.af a0.ah a0.ak a1.ax n ) n ((([]:cJ),0))
theorem t98 (n:Nat) (a0:aa) (a1:ae) (a2:Int):db X98 (F98 n) Try.f98 [.agg [.int .i64 a0.bM,.row .bD a0.af,.row .bX a0.ah,.row .cC a0.ak],.agg [.str a1.Name,.int .i64 a1.Version,.bool a1.bq,.int .i64 a1.ax,.int .i64 a1.Want,.int .i64 a1.Down,.int .i64 a1.bg,.int .i64 a1.Next,.int .i64 a1.bY,.int .i64 a1.aD,.int .i64 a1.aU,.int .i64 a1.bF,.int .i64 a1.bb],.one (.int .i64 a2)] Xc=S5 n a0 a1 a2:=by
 refine Eq.trans (b:=
  Option.bind (S4 a0 a1.Name) fun r1=>
  RC a2 r1 a0.bM a0.af a0.ah a0.ak a1.Name a1.Version a1.bq a1.ax a1.Want a1.Down a1.bg a1.Next a1.bY a1.aD a1.aU a1.bF a1.bb n   ((([]:cJ),0))) (by kernel_rfl) ?_
 simp only [S5,m98_0]
def S6 (a0:aa) (a1:ae) (a2:Int):Option (cJ):=S5 fuel a0 a1 a2
def QK:iu C:=kD KK [.el .bU,.el .bD,.int .i64] [.row .e3] S6
theorem c98:cL Try.prog KK 98 QK:=cP (fV ⟨c99,c117,trivial⟩ trivial trivial:Cons Try.prog X98) (fn:=Try.f98) (F98 fuel) (fun a0 a1 a2=>t98 fuel a0 a1 a2)
def X124:Cx C:=eP [(117,IM)] [] [] [] 8126464 []
def F124 (n:Nat):Cf:={ N:=n,keep:=[0,1,2,3,4,5,6,8,15,27,38],live:=lk [] }
abbrev dec124:=iX KK [.bool]
def Lp (n:Nat) (a0:aa) (a1 a2:ai) (a3:Int):Option (Bool):=
 cond (!((a1.State != 3)==(a2.State != 3)))
 (some (a1.State != 3))
 (cond (!((a1.ax != a3)==(a2.ax != a3)))
 (some (a1.ax != a3))
 (Option.bind (yN a0 a1) fun r1=>
 Option.bind (yN a0 a2) fun r2=>
 cond (!(r1==r2))
 (Option.bind (yN a0 a1) fun r3=>
 some (r3))
 (some (decide (a1.Number>a2.Number)))))
theorem t124 (n:Nat) (a0:aa) (a1 a2:ai) (a3:Int):db X124 (F124 n) Try.f124 [.agg [.int .i64 a0.bM,.row .bD a0.af,.row .bX a0.ah,.row .cC a0.ak],.agg [.str a1.aq,.int .i64 a1.Number,.int .i64 a1.Version,.int .i64 a1.ax,.int .i64 a1.State,.bool a1.Ending,.str a1.bE],.agg [.str a2.aq,.int .i64 a2.Number,.int .i64 a2.Version,.int .i64 a2.ax,.int .i64 a2.State,.bool a2.Ending,.str a2.bE],.one (.int .i64 a3)] dec124=Lp n a0 a1 a2 a3:=by
 kernel_rfl
def Nb (a0:aa) (a1 a2:ai) (a3:Int):Option (Bool):=Lp fuel a0 a1 a2 a3
def QR:iu C:=kD KK [.el .bU,.el .bX,.el .bX,.int .i64] [.bool] Nb
theorem c124:cL Try.prog KK 124 QR:=cP (fV ⟨c117,trivial⟩ trivial trivial:Cons Try.prog X124) (fn:=Try.f124) (F124 fuel) (fun a0 a1 a2 a3=>t124 fuel a0 a1 a2 a3)
def Ro:Cx C:=eP [(124,QR)] [] [] [] 7733248 []
def VX (n:Nat):Cf:={ N:=n,keep:=[0,1,2,3,4,6,7,8,11,23,38],live:=lk [(0,[2,3,4,7,8])] }
abbrev QH:=iX KK [.row .fw]
abbrev uB:Type:=Int×BA×Int×Int×Int×Int×Bool×BA
section
variable (x0:cJ) (x2:Int) (x3:aB) (x4:ay) (x5:aA) (x6:BA) (x7:Int) (x8:Bool) (x9 aK aN aP aX bf aS aO aT aW:Int)
def YO:uB→St C:=fun (x1,bh,bJ,bG,bL,bZ,da,cW)=>{ env:=[(2,.one (.row .e3 x0)),(3,.one (.ptr 7733440 0)),(4,.one (.ptr 7733504 0)),(7,.one (.ptr 7733696 0)),(8,.one (.int .i64 x1))],aj:=[(7733440,.box .mem [.int .i64 x2,.row .bD x3,.row .bX x4,.row .cC x5]),(7733504,.box .mem [.str x6,.int .i64 x7,.bool x8,.int .i64 x9,.int .i64 aK,.int .i64 aN,.int .i64 aP,.int .i64 aX,.int .i64 bf,.int .i64 aS,.int .i64 aO,.int .i64 aT,.int .i64 aW]),(7733696,.box .mem [.str bh,.int .i64 bJ,.int .i64 bG,.int .i64 bL,.int .i64 bZ,.bool da,.str cW])],base:=0 }
end
def qM (x0:cJ) (x2:Int) (x3:aB) (x4:ay) (x5:aA) (x9:Int) (n:Nat)   (aM:uB→Option (aI)):uB→Option (aI):=fun (x1,bh,bJ,bG,bL,bZ,da,cW)=>
 cond (decide (x1<(x0.length:Int)))
 (cond (decide (0≤x1)) (Option.bind x0[x1.toNat]? fun e3=>cond (decide (0≤e3)) (Option.bind x4[e3.toNat]? fun e4=>Option.bind (Nb (⟨x2,x3,x4,x5⟩:aa) e4 (⟨bh,bJ,bG,bL,bZ,da,cW⟩:ai) x9) fun r5=>
 cond r5
 (cond (decide (0≤x1)) (Option.bind x0[x1.toNat]? fun e6=>cond (decide (0≤e6)) (Option.bind x4[e6.toNat]? fun e7=>aM ((i64.wrap (x1+1),e7.aq,e7.Number,e7.Version,e7.ax,e7.State,e7.Ending,e7.bE))) none) none)
 (aM ((i64.wrap (x1+1),bh,bJ,bG,bL,bZ,da,cW)))) none) none)
 (some (([(⟨bJ,bG⟩:cu)]:aI)))
section
variable (x0:cJ) (x2:Int) (x3:aB) (x4:ay) (x5:aA) (x6:BA) (x7:Int) (x8:Bool) (x9 aK aN aP aX bf aS aO aT aW:Int)
def Lg (n:Nat)  (x:uB):Option (aI):=iter (fun rec S=>run Ro (VX n) (aw (av Try.f118) [1,1,1,0,1,0,0]) 0 S (cH rec (bW 0 (bA (run Ro (VX n) (aw (av Try.f118) [1,1,1,1]) 0) (dM Ro Try.f118 QH))))) [2,3,4,7,8] n (YO x0 x2 x3 x4 x5 x6 x7 x8 x9 aK aN aP aX bf aS aO aT aW x)
theorem Zp (n:Nat)  (x:uB):Lg x0 x2 x3 x4 x5 x6 x7 x8 x9 aK aN aP aX bf aS aO aT aW n  x=bS (qM x0 x2 x3 x4 x5 x9 n  ) n x:=by
 refine iter_eq _ _ (fun aM x=>?_) n x;obtain ⟨x1,bh,bJ,bG,bL,bZ,da,cW⟩:=x
 kernel_rfl
end
def Gm (n:Nat) (a0:aa) (a1:ae) (a2:cJ):Option (aI):=
 cond ((a2.length:Int)==0)
 (some (([]:aI)))
 (cond (decide (0≤0)) (Option.bind a2[(0:Int).toNat]? fun e1=>cond (decide (0≤e1)) (Option.bind a0.ah[e1.toNat]? fun e2=>bS (qM a2 a0.bM a0.af a0.ah a0.ak a1.ax n ) n (1,e2.aq,e2.Number,e2.Version,e2.ax,e2.State,e2.Ending,e2.bE)) none) none)
theorem t118 (n:Nat) (a0:aa) (a1:ae) (a2:cJ):db Ro (VX n) Try.f118 [.agg [.int .i64 a0.bM,.row .bD a0.af,.row .bX a0.ah,.row .cC a0.ak],.agg [.str a1.Name,.int .i64 a1.Version,.bool a1.bq,.int .i64 a1.ax,.int .i64 a1.Want,.int .i64 a1.Down,.int .i64 a1.bg,.int .i64 a1.Next,.int .i64 a1.bY,.int .i64 a1.aD,.int .i64 a1.aU,.int .i64 a1.bF,.int .i64 a1.bb],.one (.row .e3 a2)] QH=Gm n a0 a1 a2:=by
 refine Eq.trans (b:=
  cond ((a2.length:Int)==0)
  (some (([]:aI)))
  (cond (decide (0≤0)) (Option.bind a2[(0:Int).toNat]? fun e1=>cond (decide (0≤e1)) (Option.bind a0.ah[e1.toNat]? fun e2=>Lg a2 a0.bM a0.af a0.ah a0.ak a1.Name a1.Version a1.bq a1.ax a1.Want a1.Down a1.bg a1.Next a1.bY a1.aD a1.aU a1.bF a1.bb n   (1,e2.aq,e2.Number,e2.Version,e2.ax,e2.State,e2.Ending,e2.bE)) none) none)) (by kernel_rfl) ?_
 simp only [Gm,Zp]
def ux (a0:aa) (a1:ae) (a2:cJ):Option (aI):=Gm fuel a0 a1 a2
def IL:iu C:=kD KK [.el .bU,.el .bD,.row .e3] [.row .fw] ux
theorem c118:cL Try.prog KK 118 IL:=cP (fV ⟨c124,trivial⟩ trivial trivial:Cons Try.prog Ro) (fn:=Try.f118) (VX fuel) (fun a0 a1 a2=>t118 fuel a0 a1 a2)
def Rn:Cx C:=eP [(82,KF)] [] [] [] 7798784 []
def VW (n:Nat):Cf:={ N:=n,keep:=[0,1,2,4,5,6,11,33],live:=lk [(0,[1,2,5,6])] }
abbrev QG:=iX KK [.row .e3]
abbrev zc:Type:=cJ×Int
section
variable (x0:cJ) (x3:Int) (x4:aB) (x5:ay) (x6:aA)
def YN:zc→St C:=fun (x1,x2)=>{ env:=[(1,.one (.row .e3 x0)),(2,.one (.ptr 7798912 0)),(5,.one (.ref 100005 [])),(6,.one (.int .i64 x2))],aj:=[(100005,.row .e3 x1 false),(7798912,.box .mem [.int .i64 x3,.row .bD x4,.row .bX x5,.row .cC x6])],base:=0 }
end
def xj (x0:cJ) (x3:Int) (x4:aB) (x5:ay) (x6:aA) (n:Nat)   (aM:zc→Option (cJ)):zc→Option (cJ):=fun (x1,x2)=>
 cond (decide (x2<(x0.length:Int)))
 (cond (decide (0≤x2)) (Option.bind x0[x2.toNat]? fun e1=>cond (decide (0≤e1)) (Option.bind x5[e1.toNat]? fun e2=>cond (decide (0≤x2)) (Option.bind x0[x2.toNat]? fun e3=>cond (decide (0≤e3)) (Option.bind x5[e3.toNat]? fun e4=>Option.bind (M8 (⟨x3,x4,x5,x6⟩:aa) e2.aq e4.Number) fun r5=>
 cond r5
 (cond (decide (0≤x2)) (Option.bind x0[x2.toNat]? fun e6=>cond (decide ((x1.length+(([e6]:cJ)).length)*8≤140737488355328)) (aM ((x1++(([e6]:cJ)),i64.wrap (x2+1)))) none) none)
 (aM ((x1,i64.wrap (x2+1))))) none) none) none) none)
 (some (x1))
section
variable (x0:cJ) (x3:Int) (x4:aB) (x5:ay) (x6:aA)
def Ld (n:Nat)  (x:zc):Option (cJ):=iter (fun rec S=>run Rn (VW n) (aw (av Try.f119) [1,1,0,1,0,0]) 0 S (cH rec (bW 0 (bA (run Rn (VW n) (aw (av Try.f119) [1,1,1]) 0) (dM Rn Try.f119 QG))))) [1,2,5,6] n (YN x0 x3 x4 x5 x6 x)
theorem Zo (n:Nat)  (x:zc):Ld x0 x3 x4 x5 x6 n  x=bS (xj x0 x3 x4 x5 x6 n  ) n x:=by
 refine iter_eq _ _ (fun aM x=>?_) n x;obtain ⟨x1,x2⟩:=x
 kernel_rfl
end
def Gk (n:Nat) (a0:aa) (a1:cJ):Option (cJ):=
 bS (xj a1 a0.bM a0.af a0.ah a0.ak n ) n ((([]:cJ),0))
theorem t119 (n:Nat) (a0:aa) (a1:cJ):db Rn (VW n) Try.f119 [.agg [.int .i64 a0.bM,.row .bD a0.af,.row .bX a0.ah,.row .cC a0.ak],.one (.row .e3 a1)] QG=Gk n a0 a1:=by
 refine Eq.trans (b:=
  Ld a1 a0.bM a0.af a0.ah a0.ak n   ((([]:cJ),0))) (by kernel_rfl) ?_
 simp only [Gk,Zo]
def Gl (a0:aa) (a1:cJ):Option (cJ):=Gk fuel a0 a1
def QT:iu C:=kD KK [.el .bU,.row .e3] [.row .e3] Gl
theorem c119:cL Try.prog KK 119 QT:=cP (fV ⟨c82,trivial⟩ trivial trivial:Cons Try.prog Rn) (fn:=Try.f119) (VW fuel) (fun a0 a1=>t119 fuel a0 a1)
def X120:Cx C:=eP [] [] [] [] 7864320 []
def F120 (n:Nat):Cf:={ N:=n,keep:=[0,1,2,3,16,22],live:=lk [] }
abbrev dec120:=iX KK [.int .i64]
def Lr (n:Nat) (a0:ae):Option (Int):=
 cond (decide (a0.bY=0)) none (cond (decide ((i64.wrap ((i64.wrap ((i64.wrap (a0.bF+a0.bY))-1)).tdiv a0.bY))<a0.aD))
 (cond (decide (a0.aD>a0.aU))
 (some (a0.aU))
 (some (a0.aD)))
 (cond (decide ((i64.wrap ((i64.wrap ((i64.wrap (a0.bF+a0.bY))-1)).tdiv a0.bY))>a0.aU))
 (some (a0.aU))
 (some (i64.wrap ((i64.wrap ((i64.wrap (a0.bF+a0.bY))-1)).tdiv a0.bY)))))
theorem t120 (n:Nat) (a0:ae):db X120 (F120 n) Try.f120 [.agg [.str a0.Name,.int .i64 a0.Version,.bool a0.bq,.int .i64 a0.ax,.int .i64 a0.Want,.int .i64 a0.Down,.int .i64 a0.bg,.int .i64 a0.Next,.int .i64 a0.bY,.int .i64 a0.aD,.int .i64 a0.aU,.int .i64 a0.bF,.int .i64 a0.bb]] dec120=Lr n a0:=by
 kernel_rfl
def Nc (a0:ae):Option (Int):=Lr fuel a0
def QS:iu C:=kD KK [.el .bD] [.int .i64] Nc
theorem c120:cL Try.prog KK 120 QS:=cP (fV trivial trivial trivial:Cons Try.prog X120) (fn:=Try.f120) (F120 fuel) (fun a0=>t120 fuel a0)
def X100:Cx C:=eP [(82,KF),(98,QK),(99,FT),(118,IL)] [] [] [] 6553600 []
def F100 (n:Nat):Cf:={ N:=n,keep:=[0,1,2,3,4,5,6,7,8,9,18,55,67],live:=lk [] }
def I100 (n:Nat):lz C:=gg X100 (F100 n) Try.f100
theorem i100 (n:Nat):cG Try.prog KK 100 (I100 n):=iP (fV ⟨c82,c98,c99,c118,trivial⟩ trivial trivial:Cons Try.prog X100) (F100 n) (fn:=Try.f100)
def X101:Cx C:=eP [(99,FT),(118,IL),(119,QT)] [] [] [] 6619136 []
def F101 (n:Nat):Cf:={ N:=n,keep:=[0,1,2,3,4,5,6,8,9,23,31],live:=lk [] }
def I101 (n:Nat):lz C:=gg X101 (F101 n) Try.f101
theorem i101 (n:Nat):cG Try.prog KK 101 (I101 n):=iP (fV ⟨c99,c118,c119,trivial⟩ trivial trivial:Cons Try.prog X101) (F101 n) (fn:=Try.f101)
def X102:Cx C:=eP [(120,QS)] [] [] [] 6684672 []
def F102 (n:Nat):Cf:={ N:=n,keep:=[0,1,2,3,4,5,12,21,30,37,51,60],live:=lk [] }
def I102 (n:Nat):lz C:=gg X102 (F102 n) Try.f102
theorem i102 (n:Nat):cG Try.prog KK 102 (I102 n):=iP (fV ⟨c120,trivial⟩ trivial trivial:Cons Try.prog X102) (F102 n) (fn:=Try.f102)
def X48 (n:Nat):Cx C:=eP [(83,KE),(97,Xx),(98,QK),(99,FT)] [] [(100,I100 n),(101,I101 n),(102,I102 n)] [0,4,5,6,7,53,56,57,58,59,60,61,62,63,71,72,73,74,75,76,77,78,86] 3145728 []
def F48 (n:Nat):Cf:={ N:=n,keep:=[0,1,2,4,5,6,7,8,15,25,27,47,48,54,64,70,79,83],live:=lk [] }
abbrev dec48:=iX KK [.el .jq]
def VK (n:Nat) (a0:Int) (a1:aa) (a2:ae):Option (au):=
 cond (a0==3)
 (Option.bind (S6 a1 a2 a0) fun r1=>
 Option.bind (G97 a1 r1) fun r2=>
 some ((⟨a2.Name,a2.Version,0,0,0,false,r2,false⟩:au)))
 (cond a2.bq
 (cond (a0==5)
 (Option.bind (S4 a1 a2.Name) fun r3=>
 Option.bind (G97 a1 r3) fun r4=>
 Option.bind (M7 a1 a2.Name) fun r5=>
 some ((⟨a2.Name,a2.Version,0,0,0,false,r4,(i64.wrap (r5.Live+r5.Ending))==0⟩:au)))
 (some ((⟨a2.Name,a2.Version,0,0,0,false,([]:aI),false⟩:au))))
 (cond (a0==1)
 (Option.bind (S4 a1 a2.Name) fun r6=>
 cond (decide ((r6.length:Int)<a2.Want))
 (some ((⟨a2.Name,a2.Version,i64.wrap (a2.Want-(r6.length:Int)),0,0,false,([]:aI),false⟩:au)))
 (Option.bind (S6 a1 a2 2) fun r7=>
 cond ((r7.length:Int)==0)
 (Option.bind (S6 a1 a2 6) fun r8=>
 cond (decide ((r6.length:Int)>a2.Want))
 (cond ((r8.length:Int)==0)
 (Option.bind (ux a1 a2 r6) fun r9=>
 cond (decide (0≤0)) (cond (decide (0<(r9.length:Int))) (Option.bind r9[(0:Int).toNat]? fun DC=>Option.bind (M8 a1 a2.Name DC.Number) fun rT=>
 cond rT
 (some ((⟨a2.Name,a2.Version,0,0,0,false,r9,false⟩:au)))
 (some ((⟨a2.Name,a2.Version,0,0,0,false,([]:aI),false⟩:au)))) none) none)
 (cond (decide ((r6.length:Int)>(i64.wrap (a2.Want+a2.bg))))
 (Option.bind (ux a1 a2 r6) fun s6=>
 cond (decide (0≤0)) (cond (decide (0<(s6.length:Int))) (Option.bind s6[(0:Int).toNat]? fun FJ=>Option.bind (M8 a1 a2.Name FJ.Number) fun gM=>
 cond gM
 (some ((⟨a2.Name,a2.Version,0,0,0,false,s6,false⟩:au)))
 (some ((⟨a2.Name,a2.Version,0,0,0,false,([]:aI),false⟩:au)))) none) none)
 (some ((⟨a2.Name,a2.Version,0,0,0,false,([]:aI),false⟩:au)))))
 (some ((⟨a2.Name,a2.Version,0,0,0,false,([]:aI),false⟩:au))))
 (cond (decide ((r6.length:Int)>a2.Want))
 (cond (decide ((r6.length:Int)>(i64.wrap (a2.Want+a2.bg))))
 (Option.bind (ux a1 a2 r6) fun G7=>
 cond (decide (0≤0)) (cond (decide (0<(G7.length:Int))) (Option.bind G7[(0:Int).toNat]? fun gb=>Option.bind (M8 a1 a2.Name gb.Number) fun r17=>
 cond r17
 (some ((⟨a2.Name,a2.Version,0,0,0,false,G7,false⟩:au)))
 (some ((⟨a2.Name,a2.Version,0,0,0,false,([]:aI),false⟩:au)))) none) none)
 (some ((⟨a2.Name,a2.Version,0,0,0,false,([]:aI),false⟩:au))))
 (some ((⟨a2.Name,a2.Version,0,0,0,false,([]:aI),false⟩:au))))))
 (cond (a0==2)
 (Option.bind (S6 a1 a2 a0) fun Dy=>
 Option.bind (S4 a1 a2.Name) fun zl=>
 cond ((Dy.length:Int)==0)
 (some ((⟨a2.Name,a2.Version,0,0,0,false,([]:aI),false⟩:au)))
 (cond (decide ((zl.length:Int)<a2.Want))
 (some ((⟨a2.Name,a2.Version,0,0,0,false,([]:aI),false⟩:au)))
 (cond (decide ((zl.length:Int)<(i64.wrap (a2.Want+a2.bg))))
 (some ((⟨a2.Name,a2.Version,1,0,0,false,([]:aI),false⟩:au)))
 (Option.bind (Gl a1 Dy) fun kH=>
 Option.bind (ux a1 a2 kH) fun qz=>
 some ((⟨a2.Name,a2.Version,0,0,0,false,qz,false⟩:au))))))
 (cond (a0==6)
 (Option.bind (S6 a1 a2 2) fun dx=>
 cond ((dx.length:Int)==0)
 (Option.bind (S6 a1 a2 a0) fun gZ=>
 Option.bind (S4 a1 a2.Name) fun jX=>
 cond ((gZ.length:Int)==0)
 (some ((⟨a2.Name,a2.Version,0,0,0,false,([]:aI),false⟩:au)))
 (cond (decide ((jX.length:Int)<a2.Want))
 (some ((⟨a2.Name,a2.Version,0,0,0,false,([]:aI),false⟩:au)))
 (cond (decide ((jX.length:Int)<(i64.wrap (a2.Want+a2.bg))))
 (some ((⟨a2.Name,a2.Version,1,0,0,false,([]:aI),false⟩:au)))
 (Option.bind (Gl a1 gZ) fun gY=>
 Option.bind (ux a1 a2 gY) fun EA=>
 some ((⟨a2.Name,a2.Version,0,0,0,false,EA,false⟩:au))))))
 (some ((⟨a2.Name,a2.Version,0,0,0,false,([]:aI),false⟩:au))))
 (cond (a0==4)
 (cond (decide (a2.bY>0))
 (Option.bind (Nc a2) fun vM=>
 cond (decide (a2.Want<a2.aD))
 (some ((⟨a2.Name,a2.Version,0,a2.aD,0,true,([]:aI),false⟩:au)))
 (cond (decide (a2.Want>a2.aU))
 (some ((⟨a2.Name,a2.Version,0,a2.aU,0,true,([]:aI),false⟩:au)))
 (cond (decide (vM>a2.Want))
 (some ((⟨a2.Name,a2.Version,0,vM,0,true,([]:aI),false⟩:au)))
 (cond (decide (vM<a2.Want))
 (cond (decide (a2.bb≥3))
 (some ((⟨a2.Name,a2.Version,0,i64.wrap (a2.Want-1),0,true,([]:aI),false⟩:au)))
 (cond (decide (vM<a2.Want))
 (some ((⟨a2.Name,a2.Version,0,a2.Want,i64.wrap (a2.bb+1),true,([]:aI),false⟩:au)))
 (cond (a2.bb==0)
 (some ((⟨a2.Name,a2.Version,0,0,0,false,([]:aI),false⟩:au)))
 (some ((⟨a2.Name,a2.Version,0,a2.Want,0,true,([]:aI),false⟩:au))))))
 (cond (decide (vM<a2.Want))
 (some ((⟨a2.Name,a2.Version,0,a2.Want,i64.wrap (a2.bb+1),true,([]:aI),false⟩:au)))
 (cond (a2.bb==0)
 (some ((⟨a2.Name,a2.Version,0,0,0,false,([]:aI),false⟩:au)))
 (some ((⟨a2.Name,a2.Version,0,a2.Want,0,true,([]:aI),false⟩:au)))))))))
 (some ((⟨a2.Name,a2.Version,0,0,0,false,([]:aI),false⟩:au))))
 (some ((⟨a2.Name,a2.Version,0,0,0,false,([]:aI),false⟩:au))))))))
theorem t48 (n:Nat) (a0:Int) (a1:aa) (a2:ae):db (X48 n) (F48 n) Try.f48 [.one (.int .i64 a0),.agg [.int .i64 a1.bM,.row .bD a1.af,.row .bX a1.ah,.row .cC a1.ak],.agg [.str a2.Name,.int .i64 a2.Version,.bool a2.bq,.int .i64 a2.ax,.int .i64 a2.Want,.int .i64 a2.Down,.int .i64 a2.bg,.int .i64 a2.Next,.int .i64 a2.bY,.int .i64 a2.aD,.int .i64 a2.aU,.int .i64 a2.bF,.int .i64 a2.bb]] dec48=VK n a0 a1 a2:=by
 kernel_rfl
def G48 (a0:Int) (a1:aa) (a2:ae):Option (au):=VK fuel a0 a1 a2
def XF:iu C:=kD KK [.int .i64,.el .bU,.el .bD] [.el .jq] G48
theorem c48:cL Try.prog KK 48 XF:=cP (fV ⟨c83,c97,c98,c99,trivial⟩ trivial ⟨i100 _,i101 _,i102 _,trivial⟩:Cons Try.prog (X48 fuel)) (fn:=Try.f48) (F48 fuel) (fun a0 a1 a2=>t48 fuel a0 a1 a2)
def X19:Cx C:=eP [(10,Bk),(48,XF)] [] [] [] 1245184 []
def F19 (n:Nat):Cf:={ N:=n,keep:=[0,1,3,4,5,6,7,11,17,44],live:=lk [(0,[0,3,5,6])] }
abbrev Xu:=iX KK [.row .jq]
abbrev GU:Type:=eI×Int
section
variable (x0 x3:Int) (x4:aB) (x5:ay) (x6:aA)
def s19_0:GU→St C:=fun (x1,x2)=>{ env:=[(0,.one (.int .i64 x0)),(3,.one (.ptr 1245376 0)),(5,.one (.ref 100005 [])),(6,.one (.int .i64 x2))],aj:=[(100005,.row .jq x1 false),(1245376,.box .mem [.int .i64 x3,.row .bD x4,.row .bX x5,.row .cC x6])],base:=0 }
end
def Ad (x0 x3:Int) (x4:aB) (x5:ay) (x6:aA) (n:Nat)   (aM:GU→Option (eI)):GU→Option (eI):=fun (x1,x2)=>
 cond (decide (x2<(x4.length:Int)))
 (cond (decide (0≤x2)) (Option.bind x4[x2.toNat]? fun e2=>Option.bind (G48 x0 (⟨x3,x4,x5,x6⟩:aa) e2) fun r3=>
 cond (decide (r3.bK>0))
 (cond (decide ((x1.length+(([r3]:eI)).length)*88≤140737488355328)) (aM ((x1++(([r3]:eI)),i64.wrap (x2+1)))) none)
 (cond r3.cM
 (cond (decide ((x1.length+(([r3]:eI)).length)*88≤140737488355328)) (aM ((x1++(([r3]:eI)),i64.wrap (x2+1)))) none)
 (cond (decide ((r3.Ends.length:Int)>0))
 (cond (decide ((x1.length+(([r3]:eI)).length)*88≤140737488355328)) (aM ((x1++(([r3]:eI)),i64.wrap (x2+1)))) none)
 (cond r3.Drop
 (cond (decide ((x1.length+(([r3]:eI)).length)*88≤140737488355328)) (aM ((x1++(([r3]:eI)),i64.wrap (x2+1)))) none)
 (aM ((x1,i64.wrap (x2+1)))))))) none)
 (some (x1))
section
variable (x0 x3:Int) (x4:aB) (x5:ay) (x6:aA)
def Sw (n:Nat)  (x:GU):Option (eI):=iter (fun rec S=>run X19 (F19 n) (aw (av Try.f19) [1,1,1,0,1,0,0]) 0 S (cH rec (bW 0 (bA (run X19 (F19 n) (aw (av Try.f19) [1,1,1,1]) 0) (dM X19 Try.f19 Xu))))) [0,3,5,6] n (s19_0 x0 x3 x4 x5 x6 x)
theorem m19_0 (n:Nat)  (x:GU):Sw x0 x3 x4 x5 x6 n  x=bS (Ad x0 x3 x4 x5 x6 n  ) n x:=by
 refine iter_eq _ _ (fun aM x=>?_) n x;obtain ⟨x1,x2⟩:=x
 kernel_rfl
end
def M9 (n:Nat) (a0:Int) (a1:aa):Option (eI):=
 Option.bind (Nd a1) fun r1=>
 cond (!r1)
 (some (([]:eI)))
 (bS (Ad a0 a1.bM a1.af a1.ah a1.ak n ) n ((([]:eI),0)))
theorem t19 (n:Nat) (a0:Int) (a1:aa):db X19 (F19 n) Try.f19 [.one (.int .i64 a0),.agg [.int .i64 a1.bM,.row .bD a1.af,.row .bX a1.ah,.row .cC a1.ak]] Xu=M9 n a0 a1:=by
 refine Eq.trans (b:=
  Option.bind (Nd a1) fun r1=>
  cond (!r1)
  (some (([]:eI)))
  (Sw a0 a1.bM a1.af a1.ah a1.ak n   ((([]:eI),0)))) (by kernel_rfl) ?_
 simp only [M9,m19_0]
def ND (a0:Int) (a1:aa):Option (eI):=M9 fuel a0 a1
def KL:iu C:=kD KK [.int .i64,.el .bU] [.row .jq] ND
theorem c19:cL Try.prog KK 19 KL:=cP (fV ⟨c10,c48,trivial⟩ trivial trivial:Cons Try.prog X19) (fn:=Try.f19) (F19 fuel) (fun a0 a1=>t19 fuel a0 a1)
def Rr:Cx C:=eP [(10,Bk)] [] [] [] 7274496 []
def VZ (n:Nat):Cf:={ N:=n,keep:=[0,1,2,3,13,18,59],live:=lk [(0,[1,3])] }
abbrev QI:=iX KK [.bool]
abbrev zf:Type:=Int
section
variable (x1:dK) (x2:Int) (x3:aB) (x4:ay) (x5:aA)
def YQ:zf→St C:=fun x0=>{ env:=[(1,.one (.ptr 7274560 0)),(3,.one (.int .i64 x0))],aj:=[(7274560,.box .mem [.row .bU x1,.int .i64 x2,.row .bD x3,.row .bX x4,.row .cC x5])],base:=0 }
end
def HS (x1:dK) (x2:Int) (n:Nat)   (aM:zf→Option (Bool)):zf→Option (Bool):=fun x0=>
 cond (decide (x0<(x1.length:Int)))
 (cond (decide (0≤x0)) (Option.bind x1[x0.toNat]? fun e2=>Option.bind (Nd e2) fun r3=>
 cond (!r3)
 (some (false))
 (cond (decide (0≤x0)) (Option.bind x1[x0.toNat]? fun e4=>cond (decide (e4.bM>x2))
 (some (false))
 (cond (decide (x0>0))
 (cond (decide (0≤i64.wrap (x0-1))) (Option.bind x1[(i64.wrap (x0-1)).toNat]? fun e5=>cond (decide (0≤x0)) (Option.bind x1[x0.toNat]? fun e6=>cond (decide (e5.bM>e6.bM))
 (some (false))
 (aM (i64.wrap (x0+1)))) none) none)
 (aM (i64.wrap (x0+1))))) none)) none)
 (some (true))
section
variable (x1:dK) (x2:Int) (x3:aB) (x4:ay) (x5:aA)
def Lj (n:Nat)  (x:zf):Option (Bool):=iter (fun rec S=>run Rr (VZ n) (aw (av Try.f111) [1,1,0,1,0,0]) 0 S (cH rec (bW 0 (bA (run Rr (VZ n) (aw (av Try.f111) [1,1,1]) 0) (dM Rr Try.f111 QI))))) [1,3] n (YQ x1 x2 x3 x4 x5 x)
theorem Zs (n:Nat)  (x:zf):Lj x1 x2 x3 x4 x5 n  x=bS (HS x1 x2 n  ) n x:=by
 refine iter_eq _ _ (fun aM x0=>?_) n x
 kernel_rfl
end
def Lu (n:Nat) (a0:aR):Option (Bool):=
 Option.bind (Nd (⟨a0.cA,a0.aV,a0.bH,a0.bI⟩:aa)) fun r1=>
 cond (!r1)
 (some (false))
 (cond (decide ((a0.iS.length:Int)>8))
 (some (false))
 (bS (HS a0.iS a0.cA n ) n 0))
theorem t111 (n:Nat) (a0:aR):db Rr (VZ n) Try.f111 [.agg [.row .bU a0.iS,.int .i64 a0.cA,.row .bD a0.aV,.row .bX a0.bH,.row .cC a0.bI]] QI=Lu n a0:=by
 refine Eq.trans (b:=
  Option.bind (Nd (⟨a0.cA,a0.aV,a0.bH,a0.bI⟩:aa)) fun r1=>
  cond (!r1)
  (some (false))
  (cond (decide ((a0.iS.length:Int)>8))
  (some (false))
  (Lj a0.iS a0.cA a0.aV a0.bH a0.bI n   0))) (by kernel_rfl) ?_
 simp only [Lu,Zs]
def Td (a0:aR):Option (Bool):=Lu fuel a0
def QV:iu C:=kD KK [.el .Be] [.bool] Td
theorem c111:cL Try.prog KK 111 QV:=cP (fV ⟨c10,trivial⟩ trivial trivial:Cons Try.prog Rr) (fn:=Try.f111) (VZ fuel) (fun a0=>t111 fuel a0)
def zF:Cx C:=eP [(26,qB)] [] [] [] 7340032 []
def Gp (n:Nat):Cf:={ N:=n,keep:=[0,2,3,4,5,6,7,17,23,46],live:=lk [(0,[3,4,5]),(2,[3,4,5,6,7])] }
abbrev IE:=iX KK [.row .e3]
abbrev ze:Type:=Bool×Int
abbrev uC:Type:=cJ×Int
section
variable (x0 x1:cJ) (x2:Int)
def YP:ze→St C:=fun (x3,x4)=>{ env:=[(3,.one (.ref 100003 [])),(4,.one (.ref 100004 [])),(5,.one (.int .i64 x2)),(6,.one (.bool x3)),(7,.one (.int .i64 x4))],aj:=[(100003,.row .e3 x0 false),(100004,.row .e3 x1 false)],base:=0 }
end
def HQ (x0 x1:cJ) (x2:Int) (n:Nat)  (aM:uC→Option (cJ)) (dg:ze→Option (cJ)):ze→Option (cJ):=fun (x3,x4)=>
 cond (decide (x4<(x0.length:Int)))
 (cond x3
 (dg ((true,i64.wrap (x4+1))))
 (cond (decide (0≤x4)) (cond (decide (x4<(x0.length:Int))) (Option.bind x0[x4.toNat]? fun e1=>cond (decide (0≤x2)) (cond (decide (x2<(x1.length:Int))) (Option.bind x1[x2.toNat]? fun e2=>dg ((e1==e2,i64.wrap (x4+1)))) none) none) none) none))
 (cond (!x3)
 (cond (decide (0≤x2)) (cond (decide (x2<(x1.length:Int))) (Option.bind x1[x2.toNat]? fun e3=>Option.bind (nS e3 1 6) fun r4=>
 cond r4
 (cond (decide (0≤x2)) (cond (decide (x2<(x1.length:Int))) (Option.bind x1[x2.toNat]? fun e5=>cond (decide ((x0.length+(([e5]:cJ)).length)*8≤140737488355328)) (aM ((x0++(([e5]:cJ)),i64.wrap (x2+1)))) none) none) none)
 (aM ((x0,i64.wrap (x2+1))))) none) none)
 (aM ((x0,i64.wrap (x2+1)))))
section
variable (x1:cJ)
def OH:uC→St C:=fun (x0,x2)=>{ env:=[(3,.one (.ref 100003 [])),(4,.one (.ref 100004 [])),(5,.one (.int .i64 x2))],aj:=[(100003,.row .e3 x0 false),(100004,.row .e3 x1 false)],base:=0 }
end
def HR (x1:cJ) (n:Nat)   (aM:uC→Option (cJ)):uC→Option (cJ):=fun (x0,x2)=>
 cond (decide (x2<(x1.length:Int)))
 (bS (HQ x0 x1 x2 n aM) n (false,0))
 (some (x0))
section
variable (x0 x1:cJ) (x2:Int)
def Lh (n:Nat) (aM:St C→Option (cJ)) (x:ze):Option (cJ):=iter (fun rec S=>run zF (Gp n) (aw (av Try.f112) [1,1,1,0,1,0,0,1,0,0,1,0,1,0,0]) 2 S (cH rec (bW 2 (bA (run zF (Gp n) (aw (av Try.f112) [1,1,1,0,1,0,0,1,0,0,1,1]) 1) (bW 1 (bA (run zF (Gp n) (aw (av Try.f112) [1,1,1,0,1,0,0,1,1]) 0) (cH (fR [3,4,5] aM) (bW 0 (bA (run zF (Gp n) (aw (av Try.f112) [1,1,1,1]) 0) (dM zF Try.f112 IE)))))))))) [3,4,5,6,7] n (YP x0 x1 x2 x)
theorem Zq (n:Nat) (aM:St C→Option (cJ)) (x:ze):Lh x0 x1 x2 n aM x=bS (HQ x0 x1 x2 n  (fun x=>aM (OH x1 x))) n x:=by
 refine iter_eq _ _ (fun dg x=>?_) n x;obtain ⟨x3,x4⟩:=x
 kernel_rfl
end
section
variable (x1:cJ)
def Li (n:Nat)  (x:uC):Option (cJ):=iter (fun rec S=>run zF (Gp n) (aw (av Try.f112) [1,1,1,0,1,0,0]) 0 S (cH rec (bW 0 (bA (run zF (Gp n) (aw (av Try.f112) [1,1,1,1]) 0) (dM zF Try.f112 IE))))) [3,4,5] n (OH x1 x)
theorem Zr (n:Nat)  (x:uC):Li x1 n  x=bS (HR x1 n  ) n x:=by
 refine iter_eq _ _ (fun aM x=>?_) n x;obtain ⟨x0,x2⟩:=x
 refine Eq.trans (b:=
  cond (decide (x2<(x1.length:Int)))
  (Lh x0 x1 x2 n  aM (false,0))
  (some (x0))) (by kernel_rfl) ?_
 simp only [Zq];rfl
end
def Lt (n:Nat) (a0:cJ):Option (cJ):=
 cond (decide (((([]:cJ)).length+a0.length)*8≤140737488355328)) (cond (decide ((((([]:cJ))++a0).length+(([1,2,3,4,5,6]:cJ)).length)*8≤140737488355328)) (bS (HR (((([]:cJ))++a0)++(([1,2,3,4,5,6]:cJ))) n ) n ((([]:cJ),0))) none) none
theorem t112 (n:Nat) (a0:cJ):db zF (Gp n) Try.f112 [.one (.row .e3 a0)] IE=Lt n a0:=by
 refine Eq.trans (b:=
  cond (decide (((([]:cJ)).length+a0.length)*8≤140737488355328)) (cond (decide ((((([]:cJ))++a0).length+(([1,2,3,4,5,6]:cJ)).length)*8≤140737488355328)) (Li (((([]:cJ))++a0)++(([1,2,3,4,5,6]:cJ))) n   ((([]:cJ),0))) none) none) (by kernel_rfl) ?_
 simp only [Lt,Zr]
def Tc (a0:cJ):Option (cJ):=Lt fuel a0
def QU:iu C:=kD KK [.row .e3] [.row .e3] Tc
theorem c112:cL Try.prog KK 112 QU:=cP (fV ⟨Vk,trivial⟩ trivial trivial:Cons Try.prog zF) (fn:=Try.f112) (Gp fuel) (fun a0=>t112 fuel a0)
def X73:Cx C:=eP [(27,Bj)] [] [] [] 4784128 []
def F73 (n:Nat):Cf:={ N:=n,keep:=[0,1,2,3,4,13],live:=lk [(0,[1,2,3,4])] }
abbrev Xj:=iX KK [.el .Be]
abbrev GG:Type:=Int×dK
section
variable (x1:dK) (x2:Int) (x3:aB) (x4:ay) (x5:aA) (x6:dK) (x7:Int) (x8:aB) (x9:ay) (aK:aA) (aP:Int) (aX:aB) (bf:ay) (aS:aA)
def s73_0:GG→St C:=fun (x0,aN)=>{ env:=[(1,.one (.ptr 4784192 0)),(2,.one (.ptr 4784256 0)),(3,.one (.ptr 4784320 0)),(4,.one (.int .i64 x0))],aj:=[(4784192,.box .mem [.row .bU x1,.int .i64 x2,.row .bD x3,.row .bX x4,.row .cC x5]),(4784256,.box .mem [.ref 479425600 [],.int .i64 x7,.ref 479425602 [],.ref 479425603 [],.ref 479425604 []]),(479425600,.row .bU x6 false),(479425602,.row .bD x8 false),(479425603,.row .bX x9 false),(479425604,.row .cC aK false),(4784320,.box .mem [.ref 479432000 [],.int .i64 aP,.ref 479432002 [],.ref 479432003 [],.ref 479432004 []]),(479432000,.row .bU aN false),(479432002,.row .bD aX false),(479432003,.row .bX bf false),(479432004,.row .cC aS false)],base:=0 }
end
def OS (x1:dK) (aP:Int) (aX:aB) (bf:ay) (aS:aA) (n:Nat)   (aM:GG→Option (aR)):GG→Option (aR):=fun (x0,aN)=>
 cond (decide (x0<(x1.length:Int)))
 (cond (decide (0≤x0)) (Option.bind x1[x0.toNat]? fun e2=>Option.bind (DE e2) fun r3=>
 cond (decide ((aN.length+(([r3]:dK)).length)*80≤140737488355328)) (aM ((i64.wrap (x0+1),aN++(([r3]:dK))))) none) none)
 (some ((⟨aN,aP,aX,bf,aS⟩:aR)))
section
variable (x1:dK) (x2:Int) (x3:aB) (x4:ay) (x5:aA) (x6:dK) (x7:Int) (x8:aB) (x9:ay) (aK:aA) (aP:Int) (aX:aB) (bf:ay) (aS:aA)
def RP (n:Nat)  (x:GG):Option (aR):=iter (fun rec S=>run X73 (F73 n) (aw (av Try.f73) [1,1,0,1,0,0]) 0 S (cH rec (bW 0 (bA (run X73 (F73 n) (aw (av Try.f73) [1,1,1]) 0) (dM X73 Try.f73 Xj))))) [1,2,3,4] n (s73_0 x1 x2 x3 x4 x5 x6 x7 x8 x9 aK aP aX bf aS x)
theorem m73_0 (n:Nat)  (x:GG):RP x1 x2 x3 x4 x5 x6 x7 x8 x9 aK aP aX bf aS n  x=bS (OS x1 aP aX bf aS n  ) n x:=by
 refine iter_eq _ _ (fun aM x=>?_) n x;obtain ⟨x0,aN⟩:=x
 kernel_rfl
end
def VA (n:Nat) (a0:aR):Option (aR):=
 Option.bind (DE (⟨a0.cA,a0.aV,a0.bH,a0.bI⟩:aa)) fun r1=>
 bS (OS a0.iS r1.bM r1.af r1.ah r1.ak n ) n ((0,([]:dK)))
theorem t73 (n:Nat) (a0:aR):db X73 (F73 n) Try.f73 [.agg [.row .bU a0.iS,.int .i64 a0.cA,.row .bD a0.aV,.row .bX a0.bH,.row .cC a0.bI]] Xj=VA n a0:=by
 refine Eq.trans (b:=
  Option.bind (DE (⟨a0.cA,a0.aV,a0.bH,a0.bI⟩:aa)) fun r1=>
  RP a0.iS a0.cA a0.aV a0.bH a0.bI (([]:dK)) 0 (([]:aB)) (([]:ay)) (([]:aA)) r1.bM r1.af r1.ah r1.ak n   ((0,([]:dK)))) (by kernel_rfl) ?_
 simp only [VA,m73_0]
def G73 (a0:aR):Option (aR):=VA fuel a0
def QN:iu C:=kD KK [.el .Be] [.el .Be] G73
theorem c73:cL Try.prog KK 73 QN:=cP (fV ⟨c27,trivial⟩ trivial trivial:Cons Try.prog X73) (fn:=Try.f73) (F73 fuel) (fun a0=>t73 fuel a0)
def F110 (n:Nat):Cf:={ N:=n,keep:=[0,1,2,3,4,5,11,23],live:=lk [] }
def IF (os:cm C) (ls:List (Lf C)) (rs:List (Bool×List (Lf C))):Option (aR):=match os,ls,rs with
 | [(77777777,.ghost)],[],[(true,[.row .bU wo,.int .i64 Hl,.row .bD Hk,.row .bX Hj,.row .cC Yu])]=>some ((⟨wo,Hl,Hk,Hj,Yu⟩:aR))
 | _,_,_=>none
def V3 (n:Nat) (rc:(dK)→(Int)→(aB)→(ay)→(aA)→(Int)→(aB)→(ay)→(aA)→Option (aR)) (a0:dK) (a1:Int) (a2:aB) (a3:ay) (a4:aA) (a5:Int) (a6:aB) (a7:ay) (a8:aA):Option (aR):=
 cond (a5==a1)
 (some ((⟨a0,a1,a2,a3,a4⟩:aR)))
 (cond (decide (((([]:dK)).length+a0.length)*80≤140737488355328)) (cond (decide ((((([]:dK))++a0).length+(([(⟨a1,a2,a3,a4⟩:aa)]:dK)).length)*80≤140737488355328)) (cond (decide ((((((([]:dK))++a0)++(([(⟨a1,a2,a3,a4⟩:aa)]:dK))).length:Int))>8))
 (cond (decide ((0:Int)≤1)) (cond (decide ((1:Int)≤((((([]:dK))++a0)++(([(⟨a1,a2,a3,a4⟩:aa)]:dK))).length:Int))) (cond (decide (((((([]:dK))++a0)++(([(⟨a1,a2,a3,a4⟩:aa)]:dK))).length:Int)≤((((([]:dK))++a0)++(([(⟨a1,a2,a3,a4⟩:aa)]:dK))).length:Int))) (some ((⟨((((([]:dK))++a0)++(([(⟨a1,a2,a3,a4⟩:aa)]:dK))).take ((((((([]:dK))++a0)++(([(⟨a1,a2,a3,a4⟩:aa)]:dK))).length:Int)).toNat)).drop ((1:Int).toNat),a5,a6,a7,a8⟩:aR))) none) none) none)
 (some ((⟨((([]:dK))++a0)++(([(⟨a1,a2,a3,a4⟩:aa)]:dK)),a5,a6,a7,a8⟩:aR)))) none) none)
def sX (n:Nat):Nat→(dK)→(Int)→(aB)→(ay)→(aA)→(Int)→(aB)→(ay)→(aA)→Option (aR)
 | 0=>fun _ _ _ _ _ _ _ _ _=>none
 | d+1=>V3 n (sX n d)
def wP (n d:Nat):iR C:={ ids:=[],roots:=[],eU:=[],R0:=aR,out:=fun r=>[],ret:=fun r=>[(true,[.row .bU r.iS,.int .i64 r.cA,.row .bD r.aV,.row .bX r.bH,.row .cC r.bI])],g:=fun vs O=>match vs,O with
 | [.agg [.row .bU y0,.int .i64 y1,.row .bD y2,.row .bX y3,.row .cC y4],.agg [.int .i64 y5,.row .bD y6,.row .bX y7,.row .cC y8]],[]=>sX n d y0 y1 y2 y3 y4 y5 y6 y7 y8
 | _,_=>none }
def X110 (n d:Nat):Cx C:=eP [] [] [(110,de (wP n d))] [] 7208960 [25]
theorem t110 (n d:Nat) (a0:dK) (a1:Int) (a2:aB) (a3:ay) (a4:aA) (a5:Int) (a6:aB) (a7:ay) (a8:aA):gF (X110 n d) (F110 n) Try.f110 (wP n (d+1)) [.agg [.row .bU a0,.int .i64 a1,.row .bD a2,.row .bX a3,.row .cC a4],.agg [.int .i64 a5,.row .bD a6,.row .bX a7,.row .cC a8]] [] IF=V3 n (sX n d) a0 a1 a2 a3 a4 a5 a6 a7 a8:=by
 kernel_rfl
def I110 (n:Nat):lz C:=de (wP n n)
theorem WQ (n:Nat):∀ d:Nat,cG Try.prog KK 110 (de (wP n d))
 | 0=>gX (fn:=Try.f110) (by kernel_rfl) (by kernel_rfl) (iD (by kernel_rfl)) _ (fun vs O=>by simp only [wP];split<;>rfl)
 | d+1=>by
  have ih:=WQ n d;have x:jk Try.prog (X110 n d):=jw;have q:Cons Try.prog (X110 n d):=fV trivial trivial ⟨ih,trivial⟩;refine lB x q (by kernel_rfl) (f:=110) (fn:=Try.f110) (c:=av Try.f110) (by kernel_rfl) (by kernel_rfl) (by kernel_rfl) (iD (by kernel_rfl)) (wP n (d+1)) (Nat.le_of_ble_eq_true (by kernel_rfl)) IF (fun os ls rs r0 h=>?_) (fun vs O r0 hk h=>?_)
  ·unfold IF at h
   split at h
   ·cases h;exact ⟨rfl,rfl,rfl⟩
   ·cases h
  ·simp only [wP] at h
   split at h
   ·rename_i y0 y1 y2 y3 y4 y5 y6 y7 y8
    exact ⟨lQ,Nat.le_of_ble_eq_true (by kernel_rfl),F110 n,(t110 n d y0 y1 y2 y3 y4 y5 y6 y7 y8).trans h⟩
   ·cases h
theorem i110 (n:Nat):cG Try.prog KK 110 (I110 n):=WQ n n
def F40 (n:Nat):Cf:={ N:=n,keep:=[0,1,2,4,12,19],live:=lk [] }
def QE (os:cm C) (ls:List (Lf C)) (rs:List (Bool×List (Lf C))):Option (aa):=match os,ls,rs with
 | [(77777777,.ghost)],[],[(true,[.int .i64 wo,.row .bD Hl,.row .bX Hk,.row .cC Hj])]=>some ((⟨wo,Hl,Hk,Hj⟩:aa))
 | _,_,_=>none
def B40 (n:Nat) (rc:(dK)→(Int)→(aB)→(ay)→(aA)→(Int)→Option (aa)) (a0:dK) (a1:Int) (a2:aB) (a3:ay) (a4:aA) (a5:Int):Option (aa):=
 cond (decide (a5≤0))
 (some ((⟨a1,a2,a3,a4⟩:aa)))
 (cond ((a0.length:Int)==0)
 (some ((⟨a1,a2,a3,a4⟩:aa)))
 (cond (decide (a5>(a0.length:Int)))
 (cond (decide (0≤i64.wrap ((a0.length:Int)-(a0.length:Int)))) (Option.bind a0[(i64.wrap ((a0.length:Int)-(a0.length:Int))).toNat]? fun e1=>some (e1)) none)
 (cond (decide (0≤i64.wrap ((a0.length:Int)-a5))) (Option.bind a0[(i64.wrap ((a0.length:Int)-a5)).toNat]? fun e2=>some (e2)) none)))
def Gj (n:Nat):Nat→(dK)→(Int)→(aB)→(ay)→(aA)→(Int)→Option (aa)
 | 0=>fun _ _ _ _ _ _=>none
 | d+1=>B40 n (Gj n d)
def HC (n d:Nat):iR C:={ ids:=[],roots:=[],eU:=[],R0:=aa,out:=fun r=>[],ret:=fun r=>[(true,[.int .i64 r.bM,.row .bD r.af,.row .bX r.ah,.row .cC r.ak])],g:=fun vs O=>match vs,O with
 | [.agg [.row .bU y0,.int .i64 y1,.row .bD y2,.row .bX y3,.row .cC y4],.one (.int .i64 y5)],[]=>Gj n d y0 y1 y2 y3 y4 y5
 | _,_=>none }
def X40 (n d:Nat):Cx C:=eP [] [] [(40,de (HC n d))] [] 2621440 []
theorem t40 (n d:Nat) (a0:dK) (a1:Int) (a2:aB) (a3:ay) (a4:aA) (a5:Int):gF (X40 n d) (F40 n) Try.f40 (HC n (d+1)) [.agg [.row .bU a0,.int .i64 a1,.row .bD a2,.row .bX a3,.row .cC a4],.one (.int .i64 a5)] [] QE=B40 n (Gj n d) a0 a1 a2 a3 a4 a5:=by
 kernel_rfl
def I40 (n:Nat):lz C:=de (HC n n)
theorem i40d (n:Nat):∀ d:Nat,cG Try.prog KK 40 (de (HC n d))
 | 0=>gX (fn:=Try.f40) (by kernel_rfl) (by kernel_rfl) (iD (by kernel_rfl)) _ (fun vs O=>by simp only [HC];split<;>rfl)
 | d+1=>by
  have ih:=i40d n d;have x:jk Try.prog (X40 n d):=jw;have q:Cons Try.prog (X40 n d):=fV trivial trivial ⟨ih,trivial⟩;refine lB x q (by kernel_rfl) (f:=40) (fn:=Try.f40) (c:=av Try.f40) (by kernel_rfl) (by kernel_rfl) (by kernel_rfl) (iD (by kernel_rfl)) (HC n (d+1)) (Nat.le_of_ble_eq_true (by kernel_rfl)) QE (fun os ls rs r0 h=>?_) (fun vs O r0 hk h=>?_)
  ·unfold QE at h
   split at h
   ·cases h;exact ⟨rfl,rfl,rfl⟩
   ·cases h
  ·simp only [HC] at h
   split at h
   ·rename_i y0 y1 y2 y3 y4 y5
    exact ⟨lQ,Nat.le_of_ble_eq_true (by kernel_rfl),F40 n,(t40 n d y0 y1 y2 y3 y4 y5).trans h⟩
   ·cases h
theorem i40 (n:Nat):cG Try.prog KK 40 (I40 n):=i40d n n
def F70 (n:Nat):Cf:={ N:=n,keep:=[0,1,2,3,4,5,6,7,8,9,10,11,12,16,41],live:=lk [(0,[2,4,8,9,10])] }
def FL (os:cm C) (ls:List (Lf C)) (rs:List (Bool×List (Lf C))):Option (aR×cJ):=match os,ls,rs with
 | [(77777777,.ghost)],[],[(true,[.row .bU wo,.int .i64 Hl,.row .bD Hk,.row .bX Hj,.row .cC Yu]),(false,[.row .e3 NU])]=>some ((⟨wo,Hl,Hk,Hj,Yu⟩:aR),NU)
 | _,_,_=>none
abbrev GH:Type:=cJ×Int×dK×Int×aB×ay×aA
section
variable (x1:eI) (x8:dK) (x9:Int) (aK:aB) (aN:ay) (aP:aA)
def s70_0:GH→St C:=fun (x0,x2,x3,x4,x5,x6,x7)=>{ env:=[(2,.one (.ptr 4587648 0)),(4,.one (.ptr 4587776 0)),(8,.one (.ref 100008 [])),(9,.one (.row .jq x1)),(10,.one (.int .i64 x2)),(90000,.frame),(90001,.bz (true,[]) 0)],aj:=[(100008,.row .e3 x0 false),(4587648,.box .mem [.row .bU x3,.int .i64 x4,.row .bD x5,.row .bX x6,.row .cC x7]),(4587776,.box .mem [.ref 459777600 [],.int .i64 x9,.ref 459777602 [],.ref 459777603 [],.ref 459777604 []]),(459777600,.row .bU x8 false),(459777602,.row .bD aK false),(459777603,.row .bX aN false),(459777604,.row .cC aP false),(77777777,.ghost)],base:=0 }
end
def OU (x1:eI) (n:Nat) (rc:(dK)→(Int)→(aB)→(ay)→(aA)→(Int)→(Int)→(Int)→(BA)→(Int)→(Bool)→(Int)→(Int)→(Int)→(Int)→(Int)→(Int)→(Int)→(Int)→(Int)→(Int)→(BA)→(Int)→(Bool)→Option (aR×cJ))  (aM:GH→Option (aR×cJ)):GH→Option (aR×cJ):=fun (x0,x2,x3,x4,x5,x6,x7)=>
 cond (decide (x2<(x1.length:Int)))
 (cond (decide (0≤x2)) (Option.bind x1[x2.toNat]? fun e6=>Option.bind (G14 (⟨x4,x5,x6,x7⟩:aa) e6) fun r7=>
 (fun y=>alt y (y))
 (Option.bind ((sX n n) x3 x4 x5 x6 x7 r7.1.bM r7.1.af r7.1.ah r7.1.ak) fun r8=>
 cond (decide ((x0.length+(([r7.2]:cJ)).length)*8≤140737488355328)) (aM ((x0++(([r7.2]:cJ)),i64.wrap (x2+1),r8.iS,r8.cA,r8.aV,r8.bH,r8.bI))) none)) none)
 (some ((⟨x3,x4,x5,x6,x7⟩:aR),x0))
def B70 (n:Nat) (rc:(dK)→(Int)→(aB)→(ay)→(aA)→(Int)→(Int)→(Int)→(BA)→(Int)→(Bool)→(Int)→(Int)→(Int)→(Int)→(Int)→(Int)→(Int)→(Int)→(Int)→(Int)→(BA)→(Int)→(Bool)→Option (aR×cJ)) (a0:dK) (a1:Int) (a2:aB) (a3:ay) (a4:aA) (a5 a6 a7:Int) (a8:BA) (a9:Int) (Gc:Bool) (Dh X7 X6 X4 X3 a16 X0 XZ XY a20:Int) (XX:BA) (a22:Int) (XW:Bool):Option (aR×cJ):=
 Option.bind (nS a5 1 6) fun r1=>
 cond (!r1)
 (Option.bind (G8 (⟨a1,a2,a3,a4⟩:aa) (⟨a7,a8,a9,Gc,Dh,X7,X6,X4,X3,a16,X0,XZ,XY,a20,XX,a22,XW⟩:aJ)) fun r2=>
 Option.bind ((sX n n) a0 a1 a2 a3 a4 r2.1.bM r2.1.af r2.1.ah r2.1.ak) fun r3=>
 some (r3,([r2.2]:cJ)))
 (Option.bind ((Gj n n) a0 a1 a2 a3 a4 a6) fun r4=>
 Option.bind (ND a5 r4) fun r5=>
 bS (OU r5 n rc ) n ((([]:cJ),0,a0,a1,a2,a3,a4)))
def rq (n:Nat):Nat→(dK)→(Int)→(aB)→(ay)→(aA)→(Int)→(Int)→(Int)→(BA)→(Int)→(Bool)→(Int)→(Int)→(Int)→(Int)→(Int)→(Int)→(Int)→(Int)→(Int)→(Int)→(BA)→(Int)→(Bool)→Option (aR×cJ)
 | 0=>fun _ _ _ _ _ _ _ _ _ _ _ _ _ _ _ _ _ _ _ _ _ _ _ _=>none
 | d+1=>B70 n (rq n d)
def DP (n d:Nat):iR C:={ ids:=[],roots:=[],eU:=[],R0:=aR×cJ,out:=fun r=>[],ret:=fun r=>[(true,[.row .bU r.1.iS,.int .i64 r.1.cA,.row .bD r.1.aV,.row .bX r.1.bH,.row .cC r.1.bI]),(false,[.row .e3 r.2])],g:=fun vs O=>match vs,O with
 | [.agg [.row .bU y0,.int .i64 y1,.row .bD y2,.row .bX y3,.row .cC y4],.agg [.int .i64 y5,.int .i64 y6,.int .i64 y7,.str y8,.int .i64 y9,.bool wy,.int .i64 G4,.int .i64 Nj,.int .i64 y13,.int .i64 y14,.int .i64 Hm,.int .i64 TF,.int .i64 Ja,.int .i64 G3,.int .i64 I9,.int .i64 zK,.str G2,.int .i64 zi,.bool LA]],[]=>rq n d y0 y1 y2 y3 y4 y5 y6 y7 y8 y9 wy G4 Nj y13 y14 Hm TF Ja G3 I9 zK G2 zi LA
 | _,_=>none }
def X70 (n d:Nat):Cx C:=eP [(8,(Fz con8)),(14,(Fz XQ)),(19,(Fz KL)),(26,qB)] [] [(70,de (DP n d)),(40,I40 n),(110,I110 n)] [2,3,4,5,7,8,9,10,12,27,28,29,31,32,33,34,35,36,37,56] 4587520 []
section
variable (x1:eI) (x8:dK) (x9:Int) (aK:aB) (aN:ay) (aP:aA)
def RT (n d:Nat)  (x:GH):Option (aR×cJ):=iter (fun rec S=>run (X70 n d) (F70 n) (aw (av Try.f70) [1,1,1,1,0,1,0,0]) 0 S (cH rec (bW 0 (bA (run (X70 n d) (F70 n) (aw (av Try.f70) [1,1,1,1,1]) 0) (j8 (X70 n d) Try.f70 FL))))) [2,4,8,9,10] n (s70_0 x1 x8 x9 aK aN aP x)
theorem m70_0 (n d:Nat)  (x:GH):RT x1 x8 x9 aK aN aP n d  x=bS (OU x1 n (rq n d) ) n x:=by
 refine iter_eq _ _ (fun aM x=>?_) n x;obtain ⟨x0,x2,x3,x4,x5,x6,x7⟩:=x
 kernel_rfl
end
theorem t70 (n d:Nat) (a0:dK) (a1:Int) (a2:aB) (a3:ay) (a4:aA) (a5 a6 a7:Int) (a8:BA) (a9:Int) (Gc:Bool) (Dh X7 X6 X4 X3 a16 X0 XZ XY a20:Int) (XX:BA) (a22:Int) (XW:Bool):gF (X70 n d) (F70 n) Try.f70 (DP n (d+1)) [.agg [.row .bU a0,.int .i64 a1,.row .bD a2,.row .bX a3,.row .cC a4],.agg [.int .i64 a5,.int .i64 a6,.int .i64 a7,.str a8,.int .i64 a9,.bool Gc,.int .i64 Dh,.int .i64 X7,.int .i64 X6,.int .i64 X4,.int .i64 X3,.int .i64 a16,.int .i64 X0,.int .i64 XZ,.int .i64 XY,.int .i64 a20,.str XX,.int .i64 a22,.bool XW]] [] FL=B70 n (rq n d) a0 a1 a2 a3 a4 a5 a6 a7 a8 a9 Gc Dh X7 X6 X4 X3 a16 X0 XZ XY a20 XX a22 XW:=by
 have h:gF (X70 n d) (F70 n) Try.f70 (DP n (d+1)) [.agg [.row .bU a0,.int .i64 a1,.row .bD a2,.row .bX a3,.row .cC a4],.agg [.int .i64 a5,.int .i64 a6,.int .i64 a7,.str a8,.int .i64 a9,.bool Gc,.int .i64 Dh,.int .i64 X7,.int .i64 X6,.int .i64 X4,.int .i64 X3,.int .i64 a16,.int .i64 X0,.int .i64 XZ,.int .i64 XY,.int .i64 a20,.str XX,.int .i64 a22,.bool XW]] [] FL =
  Option.bind (nS a5 1 6) fun r1=>
  cond (!r1)
  (Option.bind (G8 (⟨a1,a2,a3,a4⟩:aa) (⟨a7,a8,a9,Gc,Dh,X7,X6,X4,X3,a16,X0,XZ,XY,a20,XX,a22,XW⟩:aJ)) fun r2=>
  Option.bind ((sX n n) a0 a1 a2 a3 a4 r2.1.bM r2.1.af r2.1.ah r2.1.ak) fun r3=>
  some (r3,([r2.2]:cJ)))
  (Option.bind ((Gj n n) a0 a1 a2 a3 a4 a6) fun r4=>
  Option.bind (ND a5 r4) fun r5=>
  RT r5 (([]:dK)) 0 (([]:aB)) (([]:ay)) (([]:aA)) n d  ((([]:cJ),0,a0,a1,a2,a3,a4))):=by kernel_rfl
 simp only [h,B70,m70_0]
def I70 (n:Nat):lz C:=de (DP n n)
theorem i70d (n:Nat):∀ d:Nat,cG Try.prog KK 70 (de (DP n d))
 | 0=>gX (fn:=Try.f70) (by kernel_rfl) (by kernel_rfl) (iD (by kernel_rfl)) _ (fun vs O=>by simp only [DP];split<;>rfl)
 | d+1=>by
  have ih:=i70d n d;have x:jk Try.prog (X70 n d):=jw;have q:Cons Try.prog (X70 n d):=fV ⟨c8,c14,c19,Vk,trivial⟩ trivial ⟨ih,i40 n,i110 n,trivial⟩;refine lB x q (by kernel_rfl) (f:=70) (fn:=Try.f70) (c:=av Try.f70) (by kernel_rfl) (by kernel_rfl) (by kernel_rfl) (iD (by kernel_rfl)) (DP n (d+1)) (Nat.le_of_ble_eq_true (by kernel_rfl)) FL (fun os ls rs r0 h=>?_) (fun vs O r0 hk h=>?_)
  ·unfold FL at h
   split at h
   ·cases h;exact ⟨rfl,rfl,rfl⟩
   ·cases h
  ·simp only [DP] at h
   split at h
   ·rename_i y0 y1 y2 y3 y4 y5 y6 y7 y8 y9 wy G4 Nj y13 y14 Hm TF Ja G3 I9 zK G2 zi LA
    exact ⟨lQ,Nat.le_of_ble_eq_true (by kernel_rfl),F70 n,(t70 n d y0 y1 y2 y3 y4 y5 y6 y7 y8 y9 wy G4 Nj y13 y14 Hm TF Ja G3 I9 zK G2 zi LA).trans h⟩
   ·cases h
theorem i70 (n:Nat):cG Try.prog KK 70 (I70 n):=i70d n n
def Vr (n:Nat):Cx C:=eP [(73,QN),(111,QV),(112,QU)] [] [(70,I70 n)] [1,6,7,8,9,10,27,31,32,40,41,42,43,44,45,46,47,48] 4718592 []
def F72 (n:Nat):Cf:={ N:=n,keep:=[0,1,2,3,6,7,8,9,10,13,24,37],live:=lk [(0,[1,6,7,8,9]),(2,[1,6,7,8,9,10])] }
abbrev QA:=iX KK [.el .Be]
abbrev yU:Type:=Int×dK×Int×aB×ay×aA
abbrev sZ:Type:=Int×dK×Int×aB×ay×aA
section
variable (x0:Int) (x1:cJ) (x2:Int) (x4:dK) (x5:Int) (x6:aB) (x7:ay) (x8:aA)
def s72_1:yU→St C:=fun (x3,x9,aK,aN,aP,aX)=>{ env:=[(1,.one (.int .i64 x0)),(6,.one (.ptr 4718976 0)),(7,.one (.ref 100007 [])),(8,.one (.ptr 4719104 0)),(9,.one (.int .i64 x2)),(10,.one (.int .i64 x3))],aj:=[(100007,.row .e3 x1 false),(4718976,.box .mem [.ref 472897600 [],.int .i64 x5,.ref 472897602 [],.ref 472897603 [],.ref 472897604 []]),(472897600,.row .bU x4 false),(472897602,.row .bD x6 false),(472897603,.row .bX x7 false),(472897604,.row .cC x8 false),(4719104,.box .mem [.row .bU x9,.int .i64 aK,.row .bD aN,.row .bX aP,.row .cC aX])],base:=0 }
end
def OT (x1:cJ) (x2:Int) (n:Nat)  (aM:sZ→Option (aR)) (dg:yU→Option (aR)):yU→Option (aR):=fun (x3,x9,aK,aN,aP,aX)=>
 cond (decide (x3<(x1.length:Int)))
 (cond (decide (0≤x3)) (cond (decide (x3<(x1.length:Int))) (Option.bind x1[x3.toNat]? fun e4=>Option.bind ((rq n n) x9 aK aN aP aX e4 0 0 (⟨#[]⟩:BA) 0 false 0 0 0 0 0 0 0 0 0 0 (⟨#[]⟩:BA) 0 false) fun r5=>
 (fun y=>alt y (y))
 (dg ((i64.wrap (x3+1),r5.1.iS,r5.1.cA,r5.1.aV,r5.1.bH,r5.1.bI)))) none) none)
 (aM ((i64.wrap (x2+1),x9,aK,aN,aP,aX)))
section
variable (x0:Int) (x1:cJ) (x3:dK) (x4:Int) (x5:aB) (x6:ay) (x7:aA)
def OA:sZ→St C:=fun (x2,x8,x9,aK,aN,aP)=>{ env:=[(1,.one (.int .i64 x0)),(6,.one (.ptr 4718976 0)),(7,.one (.ref 100007 [])),(8,.one (.ptr 4719104 0)),(9,.one (.int .i64 x2))],aj:=[(100007,.row .e3 x1 false),(4718976,.box .mem [.ref 472897600 [],.int .i64 x4,.ref 472897602 [],.ref 472897603 [],.ref 472897604 []]),(472897600,.row .bU x3 false),(472897602,.row .bD x5 false),(472897603,.row .bX x6 false),(472897604,.row .cC x7 false),(4719104,.box .mem [.row .bU x8,.int .i64 x9,.row .bD aK,.row .bX aN,.row .cC aP])],base:=0 }
end
def Rt (x0:Int) (n:Nat)   (aM:sZ→Option (aR)) (l1:(Int)→yU→Option (aR)):sZ→Option (aR):=fun (x2,x8,x9,aK,aN,aP)=>
 cond (decide (x2<x0))
 (cond (decide (x2<1000))
 (Option.bind ((rq n n) x8 x9 aK aN aP 0 0 1 (⟨#[]⟩:BA) 0 false 0 0 0 0 0 0 0 0 0 0 (⟨#[]⟩:BA) 0 false) fun r3=>
 l1 x2 (0,r3.1.iS,r3.1.cA,r3.1.aV,r3.1.bH,r3.1.bI))
 (Option.bind (G73 (⟨x8,x9,aK,aN,aP⟩:aR)) fun r6=>
 some (r6)))
 (Option.bind (G73 (⟨x8,x9,aK,aN,aP⟩:aR)) fun r7=>
 some (r7))
def Ju (x0:Int) (x1:cJ) (n:Nat)   (aM:sZ→Option (aR)):sZ→Option (aR):=Rt x0 n  aM (fun y2 z=>bS (OT x1 y2 n aM) n z)
section
variable (x0:Int) (x1:cJ) (x2:Int) (x4:dK) (x5:Int) (x6:aB) (x7:ay) (x8:aA)
def RQ (n:Nat) (aM:St C→Option (aR)) (x:yU):Option (aR):=iter (fun rec S=>run (Vr n) (F72 n) (aw (av Try.f72) [1,1,1,1,0,1,0,0,1,0,0,1,1,0,0]) 2 S (cH rec (bW 2 (bW 1 (bA (run (Vr n) (F72 n) (aw (av Try.f72) [1,1,1,1,0,1,0,0,1,1]) 0) (cH (fR [1,6,7,8,9] aM) (bW 0 (bA (run (Vr n) (F72 n) (aw (av Try.f72) [1,1,1,1,1]) 0) (dM (Vr n) Try.f72 QA))))))))) [1,6,7,8,9,10] n (s72_1 x0 x1 x2 x4 x5 x6 x7 x8 x)
theorem m72_1 (n:Nat) (aM:St C→Option (aR)) (x:yU):RQ x0 x1 x2 x4 x5 x6 x7 x8 n aM x=bS (OT x1 x2 n  (fun x=>aM (OA x0 x1 x4 x5 x6 x7 x8 x))) n x:=by
 refine iter_eq _ _ (fun dg x=>?_) n x;obtain ⟨x3,x9,aK,aN,aP,aX⟩:=x
 kernel_rfl
end
section
variable (x0:Int) (x1:cJ) (x3:dK) (x4:Int) (x5:aB) (x6:ay) (x7:aA)
def RS (n:Nat)  (x:sZ):Option (aR):=iter (fun rec S=>run (Vr n) (F72 n) (aw (av Try.f72) [1,1,1,1,0,1,0,0]) 0 S (cH rec (bW 0 (bA (run (Vr n) (F72 n) (aw (av Try.f72) [1,1,1,1,1]) 0) (dM (Vr n) Try.f72 QA))))) [1,6,7,8,9] n (OA x0 x1 x3 x4 x5 x6 x7 x)
theorem m72_0 (n:Nat)  (x:sZ):RS x0 x1 x3 x4 x5 x6 x7 n  x=bS (Ju x0 x1 n  ) n x:=by
 refine iter_eq _ _ (fun aM x=>?_) n x;obtain ⟨x2,x8,x9,aK,aN,aP⟩:=x;refine Eq.trans (b:=Rt x0 n   (fun x=>aM (OA x0 x1 x3 x4 x5 x6 x7 x)) (fun y2 z=>RQ x0 x1 y2 x3 x4 x5 x6 x7 n  aM z) (x2,x8,x9,aK,aN,aP)) (by kernel_rfl) ?_;simp only [Ju,m72_1]
end
def VC (n:Nat) (a0:aR) (a1:Int) (a2:cJ):Option (aR):=
 Option.bind (Td a0) fun r1=>
 cond (!r1)
 (some ((⟨([]:dK),0,([]:aB),([]:ay),([]:aA)⟩:aR)))
 (Option.bind (Tc a2) fun r2=>
 bS (Ju a1 r2 n ) n (0,a0.iS,a0.cA,a0.aV,a0.bH,a0.bI))
theorem t72 (n:Nat) (a0:aR) (a1:Int) (a2:cJ):db (Vr n) (F72 n) Try.f72 [.agg [.row .bU a0.iS,.int .i64 a0.cA,.row .bD a0.aV,.row .bX a0.bH,.row .cC a0.bI],.one (.int .i64 a1),.one (.row .e3 a2)] QA=VC n a0 a1 a2:=by
 refine Eq.trans (b:=
  Option.bind (Td a0) fun r1=>
  cond (!r1)
  (some ((⟨([]:dK),0,([]:aB),([]:ay),([]:aA)⟩:aR)))
  (Option.bind (Tc a2) fun r2=>
  RS a1 r2 (([]:dK)) 0 (([]:aB)) (([]:ay)) (([]:aA)) n   (0,a0.iS,a0.cA,a0.aV,a0.bH,a0.bI))) (by kernel_rfl) ?_
 simp only [VC,m72_0]
def G72 (a0:aR) (a1:Int) (a2:cJ):Option (aR):=VC fuel a0 a1 a2
def XB:iu C:=kD KK [.el .Be,.int .i64,.row .e3] [.el .Be] G72
theorem c72:cL Try.prog KK 72 XB:=cP (fV ⟨c73,c111,c112,trivial⟩ trivial ⟨i70 _,trivial⟩:Cons Try.prog (Vr fuel)) (fn:=Try.f72) (F72 fuel) (fun a0 a1 a2=>t72 fuel a0 a1 a2)
def X20:Cx C:=eP [] [] [] [] 1310720 []
def F20 (n:Nat):Cf:={ N:=n,keep:=[0,2,5],live:=lk [] }
def I20 (n:Nat):lz C:=gg X20 (F20 n) Try.f20
theorem i20 (n:Nat):cG Try.prog KK 20 (I20 n):=iP (fV trivial trivial trivial:Cons Try.prog X20) (F20 n) (fn:=Try.f20)
def F23 (n:Nat):Cf:={ N:=n,keep:=[0,1,4,5,6,24,36],live:=lk [] }
def QF (os:cm C) (ls:List (Lf C)) (rs:List (Bool×List (Lf C))):Option (ed×Int×Int):=match os,ls,rs with
 | [(42949674271360,.box .mem [.row .e5 z0,.int .i64 z1]),(77777777,.ghost)],[.ptr 42949674271360 0],[(false,[.int .i64 wm])]=>some (z0,z1,wm)
 | _,_,_=>none
def B23 (n:Nat) (rc:(Int)→(ed)→(Int)→Option (ed×Int×Int)) (a0:Int) (a1:ed) (a2:Int):Option (ed×Int×Int):=
 cond (decide (a0<1))
 (some (a1,i64.wrap (a2+1),0))
 (cond ((a1.length:Int)==0)
 (some (a1,i64.wrap (a2+1),0))
 (cond (decide ((i64.wrap ((i64.wrap (a2+1))-1))<(a1.length:Int)))
 (cond (decide (0≤i64.wrap ((i64.wrap (a2+1))-1))) (Option.bind a1[(i64.wrap ((i64.wrap (a2+1))-1)).toNat]? fun e1=>cond (decide (a0=0)) none (some (a1,i64.wrap (a2+1),(i64.wrap e1).tmod a0))) none)
 (cond (decide ((a1.length:Int)=0)) none (cond (decide (0≤(i64.wrap ((i64.wrap (a2+1))-1)).tmod (a1.length:Int))) (Option.bind a1[((i64.wrap ((i64.wrap (a2+1))-1)).tmod (a1.length:Int)).toNat]? fun e2=>cond (decide ((a1.length:Int)=0)) none (cond (decide (0≤(i64.wrap ((i64.wrap ((i64.wrap ((i64.wrap (a2+1))-1))*7))+3)).tmod (a1.length:Int))) (Option.bind a1[((i64.wrap ((i64.wrap ((i64.wrap ((i64.wrap (a2+1))-1))*7))+3)).tmod (a1.length:Int)).toNat]? fun e3=>cond (decide ((a1.length:Int)=0)) none (cond (decide (64=0)) none (cond (decide (a0=0)) none (some (a1,i64.wrap (a2+1),(NV .i64 (i64.wrap ((i64.wrap ((i64.wrap ((i64.wrap ((i64.wrap e2)*131))+(i64.wrap ((i64.wrap e3)*1117))))+(i64.wrap ((i64.wrap ((i64.wrap (a2+1))-1))*29))))+(i64.wrap ((i64.wrap ((i64.wrap ((i64.wrap (a2+1))-1)).tdiv (a1.length:Int)))*53)))) (i64.wrap ((i64.wrap ((i64.wrap ((i64.wrap ((i64.wrap ((i64.wrap e2)*131))+(i64.wrap ((i64.wrap e3)*1117))))+(i64.wrap ((i64.wrap ((i64.wrap (a2+1))-1))*29))))+(i64.wrap ((i64.wrap ((i64.wrap ((i64.wrap (a2+1))-1)).tdiv (a1.length:Int)))*53)))).tdiv 64))).tmod a0))))) none)) none))))
def cE (n:Nat):Nat→(Int)→(ed)→(Int)→Option (ed×Int×Int)
 | 0=>fun _ _ _=>none
 | d+1=>B23 n (cE n d)
def HD (n d:Nat):iR C:={ ids:=[42949674271360],roots:=[.ptr 42949674271360 0],eU:=[],R0:=ed×Int×Int,out:=fun r=>[(42949674271360,.box .mem [.row .e5 r.1,.int .i64 r.2.1])],ret:=fun r=>[(false,[.int .i64 r.2.2])],g:=fun vs O=>match vs,O with
 | [.one (.ptr 42949674271360 0),.one (.int .i64 y0)],[(42949674271360,.box .mem [.row .e5 y1,.int .i64 y2])]=>cE n d y0 y1 y2
 | _,_=>none }
def X23 (n d:Nat):Cx C:=eP [] [] [(23,de (HD n d))] [] 1507328 []
theorem t23 (n d:Nat) (a0:Int) (a1:ed) (a2:Int):gF (X23 n d) (F23 n) Try.f23 (HD n (d+1)) [.one (.ptr 42949674271360 0),.one (.int .i64 a0)] [(42949674271360,.box .mem [.row .e5 a1,.int .i64 a2])] QF=B23 n (cE n d) a0 a1 a2:=by
 kernel_rfl
def Yo (n:Nat):lz C:=de (HD n n)
theorem i23d (n:Nat):∀ d:Nat,cG Try.prog KK 23 (de (HD n d))
 | 0=>gX (fn:=Try.f23) (by kernel_rfl) (by kernel_rfl) (iD (by kernel_rfl)) _ (fun vs O=>by simp only [HD];split<;>rfl)
 | d+1=>by
  have ih:=i23d n d;have x:jk Try.prog (X23 n d):=jw;have q:Cons Try.prog (X23 n d):=fV trivial trivial ⟨ih,trivial⟩;refine lB x q (by kernel_rfl) (f:=23) (fn:=Try.f23) (c:=av Try.f23) (by kernel_rfl) (by kernel_rfl) (by kernel_rfl) (iD (by kernel_rfl)) (HD n (d+1)) (Nat.le_of_ble_eq_true (by kernel_rfl)) QF (fun os ls rs r0 h=>?_) (fun vs O r0 hk h=>?_)
  ·unfold QF at h
   split at h
   ·cases h;exact ⟨rfl,rfl,rfl⟩
   ·cases h
  ·simp only [HD] at h
   split at h
   ·rename_i y0 y1 y2
    exact ⟨lQ,Nat.le_of_ble_eq_true (by kernel_rfl),F23 n,(t23 n d y0 y1 y2).trans h⟩
   ·cases h
theorem i23 (n:Nat):cG Try.prog KK 23 (Yo n):=i23d n n
def F51 (n:Nat):Cf:={ N:=n,keep:=[0,2,3,27,31,50],live:=lk [] }
def QD (os:cm C) (ls:List (Lf C)) (rs:List (Bool×List (Lf C))):Option (ed×Int×ae):=match os,ls,rs with
 | [(42949674271360,.box .mem [.row .e5 z0,.int .i64 z1]),(77777777,.ghost)],[.ptr 42949674271360 0],[(true,[.str wm,.int .i64 Hh,.bool Hg,.int .i64 Hf,.int .i64 NP,.int .i64 NN,.int .i64 NM,.int .i64 NL,.int .i64 NJ,.int .i64 NI,.int .i64 DH,.int .i64 DG,.int .i64 DF])]=>some (z0,z1,(⟨wm,Hh,Hg,Hf,NP,NN,NM,NL,NJ,NI,DH,DG,DF⟩:ae))
 | _,_,_=>none
def B51 (n:Nat) (rc:(ed)→(Int)→Option (ed×Int×ae)) (a0:ed) (a1:Int):Option (ed×Int×ae):=
 Option.bind ((cE n n) 3 a0 a1) fun r1=>
 cond (decide (0≤r1.2.2)) (cond (decide (r1.2.2<((([(⟨#[100,98]⟩:BA),(⟨#[119,101,98]⟩:BA),(⟨#[120,45,49]⟩:BA)]:zq)).length:Int))) (Option.bind (([(⟨#[100,98]⟩:BA),(⟨#[119,101,98]⟩:BA),(⟨#[120,45,49]⟩:BA)]:zq))[r1.2.2.toNat]? fun e2=>Option.bind ((cE n n) 3 r1.1 r1.2.1) fun r3=>
 Option.bind ((cE n n) 6 r3.1 r3.2.1) fun r4=>
 Option.bind ((cE n n) 3 r4.1 r4.2.1) fun r5=>
 Option.bind ((cE n n) 3 r5.1 r5.2.1) fun r6=>
 Option.bind ((cE n n) 10 r6.1 r6.2.1) fun r7=>
 cond ((i64.wrap (r5.2.2+r6.2.2))==0)
 (Option.bind ((cE n n) 3 r7.1 r7.2.1) fun r8=>
 cond (r8.2.2==0)
 (Option.bind ((cE n n) 9 r8.1 r8.2.1) fun r9=>
 Option.bind ((cE n n) 3 r9.1 r9.2.1) fun ib=>
 Option.bind ((cE n n) 5 ib.1 ib.2.1) fun rT=>
 Option.bind ((cE n n) 60 rT.1 rT.2.1) fun s6=>
 Option.bind ((cE n n) 4 s6.1 s6.2.1) fun qL=>
 cond (decide (qL.2.2>0))
 (some (qL.1,qL.2.1,(⟨e2,0,r7.2.2==0,i64.wrap (1+r3.2.2),ib.2.2,1,r6.2.2,0,i64.wrap (1+r9.2.2),ib.2.2,i64.wrap (ib.2.2+rT.2.2),s6.2.2,0⟩:ae)))
 (some (qL.1,qL.2.1,(⟨e2,0,r7.2.2==0,i64.wrap (1+r3.2.2),r4.2.2,1,r6.2.2,0,i64.wrap (1+r9.2.2),ib.2.2,i64.wrap (ib.2.2+rT.2.2),s6.2.2,0⟩:ae))))
 (some (r8.1,r8.2.1,(⟨e2,0,r7.2.2==0,i64.wrap (1+r3.2.2),r4.2.2,1,r6.2.2,0,0,0,0,0,0⟩:ae))))
 (Option.bind ((cE n n) 3 r7.1 r7.2.1) fun gM=>
 cond (gM.2.2==0)
 (Option.bind ((cE n n) 9 gM.1 gM.2.1) fun G7=>
 Option.bind ((cE n n) 3 G7.1 G7.2.1) fun r16=>
 Option.bind ((cE n n) 5 r16.1 r16.2.1) fun r17=>
 Option.bind ((cE n n) 60 r17.1 r17.2.1) fun Dy=>
 Option.bind ((cE n n) 4 Dy.1 Dy.2.1) fun zl=>
 cond (decide (zl.2.2>0))
 (some (zl.1,zl.2.1,(⟨e2,0,r7.2.2==0,i64.wrap (1+r3.2.2),r16.2.2,r5.2.2,r6.2.2,0,i64.wrap (1+G7.2.2),r16.2.2,i64.wrap (r16.2.2+r17.2.2),Dy.2.2,0⟩:ae)))
 (some (zl.1,zl.2.1,(⟨e2,0,r7.2.2==0,i64.wrap (1+r3.2.2),r4.2.2,r5.2.2,r6.2.2,0,i64.wrap (1+G7.2.2),r16.2.2,i64.wrap (r16.2.2+r17.2.2),Dy.2.2,0⟩:ae))))
 (some (gM.1,gM.2.1,(⟨e2,0,r7.2.2==0,i64.wrap (1+r3.2.2),r4.2.2,r5.2.2,r6.2.2,0,0,0,0,0,0⟩:ae))))) none) none
def sW (n:Nat):Nat→(ed)→(Int)→Option (ed×Int×ae)
 | 0=>fun _ _=>none
 | d+1=>B51 n (sW n d)
def HB (n d:Nat):iR C:={ ids:=[42949674271360],roots:=[.ptr 42949674271360 0],eU:=[],R0:=ed×Int×ae,out:=fun r=>[(42949674271360,.box .mem [.row .e5 r.1,.int .i64 r.2.1])],ret:=fun r=>[(true,[.str r.2.2.Name,.int .i64 r.2.2.Version,.bool r.2.2.bq,.int .i64 r.2.2.ax,.int .i64 r.2.2.Want,.int .i64 r.2.2.Down,.int .i64 r.2.2.bg,.int .i64 r.2.2.Next,.int .i64 r.2.2.bY,.int .i64 r.2.2.aD,.int .i64 r.2.2.aU,.int .i64 r.2.2.bF,.int .i64 r.2.2.bb])],g:=fun vs O=>match vs,O with
 | [.one (.ptr 42949674271360 0)],[(42949674271360,.box .mem [.row .e5 y0,.int .i64 y1])]=>sW n d y0 y1
 | _,_=>none }
def X51 (n d:Nat):Cx C:=eP [] [] [(51,de (HB n d)),(23,Yo n)] [0,2,3,4,5,6,7,8,9,10,11,12,13,14,15,16,17,18,19,20,21,30,31,33,34,35,37,38,39,40,41,42,43,44,46,47,49,50] 3342336 []
theorem t51 (n d:Nat) (a0:ed) (a1:Int):gF (X51 n d) (F51 n) Try.f51 (HB n (d+1)) [.one (.ptr 42949674271360 0)] [(42949674271360,.box .mem [.row .e5 a0,.int .i64 a1])] QD=B51 n (sW n d) a0 a1:=by
 kernel_rfl
def I51 (n:Nat):lz C:=de (HB n n)
theorem i51d (n:Nat):∀ d:Nat,cG Try.prog KK 51 (de (HB n d))
 | 0=>gX (fn:=Try.f51) (by kernel_rfl) (by kernel_rfl) (iD (by kernel_rfl)) _ (fun vs O=>by simp only [HB];split<;>rfl)
 | d+1=>by
  have ih:=i51d n d;have x:jk Try.prog (X51 n d):=jw;have q:Cons Try.prog (X51 n d):=fV trivial trivial ⟨ih,i23 n,trivial⟩;refine lB x q (by kernel_rfl) (f:=51) (fn:=Try.f51) (c:=av Try.f51) (by kernel_rfl) (by kernel_rfl) (by kernel_rfl) (iD (by kernel_rfl)) (HB n (d+1)) (Nat.le_of_ble_eq_true (by kernel_rfl)) QD (fun os ls rs r0 h=>?_) (fun vs O r0 hk h=>?_)
  ·unfold QD at h
   split at h
   ·cases h;exact ⟨rfl,rfl,rfl⟩
   ·cases h
  ·simp only [HB] at h
   split at h
   ·rename_i y0 y1
    exact ⟨lQ,Nat.le_of_ble_eq_true (by kernel_rfl),F51 n,(t51 n d y0 y1).trans h⟩
   ·cases h
theorem i51 (n:Nat):cG Try.prog KK 51 (I51 n):=i51d n n
def F22 (n:Nat):Cf:={ N:=n,keep:=[0,1,3,4,5,6,7,8,15,16,25,32,38,43,55,59,67,86],live:=lk [(1,[0,3,4,6])] }
def FM (os:cm C) (ls:List (Lf C)) (rs:List (Bool×List (Lf C))):Option (ed×Int×aJ):=match os,ls,rs with
 | [(42949674271360,.box .mem [.row .e5 z0,.int .i64 z1]),(77777777,.ghost)],[.ptr 42949674271360 0],[(true,[.int .i64 wm,.str Hh,.int .i64 Hg,.bool Hf,.int .i64 NP,.int .i64 NN,.int .i64 NM,.int .i64 NL,.int .i64 NJ,.int .i64 NI,.int .i64 DH,.int .i64 DG,.int .i64 DF,.int .i64 NT,.str NS,.int .i64 NR,.bool NQ])]=>some (z0,z1,(⟨wm,Hh,Hg,Hf,NP,NN,NM,NL,NJ,NI,DH,DG,DF,NT,NS,NR,NQ⟩:aJ))
 | _,_,_=>none
abbrev GS:Type:=Int×ed×Int
section
variable (x3:Int) (x4:aB) (x5:ay) (x6:aA) (x7:Int) (x8:BA) (x9:Int) (aK:Bool) (aN aP aX bf aS aO aT aW bh bJ:Int) (bG:BA) (bL:Int) (bZ:Bool)
def s22_0:GS→St C:=fun (x0,x1,x2)=>{ env:=[(0,.one (.ptr 42949674271360 0)),(3,.one (.ptr 1441984 0)),(4,.one (.ptr 1442048 0)),(6,.one (.int .i64 x0)),(90000,.frame),(90001,.bz (true,[.ptr 42949674271360 0]) 0)],aj:=[(42949674271360,.box .mem [.row .e5 x1,.int .i64 x2]),(1441984,.box .mem [.int .i64 x3,.row .bD x4,.row .bX x5,.row .cC x6]),(1442048,.box .mem [.int .i64 x7,.str x8,.int .i64 x9,.bool aK,.int .i64 aN,.int .i64 aP,.int .i64 aX,.int .i64 bf,.int .i64 aS,.int .i64 aO,.int .i64 aT,.int .i64 aW,.int .i64 bh,.int .i64 bJ,.str bG,.int .i64 bL,.bool bZ]),(77777777,.ghost)],base:=0 }
end
def JE (x4:aB) (x5:ay) (n:Nat) (rc:(Int)→(aB)→(ay)→(aA)→(ed)→(Int)→Option (ed×Int×aJ))  (aM:GS→Option (ed×Int×aJ)):GS→Option (ed×Int×aJ):=fun (x0,x1,x2)=>
 cond (decide (x0<(x4.length:Int)))
 (Option.bind ((cE n n) 2 x1 x2) fun r7=>
 cond (r7.2.2==0)
 (cond (decide (0≤x0)) (Option.bind x4[x0.toNat]? fun e8=>some (r7.1,r7.2.1,(⟨2,e8.Name,e8.Version,e8.bq,i64.wrap (e8.ax+1),e8.Want,e8.Down,e8.bg,e8.Next,e8.bY,e8.aD,e8.aU,e8.bF,e8.bb,(⟨#[]⟩:BA),0,false⟩:aJ))) none)
 (aM ((i64.wrap (x0+1),r7.1,r7.2.1))))
 (cond (decide ((x5.length:Int)>0))
 (Option.bind ((cE n n) 8 x1 x2) fun r9=>
 cond (decide (r9.2.2>0))
 (Option.bind ((cE n n) (x5.length:Int) r9.1 r9.2.1) fun ib=>
 cond (decide (0≤ib.2.2)) (Option.bind x5[ib.2.2.toNat]? fun IC=>some (ib.1,ib.2.1,(⟨3,(⟨#[]⟩:BA),0,false,0,0,0,0,0,0,0,0,0,0,IC.aq,IC.Number,false⟩:aJ))) none)
 (Option.bind ((cE n n) 6 r9.1 r9.2.1) fun s6=>
 some (s6.1,s6.2.1,(⟨3,(⟨#[]⟩:BA),0,false,0,0,0,0,0,0,0,0,0,0,(⟨#[119,101,98]⟩:BA),i64.wrap (1+s6.2.2),false⟩:aJ))))
 (Option.bind ((cE n n) 6 x1 x2) fun qL=>
 some (qL.1,qL.2.1,(⟨3,(⟨#[]⟩:BA),0,false,0,0,0,0,0,0,0,0,0,0,(⟨#[119,101,98]⟩:BA),i64.wrap (1+qL.2.2),false⟩:aJ))))
def B22 (n:Nat) (rc:(Int)→(aB)→(ay)→(aA)→(ed)→(Int)→Option (ed×Int×aJ)) (a0:Int) (a1:aB) (a2:ay) (a3:aA) (a4:ed) (a5:Int):Option (ed×Int×aJ):=
 Option.bind ((cE n n) 3 a4 a5) fun r1=>
 cond (decide (0≤r1.2.2)) (cond (decide (r1.2.2<((([(⟨#[97]⟩:BA),(⟨#[98]⟩:BA),(⟨#[99]⟩:BA)]:zq)).length:Int))) (Option.bind (([(⟨#[97]⟩:BA),(⟨#[98]⟩:BA),(⟨#[99]⟩:BA)]:zq))[r1.2.2.toNat]? fun e2=>Option.bind ((cE n n) 20 r1.1 r1.2.1) fun r3=>
 cond (r3.2.2==0)
 (some (r3.1,r3.2.1,(⟨1,(⟨#[]⟩:BA),0,false,0,0,0,0,0,0,0,0,0,0,(⟨#[]⟩:BA),0,false⟩:aJ)))
 (cond (r3.2.2==1)
 (some (r3.1,r3.2.1,(⟨1,(⟨#[]⟩:BA),0,false,0,0,0,0,0,0,0,0,0,0,(⟨#[]⟩:BA),0,false⟩:aJ)))
 (cond (r3.2.2==2)
 (some (r3.1,r3.2.1,(⟨1,(⟨#[]⟩:BA),0,false,0,0,0,0,0,0,0,0,0,0,(⟨#[]⟩:BA),0,false⟩:aJ)))
 (cond (r3.2.2==3)
 (some (r3.1,r3.2.1,(⟨1,(⟨#[]⟩:BA),0,false,0,0,0,0,0,0,0,0,0,0,(⟨#[]⟩:BA),0,false⟩:aJ)))
 (cond (r3.2.2==4)
 (some (r3.1,r3.2.1,(⟨1,(⟨#[]⟩:BA),0,false,0,0,0,0,0,0,0,0,0,0,(⟨#[]⟩:BA),0,false⟩:aJ)))
 (cond (r3.2.2==5)
 (some (r3.1,r3.2.1,(⟨1,(⟨#[]⟩:BA),0,false,0,0,0,0,0,0,0,0,0,0,(⟨#[]⟩:BA),0,false⟩:aJ)))
 (cond (r3.2.2==6)
 (some (r3.1,r3.2.1,(⟨1,(⟨#[]⟩:BA),0,false,0,0,0,0,0,0,0,0,0,0,(⟨#[]⟩:BA),0,false⟩:aJ)))
 (cond (r3.2.2==7)
 (Option.bind ((sW n n) r3.1 r3.2.1) fun r4=>
 some (r4.1,r4.2.1,(⟨2,r4.2.2.Name,r4.2.2.Version,r4.2.2.bq,r4.2.2.ax,r4.2.2.Want,r4.2.2.Down,r4.2.2.bg,r4.2.2.Next,r4.2.2.bY,r4.2.2.aD,r4.2.2.aU,r4.2.2.bF,r4.2.2.bb,(⟨#[]⟩:BA),0,false⟩:aJ)))
 (cond (r3.2.2==8)
 (Option.bind ((sW n n) r3.1 r3.2.1) fun r5=>
 some (r5.1,r5.2.1,(⟨2,r5.2.2.Name,r5.2.2.Version,r5.2.2.bq,r5.2.2.ax,r5.2.2.Want,r5.2.2.Down,r5.2.2.bg,r5.2.2.Next,r5.2.2.bY,r5.2.2.aD,r5.2.2.aU,r5.2.2.bF,r5.2.2.bb,(⟨#[]⟩:BA),0,false⟩:aJ)))
 (cond (r3.2.2==9)
 (Option.bind ((sW n n) r3.1 r3.2.1) fun r6=>
 some (r6.1,r6.2.1,(⟨2,r6.2.2.Name,r6.2.2.Version,r6.2.2.bq,r6.2.2.ax,r6.2.2.Want,r6.2.2.Down,r6.2.2.bg,r6.2.2.Next,r6.2.2.bY,r6.2.2.aD,r6.2.2.aU,r6.2.2.bF,r6.2.2.bb,(⟨#[]⟩:BA),0,false⟩:aJ)))
 (cond (r3.2.2==10)
 (bS (JE a1 a2 n rc ) n (0,r3.1,r3.2.1))
 (cond (r3.2.2==11)
 (some (r3.1,r3.2.1,(⟨4,(⟨#[]⟩:BA),0,false,0,0,0,0,0,0,0,0,0,0,e2,0,false⟩:aJ)))
 (cond (r3.2.2==12)
 (Option.bind ((cE n n) 3 r3.1 r3.2.1) fun gM=>
 some (gM.1,gM.2.1,(⟨5,(⟨#[]⟩:BA),0,false,0,0,0,0,0,0,0,0,0,0,e2,0,gM.2.2==0⟩:aJ)))
 (cond (r3.2.2==13)
 (Option.bind ((cE n n) 3 r3.1 r3.2.1) fun G7=>
 some (G7.1,G7.2.1,(⟨5,(⟨#[]⟩:BA),0,false,0,0,0,0,0,0,0,0,0,0,e2,0,G7.2.2==0⟩:aJ)))
 (cond (r3.2.2==14)
 (Option.bind ((cE n n) 3 r3.1 r3.2.1) fun r16=>
 cond (decide (0≤r16.2.2)) (cond (decide (r16.2.2<((([(⟨#[100,98]⟩:BA),(⟨#[119,101,98]⟩:BA),(⟨#[120,45,49]⟩:BA)]:zq)).length:Int))) (Option.bind (([(⟨#[100,98]⟩:BA),(⟨#[119,101,98]⟩:BA),(⟨#[120,45,49]⟩:BA)]:zq))[r16.2.2.toNat]? fun bQ=>Option.bind ((cE n n) 60 r16.1 r16.2.1) fun Dy=>
 some (Dy.1,Dy.2.1,(⟨6,(⟨#[]⟩:BA),0,false,0,0,0,0,0,0,0,0,0,0,bQ,Dy.2.2,false⟩:aJ))) none) none)
 (cond (r3.2.2==15)
 (Option.bind ((cE n n) 3 r3.1 r3.2.1) fun zl=>
 cond (decide (0≤zl.2.2)) (cond (decide (zl.2.2<((([(⟨#[100,98]⟩:BA),(⟨#[119,101,98]⟩:BA),(⟨#[120,45,49]⟩:BA)]:zq)).length:Int))) (Option.bind (([(⟨#[100,98]⟩:BA),(⟨#[119,101,98]⟩:BA),(⟨#[120,45,49]⟩:BA)]:zq))[zl.2.2.toNat]? fun e20=>Option.bind ((cE n n) 60 zl.1 zl.2.1) fun qz=>
 some (qz.1,qz.2.1,(⟨6,(⟨#[]⟩:BA),0,false,0,0,0,0,0,0,0,0,0,0,e20,qz.2.2,false⟩:aJ))) none) none)
 (cond (decide ((a2.length:Int)>0))
 (Option.bind ((cE n n) 8 r3.1 r3.2.1) fun dx=>
 cond (decide (dx.2.2>0))
 (Option.bind ((cE n n) (a2.length:Int) dx.1 dx.2.1) fun gZ=>
 cond (decide (0≤gZ.2.2)) (Option.bind a2[gZ.2.2.toNat]? fun Xa=>some (gZ.1,gZ.2.1,(⟨3,(⟨#[]⟩:BA),0,false,0,0,0,0,0,0,0,0,0,0,Xa.aq,Xa.Number,false⟩:aJ))) none)
 (Option.bind ((cE n n) 6 dx.1 dx.2.1) fun gY=>
 some (gY.1,gY.2.1,(⟨3,(⟨#[]⟩:BA),0,false,0,0,0,0,0,0,0,0,0,0,(⟨#[119,101,98]⟩:BA),i64.wrap (1+gY.2.2),false⟩:aJ))))
 (Option.bind ((cE n n) 6 r3.1 r3.2.1) fun EA=>
 some (EA.1,EA.2.1,(⟨3,(⟨#[]⟩:BA),0,false,0,0,0,0,0,0,0,0,0,0,(⟨#[119,101,98]⟩:BA),i64.wrap (1+EA.2.2),false⟩:aJ)))))))))))))))))))) none) none
def Dm (n:Nat):Nat→(Int)→(aB)→(ay)→(aA)→(ed)→(Int)→Option (ed×Int×aJ)
 | 0=>fun _ _ _ _ _ _=>none
 | d+1=>B22 n (Dm n d)
def DR (n d:Nat):iR C:={ ids:=[42949674271360],roots:=[.ptr 42949674271360 0],eU:=[],R0:=ed×Int×aJ,out:=fun r=>[(42949674271360,.box .mem [.row .e5 r.1,.int .i64 r.2.1])],ret:=fun r=>[(true,[.int .i64 r.2.2.Kind,.str r.2.2.eZ,.int .i64 r.2.2.dN,.bool r.2.2.ff,.int .i64 r.2.2.eF,.int .i64 r.2.2.eW,.int .i64 r.2.2.fg,.int .i64 r.2.2.eX,.int .i64 r.2.2.eY,.int .i64 r.2.2.fU,.int .i64 r.2.2.eE,.int .i64 r.2.2.fb,.int .i64 r.2.2.fe,.int .i64 r.2.2.fm,.str r.2.2.Name,.int .i64 r.2.2.Number,.bool r.2.2.yO])],g:=fun vs O=>match vs,O with
 | [.one (.ptr 42949674271360 0),.agg [.int .i64 y0,.row .bD y1,.row .bX y2,.row .cC y3]],[(42949674271360,.box .mem [.row .e5 y4,.int .i64 y5])]=>Dm n d y0 y1 y2 y3 y4 y5
 | _,_=>none }
def X22 (n d:Nat):Cx C:=eP [] [] [(22,de (DR n d)),(23,Yo n),(51,I51 n)] [0,3,4,5,6,8,9,11,12,13,15,30,31,42,43,62,64,65,66,70,71,72,73,74,75,76,77,82,84,85,86,87,88,89,90,91,92,93,94,95,102,103,104] 1441792 []
section
variable (x3:Int) (x4:aB) (x5:ay) (x6:aA) (x7:Int) (x8:BA) (x9:Int) (aK:Bool) (aN aP aX bf aS aO aT aW bh bJ:Int) (bG:BA) (bL:Int) (bZ:Bool)
def Ss (n d:Nat)  (x:GS):Option (ed×Int×aJ):=iter (fun rec S=>run (X22 n d) (F22 n) (aw (av Try.f22) [1,1,0,1,0,1,1,1,1,1,0,1,0,0]) 1 S (cH rec (bW 1 (bW 0 (bA (run (X22 n d) (F22 n) (aw (av Try.f22) [1,1,1]) 0) (j8 (X22 n d) Try.f22 FM)))))) [0,3,4,6] n (s22_0 x3 x4 x5 x6 x7 x8 x9 aK aN aP aX bf aS aO aT aW bh bJ bG bL bZ x)
theorem m22_0 (n d:Nat)  (x:GS):Ss x3 x4 x5 x6 x7 x8 x9 aK aN aP aX bf aS aO aT aW bh bJ bG bL bZ n d  x=bS (JE x4 x5 n (Dm n d) ) n x:=by
 refine iter_eq _ _ (fun aM x=>?_) n x;obtain ⟨x0,x1,x2⟩:=x
 kernel_rfl
end
theorem t22 (n d:Nat) (a0:Int) (a1:aB) (a2:ay) (a3:aA) (a4:ed) (a5:Int):gF (X22 n d) (F22 n) Try.f22 (DR n (d+1)) [.one (.ptr 42949674271360 0),.agg [.int .i64 a0,.row .bD a1,.row .bX a2,.row .cC a3]] [(42949674271360,.box .mem [.row .e5 a4,.int .i64 a5])] FM=B22 n (Dm n d) a0 a1 a2 a3 a4 a5:=by
 have h:gF (X22 n d) (F22 n) Try.f22 (DR n (d+1)) [.one (.ptr 42949674271360 0),.agg [.int .i64 a0,.row .bD a1,.row .bX a2,.row .cC a3]] [(42949674271360,.box .mem [.row .e5 a4,.int .i64 a5])] FM =
  Option.bind ((cE n n) 3 a4 a5) fun r1=>
  cond (decide (0≤r1.2.2)) (cond (decide (r1.2.2<((([(⟨#[97]⟩:BA),(⟨#[98]⟩:BA),(⟨#[99]⟩:BA)]:zq)).length:Int))) (Option.bind (([(⟨#[97]⟩:BA),(⟨#[98]⟩:BA),(⟨#[99]⟩:BA)]:zq))[r1.2.2.toNat]? fun e2=>Option.bind ((cE n n) 20 r1.1 r1.2.1) fun r3=>
  cond (r3.2.2==0)
  (some (r3.1,r3.2.1,(⟨1,(⟨#[]⟩:BA),0,false,0,0,0,0,0,0,0,0,0,0,(⟨#[]⟩:BA),0,false⟩:aJ)))
  (cond (r3.2.2==1)
  (some (r3.1,r3.2.1,(⟨1,(⟨#[]⟩:BA),0,false,0,0,0,0,0,0,0,0,0,0,(⟨#[]⟩:BA),0,false⟩:aJ)))
  (cond (r3.2.2==2)
  (some (r3.1,r3.2.1,(⟨1,(⟨#[]⟩:BA),0,false,0,0,0,0,0,0,0,0,0,0,(⟨#[]⟩:BA),0,false⟩:aJ)))
  (cond (r3.2.2==3)
  (some (r3.1,r3.2.1,(⟨1,(⟨#[]⟩:BA),0,false,0,0,0,0,0,0,0,0,0,0,(⟨#[]⟩:BA),0,false⟩:aJ)))
  (cond (r3.2.2==4)
  (some (r3.1,r3.2.1,(⟨1,(⟨#[]⟩:BA),0,false,0,0,0,0,0,0,0,0,0,0,(⟨#[]⟩:BA),0,false⟩:aJ)))
  (cond (r3.2.2==5)
  (some (r3.1,r3.2.1,(⟨1,(⟨#[]⟩:BA),0,false,0,0,0,0,0,0,0,0,0,0,(⟨#[]⟩:BA),0,false⟩:aJ)))
  (cond (r3.2.2==6)
  (some (r3.1,r3.2.1,(⟨1,(⟨#[]⟩:BA),0,false,0,0,0,0,0,0,0,0,0,0,(⟨#[]⟩:BA),0,false⟩:aJ)))
  (cond (r3.2.2==7)
  (Option.bind ((sW n n) r3.1 r3.2.1) fun r4=>
  some (r4.1,r4.2.1,(⟨2,r4.2.2.Name,r4.2.2.Version,r4.2.2.bq,r4.2.2.ax,r4.2.2.Want,r4.2.2.Down,r4.2.2.bg,r4.2.2.Next,r4.2.2.bY,r4.2.2.aD,r4.2.2.aU,r4.2.2.bF,r4.2.2.bb,(⟨#[]⟩:BA),0,false⟩:aJ)))
  (cond (r3.2.2==8)
  (Option.bind ((sW n n) r3.1 r3.2.1) fun r5=>
  some (r5.1,r5.2.1,(⟨2,r5.2.2.Name,r5.2.2.Version,r5.2.2.bq,r5.2.2.ax,r5.2.2.Want,r5.2.2.Down,r5.2.2.bg,r5.2.2.Next,r5.2.2.bY,r5.2.2.aD,r5.2.2.aU,r5.2.2.bF,r5.2.2.bb,(⟨#[]⟩:BA),0,false⟩:aJ)))
  (cond (r3.2.2==9)
  (Option.bind ((sW n n) r3.1 r3.2.1) fun r6=>
  some (r6.1,r6.2.1,(⟨2,r6.2.2.Name,r6.2.2.Version,r6.2.2.bq,r6.2.2.ax,r6.2.2.Want,r6.2.2.Down,r6.2.2.bg,r6.2.2.Next,r6.2.2.bY,r6.2.2.aD,r6.2.2.aU,r6.2.2.bF,r6.2.2.bb,(⟨#[]⟩:BA),0,false⟩:aJ)))
  (cond (r3.2.2==10)
  (Ss a0 a1 a2 a3 0 (⟨#[]⟩:BA) 0 false 0 0 0 0 0 0 0 0 0 0 (⟨#[]⟩:BA) 0 false n d  (0,r3.1,r3.2.1))
  (cond (r3.2.2==11)
  (some (r3.1,r3.2.1,(⟨4,(⟨#[]⟩:BA),0,false,0,0,0,0,0,0,0,0,0,0,e2,0,false⟩:aJ)))
  (cond (r3.2.2==12)
  (Option.bind ((cE n n) 3 r3.1 r3.2.1) fun gM=>
  some (gM.1,gM.2.1,(⟨5,(⟨#[]⟩:BA),0,false,0,0,0,0,0,0,0,0,0,0,e2,0,gM.2.2==0⟩:aJ)))
  (cond (r3.2.2==13)
  (Option.bind ((cE n n) 3 r3.1 r3.2.1) fun G7=>
  some (G7.1,G7.2.1,(⟨5,(⟨#[]⟩:BA),0,false,0,0,0,0,0,0,0,0,0,0,e2,0,G7.2.2==0⟩:aJ)))
  (cond (r3.2.2==14)
  (Option.bind ((cE n n) 3 r3.1 r3.2.1) fun r16=>
  cond (decide (0≤r16.2.2)) (cond (decide (r16.2.2<((([(⟨#[100,98]⟩:BA),(⟨#[119,101,98]⟩:BA),(⟨#[120,45,49]⟩:BA)]:zq)).length:Int))) (Option.bind (([(⟨#[100,98]⟩:BA),(⟨#[119,101,98]⟩:BA),(⟨#[120,45,49]⟩:BA)]:zq))[r16.2.2.toNat]? fun bQ=>Option.bind ((cE n n) 60 r16.1 r16.2.1) fun Dy=>
  some (Dy.1,Dy.2.1,(⟨6,(⟨#[]⟩:BA),0,false,0,0,0,0,0,0,0,0,0,0,bQ,Dy.2.2,false⟩:aJ))) none) none)
  (cond (r3.2.2==15)
  (Option.bind ((cE n n) 3 r3.1 r3.2.1) fun zl=>
  cond (decide (0≤zl.2.2)) (cond (decide (zl.2.2<((([(⟨#[100,98]⟩:BA),(⟨#[119,101,98]⟩:BA),(⟨#[120,45,49]⟩:BA)]:zq)).length:Int))) (Option.bind (([(⟨#[100,98]⟩:BA),(⟨#[119,101,98]⟩:BA),(⟨#[120,45,49]⟩:BA)]:zq))[zl.2.2.toNat]? fun e20=>Option.bind ((cE n n) 60 zl.1 zl.2.1) fun qz=>
  some (qz.1,qz.2.1,(⟨6,(⟨#[]⟩:BA),0,false,0,0,0,0,0,0,0,0,0,0,e20,qz.2.2,false⟩:aJ))) none) none)
  (cond (decide ((a2.length:Int)>0))
  (Option.bind ((cE n n) 8 r3.1 r3.2.1) fun dx=>
  cond (decide (dx.2.2>0))
  (Option.bind ((cE n n) (a2.length:Int) dx.1 dx.2.1) fun gZ=>
  cond (decide (0≤gZ.2.2)) (Option.bind a2[gZ.2.2.toNat]? fun Xa=>some (gZ.1,gZ.2.1,(⟨3,(⟨#[]⟩:BA),0,false,0,0,0,0,0,0,0,0,0,0,Xa.aq,Xa.Number,false⟩:aJ))) none)
  (Option.bind ((cE n n) 6 dx.1 dx.2.1) fun gY=>
  some (gY.1,gY.2.1,(⟨3,(⟨#[]⟩:BA),0,false,0,0,0,0,0,0,0,0,0,0,(⟨#[119,101,98]⟩:BA),i64.wrap (1+gY.2.2),false⟩:aJ))))
  (Option.bind ((cE n n) 6 r3.1 r3.2.1) fun EA=>
  some (EA.1,EA.2.1,(⟨3,(⟨#[]⟩:BA),0,false,0,0,0,0,0,0,0,0,0,0,(⟨#[119,101,98]⟩:BA),i64.wrap (1+EA.2.2),false⟩:aJ)))))))))))))))))))) none) none:=by kernel_rfl
 simp only [h,B22,m22_0]
def I22 (n:Nat):lz C:=de (DR n n)
theorem i22d (n:Nat):∀ d:Nat,cG Try.prog KK 22 (de (DR n d))
 | 0=>gX (fn:=Try.f22) (by kernel_rfl) (by kernel_rfl) (iD (by kernel_rfl)) _ (fun vs O=>by simp only [DR];split<;>rfl)
 | d+1=>by
  have ih:=i22d n d;have x:jk Try.prog (X22 n d):=jw;have q:Cons Try.prog (X22 n d):=fV trivial trivial ⟨ih,i23 n,i51 n,trivial⟩;refine lB x q (by kernel_rfl) (f:=22) (fn:=Try.f22) (c:=av Try.f22) (by kernel_rfl) (by kernel_rfl) (by kernel_rfl) (iD (by kernel_rfl)) (DR n (d+1)) (Nat.le_of_ble_eq_true (by kernel_rfl)) FM (fun os ls rs r0 h=>?_) (fun vs O r0 hk h=>?_)
  ·unfold FM at h
   split at h
   ·cases h;exact ⟨rfl,rfl,rfl⟩
   ·cases h
  ·simp only [DR] at h
   split at h
   ·rename_i y0 y1 y2 y3 y4 y5
    exact ⟨lQ,Nat.le_of_ble_eq_true (by kernel_rfl),F22 n,(t22 n d y0 y1 y2 y3 y4 y5).trans h⟩
   ·cases h
theorem i22 (n:Nat):cG Try.prog KK 22 (I22 n):=i22d n n
def F71 (n:Nat):Cf:={ N:=n,keep:=[0,1,3,4,7],live:=lk [] }
def QB (os:cm C) (ls:List (Lf C)) (rs:List (Bool×List (Lf C))):Option (ed×Int×gw):=match os,ls,rs with
 | [(42949674271360,.box .mem [.row .e5 z0,.int .i64 z1]),(77777777,.ghost)],[.ptr 42949674271360 0],[(true,[.int .i64 wm,.int .i64 Hh,.int .i64 Hg,.str Hf,.int .i64 NP,.bool NN,.int .i64 NM,.int .i64 NL,.int .i64 NJ,.int .i64 NI,.int .i64 DH,.int .i64 DG,.int .i64 DF,.int .i64 NT,.int .i64 NS,.int .i64 NR,.str NQ,.int .i64 z2_17,.bool z2_18])]=>some (z0,z1,(⟨wm,Hh,Hg,Hf,NP,NN,NM,NL,NJ,NI,DH,DG,DF,NT,NS,NR,NQ,z2_17,z2_18⟩:gw))
 | _,_,_=>none
def B71 (n:Nat) (rc:(Int)→(aB)→(ay)→(aA)→(ed)→(Int)→Option (ed×Int×gw)) (a0:Int) (a1:aB) (a2:ay) (a3:aA) (a4:ed) (a5:Int):Option (ed×Int×gw):=
 Option.bind ((cE n n) 5 a4 a5) fun r1=>
 cond (decide (r1.2.2<3))
 (Option.bind ((cE n n) 6 r1.1 r1.2.1) fun r2=>
 Option.bind ((cE n n) 6 r2.1 r2.2.1) fun r3=>
 cond (decide (0≤r3.2.2)) (cond (decide (r3.2.2<((([0,0,1,2,5,9]:cJ)).length:Int))) (Option.bind (([0,0,1,2,5,9]:cJ))[r3.2.2.toNat]? fun e4=>some (r3.1,r3.2.1,(⟨i64.wrap (1+r2.2.2),e4,0,(⟨#[]⟩:BA),0,false,0,0,0,0,0,0,0,0,0,0,(⟨#[]⟩:BA),0,false⟩:gw))) none) none)
 (Option.bind ((Dm n n) a0 a1 a2 a3 r1.1 r1.2.1) fun r5=>
 some (r5.1,r5.2.1,(⟨0,0,r5.2.2.Kind,r5.2.2.eZ,r5.2.2.dN,r5.2.2.ff,r5.2.2.eF,r5.2.2.eW,r5.2.2.fg,r5.2.2.eX,r5.2.2.eY,r5.2.2.fU,r5.2.2.eE,r5.2.2.fb,r5.2.2.fe,r5.2.2.fm,r5.2.2.Name,r5.2.2.Number,r5.2.2.yO⟩:gw)))
def Gi (n:Nat):Nat→(Int)→(aB)→(ay)→(aA)→(ed)→(Int)→Option (ed×Int×gw)
 | 0=>fun _ _ _ _ _ _=>none
 | d+1=>B71 n (Gi n d)
def HA (n d:Nat):iR C:={ ids:=[42949674271360],roots:=[.ptr 42949674271360 0],eU:=[],R0:=ed×Int×gw,out:=fun r=>[(42949674271360,.box .mem [.row .e5 r.1,.int .i64 r.2.1])],ret:=fun r=>[(true,[.int .i64 r.2.2.Dj,.int .i64 r.2.2.Age,.int .i64 r.2.2.ry,.str r.2.2.jc,.int .i64 r.2.2.gQ,.bool r.2.2.jf,.int .i64 r.2.2.iJ,.int .i64 r.2.2.iZ,.int .i64 r.2.2.jg,.int .i64 r.2.2.ja,.int .i64 r.2.2.jb,.int .i64 r.2.2.jI,.int .i64 r.2.2.iI,.int .i64 r.2.2.jd,.int .i64 r.2.2.je,.int .i64 r.2.2.jh,.str r.2.2.ru,.int .i64 r.2.2.nT,.bool r.2.2.rz])],g:=fun vs O=>match vs,O with
 | [.one (.ptr 42949674271360 0),.agg [.int .i64 y0,.row .bD y1,.row .bX y2,.row .cC y3]],[(42949674271360,.box .mem [.row .e5 y4,.int .i64 y5])]=>Gi n d y0 y1 y2 y3 y4 y5
 | _,_=>none }
def X71 (n d:Nat):Cx C:=eP [] [] [(71,de (HA n d)),(22,I22 n),(23,Yo n)] [0,3,4,6,7,9,10,11,12,13,14,15,16,19,20] 4653056 []
theorem t71 (n d:Nat) (a0:Int) (a1:aB) (a2:ay) (a3:aA) (a4:ed) (a5:Int):gF (X71 n d) (F71 n) Try.f71 (HA n (d+1)) [.one (.ptr 42949674271360 0),.agg [.int .i64 a0,.row .bD a1,.row .bX a2,.row .cC a3]] [(42949674271360,.box .mem [.row .e5 a4,.int .i64 a5])] QB=B71 n (Gi n d) a0 a1 a2 a3 a4 a5:=by
 kernel_rfl
def I71 (n:Nat):lz C:=de (HA n n)
theorem i71d (n:Nat):∀ d:Nat,cG Try.prog KK 71 (de (HA n d))
 | 0=>gX (fn:=Try.f71) (by kernel_rfl) (by kernel_rfl) (iD (by kernel_rfl)) _ (fun vs O=>by simp only [HA];split<;>rfl)
 | d+1=>by
  have ih:=i71d n d;have x:jk Try.prog (X71 n d):=jw;have q:Cons Try.prog (X71 n d):=fV trivial trivial ⟨ih,i22 n,i23 n,trivial⟩;refine lB x q (by kernel_rfl) (f:=71) (fn:=Try.f71) (c:=av Try.f71) (by kernel_rfl) (by kernel_rfl) (by kernel_rfl) (iD (by kernel_rfl)) (HA n (d+1)) (Nat.le_of_ble_eq_true (by kernel_rfl)) QB (fun os ls rs r0 h=>?_) (fun vs O r0 hk h=>?_)
  ·unfold QB at h
   split at h
   ·cases h;exact ⟨rfl,rfl,rfl⟩
   ·cases h
  ·simp only [HA] at h
   split at h
   ·rename_i y0 y1 y2 y3 y4 y5
    exact ⟨lQ,Nat.le_of_ble_eq_true (by kernel_rfl),F71 n,(t71 n d y0 y1 y2 y3 y4 y5).trans h⟩
   ·cases h
theorem i71 (n:Nat):cG Try.prog KK 71 (I71 n):=i71d n n
def Yf (n:Nat):Cx C:=eP [(72,(Fz XB)),(73,QN)] [] [(23,Yo n),(51,I51 n),(70,I70 n),(71,I71 n)] [0,2,3,4,5,7,11,12,15,16,17,21,22,25,26,31,32,33,34,35,36,37,38,41,46,47,48,49,50,51,52,53,56,57,58,59,60,61,62,63,64,65,66,67,68] 2490368 []
def F38 (n:Nat):Cf:={ N:=n,keep:=[0,2,3,4,5,16,28,43,57],live:=lk [(0,[0,2,3,4]),(2,[0,2,3,5])] }
def I38 (n:Nat):lz C:=gg (Yf n) (F38 n) Try.f38
theorem i38 (n:Nat):cG Try.prog KK 38 (I38 n):=iP (fV ⟨c72,c73,trivial⟩ trivial ⟨i23 _,i51 _,i70 _,i71 _,trivial⟩:Cons Try.prog (Yf n)) (F38 n) (fn:=Try.f38)
def Ye (n:Nat):Cx C:=eP [] [] [(38,I38 n)] [2,4,5] 3211264 []
def F49 (n:Nat):Cf:={ N:=n,keep:=[0,2],live:=lk [] }
def I49 (n:Nat):lz C:=gg (Ye n) (F49 n) Try.f49
theorem i49 (n:Nat):cG Try.prog KK 49 (I49 n):=iP (fV trivial trivial ⟨i38 _,trivial⟩:Cons Try.prog (Ye n)) (F49 n) (fn:=Try.f49)
def X50 (n:Nat):Cx C:=eP [(27,Bj)] [] [(23,Yo n)] [0,4,5,6,7,14,19,32,47,49,50,51,52,55,56,57,58,59,60,61,62,63,64,67,68,69,70,71,72,73,74,75,76,77,78,79,80,81,84,85,86,87,88,89,90,91,92,93,96,97,98,99,100,101,102,103,104,105,108,109,110,111,112,113,114,115,116,117,125,126,127,128,129,130,131,132,133,134,137,138,139,140,141,142,143,144,145,146,149,150,151,152,153,154,155,156,157,158,161,162,163,164,165,166,167,168,169,170,173,174,175,176,177,178,179,180,181,182,185,186,187,188,189,190,191,192,193,194,197,198,199,200,201,202,203,204,205,206,209,210,211,212,213,214,215,216,217,218,221,222,223,224,225,226,227,228,229,230,233,234,235,236,237,238,239,240,241,242,257,258,259,260,261,262,263,264,265,266,267,270,271,272,273,274,275,276,277,278,279,280,281,282] 3276800 []
def F50 (n:Nat):Cf:={ N:=n,keep:=[0,1,3,4,5,6,7,29,32,45,53,65,82,94,106,118,135,147,159,171,183,195,207,219,231,243,255,268],live:=lk [] }
def I50 (n:Nat):lz C:=gg (X50 n) (F50 n) Try.f50
theorem i50 (n:Nat):cG Try.prog KK 50 (I50 n):=iP (fV ⟨c27,trivial⟩ trivial ⟨i23 _,trivial⟩:Cons Try.prog (X50 n)) (F50 n) (fn:=Try.f50)
def VV (n:Nat):Cf:={ N:=n,keep:=[0,2,3,4,5,9,10,15,21,32,44,80,85],live:=lk [(1,[0,2,3,4,5])] }
def yq (os:cm C) (ls:List (Lf C)) (rs:List (Bool×List (Lf C))):Option (ed×Int×aa):=match os,ls,rs with
 | [(42949674271360,.box .mem [.row .e5 z0,.int .i64 z1]),(77777777,.ghost)],[.ptr 42949674271360 0],[(true,[.int .i64 wm,.row .bD Hh,.row .bX Hg,.row .cC Hf])]=>some (z0,z1,(⟨wm,Hh,Hg,Hf⟩:aa))
 | _,_,_=>none
abbrev vf:Type:=ed×Int×aB×ay
abbrev qI:Type:=Int×ed×Int×dK×Int×aB×ay×aA
abbrev s4:Type:=Int×ed×Int×dK×Int×aB×ay×aA
section
variable (x0 x1 x4:Int) (x5:aB) (x6:ay) (x7:aA) (x8:Int) (aN:aA)
def s21_2:vf→St C:=fun (x2,x3,x9,aK)=>{ env:=[(0,.one (.ptr 42949674271360 0)),(2,.one (.ptr 1376384 0)),(3,.one (.ptr 1376448 0)),(4,.one (.int .i64 x0)),(5,.one (.int .i64 x1)),(90000,.frame),(90001,.bz (true,[.ptr 42949674271360 0]) 0)],aj:=[(42949674271360,.box .mem [.row .e5 x2,.int .i64 x3]),(1376384,.box .mem [.int .i64 x4,.ref 138638401 [],.ref 138638402 [],.ref 138638403 []]),(138638401,.row .bD x5 false),(138638402,.row .bX x6 false),(138638403,.row .cC x7 false),(1376448,.box .mem [.int .i64 x8,.ref 138644801 [],.ref 138644802 [],.ref 138644803 []]),(138644801,.row .bD x9 false),(138644802,.row .bX aK false),(138644803,.row .cC aN false),(77777777,.ghost)],base:=0 }
end
def JF (x0 x1 x8:Int) (aN:aA) (n:Nat) (rc:(ed)→(Int)→Option (ed×Int×aa))  (dD:vf→Option (ed×Int×aa)):vf→Option (ed×Int×aa):=fun (x2,x3,x9,aK)=>
 cond (decide ((aK.length:Int)<x1))
 (cond (decide (0≤x0)) (cond (decide (x0<(x9.length:Int))) (Option.bind x9[x0.toNat]? fun e84=>cond (decide (0≤x0)) (cond (decide (x0<(x9.length:Int))) (Option.bind x9[x0.toNat]? fun Bd=>cond (decide (0≤0)) (cond (decide (0<(aN.length:Int))) (Option.bind aN[(0:Int).toNat]? fun e86=>Option.bind ((cE n n) 2 x2 x3) fun r87=>
 cond (decide ((aK.length+(([(⟨e84.Name,Bd.Next,1,1,3,r87.2.2==0,e86.Name⟩:ai)]:ay)).length)*72≤140737488355328)) (cond (decide (0≤x0)) (cond (decide (x0<(x9.length:Int))) (Option.bind x9[x0.toNat]? fun e88=>cond (decide (0≤x0)) (cond (decide (x0<(x9.length:Int))) (Option.bind x9[x0.toNat]? fun Nv=>dD ((r87.1,r87.2.1,x9.set x0.toNat ((⟨Nv.Name,Nv.Version,Nv.bq,Nv.ax,Nv.Want,Nv.Down,Nv.bg,i64.wrap (e88.Next+1),Nv.bY,Nv.aD,Nv.aU,Nv.bF,Nv.bb⟩:ae)),aK++(([(⟨e84.Name,Bd.Next,1,1,3,r87.2.2==0,e86.Name⟩:ai)]:ay))))) none) none) none) none) none) none) none) none) none) none) none)
 (some (x2,x3,(⟨x8,x9,aK,aN⟩:aa)))
section
variable (x3:dK) (x4:Int) (x5:aB) (x6:ay) (x7:aA) (aX:Int) (bf:aB) (aS:ay) (aO:aA) (aT:Int) (aW:aB) (bh:ay) (bJ:aA)
def Wj:qI→St C:=fun (x0,x1,x2,x8,x9,aK,aN,aP)=>{ env:=[(0,.one (.ptr 42949674271360 0)),(2,.one (.ptr 34381213206970496 0)),(3,.one (.ptr 34381213206970560 0)),(5,.one (.int .i64 x0)),(1002,.bz (false,[.ptr 34359741579392 0]) 8005002),(2000,.bz (false,[.ptr 42949674271360 0]) 8000),(2002,.bz (false,[.ptr 1376384 0]) 8002),(92000,.frame),(92001,.bz (true,[.ptr 42949674271360 0]) 0)],aj:=[(42949674271360,.box .mem [.row .e5 x1,.int .i64 x2]),(34381213206970496,.box .mem [.ref 3438121320698049600 [],.int .i64 x4,.ref 3438121320698049602 [],.ref 3438121320698049603 [],.ref 3438121320698049604 []]),(3438121320698049600,.row .bU x3 false),(3438121320698049602,.row .bD x5 false),(3438121320698049603,.row .bX x6 false),(3438121320698049604,.row .cC x7 false),(34381213206970560,.box .mem [.row .bU x8,.int .i64 x9,.row .bD aK,.row .bX aN,.row .cC aP]),(34359741579392,.box .mem [.int .i64 aX,.ref 3435974158939201 [],.ref 3435974158939202 [],.ref 3435974158939203 []]),(3435974158939201,.row .bD bf false),(3435974158939202,.row .bX aS false),(3435974158939203,.row .cC aO false),(1376384,.box .mem [.int .i64 aT,.ref 138638401 [],.ref 138638402 [],.ref 138638403 []]),(138638401,.row .bD aW false),(138638402,.row .bX bh false),(138638403,.row .cC bJ false),(77777777,.ghost)],base:=8005000 }
end
def Ry  (n:Nat) (rc:(ed)→(Int)→Option (ed×Int×aa))  (dg:qI→Option (ed×Int×aa)) (l2:(Int)→(Int)→(Int)→(aA)→vf→Option (ed×Int×aa)):qI→Option (ed×Int×aa):=fun (x0,x1,x2,x8,x9,aK,aN,aP)=>
 cond (decide (x0>0))
 (Option.bind ((Gi n n) x9 aK aN aP x1 x2) fun r8=>
 Option.bind ((rq n n) x8 x9 aK aN aP r8.2.2.Dj r8.2.2.Age r8.2.2.ry r8.2.2.jc r8.2.2.gQ r8.2.2.jf r8.2.2.iJ r8.2.2.iZ r8.2.2.jg r8.2.2.ja r8.2.2.jb r8.2.2.jI r8.2.2.iI r8.2.2.jd r8.2.2.je r8.2.2.jh r8.2.2.ru r8.2.2.nT r8.2.2.rz) fun r9=>
 (fun y=>alt y (y))
 (Option.bind ((cE n n) 8 r8.1 r8.2.1) fun ib=>
 cond (ib.2.2==0)
 (Option.bind ((cE n n) 7 ib.1 ib.2.1) fun rT=>
 Option.bind ((cE n n) 6 rT.1 rT.2.1) fun s6=>
 Option.bind ((cE n n) 6 s6.1 s6.2.1) fun qL=>
 Option.bind (G72 r9.1 rT.2.2 (([i64.wrap (1+s6.2.2),i64.wrap (1+qL.2.2)]:cJ))) fun gM=>
 dg ((i64.wrap (x0-1),qL.1,qL.2.1,gM.iS,gM.cA,gM.aV,gM.bH,gM.bI)))
 (dg ((i64.wrap (x0-1),ib.1,ib.2.1,r9.1.iS,r9.1.cA,r9.1.aV,r9.1.bH,r9.1.bI)))))
 (Option.bind (G73 (⟨x8,x9,aK,aN,aP⟩:aR)) fun kH=>
 Option.bind ((cE n n) 24 x1 x2) fun qz=>
 cond (qz.2.2==0)
 (Option.bind (DE (⟨kH.cA,kH.aV,kH.bH,kH.bI⟩:aa)) fun dx=>
 Option.bind ((cE n n) (dx.af.length:Int) qz.1 qz.2.1) fun gZ=>
 Option.bind ((cE n n) (dx.ah.length:Int) gZ.1 gZ.2.1) fun jX=>
 cond ((dx.af.length:Int)==0)
 (some (jX.1,jX.2.1,(⟨(-1),([]:aB),([]:ay),([]:aA)⟩:aa)))
 (cond ((dx.ah.length:Int)==0)
 (some (jX.1,jX.2.1,(⟨(-1),([]:aB),([]:ay),([]:aA)⟩:aa)))
 (Option.bind ((cE n n) 20 jX.1 jX.2.1) fun gY=>
 cond (gY.2.2==0)
 (Option.bind ((cE n n) 5 gY.1 gY.2.1) fun EA=>
 cond (decide (0≤EA.2.2)) (cond (decide (EA.2.2<((([(-1),0,1,1000000,1000001]:cJ)).length:Int))) (Option.bind (([(-1),0,1,1000000,1000001]:cJ))[EA.2.2.toNat]? fun bU=>some (EA.1,EA.2.1,(⟨bU,dx.af,dx.ah,dx.ak⟩:aa))) none) none)
 (cond (gY.2.2==1)
 (Option.bind ((cE n n) 3 gY.1 gY.2.1) fun Tk=>
 cond (decide (0≤Tk.2.2)) (cond (decide (Tk.2.2<((([(⟨#[]⟩:BA),(⟨#[88]⟩:BA),(⟨#[122,122]⟩:BA)]:zq)).length:Int))) (Option.bind (([(⟨#[]⟩:BA),(⟨#[88]⟩:BA),(⟨#[122,122]⟩:BA)]:zq))[Tk.2.2.toNat]? fun bD=>cond (decide (0≤gZ.2.2)) (cond (decide (gZ.2.2<(dx.af.length:Int))) (Option.bind dx.af[gZ.2.2.toNat]? fun Kw=>some (Tk.1,Tk.2.1,(⟨dx.bM,dx.af.set gZ.2.2.toNat (⟨bD,Kw.Version,Kw.bq,Kw.ax,Kw.Want,Kw.Down,Kw.bg,Kw.Next,Kw.bY,Kw.aD,Kw.aU,Kw.bF,Kw.bb⟩:ae),dx.ah,dx.ak⟩:aa))) none) none) none) none)
 (cond (gY.2.2==2)
 (Option.bind ((cE n n) 3 gY.1 gY.2.1) fun vL=>
 cond (decide (0≤vL.2.2)) (cond (decide (vL.2.2<((([0,dx.bM,i64.wrap (dx.bM+1)]:cJ)).length:Int))) (Option.bind (([0,dx.bM,i64.wrap (dx.bM+1)]:cJ))[vL.2.2.toNat]? fun W9=>cond (decide (0≤gZ.2.2)) (cond (decide (gZ.2.2<(dx.af.length:Int))) (Option.bind dx.af[gZ.2.2.toNat]? fun Kv=>some (vL.1,vL.2.1,(⟨dx.bM,dx.af.set gZ.2.2.toNat (⟨Kv.Name,W9,Kv.bq,Kv.ax,Kv.Want,Kv.Down,Kv.bg,Kv.Next,Kv.bY,Kv.aD,Kv.aU,Kv.bF,Kv.bb⟩:ae),dx.ah,dx.ak⟩:aa))) none) none) none) none)
 (cond (gY.2.2==3)
 (Option.bind ((cE n n) 3 gY.1 gY.2.1) fun r34=>
 cond (decide (0≤r34.2.2)) (cond (decide (r34.2.2<((([0,1000000,1000001]:cJ)).length:Int))) (Option.bind (([0,1000000,1000001]:cJ))[r34.2.2.toNat]? fun W8=>cond (decide (0≤gZ.2.2)) (cond (decide (gZ.2.2<(dx.af.length:Int))) (Option.bind dx.af[gZ.2.2.toNat]? fun Ku=>some (r34.1,r34.2.1,(⟨dx.bM,dx.af.set gZ.2.2.toNat (⟨Ku.Name,Ku.Version,Ku.bq,W8,Ku.Want,Ku.Down,Ku.bg,Ku.Next,Ku.bY,Ku.aD,Ku.aU,Ku.bF,Ku.bb⟩:ae),dx.ah,dx.ak⟩:aa))) none) none) none) none)
 (cond (gY.2.2==4)
 (Option.bind ((cE n n) 3 gY.1 gY.2.1) fun Y6=>
 cond (decide (0≤Y6.2.2)) (cond (decide (Y6.2.2<((([(-1),10,11]:cJ)).length:Int))) (Option.bind (([(-1),10,11]:cJ))[Y6.2.2.toNat]? fun e38=>cond (decide (0≤gZ.2.2)) (cond (decide (gZ.2.2<(dx.af.length:Int))) (Option.bind dx.af[gZ.2.2.toNat]? fun Kt=>some (Y6.1,Y6.2.1,(⟨dx.bM,dx.af.set gZ.2.2.toNat (⟨Kt.Name,Kt.Version,Kt.bq,Kt.ax,e38,Kt.Down,Kt.bg,Kt.Next,Kt.bY,Kt.aD,Kt.aU,Kt.bF,Kt.bb⟩:ae),dx.ah,dx.ak⟩:aa))) none) none) none) none)
 (cond (gY.2.2==5)
 (Option.bind ((cE n n) 3 gY.1 gY.2.1) fun Y5=>
 cond (decide (0≤Y5.2.2)) (cond (decide (Y5.2.2<((([(-1),10,11]:cJ)).length:Int))) (Option.bind (([(-1),10,11]:cJ))[Y5.2.2.toNat]? fun jq=>cond (decide (0≤gZ.2.2)) (cond (decide (gZ.2.2<(dx.af.length:Int))) (Option.bind dx.af[gZ.2.2.toNat]? fun C3=>some (Y5.1,Y5.2.1,(⟨dx.bM,dx.af.set gZ.2.2.toNat (⟨C3.Name,C3.Version,C3.bq,C3.ax,C3.Want,jq,C3.bg,C3.Next,C3.bY,C3.aD,C3.aU,C3.bF,C3.bb⟩:ae),dx.ah,dx.ak⟩:aa))) none) none) none) none)
 (cond (gY.2.2==6)
 (cond (decide (0≤gZ.2.2)) (cond (decide (gZ.2.2<(dx.af.length:Int))) (Option.bind dx.af[gZ.2.2.toNat]? fun oA=>Option.bind ((cE n n) 3 gY.1 gY.2.1) fun r44=>
 cond (decide (0≤r44.2.2)) (cond (decide (r44.2.2<((([0,1,11]:cJ)).length:Int))) (Option.bind (([0,1,11]:cJ))[r44.2.2.toNat]? fun e45=>cond (decide (0≤gZ.2.2)) (cond (decide (gZ.2.2<((dx.af.set gZ.2.2.toNat (⟨oA.Name,oA.Version,oA.bq,oA.ax,oA.Want,0,oA.bg,oA.Next,oA.bY,oA.aD,oA.aU,oA.bF,oA.bb⟩:ae)).length:Int))) (Option.bind (dx.af.set gZ.2.2.toNat (⟨oA.Name,oA.Version,oA.bq,oA.ax,oA.Want,0,oA.bg,oA.Next,oA.bY,oA.aD,oA.aU,oA.bF,oA.bb⟩:ae))[gZ.2.2.toNat]? fun Ks=>some (r44.1,r44.2.1,(⟨dx.bM,(dx.af.set gZ.2.2.toNat (⟨oA.Name,oA.Version,oA.bq,oA.ax,oA.Want,0,oA.bg,oA.Next,oA.bY,oA.aD,oA.aU,oA.bF,oA.bb⟩:ae)).set gZ.2.2.toNat (⟨Ks.Name,Ks.Version,Ks.bq,Ks.ax,Ks.Want,Ks.Down,e45,Ks.Next,Ks.bY,Ks.aD,Ks.aU,Ks.bF,Ks.bb⟩:ae),dx.ah,dx.ak⟩:aa))) none) none) none) none) none) none)
 (cond (gY.2.2==7)
 (Option.bind ((cE n n) 4 gY.1 gY.2.1) fun Y4=>
 cond (decide (0≤Y4.2.2)) (cond (decide (Y4.2.2<((([0,1,1000000,1000001]:cJ)).length:Int))) (Option.bind (([0,1,1000000,1000001]:cJ))[Y4.2.2.toNat]? fun e48=>cond (decide (0≤gZ.2.2)) (cond (decide (gZ.2.2<(dx.af.length:Int))) (Option.bind dx.af[gZ.2.2.toNat]? fun Kr=>some (Y4.1,Y4.2.1,(⟨dx.bM,dx.af.set gZ.2.2.toNat (⟨Kr.Name,Kr.Version,Kr.bq,Kr.ax,Kr.Want,Kr.Down,Kr.bg,e48,Kr.bY,Kr.aD,Kr.aU,Kr.bF,Kr.bb⟩:ae),dx.ah,dx.ak⟩:aa))) none) none) none) none)
 (cond (gY.2.2==8)
 (Option.bind ((cE n n) 4 gY.1 gY.2.1) fun Y3=>
 cond (decide (0≤Y3.2.2)) (cond (decide (Y3.2.2<((([(-1),0,5,1000001]:cJ)).length:Int))) (Option.bind (([(-1),0,5,1000001]:cJ))[Y3.2.2.toNat]? fun e51=>cond (decide (0≤gZ.2.2)) (cond (decide (gZ.2.2<(dx.af.length:Int))) (Option.bind dx.af[gZ.2.2.toNat]? fun Kq=>some (Y3.1,Y3.2.1,(⟨dx.bM,dx.af.set gZ.2.2.toNat (⟨Kq.Name,Kq.Version,Kq.bq,Kq.ax,Kq.Want,Kq.Down,Kq.bg,Kq.Next,e51,Kq.aD,Kq.aU,Kq.bF,Kq.bb⟩:ae),dx.ah,dx.ak⟩:aa))) none) none) none) none)
 (cond (gY.2.2==9)
 (Option.bind ((cE n n) 3 gY.1 gY.2.1) fun Y2=>
 cond (decide (0≤Y2.2.2)) (cond (decide (Y2.2.2<((([(-1),1,11]:cJ)).length:Int))) (Option.bind (([(-1),1,11]:cJ))[Y2.2.2.toNat]? fun e54=>cond (decide (0≤gZ.2.2)) (cond (decide (gZ.2.2<(dx.af.length:Int))) (Option.bind dx.af[gZ.2.2.toNat]? fun ck=>some (Y2.1,Y2.2.1,(⟨dx.bM,dx.af.set gZ.2.2.toNat (⟨ck.Name,ck.Version,ck.bq,ck.ax,ck.Want,ck.Down,ck.bg,ck.Next,ck.bY,e54,ck.aU,ck.bF,ck.bb⟩:ae),dx.ah,dx.ak⟩:aa))) none) none) none) none)
 (cond (gY.2.2==10)
 (Option.bind ((cE n n) 4 gY.1 gY.2.1) fun r56=>
 cond (decide (0≤r56.2.2)) (cond (decide (r56.2.2<((([(-1),1,3,4]:cJ)).length:Int))) (Option.bind (([(-1),1,3,4]:cJ))[r56.2.2.toNat]? fun e57=>cond (decide (0≤gZ.2.2)) (cond (decide (gZ.2.2<(dx.af.length:Int))) (Option.bind dx.af[gZ.2.2.toNat]? fun Nz=>some (r56.1,r56.2.1,(⟨dx.bM,dx.af.set gZ.2.2.toNat (⟨Nz.Name,Nz.Version,Nz.bq,Nz.ax,Nz.Want,Nz.Down,Nz.bg,Nz.Next,Nz.bY,Nz.aD,Nz.aU,Nz.bF,e57⟩:ae),dx.ah,dx.ak⟩:aa))) none) none) none) none)
 (cond (gY.2.2==11)
 (Option.bind ((cE n n) 3 gY.1 gY.2.1) fun r59=>
 cond (decide (0≤r59.2.2)) (cond (decide (r59.2.2<((([(-1),1,1000001]:cJ)).length:Int))) (Option.bind (([(-1),1,1000001]:cJ))[r59.2.2.toNat]? fun e60=>cond (decide (0≤gZ.2.2)) (cond (decide (gZ.2.2<(dx.af.length:Int))) (Option.bind dx.af[gZ.2.2.toNat]? fun Ny=>some (r59.1,r59.2.1,(⟨dx.bM,dx.af.set gZ.2.2.toNat (⟨Ny.Name,Ny.Version,Ny.bq,Ny.ax,Ny.Want,Ny.Down,Ny.bg,Ny.Next,Ny.bY,Ny.aD,Ny.aU,e60,Ny.bb⟩:ae),dx.ah,dx.ak⟩:aa))) none) none) none) none)
 (cond (gY.2.2==12)
 (Option.bind ((cE n n) 2 gY.1 gY.2.1) fun Y1=>
 cond (decide (0≤Y1.2.2)) (cond (decide (Y1.2.2<((([(⟨#[110,111,110,101]⟩:BA),(⟨#[]⟩:BA)]:zq)).length:Int))) (Option.bind (([(⟨#[110,111,110,101]⟩:BA),(⟨#[]⟩:BA)]:zq))[Y1.2.2.toNat]? fun e63=>cond (decide (0≤jX.2.2)) (cond (decide (jX.2.2<(dx.ah.length:Int))) (Option.bind dx.ah[jX.2.2.toNat]? fun cC=>some (Y1.1,Y1.2.1,(⟨dx.bM,dx.af,dx.ah.set jX.2.2.toNat (⟨e63,cC.Number,cC.Version,cC.ax,cC.State,cC.Ending,cC.bE⟩:ai),dx.ak⟩:aa))) none) none) none) none)
 (cond (gY.2.2==13)
 (Option.bind ((cE n n) 2 gY.1 gY.2.1) fun Y0=>
 cond (decide (0≤Y0.2.2)) (cond (decide (Y0.2.2<((([0,999]:cJ)).length:Int))) (Option.bind (([0,999]:cJ))[Y0.2.2.toNat]? fun Ko=>cond (decide (0≤jX.2.2)) (cond (decide (jX.2.2<(dx.ah.length:Int))) (Option.bind dx.ah[jX.2.2.toNat]? fun W7=>some (Y0.1,Y0.2.1,(⟨dx.bM,dx.af,dx.ah.set jX.2.2.toNat (⟨W7.aq,Ko,W7.Version,W7.ax,W7.State,W7.Ending,W7.bE⟩:ai),dx.ak⟩:aa))) none) none) none) none)
 (cond (gY.2.2==14)
 (Option.bind ((cE n n) 4 gY.1 gY.2.1) fun r68=>
 cond (decide (0≤r68.2.2)) (cond (decide (r68.2.2<((([0,1,3,5]:cJ)).length:Int))) (Option.bind (([0,1,3,5]:cJ))[r68.2.2.toNat]? fun e69=>cond (decide (0≤jX.2.2)) (cond (decide (jX.2.2<(dx.ah.length:Int))) (Option.bind dx.ah[jX.2.2.toNat]? fun Tw=>some (r68.1,r68.2.1,(⟨dx.bM,dx.af,dx.ah.set jX.2.2.toNat (⟨Tw.aq,Tw.Number,Tw.Version,Tw.ax,e69,Tw.Ending,Tw.bE⟩:ai),dx.ak⟩:aa))) none) none) none) none)
 (cond (gY.2.2==15)
 (Option.bind ((cE n n) 3 gY.1 gY.2.1) fun r71=>
 cond (decide (0≤r71.2.2)) (cond (decide (r71.2.2<((([(⟨#[]⟩:BA),(⟨#[97]⟩:BA),(⟨#[110,111,110,101]⟩:BA)]:zq)).length:Int))) (Option.bind (([(⟨#[]⟩:BA),(⟨#[97]⟩:BA),(⟨#[110,111,110,101]⟩:BA)]:zq))[r71.2.2.toNat]? fun e72=>cond (decide (0≤jX.2.2)) (cond (decide (jX.2.2<(dx.ah.length:Int))) (Option.bind dx.ah[jX.2.2.toNat]? fun C2=>some (r71.1,r71.2.1,(⟨dx.bM,dx.af,dx.ah.set jX.2.2.toNat (⟨C2.aq,C2.Number,C2.Version,C2.ax,C2.State,C2.Ending,e72⟩:ai),dx.ak⟩:aa))) none) none) none) none)
 (cond (gY.2.2==16)
 (cond (decide (0≤jX.2.2)) (cond (decide (jX.2.2<(dx.ah.length:Int))) (Option.bind dx.ah[jX.2.2.toNat]? fun e74=>cond (decide ((dx.ah.length+(([e74]:ay)).length)*72≤140737488355328)) (some (gY.1,gY.2.1,(⟨dx.bM,dx.af,dx.ah++(([e74]:ay)),dx.ak⟩:aa))) none) none) none)
 (cond (gY.2.2==17)
 (Option.bind ((cE n n) 3 gY.1 gY.2.1) fun YZ=>
 cond (decide (0≤YZ.2.2)) (cond (decide (YZ.2.2<((([(⟨#[]⟩:BA),(⟨#[122]⟩:BA),(⟨#[97]⟩:BA)]:zq)).length:Int))) (Option.bind (([(⟨#[]⟩:BA),(⟨#[122]⟩:BA),(⟨#[97]⟩:BA)]:zq))[YZ.2.2.toNat]? fun e76=>cond (decide ((dx.ak.length+(([(⟨e76,false⟩:aG)]:aA)).length)*24≤140737488355328)) (some (YZ.1,YZ.2.1,(⟨dx.bM,dx.af,dx.ah,dx.ak++(([(⟨e76,false⟩:aG)]:aA))⟩:aa))) none) none) none)
 (cond (gY.2.2==18)
 (Option.bind ((cE n n) 2 gY.1 gY.2.1) fun r77=>
 cond (decide (0≤r77.2.2)) (cond (decide (r77.2.2<((([0,i64.wrap (dx.bM+1)]:cJ)).length:Int))) (Option.bind (([0,i64.wrap (dx.bM+1)]:cJ))[r77.2.2.toNat]? fun e78=>cond (decide (0≤jX.2.2)) (cond (decide (jX.2.2<(dx.ah.length:Int))) (Option.bind dx.ah[jX.2.2.toNat]? fun e79=>some (r77.1,r77.2.1,(⟨dx.bM,dx.af,dx.ah.set jX.2.2.toNat (⟨e79.aq,e79.Number,e78,e79.ax,e79.State,e79.Ending,e79.bE⟩:ai),dx.ak⟩:aa))) none) none) none) none)
 (cond (decide (0≤jX.2.2)) (cond (decide (jX.2.2<(dx.ah.length:Int))) (Option.bind dx.ah[jX.2.2.toNat]? fun fw=>cond (decide (0≤jX.2.2)) (cond (decide (jX.2.2<(dx.ah.length:Int))) (Option.bind dx.ah[jX.2.2.toNat]? fun e81=>some (gY.1,gY.2.1,(⟨dx.bM,dx.af,dx.ah.set jX.2.2.toNat (⟨e81.aq,e81.Number,e81.Version,e81.ax,e81.State,!fw.Ending,e81.bE⟩:ai),dx.ak⟩:aa))) none) none) none) none))))))))))))))))))))))
 (cond (qz.2.2==1)
 (Option.bind ((cE n n) 2 qz.1 qz.2.1) fun r82=>
 some (r82.1,r82.2.1,(⟨i64.wrap (1000000-r82.2.2),kH.aV,kH.bH,kH.bI⟩:aa)))
 (cond (qz.2.2==2)
 (cond (decide ((kH.aV.length:Int)>0))
 (cond (decide ((kH.bI.length:Int)>0))
 (Option.bind ((cE n n) 4 qz.1 qz.2.1) fun r83=>
 l2 (i64.wrap ((kH.aV.length:Int)-1)) (i64.wrap (200-r83.2.2)) kH.cA kH.bI (r83.1,r83.2.1,kH.aV,kH.bH))
 (some (qz.1,qz.2.1,(⟨kH.cA,kH.aV,kH.bH,kH.bI⟩:aa))))
 (some (qz.1,qz.2.1,(⟨kH.cA,kH.aV,kH.bH,kH.bI⟩:aa))))
 (cond (qz.2.2==3)
 (cond (decide ((kH.aV.length:Int)>0))
 (Option.bind ((cE n n) 2 qz.1 qz.2.1) fun r90=>
 cond (decide (0≤0)) (cond (decide (0<(kH.aV.length:Int))) (Option.bind kH.aV[(0:Int).toNat]? fun Nu=>some (r90.1,r90.2.1,(⟨kH.cA,kH.aV.set ((0:Int).toNat) ((⟨Nu.Name,Nu.Version,Nu.bq,Nu.ax,Nu.Want,Nu.Down,Nu.bg,i64.wrap (1000000-r90.2.2),Nu.bY,Nu.aD,Nu.aU,Nu.bF,Nu.bb⟩:ae)),kH.bH,kH.bI⟩:aa))) none) none)
 (some (qz.1,qz.2.1,(⟨kH.cA,kH.aV,kH.bH,kH.bI⟩:aa))))
 (some (qz.1,qz.2.1,(⟨kH.cA,kH.aV,kH.bH,kH.bI⟩:aa)))))))
def EB  (n:Nat) (rc:(ed)→(Int)→Option (ed×Int×aa))  (dg:qI→Option (ed×Int×aa)):qI→Option (ed×Int×aa):=Ry  n rc  dg (fun y0 y1 y6 y7 z=>bS (JF y0 y1 y6 y7 n rc ) n z)
section
variable (x3:dK) (x4:Int) (x5:aB) (x6:ay) (x7:aA) (aX:Int) (bf:aB) (aS:ay) (aO:aA) (aT:Int) (aW:aB) (bh:ay) (bJ:aA)
def Wk:s4→St C:=fun (x0,x1,x2,x8,x9,aK,aN,aP)=>{ env:=[(0,.one (.ptr 42949674271360 0)),(2,.one (.ptr 34381213206970496 0)),(3,.one (.ptr 34381213206970560 0)),(4,.one (.int .i64 x0)),(1002,.bz (false,[.ptr 34359741579392 0]) 8005002),(2000,.bz (false,[.ptr 42949674271360 0]) 8000),(2002,.bz (false,[.ptr 1376384 0]) 8002),(92000,.frame),(92001,.bz (true,[.ptr 42949674271360 0]) 0)],aj:=[(42949674271360,.box .mem [.row .e5 x1,.int .i64 x2]),(34381213206970496,.box .mem [.ref 3438121320698049600 [],.int .i64 x4,.ref 3438121320698049602 [],.ref 3438121320698049603 [],.ref 3438121320698049604 []]),(3438121320698049600,.row .bU x3 false),(3438121320698049602,.row .bD x5 false),(3438121320698049603,.row .bX x6 false),(3438121320698049604,.row .cC x7 false),(34381213206970560,.box .mem [.row .bU x8,.int .i64 x9,.row .bD aK,.row .bX aN,.row .cC aP]),(34359741579392,.box .mem [.int .i64 aX,.ref 3435974158939201 [],.ref 3435974158939202 [],.ref 3435974158939203 []]),(3435974158939201,.row .bD bf false),(3435974158939202,.row .bX aS false),(3435974158939203,.row .cC aO false),(1376384,.box .mem [.int .i64 aT,.ref 138638401 [],.ref 138638402 [],.ref 138638403 []]),(138638401,.row .bD aW false),(138638402,.row .bX bh false),(138638403,.row .cC bJ false),(77777777,.ghost)],base:=8005000 }
end
def Rz  (n:Nat) (rc:(ed)→(Int)→Option (ed×Int×aa))  (aM:s4→Option (ed×Int×aa)) (l1:qI→Option (ed×Int×aa)):s4→Option (ed×Int×aa):=fun (x0,x1,x2,x8,x9,aK,aN,aP)=>
 cond (decide (x0>0))
 (Option.bind ((sW n n) x1 x2) fun r5=>
 Option.bind ((rq n n) x8 x9 aK aN aP 0 0 2 r5.2.2.Name r5.2.2.Version r5.2.2.bq r5.2.2.ax r5.2.2.Want r5.2.2.Down r5.2.2.bg r5.2.2.Next r5.2.2.bY r5.2.2.aD r5.2.2.aU r5.2.2.bF r5.2.2.bb (⟨#[]⟩:BA) 0 false) fun r6=>
 (fun y=>alt y (y))
 (aM ((i64.wrap (x0-1),r5.1,r5.2.1,r6.1.iS,r6.1.cA,r6.1.aV,r6.1.bH,r6.1.bI))))
 (Option.bind ((cE n n) 50 x1 x2) fun r7=>
 l1 (r7.2.2,r7.1,r7.2.1,x8,x9,aK,aN,aP))
def Ac  (n:Nat) (rc:(ed)→(Int)→Option (ed×Int×aa))  (aM:s4→Option (ed×Int×aa)):s4→Option (ed×Int×aa):=Rz  n rc  aM (fun z=>bS (EB  n rc ) n z)
def B21 (n:Nat) (rc:(ed)→(Int)→Option (ed×Int×aa)) (a0:ed) (a1:Int):Option (ed×Int×aa):=
 Option.bind ((rq n n) (([]:dK)) 0 (([]:aB)) (([]:ay)) (([]:aA)) 0 0 5 (⟨#[]⟩:BA) 0 false 0 0 0 0 0 0 0 0 0 0 (⟨#[97]⟩:BA) 0 false) fun r1=>
 Option.bind ((cE n n) 3 a0 a1) fun r2=>
 cond (decide (r2.2.2>0))
 (Option.bind ((rq n n) r1.1.iS r1.1.cA r1.1.aV r1.1.bH r1.1.bI 0 0 5 (⟨#[]⟩:BA) 0 false 0 0 0 0 0 0 0 0 0 0 (⟨#[98]⟩:BA) 0 false) fun r3=>
 Option.bind ((cE n n) 2 r2.1 r2.2.1) fun r4=>
 bS (Ac  n rc ) n ((i64.wrap (1+r4.2.2),r4.1,r4.2.1,r3.1.iS,r3.1.cA,r3.1.aV,r3.1.bH,r3.1.bI)))
 (Option.bind ((cE n n) 2 r2.1 r2.2.1) fun YY=>
 bS (Ac  n rc ) n ((i64.wrap (1+YY.2.2),YY.1,YY.2.1,r1.1.iS,r1.1.cA,r1.1.aV,r1.1.bH,r1.1.bI)))
def pI (n:Nat):Nat→(ed)→(Int)→Option (ed×Int×aa)
 | 0=>fun _ _=>none
 | d+1=>B21 n (pI n d)
def DS (n d:Nat):iR C:={ ids:=[42949674271360],roots:=[.ptr 42949674271360 0],eU:=[],R0:=ed×Int×aa,out:=fun r=>[(42949674271360,.box .mem [.row .e5 r.1,.int .i64 r.2.1])],ret:=fun r=>[(true,[.int .i64 r.2.2.bM,.row .bD r.2.2.af,.row .bX r.2.2.ah,.row .cC r.2.2.ak])],g:=fun vs O=>match vs,O with
 | [.one (.ptr 42949674271360 0)],[(42949674271360,.box .mem [.row .e5 y0,.int .i64 y1])]=>pI n d y0 y1
 | _,_=>none }
def M4 (n d:Nat):Cx C:=eP [] [] [(21,de (DS n d)),(23,Yo n),(49,I49 n),(50,I50 n)] [0,2,3,4,5,7,9,14,18,19,20,38,39,45,46,47,48,49,50,51,52,53,54,55,56,57,58,59,60,61,62,63,64,65,66,67,68,69,70,86,87,88,89,90,91,92] 1376256 []
section
variable (x0 x1 x4:Int) (x5:aB) (x6:ay) (x7:aA) (x8:Int) (aN:aA)
def Su (n d:Nat)  (x:vf):Option (ed×Int×aa):=iter (fun rec S=>run (M4 n d) (VV n) (aw (av Try.f21) [1,1,0,1,0,1,1,1,1,1,0,1,0,1,1,0,0]) 1 S (cH rec (bW 1 (bW 0 (bA (run (M4 n d) (VV n) (aw (av Try.f21) [1,1,1]) 0) (j8 (M4 n d) Try.f21 yq)))))) [0,2,3,4,5] n (s21_2 x0 x1 x4 x5 x6 x7 x8 aN x)
theorem m21_2 (n d:Nat)  (x:vf):Su x0 x1 x4 x5 x6 x7 x8 aN n d  x=bS (JF x0 x1 x8 aN n (pI n d) ) n x:=by
 refine iter_eq _ _ (fun dD x=>?_) n x;obtain ⟨x2,x3,x9,aK⟩:=x
 kernel_rfl
end
section
variable (x3:dK) (x4:Int) (x5:aB) (x6:ay) (x7:aA) (aX:Int) (bf:aB) (aS:ay) (aO:aA) (aT:Int) (aW:aB) (bh:ay) (bJ:aA)
def Sv (n d:Nat)  (x:qI):Option (ed×Int×aa):=iter (fun rec S=>run (Yf n) (F38 n) (aw (av Try.f38) [1,1,1,1,1,0,1,0,0]) 2 S (cH rec (bW 2 (bA (run (Yf n) (F38 n) (aw (av Try.f38) [1,1,1,1,1,1]) 0) (fu (Yf n) Try.f38 (dB 8004000 8000 (some 4) (eJ (Ye n) (aw (av Try.f49) [1,0]) 2 (fq (F49 n) (bA (run (Ye n) (F49 n) (aw (av Try.f49) [1,1]) 0) (fu (Ye n) Try.f49 (dB 7000 0 (some 7) (eJ (M4 n d) (aw (av Try.f21) [1,0]) 2 (fq (VV n) (bA (run (M4 n d) (VV n) (aw (av Try.f21) [1,1]) 0) (j8 (M4 n d) Try.f21 yq))))))))))))))) [0,2,3,5] n (Wj x3 x4 x5 x6 x7 aX bf aS aO aT aW bh bJ x)
theorem m21_1 (n d:Nat)  (x:qI):Sv x3 x4 x5 x6 x7 aX bf aS aO aT aW bh bJ n d  x=bS (EB  n (pI n d) ) n x:=by
 refine iter_eq _ _ (fun dg x=>?_) n x;obtain ⟨x0,x1,x2,x8,x9,aK,aN,aP⟩:=x;refine Eq.trans (b:=Ry  n (pI n d)  (fun x=>dg (Wj x3 x4 x5 x6 x7 aX bf aS aO aT aW bh bJ x)) (fun y0 y1 y6 y7 z=>Su y0 y1 aT aW bh bJ y6 y7 n d  z) (x0,x1,x2,x8,x9,aK,aN,aP)) (by kernel_rfl) ?_;simp only [EB,m21_2]
end
section
variable (x3:dK) (x4:Int) (x5:aB) (x6:ay) (x7:aA) (aX:Int) (bf:aB) (aS:ay) (aO:aA) (aT:Int) (aW:aB) (bh:ay) (bJ:aA)
def I1 (n d:Nat)  (x:s4):Option (ed×Int×aa):=iter (fun rec S=>run (Yf n) (F38 n) (aw (av Try.f38) [1,1,1,1,0,1,0,0]) 0 S (cH rec (bW 0 (bA (run (Yf n) (F38 n) (aw (av Try.f38) [1,1,1,1,1]) 0) (fu (Yf n) Try.f38 (dB 8004000 8000 (some 4) (eJ (Ye n) (aw (av Try.f49) [1,0]) 2 (fq (F49 n) (bA (run (Ye n) (F49 n) (aw (av Try.f49) [1,1]) 0) (fu (Ye n) Try.f49 (dB 7000 0 (some 7) (eJ (M4 n d) (aw (av Try.f21) [1,0]) 2 (fq (VV n) (bA (run (M4 n d) (VV n) (aw (av Try.f21) [1,1]) 0) (j8 (M4 n d) Try.f21 yq))))))))))))))) [0,2,3,4] n (Wk x3 x4 x5 x6 x7 aX bf aS aO aT aW bh bJ x)
theorem m21_0 (n d:Nat)  (x:s4):I1 x3 x4 x5 x6 x7 aX bf aS aO aT aW bh bJ n d  x=bS (Ac  n (pI n d) ) n x:=by
 refine iter_eq _ _ (fun aM x=>?_) n x;obtain ⟨x0,x1,x2,x8,x9,aK,aN,aP⟩:=x;refine Eq.trans (b:=Rz  n (pI n d)  (fun x=>aM (Wk x3 x4 x5 x6 x7 aX bf aS aO aT aW bh bJ x)) (fun z=>Sv x3 x4 x5 x6 x7 aX bf aS aO aT aW bh bJ n d  z) (x0,x1,x2,x8,x9,aK,aN,aP)) (by kernel_rfl) ?_;simp only [Ac,m21_1]
end
theorem t21 (n d:Nat) (a0:ed) (a1:Int):gF (M4 n d) (VV n) Try.f21 (DS n (d+1)) [.one (.ptr 42949674271360 0)] [(42949674271360,.box .mem [.row .e5 a0,.int .i64 a1])] yq=B21 n (pI n d) a0 a1:=by
 have h:gF (M4 n d) (VV n) Try.f21 (DS n (d+1)) [.one (.ptr 42949674271360 0)] [(42949674271360,.box .mem [.row .e5 a0,.int .i64 a1])] yq =
  Option.bind ((rq n n) (([]:dK)) 0 (([]:aB)) (([]:ay)) (([]:aA)) 0 0 5 (⟨#[]⟩:BA) 0 false 0 0 0 0 0 0 0 0 0 0 (⟨#[97]⟩:BA) 0 false) fun r1=>
  Option.bind ((cE n n) 3 a0 a1) fun r2=>
  cond (decide (r2.2.2>0))
  (Option.bind ((rq n n) r1.1.iS r1.1.cA r1.1.aV r1.1.bH r1.1.bI 0 0 5 (⟨#[]⟩:BA) 0 false 0 0 0 0 0 0 0 0 0 0 (⟨#[98]⟩:BA) 0 false) fun r3=>
  Option.bind ((cE n n) 2 r2.1 r2.2.1) fun r4=>
  I1 (([]:dK)) 0 (([]:aB)) (([]:ay)) (([]:aA)) 0 (([]:aB)) (([]:ay)) (([]:aA)) 0 (([]:aB)) (([]:ay)) (([]:aA)) n d  ((i64.wrap (1+r4.2.2),r4.1,r4.2.1,r3.1.iS,r3.1.cA,r3.1.aV,r3.1.bH,r3.1.bI)))
  (Option.bind ((cE n n) 2 r2.1 r2.2.1) fun YY=>
  I1 (([]:dK)) 0 (([]:aB)) (([]:ay)) (([]:aA)) 0 (([]:aB)) (([]:ay)) (([]:aA)) 0 (([]:aB)) (([]:ay)) (([]:aA)) n d  ((i64.wrap (1+YY.2.2),YY.1,YY.2.1,r1.1.iS,r1.1.cA,r1.1.aV,r1.1.bH,r1.1.bI))):=by kernel_rfl
 simp only [h,B21,m21_0]
def I21 (n:Nat):lz C:=de (DS n n)
theorem i21d (n:Nat):∀ d:Nat,cG Try.prog KK 21 (de (DS n d))
 | 0=>gX (fn:=Try.f21) (by kernel_rfl) (by kernel_rfl) (iD (by kernel_rfl)) _ (fun vs O=>by simp only [DS];split<;>rfl)
 | d+1=>by
  have ih:=i21d n d;have x:jk Try.prog (M4 n d):=jw;have q:Cons Try.prog (M4 n d):=fV trivial trivial ⟨ih,i23 n,i49 n,i50 n,trivial⟩;refine lB x q (by kernel_rfl) (f:=21) (fn:=Try.f21) (c:=av Try.f21) (by kernel_rfl) (by kernel_rfl) (by kernel_rfl) (iD (by kernel_rfl)) (DS n (d+1)) (Nat.le_of_ble_eq_true (by kernel_rfl)) yq (fun os ls rs r0 h=>?_) (fun vs O r0 hk h=>?_)
  ·unfold yq at h
   split at h
   ·cases h;exact ⟨rfl,rfl,rfl⟩
   ·cases h
  ·simp only [DS] at h
   split at h
   ·rename_i y0 y1
    exact ⟨lQ,Nat.le_of_ble_eq_true (by kernel_rfl),VV n,(t21 n d y0 y1).trans h⟩
   ·cases h
theorem i21 (n:Nat):cG Try.prog KK 21 (I21 n):=i21d n n
end Go.Proofs.Ytipemmgoipbojaa.Ab
