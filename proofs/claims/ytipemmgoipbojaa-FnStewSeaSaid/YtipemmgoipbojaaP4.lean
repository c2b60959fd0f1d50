/- Part 4 of the proof: an abstract machine proved sound over the model, the functions that it reckons, the plain law. Names made short by a program. No conditions. -/
import Derived.Test.YtipemmgoipbojaaP3
import Derived.Shelf.Spec.SlicesInsertGrow
import Derived.Test.YtipemmgoipbojaaProg
import Derived.WalkKit
import Derived.Lib.Walk
import Derived.KernelRfl
set_option linter.unusedVariables false
set_option linter.unusedSimpArgs false
set_option linter.unusedSectionVars false
namespace Go.Proofs.Ytipemmgoipbojaa.Ab
open Go Go.RowKit Go.Lib
theorem jH (w:World) (r:Option Nat):w.grownBy w.drew r:=⟨rfl,rfl,rfl,Nat.le_refl _,fun _ _ _=>rfl⟩
theorem eY {w w1 w2:World} {r:Option Nat} (h:w.grownBy w1 r) (h':w1.grownBy w2 r):w.grownBy w2 r:=
 ⟨h'.os.trans h.os,h'.tape.trans h.tape,h'.output.trans h.output,Nat.le_trans h.size h'.size,fun k hk hr=>(h'.block k (Nat.lt_of_lt_of_le hk h.size) hr).trans (h.block k hk hr)⟩
theorem fH (w:World) (g:Nat) (cs:Array Value):w.grownBy (w.setRow g cs) (some g):=
 ⟨rfl,rfl,rfl,by have:=(iy (w0:=w) (w:=w) g cs);exact Nat.le_of_eq (by simp [World.setRow]),fun k _ hr=>setRow_other w g k cs fun e=>hr (by rw [e])⟩
theorem yG {w w1 w2:World} {g:Nat} (h:w.grownBy w1 none) (h':w1.grownBy w2 (some g)) (hg:w.heap.size≤g) (r:Option Nat):w.grownBy w2 r:=
 ⟨h'.os.trans h.os,h'.tape.trans h.tape,h'.output.trans h.output,Nat.le_trans h.size h'.size,fun k hk _=>(h'.block k (Nat.lt_of_lt_of_le hk h.size) (fun e=>by cases e;omega)).trans (h.block k hk (by simp))⟩
theorem jV {P:Program} {w:World} {base tid sz N cap g:Nat} {cells us:List Value} (hown:w.ownsRow base tid sz (.slice (some ⟨g,0,none⟩) N cap) N cells) {T T' ty:TypeId} (hu:P.underlying T=some (.slice tid)) {i:TypeInfo} (hi:P.info? tid=some i) (hsz:i.size=sz)
  {d m c c' q:Nat} (hd:d+q≤N) (hq:min (N-d) m=q) {p:Addr} (AZ:us.length=q*sz) (hp:∀ j u,us[j]?=some u→w.cell? (p.add j)=some u) (h1:∀ u∈us,u.oneCell'=true) :
  ∃ jU,(Builtin.copy_ #[T,T'] ty #[.slice (some ⟨g,d*sz,none⟩) (N-d) c',.slice (some p) m c]).run P w = .ok (goInt q) (w.setRow g jU) ∧
   (w.setRow g jU).ownsRow base tid sz (.slice (some ⟨g,0,none⟩) N cap) N (cells.take (d*sz)++us++cells.drop (d*sz+us.length)):=by
 have hmul:(d+q)*sz≤N*sz:=Nat.mul_le_mul_right _ hd;rw [Nat.add_mul] at hmul;have hfc:=run_firstCells_some (P:=P) w sz q p m c us AZ hp;obtain ⟨jU,hrun,hown'⟩:=jI (P:=P) hown (m:=d*sz) (vs:=us) (by omega) h1;refine ⟨jU,?_,hown'⟩;simp only [Builtin.copy_,List.getElem?_toArray,List.getElem?_cons_zero,List.getElem?_cons_succ,Sem.run_bind,Result.andThen_ok,Sem.run_pure,run_underlying hu,sizeOf,typeInfo,hi,Builtin.lenOf,hsz]
 have hq':Nat.min m (N-d)=q:=by rw [Nat.min_comm] at hq;exact hq
 have hq2:min m (N-d)=q:=hq';simp [hq',hq2,hfc,Sem.run_bind,hsz,hi,hrun]
theorem oP {w:World} {base tid sz n cap g:Nat} {cells:List Value} (hown:w.ownsRow base tid sz (.slice (some ⟨g,0,none⟩) n cap) n cells):w.shape? g=some (tid,cap*sz):=by
 rcases hown.2 with ⟨h,_⟩ | ⟨g',cap',cur,h,hb,hh,hn,hc,hs,ht⟩
 ·cases h
 ·cases h
  simp [World.shape?,hh,hs]
theorem mW {w:World} {base tid sz n cap g:Nat} {cells:List Value} (hown:w.ownsRow base tid sz (.slice (some ⟨g,0,none⟩) n cap) n cells) (o:Nat):w.frozen? ⟨g,o,none⟩=false:=by
 rcases hown.2 with ⟨h,_⟩ | ⟨g',cap',cur,h,hb,hh,hn,hc,hs,ht⟩
 ·cases h
 ·cases h
  simp [World.frozen?,hh]
theorem B5 {w:World} {base tid sz n cap g:Nat} {cells:List Value} (hown:w.ownsRow base tid sz (.slice (some ⟨g,0,none⟩) n cap) n cells) {m:Nat} (hn:n≤m) (hm:m≤cap) :
  ∃ Ns,w.ownsRow base tid sz (.slice (some ⟨g,0,none⟩) m cap) m Ns∧Ns.take (n*sz)=cells:=by
 obtain ⟨hl,h2⟩:=hown
 rcases h2 with ⟨h,_⟩ | ⟨g',cap',cur,h,hb,hh,qi,hc,hs,ht⟩
 ·cases h
 ·cases h
  have h1:m*sz≤cap*sz:=Nat.mul_le_mul_right _ hm;have h2:n*sz≤m*sz:=Nat.mul_le_mul_right _ hn;refine ⟨cur.toList.take (m*sz),⟨by simp;omega,.inr ⟨g,cap,cur,rfl,hb,hh,hm,hc,hs,rfl⟩⟩,?_⟩;rw [List.take_take,Nat.min_eq_left h2,ht]
theorem eF {w:World} {base tid sz n:Nat} {v:Value} {cells:List Value} (hown:w.ownsRow base tid sz v n cells) (hn:0<n):∃ g cap,v = .slice (some ⟨g,0,none⟩) n cap∧base≤g∧g<w.heap.size∧n≤cap∧cap≤maxLen∧∀ m u,cells[m]?=some u→w.cell? ⟨g,m,none⟩=some u:=by
 have h0:=hown
 rcases hown.2 with ⟨h,h'⟩ | ⟨g',cap',cur,h,hb,hh,qi,hc,hs,ht⟩
 ·omega
 ·refine ⟨g',cap',h,hb,?_,qi,hc,fun m u hm=>?_⟩
  ·exact (Array.getElem?_eq_some_iff.1 hh).1
  ·have:=h0.cells (g:=g') (by rw [h];rfl) m u hm
   rw [eL] at this
   simpa using this
theorem yg {w:World} {tid sz i k G:Nat} {cs:List Value} {z:Array Value} (hc:cs.length=i*sz) (hz:z.size=sz) (hG:i+k≤G) (Pk:G≤maxLen) (base:Nat) (hb:base≤w.heap.size) :
  ∃ zs:List Value,(w.drew.alloc (.cells (cs.toArray++Builtin.zeroCells z k++Builtin.zeroCells z (G-(i+k))) tid)).ownsRow base tid sz (.slice (some ⟨w.heap.size,0,none⟩) (i+k) G) (i+k) (cs++zs):=by
 have e1:(Builtin.zeroCells z k).size=k*sz:=by simp [Builtin.zeroCells,hz]
 have e2:(Builtin.zeroCells z (G-(i+k))).size=(G-(i+k))*sz:=by simp [Builtin.zeroCells,hz]
 have h3:G*sz=(i+k)*sz+(G-(i+k))*sz:=by rw [←Nat.add_mul];congr 1;omega
 refine ⟨(Builtin.zeroCells z k).toList,by simp only [List.length_append,hc,Array.length_toList,e1,Nat.add_mul],.inr ⟨w.heap.size,G,_,rfl,hb,heap_alloc_new w.drew _,hG,Pk,?_,?_⟩⟩
 ·simp only [Array.size_append,e1,e2,List.size_toArray,hc];rw [h3,Nat.add_mul]
 ·simp only [Array.toList_append,List.append_assoc]
  rw [←List.append_assoc];refine List.take_left' ?_;simp only [List.length_append,hc,Array.length_toList,e1,Nat.add_mul]
theorem qL {w:World} {base tid sz n:Nat} {v:Value} {cells:List Value} (h:w.ownsRow base tid sz v n cells):w.drew.ownsRow base tid sz v n cells:=h
theorem Ho {cells cs gs:List Value} {n i sz:Nat} (ht:cells.take (n*sz)=cs) (hc:cs.length=n*sz) (hl:cells.length=(n+1)*sz) (hg:gs.length=1*sz) (hi:i≤n) :
  (cells.take ((i+1)*sz)++cs.drop (i*sz)++cells.drop ((i+1)*sz+(cs.drop (i*sz)).length)).take (i*sz)++gs++(cells.take ((i+1)*sz)++cs.drop (i*sz)++cells.drop ((i+1)*sz+(cs.drop (i*sz)).length)).drop (i*sz+gs.length)=cs.take (i*sz)++gs++cs.drop (i*sz):=by
 have e1:(i+1)*sz=i*sz+sz:=by rw [Nat.add_mul,Nat.one_mul]
 have e2:(n+1)*sz=n*sz+sz:=by rw [Nat.add_mul,Nat.one_mul]
 have e3:i*sz≤n*sz:=Nat.mul_le_mul_right _ hi
 have hg:gs.length=sz:=by rw [hg,Nat.one_mul]
 have hd:(cells.drop ((i+1)*sz+(cs.drop (i*sz)).length))=[]:=by
  apply List.drop_of_length_le;rw [List.length_drop,hc,hl,e1,e2];omega
 have h0:(cells.take ((i+1)*sz)).length=i*sz+sz:=by rw [List.length_take,hl,e1,e2];omega
 have h1:(cells.take ((i+1)*sz)).take (i*sz)=cs.take (i*sz):=by
  rw [←ht,List.take_take,List.take_take,Nat.min_eq_left (by rw [e1];omega),Nat.min_eq_left e3]
 rw [hd,List.append_nil,List.take_append_of_le_length (by rw [h0];omega),h1,hg]
 congr 1
 rw [List.drop_append_of_le_length (by rw [h0];omega),List.drop_of_length_le (by rw [h0];omega),List.nil_append]
theorem Cq {cells cs gs zs:List Value} {n i sz:Nat} (ht:cells=cs.take (i*sz)++zs) (hc:cs.length=n*sz) (hl:cells.length=(n+1)*sz) (hg:gs.length=1*sz) (hi:i≤n) :
  (cells.take (i*sz)++gs++cells.drop (i*sz+gs.length)).take ((i+1)*sz)++cs.drop (i*sz)++(cells.take (i*sz)++gs++cells.drop (i*sz+gs.length)).drop ((i+1)*sz+(cs.drop (i*sz)).length)=cs.take (i*sz)++gs++cs.drop (i*sz):=by
 have e1:(i+1)*sz=i*sz+sz:=by rw [Nat.add_mul,Nat.one_mul]
 have e2:(n+1)*sz=n*sz+sz:=by rw [Nat.add_mul,Nat.one_mul]
 have e3:i*sz≤n*sz:=Nat.mul_le_mul_right _ hi
 have hg:gs.length=sz:=by rw [hg,Nat.one_mul]
 have h0:(cs.take (i*sz)).length=i*sz:=by rw [List.length_take,hc];omega
 have h1:cells.take (i*sz)=cs.take (i*sz):=by rw [ht,List.take_append_of_le_length (by omega),List.take_of_length_le (by omega)]
 rw [h1]
 have h2:(cs.take (i*sz)++gs++cells.drop (i*sz+gs.length)).length=(n+1)*sz:=by
  simp only [List.length_append,h0,hg,List.length_drop,hl];omega
 rw [List.drop_of_length_le (i:=(i+1)*sz+(cs.drop (i*sz)).length) (by rw [h2,List.length_drop,hc];omega),List.append_nil]
 congr 1
 rw [List.take_append_of_le_length (by simp only [List.length_append,h0,hg];omega),List.take_of_length_le (by simp only [List.length_append,h0,hg];omega)]
end Go.Proofs.Ytipemmgoipbojaa.Ab
set_option maxRecDepth 100000
namespace Go.Proofs.Ytipemmgoipbojaa.Ab
open Go Go.RowKit Go.Lib
section
variable (w:World) (base:Nat) (v1:Value) (g cap vb vc n i:Nat) (cs gs:List Value)
theorem Jb (h1:w.ownsRow base 64 2 (.slice (some ⟨vb,0,none⟩) 1 vc) 1 gs) {N:Nat} {cells:List Value} (h2:w.ownsRow base 64 2 (.slice (some ⟨g,0,none⟩) N cap) N cells) (hN:0<N) (hne:vb≠g) (o lb cb:Nat) :
  (callFunc 107 #[.slice (some ⟨vb,0,none⟩) 1 vc,.slice (some ⟨g,o,none⟩) lb cb]).run Try.prog w = .ok (.value (.bool false)) w:=by
 have hcap:1≤cap:=by
  obtain ⟨g',cap',e,_,_,h,_⟩:=eF h2 hN;cases e;omega
 have hvc:1≤vc:=by
  obtain ⟨g',cap',e,_,_,h,_⟩:=eF h1 (by omega);cases e;omega
 rw [run_callFunc_extern Try.func107 (by kernel_rfl) (by kernel_rfl) (by kernel_rfl) (e:=Extern.SlicesOverlaps.overlaps #[25,25] #[4]) (by kernel_rfl),
  Lib.run_overlaps_apart w 25 4 64 Try.underlying25 2 (fun w=>by kernel_rfl) ⟨vb,0,none⟩ ⟨g,o,none⟩ 1 vc lb cb hne 64 64 (vc*2) (cap*2) (oP h1) (oP h2) (by omega) (mW h1 _) (mW h1 _)]
 rfl
end
set_option maxHeartbeats 4000000 in
theorem Fp (w:World) (base:Nat) (g cap vb vc n i:Nat) (cs gs:List Value) (hs:w.ownsRow base 64 2 (.slice (some ⟨g,0,none⟩) n cap) n cs) (h1:w.ownsRow base 64 2 (.slice (some ⟨vb,0,none⟩) 1 vc) 1 gs) (hne:vb≠g) (hi:i<n) (hroom:n+1≤cap) (hcm:cap≤maxLen)
  (o1:∀ u,u∈cs→u.oneCell'=true) (o2:∀ u,u∈gs→u.oneCell'=true) :
  Calls Try.prog 63 #[.slice (some ⟨g,0,none⟩) n cap,.int .i64 i,.slice (some ⟨vb,0,none⟩) 1 vc] w fun e w'=>∃ v',e = .returned v'∧w'.ownsRow base 64 2 v' (n+1) (cs.take (i*2)++gs++cs.drop (i*2))∧w.grownBy w' (some g)∧v'.ownBlock=some g:=by
 have hcl:cs.length=n*2:=hs.1;have CA:gs.length=1*2:=h1.1;obtain ⟨cells,A7,htk⟩:=B5 hs (m:=n+1) (by omega) hroom;have hov:=Jb w base g cap vb vc gs h1 A7 (by omega) hne;unfold maxLen at hcm
 have hcell:∀ j u,cs[j]?=some u→w.cell? ⟨g,j,none⟩=some u:=(by
  obtain ⟨g',cap',e,_,_,_,_,h⟩:=eF hs (by omega);cases e
  exact h)
 have ll:∀ j u,gs[j]?=some u→w.cell? ⟨vb,j,none⟩=some u:=(by
  obtain ⟨g',cap',e,_,_,_,_,h⟩:=eF h1 (by omega);cases e
  exact h)
 have hci:i*2≤cells.length:=by rw [A7.1];exact Nat.mul_le_mul_right _ (by omega)
 obtain ⟨c1,q1,q2⟩:=jV (P:=Try.prog) (w:=w.drew) (T:=25) (T':=25) (ty:=3) (i:=(Try.prog.info? 64).get (by kernel_rfl)) (d:=i+1) (m:=n+1-i) (c:=cap-i) (c':=cap-(i+1)) (q:=n-i) (p:=⟨g,i*2,none⟩) (us:=cs.drop (i*2)) (qL A7) Try.underlying25 (by kernel_rfl) (by kernel_rfl) (by omega) (by omega) (by rw [List.length_drop,hcl,Nat.sub_mul])
  (fun j u hj=>by rw [eL];rw [List.getElem?_drop] at hj;exact hcell _ u hj) (fun u hu=>o1 u (List.mem_of_mem_drop hu))
 obtain ⟨c2,q3,q4⟩:=jV (P:=Try.prog) (w:=w.drew.setRow g c1) (T:=25) (T':=25) (ty:=3) (i:=(Try.prog.info? 64).get (by kernel_rfl)) (d:=i) (m:=1) (c:=vc) (c':=cap-i) (q:=1) (p:=⟨vb,0,none⟩) (us:=gs) q2 Try.underlying25 (by kernel_rfl) (by kernel_rfl) (by omega) (by omega) CA
  (fun j u hj=>by
   rw [eL,World.cell?_of_block (w:=w.drew) (setRow_other w.drew g vb c1 hne),Nat.zero_add]
   exact ll j u hj) o2
 have vJ:(cells.take ((i+1)*2)++cs.drop (i*2)++cells.drop ((i+1)*2+(cs.drop (i*2)).length)).take (i*2)++gs++(cells.take ((i+1)*2)++cs.drop (i*2)++cells.drop ((i+1)*2+(cs.drop (i*2)).length)).drop (i*2+gs.length)=cs.take (i*2)++gs++cs.drop (i*2):=
  Ho htk hcl A7.1 CA (by omega)
 rw [vJ] at q4
 have hw1:IntKind.i64.wrap ((n:Int)+1)=(n:Int)+1:=by rw [IntKind.wrap_i64];omega
 have hw2:IntKind.i64.wrap ((i:Int)+1)=(i:Int)+1:=by rw [IntKind.wrap_i64];omega
 have hz2:¬ ((i:Int)=(n:Int)):=by omega
 have V5:¬ ((cap:Int)<(n:Int)+1):=by omega
 have hb0:i≤n:=by omega
 have QQ:(0:Int)≤(i:Int)+1:=by omega
 have Ep:(0:Int)≤(n:Int)+1:=by omega
 have hb3:(n:Int)+1≤(cap:Int):=by omega
 have hb4:(i:Int)+1≤(n:Int)+1:=by omega
 have hb5:(i:Int)≤(n:Int)+1:=by omega
 have hb6:¬ (cap=i):=by omega
 have hb7:¬ (cap=i+1):=by omega
 have htn:((i:Int)+1).toNat=i+1:=by omega
 have htm:((n:Int)+1).toNat=n+1:=by omega
 have hgrow:w.grownBy ((w.drew.setRow g c1).setRow g c2) (some g):=eY (eY (jH w _) (fH _ _ _)) (fH _ _ _);clear vJ;have mixed:=(show Try.prog.follows .mixedOrders=true by kernel_rfl)
 go_enter Try.func63,Try.ntmps63
 go_wp2_with (simp only [hov])
 go_region_law_o (refine step_copy_runI rfl _ _ 25 25 rfl (.slice (some ⟨g,(i+1)*2,none⟩) (n+1-(i+1)) (cap-(i+1))) (.slice (some ⟨g,i*2,none⟩) (n+1-i) (cap-i)) (by simp [Act.eval,Act.put]) (by simp [Act.eval,Act.put]) q1 ?_)
 go_wp2_with (at_builtin;refine wpList_copy_runI _ rfl _ _ 25 25 rfl _ _ rfl rfl q3 ?_)
 go_ret
 exact ⟨_,rfl,q4,hgrow,rfl⟩
set_option maxHeartbeats 4000000 in
theorem Jc (w:World) (base:Nat) (v:Value) (vb vc n:Nat) (cs gs:List Value) (hs:w.ownsRow base 64 2 v n cs) (h1:w.ownsRow base 64 2 (.slice (some ⟨vb,0,none⟩) 1 vc) 1 gs) (hb:base≤w.heap.size) (hby:(n+1)*24≤140737488355328) (o2:∀ u,u∈gs→u.oneCell'=true) :
  Calls Try.prog 63 #[v,.int .i64 n,.slice (some ⟨vb,0,none⟩) 1 vc] w fun e w'=>∃ v',e = .returned v'∧w'.ownsRow base 64 2 v' (n+1) (cs++gs)∧w.grownBy w' v.ownBlock∧(v'.ownBlock=v.ownBlock∨v'.ownBlock=some w.heap.size):=by
 have CA:gs.length=1*2:=h1.1
 have ll:∀ j u,gs[j]?=some u→w.cell? ⟨vb,j,none⟩=some u:=(by
  obtain ⟨g',cap',e,_,_,_,_,h⟩:=eF h1 (by omega);cases e
  exact h)
 have hI:Try.prog.info? 64=some ((Try.prog.info? 64).get (by kernel_rfl)):=by kernel_rfl
 obtain ⟨z,hz⟩:∃ z,((Try.prog.info? 64).get (by kernel_rfl)).zero=some z:=⟨_,rfl⟩
 have hzs:z.cells.size=2:=by
  have:((Try.prog.info? 64).get (by kernel_rfl)).zero.map (·.cells.size)=some 2:=by kernel_rfl
  rw [hz] at this;exact Option.some.inj this
 have S7:(List.range (1*2)).map (fun j=>gs.getD j undef)=gs:=by
  apply List.ext_getElem
  ·simp [CA]
  ·intro m Cw Eo
   simp [List.getD_eq_getElem?_getD,Eo]
 have hap:∃ v' w',(Builtin.append_ #[25,25] 25 #[v,.slice (some ⟨vb,0,none⟩) 1 vc]).run Try.prog w = .ok v' w'∧w'.ownsRow base 64 2 v' (n+1) (cs++(List.range (1*2)).map (fun j=>gs.getD j undef))∧w.grownBy w' v.ownBlock∧(v'.ownBlock=v.ownBlock∨v'.ownBlock=some w.heap.size):=
  qa (P:=Try.prog) (ty:=25) (bytes:=24) Try.underlying25 hI hz (by kernel_rfl) (by kernel_rfl) hzs (by omega) hs (m:=1) (c:=vc) (A:=some ⟨vb,0,none⟩) (f:=fun j=>gs.getD j undef)
   (fun _=>⟨_,rfl,fun j hj=>by
    rw [eL,Nat.zero_add];refine ll j _ ?_
    rw [List.getD_eq_getElem?_getD,List.getElem?_eq_getElem (by omega)];rfl⟩)
   (fun j hj=>by
    have gW:j<gs.length:=by omega
    rw [List.getD_eq_getElem?_getD,List.getElem?_eq_getElem gW]
    exact o2 _ (List.getElem_mem gW)) (by unfold maxLen;omega) hby hb
 obtain ⟨v',w',q1,q2,q3,q4⟩:=hap;rw [S7] at q2
 have hw1:IntKind.i64.wrap ((n:Int)+1)=(n:Int)+1:=by rw [IntKind.wrap_i64];omega
 have mixed:=(show Try.prog.follows .mixedOrders=true by kernel_rfl);obtain ⟨A,c,hv,hA⟩:=fC hs
 have hnc:n≤c:=by
  rcases hs.2 with ⟨e,e'⟩ | ⟨g',cap',cur,e,_,_,h,_⟩
  ·omega
  ·rw [hv] at e;cases e;exact h
 have hc63:c≤9223372036854775807:=by
  rcases hs.2 with ⟨e,e'⟩ | ⟨g',cap',cur,e,_,_,_,h,_⟩
  ·rw [hv] at e;cases e;omega
  ·rw [hv] at e;cases e;unfold maxLen at h;omega
 rw [hv] at q1 ⊢;rw [hv] at q3 q4;clear hI hz S7 hA
 cases A with
 | none=>
  go_enter Try.func63,Try.ntmps63
  go_wp2_with (at_builtin;refine Lib.wpList_append_run _ rfl _ _ _ _ rfl _ _ rfl rfl _ _ q1 ?_)
  all_goals (go_ret;exact ⟨_,rfl,q2,q3,q4⟩)
 | some a=>
  obtain ⟨ab,ao,asp⟩:=a
  go_enter Try.func63,Try.ntmps63
  go_wp2_with (at_builtin;refine Lib.wpList_append_run _ rfl _ _ _ _ rfl _ _ rfl rfl _ _ q1 ?_)
  all_goals (go_ret;exact ⟨_,rfl,q2,q3,q4⟩)
set_option maxHeartbeats 4000000 in
theorem Fq (w:World) (base:Nat) (g cap vb vc n i:Nat) (cs gs:List Value) (hs:w.ownsRow base 64 2 (.slice (some ⟨g,0,none⟩) n cap) n cs) (h1:w.ownsRow base 64 2 (.slice (some ⟨vb,0,none⟩) 1 vc) 1 gs) (hi:i<n) (hnc:n≤cap) (hroom:cap<n+1) (hb:base≤w.heap.size) (hby:(n+1)*24≤140737488355328)
  (o1:∀ u,u∈cs→u.oneCell'=true) (o2:∀ u,u∈gs→u.oneCell'=true) :
  Calls Try.prog 63 #[.slice (some ⟨g,0,none⟩) n cap,.int .i64 i,.slice (some ⟨vb,0,none⟩) 1 vc] w fun e w'=>∃ v',e = .returned v'∧w'.ownsRow base 64 2 v' (n+1) (cs.take (i*2)++gs++cs.drop (i*2))∧w.grownBy w' (some g)∧v'.ownBlock=some w.heap.size:=by
 have hcl:cs.length=n*2:=hs.1;have CA:gs.length=1*2:=h1.1
 have FF:g<w.heap.size∧∀ j u,cs[j]?=some u→w.cell? ⟨g,j,none⟩=some u:=(by
  obtain ⟨g',cap',e,_,h3,_,_,h⟩:=eF hs (by omega);cases e
  exact ⟨h3,h⟩)
 have FE:vb<w.heap.size∧∀ j u,gs[j]?=some u→w.cell? ⟨vb,j,none⟩=some u:=(by
  obtain ⟨g',cap',e,_,h3,_,_,h⟩:=eF h1 (by omega);cases e
  exact ⟨h3,h⟩)
 obtain ⟨XL,hcell⟩:=FF;obtain ⟨XH,ll⟩:=FE
 have hI:Try.prog.info? 64=some ((Try.prog.info? 64).get (by kernel_rfl)):=by kernel_rfl
 obtain ⟨i0,hi0⟩:∃ i0,i0=(Try.prog.info? 64).get (by kernel_rfl):=⟨_,rfl⟩
 have Ah:i0.size=2:=by rw [hi0];kernel_rfl
 have MA:i0.bytes=24:=by rw [hi0];kernel_rfl
 obtain ⟨z,hz⟩:∃ z,((Try.prog.info? 64).get (by kernel_rfl)).zero=some z:=⟨_,rfl⟩
 have hzs:z.cells.size=2:=by
  have:((Try.prog.info? 64).get (by kernel_rfl)).zero.map (·.cells.size)=some 2:=by kernel_rfl
  rw [hz] at this;exact Option.some.inj this
 rw [←hi0] at hI hz
 have QM:i+(n+1-i)=n+1:=by omega
 have hkk:(n:Int)+1-(i:Int)=((n+1-i:Nat):Int):=by omega
 have htl:(cs.take (i*2)).length=i*2:=by rw [List.length_take,hcl];have:i*2≤n*2:=Nat.mul_le_mul_right _ (by omega);omega
 have hold:(Builtin.firstCells i0.size i (.slice (some ⟨g,0,none⟩) i cap)).run Try.prog w.drew = .ok (cs.take (i*2)).toArray w.drew:=by
  rw [Ah]
  exact run_firstCells_some w.drew 2 i ⟨g,0,none⟩ i cap (cs.take (i*2)) htl (fun j v hj=>by
   rw [eL,Nat.zero_add];rw [List.getElem?_take] at hj;split at hj
   ·exact hcell j v hj
   ·cases hj)
 obtain ⟨G,hG⟩:∃ G,G=grownCap w (n+1) cap 64:=⟨_,rfl⟩
 have hGn:n+1≤G:=by rw [hG];exact grownCap_ge w _ _ _
 have hGm:G≤maxLen:=by rw [hG];exact grownCap_le_maxLen w _ _ _ (by unfold maxLen;omega)
 have hrz:(Builtin.append_ #[25,3] 25 #[.slice (some ⟨g,0,none⟩) i cap,.int .i64 ((n:Int)+1-(i:Int))]).run Try.prog w =
   .ok (.slice (some ⟨w.heap.size,0,none⟩) (n+1) G) (w.drew.alloc (.cells ((cs.take (i*2)).toArray++Builtin.zeroCells z.cells (n+1-i)++Builtin.zeroCells z.cells (G-(n+1))) 64)):=by
  have h:=Lib.run_append_grow_zeros w 25 3 25 64 i0 z .i64 .i64 Try.underlying25 Try.underlying3 hI hz (some ⟨g,0,none⟩) i cap (cs.take (i*2)) hold (n+1-i) (by omega) (by rw [Ah];omega) (by omega) (by omega) (by rw [MA];omega) (by rw [MA,QM];exact growslice_fits hroom hby);rw [QM,← hG] at h;rw [hkk];exact h
 obtain ⟨zs,QH⟩:=yg (w:=w) (tid:=64) (sz:=2) (i:=i) (k:=n+1-i) (G:=G) htl hzs (by omega) hGm base hb;rw [QM] at QH;obtain ⟨ROW,MG⟩:∃ ROW:Array Value,ROW=(cs.take (i*2)).toArray++Builtin.zeroCells z.cells (n+1-i)++Builtin.zeroCells z.cells (G-(n+1)):=⟨_,rfl⟩;rw [←MG] at hrz QH;have Fx:((w.alloc (.cells ROW 64)).drew).ownsRow base 64 2 (.slice (some ⟨w.heap.size,0,none⟩) (n+1) G) (n+1) (cs.take (i*2)++zs):=QH
 have vI:∀ k,k<w.heap.size→((w.alloc (.cells ROW 64)).drew).heap[k]?=w.heap[k]?:=fun k hk=>Below.heap_alloc w _ k hk
 obtain ⟨c1,q1,q2⟩:=jV (P:=Try.prog) (w:=(w.alloc (.cells ROW 64)).drew) (T:=25) (T':=25) (ty:=3) (i:=i0) (d:=i) (m:=1) (c:=vc) (c':=G-i) (q:=1) (p:=⟨vb,0,none⟩) (us:=gs) Fx Try.underlying25 hI Ah (by omega) (by omega) CA
  (fun j u hj=>by
   rw [eL,World.cell?_of_block (w:=w) (vI vb XH),Nat.zero_add]
   exact ll j u hj) o2
 have hne:g≠w.heap.size:=by omega
 obtain ⟨c2,q3,q4⟩:=jV (P:=Try.prog) (w:=((w.alloc (.cells ROW 64)).drew.setRow w.heap.size c1).drew) (T:=25) (T':=25) (ty:=3) (i:=i0) (d:=i+1) (m:=n-i) (c:=cap-i) (c':=G-(i+1)) (q:=n-i) (p:=⟨g,i*2,none⟩) (us:=cs.drop (i*2)) (qL q2) Try.underlying25 hI Ah (by omega) (by omega) (by rw [List.length_drop,hcl,Nat.sub_mul])
  (fun j u hj=>by
   rw [eL];rw [List.getElem?_drop] at hj;rw [World.cell?_of_block (w:=(w.alloc (.cells ROW 64)).drew) (setRow_other (w.alloc (.cells ROW 64)).drew w.heap.size g c1 hne),World.cell?_of_block (w:=w) (vI g XL)]
   exact hcell _ u hj) (fun u hu=>o1 u (List.mem_of_mem_drop hu))
 have vJ:=Cq (cells:=cs.take (i*2)++zs) (cs:=cs) (gs:=gs) (zs:=zs) (n:=n) (i:=i) (sz:=2) rfl hcl Fx.1 CA (by omega);rw [vJ] at q4
 have hgrow:w.grownBy (((w.alloc (.cells ROW 64)).drew.setRow w.heap.size c1).drew.setRow w.heap.size c2) (some g):=
  yG (g:=w.heap.size) (w1:=(w.alloc (.cells ROW 64)).drew) (eY (World.grownBy_alloc w _ none) (jH _ _)) (eY (eY (fH _ _ _) (jH _ _)) (fH _ _ _)) (Nat.le_refl _) _
 have hw1:IntKind.i64.wrap ((n:Int)+1)=(n:Int)+1:=by rw [IntKind.wrap_i64];omega
 have hw2:IntKind.i64.wrap ((i:Int)+1)=(i:Int)+1:=by rw [IntKind.wrap_i64];omega
 have hw3:IntKind.i64.wrap ((n:Int)+1-(i:Int))=(n:Int)+1-(i:Int):=by rw [IntKind.wrap_i64];omega
 have hz2:¬ ((i:Int)=(n:Int)):=by omega
 have V5:(cap:Int)<(n:Int)+1:=by omega
 have hb0:i≤n:=by omega
 have QQ:(0:Int)≤(i:Int)+1:=by omega
 have hb4:(i:Int)+1≤(n:Int)+1:=by omega
 have hb5:(i:Int)≤(n:Int)+1:=by omega
 have hb6:¬ (G=i):=by omega
 have hb7:¬ (G=i+1):=by omega
 have hb8:¬ (cap=i):=by omega
 have hb9:(i:Int)≤(cap:Int):=by omega
 have hba:i≤cap:=by omega
 have htn:((i:Int)+1).toNat=i+1:=by omega
 unfold maxLen at hGm;have mixed:=(show Try.prog.follows .mixedOrders=true by kernel_rfl);clear hI hz hzs MG hG vJ hold hkk QM QH Fx vI q2
 go_enter Try.func63,Try.ntmps63
 go_wp2_with (first
  | (at_builtin;refine Lib.wpList_append_run _ rfl _ _ _ _ rfl _ _ rfl rfl _ _ hrz ?_)
  | (at_builtin;refine wpList_copy_runI _ rfl _ _ 25 25 rfl _ _ rfl rfl q1 ?_))
 go_region_law_o (refine step_copy_runI rfl _ _ 25 25 rfl (.slice (some ⟨w.heap.size,(i+1)*2,none⟩) (n+1-(i+1)) (G-(i+1))) (.slice (some ⟨g,i*2,none⟩) (n-i) (cap-i)) (by simp [Act.eval,Act.put]) (by simp [Act.eval,Act.put]) q3 ?_)
 go_wp2
 go_ret
 exact ⟨_,rfl,q4,hgrow,rfl⟩
theorem Ml:Ic Try.prog 63 64 2 24:=by
 have hnm:(Try.f63.name == "runtime.NumGoroutine")=false:=by kernel_rfl
 refine ⟨⟨Try.f63,Try.func63,by kernel_rfl,by simpa using hnm⟩,fun w base v v1 n i cs gs hs h1 hb hin hby hne o1 o2=>?_⟩;obtain ⟨vb,vc,e1,_,_,_,_,_⟩:=eF h1 (by omega);subst e1
 rcases Nat.lt_or_ge i n with hlt | hge
 ·obtain ⟨g,cap,e,_,_,hnc,hcm,_⟩:=eF hs (by omega)
  subst e
  rcases Nat.lt_or_ge cap (n+1) with hc | hc
  ·exact (Fq w base g cap vb vc n i cs gs hs h1 hlt hnc hc hb hby o1 o2).mono fun e w' ⟨v',h1,h2,h3,h4⟩=>⟨v',h1,h2,h3,.inr fun g' hg=>by rw [h4] at hg;cases hg;exact Nat.le_refl _⟩
  ·exact (Fp w base g cap vb vc n i cs gs hs h1 (fun e=>hne g rfl (by rw [e];rfl)) hlt hc hcm o1 o2).mono fun e w' ⟨v',h1,h2,h3,h4⟩=>⟨v',h1,h2,h3,.inl (by rw [h4];rfl)⟩
 ·have:i=n:=by omega
  subst this;have e1:cs.take (i*2)=cs:=List.take_of_length_le (by rw [hs.1];omega);have e2:cs.drop (i*2)=[]:=List.drop_of_length_le (by rw [hs.1];omega);rw [e1,e2,List.append_nil]
  exact (Jc w base v vb vc i cs gs hs h1 hb hby o2).mono fun e w' ⟨v',h1,h2,h3,h4⟩=>⟨v',h1,h2,h3,h4.imp (fun h=>h) fun h g' hg=>by rw [h] at hg;cases hg;exact Nat.le_refl _⟩
end Go.Proofs.Ytipemmgoipbojaa.Ab
set_option maxRecDepth 100000
namespace Go.Proofs.Ytipemmgoipbojaa.Ab
open Go Go.RowKit Go.Lib
section
variable (w:World) (base:Nat) (v1:Value) (g cap vb vc n i:Nat) (cs gs:List Value)
theorem Jd (h1:w.ownsRow base 29 13 (.slice (some ⟨vb,0,none⟩) 1 vc) 1 gs) {N:Nat} {cells:List Value} (h2:w.ownsRow base 29 13 (.slice (some ⟨g,0,none⟩) N cap) N cells) (hN:0<N) (hne:vb≠g) (o lb cb:Nat) :
  (callFunc 104 #[.slice (some ⟨vb,0,none⟩) 1 vc,.slice (some ⟨g,o,none⟩) lb cb]).run Try.prog w = .ok (.value (.bool false)) w:=by
 have hcap:1≤cap:=by
  obtain ⟨g',cap',e,_,_,h,_⟩:=eF h2 hN;cases e;omega
 have hvc:1≤vc:=by
  obtain ⟨g',cap',e,_,_,h,_⟩:=eF h1 (by omega);cases e;omega
 rw [run_callFunc_extern Try.func104 (by kernel_rfl) (by kernel_rfl) (by kernel_rfl) (e:=Extern.SlicesOverlaps.overlaps #[23,23] #[4]) (by kernel_rfl),
  Lib.run_overlaps_apart w 23 4 29 Try.underlying23 13 (fun w=>by kernel_rfl) ⟨vb,0,none⟩ ⟨g,o,none⟩ 1 vc lb cb hne 29 29 (vc*13) (cap*13) (oP h1) (oP h2) (by omega) (mW h1 _) (mW h1 _)]
 rfl
end
set_option maxHeartbeats 4000000 in
theorem Fs (w:World) (base:Nat) (g cap vb vc n i:Nat) (cs gs:List Value) (hs:w.ownsRow base 29 13 (.slice (some ⟨g,0,none⟩) n cap) n cs) (h1:w.ownsRow base 29 13 (.slice (some ⟨vb,0,none⟩) 1 vc) 1 gs) (hne:vb≠g) (hi:i<n) (hroom:n+1≤cap) (hcm:cap≤maxLen)
  (o1:∀ u,u∈cs→u.oneCell'=true) (o2:∀ u,u∈gs→u.oneCell'=true) :
  Calls Try.prog 55 #[.slice (some ⟨g,0,none⟩) n cap,.int .i64 i,.slice (some ⟨vb,0,none⟩) 1 vc] w fun e w'=>∃ v',e = .returned v'∧w'.ownsRow base 29 13 v' (n+1) (cs.take (i*13)++gs++cs.drop (i*13))∧w.grownBy w' (some g)∧v'.ownBlock=some g:=by
 have hcl:cs.length=n*13:=hs.1;have CA:gs.length=1*13:=h1.1;obtain ⟨cells,A7,htk⟩:=B5 hs (m:=n+1) (by omega) hroom;have hov:=Jd w base g cap vb vc gs h1 A7 (by omega) hne;unfold maxLen at hcm
 have hcell:∀ j u,cs[j]?=some u→w.cell? ⟨g,j,none⟩=some u:=(by
  obtain ⟨g',cap',e,_,_,_,_,h⟩:=eF hs (by omega);cases e
  exact h)
 have ll:∀ j u,gs[j]?=some u→w.cell? ⟨vb,j,none⟩=some u:=(by
  obtain ⟨g',cap',e,_,_,_,_,h⟩:=eF h1 (by omega);cases e
  exact h)
 have hci:i*13≤cells.length:=by rw [A7.1];exact Nat.mul_le_mul_right _ (by omega)
 obtain ⟨c1,q1,q2⟩:=jV (P:=Try.prog) (w:=w.drew) (T:=23) (T':=23) (ty:=3) (i:=(Try.prog.info? 29).get (by kernel_rfl)) (d:=i+1) (m:=n+1-i) (c:=cap-i) (c':=cap-(i+1)) (q:=n-i) (p:=⟨g,i*13,none⟩) (us:=cs.drop (i*13)) (qL A7) Try.underlying23 (by kernel_rfl) (by kernel_rfl) (by omega) (by omega) (by rw [List.length_drop,hcl,Nat.sub_mul])
  (fun j u hj=>by rw [eL];rw [List.getElem?_drop] at hj;exact hcell _ u hj) (fun u hu=>o1 u (List.mem_of_mem_drop hu))
 obtain ⟨c2,q3,q4⟩:=jV (P:=Try.prog) (w:=w.drew.setRow g c1) (T:=23) (T':=23) (ty:=3) (i:=(Try.prog.info? 29).get (by kernel_rfl)) (d:=i) (m:=1) (c:=vc) (c':=cap-i) (q:=1) (p:=⟨vb,0,none⟩) (us:=gs) q2 Try.underlying23 (by kernel_rfl) (by kernel_rfl) (by omega) (by omega) CA
  (fun j u hj=>by
   rw [eL,World.cell?_of_block (w:=w.drew) (setRow_other w.drew g vb c1 hne),Nat.zero_add]
   exact ll j u hj) o2
 have vJ:(cells.take ((i+1)*13)++cs.drop (i*13)++cells.drop ((i+1)*13+(cs.drop (i*13)).length)).take (i*13)++gs++(cells.take ((i+1)*13)++cs.drop (i*13)++cells.drop ((i+1)*13+(cs.drop (i*13)).length)).drop (i*13+gs.length)=cs.take (i*13)++gs++cs.drop (i*13):=
  Ho htk hcl A7.1 CA (by omega)
 rw [vJ] at q4
 have hw1:IntKind.i64.wrap ((n:Int)+1)=(n:Int)+1:=by rw [IntKind.wrap_i64];omega
 have hw2:IntKind.i64.wrap ((i:Int)+1)=(i:Int)+1:=by rw [IntKind.wrap_i64];omega
 have hz2:¬ ((i:Int)=(n:Int)):=by omega
 have V5:¬ ((cap:Int)<(n:Int)+1):=by omega
 have hb0:i≤n:=by omega
 have QQ:(0:Int)≤(i:Int)+1:=by omega
 have Ep:(0:Int)≤(n:Int)+1:=by omega
 have hb3:(n:Int)+1≤(cap:Int):=by omega
 have hb4:(i:Int)+1≤(n:Int)+1:=by omega
 have hb5:(i:Int)≤(n:Int)+1:=by omega
 have hb6:¬ (cap=i):=by omega
 have hb7:¬ (cap=i+1):=by omega
 have htn:((i:Int)+1).toNat=i+1:=by omega
 have htm:((n:Int)+1).toNat=n+1:=by omega
 have hgrow:w.grownBy ((w.drew.setRow g c1).setRow g c2) (some g):=eY (eY (jH w _) (fH _ _ _)) (fH _ _ _);clear vJ;have mixed:=(show Try.prog.follows .mixedOrders=true by kernel_rfl)
 go_enter Try.func55,Try.ntmps55
 go_wp2_with (simp only [hov])
 go_region_law_o (refine step_copy_runI rfl _ _ 23 23 rfl (.slice (some ⟨g,(i+1)*13,none⟩) (n+1-(i+1)) (cap-(i+1))) (.slice (some ⟨g,i*13,none⟩) (n+1-i) (cap-i)) (by simp [Act.eval,Act.put]) (by simp [Act.eval,Act.put]) q1 ?_)
 go_wp2_with (at_builtin;refine wpList_copy_runI _ rfl _ _ 23 23 rfl _ _ rfl rfl q3 ?_)
 go_ret
 exact ⟨_,rfl,q4,hgrow,rfl⟩
set_option maxHeartbeats 4000000 in
theorem Je (w:World) (base:Nat) (v:Value) (vb vc n:Nat) (cs gs:List Value) (hs:w.ownsRow base 29 13 v n cs) (h1:w.ownsRow base 29 13 (.slice (some ⟨vb,0,none⟩) 1 vc) 1 gs) (hb:base≤w.heap.size) (hby:(n+1)*112≤140737488355328) (o2:∀ u,u∈gs→u.oneCell'=true) :
  Calls Try.prog 55 #[v,.int .i64 n,.slice (some ⟨vb,0,none⟩) 1 vc] w fun e w'=>∃ v',e = .returned v'∧w'.ownsRow base 29 13 v' (n+1) (cs++gs)∧w.grownBy w' v.ownBlock∧(v'.ownBlock=v.ownBlock∨v'.ownBlock=some w.heap.size):=by
 have CA:gs.length=1*13:=h1.1
 have ll:∀ j u,gs[j]?=some u→w.cell? ⟨vb,j,none⟩=some u:=(by
  obtain ⟨g',cap',e,_,_,_,_,h⟩:=eF h1 (by omega);cases e
  exact h)
 have hI:Try.prog.info? 29=some ((Try.prog.info? 29).get (by kernel_rfl)):=by kernel_rfl
 obtain ⟨z,hz⟩:∃ z,((Try.prog.info? 29).get (by kernel_rfl)).zero=some z:=⟨_,rfl⟩
 have hzs:z.cells.size=13:=by
  have:((Try.prog.info? 29).get (by kernel_rfl)).zero.map (·.cells.size)=some 13:=by kernel_rfl
  rw [hz] at this;exact Option.some.inj this
 have S7:(List.range (1*13)).map (fun j=>gs.getD j undef)=gs:=by
  apply List.ext_getElem
  ·simp [CA]
  ·intro m Cw Eo
   simp [List.getD_eq_getElem?_getD,Eo]
 have hap:∃ v' w',(Builtin.append_ #[23,23] 23 #[v,.slice (some ⟨vb,0,none⟩) 1 vc]).run Try.prog w = .ok v' w'∧w'.ownsRow base 29 13 v' (n+1) (cs++(List.range (1*13)).map (fun j=>gs.getD j undef))∧w.grownBy w' v.ownBlock∧(v'.ownBlock=v.ownBlock∨v'.ownBlock=some w.heap.size):=
  qa (P:=Try.prog) (ty:=23) (bytes:=112) Try.underlying23 hI hz (by kernel_rfl) (by kernel_rfl) hzs (by omega) hs (m:=1) (c:=vc) (A:=some ⟨vb,0,none⟩) (f:=fun j=>gs.getD j undef)
   (fun _=>⟨_,rfl,fun j hj=>by
    rw [eL,Nat.zero_add];refine ll j _ ?_
    rw [List.getD_eq_getElem?_getD,List.getElem?_eq_getElem (by omega)];rfl⟩)
   (fun j hj=>by
    have gW:j<gs.length:=by omega
    rw [List.getD_eq_getElem?_getD,List.getElem?_eq_getElem gW]
    exact o2 _ (List.getElem_mem gW)) (by unfold maxLen;omega) hby hb
 obtain ⟨v',w',q1,q2,q3,q4⟩:=hap;rw [S7] at q2
 have hw1:IntKind.i64.wrap ((n:Int)+1)=(n:Int)+1:=by rw [IntKind.wrap_i64];omega
 have mixed:=(show Try.prog.follows .mixedOrders=true by kernel_rfl);obtain ⟨A,c,hv,hA⟩:=fC hs
 have hnc:n≤c:=by
  rcases hs.2 with ⟨e,e'⟩ | ⟨g',cap',cur,e,_,_,h,_⟩
  ·omega
  ·rw [hv] at e;cases e;exact h
 have hc63:c≤9223372036854775807:=by
  rcases hs.2 with ⟨e,e'⟩ | ⟨g',cap',cur,e,_,_,_,h,_⟩
  ·rw [hv] at e;cases e;omega
  ·rw [hv] at e;cases e;unfold maxLen at h;omega
 rw [hv] at q1 ⊢;rw [hv] at q3 q4;clear hI hz S7 hA
 cases A with
 | none=>
  go_enter Try.func55,Try.ntmps55
  go_wp2_with (at_builtin;refine Lib.wpList_append_run _ rfl _ _ _ _ rfl _ _ rfl rfl _ _ q1 ?_)
  all_goals (go_ret;exact ⟨_,rfl,q2,q3,q4⟩)
 | some a=>
  obtain ⟨ab,ao,asp⟩:=a
  go_enter Try.func55,Try.ntmps55
  go_wp2_with (at_builtin;refine Lib.wpList_append_run _ rfl _ _ _ _ rfl _ _ rfl rfl _ _ q1 ?_)
  all_goals (go_ret;exact ⟨_,rfl,q2,q3,q4⟩)
set_option maxHeartbeats 4000000 in
theorem Ft (w:World) (base:Nat) (g cap vb vc n i:Nat) (cs gs:List Value) (hs:w.ownsRow base 29 13 (.slice (some ⟨g,0,none⟩) n cap) n cs) (h1:w.ownsRow base 29 13 (.slice (some ⟨vb,0,none⟩) 1 vc) 1 gs) (hi:i<n) (hnc:n≤cap) (hroom:cap<n+1) (hb:base≤w.heap.size) (hby:(n+1)*112≤140737488355328)
  (o1:∀ u,u∈cs→u.oneCell'=true) (o2:∀ u,u∈gs→u.oneCell'=true) :
  Calls Try.prog 55 #[.slice (some ⟨g,0,none⟩) n cap,.int .i64 i,.slice (some ⟨vb,0,none⟩) 1 vc] w fun e w'=>∃ v',e = .returned v'∧w'.ownsRow base 29 13 v' (n+1) (cs.take (i*13)++gs++cs.drop (i*13))∧w.grownBy w' (some g)∧v'.ownBlock=some w.heap.size:=by
 have hcl:cs.length=n*13:=hs.1;have CA:gs.length=1*13:=h1.1
 have FF:g<w.heap.size∧∀ j u,cs[j]?=some u→w.cell? ⟨g,j,none⟩=some u:=(by
  obtain ⟨g',cap',e,_,h3,_,_,h⟩:=eF hs (by omega);cases e
  exact ⟨h3,h⟩)
 have FE:vb<w.heap.size∧∀ j u,gs[j]?=some u→w.cell? ⟨vb,j,none⟩=some u:=(by
  obtain ⟨g',cap',e,_,h3,_,_,h⟩:=eF h1 (by omega);cases e
  exact ⟨h3,h⟩)
 obtain ⟨XL,hcell⟩:=FF;obtain ⟨XH,ll⟩:=FE
 have hI:Try.prog.info? 29=some ((Try.prog.info? 29).get (by kernel_rfl)):=by kernel_rfl
 obtain ⟨i0,hi0⟩:∃ i0,i0=(Try.prog.info? 29).get (by kernel_rfl):=⟨_,rfl⟩
 have Ah:i0.size=13:=by rw [hi0];kernel_rfl
 have MA:i0.bytes=112:=by rw [hi0];kernel_rfl
 obtain ⟨z,hz⟩:∃ z,((Try.prog.info? 29).get (by kernel_rfl)).zero=some z:=⟨_,rfl⟩
 have hzs:z.cells.size=13:=by
  have:((Try.prog.info? 29).get (by kernel_rfl)).zero.map (·.cells.size)=some 13:=by kernel_rfl
  rw [hz] at this;exact Option.some.inj this
 rw [←hi0] at hI hz
 have QM:i+(n+1-i)=n+1:=by omega
 have hkk:(n:Int)+1-(i:Int)=((n+1-i:Nat):Int):=by omega
 have htl:(cs.take (i*13)).length=i*13:=by rw [List.length_take,hcl];have:i*13≤n*13:=Nat.mul_le_mul_right _ (by omega);omega
 have hold:(Builtin.firstCells i0.size i (.slice (some ⟨g,0,none⟩) i cap)).run Try.prog w.drew = .ok (cs.take (i*13)).toArray w.drew:=by
  rw [Ah]
  exact run_firstCells_some w.drew 13 i ⟨g,0,none⟩ i cap (cs.take (i*13)) htl (fun j v hj=>by
   rw [eL,Nat.zero_add];rw [List.getElem?_take] at hj;split at hj
   ·exact hcell j v hj
   ·cases hj)
 obtain ⟨G,hG⟩:∃ G,G=grownCap w (n+1) cap 29:=⟨_,rfl⟩
 have hGn:n+1≤G:=by rw [hG];exact grownCap_ge w _ _ _
 have hGm:G≤maxLen:=by rw [hG];exact grownCap_le_maxLen w _ _ _ (by unfold maxLen;omega)
 have hrz:(Builtin.append_ #[23,3] 23 #[.slice (some ⟨g,0,none⟩) i cap,.int .i64 ((n:Int)+1-(i:Int))]).run Try.prog w =
   .ok (.slice (some ⟨w.heap.size,0,none⟩) (n+1) G) (w.drew.alloc (.cells ((cs.take (i*13)).toArray++Builtin.zeroCells z.cells (n+1-i)++Builtin.zeroCells z.cells (G-(n+1))) 29)):=by
  have h:=Lib.run_append_grow_zeros w 23 3 23 29 i0 z .i64 .i64 Try.underlying23 Try.underlying3 hI hz (some ⟨g,0,none⟩) i cap (cs.take (i*13)) hold (n+1-i) (by omega) (by rw [Ah];omega) (by omega) (by omega) (by rw [MA];omega) (by rw [MA,QM];exact growslice_fits hroom hby);rw [QM,← hG] at h;rw [hkk];exact h
 obtain ⟨zs,QH⟩:=yg (w:=w) (tid:=29) (sz:=13) (i:=i) (k:=n+1-i) (G:=G) htl hzs (by omega) hGm base hb;rw [QM] at QH;obtain ⟨ROW,MG⟩:∃ ROW:Array Value,ROW=(cs.take (i*13)).toArray++Builtin.zeroCells z.cells (n+1-i)++Builtin.zeroCells z.cells (G-(n+1)):=⟨_,rfl⟩;rw [←MG] at hrz QH;have Fx:((w.alloc (.cells ROW 29)).drew).ownsRow base 29 13 (.slice (some ⟨w.heap.size,0,none⟩) (n+1) G) (n+1) (cs.take (i*13)++zs):=QH
 have vI:∀ k,k<w.heap.size→((w.alloc (.cells ROW 29)).drew).heap[k]?=w.heap[k]?:=fun k hk=>Below.heap_alloc w _ k hk
 obtain ⟨c1,q1,q2⟩:=jV (P:=Try.prog) (w:=(w.alloc (.cells ROW 29)).drew) (T:=23) (T':=23) (ty:=3) (i:=i0) (d:=i) (m:=1) (c:=vc) (c':=G-i) (q:=1) (p:=⟨vb,0,none⟩) (us:=gs) Fx Try.underlying23 hI Ah (by omega) (by omega) CA
  (fun j u hj=>by
   rw [eL,World.cell?_of_block (w:=w) (vI vb XH),Nat.zero_add]
   exact ll j u hj) o2
 have hne:g≠w.heap.size:=by omega
 obtain ⟨c2,q3,q4⟩:=jV (P:=Try.prog) (w:=((w.alloc (.cells ROW 29)).drew.setRow w.heap.size c1).drew) (T:=23) (T':=23) (ty:=3) (i:=i0) (d:=i+1) (m:=n-i) (c:=cap-i) (c':=G-(i+1)) (q:=n-i) (p:=⟨g,i*13,none⟩) (us:=cs.drop (i*13)) (qL q2) Try.underlying23 hI Ah (by omega) (by omega) (by rw [List.length_drop,hcl,Nat.sub_mul])
  (fun j u hj=>by
   rw [eL];rw [List.getElem?_drop] at hj;rw [World.cell?_of_block (w:=(w.alloc (.cells ROW 29)).drew) (setRow_other (w.alloc (.cells ROW 29)).drew w.heap.size g c1 hne),World.cell?_of_block (w:=w) (vI g XL)]
   exact hcell _ u hj) (fun u hu=>o1 u (List.mem_of_mem_drop hu))
 have vJ:=Cq (cells:=cs.take (i*13)++zs) (cs:=cs) (gs:=gs) (zs:=zs) (n:=n) (i:=i) (sz:=13) rfl hcl Fx.1 CA (by omega);rw [vJ] at q4
 have hgrow:w.grownBy (((w.alloc (.cells ROW 29)).drew.setRow w.heap.size c1).drew.setRow w.heap.size c2) (some g):=
  yG (g:=w.heap.size) (w1:=(w.alloc (.cells ROW 29)).drew) (eY (World.grownBy_alloc w _ none) (jH _ _)) (eY (eY (fH _ _ _) (jH _ _)) (fH _ _ _)) (Nat.le_refl _) _
 have hw1:IntKind.i64.wrap ((n:Int)+1)=(n:Int)+1:=by rw [IntKind.wrap_i64];omega
 have hw2:IntKind.i64.wrap ((i:Int)+1)=(i:Int)+1:=by rw [IntKind.wrap_i64];omega
 have hw3:IntKind.i64.wrap ((n:Int)+1-(i:Int))=(n:Int)+1-(i:Int):=by rw [IntKind.wrap_i64];omega
 have hz2:¬ ((i:Int)=(n:Int)):=by omega
 have V5:(cap:Int)<(n:Int)+1:=by omega
 have hb0:i≤n:=by omega
 have QQ:(0:Int)≤(i:Int)+1:=by omega
 have hb4:(i:Int)+1≤(n:Int)+1:=by omega
 have hb5:(i:Int)≤(n:Int)+1:=by omega
 have hb6:¬ (G=i):=by omega
 have hb7:¬ (G=i+1):=by omega
 have hb8:¬ (cap=i):=by omega
 have hb9:(i:Int)≤(cap:Int):=by omega
 have hba:i≤cap:=by omega
 have htn:((i:Int)+1).toNat=i+1:=by omega
 unfold maxLen at hGm;have mixed:=(show Try.prog.follows .mixedOrders=true by kernel_rfl);clear hI hz hzs MG hG vJ hold hkk QM QH Fx vI q2
 go_enter Try.func55,Try.ntmps55
 go_wp2_with (first
  | (at_builtin;refine Lib.wpList_append_run _ rfl _ _ _ _ rfl _ _ rfl rfl _ _ hrz ?_)
  | (at_builtin;refine wpList_copy_runI _ rfl _ _ 23 23 rfl _ _ rfl rfl q1 ?_))
 go_region_law_o (refine step_copy_runI rfl _ _ 23 23 rfl (.slice (some ⟨w.heap.size,(i+1)*13,none⟩) (n+1-(i+1)) (G-(i+1))) (.slice (some ⟨g,i*13,none⟩) (n-i) (cap-i)) (by simp [Act.eval,Act.put]) (by simp [Act.eval,Act.put]) q3 ?_)
 go_wp2
 go_ret
 exact ⟨_,rfl,q4,hgrow,rfl⟩
theorem Mm:Ic Try.prog 55 29 13 112:=by
 have hnm:(Try.f55.name == "runtime.NumGoroutine")=false:=by kernel_rfl
 refine ⟨⟨Try.f55,Try.func55,by kernel_rfl,by simpa using hnm⟩,fun w base v v1 n i cs gs hs h1 hb hin hby hne o1 o2=>?_⟩;obtain ⟨vb,vc,e1,_,_,_,_,_⟩:=eF h1 (by omega);subst e1
 rcases Nat.lt_or_ge i n with hlt | hge
 ·obtain ⟨g,cap,e,_,_,hnc,hcm,_⟩:=eF hs (by omega)
  subst e
  rcases Nat.lt_or_ge cap (n+1) with hc | hc
  ·exact (Ft w base g cap vb vc n i cs gs hs h1 hlt hnc hc hb hby o1 o2).mono fun e w' ⟨v',h1,h2,h3,h4⟩=>⟨v',h1,h2,h3,.inr fun g' hg=>by rw [h4] at hg;cases hg;exact Nat.le_refl _⟩
  ·exact (Fs w base g cap vb vc n i cs gs hs h1 (fun e=>hne g rfl (by rw [e];rfl)) hlt hc hcm o1 o2).mono fun e w' ⟨v',h1,h2,h3,h4⟩=>⟨v',h1,h2,h3,.inl (by rw [h4];rfl)⟩
 ·have:i=n:=by omega
  subst this;have e1:cs.take (i*13)=cs:=List.take_of_length_le (by rw [hs.1];omega);have e2:cs.drop (i*13)=[]:=List.drop_of_length_le (by rw [hs.1];omega);rw [e1,e2,List.append_nil]
  exact (Je w base v vb vc i cs gs hs h1 hb hby o2).mono fun e w' ⟨v',h1,h2,h3,h4⟩=>⟨v',h1,h2,h3,h4.imp (fun h=>h) fun h g' hg=>by rw [h] at hg;cases hg;exact Nat.le_refl _⟩
inductive Ty where
 | e3
 | e5
 | e9
 | dv
 | aA
 | p7
 | kF
 | aC
 | ay
 | xk
 | eC
 | A8
 | sK
 deriving DecidableEq
structure af where
 Name:ByteArray
 Version:Int
 cC:Bool
 aB:Int
 Want:Int
 Down:Int
 ct:Int
 Next:Int
 dA:Int
 aP:Int
 bN:Int
 cK:Int
 cE:Int
structure aq where
 ax:ByteArray
 Number:Int
 Version:Int
 aB:Int
 State:Int
 Ending:Bool
 bw:ByteArray
structure av where
 Name:ByteArray
 kJ:Bool
structure aa where
 b8:Int
 ae:List af
 ai:List aq
 aj:List av
structure az where
 Kind:Int
 bO:ByteArray
 bg:Int
 bV:Bool
 bL:Int
 cm:Int
 bW:Int
 bS:Int
 cz:Int
 cw:Int
 bK:Int
 bT:Int
 bU:Int
 bX:Int
 Name:ByteArray
 Number:Int
 jx:Bool
structure lA where
 Number:Int
 Seen:Int
structure bJ where
 ax:ByteArray
 Seen:Int
 iI:Int
 Want:Int
 cE:Int
 nJ:Bool
 Ends:List lA
 Drop:Bool
structure aO where
 gZ:List aa
 cr:Int
 aG:List af
 aU:List aq
 aT:List av
structure eT where
 Live:Int
 Ub:Int
 Old:Int
 Failed:Int
 Ending:Int
structure gm where
 uz:Int
 Age:Int
 nv:Int
 gE:ByteArray
 fm:Int
 gH:Bool
 ga:Int
 gB:Int
 gI:Int
 gC:Int
 gD:Int
 gU:Int
 fZ:Int
 gF:Int
 gG:Int
 gJ:Int
 nu:ByteArray
 kP:Int
 ny:Bool
structure Rn where
 x:Int
 y:Int
 signed:Bool
 code:Int
structure Et where
 msg:ByteArray
 addr:Int
structure Vl12Rd where
 b:List Int
 p:Int
abbrev C:Ty→Type
 | .e3=>Int
 | .e5=>Int
 | .e9=>ByteArray
 | .dv=>aa
 | .aA=>af
 | .p7=>az
 | .kF=>bJ
 | .aC=>aq
 | .ay=>av
 | .xk=>aO
 | .eC=>lA
 | .A8=>eT
 | .sK=>gm
def enc:(t:Ty)→C t→List (Lf C)
 | .e3,x=>[.int .i64 x]
 | .e5,x=>[.int .u8 x]
 | .e9,x=>[.str x]
 | .dv,x=>[.int .i64 x.b8,.row .aA x.ae,.row .aC x.ai,.row .ay x.aj]
 | .aA,x=>[.str x.Name,.int .i64 x.Version,.bool x.cC,.int .i64 x.aB,.int .i64 x.Want,.int .i64 x.Down,.int .i64 x.ct,.int .i64 x.Next,.int .i64 x.dA,.int .i64 x.aP,.int .i64 x.bN,.int .i64 x.cK,.int .i64 x.cE]
 | .p7,x=>[.int .i64 x.Kind,.str x.bO,.int .i64 x.bg,.bool x.bV,.int .i64 x.bL,.int .i64 x.cm,.int .i64 x.bW,.int .i64 x.bS,.int .i64 x.cz,.int .i64 x.cw,.int .i64 x.bK,.int .i64 x.bT,.int .i64 x.bU,.int .i64 x.bX,.str x.Name,.int .i64 x.Number,.bool x.jx]
 | .kF,x=>[.str x.ax,.int .i64 x.Seen,.int .i64 x.iI,.int .i64 x.Want,.int .i64 x.cE,.bool x.nJ,.row .eC x.Ends,.bool x.Drop]
 | .aC,x=>[.str x.ax,.int .i64 x.Number,.int .i64 x.Version,.int .i64 x.aB,.int .i64 x.State,.bool x.Ending,.str x.bw]
 | .ay,x=>[.str x.Name,.bool x.kJ]
 | .xk,x=>[.row .dv x.gZ,.int .i64 x.cr,.row .aA x.aG,.row .aC x.aU,.row .ay x.aT]
 | .eC,x=>[.int .i64 x.Number,.int .i64 x.Seen]
 | .A8,x=>[.int .i64 x.Live,.int .i64 x.Ub,.int .i64 x.Old,.int .i64 x.Failed,.int .i64 x.Ending]
 | .sK,x=>[.int .i64 x.uz,.int .i64 x.Age,.int .i64 x.nv,.str x.gE,.int .i64 x.fm,.bool x.gH,.int .i64 x.ga,.int .i64 x.gB,.int .i64 x.gI,.int .i64 x.gC,.int .i64 x.gD,.int .i64 x.gU,.int .i64 x.fZ,.int .i64 x.gF,.int .i64 x.gG,.int .i64 x.gJ,.str x.nu,.int .i64 x.kP,.bool x.ny]
def d3 (cs:List (Lf C)):Option (C .e3):=match cs with
 | [.int .i64 x]=>some x
 | _=>none
theorem d3_ok (cs:List (Lf C)) (x:C .e3) (h:d3 cs=some x):enc .e3 x=cs:=by
 unfold d3 at h;split at h
 ·cases h;rfl
 ·cases h
def d5 (cs:List (Lf C)):Option (C .e5):=match cs with
 | [.int .u8 x]=>some x
 | _=>none
theorem d5_ok (cs:List (Lf C)) (x:C .e5) (h:d5 cs=some x):enc .e5 x=cs:=by
 unfold d5 at h;split at h
 ·cases h;rfl
 ·cases h
def d9 (cs:List (Lf C)):Option (C .e9):=match cs with
 | [.str x]=>some x
 | _=>none
theorem d9_ok (cs:List (Lf C)) (x:C .e9) (h:d9 cs=some x):enc .e9 x=cs:=by
 unfold d9 at h;split at h
 ·cases h;rfl
 ·cases h
def d27 (cs:List (Lf C)):Option (C .dv):=match cs with
 | [.int .i64 x0,.row .aA x1,.row .aC x2,.row .ay x3]=>some ⟨x0,x1,x2,x3⟩
 | _=>none
theorem WZ (cs:List (Lf C)) (x:C .dv) (h:d27 cs=some x):enc .dv x=cs:=by
 unfold d27 at h;split at h
 ·cases h;rfl
 ·cases h
def d29 (cs:List (Lf C)):Option (C .aA):=match cs with
 | [.str x0,.int .i64 x1,.bool x2,.int .i64 x3,.int .i64 x4,.int .i64 x5,.int .i64 x6,.int .i64 x7,.int .i64 x8,.int .i64 x9,.int .i64 aM,.int .i64 aS,.int .i64 aQ]=>some ⟨x0,x1,x2,x3,x4,x5,x6,x7,x8,x9,aM,aS,aQ⟩
 | _=>none
theorem WY (cs:List (Lf C)) (x:C .aA) (h:d29 cs=some x):enc .aA x=cs:=by
 unfold d29 at h;split at h
 ·cases h;rfl
 ·cases h
def d31 (cs:List (Lf C)):Option (C .p7):=match cs with
 | [.int .i64 x0,.str x1,.int .i64 x2,.bool x3,.int .i64 x4,.int .i64 x5,.int .i64 x6,.int .i64 x7,.int .i64 x8,.int .i64 x9,.int .i64 aM,.int .i64 aS,.int .i64 aQ,.int .i64 aZ,.str aV,.int .i64 aY,.bool aW]=>some ⟨x0,x1,x2,x3,x4,x5,x6,x7,x8,x9,aM,aS,aQ,aZ,aV,aY,aW⟩
 | _=>none
theorem WX (cs:List (Lf C)) (x:C .p7) (h:d31 cs=some x):enc .p7 x=cs:=by
 unfold d31 at h;split at h
 ·cases h;rfl
 ·cases h
def d41 (cs:List (Lf C)):Option (C .kF):=match cs with
 | [.str x0,.int .i64 x1,.int .i64 x2,.int .i64 x3,.int .i64 x4,.bool x5,.row .eC x6,.bool x7]=>some ⟨x0,x1,x2,x3,x4,x5,x6,x7⟩
 | _=>none
theorem WW (cs:List (Lf C)) (x:C .kF) (h:d41 cs=some x):enc .kF x=cs:=by
 unfold d41 at h;split at h
 ·cases h;rfl
 ·cases h
def d62 (cs:List (Lf C)):Option (C .aC):=match cs with
 | [.str x0,.int .i64 x1,.int .i64 x2,.int .i64 x3,.int .i64 x4,.bool x5,.str x6]=>some ⟨x0,x1,x2,x3,x4,x5,x6⟩
 | _=>none
theorem WV (cs:List (Lf C)) (x:C .aC) (h:d62 cs=some x):enc .aC x=cs:=by
 unfold d62 at h;split at h
 ·cases h;rfl
 ·cases h
def d64 (cs:List (Lf C)):Option (C .ay):=match cs with
 | [.str x0,.bool x1]=>some ⟨x0,x1⟩
 | _=>none
theorem WU (cs:List (Lf C)) (x:C .ay) (h:d64 cs=some x):enc .ay x=cs:=by
 unfold d64 at h;split at h
 ·cases h;rfl
 ·cases h
def d75 (cs:List (Lf C)):Option (C .xk):=match cs with
 | [.row .dv x0,.int .i64 x1,.row .aA x2,.row .aC x3,.row .ay x4]=>some ⟨x0,x1,x2,x3,x4⟩
 | _=>none
theorem WT (cs:List (Lf C)) (x:C .xk) (h:d75 cs=some x):enc .xk x=cs:=by
 unfold d75 at h;split at h
 ·cases h;rfl
 ·cases h
def d80 (cs:List (Lf C)):Option (C .eC):=match cs with
 | [.int .i64 x0,.int .i64 x1]=>some ⟨x0,x1⟩
 | _=>none
theorem WS (cs:List (Lf C)) (x:C .eC) (h:d80 cs=some x):enc .eC x=cs:=by
 unfold d80 at h;split at h
 ·cases h;rfl
 ·cases h
def d85 (cs:List (Lf C)):Option (C .A8):=match cs with
 | [.int .i64 x0,.int .i64 x1,.int .i64 x2,.int .i64 x3,.int .i64 x4]=>some ⟨x0,x1,x2,x3,x4⟩
 | _=>none
theorem WR (cs:List (Lf C)) (x:C .A8) (h:d85 cs=some x):enc .A8 x=cs:=by
 unfold d85 at h;split at h
 ·cases h;rfl
 ·cases h
def d117 (cs:List (Lf C)):Option (C .sK):=match cs with
 | [.int .i64 x0,.int .i64 x1,.int .i64 x2,.str x3,.int .i64 x4,.bool x5,.int .i64 x6,.int .i64 x7,.int .i64 x8,.int .i64 x9,.int .i64 aM,.int .i64 aS,.int .i64 aQ,.int .i64 aZ,.int .i64 aV,.int .i64 aY,.str aW,.int .i64 bq,.bool bC]=>some ⟨x0,x1,x2,x3,x4,x5,x6,x7,x8,x9,aM,aS,aQ,aZ,aV,aY,aW,bq,bC⟩
 | _=>none
theorem Q8 (cs:List (Lf C)) (x:C .sK) (h:d117 cs=some x):enc .sK x=cs:=by
 unfold d117 at h;split at h
 ·cases h;rfl
 ·cases h
def dec (t:Ty):List (Lf C)→Option (C t):=match t with
 | .e3=>d3
 | .e5=>d5
 | .e9=>d9
 | .dv=>d27
 | .aA=>d29
 | .p7=>d31
 | .kF=>d41
 | .aC=>d62
 | .ay=>d64
 | .xk=>d75
 | .eC=>d80
 | .A8=>d85
 | .sK=>d117
noncomputable def KK:Cd C where
 enc:=enc
 dec:=dec
 sz:=fun t=>match t with
  | .e3=>1
  | .e5=>1
  | .e9=>1
  | .dv=>4
  | .aA=>13
  | .p7=>17
  | .kF=>8
  | .aC=>7
  | .ay=>2
  | .xk=>5
  | .eC=>2
  | .A8=>5
  | .sK=>19
 tid:=fun t=>match t with
  | .e3=>3
  | .e5=>5
  | .e9=>9
  | .dv=>27
  | .aA=>29
  | .p7=>31
  | .kF=>41
  | .aC=>62
  | .ay=>64
  | .xk=>75
  | .eC=>80
  | .A8=>85
  | .sK=>117
 bytes:=fun t=>match t with
  | .e3=>8
  | .e5=>1
  | .e9=>16
  | .dv=>80
  | .aA=>112
  | .p7=>152
  | .kF=>88
  | .aC=>72
  | .ay=>24
  | .xk=>104
  | .eC=>16
  | .A8=>40
  | .sK=>168
 zero:=fun t=>match t with
  | .e3=>(0:Int)
  | .e5=>(0:Int)
  | .e9=>(⟨#[]⟩:ByteArray)
  | .dv=>(⟨0,[],[],[]⟩:aa)
  | .aA=>(⟨⟨#[]⟩,0,false,0,0,0,0,0,0,0,0,0,0⟩:af)
  | .p7=>(⟨0,⟨#[]⟩,0,false,0,0,0,0,0,0,0,0,0,0,⟨#[]⟩,0,false⟩:az)
  | .kF=>(⟨⟨#[]⟩,0,0,0,0,false,[],false⟩:bJ)
  | .aC=>(⟨⟨#[]⟩,0,0,0,0,false,⟨#[]⟩⟩:aq)
  | .ay=>(⟨⟨#[]⟩,false⟩:av)
  | .xk=>(⟨[],0,[],[],[]⟩:aO)
  | .eC=>(⟨0,0⟩:lA)
  | .A8=>(⟨0,0,0,0,0⟩:eT)
  | .sK=>(⟨0,0,0,⟨#[]⟩,0,false,0,0,0,0,0,0,0,0,0,0,⟨#[]⟩,0,false⟩:gm)
 pos:=fun t=>by cases t<;>decide
 gA:=fun t x=>by cases t<;>rfl
 js:=fun t cs x h=>by
  cases t
  ·exact d3_ok cs x h
  ·exact d5_ok cs x h
  ·exact d9_ok cs x h
  ·exact WZ cs x h
  ·exact WY cs x h
  ·exact WX cs x h
  ·exact WW cs x h
  ·exact WV cs x h
  ·exact WU cs x h
  ·exact WT cs x h
  ·exact WS cs x h
  ·exact WR cs x h
  ·exact Q8 cs x h
 yN:=fun t x l h=>by
  cases t<;>simp only [enc,List.mem_cons,List.not_mem_nil,or_false] at h<;>(first | (subst h;rfl) | (rcases h with rfl<;>rfl) | (repeat (rcases h with rfl | h;· rfl))<;>(subst h;rfl))
 flat:=fun t=>match t with
  | .e3=>true
  | .e5=>true
  | .e9=>true
  | .dv=>false
  | .aA=>true
  | .p7=>true
  | .kF=>false
  | .aC=>true
  | .ay=>true
  | .xk=>false
  | .eC=>true
  | .A8=>true
  | .sK=>true
 byte:=fun t=>match t with
  | .e3=>false
  | .e5=>true
  | .e9=>false
  | .dv=>false
  | .aA=>false
  | .p7=>false
  | .kF=>false
  | .aC=>false
  | .ay=>false
  | .xk=>false
  | .eC=>false
  | .A8=>false
  | .sK=>false
 rh:=fun t ht x=>by cases t<;>first | (cases ht;done) | exact ⟨_,rfl⟩
 vU:=fun t ht x t' ys h=>by cases t<;>first | (cases ht;done) | (simp [enc] at h)
def tks:List (Nat×TK Ty):=[
 (1,.one (.bP)),
 (2,.one (.int .i64)),
 (3,.one (.int .i64)),
 (4,.one (.bool)),
 (5,.one (.int .u8)),
 (6,.one (.int .u8)),
 (7,.agg [(0,1,false),(1,1,false),(2,1,false),(3,1,false)] [.int .i64,.int .i64,.bool,.int .u8]),
 (8,.agg [(0,1,false),(1,1,false),(2,1,false),(3,1,false)] [.int .i64,.int .i64,.bool,.int .u8]),
 (9,.one (.str)),
 (10,.one (.str)),
 (11,.one (.str)),
 (12,.one (.int .u64)),
 (13,.agg [(0,1,false),(1,1,false)] [.str,.int .u64]),
 (14,.agg [(0,1,false),(1,1,false)] [.str,.int .u64]),
 (15,.one (.ptr)),
 (16,.one (.ptr)),
 (17,.one (.ptr)),
 (18,.agg [(0,1,false)] [.ptr]),
 (19,.agg [(0,1,false)] [.ptr]),
 (20,.one (.nk .lX)),
 (21,.one (.int .i32)),
 (22,.one (.dR .e5)),
 (23,.one (.dR .aA)),
 (24,.one (.dR .aC)),
 (25,.one (.dR .ay)),
 (26,.agg [(0,1,false),(1,1,false),(2,1,false),(3,1,false)] [.int .i64,.dR .aA,.dR .aC,.dR .ay]),
 (27,.agg [(0,1,false),(1,1,false),(2,1,false),(3,1,false)] [.int .i64,.dR .aA,.dR .aC,.dR .ay]),
 (28,.agg [(0,1,false),(1,1,false),(2,1,false),(3,1,false),(4,1,false),(5,1,false),(6,1,false),(7,1,false),(8,1,false),(9,1,false),(10,1,false),(11,1,false),(12,1,false)] [.str,.int .i64,.bool,.int .i64,.int .i64,.int .i64,.int .i64,.int .i64,.int .i64,.int .i64,.int .i64,.int .i64,.int .i64]),
 (29,.agg [(0,1,false),(1,1,false),(2,1,false),(3,1,false),(4,1,false),(5,1,false),(6,1,false),(7,1,false),(8,1,false),(9,1,false),(10,1,false),(11,1,false),(12,1,false)] [.str,.int .i64,.bool,.int .i64,.int .i64,.int .i64,.int .i64,.int .i64,.int .i64,.int .i64,.int .i64,.int .i64,.int .i64]),
 (30,.agg [(0,1,false),(1,13,true),(14,1,false),(15,1,false),(16,1,false)] [.int .i64,.str,.int .i64,.bool,.int .i64,.int .i64,.int .i64,.int .i64,.int .i64,.int .i64,.int .i64,.int .i64,.int .i64,.int .i64,.str,.int .i64,.bool]),
 (31,.agg [(0,1,false),(1,13,true),(14,1,false),(15,1,false),(16,1,false)] [.int .i64,.str,.int .i64,.bool,.int .i64,.int .i64,.int .i64,.int .i64,.int .i64,.int .i64,.int .i64,.int .i64,.int .i64,.int .i64,.str,.int .i64,.bool]),
 (33,.one (.bP)),
 (35,.one (.bP)),
 (36,.one (.bP)),
 (37,.one (.bP)),
 (38,.one (.bP)),
 (39,.one (.dR .eC)),
 (40,.agg [(0,1,false),(1,1,false),(2,1,false),(3,1,false),(4,1,false),(5,1,false),(6,1,false),(7,1,false)] [.str,.int .i64,.int .i64,.int .i64,.int .i64,.bool,.dR .eC,.bool]),
 (41,.agg [(0,1,false),(1,1,false),(2,1,false),(3,1,false),(4,1,false),(5,1,false),(6,1,false),(7,1,false)] [.str,.int .i64,.int .i64,.int .i64,.int .i64,.bool,.dR .eC,.bool]),
 (43,.one (.bP)),
 (44,.one (.bP)),
 (45,.one (.bP)),
 (47,.one (.bP)),
 (48,.one (.dR .kF)),
 (49,.one (.bP)),
 (50,.one (.bP)),
 (51,.one (.ptr)),
 (52,.one (.bP)),
 (53,.one (.bP)),
 (54,.one (.bP)),
 (55,.one (.bP)),
 (56,.one (.dR .e3)),
 (57,.one (.dR .e9)),
 (58,.one (.bP)),
 (59,.one (.bP)),
 (60,.one (.bP)),
 (61,.agg [(0,1,false),(1,1,false),(2,1,false),(3,1,false),(4,1,false),(5,1,false),(6,1,false)] [.str,.int .i64,.int .i64,.int .i64,.int .i64,.bool,.str]),
 (62,.agg [(0,1,false),(1,1,false),(2,1,false),(3,1,false),(4,1,false),(5,1,false),(6,1,false)] [.str,.int .i64,.int .i64,.int .i64,.int .i64,.bool,.str]),
 (63,.agg [(0,1,false),(1,1,false)] [.str,.bool]),
 (64,.agg [(0,1,false),(1,1,false)] [.str,.bool]),
 (65,.one (.bP)),
 (66,.one (.bP)),
 (67,.one (.bP)),
 (68,.one (.bP)),
 (69,.one (.ptr)),
 (70,.one (.bP)),
 (71,.one (.ptr)),
 (72,.one (.bP)),
 (73,.one (.dR .dv)),
 (74,.agg [(0,1,false),(1,4,true)] [.dR .dv,.int .i64,.dR .aA,.dR .aC,.dR .ay]),
 (75,.agg [(0,1,false),(1,4,true)] [.dR .dv,.int .i64,.dR .aA,.dR .aC,.dR .ay]),
 (76,.one (.bP)),
 (77,.one (.bP)),
 (78,.one (.bP)),
 (79,.agg [(0,1,false),(1,1,false)] [.int .i64,.int .i64]),
 (80,.agg [(0,1,false),(1,1,false)] [.int .i64,.int .i64]),
 (81,.one (.bP)),
 (83,.one (.bP)),
 (84,.agg [(0,1,false),(1,1,false),(2,1,false),(3,1,false),(4,1,false)] [.int .i64,.int .i64,.int .i64,.int .i64,.int .i64]),
 (85,.agg [(0,1,false),(1,1,false),(2,1,false),(3,1,false),(4,1,false)] [.int .i64,.int .i64,.int .i64,.int .i64,.int .i64]),
 (86,.one (.bP)),
 (88,.one (.bP)),
 (90,.one (.bP)),
 (91,.one (.bP)),
 (92,.one (.bP)),
 (93,.agg [(0,1,false),(1,1,false)] [.dR .e5,.int .i64]),
 (94,.agg [(0,1,false),(1,1,false)] [.dR .e5,.int .i64]),
 (95,.one (.bP)),
 (96,.one (.bP)),
 (97,.one (.ptr)),
 (98,.one (.bP)),
 (99,.one (.bP)),
 (100,.one (.bP)),
 (101,.one (.ptr)),
 (102,.one (.bP)),
 (103,.one (.bP)),
 (104,.one (.bP)),
 (105,.one (.bP)),
 (106,.one (.bP)),
 (107,.one (.bP)),
 (108,.one (.bP)),
 (109,.one (.bP)),
 (110,.one (.bP)),
 (111,.one (.bP)),
 (112,.one (.bP)),
 (113,.one (.bP)),
 (115,.one (.bP)),
 (116,.agg [(0,1,false),(1,1,false),(2,17,true)] [.int .i64,.int .i64,.int .i64,.str,.int .i64,.bool,.int .i64,.int .i64,.int .i64,.int .i64,.int .i64,.int .i64,.int .i64,.int .i64,.int .i64,.int .i64,.str,.int .i64,.bool]),
 (117,.agg [(0,1,false),(1,1,false),(2,17,true)] [.int .i64,.int .i64,.int .i64,.str,.int .i64,.bool,.int .i64,.int .i64,.int .i64,.int .i64,.int .i64,.int .i64,.int .i64,.int .i64,.int .i64,.int .i64,.str,.int .i64,.bool]),
 (118,.one (.bP)),
 (119,.one (.bP)),
 (120,.one (.bP)),
 (121,.one (.bP)),
 (122,.one (.bP)),
 (123,.one (.bP)),
 (124,.one (.bP)),
 (125,.one (.bP)),
 (126,.one (.bP)),
 (127,.one (.bP)),
 (128,.one (.bP)),
 (129,.one (.bP)),
 (130,.one (.bP)),
 (131,.one (.bP)),
 (132,.one (.bP)),
 (133,.one (.bP)),
 (134,.one (.bP)),
 (135,.one (.bP)),
 (136,.one (.bP)),
 (137,.one (.bP)),
 (138,.one (.bP)),
 (139,.one (.bP)),
 (140,.one (.bP)),
 (141,.one (.bP)),
 (142,.one (.bP)),
 (143,.one (.bP)),
 (144,.one (.bP)),
 (145,.one (.bP)),
 (146,.one (.bP)),
 (147,.one (.bP)),
 (148,.one (.bP)),
 (149,.one (.bP)),
 (150,.one (.bP)),
 (151,.one (.bP)),
 (152,.one (.bP)),
 (153,.one (.bP)),
 (154,.one (.bP)),
 (155,.one (.bP)),
 (156,.one (.bP)),
 (157,.one (.bP)),
 (158,.one (.bP)),
 (159,.one (.bP)),
 (160,.one (.bP)),
 (161,.one (.bP)),
 (162,.agg [(0,1,false),(1,1,false),(2,1,false),(3,1,false)] [.ptr,.ptr,.ptr,.str]),
 (163,.agg [(0,1,false),(1,1,false),(2,1,false),(3,1,false)] [.ptr,.ptr,.ptr,.str]),
 (167,.one (.bP)),
 (168,.one (.int .u32)),
 (169,.one (.int .u8)),
 (170,.one (.int .u8)),
 (171,.one (.bP)),
 (172,.one (.ptr)),
 (173,.one (.int .i32)),
 (174,.one (.int .i32)),
 (175,.agg [(0,1,false),(1,1,false),(2,1,false),(3,1,false),(4,1,false),(5,1,false),(6,1,false),(7,1,false),(8,1,false),(9,1,false),(10,1,false)] [.int .u64,.int .u64,.int .u32,.int .u8,.int .u8,.int .u8,.int .u8,.bP,.ptr,.int .i32,.int .i32]),
 (176,.agg [(0,1,false),(1,1,false),(2,1,false),(3,1,false),(4,1,false),(5,1,false),(6,1,false),(7,1,false),(8,1,false),(9,1,false),(10,1,false)] [.int .u64,.int .u64,.int .u32,.int .u8,.int .u8,.int .u8,.int .u8,.bP,.ptr,.int .i32,.int .i32])]
theorem tf1:aI Go.Proofs.Try.prog KK 1 (.one (.bP)):=aD (by kernel_rfl) (by kernel_rfl) (by kernel_rfl)
theorem tf2:aI Go.Proofs.Try.prog KK 2 (.one (.int .i64)):=cF (by kernel_rfl) (by kernel_rfl) (d:=.int .i64) (by kernel_rfl) rfl
theorem tf3:aI Go.Proofs.Try.prog KK 3 (.one (.int .i64)):=cF (by kernel_rfl) (by kernel_rfl) (d:=.int .i64) (by kernel_rfl) rfl
theorem tf4:aI Go.Proofs.Try.prog KK 4 (.one (.bool)):=cF (by kernel_rfl) (by kernel_rfl) (d:=.bool) (by kernel_rfl) rfl
theorem tf5:aI Go.Proofs.Try.prog KK 5 (.one (.int .u8)):=cF (by kernel_rfl) (by kernel_rfl) (d:=.int .u8) (by kernel_rfl) rfl
theorem tf6:aI Go.Proofs.Try.prog KK 6 (.one (.int .u8)):=cF (by kernel_rfl) (by kernel_rfl) (d:=.int .u8) (by kernel_rfl) rfl
theorem tf7:aI Go.Proofs.Try.prog KK 7 (.agg [(0,1,false),(1,1,false),(2,1,false),(3,1,false)] [.int .i64,.int .i64,.bool,.int .u8]):=cR (by kernel_rfl) (by kernel_rfl) (by kernel_rfl)
theorem tf8:aI Go.Proofs.Try.prog KK 8 (.agg [(0,1,false),(1,1,false),(2,1,false),(3,1,false)] [.int .i64,.int .i64,.bool,.int .u8]):=cR (by kernel_rfl) (by kernel_rfl) (by kernel_rfl)
theorem tf9:aI Go.Proofs.Try.prog KK 9 (.one (.str)):=cF (by kernel_rfl) (by kernel_rfl) (d:=.string) (by kernel_rfl) rfl
theorem tf10:aI Go.Proofs.Try.prog KK 10 (.one (.str)):=cF (by kernel_rfl) (by kernel_rfl) (d:=.string) (by kernel_rfl) rfl
theorem tf11:aI Go.Proofs.Try.prog KK 11 (.one (.str)):=cF (by kernel_rfl) (by kernel_rfl) (d:=.string) (by kernel_rfl) rfl
theorem tf12:aI Go.Proofs.Try.prog KK 12 (.one (.int .u64)):=cF (by kernel_rfl) (by kernel_rfl) (d:=.int .u64) (by kernel_rfl) rfl
theorem tf13:aI Go.Proofs.Try.prog KK 13 (.agg [(0,1,false),(1,1,false)] [.str,.int .u64]):=cR (by kernel_rfl) (by kernel_rfl) (by kernel_rfl)
theorem tf14:aI Go.Proofs.Try.prog KK 14 (.agg [(0,1,false),(1,1,false)] [.str,.int .u64]):=cR (by kernel_rfl) (by kernel_rfl) (by kernel_rfl)
theorem tf15:aI Go.Proofs.Try.prog KK 15 (.one (.ptr)):=cF (by kernel_rfl) (by kernel_rfl) (d:=.pointer 163) (by kernel_rfl) ⟨_,rfl⟩
theorem tf16:aI Go.Proofs.Try.prog KK 16 (.one (.ptr)):=cF (by kernel_rfl) (by kernel_rfl) (d:=.pointer 166) (by kernel_rfl) ⟨_,rfl⟩
theorem tf17:aI Go.Proofs.Try.prog KK 17 (.one (.ptr)):=cF (by kernel_rfl) (by kernel_rfl) (d:=.pointer 176) (by kernel_rfl) ⟨_,rfl⟩
theorem tf18:aI Go.Proofs.Try.prog KK 18 (.agg [(0,1,false)] [.ptr]):=cR (by kernel_rfl) (by kernel_rfl) (by kernel_rfl)
theorem tf19:aI Go.Proofs.Try.prog KK 19 (.agg [(0,1,false)] [.ptr]):=cR (by kernel_rfl) (by kernel_rfl) (by kernel_rfl)
theorem tf20:aI Go.Proofs.Try.prog KK 20 (.one (.nk .lX)):=Ir (by kernel_rfl) (by kernel_rfl) (by kernel_rfl)
theorem tf21:aI Go.Proofs.Try.prog KK 21 (.one (.int .i32)):=cF (by kernel_rfl) (by kernel_rfl) (d:=.int .i32) (by kernel_rfl) rfl
theorem tf22:aI Go.Proofs.Try.prog KK 22 (.one (.dR .e5)):=cF (by kernel_rfl) (by kernel_rfl) (d:=.slice 5) (by kernel_rfl) rfl
theorem tf23:aI Go.Proofs.Try.prog KK 23 (.one (.dR .aA)):=cF (by kernel_rfl) (by kernel_rfl) (d:=.slice 29) (by kernel_rfl) rfl
theorem tf24:aI Go.Proofs.Try.prog KK 24 (.one (.dR .aC)):=cF (by kernel_rfl) (by kernel_rfl) (d:=.slice 62) (by kernel_rfl) rfl
theorem tf25:aI Go.Proofs.Try.prog KK 25 (.one (.dR .ay)):=cF (by kernel_rfl) (by kernel_rfl) (d:=.slice 64) (by kernel_rfl) rfl
theorem tf26:aI Go.Proofs.Try.prog KK 26 (.agg [(0,1,false),(1,1,false),(2,1,false),(3,1,false)] [.int .i64,.dR .aA,.dR .aC,.dR .ay]):=cR (by kernel_rfl) (by kernel_rfl) (by kernel_rfl)
theorem tf27:aI Go.Proofs.Try.prog KK 27 (.agg [(0,1,false),(1,1,false),(2,1,false),(3,1,false)] [.int .i64,.dR .aA,.dR .aC,.dR .ay]):=cR (by kernel_rfl) (by kernel_rfl) (by kernel_rfl)
theorem tf28:aI Go.Proofs.Try.prog KK 28 (.agg [(0,1,false),(1,1,false),(2,1,false),(3,1,false),(4,1,false),(5,1,false),(6,1,false),(7,1,false),(8,1,false),(9,1,false),(10,1,false),(11,1,false),(12,1,false)] [.str,.int .i64,.bool,.int .i64,.int .i64,.int .i64,.int .i64,.int .i64,.int .i64,.int .i64,.int .i64,.int .i64,.int .i64]):=cR (by kernel_rfl) (by kernel_rfl) (by kernel_rfl)
theorem tf29:aI Go.Proofs.Try.prog KK 29 (.agg [(0,1,false),(1,1,false),(2,1,false),(3,1,false),(4,1,false),(5,1,false),(6,1,false),(7,1,false),(8,1,false),(9,1,false),(10,1,false),(11,1,false),(12,1,false)] [.str,.int .i64,.bool,.int .i64,.int .i64,.int .i64,.int .i64,.int .i64,.int .i64,.int .i64,.int .i64,.int .i64,.int .i64]):=cR (by kernel_rfl) (by kernel_rfl) (by kernel_rfl)
theorem tf30:aI Go.Proofs.Try.prog KK 30 (.agg [(0,1,false),(1,13,true),(14,1,false),(15,1,false),(16,1,false)] [.int .i64,.str,.int .i64,.bool,.int .i64,.int .i64,.int .i64,.int .i64,.int .i64,.int .i64,.int .i64,.int .i64,.int .i64,.int .i64,.str,.int .i64,.bool]):=cR (by kernel_rfl) (by kernel_rfl) (by kernel_rfl)
theorem tf31:aI Go.Proofs.Try.prog KK 31 (.agg [(0,1,false),(1,13,true),(14,1,false),(15,1,false),(16,1,false)] [.int .i64,.str,.int .i64,.bool,.int .i64,.int .i64,.int .i64,.int .i64,.int .i64,.int .i64,.int .i64,.int .i64,.int .i64,.int .i64,.str,.int .i64,.bool]):=cR (by kernel_rfl) (by kernel_rfl) (by kernel_rfl)
theorem tf33:aI Go.Proofs.Try.prog KK 33 (.one (.bP)):=aD (by kernel_rfl) (by kernel_rfl) (by kernel_rfl)
theorem tf35:aI Go.Proofs.Try.prog KK 35 (.one (.bP)):=aD (by kernel_rfl) (by kernel_rfl) (by kernel_rfl)
theorem tf36:aI Go.Proofs.Try.prog KK 36 (.one (.bP)):=aD (by kernel_rfl) (by kernel_rfl) (by kernel_rfl)
theorem tf37:aI Go.Proofs.Try.prog KK 37 (.one (.bP)):=aD (by kernel_rfl) (by kernel_rfl) (by kernel_rfl)
theorem tf38:aI Go.Proofs.Try.prog KK 38 (.one (.bP)):=aD (by kernel_rfl) (by kernel_rfl) (by kernel_rfl)
theorem tf39:aI Go.Proofs.Try.prog KK 39 (.one (.dR .eC)):=cF (by kernel_rfl) (by kernel_rfl) (d:=.slice 80) (by kernel_rfl) rfl
theorem tf40:aI Go.Proofs.Try.prog KK 40 (.agg [(0,1,false),(1,1,false),(2,1,false),(3,1,false),(4,1,false),(5,1,false),(6,1,false),(7,1,false)] [.str,.int .i64,.int .i64,.int .i64,.int .i64,.bool,.dR .eC,.bool]):=cR (by kernel_rfl) (by kernel_rfl) (by kernel_rfl)
theorem tf41:aI Go.Proofs.Try.prog KK 41 (.agg [(0,1,false),(1,1,false),(2,1,false),(3,1,false),(4,1,false),(5,1,false),(6,1,false),(7,1,false)] [.str,.int .i64,.int .i64,.int .i64,.int .i64,.bool,.dR .eC,.bool]):=cR (by kernel_rfl) (by kernel_rfl) (by kernel_rfl)
theorem tf43:aI Go.Proofs.Try.prog KK 43 (.one (.bP)):=aD (by kernel_rfl) (by kernel_rfl) (by kernel_rfl)
theorem tf44:aI Go.Proofs.Try.prog KK 44 (.one (.bP)):=aD (by kernel_rfl) (by kernel_rfl) (by kernel_rfl)
theorem tf45:aI Go.Proofs.Try.prog KK 45 (.one (.bP)):=aD (by kernel_rfl) (by kernel_rfl) (by kernel_rfl)
theorem tf47:aI Go.Proofs.Try.prog KK 47 (.one (.bP)):=aD (by kernel_rfl) (by kernel_rfl) (by kernel_rfl)
theorem tf48:aI Go.Proofs.Try.prog KK 48 (.one (.dR .kF)):=cF (by kernel_rfl) (by kernel_rfl) (d:=.slice 41) (by kernel_rfl) rfl
theorem tf49:aI Go.Proofs.Try.prog KK 49 (.one (.bP)):=aD (by kernel_rfl) (by kernel_rfl) (by kernel_rfl)
theorem tf50:aI Go.Proofs.Try.prog KK 50 (.one (.bP)):=aD (by kernel_rfl) (by kernel_rfl) (by kernel_rfl)
theorem tf51:aI Go.Proofs.Try.prog KK 51 (.one (.ptr)):=cF (by kernel_rfl) (by kernel_rfl) (d:=.pointer 94) (by kernel_rfl) ⟨_,rfl⟩
theorem tf52:aI Go.Proofs.Try.prog KK 52 (.one (.bP)):=aD (by kernel_rfl) (by kernel_rfl) (by kernel_rfl)
theorem tf53:aI Go.Proofs.Try.prog KK 53 (.one (.bP)):=aD (by kernel_rfl) (by kernel_rfl) (by kernel_rfl)
theorem tf54:aI Go.Proofs.Try.prog KK 54 (.one (.bP)):=aD (by kernel_rfl) (by kernel_rfl) (by kernel_rfl)
theorem tf55:aI Go.Proofs.Try.prog KK 55 (.one (.bP)):=aD (by kernel_rfl) (by kernel_rfl) (by kernel_rfl)
theorem tf56:aI Go.Proofs.Try.prog KK 56 (.one (.dR .e3)):=cF (by kernel_rfl) (by kernel_rfl) (d:=.slice 3) (by kernel_rfl) rfl
theorem tf57:aI Go.Proofs.Try.prog KK 57 (.one (.dR .e9)):=cF (by kernel_rfl) (by kernel_rfl) (d:=.slice 9) (by kernel_rfl) rfl
theorem tf58:aI Go.Proofs.Try.prog KK 58 (.one (.bP)):=aD (by kernel_rfl) (by kernel_rfl) (by kernel_rfl)
theorem tf59:aI Go.Proofs.Try.prog KK 59 (.one (.bP)):=aD (by kernel_rfl) (by kernel_rfl) (by kernel_rfl)
theorem tf60:aI Go.Proofs.Try.prog KK 60 (.one (.bP)):=aD (by kernel_rfl) (by kernel_rfl) (by kernel_rfl)
theorem tf61:aI Go.Proofs.Try.prog KK 61 (.agg [(0,1,false),(1,1,false),(2,1,false),(3,1,false),(4,1,false),(5,1,false),(6,1,false)] [.str,.int .i64,.int .i64,.int .i64,.int .i64,.bool,.str]):=cR (by kernel_rfl) (by kernel_rfl) (by kernel_rfl)
theorem tf62:aI Go.Proofs.Try.prog KK 62 (.agg [(0,1,false),(1,1,false),(2,1,false),(3,1,false),(4,1,false),(5,1,false),(6,1,false)] [.str,.int .i64,.int .i64,.int .i64,.int .i64,.bool,.str]):=cR (by kernel_rfl) (by kernel_rfl) (by kernel_rfl)
theorem tf63:aI Go.Proofs.Try.prog KK 63 (.agg [(0,1,false),(1,1,false)] [.str,.bool]):=cR (by kernel_rfl) (by kernel_rfl) (by kernel_rfl)
theorem tf64:aI Go.Proofs.Try.prog KK 64 (.agg [(0,1,false),(1,1,false)] [.str,.bool]):=cR (by kernel_rfl) (by kernel_rfl) (by kernel_rfl)
theorem tf65:aI Go.Proofs.Try.prog KK 65 (.one (.bP)):=aD (by kernel_rfl) (by kernel_rfl) (by kernel_rfl)
theorem tf66:aI Go.Proofs.Try.prog KK 66 (.one (.bP)):=aD (by kernel_rfl) (by kernel_rfl) (by kernel_rfl)
theorem tf67:aI Go.Proofs.Try.prog KK 67 (.one (.bP)):=aD (by kernel_rfl) (by kernel_rfl) (by kernel_rfl)
theorem tf68:aI Go.Proofs.Try.prog KK 68 (.one (.bP)):=aD (by kernel_rfl) (by kernel_rfl) (by kernel_rfl)
theorem tf69:aI Go.Proofs.Try.prog KK 69 (.one (.ptr)):=cF (by kernel_rfl) (by kernel_rfl) (d:=.pointer 29) (by kernel_rfl) ⟨_,rfl⟩
theorem tf70:aI Go.Proofs.Try.prog KK 70 (.one (.bP)):=aD (by kernel_rfl) (by kernel_rfl) (by kernel_rfl)
theorem tf71:aI Go.Proofs.Try.prog KK 71 (.one (.ptr)):=cF (by kernel_rfl) (by kernel_rfl) (d:=.pointer 64) (by kernel_rfl) ⟨_,rfl⟩
theorem tf72:aI Go.Proofs.Try.prog KK 72 (.one (.bP)):=aD (by kernel_rfl) (by kernel_rfl) (by kernel_rfl)
theorem tf73:aI Go.Proofs.Try.prog KK 73 (.one (.dR .dv)):=cF (by kernel_rfl) (by kernel_rfl) (d:=.slice 27) (by kernel_rfl) rfl
theorem tf74:aI Go.Proofs.Try.prog KK 74 (.agg [(0,1,false),(1,4,true)] [.dR .dv,.int .i64,.dR .aA,.dR .aC,.dR .ay]):=cR (by kernel_rfl) (by kernel_rfl) (by kernel_rfl)
theorem tf75:aI Go.Proofs.Try.prog KK 75 (.agg [(0,1,false),(1,4,true)] [.dR .dv,.int .i64,.dR .aA,.dR .aC,.dR .ay]):=cR (by kernel_rfl) (by kernel_rfl) (by kernel_rfl)
theorem tf76:aI Go.Proofs.Try.prog KK 76 (.one (.bP)):=aD (by kernel_rfl) (by kernel_rfl) (by kernel_rfl)
theorem tf77:aI Go.Proofs.Try.prog KK 77 (.one (.bP)):=aD (by kernel_rfl) (by kernel_rfl) (by kernel_rfl)
theorem tf78:aI Go.Proofs.Try.prog KK 78 (.one (.bP)):=aD (by kernel_rfl) (by kernel_rfl) (by kernel_rfl)
theorem tf79:aI Go.Proofs.Try.prog KK 79 (.agg [(0,1,false),(1,1,false)] [.int .i64,.int .i64]):=cR (by kernel_rfl) (by kernel_rfl) (by kernel_rfl)
theorem tf80:aI Go.Proofs.Try.prog KK 80 (.agg [(0,1,false),(1,1,false)] [.int .i64,.int .i64]):=cR (by kernel_rfl) (by kernel_rfl) (by kernel_rfl)
theorem tf81:aI Go.Proofs.Try.prog KK 81 (.one (.bP)):=aD (by kernel_rfl) (by kernel_rfl) (by kernel_rfl)
theorem tf83:aI Go.Proofs.Try.prog KK 83 (.one (.bP)):=aD (by kernel_rfl) (by kernel_rfl) (by kernel_rfl)
theorem tf84:aI Go.Proofs.Try.prog KK 84 (.agg [(0,1,false),(1,1,false),(2,1,false),(3,1,false),(4,1,false)] [.int .i64,.int .i64,.int .i64,.int .i64,.int .i64]):=cR (by kernel_rfl) (by kernel_rfl) (by kernel_rfl)
theorem tf85:aI Go.Proofs.Try.prog KK 85 (.agg [(0,1,false),(1,1,false),(2,1,false),(3,1,false),(4,1,false)] [.int .i64,.int .i64,.int .i64,.int .i64,.int .i64]):=cR (by kernel_rfl) (by kernel_rfl) (by kernel_rfl)
theorem tf86:aI Go.Proofs.Try.prog KK 86 (.one (.bP)):=aD (by kernel_rfl) (by kernel_rfl) (by kernel_rfl)
theorem tf88:aI Go.Proofs.Try.prog KK 88 (.one (.bP)):=aD (by kernel_rfl) (by kernel_rfl) (by kernel_rfl)
theorem tf90:aI Go.Proofs.Try.prog KK 90 (.one (.bP)):=aD (by kernel_rfl) (by kernel_rfl) (by kernel_rfl)
theorem tf91:aI Go.Proofs.Try.prog KK 91 (.one (.bP)):=aD (by kernel_rfl) (by kernel_rfl) (by kernel_rfl)
theorem tf92:aI Go.Proofs.Try.prog KK 92 (.one (.bP)):=aD (by kernel_rfl) (by kernel_rfl) (by kernel_rfl)
theorem tf93:aI Go.Proofs.Try.prog KK 93 (.agg [(0,1,false),(1,1,false)] [.dR .e5,.int .i64]):=cR (by kernel_rfl) (by kernel_rfl) (by kernel_rfl)
theorem tf94:aI Go.Proofs.Try.prog KK 94 (.agg [(0,1,false),(1,1,false)] [.dR .e5,.int .i64]):=cR (by kernel_rfl) (by kernel_rfl) (by kernel_rfl)
theorem tf95:aI Go.Proofs.Try.prog KK 95 (.one (.bP)):=aD (by kernel_rfl) (by kernel_rfl) (by kernel_rfl)
theorem tf96:aI Go.Proofs.Try.prog KK 96 (.one (.bP)):=aD (by kernel_rfl) (by kernel_rfl) (by kernel_rfl)
theorem tf97:aI Go.Proofs.Try.prog KK 97 (.one (.ptr)):=cF (by kernel_rfl) (by kernel_rfl) (d:=.pointer 27) (by kernel_rfl) ⟨_,rfl⟩
theorem tf98:aI Go.Proofs.Try.prog KK 98 (.one (.bP)):=aD (by kernel_rfl) (by kernel_rfl) (by kernel_rfl)
theorem tf99:aI Go.Proofs.Try.prog KK 99 (.one (.bP)):=aD (by kernel_rfl) (by kernel_rfl) (by kernel_rfl)
theorem ZG:aI Go.Proofs.Try.prog KK 100 (.one (.bP)):=aD (by kernel_rfl) (by kernel_rfl) (by kernel_rfl)
theorem ZF:aI Go.Proofs.Try.prog KK 101 (.one (.ptr)):=cF (by kernel_rfl) (by kernel_rfl) (d:=.pointer 62) (by kernel_rfl) ⟨_,rfl⟩
theorem ZE:aI Go.Proofs.Try.prog KK 102 (.one (.bP)):=aD (by kernel_rfl) (by kernel_rfl) (by kernel_rfl)
theorem ZD:aI Go.Proofs.Try.prog KK 103 (.one (.bP)):=aD (by kernel_rfl) (by kernel_rfl) (by kernel_rfl)
theorem ZC:aI Go.Proofs.Try.prog KK 104 (.one (.bP)):=aD (by kernel_rfl) (by kernel_rfl) (by kernel_rfl)
theorem ZB:aI Go.Proofs.Try.prog KK 105 (.one (.bP)):=aD (by kernel_rfl) (by kernel_rfl) (by kernel_rfl)
theorem ZA:aI Go.Proofs.Try.prog KK 106 (.one (.bP)):=aD (by kernel_rfl) (by kernel_rfl) (by kernel_rfl)
theorem Zz:aI Go.Proofs.Try.prog KK 107 (.one (.bP)):=aD (by kernel_rfl) (by kernel_rfl) (by kernel_rfl)
theorem Zy:aI Go.Proofs.Try.prog KK 108 (.one (.bP)):=aD (by kernel_rfl) (by kernel_rfl) (by kernel_rfl)
theorem Zx:aI Go.Proofs.Try.prog KK 109 (.one (.bP)):=aD (by kernel_rfl) (by kernel_rfl) (by kernel_rfl)
theorem Zw:aI Go.Proofs.Try.prog KK 110 (.one (.bP)):=aD (by kernel_rfl) (by kernel_rfl) (by kernel_rfl)
theorem Zv:aI Go.Proofs.Try.prog KK 111 (.one (.bP)):=aD (by kernel_rfl) (by kernel_rfl) (by kernel_rfl)
theorem Zu:aI Go.Proofs.Try.prog KK 112 (.one (.bP)):=aD (by kernel_rfl) (by kernel_rfl) (by kernel_rfl)
theorem Zt:aI Go.Proofs.Try.prog KK 113 (.one (.bP)):=aD (by kernel_rfl) (by kernel_rfl) (by kernel_rfl)
theorem Zs:aI Go.Proofs.Try.prog KK 115 (.one (.bP)):=aD (by kernel_rfl) (by kernel_rfl) (by kernel_rfl)
theorem Zr:aI Go.Proofs.Try.prog KK 116 (.agg [(0,1,false),(1,1,false),(2,17,true)] [.int .i64,.int .i64,.int .i64,.str,.int .i64,.bool,.int .i64,.int .i64,.int .i64,.int .i64,.int .i64,.int .i64,.int .i64,.int .i64,.int .i64,.int .i64,.str,.int .i64,.bool]):=cR (by kernel_rfl) (by kernel_rfl) (by kernel_rfl)
theorem Zq:aI Go.Proofs.Try.prog KK 117 (.agg [(0,1,false),(1,1,false),(2,17,true)] [.int .i64,.int .i64,.int .i64,.str,.int .i64,.bool,.int .i64,.int .i64,.int .i64,.int .i64,.int .i64,.int .i64,.int .i64,.int .i64,.int .i64,.int .i64,.str,.int .i64,.bool]):=cR (by kernel_rfl) (by kernel_rfl) (by kernel_rfl)
theorem Zp:aI Go.Proofs.Try.prog KK 118 (.one (.bP)):=aD (by kernel_rfl) (by kernel_rfl) (by kernel_rfl)
theorem Zo:aI Go.Proofs.Try.prog KK 119 (.one (.bP)):=aD (by kernel_rfl) (by kernel_rfl) (by kernel_rfl)
theorem Zn:aI Go.Proofs.Try.prog KK 120 (.one (.bP)):=aD (by kernel_rfl) (by kernel_rfl) (by kernel_rfl)
theorem Zm:aI Go.Proofs.Try.prog KK 121 (.one (.bP)):=aD (by kernel_rfl) (by kernel_rfl) (by kernel_rfl)
theorem Zl:aI Go.Proofs.Try.prog KK 122 (.one (.bP)):=aD (by kernel_rfl) (by kernel_rfl) (by kernel_rfl)
theorem Zk:aI Go.Proofs.Try.prog KK 123 (.one (.bP)):=aD (by kernel_rfl) (by kernel_rfl) (by kernel_rfl)
theorem Zj:aI Go.Proofs.Try.prog KK 124 (.one (.bP)):=aD (by kernel_rfl) (by kernel_rfl) (by kernel_rfl)
theorem Zi:aI Go.Proofs.Try.prog KK 125 (.one (.bP)):=aD (by kernel_rfl) (by kernel_rfl) (by kernel_rfl)
theorem Zh:aI Go.Proofs.Try.prog KK 126 (.one (.bP)):=aD (by kernel_rfl) (by kernel_rfl) (by kernel_rfl)
theorem Zg:aI Go.Proofs.Try.prog KK 127 (.one (.bP)):=aD (by kernel_rfl) (by kernel_rfl) (by kernel_rfl)
theorem Zf:aI Go.Proofs.Try.prog KK 128 (.one (.bP)):=aD (by kernel_rfl) (by kernel_rfl) (by kernel_rfl)
theorem Ze:aI Go.Proofs.Try.prog KK 129 (.one (.bP)):=aD (by kernel_rfl) (by kernel_rfl) (by kernel_rfl)
theorem Zd:aI Go.Proofs.Try.prog KK 130 (.one (.bP)):=aD (by kernel_rfl) (by kernel_rfl) (by kernel_rfl)
theorem Zc:aI Go.Proofs.Try.prog KK 131 (.one (.bP)):=aD (by kernel_rfl) (by kernel_rfl) (by kernel_rfl)
theorem Zb:aI Go.Proofs.Try.prog KK 132 (.one (.bP)):=aD (by kernel_rfl) (by kernel_rfl) (by kernel_rfl)
theorem Za:aI Go.Proofs.Try.prog KK 133 (.one (.bP)):=aD (by kernel_rfl) (by kernel_rfl) (by kernel_rfl)
theorem Y9:aI Go.Proofs.Try.prog KK 134 (.one (.bP)):=aD (by kernel_rfl) (by kernel_rfl) (by kernel_rfl)
theorem Y8:aI Go.Proofs.Try.prog KK 135 (.one (.bP)):=aD (by kernel_rfl) (by kernel_rfl) (by kernel_rfl)
theorem Y7:aI Go.Proofs.Try.prog KK 136 (.one (.bP)):=aD (by kernel_rfl) (by kernel_rfl) (by kernel_rfl)
theorem Y6:aI Go.Proofs.Try.prog KK 137 (.one (.bP)):=aD (by kernel_rfl) (by kernel_rfl) (by kernel_rfl)
theorem Y5:aI Go.Proofs.Try.prog KK 138 (.one (.bP)):=aD (by kernel_rfl) (by kernel_rfl) (by kernel_rfl)
theorem Y4:aI Go.Proofs.Try.prog KK 139 (.one (.bP)):=aD (by kernel_rfl) (by kernel_rfl) (by kernel_rfl)
theorem Y3:aI Go.Proofs.Try.prog KK 140 (.one (.bP)):=aD (by kernel_rfl) (by kernel_rfl) (by kernel_rfl)
theorem Y2:aI Go.Proofs.Try.prog KK 141 (.one (.bP)):=aD (by kernel_rfl) (by kernel_rfl) (by kernel_rfl)
theorem Y1:aI Go.Proofs.Try.prog KK 142 (.one (.bP)):=aD (by kernel_rfl) (by kernel_rfl) (by kernel_rfl)
theorem Y0:aI Go.Proofs.Try.prog KK 143 (.one (.bP)):=aD (by kernel_rfl) (by kernel_rfl) (by kernel_rfl)
theorem YZ:aI Go.Proofs.Try.prog KK 144 (.one (.bP)):=aD (by kernel_rfl) (by kernel_rfl) (by kernel_rfl)
theorem YY:aI Go.Proofs.Try.prog KK 145 (.one (.bP)):=aD (by kernel_rfl) (by kernel_rfl) (by kernel_rfl)
theorem YX:aI Go.Proofs.Try.prog KK 146 (.one (.bP)):=aD (by kernel_rfl) (by kernel_rfl) (by kernel_rfl)
theorem YW:aI Go.Proofs.Try.prog KK 147 (.one (.bP)):=aD (by kernel_rfl) (by kernel_rfl) (by kernel_rfl)
theorem YV:aI Go.Proofs.Try.prog KK 148 (.one (.bP)):=aD (by kernel_rfl) (by kernel_rfl) (by kernel_rfl)
theorem YU:aI Go.Proofs.Try.prog KK 149 (.one (.bP)):=aD (by kernel_rfl) (by kernel_rfl) (by kernel_rfl)
theorem YT:aI Go.Proofs.Try.prog KK 150 (.one (.bP)):=aD (by kernel_rfl) (by kernel_rfl) (by kernel_rfl)
theorem YS:aI Go.Proofs.Try.prog KK 151 (.one (.bP)):=aD (by kernel_rfl) (by kernel_rfl) (by kernel_rfl)
theorem YR:aI Go.Proofs.Try.prog KK 152 (.one (.bP)):=aD (by kernel_rfl) (by kernel_rfl) (by kernel_rfl)
theorem YQ:aI Go.Proofs.Try.prog KK 153 (.one (.bP)):=aD (by kernel_rfl) (by kernel_rfl) (by kernel_rfl)
theorem YP:aI Go.Proofs.Try.prog KK 154 (.one (.bP)):=aD (by kernel_rfl) (by kernel_rfl) (by kernel_rfl)
theorem YO:aI Go.Proofs.Try.prog KK 155 (.one (.bP)):=aD (by kernel_rfl) (by kernel_rfl) (by kernel_rfl)
theorem YN:aI Go.Proofs.Try.prog KK 156 (.one (.bP)):=aD (by kernel_rfl) (by kernel_rfl) (by kernel_rfl)
theorem YM:aI Go.Proofs.Try.prog KK 157 (.one (.bP)):=aD (by kernel_rfl) (by kernel_rfl) (by kernel_rfl)
theorem YL:aI Go.Proofs.Try.prog KK 158 (.one (.bP)):=aD (by kernel_rfl) (by kernel_rfl) (by kernel_rfl)
theorem YK:aI Go.Proofs.Try.prog KK 159 (.one (.bP)):=aD (by kernel_rfl) (by kernel_rfl) (by kernel_rfl)
theorem YJ:aI Go.Proofs.Try.prog KK 160 (.one (.bP)):=aD (by kernel_rfl) (by kernel_rfl) (by kernel_rfl)
theorem YI:aI Go.Proofs.Try.prog KK 161 (.one (.bP)):=aD (by kernel_rfl) (by kernel_rfl) (by kernel_rfl)
theorem YH:aI Go.Proofs.Try.prog KK 162 (.agg [(0,1,false),(1,1,false),(2,1,false),(3,1,false)] [.ptr,.ptr,.ptr,.str]):=cR (by kernel_rfl) (by kernel_rfl) (by kernel_rfl)
theorem YG:aI Go.Proofs.Try.prog KK 163 (.agg [(0,1,false),(1,1,false),(2,1,false),(3,1,false)] [.ptr,.ptr,.ptr,.str]):=cR (by kernel_rfl) (by kernel_rfl) (by kernel_rfl)
theorem YF:aI Go.Proofs.Try.prog KK 167 (.one (.bP)):=aD (by kernel_rfl) (by kernel_rfl) (by kernel_rfl)
theorem YE:aI Go.Proofs.Try.prog KK 168 (.one (.int .u32)):=cF (by kernel_rfl) (by kernel_rfl) (d:=.int .u32) (by kernel_rfl) rfl
theorem YD:aI Go.Proofs.Try.prog KK 169 (.one (.int .u8)):=cF (by kernel_rfl) (by kernel_rfl) (d:=.int .u8) (by kernel_rfl) rfl
theorem YC:aI Go.Proofs.Try.prog KK 170 (.one (.int .u8)):=cF (by kernel_rfl) (by kernel_rfl) (d:=.int .u8) (by kernel_rfl) rfl
theorem YB:aI Go.Proofs.Try.prog KK 171 (.one (.bP)):=aD (by kernel_rfl) (by kernel_rfl) (by kernel_rfl)
theorem YA:aI Go.Proofs.Try.prog KK 172 (.one (.ptr)):=cF (by kernel_rfl) (by kernel_rfl) (d:=.pointer 5) (by kernel_rfl) ⟨_,rfl⟩
theorem Yz:aI Go.Proofs.Try.prog KK 173 (.one (.int .i32)):=cF (by kernel_rfl) (by kernel_rfl) (d:=.int .i32) (by kernel_rfl) rfl
theorem Yy:aI Go.Proofs.Try.prog KK 174 (.one (.int .i32)):=cF (by kernel_rfl) (by kernel_rfl) (d:=.int .i32) (by kernel_rfl) rfl
theorem Yx:aI Go.Proofs.Try.prog KK 175 (.agg [(0,1,false),(1,1,false),(2,1,false),(3,1,false),(4,1,false),(5,1,false),(6,1,false),(7,1,false),(8,1,false),(9,1,false),(10,1,false)] [.int .u64,.int .u64,.int .u32,.int .u8,.int .u8,.int .u8,.int .u8,.bP,.ptr,.int .i32,.int .i32]):=cR (by kernel_rfl) (by kernel_rfl) (by kernel_rfl)
theorem Yw:aI Go.Proofs.Try.prog KK 176 (.agg [(0,1,false),(1,1,false),(2,1,false),(3,1,false),(4,1,false),(5,1,false),(6,1,false),(7,1,false),(8,1,false),(9,1,false),(10,1,false)] [.int .u64,.int .u64,.int .u32,.int .u8,.int .u8,.int .u8,.int .u8,.bP,.ptr,.int .i32,.int .i32]):=cR (by kernel_rfl) (by kernel_rfl) (by kernel_rfl)
set_option maxRecDepth 100000 in
theorem Km:∀ T k,lk tks T=some k→aI Go.Proofs.Try.prog KK T k:=Kn (l:=tks) ⟨tf1,tf2,tf3,tf4,tf5,tf6,tf7,tf8,tf9,tf10,tf11,tf12,tf13,tf14,tf15,tf16,tf17,tf18,tf19,tf20,tf21,tf22,tf23,tf24,tf25,tf26,tf27,tf28,tf29,tf30,tf31,tf33,tf35,tf36,tf37,tf38,tf39,tf40,tf41,tf43,tf44,tf45,tf47,tf48,tf49,tf50,tf51,tf52,tf53,tf54,tf55,tf56,tf57,tf58,tf59,tf60,tf61,tf62,tf63,tf64,tf65,tf66,tf67,tf68,tf69,tf70,tf71,tf72,tf73,tf74,tf75,tf76,tf77,tf78,tf79,tf80,tf81,tf83,tf84,tf85,tf86,tf88,tf90,tf91,tf92,tf93,tf94,tf95,tf96,tf97,tf98,tf99,ZG,ZF,ZE,ZD,ZC,ZB,ZA,Zz,Zy,Zx,Zw,Zv,Zu,Zt,Zs,Zr,Zq,Zp,Zo,Zn,Zm,Zl,Zk,Zj,Zi,Zh,Zg,Zf,Ze,Zd,Zc,Zb,Za,Y9,Y8,Y7,Y6,Y5,Y4,Y3,Y2,Y1,Y0,YZ,YY,YX,YW,YV,YU,YT,YS,YR,YQ,YP,YO,YN,YM,YL,YK,YJ,YI,YH,YG,YF,YE,YD,YC,YB,YA,Yz,Yy,Yx,Yw,trivial⟩
theorem MS:∀ t,wK Go.Proofs.Try.prog KK t:=by
 intro t;cases t
 ·exact mF (z:=.int .i64 0) (by kernel_rfl) (by show 0<8;decide) (by kernel_rfl) (by kernel_rfl)
 ·exact mF (z:=.int .u8 0) (by kernel_rfl) (by show 0<1;decide) (by kernel_rfl) (by kernel_rfl)
 ·exact mF (z:=.string ⟨#[]⟩) (by kernel_rfl) (by show 0<16;decide) (by kernel_rfl) (by kernel_rfl)
 ·exact mF (z:=.agg #[.int .i64 0,.slice none 0 0,.slice none 0 0,.slice none 0 0]) (by kernel_rfl) (by show 0<80;decide) (by kernel_rfl) (by kernel_rfl)
 ·exact mF (z:=.agg #[.string ⟨#[]⟩,.int .i64 0,.bool false,.int .i64 0,.int .i64 0,.int .i64 0,.int .i64 0,.int .i64 0,.int .i64 0,.int .i64 0,.int .i64 0,.int .i64 0,.int .i64 0]) (by kernel_rfl) (by show 0<112;decide) (by kernel_rfl) (by kernel_rfl)
 ·exact mF (z:=.agg #[.int .i64 0,.string ⟨#[]⟩,.int .i64 0,.bool false,.int .i64 0,.int .i64 0,.int .i64 0,.int .i64 0,.int .i64 0,.int .i64 0,.int .i64 0,.int .i64 0,.int .i64 0,.int .i64 0,.string ⟨#[]⟩,.int .i64 0,.bool false]) (by kernel_rfl) (by show 0<152;decide) (by kernel_rfl) (by kernel_rfl)
 ·exact mF (z:=.agg #[.string ⟨#[]⟩,.int .i64 0,.int .i64 0,.int .i64 0,.int .i64 0,.bool false,.slice none 0 0,.bool false]) (by kernel_rfl) (by show 0<88;decide) (by kernel_rfl) (by kernel_rfl)
 ·exact mF (z:=.agg #[.string ⟨#[]⟩,.int .i64 0,.int .i64 0,.int .i64 0,.int .i64 0,.bool false,.string ⟨#[]⟩]) (by kernel_rfl) (by show 0<72;decide) (by kernel_rfl) (by kernel_rfl)
 ·exact mF (z:=.agg #[.string ⟨#[]⟩,.bool false]) (by kernel_rfl) (by show 0<24;decide) (by kernel_rfl) (by kernel_rfl)
 ·exact mF (z:=.agg #[.slice none 0 0,.int .i64 0,.slice none 0 0,.slice none 0 0,.slice none 0 0]) (by kernel_rfl) (by show 0<104;decide) (by kernel_rfl) (by kernel_rfl)
 ·exact mF (z:=.agg #[.int .i64 0,.int .i64 0]) (by kernel_rfl) (by show 0<16;decide) (by kernel_rfl) (by kernel_rfl)
 ·exact mF (z:=.agg #[.int .i64 0,.int .i64 0,.int .i64 0,.int .i64 0,.int .i64 0]) (by kernel_rfl) (by show 0<40;decide) (by kernel_rfl) (by kernel_rfl)
 ·exact mF (z:=.agg #[.int .i64 0,.int .i64 0,.int .i64 0,.string ⟨#[]⟩,.int .i64 0,.bool false,.int .i64 0,.int .i64 0,.int .i64 0,.int .i64 0,.int .i64 0,.int .i64 0,.int .i64 0,.int .i64 0,.int .i64 0,.int .i64 0,.string ⟨#[]⟩,.int .i64 0,.bool false]) (by kernel_rfl) (by show 0<168;decide) (by kernel_rfl) (by kernel_rfl)
def mps:List (Nat×MT Ty):=[]
theorem Vm:∀ T m,lk mps T=some m→Dm Go.Proofs.Try.prog KK T m:=aaW (by
 intro x hx
 simp only [mps,List.mem_cons,List.not_mem_nil,or_false] at hx)
def SJ:List (Nat×String×Nat):=[(8, "Error",128),(8, "RuntimeError",129),(10, "Error",130),(10, "RuntimeError",131),(11, "Error",132),(11, "RuntimeError",133),(14, "Error",134),(14, "RuntimeError",135),(15, "Error",136),(15, "RuntimeError",137),(16, "Error",138),(16, "RuntimeError",139),(17, "Align",140),(19, "Error",141),(19, "RuntimeError",142),(51, "loop.example/wharfdesk/spec.pick",23),(97, "loop.example/wharfdesk/impl.act",41),(97, "loop.example/wharfdesk/impl.ask",46),(97, "loop.example/wharfdesk/impl.berth",37),(97, "loop.example/wharfdesk/impl.copy",56),(97, "loop.example/wharfdesk/impl.count",77),(97, "loop.example/wharfdesk/impl.drained",85),(97, "loop.example/wharfdesk/impl.first",91),(97, "loop.example/wharfdesk/impl.mayEnd",76),(97, "loop.example/wharfdesk/impl.sea",25),(97, "loop.example/wharfdesk/impl.service",36),(97, "loop.example/wharfdesk/impl.tick",52),(170, "String",143)]
theorem LZ:∀ T name f,lkS SJ T name=some f→∀ v w,(method (Go.Proofs.Try.prog.types.size+Made.depth) T v name).run Go.Proofs.Try.prog w = .ok (f,v) w:=Qw (by kernel_rfl)
def fuel:Nat:=4611686018427387904
def VV {α:Type 1}:List (Nat×α)→Nat→Option α
 | [],_=>none
 | (m,v)::r,n=>cond (Nat.beq n m) (some v) (VV r n)
def Xc (P:Program) (K:Cd C):List (Nat×iK C)→Prop
 | []=>True
 | (f,c)::r=>dm P K f c∧Xc P K r
def Xb (P:Program) (K:Cd C):List (Nat×qd C)→Prop
 | []=>True
 | (f,c)::r=>sW P K f c∧Xb P K r
theorem Mc {P:Program} {K:Cd C}:∀ {l:List (Nat×iK C)},Xc P K l→∀ f c,VV l f=some c→dm P K f c
 | [],_,f,c,h=>by cases h
 | (m,v)::r,ha,f,c,h=>by
  simp only [VV] at h
  cases hb:Nat.beq f m with
  | true=>rw [hb] at h;cases h;have:=Nat.eq_of_beq_eq_true hb;subst this;exact ha.1
  | false=>rw [hb] at h;exact Mc ha.2 f c h
theorem Mb {P:Program} {K:Cd C}:∀ {l:List (Nat×qd C)},Xb P K l→∀ f c,VV l f=some c→sW P K f c
 | [],_,f,c,h=>by cases h
 | (m,v)::r,ha,f,c,h=>by
  simp only [VV] at h
  cases hb:Nat.beq f m with
  | true=>rw [hb] at h;cases h;have:=Nat.eq_of_beq_eq_true hb;subst this;exact ha.1
  | false=>rw [hb] at h;exact Mb ha.2 f c h
theorem iY {s t:String} (h:(s==t)=false):s≠t:=by simpa using h
def exts:List (Nat×(List Value→Option Value)):=[]
theorem QY:∀ f e,lk exts f=some e→Uq Try.prog f e:=by
 intro f e h;simp only [exts] at h;simp [lk] at h
def VY:List (Nat×Ty):=[(55,.aA),(63,.ay)]
theorem QF:∀ f t,lk VY f=some t→Ic Try.prog f (KK.tid t) (KK.sz t) (KK.bytes t):=by
 intro f t h;simp only [VY,aN] at h;split at h
 ·subst_vars
  cases h;exact Mm
 split at h
 ·subst_vars
  cases h;exact Ml
 cases h
def Wx:List (Nat×List EK):=[(29,[.str,.int .i64,.bool,.int .i64,.int .i64,.int .i64,.int .i64,.int .i64,.int .i64,.int .i64,.int .i64,.int .i64,.int .i64]),(62,[.str,.int .i64,.int .i64,.int .i64,.int .i64,.bool,.str]),(64,[.str,.bool])]
theorem QZ:∀ T ks,lk Wx T=some ks→wI Try.prog T ks:=by
 intro T ks h;simp only [Wx,aN] at h;split at h
 ·subst_vars
  cases h;exact sE (by kernel_rfl)
 split at h
 ·subst_vars
  cases h;exact sE (by kernel_rfl)
 split at h
 ·subst_vars
  cases h;exact sE (by kernel_rfl)
 cases h
noncomputable def fT (c:List (Nat×iK C)) (w:List (Nat×qd C)) (i:List (Nat×mP C)) (h:List Nat) (o:Nat) (v:List Nat):Cx C:={ K:=KK,tk:=lk tks,HU:=VV c,vZ:=VV w,inl:=lkA i,hold:=h,mp:=lk mps,Ff:=lkS SJ,ext:=lk exts,ins:=lk VY,Q0:=lk Wx,view:=v,off:=o }
theorem jG {c w i h o v}:je Try.prog (fT c w i h o v):=⟨Km,MS,Vm,LZ,QY,QF,QZ⟩
theorem gO {c w i h o v} (hc:Xc Try.prog KK c) (hw:Xb Try.prog KK w) (hi:allI Try.prog KK i):Cons Try.prog (fT c w i h o v):=⟨Mc hc,Mb hw,Md hi⟩
theorem Fb:Try.prog.follows .mixedOrders=true:=by kernel_rfl
theorem cO {c w i h o v} (hC:Cons Try.prog (fT c w i h o v)) {f:Nat} {fn:Func} (hf:Try.prog.funcs[f]?=some fn) (hb:fn.body=some (ak fn)) (hB:jb fn.ntmps (ak fn)=true) (hname:(fn.name == "runtime.NumGoroutine")=false) {ps rs:List (PK Ty)} {G:JS C ps (Option (xx C rs))} (F:Cf) (hn:Nat.ble ps.length fn.ntmps=true)
  (t:Gg (PK.Q3 KK) ps G fun vs r=>dG (fT c w i h o v) F fn vs (jB KK rs)=r):dm Try.prog KK f (lD KK ps rs G):=Vq (X:=fT c w i h o v) jG hC Fb hf hb hB hname F hn t
theorem eO {c w i h o v} (hC:Cons Try.prog (fT c w i h o v)) {f:Nat} {fn:Func} (hf:Try.prog.funcs[f]?=some fn) (hb:fn.body=some (ak fn)) (hB:jb fn.ntmps (ak fn)=true) (hname:(fn.name == "runtime.NumGoroutine")=false) {ps:List (PK Ty)} {rs:List (PK Ty)} {G:JS C ps (Option (rC C [] rs))} (F:Cf) (hn:Nat.ble ps.length fn.ntmps=true)
  (t:∀ kp kh hd,Gg (PK.Pn KK) ps G fun vs r=>nR ((fT c w i h o v).gh kp kh hd) F fn vs (yR KK [] rs)=r):oM Try.prog KK f (XE KK ps [] rs G):=Vp (X:=fT c w i h o v) jG hC Fb hf hb hB hname F hn t
theorem iO {c w i h o v} (hC:Cons Try.prog (fT c w i h o v)) (F:Cf) {f:Nat} {fn:Func} (hf:Try.prog.funcs[f]?=some fn) (hb:fn.body=some (ak fn)) (hB:jb fn.ntmps (ak fn)=true) (hname:(fn.name == "runtime.NumGoroutine")=false):dx Try.prog KK f (iZ (fT c w i h o v) F fn):=VZ (X:=fT c w i h o v) jG hC Fb F hf hb hB (by simpa using hname)
noncomputable def X26:Cx C:=fT [] [] [] [] 1703936 []
def F26 (n:Nat):Cf:={ N:=n,keep:=[0,1,2,6],live:=lk [] }
noncomputable abbrev dec26:=jB KK [.bool]
noncomputable def Xv (n:Nat) (a0 a1 a2:Int):Option (Bool):=
 cond (decide (a0≥a1))
 (some (decide (a0≤a2)))
 (some (false))
theorem t26 (n:Nat) (a0 a1 a2:Int):dG X26 (F26 n) Try.f26 [.one (.int .i64 a0),.one (.int .i64 a1),.one (.int .i64 a2)] dec26=Xv n a0 a1 a2:=by
 kernel_rfl
noncomputable def lB (a0 a1 a2:Int):Option (Bool):=Xv fuel a0 a1 a2
noncomputable def pD:iK C:=lD KK [.int .i64,.int .i64,.int .i64] [.bool] lB
theorem Re:dm Try.prog KK 26 pD:=cO (gO trivial trivial trivial:Cons Try.prog X26) (fn:=Try.f26) (by kernel_rfl) (by kernel_rfl) (by kernel_rfl) (by kernel_rfl) (F26 fuel) (by kernel_rfl) (fun a0 a1 a2=>t26 fuel a0 a1 a2)
noncomputable def X30:Cx C:=fT [(26,pD)] [] [] [] 1966080 []
def F30 (n:Nat):Cf:={ N:=n,keep:=[0,2,3,4,8,12,36],live:=lk [(0,[0,3])] }
noncomputable abbrev Tv:=jB KK [.bool]
abbrev Eb:Type:=Int
section
variable (x0:ByteArray)
def aar:Eb→St C:=fun x1=>{ env:=[(0,.one (.str x0)),(3,.one (.int .i64 x1))],ah:=[],base:=0 }
end
noncomputable def GR (x0:ByteArray) (n:Nat)   (bu:Eb→Option (Bool)):Eb→Option (Bool):=fun x1=>
 cond (decide (x1<(x0.size:Int)))
 (cond (decide (0≤x1)) (cond (decide (x1<(x0.size:Int))) (cond (decide ((s5 x0 x1)≥97))
 (cond (decide ((s5 x0 x1)≤122))
 (bu (IntKind.i64.wrap (x1+1)))
 (cond (decide ((s5 x0 x1)≥48))
 (cond (decide ((s5 x0 x1)≤57))
 (bu (IntKind.i64.wrap (x1+1)))
 (cond (!((s5 x0 x1)==45))
 (some (false))
 (bu (IntKind.i64.wrap (x1+1)))))
 (cond (!((s5 x0 x1)==45))
 (some (false))
 (bu (IntKind.i64.wrap (x1+1))))))
 (cond (decide ((s5 x0 x1)≥48))
 (cond (decide ((s5 x0 x1)≤57))
 (bu (IntKind.i64.wrap (x1+1)))
 (cond (!((s5 x0 x1)==45))
 (some (false))
 (bu (IntKind.i64.wrap (x1+1)))))
 (cond (!((s5 x0 x1)==45))
 (some (false))
 (bu (IntKind.i64.wrap (x1+1)))))) none) none)
 (some (true))
section
variable (x0:ByteArray)
noncomputable def Ox (n:Nat)  (x:Eb):Option (Bool):=iter (fun rec S=>run X30 (F30 n) (au (ak Try.f30) [1,1,0,1,0,0]) 0 S (dq rec (cJ 0 (bf (run X30 (F30 n) (au (ak Try.f30) [1,1,1]) 0) (eu X30 Try.f30 Tv))))) [0,3] n (aar x0 x)
theorem abC (n:Nat)  (x:Eb):Ox x0 n  x=cu (GR x0 n  ) n x:=by
 refine iter_eq _ _ (fun bu x1=>?_) n x
 kernel_rfl
end
noncomputable def RI (n:Nat) (a0:ByteArray):Option (Bool):=
 Option.bind (lB (a0.size:Int) 1 20) fun r1=>
 cond (!r1)
 (some (false))
 (cu (GR a0 n ) n 0)
theorem t30 (n:Nat) (a0:ByteArray):dG X30 (F30 n) Try.f30 [.one (.str a0)] Tv=RI n a0:=by
 refine Eq.trans (b:=
  Option.bind (lB (a0.size:Int) 1 20) fun r1=>
  cond (!r1)
  (some (false))
  (Ox a0 n   0)) (by kernel_rfl) ?_
 simp only [RI,abC]
noncomputable def X4 (a0:ByteArray):Option (Bool):=RI fuel a0
noncomputable def Ng:iK C:=lD KK [.str] [.bool] X4
theorem c30:dm Try.prog KK 30 Ng:=cO (gO ⟨Re,trivial⟩ trivial trivial:Cons Try.prog X30) (fn:=Try.f30) (by kernel_rfl) (by kernel_rfl) (by kernel_rfl) (by kernel_rfl) (F30 fuel) (by kernel_rfl) (fun a0=>t30 fuel a0)
noncomputable def X29:Cx C:=fT [(26,pD),(30,Ng)] [] [] [] 1900544 []
def F29 (n:Nat):Cf:={ N:=n,keep:=[0,1,2,4,53,56],live:=lk [] }
noncomputable abbrev dec29:=jB KK [.bool]
noncomputable def Xt (n:Nat) (a0:af) (a1:Int):Option (Bool):=
 Option.bind (X4 a0.Name) fun r1=>
 cond (!r1)
 (some (false))
 (Option.bind (lB a0.Version 1 a1) fun r2=>
 cond (!r2)
 (some (false))
 (Option.bind (lB a0.aB 1 1000000) fun r3=>
 cond (!r3)
 (some (false))
 (Option.bind (lB a0.Next 1 1000000) fun r4=>
 cond (!r4)
 (some (false))
 (Option.bind (lB a0.Want 0 10) fun r5=>
 cond (!r5)
 (some (false))
 (Option.bind (lB a0.Down 0 10) fun r6=>
 cond (!r6)
 (some (false))
 (Option.bind (lB a0.ct 0 10) fun r7=>
 cond (!r7)
 (some (false))
 (cond ((IntKind.i64.wrap (a0.Down+a0.ct))==0)
 (some (false))
 (cond (a0.dA==0)
 (cond (a0.aP==0)
 (cond (a0.bN==0)
 (cond (a0.cK==0)
 (some (a0.cE==0))
 (some (false)))
 (some (false)))
 (some (false)))
 (Option.bind (lB a0.dA 0 1000000) fun r8=>
 cond r8
 (Option.bind (lB a0.cK 0 1000000) fun r9=>
 cond r9
 (Option.bind (lB a0.aP 0 10) fun iJ=>
 cond iJ
 (Option.bind (lB a0.bN a0.aP 10) fun s7=>
 cond s7
 (Option.bind (lB a0.cE 0 3) fun lC=>
 some (lC))
 (some (false)))
 (some (false)))
 (some (false)))
 (some (false)))))))))))
theorem t29 (n:Nat) (a0:af) (a1:Int):dG X29 (F29 n) Try.f29 [.agg [.str a0.Name,.int .i64 a0.Version,.bool a0.cC,.int .i64 a0.aB,.int .i64 a0.Want,.int .i64 a0.Down,.int .i64 a0.ct,.int .i64 a0.Next,.int .i64 a0.dA,.int .i64 a0.aP,.int .i64 a0.bN,.int .i64 a0.cK,.int .i64 a0.cE],.one (.int .i64 a1)] dec29=Xt n a0 a1:=by
 kernel_rfl
noncomputable def G29 (a0:af) (a1:Int):Option (Bool):=Xt fuel a0 a1
noncomputable def TJ:iK C:=lD KK [.el .aA,.int .i64] [.bool] G29
theorem c29:dm Try.prog KK 29 TJ:=cO (gO ⟨Re,c30,trivial⟩ trivial trivial:Cons Try.prog X29) (fn:=Try.f29) (by kernel_rfl) (by kernel_rfl) (by kernel_rfl) (by kernel_rfl) (F29 fuel) (by kernel_rfl) (fun a0 a1=>t29 fuel a0 a1)
noncomputable def X69:Cx C:=fT [] [] [] [] 4521984 []
def F69 (n:Nat):Cf:={ N:=n,keep:=[0,1,2,4,5,10,20],live:=lk [(0,[1,2,5])] }
noncomputable abbrev Tn:=jB KK [.int .i64]
abbrev DW:Type:=Int
section
variable (x0:ByteArray) (x2:Int) (x3:List (C .aA)) (x4:List (C .aC)) (x5:List (C .ay))
def aaj:DW→St C:=fun x1=>{ env:=[(1,.one (.str x0)),(2,.one (.ptr 4522112 0)),(5,.one (.int .i64 x1))],ah:=[(4522112,.box .mem [.int .i64 x2,.row .aA x3,.row .aC x4,.row .ay x5])],base:=0 }
end
noncomputable def GH (x0:ByteArray) (x3:List (C .aA)) (n:Nat)   (bu:DW→Option (Int)):DW→Option (Int):=fun x1=>
 cond (decide (x1<(x3.length:Int)))
 (cond (decide (0≤x1)) (Option.bind x3[x1.toNat]? fun e1=>cond (decide (e1.Name=x0))
 (some (x1))
 (bu (IntKind.i64.wrap (x1+1)))) none)
 (some ((-1)))
section
variable (x0:ByteArray) (x2:Int) (x3:List (C .aA)) (x4:List (C .aC)) (x5:List (C .ay))
noncomputable def Og (n:Nat)  (x:DW):Option (Int):=iter (fun rec S=>run X69 (F69 n) (au (ak Try.f69) [1,0,1,0,0]) 0 S (dq rec (cJ 0 (bf (run X69 (F69 n) (au (ak Try.f69) [1,1]) 0) (eu X69 Try.f69 Tn))))) [1,2,5] n (aaj x0 x2 x3 x4 x5 x)
theorem abo (n:Nat)  (x:DW):Og x0 x2 x3 x4 x5 n  x=cu (GH x0 x3 n  ) n x:=by
 refine iter_eq _ _ (fun bu x1=>?_) n x
 kernel_rfl
end
noncomputable def Rz (n:Nat) (a0:aa) (a1:ByteArray):Option (Int):=
 cu (GH a1 a0.ae n ) n 0
theorem t69 (n:Nat) (a0:aa) (a1:ByteArray):dG X69 (F69 n) Try.f69 [.agg [.int .i64 a0.b8,.row .aA a0.ae,.row .aC a0.ai,.row .ay a0.aj],.one (.str a1)] Tn=Rz n a0 a1:=by
 refine Eq.trans (b:=
  Og a1 a0.b8 a0.ae a0.ai a0.aj n   0) (by kernel_rfl) ?_
 simp only [Rz,abo]
noncomputable def OO (a0:aa) (a1:ByteArray):Option (Int):=Rz fuel a0 a1
noncomputable def yS:iK C:=lD KK [.el .dv,.str] [.int .i64] OO
theorem c69:dm Try.prog KK 69 yS:=cO (gO trivial trivial trivial:Cons Try.prog X69) (fn:=Try.f69) (by kernel_rfl) (by kernel_rfl) (by kernel_rfl) (by kernel_rfl) (F69 fuel) (by kernel_rfl) (fun a0 a1=>t69 fuel a0 a1)
noncomputable def X66:Cx C:=fT [] [] [] [] 4325376 []
def F66 (n:Nat):Cf:={ N:=n,keep:=[0,1,2,3,6,7,12,32],live:=lk [(0,[1,2,3,7])] }
noncomputable abbrev Tr:=jB KK [.int .i64]
abbrev DZ:Type:=Int
section
variable (x0:ByteArray) (x1 x3:Int) (x4:List (C .aA)) (x5:List (C .aC)) (x6:List (C .ay))
def aam:DZ→St C:=fun x2=>{ env:=[(1,.one (.str x0)),(2,.one (.int .i64 x1)),(3,.one (.ptr 4325568 0)),(7,.one (.int .i64 x2))],ah:=[(4325568,.box .mem [.int .i64 x3,.row .aA x4,.row .aC x5,.row .ay x6])],base:=0 }
end
noncomputable def GJ (x0:ByteArray) (x1:Int) (x5:List (C .aC)) (n:Nat)   (bu:DZ→Option (Int)):DZ→Option (Int):=fun x2=>
 cond (decide (x2<(x5.length:Int)))
 (cond (decide (0≤x2)) (Option.bind x5[x2.toNat]? fun e1=>cond (decide (e1.ax=x0))
 (cond (decide (0≤x2)) (Option.bind x5[x2.toNat]? fun e2=>cond (e2.Number==x1)
 (some (x2))
 (bu (IntKind.i64.wrap (x2+1)))) none)
 (bu (IntKind.i64.wrap (x2+1)))) none)
 (some ((-1)))
section
variable (x0:ByteArray) (x1 x3:Int) (x4:List (C .aA)) (x5:List (C .aC)) (x6:List (C .ay))
noncomputable def Oj (n:Nat)  (x:DZ):Option (Int):=iter (fun rec S=>run X66 (F66 n) (au (ak Try.f66) [1,0,1,0,0]) 0 S (dq rec (cJ 0 (bf (run X66 (F66 n) (au (ak Try.f66) [1,1]) 0) (eu X66 Try.f66 Tr))))) [1,2,3,7] n (aam x0 x1 x3 x4 x5 x6 x)
theorem abr (n:Nat)  (x:DZ):Oj x0 x1 x3 x4 x5 x6 n  x=cu (GJ x0 x1 x5 n  ) n x:=by
 refine iter_eq _ _ (fun bu x2=>?_) n x
 kernel_rfl
end
noncomputable def RC (n:Nat) (a0:aa) (a1:ByteArray) (a2:Int):Option (Int):=
 cu (GJ a1 a2 a0.ai n ) n 0
theorem t66 (n:Nat) (a0:aa) (a1:ByteArray) (a2:Int):dG X66 (F66 n) Try.f66 [.agg [.int .i64 a0.b8,.row .aA a0.ae,.row .aC a0.ai,.row .ay a0.aj],.one (.str a1),.one (.int .i64 a2)] Tr=RC n a0 a1 a2:=by
 refine Eq.trans (b:=
  Oj a1 a2 a0.b8 a0.ae a0.ai a0.aj n   0) (by kernel_rfl) ?_
 simp only [RC,abr]
noncomputable def JR (a0:aa) (a1:ByteArray) (a2:Int):Option (Int):=RC fuel a0 a1 a2
noncomputable def HQ:iK C:=lD KK [.el .dv,.str,.int .i64] [.int .i64] JR
theorem c66:dm Try.prog KK 66 HQ:=cO (gO trivial trivial trivial:Cons Try.prog X66) (fn:=Try.f66) (by kernel_rfl) (by kernel_rfl) (by kernel_rfl) (by kernel_rfl) (F66 fuel) (by kernel_rfl) (fun a0 a1 a2=>t66 fuel a0 a1 a2)
noncomputable def X67:Cx C:=fT [] [] [] [] 4390912 []
def F67 (n:Nat):Cf:={ N:=n,keep:=[0,1,2,4,5,10,20],live:=lk [(0,[1,2,5])] }
noncomputable abbrev Tq:=jB KK [.int .i64]
abbrev DY:Type:=Int
section
variable (x0:ByteArray) (x2:Int) (x3:List (C .aA)) (x4:List (C .aC)) (x5:List (C .ay))
def aal:DY→St C:=fun x1=>{ env:=[(1,.one (.str x0)),(2,.one (.ptr 4391040 0)),(5,.one (.int .i64 x1))],ah:=[(4391040,.box .mem [.int .i64 x2,.row .aA x3,.row .aC x4,.row .ay x5])],base:=0 }
end
noncomputable def GI (x0:ByteArray) (x5:List (C .ay)) (n:Nat)   (bu:DY→Option (Int)):DY→Option (Int):=fun x1=>
 cond (decide (x1<(x5.length:Int)))
 (cond (decide (0≤x1)) (Option.bind x5[x1.toNat]? fun e1=>cond (decide (e1.Name=x0))
 (some (x1))
 (bu (IntKind.i64.wrap (x1+1)))) none)
 (some ((-1)))
section
variable (x0:ByteArray) (x2:Int) (x3:List (C .aA)) (x4:List (C .aC)) (x5:List (C .ay))
noncomputable def Oi (n:Nat)  (x:DY):Option (Int):=iter (fun rec S=>run X67 (F67 n) (au (ak Try.f67) [1,0,1,0,0]) 0 S (dq rec (cJ 0 (bf (run X67 (F67 n) (au (ak Try.f67) [1,1]) 0) (eu X67 Try.f67 Tq))))) [1,2,5] n (aal x0 x2 x3 x4 x5 x)
theorem abq (n:Nat)  (x:DY):Oi x0 x2 x3 x4 x5 n  x=cu (GI x0 x5 n  ) n x:=by
 refine iter_eq _ _ (fun bu x1=>?_) n x
 kernel_rfl
end
noncomputable def RB (n:Nat) (a0:aa) (a1:ByteArray):Option (Int):=
 cu (GI a1 a0.aj n ) n 0
theorem t67 (n:Nat) (a0:aa) (a1:ByteArray):dG X67 (F67 n) Try.f67 [.agg [.int .i64 a0.b8,.row .aA a0.ae,.row .aC a0.ai,.row .ay a0.aj],.one (.str a1)] Tq=RB n a0 a1:=by
 refine Eq.trans (b:=
  Oi a1 a0.b8 a0.ae a0.ai a0.aj n   0) (by kernel_rfl) ?_
 simp only [RB,abq]
noncomputable def Xl (a0:aa) (a1:ByteArray):Option (Int):=RB fuel a0 a1
noncomputable def HP:iK C:=lD KK [.el .dv,.str] [.int .i64] Xl
theorem c67:dm Try.prog KK 67 HP:=cO (gO trivial trivial trivial:Cons Try.prog X67) (fn:=Try.f67) (by kernel_rfl) (by kernel_rfl) (by kernel_rfl) (by kernel_rfl) (F67 fuel) (by kernel_rfl) (fun a0 a1=>t67 fuel a0 a1)
noncomputable def X31:Cx C:=fT [(26,pD),(67,HP),(69,yS)] [] [] [] 2031616 []
def F31 (n:Nat):Cf:={ N:=n,keep:=[0,1,2,3,4,5,44,47],live:=lk [] }
noncomputable abbrev dec31:=jB KK [.bool]
noncomputable def Xr (n:Nat) (a0:aa) (a1:aq):Option (Bool):=
 Option.bind (OO a0 a1.ax) fun r1=>
 cond (decide (r1<0))
 (some (false))
 (cond (decide (0≤r1)) (Option.bind a0.ae[r1.toNat]? fun e2=>Option.bind (lB a1.Number 1 (IntKind.i64.wrap (e2.Next-1))) fun r3=>
 cond (!r3)
 (some (false))
 (Option.bind (lB a1.Version 1 a0.b8) fun r4=>
 cond (!r4)
 (some (false))
 (Option.bind (lB a1.aB 1 1000000) fun r5=>
 cond (!r5)
 (some (false))
 (Option.bind (lB a1.State 1 4) fun r6=>
 cond (!r6)
 (some (false))
 (cond (a1.State==1)
 (some (decide (a1.bw=(⟨#[]⟩:ByteArray))))
 (Option.bind (Xl a0 a1.bw) fun r7=>
 some (decide (r7≥0)))))))) none)
theorem t31 (n:Nat) (a0:aa) (a1:aq):dG X31 (F31 n) Try.f31 [.agg [.int .i64 a0.b8,.row .aA a0.ae,.row .aC a0.ai,.row .ay a0.aj],.agg [.str a1.ax,.int .i64 a1.Number,.int .i64 a1.Version,.int .i64 a1.aB,.int .i64 a1.State,.bool a1.Ending,.str a1.bw]] dec31=Xr n a0 a1:=by
 kernel_rfl
noncomputable def G31 (a0:aa) (a1:aq):Option (Bool):=Xr fuel a0 a1
noncomputable def TI:iK C:=lD KK [.el .dv,.el .aC] [.bool] G31
theorem c31:dm Try.prog KK 31 TI:=cO (gO ⟨Re,c67,c69,trivial⟩ trivial trivial:Cons Try.prog X31) (fn:=Try.f31) (by kernel_rfl) (by kernel_rfl) (by kernel_rfl) (by kernel_rfl) (F31 fuel) (by kernel_rfl) (fun a0 a1=>t31 fuel a0 a1)
noncomputable def X32:Cx C:=fT [] [] [] [] 2097152 []
def F32 (n:Nat):Cf:={ N:=n,keep:=[0,1,2,3,4],live:=lk [] }
noncomputable abbrev dec32:=jB KK [.bool]
noncomputable def Xq (n:Nat) (a0 a1:aq):Option (Bool):=
 cond (slt a0.ax a1.ax)
 (some (true))
 (cond (decide (a0.ax=a1.ax))
 (some (decide (a0.Number<a1.Number)))
 (some (false)))
theorem t32 (n:Nat) (a0 a1:aq):dG X32 (F32 n) Try.f32 [.agg [.str a0.ax,.int .i64 a0.Number,.int .i64 a0.Version,.int .i64 a0.aB,.int .i64 a0.State,.bool a0.Ending,.str a0.bw],.agg [.str a1.ax,.int .i64 a1.Number,.int .i64 a1.Version,.int .i64 a1.aB,.int .i64 a1.State,.bool a1.Ending,.str a1.bw]] dec32=Xq n a0 a1:=by
 kernel_rfl
noncomputable def G32 (a0 a1:aq):Option (Bool):=Xq fuel a0 a1
noncomputable def Nf:iK C:=lD KK [.el .aC,.el .aC] [.bool] G32
theorem c32:dm Try.prog KK 32 Nf:=cO (gO trivial trivial trivial:Cons Try.prog X32) (fn:=Try.f32) (by kernel_rfl) (by kernel_rfl) (by kernel_rfl) (by kernel_rfl) (F32 fuel) (by kernel_rfl) (fun a0 a1=>t32 fuel a0 a1)
end Go.Proofs.Ytipemmgoipbojaa.Ab
set_option maxRecDepth 100000
namespace Go.Proofs.Ytipemmgoipbojaa.Ab
open Go Go.RowKit
noncomputable def NS:Cx C:=fT [(26,pD),(29,TJ),(30,Ng),(31,TI),(32,Nf)] [] [] [] 655360 []
def Up (n:Nat):Cf:={ N:=n,keep:=[0,1,2,3,4,5,27,32,63,68,98,103,132],live:=lk [(0,[1,3]),(2,[1,4]),(4,[1,5])] }
noncomputable abbrev HM:=jB KK [.bool]
abbrev Ej:Type:=Int
abbrev Ek:Type:=Int
abbrev El:Type:=Int
section
variable (x1:Int) (x2:List (C .aA)) (x3:List (C .aC)) (x4:List (C .ay))
def aax:Ej→St C:=fun x0=>{ env:=[(1,.one (.ptr 655424 0)),(5,.one (.int .i64 x0))],ah:=[(655424,.box .mem [.int .i64 x1,.row .aA x2,.row .aC x3,.row .ay x4])],base:=0 }
end
noncomputable def BS (x1:Int) (x2:List (C .aA)) (x3:List (C .aC)) (x4:List (C .ay)) (n:Nat)   (de:Ej→Option (Bool)):Ej→Option (Bool):=fun x0=>
 cond (decide (x0<(x3.length:Int)))
 (cond (decide (0≤x0)) (Option.bind x3[x0.toNat]? fun tF=>Option.bind (G31 (⟨x1,x2,x3,x4⟩:aa) tF) fun s7=>
 cond (!s7)
 (some (false))
 (cond (decide (x0>0))
 (cond (decide (0≤IntKind.i64.wrap (x0-1))) (Option.bind x3[(IntKind.i64.wrap (x0-1)).toNat]? fun HJ=>cond (decide (0≤x0)) (Option.bind x3[x0.toNat]? fun Po=>Option.bind (G32 HJ Po) fun eU=>
 cond (!eU)
 (some (false))
 (de (IntKind.i64.wrap (x0+1)))) none) none)
 (de (IntKind.i64.wrap (x0+1))))) none)
 (some (true))
section
variable (x1:Int) (x2:List (C .aA)) (x3:List (C .aC)) (x4:List (C .ay))
def KL:Ek→St C:=fun x0=>{ env:=[(1,.one (.ptr 655424 0)),(4,.one (.int .i64 x0))],ah:=[(655424,.box .mem [.int .i64 x1,.row .aA x2,.row .aC x3,.row .ay x4])],base:=0 }
end
noncomputable def xY (x1:Int) (x2:List (C .aA)) (x3:List (C .aC)) (x4:List (C .ay)) (n:Nat)   (eW:Ek→Option (Bool)):Ek→Option (Bool):=fun x0=>
 cond (decide (x0<(x4.length:Int)))
 (cond (decide (0≤x0)) (Option.bind x4[x0.toNat]? fun e6=>Option.bind (X4 e6.Name) fun r7=>
 cond (!r7)
 (some (false))
 (cond (decide (x0>0))
 (cond (decide (0≤IntKind.i64.wrap (x0-1))) (Option.bind x4[(IntKind.i64.wrap (x0-1)).toNat]? fun e8=>cond (decide (0≤x0)) (Option.bind x4[x0.toNat]? fun e9=>cond (!slt e8.Name e9.Name)
 (some (false))
 (eW (IntKind.i64.wrap (x0+1)))) none) none)
 (eW (IntKind.i64.wrap (x0+1))))) none)
 (cu (BS x1 x2 x3 x4 n ) n 0)
section
variable (x1:Int) (x2:List (C .aA)) (x3:List (C .aC)) (x4:List (C .ay))
def KM:El→St C:=fun x0=>{ env:=[(1,.one (.ptr 655424 0)),(3,.one (.int .i64 x0))],ah:=[(655424,.box .mem [.int .i64 x1,.row .aA x2,.row .aC x3,.row .ay x4])],base:=0 }
end
noncomputable def BT (x1:Int) (x2:List (C .aA)) (x3:List (C .aC)) (x4:List (C .ay)) (n:Nat)   (bu:El→Option (Bool)):El→Option (Bool):=fun x0=>
 cond (decide (x0<(x2.length:Int)))
 (cond (decide (0≤x0)) (Option.bind x2[x0.toNat]? fun e2=>Option.bind (G29 e2 x1) fun r3=>
 cond (!r3)
 (some (false))
 (cond (decide (x0>0))
 (cond (decide (0≤IntKind.i64.wrap (x0-1))) (Option.bind x2[(IntKind.i64.wrap (x0-1)).toNat]? fun e4=>cond (decide (0≤x0)) (Option.bind x2[x0.toNat]? fun e5=>cond (!slt e4.Name e5.Name)
 (some (false))
 (bu (IntKind.i64.wrap (x0+1)))) none) none)
 (bu (IntKind.i64.wrap (x0+1))))) none)
 (cu (xY x1 x2 x3 x4 n ) n 0)
section
variable (x1:Int) (x2:List (C .aA)) (x3:List (C .aC)) (x4:List (C .ay))
noncomputable def OI (n:Nat)  (x:Ej):Option (Bool):=iter (fun rec S=>run NS (Up n) (au (ak Try.f10) [1,1,1,1,0,1,0,0]) 4 S (dq rec (cJ 4 (bf (run NS (Up n) (au (ak Try.f10) [1,1,1,1,1]) 0) (eu NS Try.f10 HM))))) [1,5] n (aax x1 x2 x3 x4 x)
theorem abO (n:Nat)  (x:Ej):OI x1 x2 x3 x4 n  x=cu (BS x1 x2 x3 x4 n  ) n x:=by
 refine iter_eq _ _ (fun de x0=>?_) n x
 kernel_rfl
end
section
variable (x1:Int) (x2:List (C .aA)) (x3:List (C .aC)) (x4:List (C .ay))
noncomputable def OJ (n:Nat)  (x:Ek):Option (Bool):=iter (fun rec S=>run NS (Up n) (au (ak Try.f10) [1,1,1,0,1,0,0]) 2 S (dq rec (cJ 2 (bf (run NS (Up n) (au (ak Try.f10) [1,1,1,1]) 0) (eu NS Try.f10 HM))))) [1,4] n (KL x1 x2 x3 x4 x)
theorem abP (n:Nat)  (x:Ek):OJ x1 x2 x3 x4 n  x=cu (xY x1 x2 x3 x4 n  ) n x:=by
 refine iter_eq _ _ (fun eW x0=>?_) n x
 refine Eq.trans (b:=
  cond (decide (x0<(x4.length:Int)))
  (cond (decide (0≤x0)) (Option.bind x4[x0.toNat]? fun e6=>Option.bind (X4 e6.Name) fun r7=>
  cond (!r7)
  (some (false))
  (cond (decide (x0>0))
  (cond (decide (0≤IntKind.i64.wrap (x0-1))) (Option.bind x4[(IntKind.i64.wrap (x0-1)).toNat]? fun e8=>cond (decide (0≤x0)) (Option.bind x4[x0.toNat]? fun e9=>cond (!slt e8.Name e9.Name)
  (some (false))
  ((fun x=>eW (KL x1 x2 x3 x4 x)) (IntKind.i64.wrap (x0+1)))) none) none)
  ((fun x=>eW (KL x1 x2 x3 x4 x)) (IntKind.i64.wrap (x0+1))))) none)
  (OI x1 x2 x3 x4 n   0)) (by kernel_rfl) ?_
 simp only [abO];rfl
end
section
variable (x1:Int) (x2:List (C .aA)) (x3:List (C .aC)) (x4:List (C .ay))
noncomputable def OK (n:Nat)  (x:El):Option (Bool):=iter (fun rec S=>run NS (Up n) (au (ak Try.f10) [1,1,0,1,0,0]) 0 S (dq rec (cJ 0 (bf (run NS (Up n) (au (ak Try.f10) [1,1,1]) 0) (eu NS Try.f10 HM))))) [1,3] n (KM x1 x2 x3 x4 x)
theorem abQ (n:Nat)  (x:El):OK x1 x2 x3 x4 n  x=cu (BT x1 x2 x3 x4 n  ) n x:=by
 refine iter_eq _ _ (fun bu x0=>?_) n x
 refine Eq.trans (b:=
  cond (decide (x0<(x2.length:Int)))
  (cond (decide (0≤x0)) (Option.bind x2[x0.toNat]? fun e2=>Option.bind (G29 e2 x1) fun r3=>
  cond (!r3)
  (some (false))
  (cond (decide (x0>0))
  (cond (decide (0≤IntKind.i64.wrap (x0-1))) (Option.bind x2[(IntKind.i64.wrap (x0-1)).toNat]? fun e4=>cond (decide (0≤x0)) (Option.bind x2[x0.toNat]? fun e5=>cond (!slt e4.Name e5.Name)
  (some (false))
  ((fun x=>bu (KM x1 x2 x3 x4 x)) (IntKind.i64.wrap (x0+1)))) none) none)
  ((fun x=>bu (KM x1 x2 x3 x4 x)) (IntKind.i64.wrap (x0+1))))) none)
  (OJ x1 x2 x3 x4 n   0)) (by kernel_rfl) ?_
 simp only [abP];rfl
end
noncomputable def RO (n:Nat) (a0:aa):Option (Bool):=
 Option.bind (lB a0.b8 0 1000000) fun r1=>
 cond (!r1)
 (some (false))
 (cond (decide ((a0.ae.length:Int)>8))
 (some (false))
 (cond (decide ((a0.ai.length:Int)>200))
 (some (false))
 (cond (decide ((a0.aj.length:Int)>6))
 (some (false))
 (cu (BT a0.b8 a0.ae a0.ai a0.aj n ) n 0))))
theorem t10 (n:Nat) (a0:aa):dG NS (Up n) Try.f10 [.agg [.int .i64 a0.b8,.row .aA a0.ae,.row .aC a0.ai,.row .ay a0.aj]] HM=RO n a0:=by
 refine Eq.trans (b:=
  Option.bind (lB a0.b8 0 1000000) fun r1=>
  cond (!r1)
  (some (false))
  (cond (decide ((a0.ae.length:Int)>8))
  (some (false))
  (cond (decide ((a0.ai.length:Int)>200))
  (some (false))
  (cond (decide ((a0.aj.length:Int)>6))
  (some (false))
  (OK a0.b8 a0.ae a0.ai a0.aj n   0))))) (by kernel_rfl) ?_
 simp only [RO,abQ]
noncomputable def JG (a0:aa):Option (Bool):=RO fuel a0
noncomputable def yU:iK C:=lD KK [.el .dv] [.bool] JG
theorem c10:dm Try.prog KK 10 yU:=cO (gO ⟨Re,c29,c30,c31,c32,trivial⟩ trivial trivial:Cons Try.prog NS) (fn:=Try.f10) (by kernel_rfl) (by kernel_rfl) (by kernel_rfl) (by kernel_rfl) (Up fuel) (by kernel_rfl) (fun a0=>t10 fuel a0)
noncomputable def X27:Cx C:=fT [] [] [] [] 1769472 []
def F27 (n:Nat):Cf:={ N:=n,keep:=[0,1,2],live:=lk [] }
noncomputable abbrev dec27:=jB KK [.el .dv]
noncomputable def Xu (n:Nat) (a0:aa):Option (aa):=
 cond (decide (((([]:List (C .aA))).length+a0.ae.length)*112≤140737488355328)) (cond (decide (((([]:List (C .aC))).length+a0.ai.length)*72≤140737488355328)) (cond (decide (((([]:List (C .ay))).length+a0.aj.length)*24≤140737488355328)) (some ((⟨a0.b8,(([]:List (C .aA)))++a0.ae,(([]:List (C .aC)))++a0.ai,(([]:List (C .ay)))++a0.aj⟩:aa))) none) none) none
theorem t27 (n:Nat) (a0:aa):dG X27 (F27 n) Try.f27 [.agg [.int .i64 a0.b8,.row .aA a0.ae,.row .aC a0.ai,.row .ay a0.aj]] dec27=Xu n a0:=by
 kernel_rfl
noncomputable def zi (a0:aa):Option (aa):=Xu fuel a0
noncomputable def yT:iK C:=lD KK [.el .dv] [.el .dv] zi
theorem c27:dm Try.prog KK 27 yT:=cO (gO trivial trivial trivial:Cons Try.prog X27) (fn:=Try.f27) (by kernel_rfl) (by kernel_rfl) (by kernel_rfl) (by kernel_rfl) (F27 fuel) (by kernel_rfl) (fun a0=>t27 fuel a0)
noncomputable def xu:Cx C:=fT [] [] [] [] 7143424 []
def Dx (n:Nat):Cf:={ N:=n,keep:=[0,1,2,3,4,5,6,7,12,19,34,52],live:=lk [(0,[1,3,4,5]),(2,[1,3,4,5,6,7])] }
noncomputable abbrev FR:=jB KK [.str]
abbrev wW:Type:=Int×Int
abbrev qf:Type:=ByteArray×Int×Int
section
variable (x0:ByteArray) (x1 x2 x5:Int) (x6:List (C .aA)) (x7:List (C .aC)) (x8:List (C .ay))
def UW:wW→St C:=fun (x3,x4)=>{ env:=[(1,.one (.ptr 7143488 0)),(3,.one (.str x0)),(4,.one (.int .i64 x1)),(5,.one (.int .i64 x2)),(6,.one (.int .i64 x3)),(7,.one (.int .i64 x4))],ah:=[(7143488,.box .mem [.int .i64 x5,.row .aA x6,.row .aC x7,.row .ay x8])],base:=0 }
end
noncomputable def u3 (x0:ByteArray) (x1 x2:Int) (x7:List (C .aC)) (x8:List (C .ay)) (n:Nat)  (bu:qf→Option (ByteArray)) (eW:wW→Option (ByteArray)):wW→Option (ByteArray):=fun (x3,x4)=>
 cond (decide (x4<(x7.length:Int)))
 (cond (decide (0≤x4)) (Option.bind x7[x4.toNat]? fun e1=>cond (decide (0≤x2)) (Option.bind x8[x2.toNat]? fun e2=>cond (decide (e1.bw=e2.Name))
 (eW ((IntKind.i64.wrap (x3+1),IntKind.i64.wrap (x4+1))))
 (eW ((x3,IntKind.i64.wrap (x4+1))))) none) none)
 (cond (decide (0≤x2)) (Option.bind x8[x2.toNat]? fun e3=>cond (!e3.kJ)
 (cond (decide (x0=(⟨#[]⟩:ByteArray)))
 (cond (decide (0≤x2)) (Option.bind x8[x2.toNat]? fun e4=>bu ((e4.Name,x3,IntKind.i64.wrap (x2+1)))) none)
 (cond (decide (x3<x1))
 (cond (decide (0≤x2)) (Option.bind x8[x2.toNat]? fun e5=>bu ((e5.Name,x3,IntKind.i64.wrap (x2+1)))) none)
 (bu ((x0,x1,IntKind.i64.wrap (x2+1))))))
 (bu ((x0,x1,IntKind.i64.wrap (x2+1))))) none)
section
variable (x3:Int) (x4:List (C .aA)) (x5:List (C .aC)) (x6:List (C .ay))
def KN:qf→St C:=fun (x0,x1,x2)=>{ env:=[(1,.one (.ptr 7143488 0)),(3,.one (.str x0)),(4,.one (.int .i64 x1)),(5,.one (.int .i64 x2))],ah:=[(7143488,.box .mem [.int .i64 x3,.row .aA x4,.row .aC x5,.row .ay x6])],base:=0 }
end
noncomputable def zR (x5:List (C .aC)) (x6:List (C .ay)) (n:Nat)   (bu:qf→Option (ByteArray)):qf→Option (ByteArray):=fun (x0,x1,x2)=>
 cond (decide (x2<(x6.length:Int)))
 (cu (u3 x0 x1 x2 x5 x6 n bu) n (0,0))
 (some (x0))
section
variable (x0:ByteArray) (x1 x2 x5:Int) (x6:List (C .aA)) (x7:List (C .aC)) (x8:List (C .ay))
noncomputable def Ia (n:Nat) (bu:St C→Option (ByteArray)) (x:wW):Option (ByteArray):=iter (fun rec S=>run xu (Dx n) (au (ak Try.f109) [1,1,1,0,1,0,0,1,0,0,1,0,1,0,0]) 2 S (dq rec (cJ 2 (bf (run xu (Dx n) (au (ak Try.f109) [1,1,1,0,1,0,0,1,0,0,1,1]) 1) (cJ 1 (bf (run xu (Dx n) (au (ak Try.f109) [1,1,1,0,1,0,0,1,1]) 0) (dq (gR [1,3,4,5] bu) (cJ 0 (bf (run xu (Dx n) (au (ak Try.f109) [1,1,1,1]) 0) (eu xu Try.f109 FR)))))))))) [1,3,4,5,6,7] n (UW x0 x1 x2 x5 x6 x7 x8 x)
theorem Vx (n:Nat) (bu:St C→Option (ByteArray)) (x:wW):Ia x0 x1 x2 x5 x6 x7 x8 n bu x=cu (u3 x0 x1 x2 x7 x8 n  (fun x=>bu (KN x5 x6 x7 x8 x))) n x:=by
 refine iter_eq _ _ (fun eW x=>?_) n x;obtain ⟨x3,x4⟩:=x
 kernel_rfl
end
section
variable (x3:Int) (x4:List (C .aA)) (x5:List (C .aC)) (x6:List (C .ay))
noncomputable def Ib (n:Nat)  (x:qf):Option (ByteArray):=iter (fun rec S=>run xu (Dx n) (au (ak Try.f109) [1,1,1,0,1,0,0]) 0 S (dq rec (cJ 0 (bf (run xu (Dx n) (au (ak Try.f109) [1,1,1,1]) 0) (eu xu Try.f109 FR))))) [1,3,4,5] n (KN x3 x4 x5 x6 x)
theorem Vy (n:Nat)  (x:qf):Ib x3 x4 x5 x6 n  x=cu (zR x5 x6 n  ) n x:=by
 refine iter_eq _ _ (fun bu x=>?_) n x;obtain ⟨x0,x1,x2⟩:=x
 refine Eq.trans (b:=
  cond (decide (x2<(x6.length:Int)))
  (Ia x0 x1 x2 x3 x4 x5 x6 n  bu (0,0))
  (some (x0))) (by kernel_rfl) ?_
 simp only [Vx];rfl
end
noncomputable def Ij (n:Nat) (a0:aa):Option (ByteArray):=
 cu (zR a0.ai a0.aj n ) n (((⟨#[]⟩:ByteArray),0,0))
theorem t109 (n:Nat) (a0:aa):dG xu (Dx n) Try.f109 [.agg [.int .i64 a0.b8,.row .aA a0.ae,.row .aC a0.ai,.row .ay a0.aj]] FR=Ij n a0:=by
 refine Eq.trans (b:=
  Ib a0.b8 a0.ae a0.ai a0.aj n   (((⟨#[]⟩:ByteArray),0,0))) (by kernel_rfl) ?_
 simp only [Ij,Vy]
noncomputable def OW (a0:aa):Option (ByteArray):=Ij fuel a0
noncomputable def Nn:iK C:=lD KK [.el .dv] [.str] OW
theorem c109:dm Try.prog KK 109 Nn:=cO (gO trivial trivial trivial:Cons Try.prog xu) (fn:=Try.f109) (by kernel_rfl) (by kernel_rfl) (by kernel_rfl) (by kernel_rfl) (Dx fuel) (by kernel_rfl) (fun a0=>t109 fuel a0)
end Go.Proofs.Ytipemmgoipbojaa.Ab
set_option maxRecDepth 100000
namespace Go.Proofs.Ytipemmgoipbojaa.Ab
open Go Go.RowKit
noncomputable def T4:Cx C:=fT [(109,Nn)] [] [] [] 4194304 []
def X5 (n:Nat):Cf:={ N:=n,keep:=[0,1,2,4,5,6,7,8,9,15,24,27,41,56],live:=lk [(0,[1,2,4,5,6]),(2,[1,2,4,8])] }
noncomputable abbrev MY:=yR KK [] [.el .dv]
abbrev D4:Type:=Int×List (C .aC)
abbrev D5:Type:=List (C .aC)×Int
section
variable (x0 x2:Int) (x3:List (C .aA)) (x5:List (C .ay)) (x6:Int) (x7:List (C .aA)) (x8:List (C .aC)) (x9:List (C .ay))
def aao:D4→St C:=fun (x1,x4)=>{ env:=[(1,.one (.int .i64 x0)),(2,.one (.ptr 4194432 0)),(4,.one (.ptr 4194560 0)),(8,.one (.int .i64 x1)),(90000,.frame),(90002,.jf 420443201 1),(90004,.jf 420443203 3)],ah:=[(4194432,.box .mem [.int .i64 x2,.ref 420443201 [],.ref 420443202 [],.ref 420443203 []]),(420443201,.row .aA x3 false),(420443202,.row .aC x4 false),(420443203,.row .ay x5 false),(4194560,.box .mem [.int .i64 x6,.ref 420456001 [],.ref 420456002 [],.ref 420456003 []]),(420456001,.row .aA x7 false),(420456002,.row .aC x8 false),(420456003,.row .ay x9 false)],base:=0 }
end
noncomputable def BN (x0 x2:Int) (x3:List (C .aA)) (x5:List (C .ay)) (n:Nat)   (eW:D4→Option (aa)):D4→Option (aa):=fun (x1,x4)=>
 cond (decide (x1<(x4.length:Int)))
 (Option.bind (OW (⟨x2,x3,x4,x5⟩:aa)) fun r2=>
 cond (decide (0≤x1)) (cond (decide (x1<(x4.length:Int))) (Option.bind x4[x1.toNat]? fun e3=>cond (e3.State==1)
 (cond (!decide (r2=(⟨#[]⟩:ByteArray)))
 (cond (decide (0≤x1)) (cond (decide (x1<(x4.length:Int))) (Option.bind x4[x1.toNat]? fun e4=>cond (decide (0≤x1)) (cond (decide (x1<((x4.set x1.toNat (⟨e4.ax,e4.Number,e4.Version,e4.aB,2,e4.Ending,e4.bw⟩:aq)).length:Int))) (Option.bind (x4.set x1.toNat (⟨e4.ax,e4.Number,e4.Version,e4.aB,2,e4.Ending,e4.bw⟩:aq))[x1.toNat]? fun e5=>cond (decide (0≤x1)) (cond (decide (x1<(((x4.set x1.toNat (⟨e4.ax,e4.Number,e4.Version,e4.aB,2,e4.Ending,e4.bw⟩:aq)).set x1.toNat (⟨e5.ax,e5.Number,e5.Version,e5.aB,e5.State,e5.Ending,r2⟩:aq)).length:Int))) (Option.bind ((x4.set x1.toNat (⟨e4.ax,e4.Number,e4.Version,e4.aB,2,e4.Ending,e4.bw⟩:aq)).set x1.toNat (⟨e5.ax,e5.Number,e5.Version,e5.aB,e5.State,e5.Ending,r2⟩:aq))[x1.toNat]? fun e6=>eW ((IntKind.i64.wrap (x1+1),((x4.set x1.toNat (⟨e4.ax,e4.Number,e4.Version,e4.aB,2,e4.Ending,e4.bw⟩:aq)).set x1.toNat (⟨e5.ax,e5.Number,e5.Version,e5.aB,e5.State,e5.Ending,r2⟩:aq)).set x1.toNat (⟨e6.ax,e6.Number,x0,e6.aB,e6.State,e6.Ending,e6.bw⟩:aq)))) none) none) none) none) none) none)
 (eW ((IntKind.i64.wrap (x1+1),x4))))
 (eW ((IntKind.i64.wrap (x1+1),x4)))) none) none)
 (some ((⟨x2,x3,x4,x5⟩:aa)))
section
variable (x0 x3:Int) (x4:List (C .aA)) (x5:List (C .aC)) (x6:List (C .ay)) (x7:Int) (x8:List (C .aA)) (x9:List (C .aC)) (aM:List (C .ay))
def GC:D5→St C:=fun (x1,x2)=>{ env:=[(1,.one (.int .i64 x0)),(2,.one (.ptr 4194432 0)),(4,.one (.ptr 4194560 0)),(5,.one (.ref 100005 [])),(6,.one (.int .i64 x2)),(90000,.frame),(90002,.jf 420443201 1),(90003,.jf 420443202 2),(90004,.jf 420443203 3)],ah:=[(100005,.row .aC x1 false),(4194432,.box .mem [.int .i64 x3,.ref 420443201 [],.ref 420443202 [],.ref 420443203 []]),(420443201,.row .aA x4 false),(420443202,.row .aC x5 false),(420443203,.row .ay x6 false),(4194560,.box .mem [.int .i64 x7,.ref 420456001 [],.ref 420456002 [],.ref 420456003 []]),(420456001,.row .aA x8 false),(420456002,.row .aC x9 false),(420456003,.row .ay aM false)],base:=0 }
end
noncomputable def GK (x0 x3:Int) (x4:List (C .aA)) (x5:List (C .aC)) (x6:List (C .ay)) (n:Nat)   (bu:D5→Option (aa)):D5→Option (aa):=fun (x1,x2)=>
 cond (decide (x2<(x5.length:Int)))
 (cond (decide (0≤x2)) (cond (decide (x2<(x5.length:Int))) (Option.bind x5[x2.toNat]? fun e1=>cond e1.Ending
 (bu ((x1,IntKind.i64.wrap (x2+1))))
 (cond (e1.State==2)
 (cond (decide ((x1.length+(([(⟨e1.ax,e1.Number,x0,e1.aB,3,e1.Ending,e1.bw⟩:aq)]:List (C .aC))).length)*72≤140737488355328)) (bu ((x1++(([(⟨e1.ax,e1.Number,x0,e1.aB,3,e1.Ending,e1.bw⟩:aq)]:List (C .aC))),IntKind.i64.wrap (x2+1)))) none)
 (cond (decide ((x1.length+(([e1]:List (C .aC))).length)*72≤140737488355328)) (bu ((x1++(([e1]:List (C .aC))),IntKind.i64.wrap (x2+1)))) none))) none) none)
 (cu (BN x0 x3 x4 x6 n ) n (0,x1))
section
variable (x0 x2:Int) (x3:List (C .aA)) (x5:List (C .ay)) (x6:Int) (x7:List (C .aA)) (x8:List (C .aC)) (x9:List (C .ay))
noncomputable def Om (kp:Nat→Prop) (kh:Nat→Option Obj) (hd:Nat→Value) (n:Nat)  (x:D4):Option (aa):=iter (fun rec S=>run (T4.gh kp kh hd) (X5 n) (au (ak Try.f64) [1,1,1,1,0,1,0,0]) 2 S (dq rec (cJ 2 (bf (run (T4.gh kp kh hd) (X5 n) (au (ak Try.f64) [1,1,1,1,1]) 0) (vD (T4.gh kp kh hd) Try.f64 [] MY))))) [1,2,4,8] n (aao x0 x2 x3 x5 x6 x7 x8 x9 x)
theorem abu (kp:Nat→Prop) (kh:Nat→Option Obj) (hd:Nat→Value) (n:Nat)  (x:D4):Om x0 x2 x3 x5 x6 x7 x8 x9 kp kh hd n  x=cu (BN x0 x2 x3 x5 n  ) n x:=by
 refine iter_eq _ _ (fun eW x=>?_) n x;obtain ⟨x1,x4⟩:=x
 kernel_rfl
end
section
variable (x0 x3:Int) (x4:List (C .aA)) (x5:List (C .aC)) (x6:List (C .ay)) (x7:Int) (x8:List (C .aA)) (x9:List (C .aC)) (aM:List (C .ay))
noncomputable def Oo (kp:Nat→Prop) (kh:Nat→Option Obj) (hd:Nat→Value) (n:Nat)  (x:D5):Option (aa):=iter (fun rec S=>run (T4.gh kp kh hd) (X5 n) (au (ak Try.f64) [1,1,0,1,0,0]) 0 S (dq rec (cJ 0 (bf (run (T4.gh kp kh hd) (X5 n) (au (ak Try.f64) [1,1,1]) 0) (vD (T4.gh kp kh hd) Try.f64 [] MY))))) [1,2,4,5,6] n (GC x0 x3 x4 x5 x6 x7 x8 x9 aM x)
theorem abv (kp:Nat→Prop) (kh:Nat→Option Obj) (hd:Nat→Value) (n:Nat)  (x:D5):Oo x0 x3 x4 x5 x6 x7 x8 x9 aM kp kh hd n  x=cu (GK x0 x3 x4 x5 x6 n  ) n x:=by
 refine iter_eq _ _ (fun bu x=>?_) n x;obtain ⟨x1,x2⟩:=x
 refine Eq.trans (b:=
  cond (decide (x2<(x5.length:Int)))
  (cond (decide (0≤x2)) (cond (decide (x2<(x5.length:Int))) (Option.bind x5[x2.toNat]? fun e1=>cond e1.Ending
  ((fun x=>bu (GC x0 x3 x4 x5 x6 x7 x8 x9 aM x)) ((x1,IntKind.i64.wrap (x2+1))))
  (cond (e1.State==2)
  (cond (decide ((x1.length+(([(⟨e1.ax,e1.Number,x0,e1.aB,3,e1.Ending,e1.bw⟩:aq)]:List (C .aC))).length)*72≤140737488355328)) ((fun x=>bu (GC x0 x3 x4 x5 x6 x7 x8 x9 aM x)) ((x1++(([(⟨e1.ax,e1.Number,x0,e1.aB,3,e1.Ending,e1.bw⟩:aq)]:List (C .aC))),IntKind.i64.wrap (x2+1)))) none)
  (cond (decide ((x1.length+(([e1]:List (C .aC))).length)*72≤140737488355328)) ((fun x=>bu (GC x0 x3 x4 x5 x6 x7 x8 x9 aM x)) ((x1++(([e1]:List (C .aC))),IntKind.i64.wrap (x2+1)))) none))) none) none)
  (Om x0 x3 x4 x6 x7 x8 x9 aM kp kh hd n   (0,x1))) (by kernel_rfl) ?_
 simp only [abu];rfl
end
noncomputable def RE (n:Nat) (a0:aa) (a1:Int):Option (aa):=
 cu (GK a1 a0.b8 a0.ae a0.ai a0.aj n ) n ((([]:List (C .aC)),0))
theorem t64 (kp:Nat→Prop) (kh:Nat→Option Obj) (hd:Nat→Value) (n:Nat) (a0:aa) (a1:Int):nR (T4.gh kp kh hd) (X5 n) Try.f64 [(true,[.int .i64 a0.b8,.row .aA a0.ae,.row .aC a0.ai,.row .ay a0.aj]),(false,[.int .i64 a1])] MY=RE n a0 a1:=by
 refine Eq.trans (b:=
  Oo a1 a0.b8 a0.ae a0.ai a0.aj 0 (([]:List (C .aA))) (([]:List (C .aC))) (([]:List (C .ay))) kp kh hd n   ((([]:List (C .aC)),0))) (by kernel_rfl) ?_
 simp only [RE,abv]
noncomputable def G64 (a0:aa) (a1:Int):Option (aa):=RE fuel a0 a1
noncomputable def TF:qd C:=XE KK [.el .dv,.int .i64] [] [.el .dv] G64
theorem c64:oM Try.prog KK 64 TF:=eO (gO ⟨c109,trivial⟩ trivial trivial:Cons Try.prog T4) (fn:=Try.f64) (by kernel_rfl) (by kernel_rfl) (by kernel_rfl) (by kernel_rfl) (X5 fuel) (by kernel_rfl) fun kp kh hd=>fun a0 a1=>t64 kp kh hd fuel a0 a1
noncomputable def I64 (n:Nat):mP C:=sG KK 64 TF
theorem i64 (n:Nat):dx Try.prog KK 64 (I64 n):=Av c64
end Go.Proofs.Ytipemmgoipbojaa.Ab
set_option maxRecDepth 100000
namespace Go.Proofs.Ytipemmgoipbojaa.Ab
open Go Go.RowKit
noncomputable def X65:Cx C:=fT [] [] [] [] 4259840 [33,53,58]
def F65 (n:Nat):Cf:={ N:=n,keep:=[0,1,2,3,4,6,7,8,24,46],live:=lk [(0,[2,3,4,6,7])] }
noncomputable abbrev Tt:=yR KK [] [.el .dv]
abbrev D3:Type:=Int
section
variable (x0 x2:Int) (x3:List (C .aA)) (x4:List (C .aC)) (x5:List (C .ay)) (x6:ByteArray) (x7:Int) (x8:Bool) (x9 aM aS aQ aZ aV aY aW bq bC bz:Int) (bD:List (C .aA)) (aR:List (C .aC)) (bF:List (C .ay))
def aan:D3→St C:=fun x1=>{ env:=[(2,.one (.int .i64 x0)),(3,.one (.ptr 4260032 0)),(4,.one (.ptr 4260096 0)),(6,.one (.ptr 4260224 0)),(7,.one (.int .i64 x1)),(90000,.frame),(90002,.jf 427003201 1),(90003,.jf 427003202 2),(90004,.jf 427003203 3)],ah:=[(4260032,.box .mem [.int .i64 x2,.ref 427003201 [],.ref 427003202 [],.ref 427003203 []]),(427003201,.row .aA x3 false),(427003202,.row .aC x4 false),(427003203,.row .ay x5 false),(4260096,.box .mem [.str x6,.int .i64 x7,.bool x8,.int .i64 x9,.int .i64 aM,.int .i64 aS,.int .i64 aQ,.int .i64 aZ,.int .i64 aV,.int .i64 aY,.int .i64 aW,.int .i64 bq,.int .i64 bC]),(4260224,.box .mem [.int .i64 bz,.ref 427022401 [],.ref 427022402 [],.ref 427022403 []]),(427022401,.row .aA bD false),(427022402,.row .aC aR false),(427022403,.row .ay bF false)],base:=0 }
end
noncomputable def BM (x0 x2:Int) (x3:List (C .aA)) (x4:List (C .aC)) (x5:List (C .ay)) (x6:ByteArray) (x8:Bool) (x9 aM aS aQ aV aY aW bq:Int) (n:Nat)   (bu:D3→Option (aa)):D3→Option (aa):=fun x1=>
 cond (decide (x1<(x3.length:Int)))
 (cond (decide (0≤x1)) (cond (decide (x1<(x3.length:Int))) (Option.bind x3[x1.toNat]? fun e1=>cond (slt e1.Name x6)
 (bu (IntKind.i64.wrap (x1+1)))
 (cond (decide ((0:Int)≤x1)) (cond (decide ((x1:Int)≤(x3.length:Int))) (cond (decide ((x3.length:Int)≤(x3.length:Int))) (cond (decide (((((x3.take ((x3.length:Int).toNat)).drop ((x1:Int).toNat)).length:Int))>0))
 (cond (decide (0≤0)) (cond (decide (0<((((x3.length:Int).toNat)-((x1:Int).toNat):Nat):Int))) (Option.bind x3[((x1:Int).toNat)+(0:Int).toNat]? fun e2=>cond (decide (e2.Name=x6))
 (cond (decide (0≤0)) (cond (decide (0<((((x3.length:Int).toNat)-((x1:Int).toNat):Nat):Int))) (Option.bind x3[((x1:Int).toNat)+(0:Int).toNat]? fun e3=>cond (decide ((0:Int)≤1)) (cond (decide ((1:Int)≤((((x3.length:Int).toNat)-((x1:Int).toNat):Nat):Int))) (cond (decide (((((x3.length:Int).toNat)-((x1:Int).toNat):Nat):Int)≤((((x3.length:Int).toNat)-((x1:Int).toNat):Nat):Int))) (cond (decide ((0:Int)≤0)) (cond (decide ((0:Int)≤x1)) (cond (decide (x1≤(x3.length:Int))) (cond (decide (((([]:List (C .aA))).length+((x3.take x1.toNat).drop ((0:Int).toNat)).length)*112≤140737488355328)) (cond (decide ((((([]:List (C .aA)))++((x3.take x1.toNat).drop ((0:Int).toNat))).length+(([(⟨x6,x0,x8,x9,aM,aS,aQ,e3.Next,aV,aY,aW,bq,0⟩:af)]:List (C .aA))).length)*112≤140737488355328)) (cond (decide (((((([]:List (C .aA)))++((x3.take x1.toNat).drop ((0:Int).toNat)))++(([(⟨x6,x0,x8,x9,aM,aS,aQ,e3.Next,aV,aY,aW,bq,0⟩:af)]:List (C .aA)))).length+((x3.take (((x1:Int).toNat)+(((((x3.length:Int).toNat)-((x1:Int).toNat):Nat):Int)).toNat)).drop (((x1:Int).toNat)+(1:Int).toNat)).length)*112≤140737488355328)) (some ((⟨x2,(((([]:List (C .aA)))++((x3.take x1.toNat).drop ((0:Int).toNat)))++(([(⟨x6,x0,x8,x9,aM,aS,aQ,e3.Next,aV,aY,aW,bq,0⟩:af)]:List (C .aA))))++((x3.take (((x1:Int).toNat)+(((((x3.length:Int).toNat)-((x1:Int).toNat):Nat):Int)).toNat)).drop (((x1:Int).toNat)+(1:Int).toNat)),x4,x5⟩:aa))) none) none) none) none) none) none) none) none) none) none) none)
 (cond (decide ((0:Int)≤0)) (cond (decide ((0:Int)≤x1)) (cond (decide (x1≤(x3.length:Int))) (cond (decide (((([]:List (C .aA))).length+((x3.take x1.toNat).drop ((0:Int).toNat)).length)*112≤140737488355328)) (cond (decide ((((([]:List (C .aA)))++((x3.take x1.toNat).drop ((0:Int).toNat))).length+(([(⟨x6,x0,x8,x9,aM,aS,aQ,1,aV,aY,aW,bq,0⟩:af)]:List (C .aA))).length)*112≤140737488355328)) (cond (decide (((((([]:List (C .aA)))++((x3.take x1.toNat).drop ((0:Int).toNat)))++(([(⟨x6,x0,x8,x9,aM,aS,aQ,1,aV,aY,aW,bq,0⟩:af)]:List (C .aA)))).length+((x3.take ((x3.length:Int).toNat)).drop ((x1:Int).toNat)).length)*112≤140737488355328)) (some ((⟨x2,(((([]:List (C .aA)))++((x3.take x1.toNat).drop ((0:Int).toNat)))++(([(⟨x6,x0,x8,x9,aM,aS,aQ,1,aV,aY,aW,bq,0⟩:af)]:List (C .aA))))++((x3.take ((x3.length:Int).toNat)).drop ((x1:Int).toNat)),x4,x5⟩:aa))) none) none) none) none) none) none)) none) none)
 (cond (decide ((0:Int)≤0)) (cond (decide ((0:Int)≤x1)) (cond (decide (x1≤(x3.length:Int))) (cond (decide (((([]:List (C .aA))).length+((x3.take x1.toNat).drop ((0:Int).toNat)).length)*112≤140737488355328)) (cond (decide ((((([]:List (C .aA)))++((x3.take x1.toNat).drop ((0:Int).toNat))).length+(([(⟨x6,x0,x8,x9,aM,aS,aQ,1,aV,aY,aW,bq,0⟩:af)]:List (C .aA))).length)*112≤140737488355328)) (cond (decide (((((([]:List (C .aA)))++((x3.take x1.toNat).drop ((0:Int).toNat)))++(([(⟨x6,x0,x8,x9,aM,aS,aQ,1,aV,aY,aW,bq,0⟩:af)]:List (C .aA)))).length+((x3.take ((x3.length:Int).toNat)).drop ((x1:Int).toNat)).length)*112≤140737488355328)) (some ((⟨x2,(((([]:List (C .aA)))++((x3.take x1.toNat).drop ((0:Int).toNat)))++(([(⟨x6,x0,x8,x9,aM,aS,aQ,1,aV,aY,aW,bq,0⟩:af)]:List (C .aA))))++((x3.take ((x3.length:Int).toNat)).drop ((x1:Int).toNat)),x4,x5⟩:aa))) none) none) none) none) none) none)) none) none) none)) none) none)
 (cond (decide ((0:Int)≤x1)) (cond (decide ((x1:Int)≤(x3.length:Int))) (cond (decide ((x3.length:Int)≤(x3.length:Int))) (cond (decide (((((x3.take ((x3.length:Int).toNat)).drop ((x1:Int).toNat)).length:Int))>0))
 (cond (decide (0≤0)) (cond (decide (0<((((x3.length:Int).toNat)-((x1:Int).toNat):Nat):Int))) (Option.bind x3[((x1:Int).toNat)+(0:Int).toNat]? fun e4=>cond (decide (e4.Name=x6))
 (cond (decide (0≤0)) (cond (decide (0<((((x3.length:Int).toNat)-((x1:Int).toNat):Nat):Int))) (Option.bind x3[((x1:Int).toNat)+(0:Int).toNat]? fun e5=>cond (decide ((0:Int)≤1)) (cond (decide ((1:Int)≤((((x3.length:Int).toNat)-((x1:Int).toNat):Nat):Int))) (cond (decide (((((x3.length:Int).toNat)-((x1:Int).toNat):Nat):Int)≤((((x3.length:Int).toNat)-((x1:Int).toNat):Nat):Int))) (cond (decide ((0:Int)≤0)) (cond (decide ((0:Int)≤x1)) (cond (decide (x1≤(x3.length:Int))) (cond (decide (((([]:List (C .aA))).length+((x3.take x1.toNat).drop ((0:Int).toNat)).length)*112≤140737488355328)) (cond (decide ((((([]:List (C .aA)))++((x3.take x1.toNat).drop ((0:Int).toNat))).length+(([(⟨x6,x0,x8,x9,aM,aS,aQ,e5.Next,aV,aY,aW,bq,0⟩:af)]:List (C .aA))).length)*112≤140737488355328)) (cond (decide (((((([]:List (C .aA)))++((x3.take x1.toNat).drop ((0:Int).toNat)))++(([(⟨x6,x0,x8,x9,aM,aS,aQ,e5.Next,aV,aY,aW,bq,0⟩:af)]:List (C .aA)))).length+((x3.take (((x1:Int).toNat)+(((((x3.length:Int).toNat)-((x1:Int).toNat):Nat):Int)).toNat)).drop (((x1:Int).toNat)+(1:Int).toNat)).length)*112≤140737488355328)) (some ((⟨x2,(((([]:List (C .aA)))++((x3.take x1.toNat).drop ((0:Int).toNat)))++(([(⟨x6,x0,x8,x9,aM,aS,aQ,e5.Next,aV,aY,aW,bq,0⟩:af)]:List (C .aA))))++((x3.take (((x1:Int).toNat)+(((((x3.length:Int).toNat)-((x1:Int).toNat):Nat):Int)).toNat)).drop (((x1:Int).toNat)+(1:Int).toNat)),x4,x5⟩:aa))) none) none) none) none) none) none) none) none) none) none) none)
 (cond (decide ((0:Int)≤0)) (cond (decide ((0:Int)≤x1)) (cond (decide (x1≤(x3.length:Int))) (cond (decide (((([]:List (C .aA))).length+((x3.take x1.toNat).drop ((0:Int).toNat)).length)*112≤140737488355328)) (cond (decide ((((([]:List (C .aA)))++((x3.take x1.toNat).drop ((0:Int).toNat))).length+(([(⟨x6,x0,x8,x9,aM,aS,aQ,1,aV,aY,aW,bq,0⟩:af)]:List (C .aA))).length)*112≤140737488355328)) (cond (decide (((((([]:List (C .aA)))++((x3.take x1.toNat).drop ((0:Int).toNat)))++(([(⟨x6,x0,x8,x9,aM,aS,aQ,1,aV,aY,aW,bq,0⟩:af)]:List (C .aA)))).length+((x3.take ((x3.length:Int).toNat)).drop ((x1:Int).toNat)).length)*112≤140737488355328)) (some ((⟨x2,(((([]:List (C .aA)))++((x3.take x1.toNat).drop ((0:Int).toNat)))++(([(⟨x6,x0,x8,x9,aM,aS,aQ,1,aV,aY,aW,bq,0⟩:af)]:List (C .aA))))++((x3.take ((x3.length:Int).toNat)).drop ((x1:Int).toNat)),x4,x5⟩:aa))) none) none) none) none) none) none)) none) none)
 (cond (decide ((0:Int)≤0)) (cond (decide ((0:Int)≤x1)) (cond (decide (x1≤(x3.length:Int))) (cond (decide (((([]:List (C .aA))).length+((x3.take x1.toNat).drop ((0:Int).toNat)).length)*112≤140737488355328)) (cond (decide ((((([]:List (C .aA)))++((x3.take x1.toNat).drop ((0:Int).toNat))).length+(([(⟨x6,x0,x8,x9,aM,aS,aQ,1,aV,aY,aW,bq,0⟩:af)]:List (C .aA))).length)*112≤140737488355328)) (cond (decide (((((([]:List (C .aA)))++((x3.take x1.toNat).drop ((0:Int).toNat)))++(([(⟨x6,x0,x8,x9,aM,aS,aQ,1,aV,aY,aW,bq,0⟩:af)]:List (C .aA)))).length+((x3.take ((x3.length:Int).toNat)).drop ((x1:Int).toNat)).length)*112≤140737488355328)) (some ((⟨x2,(((([]:List (C .aA)))++((x3.take x1.toNat).drop ((0:Int).toNat)))++(([(⟨x6,x0,x8,x9,aM,aS,aQ,1,aV,aY,aW,bq,0⟩:af)]:List (C .aA))))++((x3.take ((x3.length:Int).toNat)).drop ((x1:Int).toNat)),x4,x5⟩:aa))) none) none) none) none) none) none)) none) none) none)
section
variable (x0 x2:Int) (x3:List (C .aA)) (x4:List (C .aC)) (x5:List (C .ay)) (x6:ByteArray) (x7:Int) (x8:Bool) (x9 aM aS aQ aZ aV aY aW bq bC bz:Int) (bD:List (C .aA)) (aR:List (C .aC)) (bF:List (C .ay))
noncomputable def Ol (kp:Nat→Prop) (kh:Nat→Option Obj) (hd:Nat→Value) (n:Nat)  (x:D3):Option (aa):=iter (fun rec S=>run (X65.gh kp kh hd) (F65 n) (au (ak Try.f65) [1,1,0,0,0]) 0 S (dq rec (cJ 0 (bf (run (X65.gh kp kh hd) (F65 n) (au (ak Try.f65) [1,1,1]) 0) (vD (X65.gh kp kh hd) Try.f65 [] Tt))))) [2,3,4,6,7] n (aan x0 x2 x3 x4 x5 x6 x7 x8 x9 aM aS aQ aZ aV aY aW bq bC bz bD aR bF x)
theorem abt (kp:Nat→Prop) (kh:Nat→Option Obj) (hd:Nat→Value) (n:Nat)  (x:D3):Ol x0 x2 x3 x4 x5 x6 x7 x8 x9 aM aS aQ aZ aV aY aW bq bC bz bD aR bF kp kh hd n  x=cu (BM x0 x2 x3 x4 x5 x6 x8 x9 aM aS aQ aV aY aW bq n  ) n x:=by
 refine iter_eq _ _ (fun bu x1=>?_) n x
 kernel_rfl
end
noncomputable def RD (n:Nat) (a0:aa) (a1:af) (a2:Int):Option (aa):=
 cu (BM a2 a0.b8 a0.ae a0.ai a0.aj a1.Name a1.cC a1.aB a1.Want a1.Down a1.ct a1.dA a1.aP a1.bN a1.cK n ) n 0
theorem t65 (kp:Nat→Prop) (kh:Nat→Option Obj) (hd:Nat→Value) (n:Nat) (a0:aa) (a1:af) (a2:Int):nR (X65.gh kp kh hd) (F65 n) Try.f65 [(true,[.int .i64 a0.b8,.row .aA a0.ae,.row .aC a0.ai,.row .ay a0.aj]),(true,[.str a1.Name,.int .i64 a1.Version,.bool a1.cC,.int .i64 a1.aB,.int .i64 a1.Want,.int .i64 a1.Down,.int .i64 a1.ct,.int .i64 a1.Next,.int .i64 a1.dA,.int .i64 a1.aP,.int .i64 a1.bN,.int .i64 a1.cK,.int .i64 a1.cE]),(false,[.int .i64 a2])] Tt=RD n a0 a1 a2:=by
 refine Eq.trans (b:=
  Ol a2 a0.b8 a0.ae a0.ai a0.aj a1.Name a1.Version a1.cC a1.aB a1.Want a1.Down a1.ct a1.Next a1.dA a1.aP a1.bN a1.cK a1.cE 0 (([]:List (C .aA))) (([]:List (C .aC))) (([]:List (C .ay))) kp kh hd n   0) (by kernel_rfl) ?_
 simp only [RD,abt]
noncomputable def G65 (a0:aa) (a1:af) (a2:Int):Option (aa):=RD fuel a0 a1 a2
noncomputable def TE:qd C:=XE KK [.el .dv,.el .aA,.int .i64] [] [.el .dv] G65
theorem c65:oM Try.prog KK 65 TE:=eO (gO trivial trivial trivial:Cons Try.prog X65) (fn:=Try.f65) (by kernel_rfl) (by kernel_rfl) (by kernel_rfl) (by kernel_rfl) (F65 fuel) (by kernel_rfl) fun kp kh hd=>fun a0 a1 a2=>t65 kp kh hd fuel a0 a1 a2
noncomputable def I65 (n:Nat):mP C:=sG KK 65 TE
theorem i65 (n:Nat):dx Try.prog KK 65 (I65 n):=Av c65
end Go.Proofs.Ytipemmgoipbojaa.Ab
set_option maxRecDepth 100000
namespace Go.Proofs.Ytipemmgoipbojaa.Ab
open Go Go.RowKit
noncomputable def X68:Cx C:=fT [] [] [] [] 4456448 [29,42,47]
def F68 (n:Nat):Cf:={ N:=n,keep:=[0,1,2,3,6,7,8,23,40],live:=lk [(0,[1,2,3,6,7])] }
noncomputable abbrev Tp:=yR KK [] [.el .dv]
abbrev DX:Type:=Int
section
variable (x0:ByteArray) (x1:Bool) (x3:Int) (x4:List (C .aA)) (x5:List (C .aC)) (x6:List (C .ay)) (x7:Int) (x8:List (C .aA)) (x9:List (C .aC)) (aM:List (C .ay))
def aak:DX→St C:=fun x2=>{ env:=[(1,.one (.str x0)),(2,.one (.bool x1)),(3,.one (.ptr 4456640 0)),(6,.one (.ptr 4456832 0)),(7,.one (.int .i64 x2)),(90000,.frame),(90002,.jf 446664001 1),(90003,.jf 446664002 2),(90004,.jf 446664003 3)],ah:=[(4456640,.box .mem [.int .i64 x3,.ref 446664001 [],.ref 446664002 [],.ref 446664003 []]),(446664001,.row .aA x4 false),(446664002,.row .aC x5 false),(446664003,.row .ay x6 false),(4456832,.box .mem [.int .i64 x7,.ref 446683201 [],.ref 446683202 [],.ref 446683203 []]),(446683201,.row .aA x8 false),(446683202,.row .aC x9 false),(446683203,.row .ay aM false)],base:=0 }
end
noncomputable def BL (x0:ByteArray) (x1:Bool) (x3:Int) (x4:List (C .aA)) (x5:List (C .aC)) (x6:List (C .ay)) (n:Nat)   (bu:DX→Option (aa)):DX→Option (aa):=fun x2=>
 cond (decide (x2<(x6.length:Int)))
 (cond (decide (0≤x2)) (cond (decide (x2<(x6.length:Int))) (Option.bind x6[x2.toNat]? fun e1=>cond (slt e1.Name x0)
 (bu (IntKind.i64.wrap (x2+1)))
 (cond (decide ((0:Int)≤x2)) (cond (decide ((x2:Int)≤(x6.length:Int))) (cond (decide ((x6.length:Int)≤(x6.length:Int))) (cond (decide (((((x6.take ((x6.length:Int).toNat)).drop ((x2:Int).toNat)).length:Int))>0))
 (cond (decide (0≤0)) (cond (decide (0<((((x6.length:Int).toNat)-((x2:Int).toNat):Nat):Int))) (Option.bind x6[((x2:Int).toNat)+(0:Int).toNat]? fun e2=>cond (decide (e2.Name=x0))
 (cond (decide ((0:Int)≤1)) (cond (decide ((1:Int)≤((((x6.length:Int).toNat)-((x2:Int).toNat):Nat):Int))) (cond (decide (((((x6.length:Int).toNat)-((x2:Int).toNat):Nat):Int)≤((((x6.length:Int).toNat)-((x2:Int).toNat):Nat):Int))) (cond (decide ((0:Int)≤0)) (cond (decide ((0:Int)≤x2)) (cond (decide (x2≤(x6.length:Int))) (cond (decide (((([]:List (C .ay))).length+((x6.take x2.toNat).drop ((0:Int).toNat)).length)*24≤140737488355328)) (cond (decide ((((([]:List (C .ay)))++((x6.take x2.toNat).drop ((0:Int).toNat))).length+(([(⟨x0,x1⟩:av)]:List (C .ay))).length)*24≤140737488355328)) (cond (decide (((((([]:List (C .ay)))++((x6.take x2.toNat).drop ((0:Int).toNat)))++(([(⟨x0,x1⟩:av)]:List (C .ay)))).length+((x6.take (((x2:Int).toNat)+(((((x6.length:Int).toNat)-((x2:Int).toNat):Nat):Int)).toNat)).drop (((x2:Int).toNat)+(1:Int).toNat)).length)*24≤140737488355328)) (some ((⟨x3,x4,x5,(((([]:List (C .ay)))++((x6.take x2.toNat).drop ((0:Int).toNat)))++(([(⟨x0,x1⟩:av)]:List (C .ay))))++((x6.take (((x2:Int).toNat)+(((((x6.length:Int).toNat)-((x2:Int).toNat):Nat):Int)).toNat)).drop (((x2:Int).toNat)+(1:Int).toNat))⟩:aa))) none) none) none) none) none) none) none) none) none)
 (cond (decide ((0:Int)≤0)) (cond (decide ((0:Int)≤x2)) (cond (decide (x2≤(x6.length:Int))) (cond (decide (((([]:List (C .ay))).length+((x6.take x2.toNat).drop ((0:Int).toNat)).length)*24≤140737488355328)) (cond (decide ((((([]:List (C .ay)))++((x6.take x2.toNat).drop ((0:Int).toNat))).length+(([(⟨x0,x1⟩:av)]:List (C .ay))).length)*24≤140737488355328)) (cond (decide (((((([]:List (C .ay)))++((x6.take x2.toNat).drop ((0:Int).toNat)))++(([(⟨x0,x1⟩:av)]:List (C .ay)))).length+((x6.take ((x6.length:Int).toNat)).drop ((x2:Int).toNat)).length)*24≤140737488355328)) (some ((⟨x3,x4,x5,(((([]:List (C .ay)))++((x6.take x2.toNat).drop ((0:Int).toNat)))++(([(⟨x0,x1⟩:av)]:List (C .ay))))++((x6.take ((x6.length:Int).toNat)).drop ((x2:Int).toNat))⟩:aa))) none) none) none) none) none) none)) none) none)
 (cond (decide ((0:Int)≤0)) (cond (decide ((0:Int)≤x2)) (cond (decide (x2≤(x6.length:Int))) (cond (decide (((([]:List (C .ay))).length+((x6.take x2.toNat).drop ((0:Int).toNat)).length)*24≤140737488355328)) (cond (decide ((((([]:List (C .ay)))++((x6.take x2.toNat).drop ((0:Int).toNat))).length+(([(⟨x0,x1⟩:av)]:List (C .ay))).length)*24≤140737488355328)) (cond (decide (((((([]:List (C .ay)))++((x6.take x2.toNat).drop ((0:Int).toNat)))++(([(⟨x0,x1⟩:av)]:List (C .ay)))).length+((x6.take ((x6.length:Int).toNat)).drop ((x2:Int).toNat)).length)*24≤140737488355328)) (some ((⟨x3,x4,x5,(((([]:List (C .ay)))++((x6.take x2.toNat).drop ((0:Int).toNat)))++(([(⟨x0,x1⟩:av)]:List (C .ay))))++((x6.take ((x6.length:Int).toNat)).drop ((x2:Int).toNat))⟩:aa))) none) none) none) none) none) none)) none) none) none)) none) none)
 (cond (decide ((0:Int)≤x2)) (cond (decide ((x2:Int)≤(x6.length:Int))) (cond (decide ((x6.length:Int)≤(x6.length:Int))) (cond (decide (((((x6.take ((x6.length:Int).toNat)).drop ((x2:Int).toNat)).length:Int))>0))
 (cond (decide (0≤0)) (cond (decide (0<((((x6.length:Int).toNat)-((x2:Int).toNat):Nat):Int))) (Option.bind x6[((x2:Int).toNat)+(0:Int).toNat]? fun e3=>cond (decide (e3.Name=x0))
 (cond (decide ((0:Int)≤1)) (cond (decide ((1:Int)≤((((x6.length:Int).toNat)-((x2:Int).toNat):Nat):Int))) (cond (decide (((((x6.length:Int).toNat)-((x2:Int).toNat):Nat):Int)≤((((x6.length:Int).toNat)-((x2:Int).toNat):Nat):Int))) (cond (decide ((0:Int)≤0)) (cond (decide ((0:Int)≤x2)) (cond (decide (x2≤(x6.length:Int))) (cond (decide (((([]:List (C .ay))).length+((x6.take x2.toNat).drop ((0:Int).toNat)).length)*24≤140737488355328)) (cond (decide ((((([]:List (C .ay)))++((x6.take x2.toNat).drop ((0:Int).toNat))).length+(([(⟨x0,x1⟩:av)]:List (C .ay))).length)*24≤140737488355328)) (cond (decide (((((([]:List (C .ay)))++((x6.take x2.toNat).drop ((0:Int).toNat)))++(([(⟨x0,x1⟩:av)]:List (C .ay)))).length+((x6.take (((x2:Int).toNat)+(((((x6.length:Int).toNat)-((x2:Int).toNat):Nat):Int)).toNat)).drop (((x2:Int).toNat)+(1:Int).toNat)).length)*24≤140737488355328)) (some ((⟨x3,x4,x5,(((([]:List (C .ay)))++((x6.take x2.toNat).drop ((0:Int).toNat)))++(([(⟨x0,x1⟩:av)]:List (C .ay))))++((x6.take (((x2:Int).toNat)+(((((x6.length:Int).toNat)-((x2:Int).toNat):Nat):Int)).toNat)).drop (((x2:Int).toNat)+(1:Int).toNat))⟩:aa))) none) none) none) none) none) none) none) none) none)
 (cond (decide ((0:Int)≤0)) (cond (decide ((0:Int)≤x2)) (cond (decide (x2≤(x6.length:Int))) (cond (decide (((([]:List (C .ay))).length+((x6.take x2.toNat).drop ((0:Int).toNat)).length)*24≤140737488355328)) (cond (decide ((((([]:List (C .ay)))++((x6.take x2.toNat).drop ((0:Int).toNat))).length+(([(⟨x0,x1⟩:av)]:List (C .ay))).length)*24≤140737488355328)) (cond (decide (((((([]:List (C .ay)))++((x6.take x2.toNat).drop ((0:Int).toNat)))++(([(⟨x0,x1⟩:av)]:List (C .ay)))).length+((x6.take ((x6.length:Int).toNat)).drop ((x2:Int).toNat)).length)*24≤140737488355328)) (some ((⟨x3,x4,x5,(((([]:List (C .ay)))++((x6.take x2.toNat).drop ((0:Int).toNat)))++(([(⟨x0,x1⟩:av)]:List (C .ay))))++((x6.take ((x6.length:Int).toNat)).drop ((x2:Int).toNat))⟩:aa))) none) none) none) none) none) none)) none) none)
 (cond (decide ((0:Int)≤0)) (cond (decide ((0:Int)≤x2)) (cond (decide (x2≤(x6.length:Int))) (cond (decide (((([]:List (C .ay))).length+((x6.take x2.toNat).drop ((0:Int).toNat)).length)*24≤140737488355328)) (cond (decide ((((([]:List (C .ay)))++((x6.take x2.toNat).drop ((0:Int).toNat))).length+(([(⟨x0,x1⟩:av)]:List (C .ay))).length)*24≤140737488355328)) (cond (decide (((((([]:List (C .ay)))++((x6.take x2.toNat).drop ((0:Int).toNat)))++(([(⟨x0,x1⟩:av)]:List (C .ay)))).length+((x6.take ((x6.length:Int).toNat)).drop ((x2:Int).toNat)).length)*24≤140737488355328)) (some ((⟨x3,x4,x5,(((([]:List (C .ay)))++((x6.take x2.toNat).drop ((0:Int).toNat)))++(([(⟨x0,x1⟩:av)]:List (C .ay))))++((x6.take ((x6.length:Int).toNat)).drop ((x2:Int).toNat))⟩:aa))) none) none) none) none) none) none)) none) none) none)
section
variable (x0:ByteArray) (x1:Bool) (x3:Int) (x4:List (C .aA)) (x5:List (C .aC)) (x6:List (C .ay)) (x7:Int) (x8:List (C .aA)) (x9:List (C .aC)) (aM:List (C .ay))
noncomputable def Oh (kp:Nat→Prop) (kh:Nat→Option Obj) (hd:Nat→Value) (n:Nat)  (x:DX):Option (aa):=iter (fun rec S=>run (X68.gh kp kh hd) (F68 n) (au (ak Try.f68) [1,1,0,0,0]) 0 S (dq rec (cJ 0 (bf (run (X68.gh kp kh hd) (F68 n) (au (ak Try.f68) [1,1,1]) 0) (vD (X68.gh kp kh hd) Try.f68 [] Tp))))) [1,2,3,6,7] n (aak x0 x1 x3 x4 x5 x6 x7 x8 x9 aM x)
theorem abp (kp:Nat→Prop) (kh:Nat→Option Obj) (hd:Nat→Value) (n:Nat)  (x:DX):Oh x0 x1 x3 x4 x5 x6 x7 x8 x9 aM kp kh hd n  x=cu (BL x0 x1 x3 x4 x5 x6 n  ) n x:=by
 refine iter_eq _ _ (fun bu x2=>?_) n x
 kernel_rfl
end
noncomputable def RA (n:Nat) (a0:aa) (a1:ByteArray) (a2:Bool):Option (aa):=
 cu (BL a1 a2 a0.b8 a0.ae a0.ai a0.aj n ) n 0
theorem t68 (kp:Nat→Prop) (kh:Nat→Option Obj) (hd:Nat→Value) (n:Nat) (a0:aa) (a1:ByteArray) (a2:Bool):nR (X68.gh kp kh hd) (F68 n) Try.f68 [(true,[.int .i64 a0.b8,.row .aA a0.ae,.row .aC a0.ai,.row .ay a0.aj]),(false,[.str a1]),(false,[.bool a2])] Tp=RA n a0 a1 a2:=by
 refine Eq.trans (b:=
  Oh a1 a2 a0.b8 a0.ae a0.ai a0.aj 0 (([]:List (C .aA))) (([]:List (C .aC))) (([]:List (C .ay))) kp kh hd n   0) (by kernel_rfl) ?_
 simp only [RA,abp]
noncomputable def G68 (a0:aa) (a1:ByteArray) (a2:Bool):Option (aa):=RA fuel a0 a1 a2
noncomputable def TD:qd C:=XE KK [.el .dv,.str,.bool] [] [.el .dv] G68
theorem c68:oM Try.prog KK 68 TD:=eO (gO trivial trivial trivial:Cons Try.prog X68) (fn:=Try.f68) (by kernel_rfl) (by kernel_rfl) (by kernel_rfl) (by kernel_rfl) (F68 fuel) (by kernel_rfl) fun kp kh hd=>fun a0 a1 a2=>t68 kp kh hd fuel a0 a1 a2
noncomputable def I68 (n:Nat):mP C:=sG KK 68 TD
theorem i68 (n:Nat):dx Try.prog KK 68 (I68 n):=Av c68
end Go.Proofs.Ytipemmgoipbojaa.Ab
set_option maxRecDepth 100000
namespace Go.Proofs.Ytipemmgoipbojaa.Ab
open Go Go.RowKit
noncomputable def XX (n:Nat):Cx C:=fT [(66,HQ),(67,HP),(69,yS)] [] [(64,I64 n),(65,I65 n),(68,I68 n)] [2,4,6,22,29,126] 1835008 [83,89]
def F28 (n:Nat):Cf:={ N:=n,keep:=[0,1,2,3,4,5,6,7,8,9,10,11,16,18,23,30,57,70,77,97,108,119,127,143],live:=lk [(1,[2,3,4,6,9,10])] }
noncomputable abbrev Tw:=yR KK [] [.el .dv,.int .i64]
abbrev Ec:Type:=List (C .aC)×Int
section
variable (x0 x3:Int) (x4:List (C .aA)) (x5:List (C .aC)) (x6:List (C .ay)) (x7:Int) (x8:ByteArray) (x9:Int) (aM:Bool) (aS aQ aZ aV aY aW bq bC bz bD:Int) (aR:ByteArray) (bF:Int) (aX:Bool) (bI:Int) (bB:List (C .aA)) (bt:List (C .aC)) (bA:List (C .ay))
def aas:Ec→St C:=fun (x1,x2)=>{ env:=[(2,.one (.ptr 1835136 0)),(3,.one (.ptr 1835200 0)),(4,.one (.ptr 1835264 0)),(6,.one (.int .i64 x0)),(9,.one (.ref 100009 [])),(10,.one (.int .i64 x2)),(90000,.frame),(90002,.jf 184513601 1),(90003,.jf 184513602 2)],ah:=[(100009,.row .aC x1 false),(1835136,.box .mem [.int .i64 x3,.ref 184513601 [],.ref 184513602 [],.ref 184513603 []]),(184513601,.row .aA x4 false),(184513602,.row .aC x5 false),(184513603,.row .ay x6 false),(1835200,.box .mem [.int .i64 x7,.str x8,.int .i64 x9,.bool aM,.int .i64 aS,.int .i64 aQ,.int .i64 aZ,.int .i64 aV,.int .i64 aY,.int .i64 aW,.int .i64 bq,.int .i64 bC,.int .i64 bz,.int .i64 bD,.str aR,.int .i64 bF,.bool aX]),(1835264,.box .mem [.int .i64 bI,.ref 184526401 [],.ref 184526402 [],.ref 184526403 []]),(184526401,.row .aA bB false),(184526402,.row .aC bt false),(184526403,.row .ay bA false)],base:=0 }
end
noncomputable def BO (x0:Int) (x4:List (C .aA)) (x5:List (C .aC)) (x6:List (C .ay)) (aR:ByteArray) (n:Nat)   (bu:Ec→Option (aa×Int)):Ec→Option (aa×Int):=fun (x1,x2)=>
 cond (decide (x2<(x5.length:Int)))
 (cond (decide (0≤x2)) (cond (decide (x2<(x5.length:Int))) (Option.bind x5[x2.toNat]? fun CX=>cond (!decide (CX.bw=aR))
 (cond (decide (0≤x2)) (cond (decide (x2<(x5.length:Int))) (Option.bind x5[x2.toNat]? fun HJ=>cond (decide ((x1.length+(([HJ]:List (C .aC))).length)*72≤140737488355328)) (bu ((x1++(([HJ]:List (C .aC))),IntKind.i64.wrap (x2+1)))) none) none) none)
 (bu ((x1,IntKind.i64.wrap (x2+1))))) none) none)
 (some ((⟨x0,x4,x1,x6⟩:aa),0))
section
variable (x0 x3:Int) (x4:List (C .aA)) (x5:List (C .aC)) (x6:List (C .ay)) (x7:Int) (x8:ByteArray) (x9:Int) (aM:Bool) (aS aQ aZ aV aY aW bq bC bz bD:Int) (aR:ByteArray) (bF:Int) (aX:Bool) (bI:Int) (bB:List (C .aA)) (bt:List (C .aC)) (bA:List (C .ay))
noncomputable def Oy (kp:Nat→Prop) (kh:Nat→Option Obj) (hd:Nat→Value) (n:Nat)  (x:Ec):Option (aa×Int):=iter (fun rec S=>run ((XX n).gh kp kh hd) (F28 n) (au (ak Try.f28) [1,1,0,1,0,1,1,1,1,1,1,1,0,1,1,1,1,0,1,0,0]) 1 S (dq rec (cJ 1 (bf (run ((XX n).gh kp kh hd) (F28 n) (au (ak Try.f28) [1,1,0,1,0,1,1,1,1,1,1,1,0,1,1,1,1,1]) 0) (cJ 0 (bf (run ((XX n).gh kp kh hd) (F28 n) (au (ak Try.f28) [1,1,1]) 0) (vD ((XX n).gh kp kh hd) Try.f28 [] Tw))))))) [2,3,4,6,9,10] n (aas x0 x3 x4 x5 x6 x7 x8 x9 aM aS aQ aZ aV aY aW bq bC bz bD aR bF aX bI bB bt bA x)
theorem abD (kp:Nat→Prop) (kh:Nat→Option Obj) (hd:Nat→Value) (n:Nat)  (x:Ec):Oy x0 x3 x4 x5 x6 x7 x8 x9 aM aS aQ aZ aV aY aW bq bC bz bD aR bF aX bI bB bt bA kp kh hd n  x=cu (BO x0 x4 x5 x6 aR n  ) n x:=by
 refine iter_eq _ _ (fun bu x=>?_) n x;obtain ⟨x1,x2⟩:=x
 kernel_rfl
end
noncomputable def RJ (n:Nat) (a0:aa) (a1:az):Option (aa×Int):=
 cond (a1.Kind==1)
 (Option.bind (G64 a0 (IntKind.i64.wrap (a0.b8+1))) fun r1=>
 some ((⟨IntKind.i64.wrap (a0.b8+1),r1.ae,r1.ai,r1.aj⟩:aa),0))
 (cond (a1.Kind==2)
 (Option.bind (G65 a0 (⟨a1.bO,a1.bg,a1.bV,a1.bL,a1.cm,a1.bW,a1.bS,a1.cz,a1.cw,a1.bK,a1.bT,a1.bU,a1.bX⟩:af) (IntKind.i64.wrap (a0.b8+1))) fun r2=>
 some ((⟨IntKind.i64.wrap (a0.b8+1),r2.ae,r2.ai,r2.aj⟩:aa),0))
 (cond (a1.Kind==3)
 (Option.bind (JR a0 a1.Name a1.Number) fun r3=>
 cond (decide (r3<0))
 (some (a0,3))
 (cond (decide (0≤r3)) (cond (decide (r3<(a0.ai.length:Int))) (Option.bind a0.ai[r3.toNat]? fun e4=>cond (e4.State != 3)
 (cond (decide (0≤r3)) (cond (decide (r3<(a0.ai.length:Int))) (Option.bind a0.ai[r3.toNat]? fun e5=>cond (e5.State != 2)
 (some (a0,3))
 (cond (decide (0≤r3)) (cond (decide (r3<(a0.ai.length:Int))) (Option.bind a0.ai[r3.toNat]? fun e6=>cond (decide (0≤r3)) (cond (decide (r3<((a0.ai.set r3.toNat (⟨e6.ax,e6.Number,e6.Version,e6.aB,4,e6.Ending,e6.bw⟩:aq)).length:Int))) (Option.bind (a0.ai.set r3.toNat (⟨e6.ax,e6.Number,e6.Version,e6.aB,4,e6.Ending,e6.bw⟩:aq))[r3.toNat]? fun e7=>some ((⟨IntKind.i64.wrap (a0.b8+1),a0.ae,(a0.ai.set r3.toNat (⟨e6.ax,e6.Number,e6.Version,e6.aB,4,e6.Ending,e6.bw⟩:aq)).set r3.toNat ((⟨e7.ax,e7.Number,IntKind.i64.wrap (a0.b8+1),e7.aB,e7.State,e7.Ending,e7.bw⟩:aq)),a0.aj⟩:aa),0)) none) none) none) none)) none) none)
 (cond (decide (0≤r3)) (cond (decide (r3<(a0.ai.length:Int))) (Option.bind a0.ai[r3.toNat]? fun e8=>cond (decide (0≤r3)) (cond (decide (r3<((a0.ai.set r3.toNat (⟨e8.ax,e8.Number,e8.Version,e8.aB,4,e8.Ending,e8.bw⟩:aq)).length:Int))) (Option.bind (a0.ai.set r3.toNat (⟨e8.ax,e8.Number,e8.Version,e8.aB,4,e8.Ending,e8.bw⟩:aq))[r3.toNat]? fun e9=>some ((⟨IntKind.i64.wrap (a0.b8+1),a0.ae,(a0.ai.set r3.toNat (⟨e8.ax,e8.Number,e8.Version,e8.aB,4,e8.Ending,e8.bw⟩:aq)).set r3.toNat ((⟨e9.ax,e9.Number,IntKind.i64.wrap (a0.b8+1),e9.aB,e9.State,e9.Ending,e9.bw⟩:aq)),a0.aj⟩:aa),0)) none) none) none) none)) none) none))
 (cond (a1.Kind==4)
 (Option.bind (Xl a0 a1.Name) fun iJ=>
 cond (decide (iJ<0))
 (some (a0,3))
 (cond (decide ((0:Int)≤0)) (cond (decide ((0:Int)≤iJ)) (cond (decide (iJ≤(a0.aj.length:Int))) (cond (decide (((([]:List (C .ay))).length+((a0.aj.take iJ.toNat).drop ((0:Int).toNat)).length)*24≤140737488355328)) (cond (decide ((0:Int)≤IntKind.i64.wrap (iJ+1))) (cond (decide ((IntKind.i64.wrap (iJ+1):Int)≤(a0.aj.length:Int))) (cond (decide ((a0.aj.length:Int)≤(a0.aj.length:Int))) (cond (decide ((((([]:List (C .ay)))++((a0.aj.take iJ.toNat).drop ((0:Int).toNat))).length+((a0.aj.take ((a0.aj.length:Int).toNat)).drop ((IntKind.i64.wrap (iJ+1):Int).toNat)).length)*24≤140737488355328)) (cu (BO (IntKind.i64.wrap (a0.b8+1)) a0.ae a0.ai (((([]:List (C .ay)))++((a0.aj.take iJ.toNat).drop ((0:Int).toNat)))++((a0.aj.take ((a0.aj.length:Int).toNat)).drop ((IntKind.i64.wrap (iJ+1):Int).toNat))) a1.Name n ) n ((([]:List (C .aC)),0))) none) none) none) none) none) none) none) none))
 (cond (a1.Kind==5)
 (Option.bind (G68 a0 a1.Name a1.jx) fun eX=>
 some ((⟨IntKind.i64.wrap (a0.b8+1),eX.ae,eX.ai,eX.aj⟩:aa),0))
 (cond (a1.Kind==6)
 (Option.bind (OO a0 a1.Name) fun eU=>
 cond (decide (eU<0))
 (some (a0,3))
 (cond (decide (0≤eU)) (cond (decide (eU<(a0.ae.length:Int))) (Option.bind a0.ae[eU.toNat]? fun mg=>cond (mg.dA==0)
 (some (a0,3))
 (cond (decide (0≤eU)) (cond (decide (eU<(a0.ae.length:Int))) (Option.bind a0.ae[eU.toNat]? fun dV=>cond (decide (0≤eU)) (cond (decide (eU<((a0.ae.set eU.toNat (⟨dV.Name,dV.Version,dV.cC,dV.aB,dV.Want,dV.Down,dV.ct,dV.Next,dV.dA,dV.aP,dV.bN,a1.Number,dV.cE⟩:af)).length:Int))) (Option.bind (a0.ae.set eU.toNat (⟨dV.Name,dV.Version,dV.cC,dV.aB,dV.Want,dV.Down,dV.ct,dV.Next,dV.dA,dV.aP,dV.bN,a1.Number,dV.cE⟩:af))[eU.toNat]? fun aK=>some ((⟨IntKind.i64.wrap (a0.b8+1),(a0.ae.set eU.toNat (⟨dV.Name,dV.Version,dV.cC,dV.aB,dV.Want,dV.Down,dV.ct,dV.Next,dV.dA,dV.aP,dV.bN,a1.Number,dV.cE⟩:af)).set eU.toNat ((⟨aK.Name,IntKind.i64.wrap (a0.b8+1),aK.cC,aK.aB,aK.Want,aK.Down,aK.ct,aK.Next,aK.dA,aK.aP,aK.bN,aK.cK,aK.cE⟩:af)),a0.ai,a0.aj⟩:aa),0)) none) none) none) none)) none) none))
 (some (a0,4)))))))
theorem t28 (kp:Nat→Prop) (kh:Nat→Option Obj) (hd:Nat→Value) (n:Nat) (a0:aa) (a1:az):nR ((XX n).gh kp kh hd) (F28 n) Try.f28 [(true,[.int .i64 a0.b8,.row .aA a0.ae,.row .aC a0.ai,.row .ay a0.aj]),(true,[.int .i64 a1.Kind,.str a1.bO,.int .i64 a1.bg,.bool a1.bV,.int .i64 a1.bL,.int .i64 a1.cm,.int .i64 a1.bW,.int .i64 a1.bS,.int .i64 a1.cz,.int .i64 a1.cw,.int .i64 a1.bK,.int .i64 a1.bT,.int .i64 a1.bU,.int .i64 a1.bX,.str a1.Name,.int .i64 a1.Number,.bool a1.jx])] Tw=RJ n a0 a1:=by
 refine Eq.trans (b:=
  cond (a1.Kind==1)
  (Option.bind (G64 a0 (IntKind.i64.wrap (a0.b8+1))) fun r1=>
  some ((⟨IntKind.i64.wrap (a0.b8+1),r1.ae,r1.ai,r1.aj⟩:aa),0))
  (cond (a1.Kind==2)
  (Option.bind (G65 a0 (⟨a1.bO,a1.bg,a1.bV,a1.bL,a1.cm,a1.bW,a1.bS,a1.cz,a1.cw,a1.bK,a1.bT,a1.bU,a1.bX⟩:af) (IntKind.i64.wrap (a0.b8+1))) fun r2=>
  some ((⟨IntKind.i64.wrap (a0.b8+1),r2.ae,r2.ai,r2.aj⟩:aa),0))
  (cond (a1.Kind==3)
  (Option.bind (JR a0 a1.Name a1.Number) fun r3=>
  cond (decide (r3<0))
  (some (a0,3))
  (cond (decide (0≤r3)) (cond (decide (r3<(a0.ai.length:Int))) (Option.bind a0.ai[r3.toNat]? fun e4=>cond (e4.State != 3)
  (cond (decide (0≤r3)) (cond (decide (r3<(a0.ai.length:Int))) (Option.bind a0.ai[r3.toNat]? fun e5=>cond (e5.State != 2)
  (some (a0,3))
  (cond (decide (0≤r3)) (cond (decide (r3<(a0.ai.length:Int))) (Option.bind a0.ai[r3.toNat]? fun e6=>cond (decide (0≤r3)) (cond (decide (r3<((a0.ai.set r3.toNat (⟨e6.ax,e6.Number,e6.Version,e6.aB,4,e6.Ending,e6.bw⟩:aq)).length:Int))) (Option.bind (a0.ai.set r3.toNat (⟨e6.ax,e6.Number,e6.Version,e6.aB,4,e6.Ending,e6.bw⟩:aq))[r3.toNat]? fun e7=>some ((⟨IntKind.i64.wrap (a0.b8+1),a0.ae,(a0.ai.set r3.toNat (⟨e6.ax,e6.Number,e6.Version,e6.aB,4,e6.Ending,e6.bw⟩:aq)).set r3.toNat ((⟨e7.ax,e7.Number,IntKind.i64.wrap (a0.b8+1),e7.aB,e7.State,e7.Ending,e7.bw⟩:aq)),a0.aj⟩:aa),0)) none) none) none) none)) none) none)
  (cond (decide (0≤r3)) (cond (decide (r3<(a0.ai.length:Int))) (Option.bind a0.ai[r3.toNat]? fun e8=>cond (decide (0≤r3)) (cond (decide (r3<((a0.ai.set r3.toNat (⟨e8.ax,e8.Number,e8.Version,e8.aB,4,e8.Ending,e8.bw⟩:aq)).length:Int))) (Option.bind (a0.ai.set r3.toNat (⟨e8.ax,e8.Number,e8.Version,e8.aB,4,e8.Ending,e8.bw⟩:aq))[r3.toNat]? fun e9=>some ((⟨IntKind.i64.wrap (a0.b8+1),a0.ae,(a0.ai.set r3.toNat (⟨e8.ax,e8.Number,e8.Version,e8.aB,4,e8.Ending,e8.bw⟩:aq)).set r3.toNat ((⟨e9.ax,e9.Number,IntKind.i64.wrap (a0.b8+1),e9.aB,e9.State,e9.Ending,e9.bw⟩:aq)),a0.aj⟩:aa),0)) none) none) none) none)) none) none))
  (cond (a1.Kind==4)
  (Option.bind (Xl a0 a1.Name) fun iJ=>
  cond (decide (iJ<0))
  (some (a0,3))
  (cond (decide ((0:Int)≤0)) (cond (decide ((0:Int)≤iJ)) (cond (decide (iJ≤(a0.aj.length:Int))) (cond (decide (((([]:List (C .ay))).length+((a0.aj.take iJ.toNat).drop ((0:Int).toNat)).length)*24≤140737488355328)) (cond (decide ((0:Int)≤IntKind.i64.wrap (iJ+1))) (cond (decide ((IntKind.i64.wrap (iJ+1):Int)≤(a0.aj.length:Int))) (cond (decide ((a0.aj.length:Int)≤(a0.aj.length:Int))) (cond (decide ((((([]:List (C .ay)))++((a0.aj.take iJ.toNat).drop ((0:Int).toNat))).length+((a0.aj.take ((a0.aj.length:Int).toNat)).drop ((IntKind.i64.wrap (iJ+1):Int).toNat)).length)*24≤140737488355328)) (Oy (IntKind.i64.wrap (a0.b8+1)) a0.b8 a0.ae a0.ai (((([]:List (C .ay)))++((a0.aj.take iJ.toNat).drop ((0:Int).toNat)))++((a0.aj.take ((a0.aj.length:Int).toNat)).drop ((IntKind.i64.wrap (iJ+1):Int).toNat))) a1.Kind a1.bO a1.bg a1.bV a1.bL a1.cm a1.bW a1.bS a1.cz a1.cw a1.bK a1.bT a1.bU a1.bX a1.Name a1.Number a1.jx 0 (([]:List (C .aA))) (([]:List (C .aC))) (([]:List (C .ay))) kp kh hd n   ((([]:List (C .aC)),0))) none) none) none) none) none) none) none) none))
  (cond (a1.Kind==5)
  (Option.bind (G68 a0 a1.Name a1.jx) fun eX=>
  some ((⟨IntKind.i64.wrap (a0.b8+1),eX.ae,eX.ai,eX.aj⟩:aa),0))
  (cond (a1.Kind==6)
  (Option.bind (OO a0 a1.Name) fun eU=>
  cond (decide (eU<0))
  (some (a0,3))
  (cond (decide (0≤eU)) (cond (decide (eU<(a0.ae.length:Int))) (Option.bind a0.ae[eU.toNat]? fun mg=>cond (mg.dA==0)
  (some (a0,3))
  (cond (decide (0≤eU)) (cond (decide (eU<(a0.ae.length:Int))) (Option.bind a0.ae[eU.toNat]? fun dV=>cond (decide (0≤eU)) (cond (decide (eU<((a0.ae.set eU.toNat (⟨dV.Name,dV.Version,dV.cC,dV.aB,dV.Want,dV.Down,dV.ct,dV.Next,dV.dA,dV.aP,dV.bN,a1.Number,dV.cE⟩:af)).length:Int))) (Option.bind (a0.ae.set eU.toNat (⟨dV.Name,dV.Version,dV.cC,dV.aB,dV.Want,dV.Down,dV.ct,dV.Next,dV.dA,dV.aP,dV.bN,a1.Number,dV.cE⟩:af))[eU.toNat]? fun aK=>some ((⟨IntKind.i64.wrap (a0.b8+1),(a0.ae.set eU.toNat (⟨dV.Name,dV.Version,dV.cC,dV.aB,dV.Want,dV.Down,dV.ct,dV.Next,dV.dA,dV.aP,dV.bN,a1.Number,dV.cE⟩:af)).set eU.toNat ((⟨aK.Name,IntKind.i64.wrap (a0.b8+1),aK.cC,aK.aB,aK.Want,aK.Down,aK.ct,aK.Next,aK.dA,aK.aP,aK.bN,aK.cK,aK.cE⟩:af)),a0.ai,a0.aj⟩:aa),0)) none) none) none) none)) none) none))
  (some (a0,4)))))))) (by kernel_rfl) ?_
 simp only [RJ,abD]
noncomputable def G28 (a0:aa) (a1:az):Option (aa×Int):=RJ fuel a0 a1
noncomputable def TL:qd C:=XE KK [.el .dv,.el .p7] [] [.el .dv,.int .i64] G28
theorem c28:oM Try.prog KK 28 TL:=eO (gO ⟨c66,c67,c69,trivial⟩ trivial ⟨i64 _,i65 _,i68 _,trivial⟩:Cons Try.prog (XX fuel)) (fn:=Try.f28) (by kernel_rfl) (by kernel_rfl) (by kernel_rfl) (by kernel_rfl) (F28 fuel) (by kernel_rfl) fun kp kh hd=>fun a0 a1=>t28 kp kh hd fuel a0 a1
noncomputable def I28 (n:Nat):mP C:=sG KK 28 TL
theorem i28 (n:Nat):dx Try.prog KK 28 (I28 n):=Av c28
noncomputable def X8 (n:Nat):Cx C:=fT [(10,yU),(26,pD),(27,yT)] [] [(28,I28 n)] [2,3,4,6,7,23,24,25,26,27,28,29] 524288 []
def F8 (n:Nat):Cf:={ N:=n,keep:=[0,1,2,3,4,5,6,7,10,14,18,36,38],live:=lk [] }
noncomputable abbrev dec8:=jB KK [.el .dv,.int .i64]
noncomputable def G8n (n:Nat) (a0:aa) (a1:az):Option (aa×Int):=
 Option.bind (JG a0) fun r1=>
 cond (!r1)
 (some ((⟨0,([]:List (C .aA)),([]:List (C .aC)),([]:List (C .ay))⟩:aa),1))
 (cond (decide (a0.b8≥1000000))
 (Option.bind (lB a1.Kind 1 6) fun r2=>
 cond (!r2)
 (Option.bind (zi a0) fun r3=>
 some (r3,4))
 (Option.bind (zi a0) fun r4=>
 some (r4,7)))
 (Option.bind (zi a0) fun r5=>
 (fun y=>alt y (y))
 (Option.bind (G28 r5 a1) fun r6=>
 (fun y=>alt y (y))
 (cond (r6.2==0)
 (Option.bind (JG r6.1) fun r7=>
 cond (!r7)
 (cond (2 != 0)
 (Option.bind (zi a0) fun r8=>
 some (r8,2))
 (Option.bind (zi r6.1) fun r9=>
 some (r9,0)))
 (cond (r6.2 != 0)
 (Option.bind (zi a0) fun iJ=>
 some (iJ,r6.2))
 (Option.bind (zi r6.1) fun s7=>
 some (s7,0))))
 (cond (r6.2 != 0)
 (Option.bind (zi a0) fun lC=>
 some (lC,r6.2))
 (Option.bind (zi r6.1) fun eX=>
 some (eX,0)))))))
theorem t8 (n:Nat) (a0:aa) (a1:az):dG (X8 n) (F8 n) Try.f8 [.agg [.int .i64 a0.b8,.row .aA a0.ae,.row .aC a0.ai,.row .ay a0.aj],.agg [.int .i64 a1.Kind,.str a1.bO,.int .i64 a1.bg,.bool a1.bV,.int .i64 a1.bL,.int .i64 a1.cm,.int .i64 a1.bW,.int .i64 a1.bS,.int .i64 a1.cz,.int .i64 a1.cw,.int .i64 a1.bK,.int .i64 a1.bT,.int .i64 a1.bU,.int .i64 a1.bX,.str a1.Name,.int .i64 a1.Number,.bool a1.jx]] dec8=G8n n a0 a1:=by
 kernel_rfl
noncomputable def G8 (a0:aa) (a1:az):Option (aa×Int):=G8n fuel a0 a1
noncomputable def W4:iK C:=lD KK [.el .dv,.el .p7] [.el .dv,.int .i64] G8
theorem c8:dm Try.prog KK 8 W4:=cO (gO ⟨c10,Re,c27,trivial⟩ trivial ⟨i28 _,trivial⟩:Cons Try.prog (X8 fuel)) (fn:=Try.f8) (by kernel_rfl) (by kernel_rfl) (by kernel_rfl) (by kernel_rfl) (F8 fuel) (by kernel_rfl) (fun a0 a1=>t8 fuel a0 a1)
end Go.Proofs.Ytipemmgoipbojaa.Ab
set_option maxRecDepth 100000
namespace Go.Proofs.Ytipemmgoipbojaa.Ab
open Go Go.RowKit
noncomputable def X83:Cx C:=fT [(69,yS)] [] [] [] 5439488 []
def F83 (n:Nat):Cf:={ N:=n,keep:=[0,1,2,4,5,6,7,8,21,32,34,45,52,65],live:=lk [(0,[1,2,4,5,6,7])] }
noncomputable abbrev Tk:=jB KK [.el .A8]
abbrev zl:Type:=Int×Int×Int×Int×Int×Int
section
variable (x0:ByteArray) (x1 x3:Int) (x4:List (C .aA)) (x5:List (C .aC)) (x6:List (C .ay)) (x7 x8 x9 aM aS:Int)
def ZW:zl→St C:=fun (x2,aQ,aZ,aV,aY,aW)=>{ env:=[(1,.one (.str x0)),(2,.one (.ptr 5439616 0)),(4,.one (.ptr 5439744 0)),(5,.one (.ptr 5439808 0)),(6,.one (.int .i64 x1)),(7,.one (.int .i64 x2))],ah:=[(5439616,.box .mem [.int .i64 x3,.row .aA x4,.row .aC x5,.row .ay x6]),(5439744,.box .mem [.int .i64 x7,.int .i64 x8,.int .i64 x9,.int .i64 aM,.int .i64 aS]),(5439808,.box .mem [.int .i64 aQ,.int .i64 aZ,.int .i64 aV,.int .i64 aY,.int .i64 aW])],base:=0 }
end
noncomputable def uZ (x0:ByteArray) (x1:Int) (x4:List (C .aA)) (x5:List (C .aC)) (n:Nat)   (bu:zl→Option (eT)):zl→Option (eT):=fun (x2,aQ,aZ,aV,aY,aW)=>
 cond (decide (x2<(x5.length:Int)))
 (cond (decide (x1≥0))
 (cond (decide (0≤x2)) (Option.bind x5[x2.toNat]? fun e2=>cond (!decide (e2.ax=x0))
 (bu ((IntKind.i64.wrap (x2+1),aQ,aZ,aV,aY,aW)))
 (cond e2.Ending
 (bu ((IntKind.i64.wrap (x2+1),aQ,aZ,aV,aY,IntKind.i64.wrap (aW+1))))
 (cond (e2.State==3)
 (cond (e2.State==4)
 (cond (decide (0≤x1)) (Option.bind x4[x1.toNat]? fun e3=>cond (e2.aB != e3.aB)
 (bu ((IntKind.i64.wrap (x2+1),IntKind.i64.wrap (aQ+1),IntKind.i64.wrap (aZ+1),IntKind.i64.wrap (aV+1),IntKind.i64.wrap (aY+1),aW)))
 (bu ((IntKind.i64.wrap (x2+1),IntKind.i64.wrap (aQ+1),IntKind.i64.wrap (aZ+1),aV,IntKind.i64.wrap (aY+1),aW)))) none)
 (cond (decide (0≤x1)) (Option.bind x4[x1.toNat]? fun e4=>cond (e2.aB != e4.aB)
 (bu ((IntKind.i64.wrap (x2+1),IntKind.i64.wrap (aQ+1),IntKind.i64.wrap (aZ+1),IntKind.i64.wrap (aV+1),aY,aW)))
 (bu ((IntKind.i64.wrap (x2+1),IntKind.i64.wrap (aQ+1),IntKind.i64.wrap (aZ+1),aV,aY,aW)))) none))
 (cond (e2.State==4)
 (cond (decide (0≤x1)) (Option.bind x4[x1.toNat]? fun e5=>cond (e2.aB != e5.aB)
 (bu ((IntKind.i64.wrap (x2+1),IntKind.i64.wrap (aQ+1),aZ,IntKind.i64.wrap (aV+1),IntKind.i64.wrap (aY+1),aW)))
 (bu ((IntKind.i64.wrap (x2+1),IntKind.i64.wrap (aQ+1),aZ,aV,IntKind.i64.wrap (aY+1),aW)))) none)
 (cond (decide (0≤x1)) (Option.bind x4[x1.toNat]? fun e6=>cond (e2.aB != e6.aB)
 (bu ((IntKind.i64.wrap (x2+1),IntKind.i64.wrap (aQ+1),aZ,IntKind.i64.wrap (aV+1),aY,aW)))
 (bu ((IntKind.i64.wrap (x2+1),IntKind.i64.wrap (aQ+1),aZ,aV,aY,aW)))) none))))) none)
 (some ((⟨aQ,aZ,aV,aY,aW⟩:eT))))
 (some ((⟨aQ,aZ,aV,aY,aW⟩:eT)))
section
variable (x0:ByteArray) (x1 x3:Int) (x4:List (C .aA)) (x5:List (C .aC)) (x6:List (C .ay)) (x7 x8 x9 aM aS:Int)
noncomputable def NX (n:Nat)  (x:zl):Option (eT):=iter (fun rec S=>run X83 (F83 n) (au (ak Try.f83) [1,1,1,0,1,0,0]) 0 S (dq rec (cJ 0 (bf (run X83 (F83 n) (au (ak Try.f83) [1,1,1,1]) 0) (eu X83 Try.f83 Tk))))) [1,2,4,5,6,7] n (ZW x0 x1 x3 x4 x5 x6 x7 x8 x9 aM aS x)
theorem aa0 (n:Nat)  (x:zl):NX x0 x1 x3 x4 x5 x6 x7 x8 x9 aM aS n  x=cu (uZ x0 x1 x4 x5 n  ) n x:=by
 refine iter_eq _ _ (fun bu x=>?_) n x;obtain ⟨x2,aQ,aZ,aV,aY,aW⟩:=x
 kernel_rfl
end
noncomputable def OM (n:Nat) (a0:aa) (a1:ByteArray):Option (eT):=
 Option.bind (OO a0 a1) fun r1=>
 cu (uZ a1 r1 a0.ae a0.ai n ) n (0,0,0,0,0,0)
theorem t83 (n:Nat) (a0:aa) (a1:ByteArray):dG X83 (F83 n) Try.f83 [.agg [.int .i64 a0.b8,.row .aA a0.ae,.row .aC a0.ai,.row .ay a0.aj],.one (.str a1)] Tk=OM n a0 a1:=by
 refine Eq.trans (b:=
  Option.bind (OO a0 a1) fun r1=>
  NX a1 r1 a0.b8 a0.ae a0.ai a0.aj 0 0 0 0 0 n   (0,0,0,0,0,0)) (by kernel_rfl) ?_
 simp only [OM,aa0]
noncomputable def Dn (a0:aa) (a1:ByteArray):Option (eT):=OM fuel a0 a1
noncomputable def HN:iK C:=lD KK [.el .dv,.str] [.el .A8] Dn
theorem c83:dm Try.prog KK 83 HN:=cO (gO ⟨c69,trivial⟩ trivial trivial:Cons Try.prog X83) (fn:=Try.f83) (by kernel_rfl) (by kernel_rfl) (by kernel_rfl) (by kernel_rfl) (F83 fuel) (by kernel_rfl) (fun a0 a1=>t83 fuel a0 a1)
noncomputable def X82:Cx C:=fT [(66,HQ),(69,yS),(83,HN)] [] [] [] 5373952 []
def F82 (n:Nat):Cf:={ N:=n,keep:=[0,1,2,3,6,7,8,22,40],live:=lk [] }
noncomputable abbrev dec82:=jB KK [.bool]
noncomputable def Xj (n:Nat) (a0:aa) (a1:ByteArray) (a2:Int):Option (Bool):=
 Option.bind (JR a0 a1 a2) fun r1=>
 cond (decide (r1<0))
 (some (false))
 (cond (decide (0≤r1)) (Option.bind a0.ai[r1.toNat]? fun e2=>cond e2.Ending
 (some (false))
 (Option.bind (OO a0 a1) fun r3=>
 cond (decide (0≤r3)) (Option.bind a0.ae[r3.toNat]? fun e4=>cond (decide (0≤r1)) (Option.bind a0.ai[r1.toNat]? fun e5=>cond (e5.State != 3)
 (some (true))
 (cond e4.cC
 (some (true))
 (Option.bind (Dn a0 a1) fun r6=>
 some (decide ((IntKind.i64.wrap (r6.Ub-1))≥(IntKind.i64.wrap (e4.Want-e4.Down))))))) none) none)) none)
theorem t82 (n:Nat) (a0:aa) (a1:ByteArray) (a2:Int):dG X82 (F82 n) Try.f82 [.agg [.int .i64 a0.b8,.row .aA a0.ae,.row .aC a0.ai,.row .ay a0.aj],.one (.str a1),.one (.int .i64 a2)] dec82=Xj n a0 a1 a2:=by
 kernel_rfl
noncomputable def Pq (a0:aa) (a1:ByteArray) (a2:Int):Option (Bool):=Xj fuel a0 a1 a2
noncomputable def HO:iK C:=lD KK [.el .dv,.str,.int .i64] [.bool] Pq
theorem c82:dm Try.prog KK 82 HO:=cO (gO ⟨c66,c69,c83,trivial⟩ trivial trivial:Cons Try.prog X82) (fn:=Try.f82) (by kernel_rfl) (by kernel_rfl) (by kernel_rfl) (by kernel_rfl) (F82 fuel) (by kernel_rfl) (fun a0 a1 a2=>t82 fuel a0 a1 a2)
noncomputable def X81:Cx C:=fT [(26,pD)] [] [] [] 5308416 []
def F81 (n:Nat):Cf:={ N:=n,keep:=[0,1,2,3,13,18,34,63],live:=lk [(0,[1,3])] }
noncomputable abbrev Tl:=jB KK [.bool]
abbrev DC:Type:=Int
section
variable (x1:ByteArray) (x2 x3 x4 x5:Int) (x6:Bool) (x7:List (C .eC)) (x8:Bool)
def ZX:DC→St C:=fun x0=>{ env:=[(1,.one (.ptr 5308480 0)),(3,.one (.int .i64 x0))],ah:=[(5308480,.box .mem [.str x1,.int .i64 x2,.int .i64 x3,.int .i64 x4,.int .i64 x5,.bool x6,.row .eC x7,.bool x8])],base:=0 }
end
noncomputable def xL (x3 x4 x5:Int) (x6:Bool) (x7:List (C .eC)) (x8:Bool) (n:Nat)   (bu:DC→Option (Bool)):DC→Option (Bool):=fun x0=>
 cond (decide (x0<(x7.length:Int)))
 (cond (decide (0≤IntKind.i64.wrap (x0-1))) (Option.bind x7[(IntKind.i64.wrap (x0-1)).toNat]? fun e2=>cond (decide (0≤x0)) (Option.bind x7[x0.toNat]? fun e3=>cond (decide (e2.Number≥e3.Number))
 (some (false))
 (bu (IntKind.i64.wrap (x0+1)))) none) none)
 (cond x6
 (Option.bind (lB x4 0 10) fun r4=>
 cond (!r4)
 (some (false))
 (Option.bind (lB x5 0 3) fun r5=>
 cond (!r5)
 (some (false))
 (cond (!x6)
 (cond (x4 != 0)
 (some (false))
 (cond (x5 != 0)
 (some (false))
 (cond (!x8)
 (some (true))
 (cond (x3==0)
 (cond (!x6)
 (some ((x7.length:Int)==0))
 (some (false)))
 (some (false))))))
 (cond (!x8)
 (some (true))
 (cond (x3==0)
 (cond (!x6)
 (some ((x7.length:Int)==0))
 (some (false)))
 (some (false)))))))
 (cond (!x6)
 (cond (x4 != 0)
 (some (false))
 (cond (x5 != 0)
 (some (false))
 (cond (!x8)
 (some (true))
 (cond (x3==0)
 (cond (!x6)
 (some ((x7.length:Int)==0))
 (some (false)))
 (some (false))))))
 (cond (!x8)
 (some (true))
 (cond (x3==0)
 (cond (!x6)
 (some ((x7.length:Int)==0))
 (some (false)))
 (some (false))))))
section
variable (x1:ByteArray) (x2 x3 x4 x5:Int) (x6:Bool) (x7:List (C .eC)) (x8:Bool)
noncomputable def NY (n:Nat)  (x:DC):Option (Bool):=iter (fun rec S=>run X81 (F81 n) (au (ak Try.f81) [1,1,0,1,0,0]) 0 S (dq rec (cJ 0 (bf (run X81 (F81 n) (au (ak Try.f81) [1,1,1]) 0) (eu X81 Try.f81 Tl))))) [1,3] n (ZX x1 x2 x3 x4 x5 x6 x7 x8 x)
theorem aa1 (n:Nat)  (x:DC):NY x1 x2 x3 x4 x5 x6 x7 x8 n  x=cu (xL x3 x4 x5 x6 x7 x8 n  ) n x:=by
 refine iter_eq _ _ (fun bu x0=>?_) n x
 kernel_rfl
end
noncomputable def Rv (n:Nat) (a0:bJ):Option (Bool):=
 Option.bind (lB a0.iI 0 20) fun r1=>
 cond (!r1)
 (some (false))
 (cond (decide ((a0.Ends.length:Int)>200))
 (some (false))
 (cu (xL a0.iI a0.Want a0.cE a0.nJ a0.Ends a0.Drop n ) n 1))
theorem t81 (n:Nat) (a0:bJ):dG X81 (F81 n) Try.f81 [.agg [.str a0.ax,.int .i64 a0.Seen,.int .i64 a0.iI,.int .i64 a0.Want,.int .i64 a0.cE,.bool a0.nJ,.row .eC a0.Ends,.bool a0.Drop]] Tl=Rv n a0:=by
 refine Eq.trans (b:=
  Option.bind (lB a0.iI 0 20) fun r1=>
  cond (!r1)
  (some (false))
  (cond (decide ((a0.Ends.length:Int)>200))
  (some (false))
  (NY a0.ax a0.Seen a0.iI a0.Want a0.cE a0.nJ a0.Ends a0.Drop n   1))) (by kernel_rfl) ?_
 simp only [Rv,aa1]
noncomputable def G81 (a0:bJ):Option (Bool):=Rv fuel a0
noncomputable def TB:iK C:=lD KK [.el .kF] [.bool] G81
theorem c81:dm Try.prog KK 81 TB:=cO (gO ⟨Re,trivial⟩ trivial trivial:Cons Try.prog X81) (fn:=Try.f81) (by kernel_rfl) (by kernel_rfl) (by kernel_rfl) (by kernel_rfl) (F81 fuel) (by kernel_rfl) (fun a0=>t81 fuel a0)
end Go.Proofs.Ytipemmgoipbojaa.Ab
set_option maxRecDepth 100000
namespace Go.Proofs.Ytipemmgoipbojaa.Ab
open Go Go.RowKit
noncomputable def Gh (n:Nat):Cf:={ N:=n,keep:=[0,1,2,3,4,5,6,7,8,9,10,11,12,13,14,15,16,17,20,27,33,46,56,62,86,97,110,156,159,188,206,227,232,256,286],live:=lk [(0,[2,3,4,6,7]),(2,[2,3,4,6,8]),(4,[2,3,4,6,9,10,11]),(6,[3,4,6,9,10,13,15]),(8,[3,4,6,9,10,13,15,16,17])] }
def rj (os:cW C) (ls:List (Lf C)) (rs:List (Bool×List (Lf C))):Option (aa×Int):=match os,ls,rs with
 | [(77777777,.ghost)],[],[(true,[.int .i64 uC,.row .aA zt,.row .aC zq,.row .ay zo]),(false,[.int .i64 J6])]=>some ((⟨uC,zt,zq,zo⟩:aa),J6)
 | _,_,_=>none
abbrev D6:Type:=Int
abbrev wN:Type:=Int×List (C .aC)×Int
abbrev D7:Type:=Int×List (C .aC)
abbrev D8:Type:=Int
abbrev D9:Type:=Int
section
variable (x0 x1 x2:Int) (x4:ByteArray) (x5 x6 x7 x8:Int) (x9:Bool) (aM:List (C .eC)) (aS:Bool) (aQ:Int) (aZ:List (C .aA)) (aV:List (C .aC)) (aY:List (C .ay)) (aW:Int) (bq:List (C .aA)) (bC:List (C .aC)) (bz:List (C .ay)) (bD:ByteArray) (aR:Int) (bF:Bool) (aX bI bB bt bA bR bZ b9 cQ dQ:Int) (dN:ByteArray) (dZ fB fV fM:Int) (fK:Bool) (fR:ByteArray)
def aap:D6→St C:=fun x3=>{ env:=[(3,.one (.ptr 2752704 0)),(4,.one (.ptr 2752768 0)),(6,.one (.int .i64 x0)),(9,.one (.ptr 2753088 0)),(10,.one (.int .i64 x1)),(13,.one (.ptr 2753344 0)),(15,.one (.int .i64 x2)),(16,.one (.ptr 2753536 0)),(17,.one (.int .i64 x3)),(90000,.frame),(90001,.bQ (true,[]) 0)],ah:=[(2752704,.box .mem [.str x4,.int .i64 x5,.int .i64 x6,.int .i64 x7,.int .i64 x8,.bool x9,.row .eC aM,.bool aS]),(2752768,.box .mem [.int .i64 aQ,.ref 276276801 [],.ref 276276802 [],.ref 276276803 []]),(276276801,.row .aA aZ false),(276276802,.row .aC aV false),(276276803,.row .ay aY false),(2753088,.box .mem [.int .i64 aW,.ref 276308801 [],.ref 276308802 [],.ref 276308803 []]),(276308801,.row .aA bq false),(276308802,.row .aC bC false),(276308803,.row .ay bz false),(2753344,.box .mem [.str bD,.int .i64 aR,.bool bF,.int .i64 aX,.int .i64 bI,.int .i64 bB,.int .i64 bt,.int .i64 bA,.int .i64 bR,.int .i64 bZ,.int .i64 b9,.int .i64 cQ,.int .i64 dQ]),(2753536,.box .mem [.str dN,.int .i64 dZ,.int .i64 fB,.int .i64 fV,.int .i64 fM,.bool fK,.str fR]),(77777777,.ghost)],base:=0 }
end
noncomputable def GM (x2:Int) (bC:List (C .aC)) (bA:Int) (dN:ByteArray) (dZ fB fV fM:Int) (fK:Bool) (fR:ByteArray) (n:Nat) (rc:(Int)→(List (C .aA))→(List (C .aC))→(List (C .ay))→(ByteArray)→(Int)→(Int)→(Int)→(Int)→(Bool)→(List (C .eC))→(Bool)→Option (aa×Int)) (gN:wN→Option (aa×Int)) (zQ:D6→Option (aa×Int)):D6→Option (aa×Int):=fun x3=>
 cond (decide (x3<(bC.length:Int)))
 (cond (decide (0≤x3)) (cond (decide (x3<(bC.length:Int))) (Option.bind bC[x3.toNat]? fun Q4=>Option.bind (G32 Q4 (⟨dN,dZ,fB,fV,fM,fK,fR⟩:aq)) fun ck=>
 cond ck
 (zQ (IntKind.i64.wrap (x3+1)))
 (cond (decide ((0:Int)≤0)) (cond (decide ((0:Int)≤x3)) (cond (decide (x3≤(bC.length:Int))) (cond (decide (((([]:List (C .aC))).length+((bC.take x3.toNat).drop ((0:Int).toNat)).length)*72≤140737488355328)) (cond (decide ((((([]:List (C .aC)))++((bC.take x3.toNat).drop ((0:Int).toNat))).length+(([(⟨dN,dZ,fB,fV,fM,fK,fR⟩:aq)]:List (C .aC))).length)*72≤140737488355328)) (cond (decide ((0:Int)≤x3)) (cond (decide ((x3:Int)≤(bC.length:Int))) (cond (decide ((bC.length:Int)≤(bC.length:Int))) (cond (decide (((((([]:List (C .aC)))++((bC.take x3.toNat).drop ((0:Int).toNat)))++(([(⟨dN,dZ,fB,fV,fM,fK,fR⟩:aq)]:List (C .aC)))).length+((bC.take ((bC.length:Int).toNat)).drop ((x3:Int).toNat)).length)*72≤140737488355328)) (gN ((IntKind.i64.wrap (x2+1),(((([]:List (C .aC)))++((bC.take x3.toNat).drop ((0:Int).toNat)))++(([(⟨dN,dZ,fB,fV,fM,fK,fR⟩:aq)]:List (C .aC))))++((bC.take ((bC.length:Int).toNat)).drop ((x3:Int).toNat)),IntKind.i64.wrap (bA+1)))) none) none) none) none) none) none) none) none) none)) none) none)
 (cond (decide ((0:Int)≤0)) (cond (decide ((0:Int)≤x3)) (cond (decide (x3≤(bC.length:Int))) (cond (decide (((([]:List (C .aC))).length+((bC.take x3.toNat).drop ((0:Int).toNat)).length)*72≤140737488355328)) (cond (decide ((((([]:List (C .aC)))++((bC.take x3.toNat).drop ((0:Int).toNat))).length+(([(⟨dN,dZ,fB,fV,fM,fK,fR⟩:aq)]:List (C .aC))).length)*72≤140737488355328)) (cond (decide ((0:Int)≤x3)) (cond (decide ((x3:Int)≤(bC.length:Int))) (cond (decide ((bC.length:Int)≤(bC.length:Int))) (cond (decide (((((([]:List (C .aC)))++((bC.take x3.toNat).drop ((0:Int).toNat)))++(([(⟨dN,dZ,fB,fV,fM,fK,fR⟩:aq)]:List (C .aC)))).length+((bC.take ((bC.length:Int).toNat)).drop ((x3:Int).toNat)).length)*72≤140737488355328)) (gN ((IntKind.i64.wrap (x2+1),(((([]:List (C .aC)))++((bC.take x3.toNat).drop ((0:Int).toNat)))++(([(⟨dN,dZ,fB,fV,fM,fK,fR⟩:aq)]:List (C .aC))))++((bC.take ((bC.length:Int).toNat)).drop ((x3:Int).toNat)),IntKind.i64.wrap (bA+1)))) none) none) none) none) none) none) none) none) none)
section
variable (x0 x1:Int) (x3:ByteArray) (x4 x5 x6 x7:Int) (x8:Bool) (x9:List (C .eC)) (aM:Bool) (aS:Int) (aQ:List (C .aA)) (aZ:List (C .aC)) (aV:List (C .ay)) (aY:Int) (aW:List (C .aA)) (bC:List (C .ay)) (bz:ByteArray) (bD:Int) (aR:Bool) (bF aX bI bB bA bR bZ b9 cQ:Int)
def Sd:wN→St C:=fun (x2,bq,bt)=>{ env:=[(3,.one (.ptr 2752704 0)),(4,.one (.ptr 2752768 0)),(6,.one (.int .i64 x0)),(9,.one (.ptr 2753088 0)),(10,.one (.int .i64 x1)),(13,.one (.ptr 2753344 0)),(15,.one (.int .i64 x2)),(90000,.frame),(90001,.bQ (true,[]) 0)],ah:=[(2752704,.box .mem [.str x3,.int .i64 x4,.int .i64 x5,.int .i64 x6,.int .i64 x7,.bool x8,.row .eC x9,.bool aM]),(2752768,.box .mem [.int .i64 aS,.ref 276276801 [],.ref 276276802 [],.ref 276276803 []]),(276276801,.row .aA aQ false),(276276802,.row .aC aZ false),(276276803,.row .ay aV false),(2753088,.box .mem [.int .i64 aY,.ref 276308801 [],.ref 276308802 [],.ref 276308803 []]),(276308801,.row .aA aW false),(276308802,.row .aC bq false),(276308803,.row .ay bC false),(2753344,.box .mem [.str bz,.int .i64 bD,.bool aR,.int .i64 bF,.int .i64 aX,.int .i64 bI,.int .i64 bB,.int .i64 bt,.int .i64 bA,.int .i64 bR,.int .i64 bZ,.int .i64 b9,.int .i64 cQ]),(77777777,.ghost)],base:=0 }
end
noncomputable def jj (x0 x1:Int) (x3:ByteArray) (x5:Int) (aM:Bool) (aW:List (C .aA)) (bC:List (C .ay)) (bz:ByteArray) (aR:Bool) (bF aX bI bB bA bR bZ b9 cQ:Int) (n:Nat) (rc:(Int)→(List (C .aA))→(List (C .aC))→(List (C .ay))→(ByteArray)→(Int)→(Int)→(Int)→(Int)→(Bool)→(List (C .eC))→(Bool)→Option (aa×Int))  (gN:wN→Option (aa×Int)):wN→Option (aa×Int):=fun (x2,bq,bt)=>
 cond (decide (x2<x5))
 (cu (GM x2 bq bt x3 bt x1 bF 1 false (⟨#[]⟩:ByteArray) n rc gN) n 0)
 (cond (decide (0≤x0)) (cond (decide (x0<(aW.length:Int))) (Option.bind aW[x0.toNat]? fun e23=>cond aM
 (cond (decide ((0:Int)≤0)) (cond (decide ((0:Int)≤x0)) (cond (decide (x0≤((aW.set x0.toNat (⟨bz,x1,aR,bF,aX,bI,bB,bt,bA,bR,bZ,b9,cQ⟩:af)).length:Int))) (cond (decide (((([]:List (C .aA))).length+(((aW.set x0.toNat (⟨bz,x1,aR,bF,aX,bI,bB,bt,bA,bR,bZ,b9,cQ⟩:af)).take x0.toNat).drop ((0:Int).toNat)).length)*112≤140737488355328)) (cond (decide ((0:Int)≤IntKind.i64.wrap (x0+1))) (cond (decide ((IntKind.i64.wrap (x0+1):Int)≤((aW.set x0.toNat (⟨bz,x1,aR,bF,aX,bI,bB,bt,bA,bR,bZ,b9,cQ⟩:af)).length:Int))) (cond (decide (((aW.set x0.toNat (⟨bz,x1,aR,bF,aX,bI,bB,bt,bA,bR,bZ,b9,cQ⟩:af)).length:Int)≤((aW.set x0.toNat (⟨bz,x1,aR,bF,aX,bI,bB,bt,bA,bR,bZ,b9,cQ⟩:af)).length:Int))) (cond (decide ((((([]:List (C .aA)))++(((aW.set x0.toNat (⟨bz,x1,aR,bF,aX,bI,bB,bt,bA,bR,bZ,b9,cQ⟩:af)).take x0.toNat).drop ((0:Int).toNat))).length+(((aW.set x0.toNat (⟨bz,x1,aR,bF,aX,bI,bB,bt,bA,bR,bZ,b9,cQ⟩:af)).take ((((aW.set x0.toNat (⟨bz,x1,aR,bF,aX,bI,bB,bt,bA,bR,bZ,b9,cQ⟩:af)).length:Int)).toNat)).drop ((IntKind.i64.wrap (x0+1):Int).toNat)).length)*112≤140737488355328)) (some ((⟨x1,((([]:List (C .aA)))++(((aW.set x0.toNat (⟨bz,x1,aR,bF,aX,bI,bB,bt,bA,bR,bZ,b9,cQ⟩:af)).take x0.toNat).drop ((0:Int).toNat)))++(((aW.set x0.toNat (⟨bz,x1,aR,bF,aX,bI,bB,bt,bA,bR,bZ,b9,cQ⟩:af)).take ((((aW.set x0.toNat (⟨bz,x1,aR,bF,aX,bI,bB,bt,bA,bR,bZ,b9,cQ⟩:af)).length:Int)).toNat)).drop ((IntKind.i64.wrap (x0+1):Int).toNat)),bq,bC⟩:aa),0)) none) none) none) none) none) none) none) none)
 (some ((⟨x1,aW.set x0.toNat (⟨bz,x1,aR,bF,aX,bI,bB,bt,bA,bR,bZ,b9,cQ⟩:af),bq,bC⟩:aa),0))) none) none)
section
variable (x0 x1 x3:Int) (x4:List (C .aA)) (x5:List (C .aC)) (x6:List (C .ay)) (x7:ByteArray) (x8 x9 aM aS:Int) (aQ:Bool) (aZ:List (C .eC)) (aV:Bool) (aY:Int) (aW:List (C .aA)) (bq:List (C .aC)) (bC:List (C .ay)) (bz:Int) (bD:List (C .aA)) (bF:List (C .ay))
def Se:D7→St C:=fun (x2,aR)=>{ env:=[(2,.one (.ptr 2752640 0)),(3,.one (.ptr 2752704 0)),(4,.one (.ptr 2752768 0)),(6,.one (.int .i64 x0)),(9,.one (.ptr 2753088 0)),(10,.one (.int .i64 x1)),(11,.one (.int .i64 x2)),(90000,.frame),(90001,.bQ (true,[]) 0)],ah:=[(2752640,.box .mem [.int .i64 x3,.row .aA x4,.row .aC x5,.row .ay x6]),(2752704,.box .mem [.str x7,.int .i64 x8,.int .i64 x9,.int .i64 aM,.int .i64 aS,.bool aQ,.row .eC aZ,.bool aV]),(2752768,.box .mem [.int .i64 aY,.ref 276276801 [],.ref 276276802 [],.ref 276276803 []]),(276276801,.row .aA aW false),(276276802,.row .aC bq false),(276276803,.row .ay bC false),(2753088,.box .mem [.int .i64 bz,.ref 276308801 [],.ref 276308802 [],.ref 276308803 []]),(276308801,.row .aA bD false),(276308802,.row .aC aR false),(276308803,.row .ay bF false),(77777777,.ghost)],base:=0 }
end
noncomputable def GN (x0 x1 x3:Int) (x4:List (C .aA)) (x5:List (C .aC)) (x6:List (C .ay)) (x7:ByteArray) (x9 aM aS:Int) (aQ:Bool) (aZ:List (C .eC)) (aV:Bool) (bz:Int) (bD:List (C .aA)) (bF:List (C .ay)) (n:Nat) (rc:(Int)→(List (C .aA))→(List (C .aC))→(List (C .ay))→(ByteArray)→(Int)→(Int)→(Int)→(Int)→(Bool)→(List (C .eC))→(Bool)→Option (aa×Int))  (de:D7→Option (aa×Int)):D7→Option (aa×Int):=fun (x2,aR)=>
 cond (decide (x2<(aZ.length:Int)))
 (cond (decide (0≤x2)) (Option.bind aZ[x2.toNat]? fun CX=>Option.bind (Pq (⟨bz,bD,aR,bF⟩:aa) x7 CX.Number) fun lC=>
 cond (!lC)
 (some ((⟨x3,x4,x5,x6⟩:aa),5))
 (cond (decide (0≤x2)) (Option.bind aZ[x2.toNat]? fun Po=>Option.bind (JR (⟨bz,bD,aR,bF⟩:aa) x7 Po.Number) fun eU=>
 cond (decide (0≤eU)) (cond (decide (eU<(aR.length:Int))) (Option.bind aR[eU.toNat]? fun mg=>cond (decide (0≤eU)) (cond (decide (eU<((aR.set eU.toNat (⟨mg.ax,mg.Number,mg.Version,mg.aB,mg.State,true,mg.bw⟩:aq)).length:Int))) (Option.bind (aR.set eU.toNat (⟨mg.ax,mg.Number,mg.Version,mg.aB,mg.State,true,mg.bw⟩:aq))[eU.toNat]? fun dV=>de ((IntKind.i64.wrap (x2+1),(aR.set eU.toNat (⟨mg.ax,mg.Number,mg.Version,mg.aB,mg.State,true,mg.bw⟩:aq)).set eU.toNat (⟨dV.ax,dV.Number,x1,dV.aB,dV.State,dV.Ending,dV.bw⟩:aq)))) none) none) none) none) none)) none)
 (cond (decide (0≤x0)) (cond (decide (x0<(bD.length:Int))) (Option.bind bD[x0.toNat]? fun aK=>Option.bind (Dn (⟨x3,x4,x5,x6⟩:aa) x7) fun xc=>
 cond aV
 (cond (!aK.cC)
 (some ((⟨x3,x4,x5,x6⟩:aa),6))
 (cond (decide ((IntKind.i64.wrap (xc.Live+xc.Ending))>0))
 (some ((⟨x3,x4,x5,x6⟩:aa),6))
 (cond aQ
 (cond (decide (x9>0))
 (cond aK.cC
 (some ((⟨x3,x4,x5,x6⟩:aa),6))
 (Option.bind (Dn (⟨bz,bD,aR,bF⟩:aa) x7) fun pA=>
 cond (decide ((IntKind.i64.wrap (pA.Live+x9))>(IntKind.i64.wrap (aM+aK.ct))))
 (some ((⟨x3,x4,x5,x6⟩:aa),6))
 (cond aQ
 (cond (aK.dA==0)
 (some ((⟨x3,x4,x5,x6⟩:aa),6))
 (Option.bind (lB aM aK.aP aK.bN) fun fU=>
 cond (!fU)
 (some ((⟨x3,x4,x5,x6⟩:aa),6))
 (cond (decide ((IntKind.i64.wrap ((x5.length:Int)+x9))>200))
 (some ((⟨x3,x4,x5,x6⟩:aa),7))
 (cond (decide ((IntKind.i64.wrap (aK.Next+x9))>1000000))
 (some ((⟨x3,x4,x5,x6⟩:aa),7))
 (cond (decide (x3≥1000000))
 (some ((⟨x3,x4,x5,x6⟩:aa),7))
 (cu (jj x0 x1 x7 x9 aV bD bF aK.Name aK.cC aK.aB aM aK.Down aK.ct aK.dA aK.aP aK.bN aK.cK aS n rc ) n (0,aR,aK.Next)))))))
 (cond (decide ((IntKind.i64.wrap ((x5.length:Int)+x9))>200))
 (some ((⟨x3,x4,x5,x6⟩:aa),7))
 (cond (decide ((IntKind.i64.wrap (aK.Next+x9))>1000000))
 (some ((⟨x3,x4,x5,x6⟩:aa),7))
 (cond (decide (x3≥1000000))
 (some ((⟨x3,x4,x5,x6⟩:aa),7))
 (cu (jj x0 x1 x7 x9 aV bD bF aK.Name aK.cC aK.aB aM aK.Down aK.ct aK.dA aK.aP aK.bN aK.cK aS n rc ) n (0,aR,aK.Next))))))))
 (cond aQ
 (cond (aK.dA==0)
 (some ((⟨x3,x4,x5,x6⟩:aa),6))
 (Option.bind (lB aM aK.aP aK.bN) fun gv=>
 cond (!gv)
 (some ((⟨x3,x4,x5,x6⟩:aa),6))
 (cond (decide ((IntKind.i64.wrap ((x5.length:Int)+x9))>200))
 (some ((⟨x3,x4,x5,x6⟩:aa),7))
 (cond (decide ((IntKind.i64.wrap (aK.Next+x9))>1000000))
 (some ((⟨x3,x4,x5,x6⟩:aa),7))
 (cond (decide (x3≥1000000))
 (some ((⟨x3,x4,x5,x6⟩:aa),7))
 (cu (jj x0 x1 x7 x9 aV bD bF aK.Name aK.cC aK.aB aM aK.Down aK.ct aK.dA aK.aP aK.bN aK.cK aS n rc ) n (0,aR,aK.Next)))))))
 (cond (decide ((IntKind.i64.wrap ((x5.length:Int)+x9))>200))
 (some ((⟨x3,x4,x5,x6⟩:aa),7))
 (cond (decide ((IntKind.i64.wrap (aK.Next+x9))>1000000))
 (some ((⟨x3,x4,x5,x6⟩:aa),7))
 (cond (decide (x3≥1000000))
 (some ((⟨x3,x4,x5,x6⟩:aa),7))
 (cu (jj x0 x1 x7 x9 aV bD bF aK.Name aK.cC aK.aB aM aK.Down aK.ct aK.dA aK.aP aK.bN aK.cK aS n rc ) n (0,aR,aK.Next)))))))
 (cond (decide (x9>0))
 (cond aK.cC
 (some ((⟨x3,x4,x5,x6⟩:aa),6))
 (Option.bind (Dn (⟨bz,bD,aR,bF⟩:aa) x7) fun dP=>
 cond (decide ((IntKind.i64.wrap (dP.Live+x9))>(IntKind.i64.wrap (aK.Want+aK.ct))))
 (some ((⟨x3,x4,x5,x6⟩:aa),6))
 (cond aQ
 (cond (aK.dA==0)
 (some ((⟨x3,x4,x5,x6⟩:aa),6))
 (Option.bind (lB aM aK.aP aK.bN) fun tJ=>
 cond (!tJ)
 (some ((⟨x3,x4,x5,x6⟩:aa),6))
 (cond (decide ((IntKind.i64.wrap ((x5.length:Int)+x9))>200))
 (some ((⟨x3,x4,x5,x6⟩:aa),7))
 (cond (decide ((IntKind.i64.wrap (aK.Next+x9))>1000000))
 (some ((⟨x3,x4,x5,x6⟩:aa),7))
 (cond (decide (x3≥1000000))
 (some ((⟨x3,x4,x5,x6⟩:aa),7))
 (cu (jj x0 x1 x7 x9 aV bD bF aK.Name aK.cC aK.aB aK.Want aK.Down aK.ct aK.dA aK.aP aK.bN aK.cK aK.cE n rc ) n (0,aR,aK.Next)))))))
 (cond (decide ((IntKind.i64.wrap ((x5.length:Int)+x9))>200))
 (some ((⟨x3,x4,x5,x6⟩:aa),7))
 (cond (decide ((IntKind.i64.wrap (aK.Next+x9))>1000000))
 (some ((⟨x3,x4,x5,x6⟩:aa),7))
 (cond (decide (x3≥1000000))
 (some ((⟨x3,x4,x5,x6⟩:aa),7))
 (cu (jj x0 x1 x7 x9 aV bD bF aK.Name aK.cC aK.aB aK.Want aK.Down aK.ct aK.dA aK.aP aK.bN aK.cK aK.cE n rc ) n (0,aR,aK.Next))))))))
 (cond aQ
 (cond (aK.dA==0)
 (some ((⟨x3,x4,x5,x6⟩:aa),6))
 (Option.bind (lB aM aK.aP aK.bN) fun P9=>
 cond (!P9)
 (some ((⟨x3,x4,x5,x6⟩:aa),6))
 (cond (decide ((IntKind.i64.wrap ((x5.length:Int)+x9))>200))
 (some ((⟨x3,x4,x5,x6⟩:aa),7))
 (cond (decide ((IntKind.i64.wrap (aK.Next+x9))>1000000))
 (some ((⟨x3,x4,x5,x6⟩:aa),7))
 (cond (decide (x3≥1000000))
 (some ((⟨x3,x4,x5,x6⟩:aa),7))
 (cu (jj x0 x1 x7 x9 aV bD bF aK.Name aK.cC aK.aB aK.Want aK.Down aK.ct aK.dA aK.aP aK.bN aK.cK aK.cE n rc ) n (0,aR,aK.Next)))))))
 (cond (decide ((IntKind.i64.wrap ((x5.length:Int)+x9))>200))
 (some ((⟨x3,x4,x5,x6⟩:aa),7))
 (cond (decide ((IntKind.i64.wrap (aK.Next+x9))>1000000))
 (some ((⟨x3,x4,x5,x6⟩:aa),7))
 (cond (decide (x3≥1000000))
 (some ((⟨x3,x4,x5,x6⟩:aa),7))
 (cu (jj x0 x1 x7 x9 aV bD bF aK.Name aK.cC aK.aB aK.Want aK.Down aK.ct aK.dA aK.aP aK.bN aK.cK aK.cE n rc ) n (0,aR,aK.Next))))))))))
 (cond aQ
 (cond (decide (x9>0))
 (cond aK.cC
 (some ((⟨x3,x4,x5,x6⟩:aa),6))
 (Option.bind (Dn (⟨bz,bD,aR,bF⟩:aa) x7) fun E0=>
 cond (decide ((IntKind.i64.wrap (E0.Live+x9))>(IntKind.i64.wrap (aM+aK.ct))))
 (some ((⟨x3,x4,x5,x6⟩:aa),6))
 (cond aQ
 (cond (aK.dA==0)
 (some ((⟨x3,x4,x5,x6⟩:aa),6))
 (Option.bind (lB aM aK.aP aK.bN) fun P8=>
 cond (!P8)
 (some ((⟨x3,x4,x5,x6⟩:aa),6))
 (cond (decide ((IntKind.i64.wrap ((x5.length:Int)+x9))>200))
 (some ((⟨x3,x4,x5,x6⟩:aa),7))
 (cond (decide ((IntKind.i64.wrap (aK.Next+x9))>1000000))
 (some ((⟨x3,x4,x5,x6⟩:aa),7))
 (cond (decide (x3≥1000000))
 (some ((⟨x3,x4,x5,x6⟩:aa),7))
 (cu (jj x0 x1 x7 x9 aV bD bF aK.Name aK.cC aK.aB aM aK.Down aK.ct aK.dA aK.aP aK.bN aK.cK aS n rc ) n (0,aR,aK.Next)))))))
 (cond (decide ((IntKind.i64.wrap ((x5.length:Int)+x9))>200))
 (some ((⟨x3,x4,x5,x6⟩:aa),7))
 (cond (decide ((IntKind.i64.wrap (aK.Next+x9))>1000000))
 (some ((⟨x3,x4,x5,x6⟩:aa),7))
 (cond (decide (x3≥1000000))
 (some ((⟨x3,x4,x5,x6⟩:aa),7))
 (cu (jj x0 x1 x7 x9 aV bD bF aK.Name aK.cC aK.aB aM aK.Down aK.ct aK.dA aK.aP aK.bN aK.cK aS n rc ) n (0,aR,aK.Next))))))))
 (cond aQ
 (cond (aK.dA==0)
 (some ((⟨x3,x4,x5,x6⟩:aa),6))
 (Option.bind (lB aM aK.aP aK.bN) fun P7=>
 cond (!P7)
 (some ((⟨x3,x4,x5,x6⟩:aa),6))
 (cond (decide ((IntKind.i64.wrap ((x5.length:Int)+x9))>200))
 (some ((⟨x3,x4,x5,x6⟩:aa),7))
 (cond (decide ((IntKind.i64.wrap (aK.Next+x9))>1000000))
 (some ((⟨x3,x4,x5,x6⟩:aa),7))
 (cond (decide (x3≥1000000))
 (some ((⟨x3,x4,x5,x6⟩:aa),7))
 (cu (jj x0 x1 x7 x9 aV bD bF aK.Name aK.cC aK.aB aM aK.Down aK.ct aK.dA aK.aP aK.bN aK.cK aS n rc ) n (0,aR,aK.Next)))))))
 (cond (decide ((IntKind.i64.wrap ((x5.length:Int)+x9))>200))
 (some ((⟨x3,x4,x5,x6⟩:aa),7))
 (cond (decide ((IntKind.i64.wrap (aK.Next+x9))>1000000))
 (some ((⟨x3,x4,x5,x6⟩:aa),7))
 (cond (decide (x3≥1000000))
 (some ((⟨x3,x4,x5,x6⟩:aa),7))
 (cu (jj x0 x1 x7 x9 aV bD bF aK.Name aK.cC aK.aB aM aK.Down aK.ct aK.dA aK.aP aK.bN aK.cK aS n rc ) n (0,aR,aK.Next)))))))
 (cond (decide (x9>0))
 (cond aK.cC
 (some ((⟨x3,x4,x5,x6⟩:aa),6))
 (Option.bind (Dn (⟨bz,bD,aR,bF⟩:aa) x7) fun xb=>
 cond (decide ((IntKind.i64.wrap (xb.Live+x9))>(IntKind.i64.wrap (aK.Want+aK.ct))))
 (some ((⟨x3,x4,x5,x6⟩:aa),6))
 (cond aQ
 (cond (aK.dA==0)
 (some ((⟨x3,x4,x5,x6⟩:aa),6))
 (Option.bind (lB aM aK.aP aK.bN) fun r32=>
 cond (!r32)
 (some ((⟨x3,x4,x5,x6⟩:aa),6))
 (cond (decide ((IntKind.i64.wrap ((x5.length:Int)+x9))>200))
 (some ((⟨x3,x4,x5,x6⟩:aa),7))
 (cond (decide ((IntKind.i64.wrap (aK.Next+x9))>1000000))
 (some ((⟨x3,x4,x5,x6⟩:aa),7))
 (cond (decide (x3≥1000000))
 (some ((⟨x3,x4,x5,x6⟩:aa),7))
 (cu (jj x0 x1 x7 x9 aV bD bF aK.Name aK.cC aK.aB aK.Want aK.Down aK.ct aK.dA aK.aP aK.bN aK.cK aK.cE n rc ) n (0,aR,aK.Next)))))))
 (cond (decide ((IntKind.i64.wrap ((x5.length:Int)+x9))>200))
 (some ((⟨x3,x4,x5,x6⟩:aa),7))
 (cond (decide ((IntKind.i64.wrap (aK.Next+x9))>1000000))
 (some ((⟨x3,x4,x5,x6⟩:aa),7))
 (cond (decide (x3≥1000000))
 (some ((⟨x3,x4,x5,x6⟩:aa),7))
 (cu (jj x0 x1 x7 x9 aV bD bF aK.Name aK.cC aK.aB aK.Want aK.Down aK.ct aK.dA aK.aP aK.bN aK.cK aK.cE n rc ) n (0,aR,aK.Next))))))))
 (cond aQ
 (cond (aK.dA==0)
 (some ((⟨x3,x4,x5,x6⟩:aa),6))
 (Option.bind (lB aM aK.aP aK.bN) fun r33=>
 cond (!r33)
 (some ((⟨x3,x4,x5,x6⟩:aa),6))
 (cond (decide ((IntKind.i64.wrap ((x5.length:Int)+x9))>200))
 (some ((⟨x3,x4,x5,x6⟩:aa),7))
 (cond (decide ((IntKind.i64.wrap (aK.Next+x9))>1000000))
 (some ((⟨x3,x4,x5,x6⟩:aa),7))
 (cond (decide (x3≥1000000))
 (some ((⟨x3,x4,x5,x6⟩:aa),7))
 (cu (jj x0 x1 x7 x9 aV bD bF aK.Name aK.cC aK.aB aK.Want aK.Down aK.ct aK.dA aK.aP aK.bN aK.cK aK.cE n rc ) n (0,aR,aK.Next)))))))
 (cond (decide ((IntKind.i64.wrap ((x5.length:Int)+x9))>200))
 (some ((⟨x3,x4,x5,x6⟩:aa),7))
 (cond (decide ((IntKind.i64.wrap (aK.Next+x9))>1000000))
 (some ((⟨x3,x4,x5,x6⟩:aa),7))
 (cond (decide (x3≥1000000))
 (some ((⟨x3,x4,x5,x6⟩:aa),7))
 (cu (jj x0 x1 x7 x9 aV bD bF aK.Name aK.cC aK.aB aK.Want aK.Down aK.ct aK.dA aK.aP aK.bN aK.cK aK.cE n rc ) n (0,aR,aK.Next))))))))) none) none)
section
variable (x0 x2:Int) (x3:List (C .aA)) (x4:List (C .aC)) (x5:List (C .ay)) (x6:ByteArray) (x7 x8 x9 aM:Int) (aS:Bool) (aQ:List (C .eC)) (aZ:Bool) (aV:Int) (aY:List (C .aA)) (aW:List (C .aC)) (bq:List (C .ay))
def Sf:D8→St C:=fun x1=>{ env:=[(2,.one (.ptr 2752640 0)),(3,.one (.ptr 2752704 0)),(4,.one (.ptr 2752768 0)),(6,.one (.int .i64 x0)),(8,.one (.int .i64 x1)),(90000,.frame),(90001,.bQ (true,[]) 0)],ah:=[(2752640,.box .mem [.int .i64 x2,.row .aA x3,.row .aC x4,.row .ay x5]),(2752704,.box .mem [.str x6,.int .i64 x7,.int .i64 x8,.int .i64 x9,.int .i64 aM,.bool aS,.row .eC aQ,.bool aZ]),(2752768,.box .mem [.int .i64 aV,.ref 276276801 [],.ref 276276802 [],.ref 276276803 []]),(276276801,.row .aA aY false),(276276802,.row .aC aW false),(276276803,.row .ay bq false),(77777777,.ghost)],base:=0 }
end
noncomputable def GP (x0 x2:Int) (x3:List (C .aA)) (x4:List (C .aC)) (x5:List (C .ay)) (x6:ByteArray) (x8 x9 aM:Int) (aS:Bool) (aQ:List (C .eC)) (aZ:Bool) (n:Nat) (rc:(Int)→(List (C .aA))→(List (C .aC))→(List (C .ay))→(ByteArray)→(Int)→(Int)→(Int)→(Int)→(Bool)→(List (C .eC))→(Bool)→Option (aa×Int))  (eW:D8→Option (aa×Int)):D8→Option (aa×Int):=fun x1=>
 cond (decide (x1<(aQ.length:Int)))
 (cond (decide (0≤x1)) (Option.bind aQ[x1.toNat]? fun e6=>Option.bind (JR (⟨x2,x3,x4,x5⟩:aa) x6 e6.Number) fun r7=>
 cond (decide (0≤r7)) (Option.bind x4[r7.toNat]? fun e8=>cond (decide (0≤x1)) (Option.bind aQ[x1.toNat]? fun e9=>cond (e8.Version != e9.Seen)
 (some ((⟨x2,x3,x4,x5⟩:aa),4))
 (eW (IntKind.i64.wrap (x1+1)))) none) none) none)
 (Option.bind (zi (⟨x2,x3,x4,x5⟩:aa)) fun iJ=>
 cu (GN x0 (IntKind.i64.wrap (x2+1)) x2 x3 x4 x5 x6 x8 x9 aM aS aQ aZ iJ.b8 iJ.ae iJ.aj n rc ) n (0,iJ.ai))
section
variable (x0 x2:Int) (x3:List (C .aA)) (x4:List (C .aC)) (x5:List (C .ay)) (x6:ByteArray) (x7 x8 x9 aM:Int) (aS:Bool) (aQ:List (C .eC)) (aZ:Bool) (aV:Int) (aY:List (C .aA)) (aW:List (C .aC)) (bq:List (C .ay))
def Sg:D9→St C:=fun x1=>{ env:=[(2,.one (.ptr 2752640 0)),(3,.one (.ptr 2752704 0)),(4,.one (.ptr 2752768 0)),(6,.one (.int .i64 x0)),(7,.one (.int .i64 x1)),(90000,.frame),(90001,.bQ (true,[]) 0)],ah:=[(2752640,.box .mem [.int .i64 x2,.row .aA x3,.row .aC x4,.row .ay x5]),(2752704,.box .mem [.str x6,.int .i64 x7,.int .i64 x8,.int .i64 x9,.int .i64 aM,.bool aS,.row .eC aQ,.bool aZ]),(2752768,.box .mem [.int .i64 aV,.ref 276276801 [],.ref 276276802 [],.ref 276276803 []]),(276276801,.row .aA aY false),(276276802,.row .aC aW false),(276276803,.row .ay bq false),(77777777,.ghost)],base:=0 }
end
noncomputable def Lm (x0 x2:Int) (x3:List (C .aA)) (x4:List (C .aC)) (x5:List (C .ay)) (x6:ByteArray) (x7 x8 x9 aM:Int) (aS:Bool) (aQ:List (C .eC)) (aZ:Bool) (n:Nat) (rc:(Int)→(List (C .aA))→(List (C .aC))→(List (C .ay))→(ByteArray)→(Int)→(Int)→(Int)→(Int)→(Bool)→(List (C .eC))→(Bool)→Option (aa×Int))  (bu:D9→Option (aa×Int)):D9→Option (aa×Int):=fun x1=>
 cond (decide (x1<(aQ.length:Int)))
 (cond (decide (0≤x1)) (Option.bind aQ[x1.toNat]? fun e3=>Option.bind (JR (⟨x2,x3,x4,x5⟩:aa) x6 e3.Number) fun r4=>
 cond (decide (r4<0))
 (some ((⟨x2,x3,x4,x5⟩:aa),3))
 (bu (IntKind.i64.wrap (x1+1)))) none)
 (cond (decide (0≤x0)) (Option.bind x3[x0.toNat]? fun e5=>cond (e5.Version != x7)
 (some ((⟨x2,x3,x4,x5⟩:aa),4))
 (cu (GP x0 x2 x3 x4 x5 x6 x8 x9 aM aS aQ aZ n rc ) n 0)) none)
noncomputable def Ye (n:Nat) (rc:(Int)→(List (C .aA))→(List (C .aC))→(List (C .ay))→(ByteArray)→(Int)→(Int)→(Int)→(Int)→(Bool)→(List (C .eC))→(Bool)→Option (aa×Int)) (a0:Int) (a1:List (C .aA)) (a2:List (C .aC)) (a3:List (C .ay)) (a4:ByteArray) (a5 a6 a7 a8:Int) (a9:Bool) (Dj:List (C .eC)) (AO:Bool):Option (aa×Int):=
 Option.bind (G81 (⟨a4,a5,a6,a7,a8,a9,Dj,AO⟩:bJ)) fun r1=>
 cond (!r1)
 (some ((⟨a0,a1,a2,a3⟩:aa),2))
 (Option.bind (OO (⟨a0,a1,a2,a3⟩:aa) a4) fun r2=>
 cond (decide (r2<0))
 (some ((⟨a0,a1,a2,a3⟩:aa),3))
 (cu (Lm r2 a0 a1 a2 a3 a4 a5 a6 a7 a8 a9 Dj AO n rc ) n 0))
noncomputable def rA (n:Nat):Nat→(Int)→(List (C .aA))→(List (C .aC))→(List (C .ay))→(ByteArray)→(Int)→(Int)→(Int)→(Int)→(Bool)→(List (C .eC))→(Bool)→Option (aa×Int)
 | 0=>fun _ _ _ _ _ _ _ _ _ _ _ _=>none
 | d+1=>Ye n (rA n d)
noncomputable def Bo (n d:Nat):jw C:={ ids:=[],roots:=[],fQ:=[],R0:=aa×Int,out:=fun r=>[],ret:=fun r=>[(true,[.int .i64 r.1.b8,.row .aA r.1.ae,.row .aC r.1.ai,.row .ay r.1.aj]),(false,[.int .i64 r.2])],g:=fun vs O=>match vs,O with
 | [.agg [.int .i64 y0,.row .aA y1,.row .aC y2,.row .ay y3],.agg [.str y4,.int .i64 y5,.int .i64 y6,.int .i64 y7,.int .i64 y8,.bool y9,.row .eC Uu,.bool Ut]],[]=>rA n d y0 y1 y2 y3 y4 y5 y6 y7 y8 y9 Uu Ut
 | _,_=>none }
noncomputable def xn (n d:Nat):Cx C:=fT [(26,pD),(27,yT),(32,Nf),(66,HQ),(69,yS),(81,TB),(82,HO),(83,HN)] [] [(42,dH (Bo n d))] [] 2752512 [263,271,291,297]
section
variable (x0 x1 x2:Int) (x4:ByteArray) (x5 x6 x7 x8:Int) (x9:Bool) (aM:List (C .eC)) (aS:Bool) (aQ:Int) (aZ:List (C .aA)) (aV:List (C .aC)) (aY:List (C .ay)) (aW:Int) (bq:List (C .aA)) (bC:List (C .aC)) (bz:List (C .ay)) (bD:ByteArray) (aR:Int) (bF:Bool) (aX bI bB bt bA bR bZ b9 cQ dQ:Int) (dN:ByteArray) (dZ fB fV fM:Int) (fK:Bool) (fR:ByteArray)
noncomputable def Oq (n d:Nat) (gN:St C→Option (aa×Int)) (x:D6):Option (aa×Int):=iter (fun rec S=>run (xn n d) (Gh n) (au (ak Try.f42) [1,1,1,1,1,1,1,1,1,1,1,1,1,1,1,1,1,0,1,0,0,1,0,0,1,1,0,0,0]) 8 S (dq rec (cJ 8 (bf (run (xn n d) (Gh n) (au (ak Try.f42) [1,1,1,1,1,1,1,1,1,1,1,1,1,1,1,1,1,0,1,0,0,1,0,0,1,1,1]) 7) (cJ 7 (bf (run (xn n d) (Gh n) (au (ak Try.f42) [1,1,1,1,1,1,1,1,1,1,1,1,1,1,1,1,1,0,1,0,0,1,1]) 6) (dq (gR [3,4,6,9,10,13,15] gN) (cJ 6 (bf (run (xn n d) (Gh n) (au (ak Try.f42) [1,1,1,1,1,1,1,1,1,1,1,1,1,1,1,1,1,1]) 0) (nG (xn n d) Try.f42 rj)))))))))) [3,4,6,9,10,13,15,16,17] n (aap x0 x1 x2 x4 x5 x6 x7 x8 x9 aM aS aQ aZ aV aY aW bq bC bz bD aR bF aX bI bB bt bA bR bZ b9 cQ dQ dN dZ fB fV fM fK fR x)
theorem abw (n d:Nat) (gN:St C→Option (aa×Int)) (x:D6):Oq x0 x1 x2 x4 x5 x6 x7 x8 x9 aM aS aQ aZ aV aY aW bq bC bz bD aR bF aX bI bB bt bA bR bZ b9 cQ dQ dN dZ fB fV fM fK fR n d gN x=cu (GM x2 bC bA dN dZ fB fV fM fK fR n (rA n d) (fun x=>gN (Sd x0 x1 x4 x5 x6 x7 x8 x9 aM aS aQ aZ aV aY aW bq bz bD aR bF aX bI bB bt bR bZ b9 cQ dQ x))) n x:=by
 refine iter_eq _ _ (fun zQ x3=>?_) n x
 kernel_rfl
end
section
variable (x0 x1:Int) (x3:ByteArray) (x4 x5 x6 x7:Int) (x8:Bool) (x9:List (C .eC)) (aM:Bool) (aS:Int) (aQ:List (C .aA)) (aZ:List (C .aC)) (aV:List (C .ay)) (aY:Int) (aW:List (C .aA)) (bC:List (C .ay)) (bz:ByteArray) (bD:Int) (aR:Bool) (bF aX bI bB bA bR bZ b9 cQ:Int)
noncomputable def iq (n d:Nat)  (x:wN):Option (aa×Int):=iter (fun rec S=>run (xn n d) (Gh n) (au (ak Try.f42) [1,1,1,1,1,1,1,1,1,1,1,1,1,1,1,1,1,0,1,0,0]) 6 S (dq rec (cJ 6 (bf (run (xn n d) (Gh n) (au (ak Try.f42) [1,1,1,1,1,1,1,1,1,1,1,1,1,1,1,1,1,1]) 0) (nG (xn n d) Try.f42 rj))))) [3,4,6,9,10,13,15] n (Sd x0 x1 x3 x4 x5 x6 x7 x8 x9 aM aS aQ aZ aV aY aW bC bz bD aR bF aX bI bB bA bR bZ b9 cQ x)
theorem abx (n d:Nat)  (x:wN):iq x0 x1 x3 x4 x5 x6 x7 x8 x9 aM aS aQ aZ aV aY aW bC bz bD aR bF aX bI bB bA bR bZ b9 cQ n d  x=cu (jj x0 x1 x3 x5 aM aW bC bz aR bF aX bI bB bA bR bZ b9 cQ n (rA n d) ) n x:=by
 refine iter_eq _ _ (fun gN x=>?_) n x;obtain ⟨x2,bq,bt⟩:=x
 refine Eq.trans (b:=
  cond (decide (x2<x5))
  (Oq x0 x1 x2 x3 x4 x5 x6 x7 x8 x9 aM aS aQ aZ aV aY aW bq bC bz bD aR bF aX bI bB bt bA bR bZ b9 cQ x3 bt x1 bF 1 false (⟨#[]⟩:ByteArray) n d gN 0)
  (cond (decide (0≤x0)) (cond (decide (x0<(aW.length:Int))) (Option.bind aW[x0.toNat]? fun e23=>cond aM
  (cond (decide ((0:Int)≤0)) (cond (decide ((0:Int)≤x0)) (cond (decide (x0≤((aW.set x0.toNat (⟨bz,x1,aR,bF,aX,bI,bB,bt,bA,bR,bZ,b9,cQ⟩:af)).length:Int))) (cond (decide (((([]:List (C .aA))).length+(((aW.set x0.toNat (⟨bz,x1,aR,bF,aX,bI,bB,bt,bA,bR,bZ,b9,cQ⟩:af)).take x0.toNat).drop ((0:Int).toNat)).length)*112≤140737488355328)) (cond (decide ((0:Int)≤IntKind.i64.wrap (x0+1))) (cond (decide ((IntKind.i64.wrap (x0+1):Int)≤((aW.set x0.toNat (⟨bz,x1,aR,bF,aX,bI,bB,bt,bA,bR,bZ,b9,cQ⟩:af)).length:Int))) (cond (decide (((aW.set x0.toNat (⟨bz,x1,aR,bF,aX,bI,bB,bt,bA,bR,bZ,b9,cQ⟩:af)).length:Int)≤((aW.set x0.toNat (⟨bz,x1,aR,bF,aX,bI,bB,bt,bA,bR,bZ,b9,cQ⟩:af)).length:Int))) (cond (decide ((((([]:List (C .aA)))++(((aW.set x0.toNat (⟨bz,x1,aR,bF,aX,bI,bB,bt,bA,bR,bZ,b9,cQ⟩:af)).take x0.toNat).drop ((0:Int).toNat))).length+(((aW.set x0.toNat (⟨bz,x1,aR,bF,aX,bI,bB,bt,bA,bR,bZ,b9,cQ⟩:af)).take ((((aW.set x0.toNat (⟨bz,x1,aR,bF,aX,bI,bB,bt,bA,bR,bZ,b9,cQ⟩:af)).length:Int)).toNat)).drop ((IntKind.i64.wrap (x0+1):Int).toNat)).length)*112≤140737488355328)) (some ((⟨x1,((([]:List (C .aA)))++(((aW.set x0.toNat (⟨bz,x1,aR,bF,aX,bI,bB,bt,bA,bR,bZ,b9,cQ⟩:af)).take x0.toNat).drop ((0:Int).toNat)))++(((aW.set x0.toNat (⟨bz,x1,aR,bF,aX,bI,bB,bt,bA,bR,bZ,b9,cQ⟩:af)).take ((((aW.set x0.toNat (⟨bz,x1,aR,bF,aX,bI,bB,bt,bA,bR,bZ,b9,cQ⟩:af)).length:Int)).toNat)).drop ((IntKind.i64.wrap (x0+1):Int).toNat)),bq,bC⟩:aa),0)) none) none) none) none) none) none) none) none)
  (some ((⟨x1,aW.set x0.toNat (⟨bz,x1,aR,bF,aX,bI,bB,bt,bA,bR,bZ,b9,cQ⟩:af),bq,bC⟩:aa),0))) none) none)) (by kernel_rfl) ?_
 simp only [abw];rfl
end
section
variable (x0 x1 x3:Int) (x4:List (C .aA)) (x5:List (C .aC)) (x6:List (C .ay)) (x7:ByteArray) (x8 x9 aM aS:Int) (aQ:Bool) (aZ:List (C .eC)) (aV:Bool) (aY:Int) (aW:List (C .aA)) (bq:List (C .aC)) (bC:List (C .ay)) (bz:Int) (bD:List (C .aA)) (bF:List (C .ay))
noncomputable def Ot (n d:Nat)  (x:D7):Option (aa×Int):=iter (fun rec S=>run (xn n d) (Gh n) (au (ak Try.f42) [1,1,1,1,1,1,1,1,1,0,1,0,0]) 4 S (dq rec (cJ 4 (bf (run (xn n d) (Gh n) (au (ak Try.f42) [1,1,1,1,1,1,1,1,1,1]) 0) (nG (xn n d) Try.f42 rj))))) [2,3,4,6,9,10,11] n (Se x0 x1 x3 x4 x5 x6 x7 x8 x9 aM aS aQ aZ aV aY aW bq bC bz bD bF x)
theorem aby (n d:Nat)  (x:D7):Ot x0 x1 x3 x4 x5 x6 x7 x8 x9 aM aS aQ aZ aV aY aW bq bC bz bD bF n d  x=cu (GN x0 x1 x3 x4 x5 x6 x7 x9 aM aS aQ aZ aV bz bD bF n (rA n d) ) n x:=by
 refine iter_eq _ _ (fun de x=>?_) n x;obtain ⟨x2,aR⟩:=x
 refine Eq.trans (b:=
  cond (decide (x2<(aZ.length:Int)))
  (cond (decide (0≤x2)) (Option.bind aZ[x2.toNat]? fun CX=>Option.bind (Pq (⟨bz,bD,aR,bF⟩:aa) x7 CX.Number) fun lC=>
  cond (!lC)
  (some ((⟨x3,x4,x5,x6⟩:aa),5))
  (cond (decide (0≤x2)) (Option.bind aZ[x2.toNat]? fun Po=>Option.bind (JR (⟨bz,bD,aR,bF⟩:aa) x7 Po.Number) fun eU=>
  cond (decide (0≤eU)) (cond (decide (eU<(aR.length:Int))) (Option.bind aR[eU.toNat]? fun mg=>cond (decide (0≤eU)) (cond (decide (eU<((aR.set eU.toNat (⟨mg.ax,mg.Number,mg.Version,mg.aB,mg.State,true,mg.bw⟩:aq)).length:Int))) (Option.bind (aR.set eU.toNat (⟨mg.ax,mg.Number,mg.Version,mg.aB,mg.State,true,mg.bw⟩:aq))[eU.toNat]? fun dV=>(fun x=>de (Se x0 x1 x3 x4 x5 x6 x7 x8 x9 aM aS aQ aZ aV aY aW bq bC bz bD bF x)) ((IntKind.i64.wrap (x2+1),(aR.set eU.toNat (⟨mg.ax,mg.Number,mg.Version,mg.aB,mg.State,true,mg.bw⟩:aq)).set eU.toNat (⟨dV.ax,dV.Number,x1,dV.aB,dV.State,dV.Ending,dV.bw⟩:aq)))) none) none) none) none) none)) none)
  (cond (decide (0≤x0)) (cond (decide (x0<(bD.length:Int))) (Option.bind bD[x0.toNat]? fun aK=>Option.bind (Dn (⟨x3,x4,x5,x6⟩:aa) x7) fun xc=>
  cond aV
  (cond (!aK.cC)
  (some ((⟨x3,x4,x5,x6⟩:aa),6))
  (cond (decide ((IntKind.i64.wrap (xc.Live+xc.Ending))>0))
  (some ((⟨x3,x4,x5,x6⟩:aa),6))
  (cond aQ
  (cond (decide (x9>0))
  (cond aK.cC
  (some ((⟨x3,x4,x5,x6⟩:aa),6))
  (Option.bind (Dn (⟨bz,bD,aR,bF⟩:aa) x7) fun pA=>
  cond (decide ((IntKind.i64.wrap (pA.Live+x9))>(IntKind.i64.wrap (aM+aK.ct))))
  (some ((⟨x3,x4,x5,x6⟩:aa),6))
  (cond aQ
  (cond (aK.dA==0)
  (some ((⟨x3,x4,x5,x6⟩:aa),6))
  (Option.bind (lB aM aK.aP aK.bN) fun fU=>
  cond (!fU)
  (some ((⟨x3,x4,x5,x6⟩:aa),6))
  (cond (decide ((IntKind.i64.wrap ((x5.length:Int)+x9))>200))
  (some ((⟨x3,x4,x5,x6⟩:aa),7))
  (cond (decide ((IntKind.i64.wrap (aK.Next+x9))>1000000))
  (some ((⟨x3,x4,x5,x6⟩:aa),7))
  (cond (decide (x3≥1000000))
  (some ((⟨x3,x4,x5,x6⟩:aa),7))
  (iq x0 x1 x7 x8 x9 aM aS aQ aZ aV aY aW bq bC bz bD bF aK.Name aK.Version aK.cC aK.aB aM aK.Down aK.ct aK.dA aK.aP aK.bN aK.cK aS n d  (0,aR,aK.Next)))))))
  (cond (decide ((IntKind.i64.wrap ((x5.length:Int)+x9))>200))
  (some ((⟨x3,x4,x5,x6⟩:aa),7))
  (cond (decide ((IntKind.i64.wrap (aK.Next+x9))>1000000))
  (some ((⟨x3,x4,x5,x6⟩:aa),7))
  (cond (decide (x3≥1000000))
  (some ((⟨x3,x4,x5,x6⟩:aa),7))
  (iq x0 x1 x7 x8 x9 aM aS aQ aZ aV aY aW bq bC bz bD bF aK.Name aK.Version aK.cC aK.aB aM aK.Down aK.ct aK.dA aK.aP aK.bN aK.cK aS n d  (0,aR,aK.Next))))))))
  (cond aQ
  (cond (aK.dA==0)
  (some ((⟨x3,x4,x5,x6⟩:aa),6))
  (Option.bind (lB aM aK.aP aK.bN) fun gv=>
  cond (!gv)
  (some ((⟨x3,x4,x5,x6⟩:aa),6))
  (cond (decide ((IntKind.i64.wrap ((x5.length:Int)+x9))>200))
  (some ((⟨x3,x4,x5,x6⟩:aa),7))
  (cond (decide ((IntKind.i64.wrap (aK.Next+x9))>1000000))
  (some ((⟨x3,x4,x5,x6⟩:aa),7))
  (cond (decide (x3≥1000000))
  (some ((⟨x3,x4,x5,x6⟩:aa),7))
  (iq x0 x1 x7 x8 x9 aM aS aQ aZ aV aY aW bq bC bz bD bF aK.Name aK.Version aK.cC aK.aB aM aK.Down aK.ct aK.dA aK.aP aK.bN aK.cK aS n d  (0,aR,aK.Next)))))))
  (cond (decide ((IntKind.i64.wrap ((x5.length:Int)+x9))>200))
  (some ((⟨x3,x4,x5,x6⟩:aa),7))
  (cond (decide ((IntKind.i64.wrap (aK.Next+x9))>1000000))
  (some ((⟨x3,x4,x5,x6⟩:aa),7))
  (cond (decide (x3≥1000000))
  (some ((⟨x3,x4,x5,x6⟩:aa),7))
  (iq x0 x1 x7 x8 x9 aM aS aQ aZ aV aY aW bq bC bz bD bF aK.Name aK.Version aK.cC aK.aB aM aK.Down aK.ct aK.dA aK.aP aK.bN aK.cK aS n d  (0,aR,aK.Next)))))))
  (cond (decide (x9>0))
  (cond aK.cC
  (some ((⟨x3,x4,x5,x6⟩:aa),6))
  (Option.bind (Dn (⟨bz,bD,aR,bF⟩:aa) x7) fun dP=>
  cond (decide ((IntKind.i64.wrap (dP.Live+x9))>(IntKind.i64.wrap (aK.Want+aK.ct))))
  (some ((⟨x3,x4,x5,x6⟩:aa),6))
  (cond aQ
  (cond (aK.dA==0)
  (some ((⟨x3,x4,x5,x6⟩:aa),6))
  (Option.bind (lB aM aK.aP aK.bN) fun tJ=>
  cond (!tJ)
  (some ((⟨x3,x4,x5,x6⟩:aa),6))
  (cond (decide ((IntKind.i64.wrap ((x5.length:Int)+x9))>200))
  (some ((⟨x3,x4,x5,x6⟩:aa),7))
  (cond (decide ((IntKind.i64.wrap (aK.Next+x9))>1000000))
  (some ((⟨x3,x4,x5,x6⟩:aa),7))
  (cond (decide (x3≥1000000))
  (some ((⟨x3,x4,x5,x6⟩:aa),7))
  (iq x0 x1 x7 x8 x9 aM aS aQ aZ aV aY aW bq bC bz bD bF aK.Name aK.Version aK.cC aK.aB aK.Want aK.Down aK.ct aK.dA aK.aP aK.bN aK.cK aK.cE n d  (0,aR,aK.Next)))))))
  (cond (decide ((IntKind.i64.wrap ((x5.length:Int)+x9))>200))
  (some ((⟨x3,x4,x5,x6⟩:aa),7))
  (cond (decide ((IntKind.i64.wrap (aK.Next+x9))>1000000))
  (some ((⟨x3,x4,x5,x6⟩:aa),7))
  (cond (decide (x3≥1000000))
  (some ((⟨x3,x4,x5,x6⟩:aa),7))
  (iq x0 x1 x7 x8 x9 aM aS aQ aZ aV aY aW bq bC bz bD bF aK.Name aK.Version aK.cC aK.aB aK.Want aK.Down aK.ct aK.dA aK.aP aK.bN aK.cK aK.cE n d  (0,aR,aK.Next))))))))
  (cond aQ
  (cond (aK.dA==0)
  (some ((⟨x3,x4,x5,x6⟩:aa),6))
  (Option.bind (lB aM aK.aP aK.bN) fun P9=>
  cond (!P9)
  (some ((⟨x3,x4,x5,x6⟩:aa),6))
  (cond (decide ((IntKind.i64.wrap ((x5.length:Int)+x9))>200))
  (some ((⟨x3,x4,x5,x6⟩:aa),7))
  (cond (decide ((IntKind.i64.wrap (aK.Next+x9))>1000000))
  (some ((⟨x3,x4,x5,x6⟩:aa),7))
  (cond (decide (x3≥1000000))
  (some ((⟨x3,x4,x5,x6⟩:aa),7))
  (iq x0 x1 x7 x8 x9 aM aS aQ aZ aV aY aW bq bC bz bD bF aK.Name aK.Version aK.cC aK.aB aK.Want aK.Down aK.ct aK.dA aK.aP aK.bN aK.cK aK.cE n d  (0,aR,aK.Next)))))))
  (cond (decide ((IntKind.i64.wrap ((x5.length:Int)+x9))>200))
  (some ((⟨x3,x4,x5,x6⟩:aa),7))
  (cond (decide ((IntKind.i64.wrap (aK.Next+x9))>1000000))
  (some ((⟨x3,x4,x5,x6⟩:aa),7))
  (cond (decide (x3≥1000000))
  (some ((⟨x3,x4,x5,x6⟩:aa),7))
  (iq x0 x1 x7 x8 x9 aM aS aQ aZ aV aY aW bq bC bz bD bF aK.Name aK.Version aK.cC aK.aB aK.Want aK.Down aK.ct aK.dA aK.aP aK.bN aK.cK aK.cE n d  (0,aR,aK.Next))))))))))
  (cond aQ
  (cond (decide (x9>0))
  (cond aK.cC
  (some ((⟨x3,x4,x5,x6⟩:aa),6))
  (Option.bind (Dn (⟨bz,bD,aR,bF⟩:aa) x7) fun E0=>
  cond (decide ((IntKind.i64.wrap (E0.Live+x9))>(IntKind.i64.wrap (aM+aK.ct))))
  (some ((⟨x3,x4,x5,x6⟩:aa),6))
  (cond aQ
  (cond (aK.dA==0)
  (some ((⟨x3,x4,x5,x6⟩:aa),6))
  (Option.bind (lB aM aK.aP aK.bN) fun P8=>
  cond (!P8)
  (some ((⟨x3,x4,x5,x6⟩:aa),6))
  (cond (decide ((IntKind.i64.wrap ((x5.length:Int)+x9))>200))
  (some ((⟨x3,x4,x5,x6⟩:aa),7))
  (cond (decide ((IntKind.i64.wrap (aK.Next+x9))>1000000))
  (some ((⟨x3,x4,x5,x6⟩:aa),7))
  (cond (decide (x3≥1000000))
  (some ((⟨x3,x4,x5,x6⟩:aa),7))
  (iq x0 x1 x7 x8 x9 aM aS aQ aZ aV aY aW bq bC bz bD bF aK.Name aK.Version aK.cC aK.aB aM aK.Down aK.ct aK.dA aK.aP aK.bN aK.cK aS n d  (0,aR,aK.Next)))))))
  (cond (decide ((IntKind.i64.wrap ((x5.length:Int)+x9))>200))
  (some ((⟨x3,x4,x5,x6⟩:aa),7))
  (cond (decide ((IntKind.i64.wrap (aK.Next+x9))>1000000))
  (some ((⟨x3,x4,x5,x6⟩:aa),7))
  (cond (decide (x3≥1000000))
  (some ((⟨x3,x4,x5,x6⟩:aa),7))
  (iq x0 x1 x7 x8 x9 aM aS aQ aZ aV aY aW bq bC bz bD bF aK.Name aK.Version aK.cC aK.aB aM aK.Down aK.ct aK.dA aK.aP aK.bN aK.cK aS n d  (0,aR,aK.Next))))))))
  (cond aQ
  (cond (aK.dA==0)
  (some ((⟨x3,x4,x5,x6⟩:aa),6))
  (Option.bind (lB aM aK.aP aK.bN) fun P7=>
  cond (!P7)
  (some ((⟨x3,x4,x5,x6⟩:aa),6))
  (cond (decide ((IntKind.i64.wrap ((x5.length:Int)+x9))>200))
  (some ((⟨x3,x4,x5,x6⟩:aa),7))
  (cond (decide ((IntKind.i64.wrap (aK.Next+x9))>1000000))
  (some ((⟨x3,x4,x5,x6⟩:aa),7))
  (cond (decide (x3≥1000000))
  (some ((⟨x3,x4,x5,x6⟩:aa),7))
  (iq x0 x1 x7 x8 x9 aM aS aQ aZ aV aY aW bq bC bz bD bF aK.Name aK.Version aK.cC aK.aB aM aK.Down aK.ct aK.dA aK.aP aK.bN aK.cK aS n d  (0,aR,aK.Next)))))))
  (cond (decide ((IntKind.i64.wrap ((x5.length:Int)+x9))>200))
  (some ((⟨x3,x4,x5,x6⟩:aa),7))
  (cond (decide ((IntKind.i64.wrap (aK.Next+x9))>1000000))
  (some ((⟨x3,x4,x5,x6⟩:aa),7))
  (cond (decide (x3≥1000000))
  (some ((⟨x3,x4,x5,x6⟩:aa),7))
  (iq x0 x1 x7 x8 x9 aM aS aQ aZ aV aY aW bq bC bz bD bF aK.Name aK.Version aK.cC aK.aB aM aK.Down aK.ct aK.dA aK.aP aK.bN aK.cK aS n d  (0,aR,aK.Next)))))))
  (cond (decide (x9>0))
  (cond aK.cC
  (some ((⟨x3,x4,x5,x6⟩:aa),6))
  (Option.bind (Dn (⟨bz,bD,aR,bF⟩:aa) x7) fun xb=>
  cond (decide ((IntKind.i64.wrap (xb.Live+x9))>(IntKind.i64.wrap (aK.Want+aK.ct))))
  (some ((⟨x3,x4,x5,x6⟩:aa),6))
  (cond aQ
  (cond (aK.dA==0)
  (some ((⟨x3,x4,x5,x6⟩:aa),6))
  (Option.bind (lB aM aK.aP aK.bN) fun r32=>
  cond (!r32)
  (some ((⟨x3,x4,x5,x6⟩:aa),6))
  (cond (decide ((IntKind.i64.wrap ((x5.length:Int)+x9))>200))
  (some ((⟨x3,x4,x5,x6⟩:aa),7))
  (cond (decide ((IntKind.i64.wrap (aK.Next+x9))>1000000))
  (some ((⟨x3,x4,x5,x6⟩:aa),7))
  (cond (decide (x3≥1000000))
  (some ((⟨x3,x4,x5,x6⟩:aa),7))
  (iq x0 x1 x7 x8 x9 aM aS aQ aZ aV aY aW bq bC bz bD bF aK.Name aK.Version aK.cC aK.aB aK.Want aK.Down aK.ct aK.dA aK.aP aK.bN aK.cK aK.cE n d  (0,aR,aK.Next)))))))
  (cond (decide ((IntKind.i64.wrap ((x5.length:Int)+x9))>200))
  (some ((⟨x3,x4,x5,x6⟩:aa),7))
  (cond (decide ((IntKind.i64.wrap (aK.Next+x9))>1000000))
  (some ((⟨x3,x4,x5,x6⟩:aa),7))
  (cond (decide (x3≥1000000))
  (some ((⟨x3,x4,x5,x6⟩:aa),7))
  (iq x0 x1 x7 x8 x9 aM aS aQ aZ aV aY aW bq bC bz bD bF aK.Name aK.Version aK.cC aK.aB aK.Want aK.Down aK.ct aK.dA aK.aP aK.bN aK.cK aK.cE n d  (0,aR,aK.Next))))))))
  (cond aQ
  (cond (aK.dA==0)
  (some ((⟨x3,x4,x5,x6⟩:aa),6))
  (Option.bind (lB aM aK.aP aK.bN) fun r33=>
  cond (!r33)
  (some ((⟨x3,x4,x5,x6⟩:aa),6))
  (cond (decide ((IntKind.i64.wrap ((x5.length:Int)+x9))>200))
  (some ((⟨x3,x4,x5,x6⟩:aa),7))
  (cond (decide ((IntKind.i64.wrap (aK.Next+x9))>1000000))
  (some ((⟨x3,x4,x5,x6⟩:aa),7))
  (cond (decide (x3≥1000000))
  (some ((⟨x3,x4,x5,x6⟩:aa),7))
  (iq x0 x1 x7 x8 x9 aM aS aQ aZ aV aY aW bq bC bz bD bF aK.Name aK.Version aK.cC aK.aB aK.Want aK.Down aK.ct aK.dA aK.aP aK.bN aK.cK aK.cE n d  (0,aR,aK.Next)))))))
  (cond (decide ((IntKind.i64.wrap ((x5.length:Int)+x9))>200))
  (some ((⟨x3,x4,x5,x6⟩:aa),7))
  (cond (decide ((IntKind.i64.wrap (aK.Next+x9))>1000000))
  (some ((⟨x3,x4,x5,x6⟩:aa),7))
  (cond (decide (x3≥1000000))
  (some ((⟨x3,x4,x5,x6⟩:aa),7))
  (iq x0 x1 x7 x8 x9 aM aS aQ aZ aV aY aW bq bC bz bD bF aK.Name aK.Version aK.cC aK.aB aK.Want aK.Down aK.ct aK.dA aK.aP aK.bN aK.cK aK.cE n d  (0,aR,aK.Next))))))))) none) none)) (by kernel_rfl) ?_
 simp only [abx];rfl
end
section
variable (x0 x2:Int) (x3:List (C .aA)) (x4:List (C .aC)) (x5:List (C .ay)) (x6:ByteArray) (x7 x8 x9 aM:Int) (aS:Bool) (aQ:List (C .eC)) (aZ:Bool) (aV:Int) (aY:List (C .aA)) (aW:List (C .aC)) (bq:List (C .ay))
noncomputable def Ou (n d:Nat)  (x:D8):Option (aa×Int):=iter (fun rec S=>run (xn n d) (Gh n) (au (ak Try.f42) [1,1,1,1,1,1,0,1,0,0]) 2 S (dq rec (cJ 2 (bf (run (xn n d) (Gh n) (au (ak Try.f42) [1,1,1,1,1,1,1]) 0) (nG (xn n d) Try.f42 rj))))) [2,3,4,6,8] n (Sf x0 x2 x3 x4 x5 x6 x7 x8 x9 aM aS aQ aZ aV aY aW bq x)
theorem abz (n d:Nat)  (x:D8):Ou x0 x2 x3 x4 x5 x6 x7 x8 x9 aM aS aQ aZ aV aY aW bq n d  x=cu (GP x0 x2 x3 x4 x5 x6 x8 x9 aM aS aQ aZ n (rA n d) ) n x:=by
 refine iter_eq _ _ (fun eW x1=>?_) n x
 refine Eq.trans (b:=
  cond (decide (x1<(aQ.length:Int)))
  (cond (decide (0≤x1)) (Option.bind aQ[x1.toNat]? fun e6=>Option.bind (JR (⟨x2,x3,x4,x5⟩:aa) x6 e6.Number) fun r7=>
  cond (decide (0≤r7)) (Option.bind x4[r7.toNat]? fun e8=>cond (decide (0≤x1)) (Option.bind aQ[x1.toNat]? fun e9=>cond (e8.Version != e9.Seen)
  (some ((⟨x2,x3,x4,x5⟩:aa),4))
  ((fun x=>eW (Sf x0 x2 x3 x4 x5 x6 x7 x8 x9 aM aS aQ aZ aV aY aW bq x)) (IntKind.i64.wrap (x1+1)))) none) none) none)
  (Option.bind (zi (⟨x2,x3,x4,x5⟩:aa)) fun iJ=>
  Ot x0 (IntKind.i64.wrap (x2+1)) x2 x3 x4 x5 x6 x7 x8 x9 aM aS aQ aZ aV aY aW bq iJ.b8 iJ.ae iJ.aj n d  (0,iJ.ai))) (by kernel_rfl) ?_
 simp only [aby];rfl
end
section
variable (x0 x2:Int) (x3:List (C .aA)) (x4:List (C .aC)) (x5:List (C .ay)) (x6:ByteArray) (x7 x8 x9 aM:Int) (aS:Bool) (aQ:List (C .eC)) (aZ:Bool) (aV:Int) (aY:List (C .aA)) (aW:List (C .aC)) (bq:List (C .ay))
noncomputable def Ov (n d:Nat)  (x:D9):Option (aa×Int):=iter (fun rec S=>run (xn n d) (Gh n) (au (ak Try.f42) [1,1,1,1,0,1,0,0]) 0 S (dq rec (cJ 0 (bf (run (xn n d) (Gh n) (au (ak Try.f42) [1,1,1,1,1]) 0) (nG (xn n d) Try.f42 rj))))) [2,3,4,6,7] n (Sg x0 x2 x3 x4 x5 x6 x7 x8 x9 aM aS aQ aZ aV aY aW bq x)
theorem abA (n d:Nat)  (x:D9):Ov x0 x2 x3 x4 x5 x6 x7 x8 x9 aM aS aQ aZ aV aY aW bq n d  x=cu (Lm x0 x2 x3 x4 x5 x6 x7 x8 x9 aM aS aQ aZ n (rA n d) ) n x:=by
 refine iter_eq _ _ (fun bu x1=>?_) n x
 refine Eq.trans (b:=
  cond (decide (x1<(aQ.length:Int)))
  (cond (decide (0≤x1)) (Option.bind aQ[x1.toNat]? fun e3=>Option.bind (JR (⟨x2,x3,x4,x5⟩:aa) x6 e3.Number) fun r4=>
  cond (decide (r4<0))
  (some ((⟨x2,x3,x4,x5⟩:aa),3))
  ((fun x=>bu (Sg x0 x2 x3 x4 x5 x6 x7 x8 x9 aM aS aQ aZ aV aY aW bq x)) (IntKind.i64.wrap (x1+1)))) none)
  (cond (decide (0≤x0)) (Option.bind x3[x0.toNat]? fun e5=>cond (e5.Version != x7)
  (some ((⟨x2,x3,x4,x5⟩:aa),4))
  (Ou x0 x2 x3 x4 x5 x6 x7 x8 x9 aM aS aQ aZ aV aY aW bq n d  0)) none)) (by kernel_rfl) ?_
 simp only [abz];rfl
end
theorem t42 (n d:Nat) (a0:Int) (a1:List (C .aA)) (a2:List (C .aC)) (a3:List (C .ay)) (a4:ByteArray) (a5 a6 a7 a8:Int) (a9:Bool) (Dj:List (C .eC)) (AO:Bool):iD (xn n d) (Gh n) Try.f42 (Bo n (d+1)) [.agg [.int .i64 a0,.row .aA a1,.row .aC a2,.row .ay a3],.agg [.str a4,.int .i64 a5,.int .i64 a6,.int .i64 a7,.int .i64 a8,.bool a9,.row .eC Dj,.bool AO]] [] rj=Ye n (rA n d) a0 a1 a2 a3 a4 a5 a6 a7 a8 a9 Dj AO:=by
 have h:iD (xn n d) (Gh n) Try.f42 (Bo n (d+1)) [.agg [.int .i64 a0,.row .aA a1,.row .aC a2,.row .ay a3],.agg [.str a4,.int .i64 a5,.int .i64 a6,.int .i64 a7,.int .i64 a8,.bool a9,.row .eC Dj,.bool AO]] [] rj =
  Option.bind (G81 (⟨a4,a5,a6,a7,a8,a9,Dj,AO⟩:bJ)) fun r1=>
  cond (!r1)
  (some ((⟨a0,a1,a2,a3⟩:aa),2))
  (Option.bind (OO (⟨a0,a1,a2,a3⟩:aa) a4) fun r2=>
  cond (decide (r2<0))
  (some ((⟨a0,a1,a2,a3⟩:aa),3))
  (Ov r2 a0 a1 a2 a3 a4 a5 a6 a7 a8 a9 Dj AO 0 (([]:List (C .aA))) (([]:List (C .aC))) (([]:List (C .ay))) n d  0)):=by kernel_rfl
 simp only [h,Ye,abA]
noncomputable def I42 (n:Nat):mP C:=dH (Bo n n)
theorem i42d (n:Nat):∀ d:Nat,dx Try.prog KK 42 (dH (Bo n d))
 | 0=>iL (fn:=Try.f42) (by kernel_rfl) (by kernel_rfl) (iY (by kernel_rfl)) _ (fun vs O=>by simp only [Bo];split<;>rfl)
 | d+1=>by
  have ih:=i42d n d;have x:je Try.prog (xn n d):=jG;have q:Cons Try.prog (xn n d):=gO ⟨Re,c27,c32,c66,c69,c81,c82,c83,trivial⟩ trivial ⟨ih,trivial⟩;refine lP x q (by kernel_rfl) (f:=42) (fn:=Try.f42) (c:=ak Try.f42) (by kernel_rfl) (by kernel_rfl) (by kernel_rfl) (iY (by kernel_rfl)) (Bo n (d+1)) (Nat.le_of_ble_eq_true (by kernel_rfl)) rj (fun os ls rs r0 h=>?_) (fun vs O r0 hk h=>?_)
  ·unfold rj at h
   split at h
   ·cases h;exact ⟨rfl,rfl,rfl⟩
   ·cases h
  ·simp only [Bo] at h
   split at h
   ·rename_i y0 y1 y2 y3 y4 y5 y6 y7 y8 y9 Uu Ut
    exact ⟨mf (by kernel_rfl) (by kernel_rfl) (by kernel_rfl) (by kernel_rfl) (by kernel_rfl) (by kernel_rfl) (by kernel_rfl) (by kernel_rfl) (by kernel_rfl),Nat.le_of_ble_eq_true (by kernel_rfl),Gh n,(t42 n d y0 y1 y2 y3 y4 y5 y6 y7 y8 y9 Uu Ut).trans h⟩
   ·cases h
theorem i42 (n:Nat):dx Try.prog KK 42 (I42 n):=i42d n n
end Go.Proofs.Ytipemmgoipbojaa.Ab
set_option maxRecDepth 100000
namespace Go.Proofs.Ytipemmgoipbojaa.Ab
open Go Go.RowKit
noncomputable def X14 (n:Nat):Cx C:=fT [(10,yU),(27,yT)] [] [(42,I42 n)] [4,6,7,12,15,16,17] 917504 []
def F14 (n:Nat):Cf:={ N:=n,keep:=[0,1,2,3,4,5,6,7,10],live:=lk [] }
noncomputable abbrev dec14:=jB KK [.el .dv,.int .i64]
noncomputable def Xx (n:Nat) (a0:aa) (a1:bJ):Option (aa×Int):=
 Option.bind (JG a0) fun r1=>
 cond (!r1)
 (some ((⟨0,([]:List (C .aA)),([]:List (C .aC)),([]:List (C .ay))⟩:aa),1))
 (Option.bind ((rA n n) a0.b8 a0.ae a0.ai a0.aj a1.ax a1.Seen a1.iI a1.Want a1.cE a1.nJ a1.Ends a1.Drop) fun r2=>
 Option.bind (zi r2.1) fun r3=>
 some (r3,r2.2))
theorem t14 (n:Nat) (a0:aa) (a1:bJ):dG (X14 n) (F14 n) Try.f14 [.agg [.int .i64 a0.b8,.row .aA a0.ae,.row .aC a0.ai,.row .ay a0.aj],.agg [.str a1.ax,.int .i64 a1.Seen,.int .i64 a1.iI,.int .i64 a1.Want,.int .i64 a1.cE,.bool a1.nJ,.row .eC a1.Ends,.bool a1.Drop]] dec14=Xx n a0 a1:=by
 kernel_rfl
noncomputable def G14 (a0:aa) (a1:bJ):Option (aa×Int):=Xx fuel a0 a1
noncomputable def TP:iK C:=lD KK [.el .dv,.el .kF] [.el .dv,.int .i64] G14
theorem c14:dm Try.prog KK 14 TP:=cO (gO ⟨c10,c27,trivial⟩ trivial ⟨i42 _,trivial⟩:Cons Try.prog (X14 fuel)) (fn:=Try.f14) (by kernel_rfl) (by kernel_rfl) (by kernel_rfl) (by kernel_rfl) (F14 fuel) (by kernel_rfl) (fun a0 a1=>t14 fuel a0 a1)
noncomputable def X99:Cx C:=fT [] [] [] [] 6488064 []
def F99 (n:Nat):Cf:={ N:=n,keep:=[0,1,2,4,5,6,12,31],live:=lk [(0,[1,2,5,6])] }
noncomputable abbrev Tg:=jB KK [.row .e3]
abbrev Dz:Type:=List (C .e3)×Int
section
variable (x0:ByteArray) (x3:Int) (x4:List (C .aA)) (x5:List (C .aC)) (x6:List (C .ay))
def ZT:Dz→St C:=fun (x1,x2)=>{ env:=[(1,.one (.str x0)),(2,.one (.ptr 6488192 0)),(5,.one (.ref 100005 [])),(6,.one (.int .i64 x2))],ah:=[(100005,.row .e3 x1 false),(6488192,.box .mem [.int .i64 x3,.row .aA x4,.row .aC x5,.row .ay x6])],base:=0 }
end
noncomputable def K1 (x0:ByteArray) (x5:List (C .aC)) (n:Nat)   (bu:Dz→Option (List (C .e3))):Dz→Option (List (C .e3)):=fun (x1,x2)=>
 cond (decide (x2<(x5.length:Int)))
 (cond (decide (0≤x2)) (Option.bind x5[x2.toNat]? fun e1=>cond (decide (e1.ax=x0))
 (cond (decide (0≤x2)) (Option.bind x5[x2.toNat]? fun e2=>cond (!e2.Ending)
 (cond (decide ((x1.length+(([x2]:List (C .e3))).length)*8≤140737488355328)) (bu ((x1++(([x2]:List (C .e3))),IntKind.i64.wrap (x2+1)))) none)
 (bu ((x1,IntKind.i64.wrap (x2+1))))) none)
 (bu ((x1,IntKind.i64.wrap (x2+1))))) none)
 (some (x1))
section
variable (x0:ByteArray) (x3:Int) (x4:List (C .aA)) (x5:List (C .aC)) (x6:List (C .ay))
noncomputable def NU (n:Nat)  (x:Dz):Option (List (C .e3)):=iter (fun rec S=>run X99 (F99 n) (au (ak Try.f99) [1,1,0,1,0,0]) 0 S (dq rec (cJ 0 (bf (run X99 (F99 n) (au (ak Try.f99) [1,1,1]) 0) (eu X99 Try.f99 Tg))))) [1,2,5,6] n (ZT x0 x3 x4 x5 x6 x)
theorem aaX (n:Nat)  (x:Dz):NU x0 x3 x4 x5 x6 n  x=cu (K1 x0 x5 n  ) n x:=by
 refine iter_eq _ _ (fun bu x=>?_) n x;obtain ⟨x1,x2⟩:=x
 kernel_rfl
end
noncomputable def Rq (n:Nat) (a0:aa) (a1:ByteArray):Option (List (C .e3)):=
 cu (K1 a1 a0.ai n ) n ((([]:List (C .e3)),0))
theorem t99 (n:Nat) (a0:aa) (a1:ByteArray):dG X99 (F99 n) Try.f99 [.agg [.int .i64 a0.b8,.row .aA a0.ae,.row .aC a0.ai,.row .ay a0.aj],.one (.str a1)] Tg=Rq n a0 a1:=by
 refine Eq.trans (b:=
  NU a1 a0.b8 a0.ae a0.ai a0.aj n   ((([]:List (C .e3)),0))) (by kernel_rfl) ?_
 simp only [Rq,aaX]
noncomputable def Rr (a0:aa) (a1:ByteArray):Option (List (C .e3)):=Rq fuel a0 a1
noncomputable def C4:iK C:=lD KK [.el .dv,.str] [.row .e3] Rr
theorem c99:dm Try.prog KK 99 C4:=cO (gO trivial trivial trivial:Cons Try.prog X99) (fn:=Try.f99) (by kernel_rfl) (by kernel_rfl) (by kernel_rfl) (by kernel_rfl) (F99 fuel) (by kernel_rfl) (fun a0 a1=>t99 fuel a0 a1)
noncomputable def X97:Cx C:=fT [] [] [] [] 6356992 []
def F97 (n:Nat):Cf:={ N:=n,keep:=[0,1,2,4,5,6,11],live:=lk [(0,[1,2,5,6])] }
noncomputable abbrev Tj:=jB KK [.row .eC]
abbrev DB:Type:=List (C .eC)×Int
section
variable (x0:List (C .e3)) (x3:Int) (x4:List (C .aA)) (x5:List (C .aC)) (x6:List (C .ay))
def ZV:DB→St C:=fun (x1,x2)=>{ env:=[(1,.one (.row .e3 x0)),(2,.one (.ptr 6357120 0)),(5,.one (.ref 100005 [])),(6,.one (.int .i64 x2))],ah:=[(100005,.row .eC x1 false),(6357120,.box .mem [.int .i64 x3,.row .aA x4,.row .aC x5,.row .ay x6])],base:=0 }
end
noncomputable def K3 (x0:List (C .e3)) (x5:List (C .aC)) (n:Nat)   (bu:DB→Option (List (C .eC))):DB→Option (List (C .eC)):=fun (x1,x2)=>
 cond (decide (x2<(x0.length:Int)))
 (cond (decide (0≤x2)) (Option.bind x0[x2.toNat]? fun e1=>cond (decide (0≤e1)) (Option.bind x5[e1.toNat]? fun e2=>cond (decide (0≤x2)) (Option.bind x0[x2.toNat]? fun e3=>cond (decide (0≤e3)) (Option.bind x5[e3.toNat]? fun e4=>cond (decide ((x1.length+(([(⟨e2.Number,e4.Version⟩:lA)]:List (C .eC))).length)*16≤140737488355328)) (bu ((x1++(([(⟨e2.Number,e4.Version⟩:lA)]:List (C .eC))),IntKind.i64.wrap (x2+1)))) none) none) none) none) none)
 (some (x1))
section
variable (x0:List (C .e3)) (x3:Int) (x4:List (C .aA)) (x5:List (C .aC)) (x6:List (C .ay))
noncomputable def NW (n:Nat)  (x:DB):Option (List (C .eC)):=iter (fun rec S=>run X97 (F97 n) (au (ak Try.f97) [1,1,0,1,0,0]) 0 S (dq rec (cJ 0 (bf (run X97 (F97 n) (au (ak Try.f97) [1,1,1]) 0) (eu X97 Try.f97 Tj))))) [1,2,5,6] n (ZV x0 x3 x4 x5 x6 x)
theorem aaZ (n:Nat)  (x:DB):NW x0 x3 x4 x5 x6 n  x=cu (K3 x0 x5 n  ) n x:=by
 refine iter_eq _ _ (fun bu x=>?_) n x;obtain ⟨x1,x2⟩:=x
 kernel_rfl
end
noncomputable def Ru (n:Nat) (a0:aa) (a1:List (C .e3)):Option (List (C .eC)):=
 cu (K3 a1 a0.ai n ) n ((([]:List (C .eC)),0))
theorem t97 (n:Nat) (a0:aa) (a1:List (C .e3)):dG X97 (F97 n) Try.f97 [.agg [.int .i64 a0.b8,.row .aA a0.ae,.row .aC a0.ai,.row .ay a0.aj],.one (.row .e3 a1)] Tj=Ru n a0 a1:=by
 refine Eq.trans (b:=
  NW a1 a0.b8 a0.ae a0.ai a0.aj n   ((([]:List (C .eC)),0))) (by kernel_rfl) ?_
 simp only [Ru,aaZ]
noncomputable def G97 (a0:aa) (a1:List (C .e3)):Option (List (C .eC)):=Ru fuel a0 a1
noncomputable def Tz:iK C:=lD KK [.el .dv,.row .e3] [.row .eC] G97
theorem c97:dm Try.prog KK 97 Tz:=cO (gO trivial trivial trivial:Cons Try.prog X97) (fn:=Try.f97) (by kernel_rfl) (by kernel_rfl) (by kernel_rfl) (by kernel_rfl) (F97 fuel) (by kernel_rfl) (fun a0 a1=>t97 fuel a0 a1)
noncomputable def X117:Cx C:=fT [(67,HP)] [] [] [] 7667712 []
def F117 (n:Nat):Cf:={ N:=n,keep:=[0,1,2,3,4,5],live:=lk [] }
noncomputable abbrev WN:=jB KK [.bool]
noncomputable def OT (n:Nat) (a0:aa) (a1:aq):Option (Bool):=
 Option.bind (Xl a0 a1.bw) fun r1=>
 cond (decide (r1≥0))
 (cond (decide (0≤r1)) (Option.bind a0.aj[r1.toNat]? fun e2=>some (e2.kJ)) none)
 (some (false))
theorem t117 (n:Nat) (a0:aa) (a1:aq):dG X117 (F117 n) Try.f117 [.agg [.int .i64 a0.b8,.row .aA a0.ae,.row .aC a0.ai,.row .ay a0.aj],.agg [.str a1.ax,.int .i64 a1.Number,.int .i64 a1.Version,.int .i64 a1.aB,.int .i64 a1.State,.bool a1.Ending,.str a1.bw]] WN=OT n a0 a1:=by
 kernel_rfl
noncomputable def AV (a0:aa) (a1:aq):Option (Bool):=OT fuel a0 a1
noncomputable def FV:iK C:=lD KK [.el .dv,.el .aC] [.bool] AV
theorem c117:dm Try.prog KK 117 FV:=cO (gO ⟨c67,trivial⟩ trivial trivial:Cons Try.prog X117) (fn:=Try.f117) (by kernel_rfl) (by kernel_rfl) (by kernel_rfl) (by kernel_rfl) (F117 fuel) (by kernel_rfl) (fun a0 a1=>t117 fuel a0 a1)
noncomputable def X98:Cx C:=fT [(99,C4),(117,FV)] [] [] [] 6422528 []
def F98 (n:Nat):Cf:={ N:=n,keep:=[0,1,2,3,4,6,7,8,9,10,19,56],live:=lk [(0,[2,3,4,7,8,9])] }
noncomputable abbrev Ti:=jB KK [.row .e3]
abbrev DA:Type:=List (C .e3)×Int
section
variable (x0:Int) (x2:List (C .e3)) (x4:Int) (x5:List (C .aA)) (x6:List (C .aC)) (x7:List (C .ay)) (x8:ByteArray) (x9:Int) (aM:Bool) (aS aQ aZ aV aY aW bq bC bz bD:Int)
def ZU:DA→St C:=fun (x1,x3)=>{ env:=[(2,.one (.int .i64 x0)),(3,.one (.ptr 6422720 0)),(4,.one (.ptr 6422784 0)),(7,.one (.ref 100007 [])),(8,.one (.ref 100008 [])),(9,.one (.int .i64 x3))],ah:=[(100007,.row .e3 x1 false),(100008,.row .e3 x2 false),(6422720,.box .mem [.int .i64 x4,.row .aA x5,.row .aC x6,.row .ay x7]),(6422784,.box .mem [.str x8,.int .i64 x9,.bool aM,.int .i64 aS,.int .i64 aQ,.int .i64 aZ,.int .i64 aV,.int .i64 aY,.int .i64 aW,.int .i64 bq,.int .i64 bC,.int .i64 bz,.int .i64 bD])],base:=0 }
end
noncomputable def K2 (x0:Int) (x2:List (C .e3)) (x4:Int) (x5:List (C .aA)) (x6:List (C .aC)) (x7:List (C .ay)) (aS:Int) (n:Nat)   (bu:DA→Option (List (C .e3))):DA→Option (List (C .e3)):=fun (x1,x3)=>
 cond (decide (x3<(x2.length:Int)))
 (cond (decide (0≤x3)) (cond (decide (x3<(x2.length:Int))) (Option.bind x2[x3.toNat]? fun e2=>cond (decide (0≤e2)) (Option.bind x6[e2.toNat]? fun e3=>cond (x0==2)
 (cond (e3.aB != aS)
 (cond (decide (0≤x3)) (cond (decide (x3<(x2.length:Int))) (Option.bind x2[x3.toNat]? fun e4=>cond (decide ((x1.length+(([e4]:List (C .e3))).length)*8≤140737488355328)) (bu ((x1++(([e4]:List (C .e3))),IntKind.i64.wrap (x3+1)))) none) none) none)
 (cond (x0==6)
 (Option.bind (AV (⟨x4,x5,x6,x7⟩:aa) e3) fun r5=>
 cond r5
 (cond (decide (0≤x3)) (cond (decide (x3<(x2.length:Int))) (Option.bind x2[x3.toNat]? fun e6=>cond (decide ((x1.length+(([e6]:List (C .e3))).length)*8≤140737488355328)) (bu ((x1++(([e6]:List (C .e3))),IntKind.i64.wrap (x3+1)))) none) none) none)
 (cond (x0==3)
 (cond (e3.State==4)
 (cond (decide (0≤x3)) (cond (decide (x3<(x2.length:Int))) (Option.bind x2[x3.toNat]? fun e7=>cond (decide ((x1.length+(([e7]:List (C .e3))).length)*8≤140737488355328)) (bu ((x1++(([e7]:List (C .e3))),IntKind.i64.wrap (x3+1)))) none) none) none)
 (bu ((x1,IntKind.i64.wrap (x3+1)))))
 (bu ((x1,IntKind.i64.wrap (x3+1))))))
 (cond (x0==3)
 (cond (e3.State==4)
 (cond (decide (0≤x3)) (cond (decide (x3<(x2.length:Int))) (Option.bind x2[x3.toNat]? fun e8=>cond (decide ((x1.length+(([e8]:List (C .e3))).length)*8≤140737488355328)) (bu ((x1++(([e8]:List (C .e3))),IntKind.i64.wrap (x3+1)))) none) none) none)
 (bu ((x1,IntKind.i64.wrap (x3+1)))))
 (bu ((x1,IntKind.i64.wrap (x3+1)))))))
 (cond (x0==6)
 (Option.bind (AV (⟨x4,x5,x6,x7⟩:aa) e3) fun r9=>
 cond r9
 (cond (decide (0≤x3)) (cond (decide (x3<(x2.length:Int))) (Option.bind x2[x3.toNat]? fun tF=>cond (decide ((x1.length+(([tF]:List (C .e3))).length)*8≤140737488355328)) (bu ((x1++(([tF]:List (C .e3))),IntKind.i64.wrap (x3+1)))) none) none) none)
 (cond (x0==3)
 (cond (e3.State==4)
 (cond (decide (0≤x3)) (cond (decide (x3<(x2.length:Int))) (Option.bind x2[x3.toNat]? fun CX=>cond (decide ((x1.length+(([CX]:List (C .e3))).length)*8≤140737488355328)) (bu ((x1++(([CX]:List (C .e3))),IntKind.i64.wrap (x3+1)))) none) none) none)
 (bu ((x1,IntKind.i64.wrap (x3+1)))))
 (bu ((x1,IntKind.i64.wrap (x3+1))))))
 (cond (x0==3)
 (cond (e3.State==4)
 (cond (decide (0≤x3)) (cond (decide (x3<(x2.length:Int))) (Option.bind x2[x3.toNat]? fun HJ=>cond (decide ((x1.length+(([HJ]:List (C .e3))).length)*8≤140737488355328)) (bu ((x1++(([HJ]:List (C .e3))),IntKind.i64.wrap (x3+1)))) none) none) none)
 (bu ((x1,IntKind.i64.wrap (x3+1)))))
 (bu ((x1,IntKind.i64.wrap (x3+1))))))) none) none) none)
 (some (x1))
section
variable (x0:Int) (x2:List (C .e3)) (x4:Int) (x5:List (C .aA)) (x6:List (C .aC)) (x7:List (C .ay)) (x8:ByteArray) (x9:Int) (aM:Bool) (aS aQ aZ aV aY aW bq bC bz bD:Int)
noncomputable def NV (n:Nat)  (x:DA):Option (List (C .e3)):=iter (fun rec S=>run X98 (F98 n) (au (ak Try.f98) [1,1,1,0,1,0,0]) 0 S (dq rec (cJ 0 (bf (run X98 (F98 n) (au (ak Try.f98) [1,1,1,1]) 0) (eu X98 Try.f98 Ti))))) [2,3,4,7,8,9] n (ZU x0 x2 x4 x5 x6 x7 x8 x9 aM aS aQ aZ aV aY aW bq bC bz bD x)
theorem aaY (n:Nat)  (x:DA):NV x0 x2 x4 x5 x6 x7 x8 x9 aM aS aQ aZ aV aY aW bq bC bz bD n  x=cu (K2 x0 x2 x4 x5 x6 x7 aS n  ) n x:=by
 refine iter_eq _ _ (fun bu x=>?_) n x;obtain ⟨x1,x3⟩:=x
 kernel_rfl
end
noncomputable def Rs (n:Nat) (a0:aa) (a1:af) (a2:Int):Option (List (C .e3)):=
 Option.bind (Rr a0 a1.Name) fun r1=>
 cu (K2 a2 r1 a0.b8 a0.ae a0.ai a0.aj a1.aB n ) n ((([]:List (C .e3)),0))
theorem t98 (n:Nat) (a0:aa) (a1:af) (a2:Int):dG X98 (F98 n) Try.f98 [.agg [.int .i64 a0.b8,.row .aA a0.ae,.row .aC a0.ai,.row .ay a0.aj],.agg [.str a1.Name,.int .i64 a1.Version,.bool a1.cC,.int .i64 a1.aB,.int .i64 a1.Want,.int .i64 a1.Down,.int .i64 a1.ct,.int .i64 a1.Next,.int .i64 a1.dA,.int .i64 a1.aP,.int .i64 a1.bN,.int .i64 a1.cK,.int .i64 a1.cE],.one (.int .i64 a2)] Ti=Rs n a0 a1 a2:=by
 refine Eq.trans (b:=
  Option.bind (Rr a0 a1.Name) fun r1=>
  NV a2 r1 a0.b8 a0.ae a0.ai a0.aj a1.Name a1.Version a1.cC a1.aB a1.Want a1.Down a1.ct a1.Next a1.dA a1.aP a1.bN a1.cK a1.cE n   ((([]:List (C .e3)),0))) (by kernel_rfl) ?_
 simp only [Rs,aaY]
noncomputable def Rt (a0:aa) (a1:af) (a2:Int):Option (List (C .e3)):=Rs fuel a0 a1 a2
noncomputable def M8:iK C:=lD KK [.el .dv,.el .aA,.int .i64] [.row .e3] Rt
theorem c98:dm Try.prog KK 98 M8:=cO (gO ⟨c99,c117,trivial⟩ trivial trivial:Cons Try.prog X98) (fn:=Try.f98) (by kernel_rfl) (by kernel_rfl) (by kernel_rfl) (by kernel_rfl) (F98 fuel) (by kernel_rfl) (fun a0 a1 a2=>t98 fuel a0 a1 a2)
noncomputable def X124:Cx C:=fT [(117,FV)] [] [] [] 8126464 []
def F124 (n:Nat):Cf:={ N:=n,keep:=[0,1,2,3,4,5,6,8,15,27,38],live:=lk [] }
noncomputable abbrev WL:=jB KK [.bool]
noncomputable def OP (n:Nat) (a0:aa) (a1 a2:aq) (a3:Int):Option (Bool):=
 cond (!((a1.State != 3)==(a2.State != 3)))
 (some (a1.State != 3))
 (cond (!((a1.aB != a3)==(a2.aB != a3)))
 (some (a1.aB != a3))
 (Option.bind (AV a0 a1) fun r1=>
 Option.bind (AV a0 a2) fun r2=>
 cond (!(r1==r2))
 (Option.bind (AV a0 a1) fun r3=>
 some (r3))
 (some (decide (a1.Number>a2.Number)))))
theorem t124 (n:Nat) (a0:aa) (a1 a2:aq) (a3:Int):dG X124 (F124 n) Try.f124 [.agg [.int .i64 a0.b8,.row .aA a0.ae,.row .aC a0.ai,.row .ay a0.aj],.agg [.str a1.ax,.int .i64 a1.Number,.int .i64 a1.Version,.int .i64 a1.aB,.int .i64 a1.State,.bool a1.Ending,.str a1.bw],.agg [.str a2.ax,.int .i64 a2.Number,.int .i64 a2.Version,.int .i64 a2.aB,.int .i64 a2.State,.bool a2.Ending,.str a2.bw],.one (.int .i64 a3)] WL=OP n a0 a1 a2 a3:=by
 kernel_rfl
noncomputable def RL (a0:aa) (a1 a2:aq) (a3:Int):Option (Bool):=OP fuel a0 a1 a2 a3
noncomputable def Nh:iK C:=lD KK [.el .dv,.el .aC,.el .aC,.int .i64] [.bool] RL
theorem c124:dm Try.prog KK 124 Nh:=cO (gO ⟨c117,trivial⟩ trivial trivial:Cons Try.prog X124) (fn:=Try.f124) (by kernel_rfl) (by kernel_rfl) (by kernel_rfl) (by kernel_rfl) (F124 fuel) (by kernel_rfl) (fun a0 a1 a2 a3=>t124 fuel a0 a1 a2 a3)
end Go.Proofs.Ytipemmgoipbojaa.Ab
set_option maxRecDepth 100000
namespace Go.Proofs.Ytipemmgoipbojaa.Ab
open Go Go.RowKit
noncomputable def NQ:Cx C:=fT [(124,Nh)] [] [] [] 7733248 []
def RS (n:Nat):Cf:={ N:=n,keep:=[0,1,2,3,4,6,7,8,11,23,38],live:=lk [(0,[2,3,4,7,8])] }
noncomputable abbrev M4:=jB KK [.row .eC]
abbrev wT:Type:=Int×ByteArray×Int×Int×Int×Int×Bool×ByteArray
section
variable (x0:List (C .e3)) (x2:Int) (x3:List (C .aA)) (x4:List (C .aC)) (x5:List (C .ay)) (x6:ByteArray) (x7:Int) (x8:Bool) (x9 aM aS aQ aZ aV aY aW bq bC:Int)
def US:wT→St C:=fun (x1,bz,bD,aR,bF,aX,bI,bB)=>{ env:=[(2,.one (.row .e3 x0)),(3,.one (.ptr 7733440 0)),(4,.one (.ptr 7733504 0)),(7,.one (.ptr 7733696 0)),(8,.one (.int .i64 x1))],ah:=[(7733440,.box .mem [.int .i64 x2,.row .aA x3,.row .aC x4,.row .ay x5]),(7733504,.box .mem [.str x6,.int .i64 x7,.bool x8,.int .i64 x9,.int .i64 aM,.int .i64 aS,.int .i64 aQ,.int .i64 aZ,.int .i64 aV,.int .i64 aY,.int .i64 aW,.int .i64 bq,.int .i64 bC]),(7733696,.box .mem [.str bz,.int .i64 bD,.int .i64 aR,.int .i64 bF,.int .i64 aX,.bool bI,.str bB])],base:=0 }
end
noncomputable def E2 (x0:List (C .e3)) (x2:Int) (x3:List (C .aA)) (x4:List (C .aC)) (x5:List (C .ay)) (x9:Int) (n:Nat)   (bu:wT→Option (List (C .eC))):wT→Option (List (C .eC)):=fun (x1,bz,bD,aR,bF,aX,bI,bB)=>
 cond (decide (x1<(x0.length:Int)))
 (cond (decide (0≤x1)) (Option.bind x0[x1.toNat]? fun e3=>cond (decide (0≤e3)) (Option.bind x4[e3.toNat]? fun e4=>Option.bind (RL (⟨x2,x3,x4,x5⟩:aa) e4 (⟨bz,bD,aR,bF,aX,bI,bB⟩:aq) x9) fun r5=>
 cond r5
 (cond (decide (0≤x1)) (Option.bind x0[x1.toNat]? fun e6=>cond (decide (0≤e6)) (Option.bind x4[e6.toNat]? fun e7=>bu ((IntKind.i64.wrap (x1+1),e7.ax,e7.Number,e7.Version,e7.aB,e7.State,e7.Ending,e7.bw))) none) none)
 (bu ((IntKind.i64.wrap (x1+1),bz,bD,aR,bF,aX,bI,bB)))) none) none)
 (some (([(⟨bD,aR⟩:lA)]:List (C .eC))))
section
variable (x0:List (C .e3)) (x2:Int) (x3:List (C .aA)) (x4:List (C .aC)) (x5:List (C .ay)) (x6:ByteArray) (x7:Int) (x8:Bool) (x9 aM aS aQ aZ aV aY aW bq bC:Int)
noncomputable def H6 (n:Nat)  (x:wT):Option (List (C .eC)):=iter (fun rec S=>run NQ (RS n) (au (ak Try.f118) [1,1,1,0,1,0,0]) 0 S (dq rec (cJ 0 (bf (run NQ (RS n) (au (ak Try.f118) [1,1,1,1]) 0) (eu NQ Try.f118 M4))))) [2,3,4,7,8] n (US x0 x2 x3 x4 x5 x6 x7 x8 x9 aM aS aQ aZ aV aY aW bq bC x)
theorem Vt (n:Nat)  (x:wT):H6 x0 x2 x3 x4 x5 x6 x7 x8 x9 aM aS aQ aZ aV aY aW bq bC n  x=cu (E2 x0 x2 x3 x4 x5 x9 n  ) n x:=by
 refine iter_eq _ _ (fun bu x=>?_) n x;obtain ⟨x1,bz,bD,aR,bF,aX,bI,bB⟩:=x
 kernel_rfl
end
noncomputable def Ig (n:Nat) (a0:aa) (a1:af) (a2:List (C .e3)):Option (List (C .eC)):=
 cond ((a2.length:Int)==0)
 (some (([]:List (C .eC))))
 (cond (decide (0≤0)) (Option.bind a2[(0:Int).toNat]? fun e1=>cond (decide (0≤e1)) (Option.bind a0.ai[e1.toNat]? fun e2=>cu (E2 a2 a0.b8 a0.ae a0.ai a0.aj a1.aB n ) n (1,e2.ax,e2.Number,e2.Version,e2.aB,e2.State,e2.Ending,e2.bw)) none) none)
theorem t118 (n:Nat) (a0:aa) (a1:af) (a2:List (C .e3)):dG NQ (RS n) Try.f118 [.agg [.int .i64 a0.b8,.row .aA a0.ae,.row .aC a0.ai,.row .ay a0.aj],.agg [.str a1.Name,.int .i64 a1.Version,.bool a1.cC,.int .i64 a1.aB,.int .i64 a1.Want,.int .i64 a1.Down,.int .i64 a1.ct,.int .i64 a1.Next,.int .i64 a1.dA,.int .i64 a1.aP,.int .i64 a1.bN,.int .i64 a1.cK,.int .i64 a1.cE],.one (.row .e3 a2)] M4=Ig n a0 a1 a2:=by
 refine Eq.trans (b:=
  cond ((a2.length:Int)==0)
  (some (([]:List (C .eC))))
  (cond (decide (0≤0)) (Option.bind a2[(0:Int).toNat]? fun e1=>cond (decide (0≤e1)) (Option.bind a0.ai[e1.toNat]? fun e2=>H6 a2 a0.b8 a0.ae a0.ai a0.aj a1.Name a1.Version a1.cC a1.aB a1.Want a1.Down a1.ct a1.Next a1.dA a1.aP a1.bN a1.cK a1.cE n   (1,e2.ax,e2.Number,e2.Version,e2.aB,e2.State,e2.Ending,e2.bw)) none) none)) (by kernel_rfl) ?_
 simp only [Ig,Vt]
noncomputable def Dq (a0:aa) (a1:af) (a2:List (C .e3)):Option (List (C .eC)):=Ig fuel a0 a1 a2
noncomputable def FU:iK C:=lD KK [.el .dv,.el .aA,.row .e3] [.row .eC] Dq
theorem c118:dm Try.prog KK 118 FU:=cO (gO ⟨c124,trivial⟩ trivial trivial:Cons Try.prog NQ) (fn:=Try.f118) (by kernel_rfl) (by kernel_rfl) (by kernel_rfl) (by kernel_rfl) (RS fuel) (by kernel_rfl) (fun a0 a1 a2=>t118 fuel a0 a1 a2)
noncomputable def NP:Cx C:=fT [(82,HO)] [] [] [] 7798784 []
def RQ (n:Nat):Cf:={ N:=n,keep:=[0,1,2,4,5,6,11,33],live:=lk [(0,[1,2,5,6])] }
noncomputable abbrev M3:=jB KK [.row .e3]
abbrev wS:Type:=List (C .e3)×Int
section
variable (x0:List (C .e3)) (x3:Int) (x4:List (C .aA)) (x5:List (C .aC)) (x6:List (C .ay))
def UR:wS→St C:=fun (x1,x2)=>{ env:=[(1,.one (.row .e3 x0)),(2,.one (.ptr 7798912 0)),(5,.one (.ref 100005 [])),(6,.one (.int .i64 x2))],ah:=[(100005,.row .e3 x1 false),(7798912,.box .mem [.int .i64 x3,.row .aA x4,.row .aC x5,.row .ay x6])],base:=0 }
end
noncomputable def E1 (x0:List (C .e3)) (x3:Int) (x4:List (C .aA)) (x5:List (C .aC)) (x6:List (C .ay)) (n:Nat)   (bu:wS→Option (List (C .e3))):wS→Option (List (C .e3)):=fun (x1,x2)=>
 cond (decide (x2<(x0.length:Int)))
 (cond (decide (0≤x2)) (Option.bind x0[x2.toNat]? fun e1=>cond (decide (0≤e1)) (Option.bind x5[e1.toNat]? fun e2=>cond (decide (0≤x2)) (Option.bind x0[x2.toNat]? fun e3=>cond (decide (0≤e3)) (Option.bind x5[e3.toNat]? fun e4=>Option.bind (Pq (⟨x3,x4,x5,x6⟩:aa) e2.ax e4.Number) fun r5=>
 cond r5
 (cond (decide (0≤x2)) (Option.bind x0[x2.toNat]? fun e6=>cond (decide ((x1.length+(([e6]:List (C .e3))).length)*8≤140737488355328)) (bu ((x1++(([e6]:List (C .e3))),IntKind.i64.wrap (x2+1)))) none) none)
 (bu ((x1,IntKind.i64.wrap (x2+1))))) none) none) none) none)
 (some (x1))
section
variable (x0:List (C .e3)) (x3:Int) (x4:List (C .aA)) (x5:List (C .aC)) (x6:List (C .ay))
noncomputable def H5 (n:Nat)  (x:wS):Option (List (C .e3)):=iter (fun rec S=>run NP (RQ n) (au (ak Try.f119) [1,1,0,1,0,0]) 0 S (dq rec (cJ 0 (bf (run NP (RQ n) (au (ak Try.f119) [1,1,1]) 0) (eu NP Try.f119 M3))))) [1,2,5,6] n (UR x0 x3 x4 x5 x6 x)
theorem Vs (n:Nat)  (x:wS):H5 x0 x3 x4 x5 x6 n  x=cu (E1 x0 x3 x4 x5 x6 n  ) n x:=by
 refine iter_eq _ _ (fun bu x=>?_) n x;obtain ⟨x1,x2⟩:=x
 kernel_rfl
end
noncomputable def Ie (n:Nat) (a0:aa) (a1:List (C .e3)):Option (List (C .e3)):=
 cu (E1 a1 a0.b8 a0.ae a0.ai a0.aj n ) n ((([]:List (C .e3)),0))
theorem t119 (n:Nat) (a0:aa) (a1:List (C .e3)):dG NP (RQ n) Try.f119 [.agg [.int .i64 a0.b8,.row .aA a0.ae,.row .aC a0.ai,.row .ay a0.aj],.one (.row .e3 a1)] M3=Ie n a0 a1:=by
 refine Eq.trans (b:=
  H5 a1 a0.b8 a0.ae a0.ai a0.aj n   ((([]:List (C .e3)),0))) (by kernel_rfl) ?_
 simp only [Ie,Vs]
noncomputable def OS (a0:aa) (a1:List (C .e3)):Option (List (C .e3)):=Ie fuel a0 a1
noncomputable def Nj:iK C:=lD KK [.el .dv,.row .e3] [.row .e3] OS
theorem c119:dm Try.prog KK 119 Nj:=cO (gO ⟨c82,trivial⟩ trivial trivial:Cons Try.prog NP) (fn:=Try.f119) (by kernel_rfl) (by kernel_rfl) (by kernel_rfl) (by kernel_rfl) (RQ fuel) (by kernel_rfl) (fun a0 a1=>t119 fuel a0 a1)
noncomputable def X120:Cx C:=fT [] [] [] [] 7864320 []
def F120 (n:Nat):Cf:={ N:=n,keep:=[0,1,2,3,16,22],live:=lk [] }
noncomputable abbrev WM:=jB KK [.int .i64]
noncomputable def OQ (n:Nat) (a0:af):Option (Int):=
 cond (decide (a0.dA=0)) none (cond (decide ((IntKind.i64.wrap ((IntKind.i64.wrap ((IntKind.i64.wrap (a0.cK+a0.dA))-1)).tdiv a0.dA))<a0.aP))
 (cond (decide (a0.aP>a0.bN))
 (some (a0.bN))
 (some (a0.aP)))
 (cond (decide ((IntKind.i64.wrap ((IntKind.i64.wrap ((IntKind.i64.wrap (a0.cK+a0.dA))-1)).tdiv a0.dA))>a0.bN))
 (some (a0.bN))
 (some (IntKind.i64.wrap ((IntKind.i64.wrap ((IntKind.i64.wrap (a0.cK+a0.dA))-1)).tdiv a0.dA)))))
theorem t120 (n:Nat) (a0:af):dG X120 (F120 n) Try.f120 [.agg [.str a0.Name,.int .i64 a0.Version,.bool a0.cC,.int .i64 a0.aB,.int .i64 a0.Want,.int .i64 a0.Down,.int .i64 a0.ct,.int .i64 a0.Next,.int .i64 a0.dA,.int .i64 a0.aP,.int .i64 a0.bN,.int .i64 a0.cK,.int .i64 a0.cE]] WM=OQ n a0:=by
 kernel_rfl
noncomputable def RM (a0:af):Option (Int):=OQ fuel a0
noncomputable def Ni:iK C:=lD KK [.el .aA] [.int .i64] RM
theorem c120:dm Try.prog KK 120 Ni:=cO (gO trivial trivial trivial:Cons Try.prog X120) (fn:=Try.f120) (by kernel_rfl) (by kernel_rfl) (by kernel_rfl) (by kernel_rfl) (F120 fuel) (by kernel_rfl) (fun a0=>t120 fuel a0)
noncomputable def X100:Cx C:=fT [(82,HO),(98,M8),(99,C4),(118,FU)] [] [] [] 6553600 []
def F100 (n:Nat):Cf:={ N:=n,keep:=[0,1,2,3,4,5,6,7,8,9,18,55,67],live:=lk [] }
noncomputable def I100 (n:Nat):mP C:=iZ X100 (F100 n) Try.f100
theorem i100 (n:Nat):dx Try.prog KK 100 (I100 n):=iO (gO ⟨c82,c98,c99,c118,trivial⟩ trivial trivial:Cons Try.prog X100) (F100 n) (fn:=Try.f100) (by kernel_rfl) (by kernel_rfl) (by kernel_rfl) (by kernel_rfl)
noncomputable def X101:Cx C:=fT [(99,C4),(118,FU),(119,Nj)] [] [] [] 6619136 []
def F101 (n:Nat):Cf:={ N:=n,keep:=[0,1,2,3,4,5,6,8,9,23,31],live:=lk [] }
noncomputable def I101 (n:Nat):mP C:=iZ X101 (F101 n) Try.f101
theorem i101 (n:Nat):dx Try.prog KK 101 (I101 n):=iO (gO ⟨c99,c118,c119,trivial⟩ trivial trivial:Cons Try.prog X101) (F101 n) (fn:=Try.f101) (by kernel_rfl) (by kernel_rfl) (by kernel_rfl) (by kernel_rfl)
noncomputable def X102:Cx C:=fT [(120,Ni)] [] [] [] 6684672 []
def F102 (n:Nat):Cf:={ N:=n,keep:=[0,1,2,3,4,5,12,21,30,37,51,60],live:=lk [] }
noncomputable def I102 (n:Nat):mP C:=iZ X102 (F102 n) Try.f102
theorem i102 (n:Nat):dx Try.prog KK 102 (I102 n):=iO (gO ⟨c120,trivial⟩ trivial trivial:Cons Try.prog X102) (F102 n) (fn:=Try.f102) (by kernel_rfl) (by kernel_rfl) (by kernel_rfl) (by kernel_rfl)
noncomputable def X48 (n:Nat):Cx C:=fT [(83,HN),(97,Tz),(98,M8),(99,C4)] [] [(100,I100 n),(101,I101 n),(102,I102 n)] [0,4,5,6,7,53,56,57,58,59,60,61,62,63,71,72,73,74,75,76,77,78,86] 3145728 []
def F48 (n:Nat):Cf:={ N:=n,keep:=[0,1,2,4,5,6,7,8,15,25,27,47,48,54,64,70,79,83],live:=lk [] }
noncomputable abbrev dec48:=jB KK [.el .kF]
noncomputable def Xn (n:Nat) (a0:Int) (a1:aa) (a2:af):Option (bJ):=
 cond (a0==3)
 (Option.bind (Rt a1 a2 a0) fun r1=>
 Option.bind (G97 a1 r1) fun r2=>
 some ((⟨a2.Name,a2.Version,0,0,0,false,r2,false⟩:bJ)))
 (cond a2.cC
 (cond (a0==5)
 (Option.bind (Rr a1 a2.Name) fun r3=>
 Option.bind (G97 a1 r3) fun r4=>
 Option.bind (Dn a1 a2.Name) fun r5=>
 some ((⟨a2.Name,a2.Version,0,0,0,false,r4,(IntKind.i64.wrap (r5.Live+r5.Ending))==0⟩:bJ)))
 (some ((⟨a2.Name,a2.Version,0,0,0,false,([]:List (C .eC)),false⟩:bJ))))
 (cond (a0==1)
 (Option.bind (Rr a1 a2.Name) fun r6=>
 cond (decide ((r6.length:Int)<a2.Want))
 (some ((⟨a2.Name,a2.Version,IntKind.i64.wrap (a2.Want-(r6.length:Int)),0,0,false,([]:List (C .eC)),false⟩:bJ)))
 (Option.bind (Rt a1 a2 2) fun r7=>
 cond ((r7.length:Int)==0)
 (Option.bind (Rt a1 a2 6) fun r8=>
 cond (decide ((r6.length:Int)>a2.Want))
 (cond ((r8.length:Int)==0)
 (Option.bind (Dq a1 a2 r6) fun r9=>
 cond (decide (0≤0)) (cond (decide (0<(r9.length:Int))) (Option.bind r9[(0:Int).toNat]? fun tF=>Option.bind (Pq a1 a2.Name tF.Number) fun s7=>
 cond s7
 (some ((⟨a2.Name,a2.Version,0,0,0,false,r9,false⟩:bJ)))
 (some ((⟨a2.Name,a2.Version,0,0,0,false,([]:List (C .eC)),false⟩:bJ)))) none) none)
 (cond (decide ((r6.length:Int)>(IntKind.i64.wrap (a2.Want+a2.ct))))
 (Option.bind (Dq a1 a2 r6) fun lC=>
 cond (decide (0≤0)) (cond (decide (0<(lC.length:Int))) (Option.bind lC[(0:Int).toNat]? fun Po=>Option.bind (Pq a1 a2.Name Po.Number) fun eU=>
 cond eU
 (some ((⟨a2.Name,a2.Version,0,0,0,false,lC,false⟩:bJ)))
 (some ((⟨a2.Name,a2.Version,0,0,0,false,([]:List (C .eC)),false⟩:bJ)))) none) none)
 (some ((⟨a2.Name,a2.Version,0,0,0,false,([]:List (C .eC)),false⟩:bJ)))))
 (some ((⟨a2.Name,a2.Version,0,0,0,false,([]:List (C .eC)),false⟩:bJ))))
 (cond (decide ((r6.length:Int)>a2.Want))
 (cond (decide ((r6.length:Int)>(IntKind.i64.wrap (a2.Want+a2.ct))))
 (Option.bind (Dq a1 a2 r6) fun wY=>
 cond (decide (0≤0)) (cond (decide (0<(wY.length:Int))) (Option.bind wY[(0:Int).toNat]? fun dV=>Option.bind (Pq a1 a2.Name dV.Number) fun Pd=>
 cond Pd
 (some ((⟨a2.Name,a2.Version,0,0,0,false,wY,false⟩:bJ)))
 (some ((⟨a2.Name,a2.Version,0,0,0,false,([]:List (C .eC)),false⟩:bJ)))) none) none)
 (some ((⟨a2.Name,a2.Version,0,0,0,false,([]:List (C .eC)),false⟩:bJ))))
 (some ((⟨a2.Name,a2.Version,0,0,0,false,([]:List (C .eC)),false⟩:bJ))))))
 (cond (a0==2)
 (Option.bind (Rt a1 a2 a0) fun xc=>
 Option.bind (Rr a1 a2.Name) fun pA=>
 cond ((xc.length:Int)==0)
 (some ((⟨a2.Name,a2.Version,0,0,0,false,([]:List (C .eC)),false⟩:bJ)))
 (cond (decide ((pA.length:Int)<a2.Want))
 (some ((⟨a2.Name,a2.Version,0,0,0,false,([]:List (C .eC)),false⟩:bJ)))
 (cond (decide ((pA.length:Int)<(IntKind.i64.wrap (a2.Want+a2.ct))))
 (some ((⟨a2.Name,a2.Version,1,0,0,false,([]:List (C .eC)),false⟩:bJ)))
 (Option.bind (OS a1 xc) fun fU=>
 Option.bind (Dq a1 a2 fU) fun jk=>
 some ((⟨a2.Name,a2.Version,0,0,0,false,jk,false⟩:bJ))))))
 (cond (a0==6)
 (Option.bind (Rt a1 a2 2) fun ck=>
 cond ((ck.length:Int)==0)
 (Option.bind (Rt a1 a2 a0) fun ee=>
 Option.bind (Rr a1 a2.Name) fun gv=>
 cond ((ee.length:Int)==0)
 (some ((⟨a2.Name,a2.Version,0,0,0,false,([]:List (C .eC)),false⟩:bJ)))
 (cond (decide ((gv.length:Int)<a2.Want))
 (some ((⟨a2.Name,a2.Version,0,0,0,false,([]:List (C .eC)),false⟩:bJ)))
 (cond (decide ((gv.length:Int)<(IntKind.i64.wrap (a2.Want+a2.ct))))
 (some ((⟨a2.Name,a2.Version,1,0,0,false,([]:List (C .eC)),false⟩:bJ)))
 (Option.bind (OS a1 ee) fun dP=>
 Option.bind (Dq a1 a2 dP) fun tJ=>
 some ((⟨a2.Name,a2.Version,0,0,0,false,tJ,false⟩:bJ))))))
 (some ((⟨a2.Name,a2.Version,0,0,0,false,([]:List (C .eC)),false⟩:bJ))))
 (cond (a0==4)
 (cond (decide (a2.dA>0))
 (Option.bind (RM a2) fun P9=>
 cond (decide (a2.Want<a2.aP))
 (some ((⟨a2.Name,a2.Version,0,a2.aP,0,true,([]:List (C .eC)),false⟩:bJ)))
 (cond (decide (a2.Want>a2.bN))
 (some ((⟨a2.Name,a2.Version,0,a2.bN,0,true,([]:List (C .eC)),false⟩:bJ)))
 (cond (decide (P9>a2.Want))
 (some ((⟨a2.Name,a2.Version,0,P9,0,true,([]:List (C .eC)),false⟩:bJ)))
 (cond (decide (P9<a2.Want))
 (cond (decide (a2.cE≥3))
 (some ((⟨a2.Name,a2.Version,0,IntKind.i64.wrap (a2.Want-1),0,true,([]:List (C .eC)),false⟩:bJ)))
 (cond (decide (P9<a2.Want))
 (some ((⟨a2.Name,a2.Version,0,a2.Want,IntKind.i64.wrap (a2.cE+1),true,([]:List (C .eC)),false⟩:bJ)))
 (cond (a2.cE==0)
 (some ((⟨a2.Name,a2.Version,0,0,0,false,([]:List (C .eC)),false⟩:bJ)))
 (some ((⟨a2.Name,a2.Version,0,a2.Want,0,true,([]:List (C .eC)),false⟩:bJ))))))
 (cond (decide (P9<a2.Want))
 (some ((⟨a2.Name,a2.Version,0,a2.Want,IntKind.i64.wrap (a2.cE+1),true,([]:List (C .eC)),false⟩:bJ)))
 (cond (a2.cE==0)
 (some ((⟨a2.Name,a2.Version,0,0,0,false,([]:List (C .eC)),false⟩:bJ)))
 (some ((⟨a2.Name,a2.Version,0,a2.Want,0,true,([]:List (C .eC)),false⟩:bJ)))))))))
 (some ((⟨a2.Name,a2.Version,0,0,0,false,([]:List (C .eC)),false⟩:bJ))))
 (some ((⟨a2.Name,a2.Version,0,0,0,false,([]:List (C .eC)),false⟩:bJ))))))))
theorem t48 (n:Nat) (a0:Int) (a1:aa) (a2:af):dG (X48 n) (F48 n) Try.f48 [.one (.int .i64 a0),.agg [.int .i64 a1.b8,.row .aA a1.ae,.row .aC a1.ai,.row .ay a1.aj],.agg [.str a2.Name,.int .i64 a2.Version,.bool a2.cC,.int .i64 a2.aB,.int .i64 a2.Want,.int .i64 a2.Down,.int .i64 a2.ct,.int .i64 a2.Next,.int .i64 a2.dA,.int .i64 a2.aP,.int .i64 a2.bN,.int .i64 a2.cK,.int .i64 a2.cE]] dec48=Xn n a0 a1 a2:=by
 kernel_rfl
noncomputable def G48 (a0:Int) (a1:aa) (a2:af):Option (bJ):=Xn fuel a0 a1 a2
noncomputable def TG:iK C:=lD KK [.int .i64,.el .dv,.el .aA] [.el .kF] G48
theorem c48:dm Try.prog KK 48 TG:=cO (gO ⟨c83,c97,c98,c99,trivial⟩ trivial ⟨i100 _,i101 _,i102 _,trivial⟩:Cons Try.prog (X48 fuel)) (fn:=Try.f48) (by kernel_rfl) (by kernel_rfl) (by kernel_rfl) (by kernel_rfl) (F48 fuel) (by kernel_rfl) (fun a0 a1 a2=>t48 fuel a0 a1 a2)
end Go.Proofs.Ytipemmgoipbojaa.Ab
set_option maxRecDepth 100000
namespace Go.Proofs.Ytipemmgoipbojaa.Ab
open Go Go.RowKit
noncomputable def X19:Cx C:=fT [(10,yU),(48,TG)] [] [] [] 1245184 []
def F19 (n:Nat):Cf:={ N:=n,keep:=[0,1,3,4,5,6,7,11,17,44],live:=lk [(0,[0,3,5,6])] }
noncomputable abbrev Tx:=jB KK [.row .kF]
abbrev Ee:Type:=List (C .kF)×Int
section
variable (x0 x3:Int) (x4:List (C .aA)) (x5:List (C .aC)) (x6:List (C .ay))
def aav:Ee→St C:=fun (x1,x2)=>{ env:=[(0,.one (.int .i64 x0)),(3,.one (.ptr 1245376 0)),(5,.one (.ref 100005 [])),(6,.one (.int .i64 x2))],ah:=[(100005,.row .kF x1 false),(1245376,.box .mem [.int .i64 x3,.row .aA x4,.row .aC x5,.row .ay x6])],base:=0 }
end
noncomputable def Ls (x0 x3:Int) (x4:List (C .aA)) (x5:List (C .aC)) (x6:List (C .ay)) (n:Nat)   (bu:Ee→Option (List (C .kF))):Ee→Option (List (C .kF)):=fun (x1,x2)=>
 cond (decide (x2<(x4.length:Int)))
 (cond (decide (0≤x2)) (Option.bind x4[x2.toNat]? fun e2=>Option.bind (G48 x0 (⟨x3,x4,x5,x6⟩:aa) e2) fun r3=>
 cond (decide (r3.iI>0))
 (cond (decide ((x1.length+(([r3]:List (C .kF))).length)*88≤140737488355328)) (bu ((x1++(([r3]:List (C .kF))),IntKind.i64.wrap (x2+1)))) none)
 (cond r3.nJ
 (cond (decide ((x1.length+(([r3]:List (C .kF))).length)*88≤140737488355328)) (bu ((x1++(([r3]:List (C .kF))),IntKind.i64.wrap (x2+1)))) none)
 (cond (decide ((r3.Ends.length:Int)>0))
 (cond (decide ((x1.length+(([r3]:List (C .kF))).length)*88≤140737488355328)) (bu ((x1++(([r3]:List (C .kF))),IntKind.i64.wrap (x2+1)))) none)
 (cond r3.Drop
 (cond (decide ((x1.length+(([r3]:List (C .kF))).length)*88≤140737488355328)) (bu ((x1++(([r3]:List (C .kF))),IntKind.i64.wrap (x2+1)))) none)
 (bu ((x1,IntKind.i64.wrap (x2+1)))))))) none)
 (some (x1))
section
variable (x0 x3:Int) (x4:List (C .aA)) (x5:List (C .aC)) (x6:List (C .ay))
noncomputable def OC (n:Nat)  (x:Ee):Option (List (C .kF)):=iter (fun rec S=>run X19 (F19 n) (au (ak Try.f19) [1,1,1,0,1,0,0]) 0 S (dq rec (cJ 0 (bf (run X19 (F19 n) (au (ak Try.f19) [1,1,1,1]) 0) (eu X19 Try.f19 Tx))))) [0,3,5,6] n (aav x0 x3 x4 x5 x6 x)
theorem abI (n:Nat)  (x:Ee):OC x0 x3 x4 x5 x6 n  x=cu (Ls x0 x3 x4 x5 x6 n  ) n x:=by
 refine iter_eq _ _ (fun bu x=>?_) n x;obtain ⟨x1,x2⟩:=x
 kernel_rfl
end
noncomputable def RK (n:Nat) (a0:Int) (a1:aa):Option (List (C .kF)):=
 Option.bind (JG a1) fun r1=>
 cond (!r1)
 (some (([]:List (C .kF))))
 (cu (Ls a0 a1.b8 a1.ae a1.ai a1.aj n ) n ((([]:List (C .kF)),0)))
theorem t19 (n:Nat) (a0:Int) (a1:aa):dG X19 (F19 n) Try.f19 [.one (.int .i64 a0),.agg [.int .i64 a1.b8,.row .aA a1.ae,.row .aC a1.ai,.row .ay a1.aj]] Tx=RK n a0 a1:=by
 refine Eq.trans (b:=
  Option.bind (JG a1) fun r1=>
  cond (!r1)
  (some (([]:List (C .kF))))
  (OC a0 a1.b8 a1.ae a1.ai a1.aj n   ((([]:List (C .kF)),0)))) (by kernel_rfl) ?_
 simp only [RK,abI]
noncomputable def G19 (a0:Int) (a1:aa):Option (List (C .kF)):=RK fuel a0 a1
noncomputable def TN:iK C:=lD KK [.int .i64,.el .dv] [.row .kF] G19
theorem c19:dm Try.prog KK 19 TN:=cO (gO ⟨c10,c48,trivial⟩ trivial trivial:Cons Try.prog X19) (fn:=Try.f19) (by kernel_rfl) (by kernel_rfl) (by kernel_rfl) (by kernel_rfl) (F19 fuel) (by kernel_rfl) (fun a0 a1=>t19 fuel a0 a1)
noncomputable def NR:Cx C:=fT [(10,yU)] [] [] [] 7274496 []
def RT (n:Nat):Cf:={ N:=n,keep:=[0,1,2,3,13,18,59],live:=lk [(0,[1,3])] }
noncomputable abbrev M5:=jB KK [.bool]
abbrev wV:Type:=Int
section
variable (x1:List (C .dv)) (x2:Int) (x3:List (C .aA)) (x4:List (C .aC)) (x5:List (C .ay))
def UU:wV→St C:=fun x0=>{ env:=[(1,.one (.ptr 7274560 0)),(3,.one (.int .i64 x0))],ah:=[(7274560,.box .mem [.row .dv x1,.int .i64 x2,.row .aA x3,.row .aC x4,.row .ay x5])],base:=0 }
end
noncomputable def E5 (x1:List (C .dv)) (x2:Int) (n:Nat)   (bu:wV→Option (Bool)):wV→Option (Bool):=fun x0=>
 cond (decide (x0<(x1.length:Int)))
 (cond (decide (0≤x0)) (Option.bind x1[x0.toNat]? fun e2=>Option.bind (JG e2) fun r3=>
 cond (!r3)
 (some (false))
 (cond (decide (0≤x0)) (Option.bind x1[x0.toNat]? fun e4=>cond (decide (e4.b8>x2))
 (some (false))
 (cond (decide (x0>0))
 (cond (decide (0≤IntKind.i64.wrap (x0-1))) (Option.bind x1[(IntKind.i64.wrap (x0-1)).toNat]? fun e5=>cond (decide (0≤x0)) (Option.bind x1[x0.toNat]? fun e6=>cond (decide (e5.b8>e6.b8))
 (some (false))
 (bu (IntKind.i64.wrap (x0+1)))) none) none)
 (bu (IntKind.i64.wrap (x0+1))))) none)) none)
 (some (true))
section
variable (x1:List (C .dv)) (x2:Int) (x3:List (C .aA)) (x4:List (C .aC)) (x5:List (C .ay))
noncomputable def H9 (n:Nat)  (x:wV):Option (Bool):=iter (fun rec S=>run NR (RT n) (au (ak Try.f111) [1,1,0,1,0,0]) 0 S (dq rec (cJ 0 (bf (run NR (RT n) (au (ak Try.f111) [1,1,1]) 0) (eu NR Try.f111 M5))))) [1,3] n (UU x1 x2 x3 x4 x5 x)
theorem Vw (n:Nat)  (x:wV):H9 x1 x2 x3 x4 x5 n  x=cu (E5 x1 x2 n  ) n x:=by
 refine iter_eq _ _ (fun bu x0=>?_) n x
 kernel_rfl
end
noncomputable def Ii (n:Nat) (a0:aO):Option (Bool):=
 Option.bind (JG (⟨a0.cr,a0.aG,a0.aU,a0.aT⟩:aa)) fun r1=>
 cond (!r1)
 (some (false))
 (cond (decide ((a0.gZ.length:Int)>8))
 (some (false))
 (cu (E5 a0.gZ a0.cr n ) n 0))
theorem t111 (n:Nat) (a0:aO):dG NR (RT n) Try.f111 [.agg [.row .dv a0.gZ,.int .i64 a0.cr,.row .aA a0.aG,.row .aC a0.aU,.row .ay a0.aT]] M5=Ii n a0:=by
 refine Eq.trans (b:=
  Option.bind (JG (⟨a0.cr,a0.aG,a0.aU,a0.aT⟩:aa)) fun r1=>
  cond (!r1)
  (some (false))
  (cond (decide ((a0.gZ.length:Int)>8))
  (some (false))
  (H9 a0.gZ a0.cr a0.aG a0.aU a0.aT n   0))) (by kernel_rfl) ?_
 simp only [Ii,Vw]
noncomputable def OV (a0:aO):Option (Bool):=Ii fuel a0
noncomputable def Nl:iK C:=lD KK [.el .xk] [.bool] OV
theorem c111:dm Try.prog KK 111 Nl:=cO (gO ⟨c10,trivial⟩ trivial trivial:Cons Try.prog NR) (fn:=Try.f111) (by kernel_rfl) (by kernel_rfl) (by kernel_rfl) (by kernel_rfl) (RT fuel) (by kernel_rfl) (fun a0=>t111 fuel a0)
noncomputable def xq:Cx C:=fT [(26,pD)] [] [] [] 7340032 []
def Dv (n:Nat):Cf:={ N:=n,keep:=[0,2,3,4,5,6,7,17,23,46],live:=lk [(0,[3,4,5]),(2,[3,4,5,6,7])] }
noncomputable abbrev FP:=jB KK [.row .e3]
abbrev wU:Type:=Bool×Int
abbrev sX:Type:=List (C .e3)×Int
section
variable (x0 x1:List (C .e3)) (x2:Int)
def UT:wU→St C:=fun (x3,x4)=>{ env:=[(3,.one (.ref 100003 [])),(4,.one (.ref 100004 [])),(5,.one (.int .i64 x2)),(6,.one (.bool x3)),(7,.one (.int .i64 x4))],ah:=[(100003,.row .e3 x0 false),(100004,.row .e3 x1 false)],base:=0 }
end
noncomputable def E3 (x0 x1:List (C .e3)) (x2:Int) (n:Nat)  (bu:sX→Option (List (C .e3))) (eW:wU→Option (List (C .e3))):wU→Option (List (C .e3)):=fun (x3,x4)=>
 cond (decide (x4<(x0.length:Int)))
 (cond x3
 (eW ((true,IntKind.i64.wrap (x4+1))))
 (cond (decide (0≤x4)) (cond (decide (x4<(x0.length:Int))) (Option.bind x0[x4.toNat]? fun e1=>cond (decide (0≤x2)) (cond (decide (x2<(x1.length:Int))) (Option.bind x1[x2.toNat]? fun e2=>eW ((e1==e2,IntKind.i64.wrap (x4+1)))) none) none) none) none))
 (cond (!x3)
 (cond (decide (0≤x2)) (cond (decide (x2<(x1.length:Int))) (Option.bind x1[x2.toNat]? fun e3=>Option.bind (lB e3 1 6) fun r4=>
 cond r4
 (cond (decide (0≤x2)) (cond (decide (x2<(x1.length:Int))) (Option.bind x1[x2.toNat]? fun e5=>cond (decide ((x0.length+(([e5]:List (C .e3))).length)*8≤140737488355328)) (bu ((x0++(([e5]:List (C .e3))),IntKind.i64.wrap (x2+1)))) none) none) none)
 (bu ((x0,IntKind.i64.wrap (x2+1))))) none) none)
 (bu ((x0,IntKind.i64.wrap (x2+1)))))
section
variable (x1:List (C .e3))
def KJ:sX→St C:=fun (x0,x2)=>{ env:=[(3,.one (.ref 100003 [])),(4,.one (.ref 100004 [])),(5,.one (.int .i64 x2))],ah:=[(100003,.row .e3 x0 false),(100004,.row .e3 x1 false)],base:=0 }
end
noncomputable def E4 (x1:List (C .e3)) (n:Nat)   (bu:sX→Option (List (C .e3))):sX→Option (List (C .e3)):=fun (x0,x2)=>
 cond (decide (x2<(x1.length:Int)))
 (cu (E3 x0 x1 x2 n bu) n (false,0))
 (some (x0))
section
variable (x0 x1:List (C .e3)) (x2:Int)
noncomputable def H7 (n:Nat) (bu:St C→Option (List (C .e3))) (x:wU):Option (List (C .e3)):=iter (fun rec S=>run xq (Dv n) (au (ak Try.f112) [1,1,1,0,1,0,0,1,0,0,1,0,1,0,0]) 2 S (dq rec (cJ 2 (bf (run xq (Dv n) (au (ak Try.f112) [1,1,1,0,1,0,0,1,0,0,1,1]) 1) (cJ 1 (bf (run xq (Dv n) (au (ak Try.f112) [1,1,1,0,1,0,0,1,1]) 0) (dq (gR [3,4,5] bu) (cJ 0 (bf (run xq (Dv n) (au (ak Try.f112) [1,1,1,1]) 0) (eu xq Try.f112 FP)))))))))) [3,4,5,6,7] n (UT x0 x1 x2 x)
theorem Vu (n:Nat) (bu:St C→Option (List (C .e3))) (x:wU):H7 x0 x1 x2 n bu x=cu (E3 x0 x1 x2 n  (fun x=>bu (KJ x1 x))) n x:=by
 refine iter_eq _ _ (fun eW x=>?_) n x;obtain ⟨x3,x4⟩:=x
 kernel_rfl
end
section
variable (x1:List (C .e3))
noncomputable def H8 (n:Nat)  (x:sX):Option (List (C .e3)):=iter (fun rec S=>run xq (Dv n) (au (ak Try.f112) [1,1,1,0,1,0,0]) 0 S (dq rec (cJ 0 (bf (run xq (Dv n) (au (ak Try.f112) [1,1,1,1]) 0) (eu xq Try.f112 FP))))) [3,4,5] n (KJ x1 x)
theorem Vv (n:Nat)  (x:sX):H8 x1 n  x=cu (E4 x1 n  ) n x:=by
 refine iter_eq _ _ (fun bu x=>?_) n x;obtain ⟨x0,x2⟩:=x
 refine Eq.trans (b:=
  cond (decide (x2<(x1.length:Int)))
  (H7 x0 x1 x2 n  bu (false,0))
  (some (x0))) (by kernel_rfl) ?_
 simp only [Vu];rfl
end
noncomputable def Ih (n:Nat) (a0:List (C .e3)):Option (List (C .e3)):=
 cond (decide (((([]:List (C .e3))).length+a0.length)*8≤140737488355328)) (cond (decide ((((([]:List (C .e3)))++a0).length+(([1,2,3,4,5,6]:List (C .e3))).length)*8≤140737488355328)) (cu (E4 (((([]:List (C .e3)))++a0)++(([1,2,3,4,5,6]:List (C .e3)))) n ) n ((([]:List (C .e3)),0))) none) none
theorem t112 (n:Nat) (a0:List (C .e3)):dG xq (Dv n) Try.f112 [.one (.row .e3 a0)] FP=Ih n a0:=by
 refine Eq.trans (b:=
  cond (decide (((([]:List (C .e3))).length+a0.length)*8≤140737488355328)) (cond (decide ((((([]:List (C .e3)))++a0).length+(([1,2,3,4,5,6]:List (C .e3))).length)*8≤140737488355328)) (H8 (((([]:List (C .e3)))++a0)++(([1,2,3,4,5,6]:List (C .e3)))) n   ((([]:List (C .e3)),0))) none) none) (by kernel_rfl) ?_
 simp only [Ih,Vv]
noncomputable def OU (a0:List (C .e3)):Option (List (C .e3)):=Ih fuel a0
noncomputable def Nk:iK C:=lD KK [.row .e3] [.row .e3] OU
theorem c112:dm Try.prog KK 112 Nk:=cO (gO ⟨Re,trivial⟩ trivial trivial:Cons Try.prog xq) (fn:=Try.f112) (by kernel_rfl) (by kernel_rfl) (by kernel_rfl) (by kernel_rfl) (Dv fuel) (by kernel_rfl) (fun a0=>t112 fuel a0)
noncomputable def X73:Cx C:=fT [(27,yT)] [] [] [] 4784128 []
def F73 (n:Nat):Cf:={ N:=n,keep:=[0,1,2,3,4,13],live:=lk [(0,[1,2,3,4])] }
noncomputable abbrev Tm:=jB KK [.el .xk]
abbrev DU:Type:=Int×List (C .dv)
section
variable (x1:List (C .dv)) (x2:Int) (x3:List (C .aA)) (x4:List (C .aC)) (x5:List (C .ay)) (x6:List (C .dv)) (x7:Int) (x8:List (C .aA)) (x9:List (C .aC)) (aM:List (C .ay)) (aQ:Int) (aZ:List (C .aA)) (aV:List (C .aC)) (aY:List (C .ay))
def aag:DU→St C:=fun (x0,aS)=>{ env:=[(1,.one (.ptr 4784192 0)),(2,.one (.ptr 4784256 0)),(3,.one (.ptr 4784320 0)),(4,.one (.int .i64 x0))],ah:=[(4784192,.box .mem [.row .dv x1,.int .i64 x2,.row .aA x3,.row .aC x4,.row .ay x5]),(4784256,.box .mem [.ref 479425600 [],.int .i64 x7,.ref 479425602 [],.ref 479425603 [],.ref 479425604 []]),(479425600,.row .dv x6 false),(479425602,.row .aA x8 false),(479425603,.row .aC x9 false),(479425604,.row .ay aM false),(4784320,.box .mem [.ref 479432000 [],.int .i64 aQ,.ref 479432002 [],.ref 479432003 [],.ref 479432004 []]),(479432000,.row .dv aS false),(479432002,.row .aA aZ false),(479432003,.row .aC aV false),(479432004,.row .ay aY false)],base:=0 }
end
noncomputable def La (x1:List (C .dv)) (aQ:Int) (aZ:List (C .aA)) (aV:List (C .aC)) (aY:List (C .ay)) (n:Nat)   (bu:DU→Option (aO)):DU→Option (aO):=fun (x0,aS)=>
 cond (decide (x0<(x1.length:Int)))
 (cond (decide (0≤x0)) (Option.bind x1[x0.toNat]? fun e2=>Option.bind (zi e2) fun r3=>
 cond (decide ((aS.length+(([r3]:List (C .dv))).length)*80≤140737488355328)) (bu ((IntKind.i64.wrap (x0+1),aS++(([r3]:List (C .dv)))))) none) none)
 (some ((⟨aS,aQ,aZ,aV,aY⟩:aO)))
section
variable (x1:List (C .dv)) (x2:Int) (x3:List (C .aA)) (x4:List (C .aC)) (x5:List (C .ay)) (x6:List (C .dv)) (x7:Int) (x8:List (C .aA)) (x9:List (C .aC)) (aM:List (C .ay)) (aQ:Int) (aZ:List (C .aA)) (aV:List (C .aC)) (aY:List (C .ay))
noncomputable def Oa (n:Nat)  (x:DU):Option (aO):=iter (fun rec S=>run X73 (F73 n) (au (ak Try.f73) [1,1,0,1,0,0]) 0 S (dq rec (cJ 0 (bf (run X73 (F73 n) (au (ak Try.f73) [1,1,1]) 0) (eu X73 Try.f73 Tm))))) [1,2,3,4] n (aag x1 x2 x3 x4 x5 x6 x7 x8 x9 aM aQ aZ aV aY x)
theorem abk (n:Nat)  (x:DU):Oa x1 x2 x3 x4 x5 x6 x7 x8 x9 aM aQ aZ aV aY n  x=cu (La x1 aQ aZ aV aY n  ) n x:=by
 refine iter_eq _ _ (fun bu x=>?_) n x;obtain ⟨x0,aS⟩:=x
 kernel_rfl
end
noncomputable def Rw (n:Nat) (a0:aO):Option (aO):=
 Option.bind (zi (⟨a0.cr,a0.aG,a0.aU,a0.aT⟩:aa)) fun r1=>
 cu (La a0.gZ r1.b8 r1.ae r1.ai r1.aj n ) n ((0,([]:List (C .dv))))
theorem t73 (n:Nat) (a0:aO):dG X73 (F73 n) Try.f73 [.agg [.row .dv a0.gZ,.int .i64 a0.cr,.row .aA a0.aG,.row .aC a0.aU,.row .ay a0.aT]] Tm=Rw n a0:=by
 refine Eq.trans (b:=
  Option.bind (zi (⟨a0.cr,a0.aG,a0.aU,a0.aT⟩:aa)) fun r1=>
  Oa a0.gZ a0.cr a0.aG a0.aU a0.aT (([]:List (C .dv))) 0 (([]:List (C .aA))) (([]:List (C .aC))) (([]:List (C .ay))) r1.b8 r1.ae r1.ai r1.aj n   ((0,([]:List (C .dv))))) (by kernel_rfl) ?_
 simp only [Rw,abk]
noncomputable def Rx (a0:aO):Option (aO):=Rw fuel a0
noncomputable def M9:iK C:=lD KK [.el .xk] [.el .xk] Rx
theorem c73:dm Try.prog KK 73 M9:=cO (gO ⟨c27,trivial⟩ trivial trivial:Cons Try.prog X73) (fn:=Try.f73) (by kernel_rfl) (by kernel_rfl) (by kernel_rfl) (by kernel_rfl) (F73 fuel) (by kernel_rfl) (fun a0=>t73 fuel a0)
noncomputable def F110 (n:Nat):Cf:={ N:=n,keep:=[0,1,2,3,4,5,11,23],live:=lk [] }
def FQ (os:cW C) (ls:List (Lf C)) (rs:List (Bool×List (Lf C))):Option (aO):=match os,ls,rs with
 | [(77777777,.ghost)],[],[(true,[.row .dv uC,.int .i64 zt,.row .aA zq,.row .aC zo,.row .ay Us])]=>some ((⟨uC,zt,zq,zo,Us⟩:aO))
 | _,_,_=>none
noncomputable def RV (n:Nat) (rc:(List (C .dv))→(Int)→(List (C .aA))→(List (C .aC))→(List (C .ay))→(Int)→(List (C .aA))→(List (C .aC))→(List (C .ay))→Option (aO)) (a0:List (C .dv)) (a1:Int) (a2:List (C .aA)) (a3:List (C .aC)) (a4:List (C .ay)) (a5:Int) (a6:List (C .aA)) (a7:List (C .aC)) (a8:List (C .ay)):Option (aO):=
 cond (a5==a1)
 (some ((⟨a0,a1,a2,a3,a4⟩:aO)))
 (cond (decide (((([]:List (C .dv))).length+a0.length)*80≤140737488355328)) (cond (decide ((((([]:List (C .dv)))++a0).length+(([(⟨a1,a2,a3,a4⟩:aa)]:List (C .dv))).length)*80≤140737488355328)) (cond (decide ((((((([]:List (C .dv)))++a0)++(([(⟨a1,a2,a3,a4⟩:aa)]:List (C .dv)))).length:Int))>8))
 (cond (decide ((0:Int)≤1)) (cond (decide ((1:Int)≤((((([]:List (C .dv)))++a0)++(([(⟨a1,a2,a3,a4⟩:aa)]:List (C .dv)))).length:Int))) (cond (decide (((((([]:List (C .dv)))++a0)++(([(⟨a1,a2,a3,a4⟩:aa)]:List (C .dv)))).length:Int)≤((((([]:List (C .dv)))++a0)++(([(⟨a1,a2,a3,a4⟩:aa)]:List (C .dv)))).length:Int))) (some ((⟨((((([]:List (C .dv)))++a0)++(([(⟨a1,a2,a3,a4⟩:aa)]:List (C .dv)))).take ((((((([]:List (C .dv)))++a0)++(([(⟨a1,a2,a3,a4⟩:aa)]:List (C .dv)))).length:Int)).toNat)).drop ((1:Int).toNat),a5,a6,a7,a8⟩:aO))) none) none) none)
 (some ((⟨((([]:List (C .dv)))++a0)++(([(⟨a1,a2,a3,a4⟩:aa)]:List (C .dv))),a5,a6,a7,a8⟩:aO)))) none) none)
noncomputable def rB (n:Nat):Nat→(List (C .dv))→(Int)→(List (C .aA))→(List (C .aC))→(List (C .ay))→(Int)→(List (C .aA))→(List (C .aC))→(List (C .ay))→Option (aO)
 | 0=>fun _ _ _ _ _ _ _ _ _=>none
 | d+1=>RV n (rB n d)
noncomputable def uR (n d:Nat):jw C:={ ids:=[],roots:=[],fQ:=[],R0:=aO,out:=fun r=>[],ret:=fun r=>[(true,[.row .dv r.gZ,.int .i64 r.cr,.row .aA r.aG,.row .aC r.aU,.row .ay r.aT])],g:=fun vs O=>match vs,O with
 | [.agg [.row .dv y0,.int .i64 y1,.row .aA y2,.row .aC y3,.row .ay y4],.agg [.int .i64 y5,.row .aA y6,.row .aC y7,.row .ay y8]],[]=>rB n d y0 y1 y2 y3 y4 y5 y6 y7 y8
 | _,_=>none }
noncomputable def Xg (n d:Nat):Cx C:=fT [] [] [(110,dH (uR n d))] [] 7208960 [25]
theorem t110 (n d:Nat) (a0:List (C .dv)) (a1:Int) (a2:List (C .aA)) (a3:List (C .aC)) (a4:List (C .ay)) (a5:Int) (a6:List (C .aA)) (a7:List (C .aC)) (a8:List (C .ay)):iD (Xg n d) (F110 n) Try.f110 (uR n (d+1)) [.agg [.row .dv a0,.int .i64 a1,.row .aA a2,.row .aC a3,.row .ay a4],.agg [.int .i64 a5,.row .aA a6,.row .aC a7,.row .ay a8]] [] FQ=RV n (rB n d) a0 a1 a2 a3 a4 a5 a6 a7 a8:=by
 kernel_rfl
noncomputable def I110 (n:Nat):mP C:=dH (uR n n)
theorem SW (n:Nat):∀ d:Nat,dx Try.prog KK 110 (dH (uR n d))
 | 0=>iL (fn:=Try.f110) (by kernel_rfl) (by kernel_rfl) (iY (by kernel_rfl)) _ (fun vs O=>by simp only [uR];split<;>rfl)
 | d+1=>by
  have ih:=SW n d;have x:je Try.prog (Xg n d):=jG;have q:Cons Try.prog (Xg n d):=gO trivial trivial ⟨ih,trivial⟩;refine lP x q (by kernel_rfl) (f:=110) (fn:=Try.f110) (c:=ak Try.f110) (by kernel_rfl) (by kernel_rfl) (by kernel_rfl) (iY (by kernel_rfl)) (uR n (d+1)) (Nat.le_of_ble_eq_true (by kernel_rfl)) FQ (fun os ls rs r0 h=>?_) (fun vs O r0 hk h=>?_)
  ·unfold FQ at h
   split at h
   ·cases h;exact ⟨rfl,rfl,rfl⟩
   ·cases h
  ·simp only [uR] at h
   split at h
   ·rename_i y0 y1 y2 y3 y4 y5 y6 y7 y8
    exact ⟨mf (by kernel_rfl) (by kernel_rfl) (by kernel_rfl) (by kernel_rfl) (by kernel_rfl) (by kernel_rfl) (by kernel_rfl) (by kernel_rfl) (by kernel_rfl),Nat.le_of_ble_eq_true (by kernel_rfl),F110 n,(t110 n d y0 y1 y2 y3 y4 y5 y6 y7 y8).trans h⟩
   ·cases h
theorem i110 (n:Nat):dx Try.prog KK 110 (I110 n):=SW n n
end Go.Proofs.Ytipemmgoipbojaa.Ab
set_option maxRecDepth 100000
namespace Go.Proofs.Ytipemmgoipbojaa.Ab
open Go Go.RowKit
noncomputable def F40 (n:Nat):Cf:={ N:=n,keep:=[0,1,2,4,12,19],live:=lk [] }
def M0 (os:cW C) (ls:List (Lf C)) (rs:List (Bool×List (Lf C))):Option (aa):=match os,ls,rs with
 | [(77777777,.ghost)],[],[(true,[.int .i64 uC,.row .aA zt,.row .aC zq,.row .ay zo])]=>some ((⟨uC,zt,zq,zo⟩:aa))
 | _,_,_=>none
noncomputable def B40 (n:Nat) (rc:(List (C .dv))→(Int)→(List (C .aA))→(List (C .aC))→(List (C .ay))→(Int)→Option (aa)) (a0:List (C .dv)) (a1:Int) (a2:List (C .aA)) (a3:List (C .aC)) (a4:List (C .ay)) (a5:Int):Option (aa):=
 cond (decide (a5≤0))
 (some ((⟨a1,a2,a3,a4⟩:aa)))
 (cond ((a0.length:Int)==0)
 (some ((⟨a1,a2,a3,a4⟩:aa)))
 (cond (decide (a5>(a0.length:Int)))
 (cond (decide (0≤IntKind.i64.wrap ((a0.length:Int)-(a0.length:Int)))) (Option.bind a0[(IntKind.i64.wrap ((a0.length:Int)-(a0.length:Int))).toNat]? fun e1=>some (e1)) none)
 (cond (decide (0≤IntKind.i64.wrap ((a0.length:Int)-a5))) (Option.bind a0[(IntKind.i64.wrap ((a0.length:Int)-a5)).toNat]? fun e2=>some (e2)) none)))
noncomputable def Dp (n:Nat):Nat→(List (C .dv))→(Int)→(List (C .aA))→(List (C .aC))→(List (C .ay))→(Int)→Option (aa)
 | 0=>fun _ _ _ _ _ _=>none
 | d+1=>B40 n (Dp n d)
noncomputable def EL (n d:Nat):jw C:={ ids:=[],roots:=[],fQ:=[],R0:=aa,out:=fun r=>[],ret:=fun r=>[(true,[.int .i64 r.b8,.row .aA r.ae,.row .aC r.ai,.row .ay r.aj])],g:=fun vs O=>match vs,O with
 | [.agg [.row .dv y0,.int .i64 y1,.row .aA y2,.row .aC y3,.row .ay y4],.one (.int .i64 y5)],[]=>Dp n d y0 y1 y2 y3 y4 y5
 | _,_=>none }
noncomputable def X40 (n d:Nat):Cx C:=fT [] [] [(40,dH (EL n d))] [] 2621440 []
theorem t40 (n d:Nat) (a0:List (C .dv)) (a1:Int) (a2:List (C .aA)) (a3:List (C .aC)) (a4:List (C .ay)) (a5:Int):iD (X40 n d) (F40 n) Try.f40 (EL n (d+1)) [.agg [.row .dv a0,.int .i64 a1,.row .aA a2,.row .aC a3,.row .ay a4],.one (.int .i64 a5)] [] M0=B40 n (Dp n d) a0 a1 a2 a3 a4 a5:=by
 kernel_rfl
noncomputable def I40 (n:Nat):mP C:=dH (EL n n)
theorem i40d (n:Nat):∀ d:Nat,dx Try.prog KK 40 (dH (EL n d))
 | 0=>iL (fn:=Try.f40) (by kernel_rfl) (by kernel_rfl) (iY (by kernel_rfl)) _ (fun vs O=>by simp only [EL];split<;>rfl)
 | d+1=>by
  have ih:=i40d n d;have x:je Try.prog (X40 n d):=jG;have q:Cons Try.prog (X40 n d):=gO trivial trivial ⟨ih,trivial⟩;refine lP x q (by kernel_rfl) (f:=40) (fn:=Try.f40) (c:=ak Try.f40) (by kernel_rfl) (by kernel_rfl) (by kernel_rfl) (iY (by kernel_rfl)) (EL n (d+1)) (Nat.le_of_ble_eq_true (by kernel_rfl)) M0 (fun os ls rs r0 h=>?_) (fun vs O r0 hk h=>?_)
  ·unfold M0 at h
   split at h
   ·cases h;exact ⟨rfl,rfl,rfl⟩
   ·cases h
  ·simp only [EL] at h
   split at h
   ·rename_i y0 y1 y2 y3 y4 y5
    exact ⟨mf (by kernel_rfl) (by kernel_rfl) (by kernel_rfl) (by kernel_rfl) (by kernel_rfl) (by kernel_rfl) (by kernel_rfl) (by kernel_rfl) (by kernel_rfl),Nat.le_of_ble_eq_true (by kernel_rfl),F40 n,(t40 n d y0 y1 y2 y3 y4 y5).trans h⟩
   ·cases h
theorem i40 (n:Nat):dx Try.prog KK 40 (I40 n):=i40d n n
noncomputable def F70 (n:Nat):Cf:={ N:=n,keep:=[0,1,2,3,4,5,6,7,8,9,10,11,12,16,41],live:=lk [(0,[2,4,8,9,10])] }
def CZ (os:cW C) (ls:List (Lf C)) (rs:List (Bool×List (Lf C))):Option (aO×List (C .e3)):=match os,ls,rs with
 | [(77777777,.ghost)],[],[(true,[.row .dv uC,.int .i64 zt,.row .aA zq,.row .aC zo,.row .ay Us]),(false,[.row .e3 J6])]=>some ((⟨uC,zt,zq,zo,Us⟩:aO),J6)
 | _,_,_=>none
abbrev DV:Type:=List (C .e3)×Int×List (C .dv)×Int×List (C .aA)×List (C .aC)×List (C .ay)
section
variable (x1:List (C .kF)) (x8:List (C .dv)) (x9:Int) (aM:List (C .aA)) (aS:List (C .aC)) (aQ:List (C .ay))
def aai:DV→St C:=fun (x0,x2,x3,x4,x5,x6,x7)=>{ env:=[(2,.one (.ptr 4587648 0)),(4,.one (.ptr 4587776 0)),(8,.one (.ref 100008 [])),(9,.one (.row .kF x1)),(10,.one (.int .i64 x2)),(90000,.frame),(90001,.bQ (true,[]) 0)],ah:=[(100008,.row .e3 x0 false),(4587648,.box .mem [.row .dv x3,.int .i64 x4,.row .aA x5,.row .aC x6,.row .ay x7]),(4587776,.box .mem [.ref 459777600 [],.int .i64 x9,.ref 459777602 [],.ref 459777603 [],.ref 459777604 []]),(459777600,.row .dv x8 false),(459777602,.row .aA aM false),(459777603,.row .aC aS false),(459777604,.row .ay aQ false),(77777777,.ghost)],base:=0 }
end
noncomputable def Ld (x1:List (C .kF)) (n:Nat) (rc:(List (C .dv))→(Int)→(List (C .aA))→(List (C .aC))→(List (C .ay))→(Int)→(Int)→(Int)→(ByteArray)→(Int)→(Bool)→(Int)→(Int)→(Int)→(Int)→(Int)→(Int)→(Int)→(Int)→(Int)→(Int)→(ByteArray)→(Int)→(Bool)→Option (aO×List (C .e3)))  (bu:DV→Option (aO×List (C .e3))):DV→Option (aO×List (C .e3)):=fun (x0,x2,x3,x4,x5,x6,x7)=>
 cond (decide (x2<(x1.length:Int)))
 (cond (decide (0≤x2)) (Option.bind x1[x2.toNat]? fun e6=>Option.bind (G14 (⟨x4,x5,x6,x7⟩:aa) e6) fun r7=>
 (fun y=>alt y (y))
 (Option.bind ((rB n n) x3 x4 x5 x6 x7 r7.1.b8 r7.1.ae r7.1.ai r7.1.aj) fun r8=>
 cond (decide ((x0.length+(([r7.2]:List (C .e3))).length)*8≤140737488355328)) (bu ((x0++(([r7.2]:List (C .e3))),IntKind.i64.wrap (x2+1),r8.gZ,r8.cr,r8.aG,r8.aU,r8.aT))) none)) none)
 (some ((⟨x3,x4,x5,x6,x7⟩:aO),x0))
noncomputable def B70 (n:Nat) (rc:(List (C .dv))→(Int)→(List (C .aA))→(List (C .aC))→(List (C .ay))→(Int)→(Int)→(Int)→(ByteArray)→(Int)→(Bool)→(Int)→(Int)→(Int)→(Int)→(Int)→(Int)→(Int)→(Int)→(Int)→(Int)→(ByteArray)→(Int)→(Bool)→Option (aO×List (C .e3))) (a0:List (C .dv)) (a1:Int) (a2:List (C .aA)) (a3:List (C .aC)) (a4:List (C .ay)) (a5 a6 a7:Int) (a8:ByteArray) (a9:Int) (Dj:Bool) (AO T3 T2 T0 TZ a16 TY TX TW a20:Int) (TV:ByteArray) (a22:Int) (TU:Bool):Option (aO×List (C .e3)):=
 Option.bind (lB a5 1 6) fun r1=>
 cond (!r1)
 (Option.bind (G8 (⟨a1,a2,a3,a4⟩:aa) (⟨a7,a8,a9,Dj,AO,T3,T2,T0,TZ,a16,TY,TX,TW,a20,TV,a22,TU⟩:az)) fun r2=>
 Option.bind ((rB n n) a0 a1 a2 a3 a4 r2.1.b8 r2.1.ae r2.1.ai r2.1.aj) fun r3=>
 some (r3,([r2.2]:List (C .e3))))
 (Option.bind ((Dp n n) a0 a1 a2 a3 a4 a6) fun r4=>
 Option.bind (G19 a5 r4) fun r5=>
 cu (Ld r5 n rc ) n ((([]:List (C .e3)),0,a0,a1,a2,a3,a4)))
noncomputable def nN (n:Nat):Nat→(List (C .dv))→(Int)→(List (C .aA))→(List (C .aC))→(List (C .ay))→(Int)→(Int)→(Int)→(ByteArray)→(Int)→(Bool)→(Int)→(Int)→(Int)→(Int)→(Int)→(Int)→(Int)→(Int)→(Int)→(Int)→(ByteArray)→(Int)→(Bool)→Option (aO×List (C .e3))
 | 0=>fun _ _ _ _ _ _ _ _ _ _ _ _ _ _ _ _ _ _ _ _ _ _ _ _=>none
 | d+1=>B70 n (nN n d)
noncomputable def Bn (n d:Nat):jw C:={ ids:=[],roots:=[],fQ:=[],R0:=aO×List (C .e3),out:=fun r=>[],ret:=fun r=>[(true,[.row .dv r.1.gZ,.int .i64 r.1.cr,.row .aA r.1.aG,.row .aC r.1.aU,.row .ay r.1.aT]),(false,[.row .e3 r.2])],g:=fun vs O=>match vs,O with
 | [.agg [.row .dv y0,.int .i64 y1,.row .aA y2,.row .aC y3,.row .ay y4],.agg [.int .i64 y5,.int .i64 y6,.int .i64 y7,.str y8,.int .i64 y9,.bool Uu,.int .i64 Ut,.int .i64 y12,.int .i64 y13,.int .i64 y14,.int .i64 y15,.int .i64 y16,.int .i64 y17,.int .i64 y18,.int .i64 y19,.int .i64 y20,.str y21,.int .i64 y22,.bool y23]],[]=>nN n d y0 y1 y2 y3 y4 y5 y6 y7 y8 y9 Uu Ut y12 y13 y14 y15 y16 y17 y18 y19 y20 y21 y22 y23
 | _,_=>none }
noncomputable def Xe (n d:Nat):Cx C:=fT [(8,(ML W4)),(14,(ML TP)),(19,(ML TN)),(26,pD)] [] [(70,dH (Bn n d)),(40,I40 n),(110,I110 n)] [2,3,4,5,7,8,9,10,12,27,28,29,31,32,33,34,35,36,37,56] 4587520 []
section
variable (x1:List (C .kF)) (x8:List (C .dv)) (x9:Int) (aM:List (C .aA)) (aS:List (C .aC)) (aQ:List (C .ay))
noncomputable def Oe (n d:Nat)  (x:DV):Option (aO×List (C .e3)):=iter (fun rec S=>run (Xe n d) (F70 n) (au (ak Try.f70) [1,1,1,1,0,1,0,0]) 0 S (dq rec (cJ 0 (bf (run (Xe n d) (F70 n) (au (ak Try.f70) [1,1,1,1,1]) 0) (nG (Xe n d) Try.f70 CZ))))) [2,4,8,9,10] n (aai x1 x8 x9 aM aS aQ x)
theorem abn (n d:Nat)  (x:DV):Oe x1 x8 x9 aM aS aQ n d  x=cu (Ld x1 n (nN n d) ) n x:=by
 refine iter_eq _ _ (fun bu x=>?_) n x;obtain ⟨x0,x2,x3,x4,x5,x6,x7⟩:=x
 kernel_rfl
end
theorem t70 (n d:Nat) (a0:List (C .dv)) (a1:Int) (a2:List (C .aA)) (a3:List (C .aC)) (a4:List (C .ay)) (a5 a6 a7:Int) (a8:ByteArray) (a9:Int) (Dj:Bool) (AO T3 T2 T0 TZ a16 TY TX TW a20:Int) (TV:ByteArray) (a22:Int) (TU:Bool):iD (Xe n d) (F70 n) Try.f70 (Bn n (d+1)) [.agg [.row .dv a0,.int .i64 a1,.row .aA a2,.row .aC a3,.row .ay a4],.agg [.int .i64 a5,.int .i64 a6,.int .i64 a7,.str a8,.int .i64 a9,.bool Dj,.int .i64 AO,.int .i64 T3,.int .i64 T2,.int .i64 T0,.int .i64 TZ,.int .i64 a16,.int .i64 TY,.int .i64 TX,.int .i64 TW,.int .i64 a20,.str TV,.int .i64 a22,.bool TU]] [] CZ=B70 n (nN n d) a0 a1 a2 a3 a4 a5 a6 a7 a8 a9 Dj AO T3 T2 T0 TZ a16 TY TX TW a20 TV a22 TU:=by
 have h:iD (Xe n d) (F70 n) Try.f70 (Bn n (d+1)) [.agg [.row .dv a0,.int .i64 a1,.row .aA a2,.row .aC a3,.row .ay a4],.agg [.int .i64 a5,.int .i64 a6,.int .i64 a7,.str a8,.int .i64 a9,.bool Dj,.int .i64 AO,.int .i64 T3,.int .i64 T2,.int .i64 T0,.int .i64 TZ,.int .i64 a16,.int .i64 TY,.int .i64 TX,.int .i64 TW,.int .i64 a20,.str TV,.int .i64 a22,.bool TU]] [] CZ =
  Option.bind (lB a5 1 6) fun r1=>
  cond (!r1)
  (Option.bind (G8 (⟨a1,a2,a3,a4⟩:aa) (⟨a7,a8,a9,Dj,AO,T3,T2,T0,TZ,a16,TY,TX,TW,a20,TV,a22,TU⟩:az)) fun r2=>
  Option.bind ((rB n n) a0 a1 a2 a3 a4 r2.1.b8 r2.1.ae r2.1.ai r2.1.aj) fun r3=>
  some (r3,([r2.2]:List (C .e3))))
  (Option.bind ((Dp n n) a0 a1 a2 a3 a4 a6) fun r4=>
  Option.bind (G19 a5 r4) fun r5=>
  Oe r5 (([]:List (C .dv))) 0 (([]:List (C .aA))) (([]:List (C .aC))) (([]:List (C .ay))) n d  ((([]:List (C .e3)),0,a0,a1,a2,a3,a4))):=by kernel_rfl
 simp only [h,B70,abn]
noncomputable def I70 (n:Nat):mP C:=dH (Bn n n)
theorem i70d (n:Nat):∀ d:Nat,dx Try.prog KK 70 (dH (Bn n d))
 | 0=>iL (fn:=Try.f70) (by kernel_rfl) (by kernel_rfl) (iY (by kernel_rfl)) _ (fun vs O=>by simp only [Bn];split<;>rfl)
 | d+1=>by
  have ih:=i70d n d;have x:je Try.prog (Xe n d):=jG;have q:Cons Try.prog (Xe n d):=gO ⟨c8,c14,c19,Re,trivial⟩ trivial ⟨ih,i40 n,i110 n,trivial⟩;refine lP x q (by kernel_rfl) (f:=70) (fn:=Try.f70) (c:=ak Try.f70) (by kernel_rfl) (by kernel_rfl) (by kernel_rfl) (iY (by kernel_rfl)) (Bn n (d+1)) (Nat.le_of_ble_eq_true (by kernel_rfl)) CZ (fun os ls rs r0 h=>?_) (fun vs O r0 hk h=>?_)
  ·unfold CZ at h
   split at h
   ·cases h;exact ⟨rfl,rfl,rfl⟩
   ·cases h
  ·simp only [Bn] at h
   split at h
   ·rename_i y0 y1 y2 y3 y4 y5 y6 y7 y8 y9 Uu Ut y12 y13 y14 y15 y16 y17 y18 y19 y20 y21 y22 y23
    exact ⟨mf (by kernel_rfl) (by kernel_rfl) (by kernel_rfl) (by kernel_rfl) (by kernel_rfl) (by kernel_rfl) (by kernel_rfl) (by kernel_rfl) (by kernel_rfl),Nat.le_of_ble_eq_true (by kernel_rfl),F70 n,(t70 n d y0 y1 y2 y3 y4 y5 y6 y7 y8 y9 Uu Ut y12 y13 y14 y15 y16 y17 y18 y19 y20 y21 y22 y23).trans h⟩
   ·cases h
theorem i70 (n:Nat):dx Try.prog KK 70 (I70 n):=i70d n n
noncomputable def Rm (n:Nat):Cx C:=fT [(73,M9),(111,Nl),(112,Nk)] [] [(70,I70 n)] [1,6,7,8,9,10,27,31,32,40,41,42,43,44,45,46,47,48] 4718592 []
def Xy (n:Nat):Cf:={ N:=n,keep:=[0,1,2,3,6,7,8,9,10,13,24,37],live:=lk [(0,[1,6,7,8,9]),(2,[1,6,7,8,9,10])] }
noncomputable abbrev MW:=jB KK [.el .xk]
abbrev zm:Type:=Int×List (C .dv)×Int×List (C .aA)×List (C .aC)×List (C .ay)
abbrev wM:Type:=Int×List (C .dv)×Int×List (C .aA)×List (C .aC)×List (C .ay)
section
variable (x0:Int) (x1:List (C .e3)) (x2:Int) (x4:List (C .dv)) (x5:Int) (x6:List (C .aA)) (x7:List (C .aC)) (x8:List (C .ay))
def aah:zm→St C:=fun (x3,x9,aM,aS,aQ,aZ)=>{ env:=[(1,.one (.int .i64 x0)),(6,.one (.ptr 4718976 0)),(7,.one (.ref 100007 [])),(8,.one (.ptr 4719104 0)),(9,.one (.int .i64 x2)),(10,.one (.int .i64 x3))],ah:=[(100007,.row .e3 x1 false),(4718976,.box .mem [.ref 472897600 [],.int .i64 x5,.ref 472897602 [],.ref 472897603 [],.ref 472897604 []]),(472897600,.row .dv x4 false),(472897602,.row .aA x6 false),(472897603,.row .aC x7 false),(472897604,.row .ay x8 false),(4719104,.box .mem [.row .dv x9,.int .i64 aM,.row .aA aS,.row .aC aQ,.row .ay aZ])],base:=0 }
end
noncomputable def Lb (x1:List (C .e3)) (x2:Int) (n:Nat)  (bu:wM→Option (aO)) (eW:zm→Option (aO)):zm→Option (aO):=fun (x3,x9,aM,aS,aQ,aZ)=>
 cond (decide (x3<(x1.length:Int)))
 (cond (decide (0≤x3)) (cond (decide (x3<(x1.length:Int))) (Option.bind x1[x3.toNat]? fun e4=>Option.bind ((nN n n) x9 aM aS aQ aZ e4 0 0 (⟨#[]⟩:ByteArray) 0 false 0 0 0 0 0 0 0 0 0 0 (⟨#[]⟩:ByteArray) 0 false) fun r5=>
 (fun y=>alt y (y))
 (eW ((IntKind.i64.wrap (x3+1),r5.1.gZ,r5.1.cr,r5.1.aG,r5.1.aU,r5.1.aT)))) none) none)
 (bu ((IntKind.i64.wrap (x2+1),x9,aM,aS,aQ,aZ)))
section
variable (x0:Int) (x1:List (C .e3)) (x3:List (C .dv)) (x4:Int) (x5:List (C .aA)) (x6:List (C .aC)) (x7:List (C .ay))
def Sc:wM→St C:=fun (x2,x8,x9,aM,aS,aQ)=>{ env:=[(1,.one (.int .i64 x0)),(6,.one (.ptr 4718976 0)),(7,.one (.ref 100007 [])),(8,.one (.ptr 4719104 0)),(9,.one (.int .i64 x2))],ah:=[(100007,.row .e3 x1 false),(4718976,.box .mem [.ref 472897600 [],.int .i64 x4,.ref 472897602 [],.ref 472897603 [],.ref 472897604 []]),(472897600,.row .dv x3 false),(472897602,.row .aA x5 false),(472897603,.row .aC x6 false),(472897604,.row .ay x7 false),(4719104,.box .mem [.row .dv x8,.int .i64 x9,.row .aA aM,.row .aC aS,.row .ay aQ])],base:=0 }
end
noncomputable def Lc (x0:Int) (x1:List (C .e3)) (n:Nat)   (bu:wM→Option (aO)):wM→Option (aO):=fun (x2,x8,x9,aM,aS,aQ)=>
 cond (decide (x2<x0))
 (cond (decide (x2<1000))
 (Option.bind ((nN n n) x8 x9 aM aS aQ 0 0 1 (⟨#[]⟩:ByteArray) 0 false 0 0 0 0 0 0 0 0 0 0 (⟨#[]⟩:ByteArray) 0 false) fun r3=>
 cu (Lb x1 x2 n bu) n (0,r3.1.gZ,r3.1.cr,r3.1.aG,r3.1.aU,r3.1.aT))
 (Option.bind (Rx (⟨x8,x9,aM,aS,aQ⟩:aO)) fun r6=>
 some (r6)))
 (Option.bind (Rx (⟨x8,x9,aM,aS,aQ⟩:aO)) fun r7=>
 some (r7))
section
variable (x0:Int) (x1:List (C .e3)) (x2:Int) (x4:List (C .dv)) (x5:Int) (x6:List (C .aA)) (x7:List (C .aC)) (x8:List (C .ay))
noncomputable def Oc (n:Nat) (bu:St C→Option (aO)) (x:zm):Option (aO):=iter (fun rec S=>run (Rm n) (Xy n) (au (ak Try.f72) [1,1,1,1,0,1,0,0,1,0,0,1,1,0,0]) 2 S (dq rec (cJ 2 (cJ 1 (bf (run (Rm n) (Xy n) (au (ak Try.f72) [1,1,1,1,0,1,0,0,1,1]) 0) (dq (gR [1,6,7,8,9] bu) (cJ 0 (bf (run (Rm n) (Xy n) (au (ak Try.f72) [1,1,1,1,1]) 0) (eu (Rm n) Try.f72 MW))))))))) [1,6,7,8,9,10] n (aah x0 x1 x2 x4 x5 x6 x7 x8 x)
theorem abl (n:Nat) (bu:St C→Option (aO)) (x:zm):Oc x0 x1 x2 x4 x5 x6 x7 x8 n bu x=cu (Lb x1 x2 n  (fun x=>bu (Sc x0 x1 x4 x5 x6 x7 x8 x))) n x:=by
 refine iter_eq _ _ (fun eW x=>?_) n x;obtain ⟨x3,x9,aM,aS,aQ,aZ⟩:=x
 kernel_rfl
end
section
variable (x0:Int) (x1:List (C .e3)) (x3:List (C .dv)) (x4:Int) (x5:List (C .aA)) (x6:List (C .aC)) (x7:List (C .ay))
noncomputable def Od (n:Nat)  (x:wM):Option (aO):=iter (fun rec S=>run (Rm n) (Xy n) (au (ak Try.f72) [1,1,1,1,0,1,0,0]) 0 S (dq rec (cJ 0 (bf (run (Rm n) (Xy n) (au (ak Try.f72) [1,1,1,1,1]) 0) (eu (Rm n) Try.f72 MW))))) [1,6,7,8,9] n (Sc x0 x1 x3 x4 x5 x6 x7 x)
theorem abm (n:Nat)  (x:wM):Od x0 x1 x3 x4 x5 x6 x7 n  x=cu (Lc x0 x1 n  ) n x:=by
 refine iter_eq _ _ (fun bu x=>?_) n x;obtain ⟨x2,x8,x9,aM,aS,aQ⟩:=x
 refine Eq.trans (b:=
  cond (decide (x2<x0))
  (cond (decide (x2<1000))
  (Option.bind ((nN n n) x8 x9 aM aS aQ 0 0 1 (⟨#[]⟩:ByteArray) 0 false 0 0 0 0 0 0 0 0 0 0 (⟨#[]⟩:ByteArray) 0 false) fun r3=>
  Oc x0 x1 x2 x3 x4 x5 x6 x7 n  bu (0,r3.1.gZ,r3.1.cr,r3.1.aG,r3.1.aU,r3.1.aT))
  (Option.bind (Rx (⟨x8,x9,aM,aS,aQ⟩:aO)) fun r6=>
  some (r6)))
  (Option.bind (Rx (⟨x8,x9,aM,aS,aQ⟩:aO)) fun r7=>
  some (r7))) (by kernel_rfl) ?_
 simp only [abl];rfl
end
noncomputable def Ry (n:Nat) (a0:aO) (a1:Int) (a2:List (C .e3)):Option (aO):=
 Option.bind (OV a0) fun r1=>
 cond (!r1)
 (some ((⟨([]:List (C .dv)),0,([]:List (C .aA)),([]:List (C .aC)),([]:List (C .ay))⟩:aO)))
 (Option.bind (OU a2) fun r2=>
 cu (Lc a1 r2 n ) n (0,a0.gZ,a0.cr,a0.aG,a0.aU,a0.aT))
theorem t72 (n:Nat) (a0:aO) (a1:Int) (a2:List (C .e3)):dG (Rm n) (Xy n) Try.f72 [.agg [.row .dv a0.gZ,.int .i64 a0.cr,.row .aA a0.aG,.row .aC a0.aU,.row .ay a0.aT],.one (.int .i64 a1),.one (.row .e3 a2)] MW=Ry n a0 a1 a2:=by
 refine Eq.trans (b:=
  Option.bind (OV a0) fun r1=>
  cond (!r1)
  (some ((⟨([]:List (C .dv)),0,([]:List (C .aA)),([]:List (C .aC)),([]:List (C .ay))⟩:aO)))
  (Option.bind (OU a2) fun r2=>
  Od a1 r2 (([]:List (C .dv))) 0 (([]:List (C .aA))) (([]:List (C .aC))) (([]:List (C .ay))) n   (0,a0.gZ,a0.cr,a0.aG,a0.aU,a0.aT))) (by kernel_rfl) ?_
 simp only [Ry,abm]
noncomputable def G72 (a0:aO) (a1:Int) (a2:List (C .e3)):Option (aO):=Ry fuel a0 a1 a2
noncomputable def TC:iK C:=lD KK [.el .xk,.int .i64,.row .e3] [.el .xk] G72
theorem c72:dm Try.prog KK 72 TC:=cO (gO ⟨c73,c111,c112,trivial⟩ trivial ⟨i70 _,trivial⟩:Cons Try.prog (Rm fuel)) (fn:=Try.f72) (by kernel_rfl) (by kernel_rfl) (by kernel_rfl) (by kernel_rfl) (Xy fuel) (by kernel_rfl) (fun a0 a1 a2=>t72 fuel a0 a1 a2)
noncomputable def X20:Cx C:=fT [] [] [] [] 1310720 []
def F20 (n:Nat):Cf:={ N:=n,keep:=[0,2,5],live:=lk [] }
noncomputable def I20 (n:Nat):mP C:=iZ X20 (F20 n) Try.f20
theorem i20 (n:Nat):dx Try.prog KK 20 (I20 n):=iO (gO trivial trivial trivial:Cons Try.prog X20) (F20 n) (fn:=Try.f20) (by kernel_rfl) (by kernel_rfl) (by kernel_rfl) (by kernel_rfl)
end Go.Proofs.Ytipemmgoipbojaa.Ab
set_option maxRecDepth 100000
namespace Go.Proofs.Ytipemmgoipbojaa.Ab
open Go Go.RowKit
noncomputable def F23 (n:Nat):Cf:={ N:=n,keep:=[0,1,4,5,6,24,36],live:=lk [] }
def M1 (os:cW C) (ls:List (Lf C)) (rs:List (Bool×List (Lf C))):Option (List (C .e5)×Int×Int):=match os,ls,rs with
 | [(38654706975360,.box .mem [.row .e5 z0,.int .i64 z1]),(77777777,.ghost)],[.ptr 38654706975360 0],[(false,[.int .i64 zn])]=>some (z0,z1,zn)
 | _,_,_=>none
noncomputable def B23 (n:Nat) (rc:(Int)→(List (C .e5))→(Int)→Option (List (C .e5)×Int×Int)) (a0:Int) (a1:List (C .e5)) (a2:Int):Option (List (C .e5)×Int×Int):=
 cond (decide (a0<1))
 (some (a1,IntKind.i64.wrap (a2+1),0))
 (cond ((a1.length:Int)==0)
 (some (a1,IntKind.i64.wrap (a2+1),0))
 (cond (decide ((IntKind.i64.wrap ((IntKind.i64.wrap (a2+1))-1))<(a1.length:Int)))
 (cond (decide (0≤IntKind.i64.wrap ((IntKind.i64.wrap (a2+1))-1))) (Option.bind a1[(IntKind.i64.wrap ((IntKind.i64.wrap (a2+1))-1)).toNat]? fun e1=>cond (decide (a0=0)) none (some (a1,IntKind.i64.wrap (a2+1),(IntKind.i64.wrap e1).tmod a0))) none)
 (cond (decide ((a1.length:Int)=0)) none (cond (decide (0≤(IntKind.i64.wrap ((IntKind.i64.wrap (a2+1))-1)).tmod (a1.length:Int))) (Option.bind a1[((IntKind.i64.wrap ((IntKind.i64.wrap (a2+1))-1)).tmod (a1.length:Int)).toNat]? fun e2=>cond (decide ((a1.length:Int)=0)) none (cond (decide (0≤(IntKind.i64.wrap ((IntKind.i64.wrap ((IntKind.i64.wrap ((IntKind.i64.wrap (a2+1))-1))*7))+3)).tmod (a1.length:Int))) (Option.bind a1[((IntKind.i64.wrap ((IntKind.i64.wrap ((IntKind.i64.wrap ((IntKind.i64.wrap (a2+1))-1))*7))+3)).tmod (a1.length:Int)).toNat]? fun e3=>cond (decide ((a1.length:Int)=0)) none (cond (decide (64=0)) none (cond (decide (a0=0)) none (some (a1,IntKind.i64.wrap (a2+1),(J7 .i64 (IntKind.i64.wrap ((IntKind.i64.wrap ((IntKind.i64.wrap ((IntKind.i64.wrap ((IntKind.i64.wrap e2)*131))+(IntKind.i64.wrap ((IntKind.i64.wrap e3)*1117))))+(IntKind.i64.wrap ((IntKind.i64.wrap ((IntKind.i64.wrap (a2+1))-1))*29))))+(IntKind.i64.wrap ((IntKind.i64.wrap ((IntKind.i64.wrap ((IntKind.i64.wrap (a2+1))-1)).tdiv (a1.length:Int)))*53)))) (IntKind.i64.wrap ((IntKind.i64.wrap ((IntKind.i64.wrap ((IntKind.i64.wrap ((IntKind.i64.wrap ((IntKind.i64.wrap e2)*131))+(IntKind.i64.wrap ((IntKind.i64.wrap e3)*1117))))+(IntKind.i64.wrap ((IntKind.i64.wrap ((IntKind.i64.wrap (a2+1))-1))*29))))+(IntKind.i64.wrap ((IntKind.i64.wrap ((IntKind.i64.wrap ((IntKind.i64.wrap (a2+1))-1)).tdiv (a1.length:Int)))*53)))).tdiv 64))).tmod a0))))) none)) none))))
noncomputable def cA (n:Nat):Nat→(Int)→(List (C .e5))→(Int)→Option (List (C .e5)×Int×Int)
 | 0=>fun _ _ _=>none
 | d+1=>B23 n (cA n d)
noncomputable def EM (n d:Nat):jw C:={ ids:=[38654706975360],roots:=[.ptr 38654706975360 0],fQ:=[],R0:=List (C .e5)×Int×Int,out:=fun r=>[(38654706975360,.box .mem [.row .e5 r.1,.int .i64 r.2.1])],ret:=fun r=>[(false,[.int .i64 r.2.2])],g:=fun vs O=>match vs,O with
 | [.one (.ptr 38654706975360 0),.one (.int .i64 y0)],[(38654706975360,.box .mem [.row .e5 y1,.int .i64 y2])]=>cA n d y0 y1 y2
 | _,_=>none }
noncomputable def X23 (n d:Nat):Cx C:=fT [] [] [(23,dH (EM n d))] [] 1507328 []
theorem t23 (n d:Nat) (a0:Int) (a1:List (C .e5)) (a2:Int):iD (X23 n d) (F23 n) Try.f23 (EM n (d+1)) [.one (.ptr 38654706975360 0),.one (.int .i64 a0)] [(38654706975360,.box .mem [.row .e5 a1,.int .i64 a2])] M1=B23 n (cA n d) a0 a1 a2:=by
 kernel_rfl
noncomputable def Uo (n:Nat):mP C:=dH (EM n n)
theorem i23d (n:Nat):∀ d:Nat,dx Try.prog KK 23 (dH (EM n d))
 | 0=>iL (fn:=Try.f23) (by kernel_rfl) (by kernel_rfl) (iY (by kernel_rfl)) _ (fun vs O=>by simp only [EM];split<;>rfl)
 | d+1=>by
  have ih:=i23d n d;have x:je Try.prog (X23 n d):=jG;have q:Cons Try.prog (X23 n d):=gO trivial trivial ⟨ih,trivial⟩;refine lP x q (by kernel_rfl) (f:=23) (fn:=Try.f23) (c:=ak Try.f23) (by kernel_rfl) (by kernel_rfl) (by kernel_rfl) (iY (by kernel_rfl)) (EM n (d+1)) (Nat.le_of_ble_eq_true (by kernel_rfl)) M1 (fun os ls rs r0 h=>?_) (fun vs O r0 hk h=>?_)
  ·unfold M1 at h
   split at h
   ·cases h;exact ⟨rfl,rfl,rfl⟩
   ·cases h
  ·simp only [EM] at h
   split at h
   ·rename_i y0 y1 y2
    exact ⟨mf (by kernel_rfl) (by kernel_rfl) (by kernel_rfl) (by kernel_rfl) (by kernel_rfl) (by kernel_rfl) (by kernel_rfl) (by kernel_rfl) (by kernel_rfl),Nat.le_of_ble_eq_true (by kernel_rfl),F23 n,(t23 n d y0 y1 y2).trans h⟩
   ·cases h
theorem i23 (n:Nat):dx Try.prog KK 23 (Uo n):=i23d n n
noncomputable def F51 (n:Nat):Cf:={ N:=n,keep:=[0,2,3,27,31,50],live:=lk [] }
def MZ (os:cW C) (ls:List (Lf C)) (rs:List (Bool×List (Lf C))):Option (List (C .e5)×Int×af):=match os,ls,rs with
 | [(38654706975360,.box .mem [.row .e5 z0,.int .i64 z1]),(77777777,.ghost)],[.ptr 38654706975360 0],[(true,[.str zn,.int .i64 Ez,.bool Ey,.int .i64 Ew,.int .i64 J1,.int .i64 J0,.int .i64 JZ,.int .i64 JY,.int .i64 JX,.int .i64 JW,.int .i64 Bc,.int .i64 Bb,.int .i64 Ba])]=>some (z0,z1,(⟨zn,Ez,Ey,Ew,J1,J0,JZ,JY,JX,JW,Bc,Bb,Ba⟩:af))
 | _,_,_=>none
noncomputable def B51 (n:Nat) (rc:(List (C .e5))→(Int)→Option (List (C .e5)×Int×af)) (a0:List (C .e5)) (a1:Int):Option (List (C .e5)×Int×af):=
 Option.bind ((cA n n) 3 a0 a1) fun r1=>
 cond (decide (0≤r1.2.2)) (cond (decide (r1.2.2<((([(⟨#[100,98]⟩:ByteArray),(⟨#[119,101,98]⟩:ByteArray),(⟨#[120,45,49]⟩:ByteArray)]:List (C .e9))).length:Int))) (Option.bind (([(⟨#[100,98]⟩:ByteArray),(⟨#[119,101,98]⟩:ByteArray),(⟨#[120,45,49]⟩:ByteArray)]:List (C .e9)))[r1.2.2.toNat]? fun e2=>Option.bind ((cA n n) 3 r1.1 r1.2.1) fun r3=>
 Option.bind ((cA n n) 6 r3.1 r3.2.1) fun r4=>
 Option.bind ((cA n n) 3 r4.1 r4.2.1) fun r5=>
 Option.bind ((cA n n) 3 r5.1 r5.2.1) fun r6=>
 Option.bind ((cA n n) 10 r6.1 r6.2.1) fun r7=>
 cond ((IntKind.i64.wrap (r5.2.2+r6.2.2))==0)
 (Option.bind ((cA n n) 3 r7.1 r7.2.1) fun r8=>
 cond (r8.2.2==0)
 (Option.bind ((cA n n) 9 r8.1 r8.2.1) fun r9=>
 Option.bind ((cA n n) 3 r9.1 r9.2.1) fun iJ=>
 Option.bind ((cA n n) 5 iJ.1 iJ.2.1) fun s7=>
 Option.bind ((cA n n) 60 s7.1 s7.2.1) fun lC=>
 Option.bind ((cA n n) 4 lC.1 lC.2.1) fun eX=>
 cond (decide (eX.2.2>0))
 (some (eX.1,eX.2.1,(⟨e2,0,r7.2.2==0,IntKind.i64.wrap (1+r3.2.2),iJ.2.2,1,r6.2.2,0,IntKind.i64.wrap (1+r9.2.2),iJ.2.2,IntKind.i64.wrap (iJ.2.2+s7.2.2),lC.2.2,0⟩:af)))
 (some (eX.1,eX.2.1,(⟨e2,0,r7.2.2==0,IntKind.i64.wrap (1+r3.2.2),r4.2.2,1,r6.2.2,0,IntKind.i64.wrap (1+r9.2.2),iJ.2.2,IntKind.i64.wrap (iJ.2.2+s7.2.2),lC.2.2,0⟩:af))))
 (some (r8.1,r8.2.1,(⟨e2,0,r7.2.2==0,IntKind.i64.wrap (1+r3.2.2),r4.2.2,1,r6.2.2,0,0,0,0,0,0⟩:af))))
 (Option.bind ((cA n n) 3 r7.1 r7.2.1) fun eU=>
 cond (eU.2.2==0)
 (Option.bind ((cA n n) 9 eU.1 eU.2.1) fun wY=>
 Option.bind ((cA n n) 3 wY.1 wY.2.1) fun r16=>
 Option.bind ((cA n n) 5 r16.1 r16.2.1) fun Pd=>
 Option.bind ((cA n n) 60 Pd.1 Pd.2.1) fun xc=>
 Option.bind ((cA n n) 4 xc.1 xc.2.1) fun pA=>
 cond (decide (pA.2.2>0))
 (some (pA.1,pA.2.1,(⟨e2,0,r7.2.2==0,IntKind.i64.wrap (1+r3.2.2),r16.2.2,r5.2.2,r6.2.2,0,IntKind.i64.wrap (1+wY.2.2),r16.2.2,IntKind.i64.wrap (r16.2.2+Pd.2.2),xc.2.2,0⟩:af)))
 (some (pA.1,pA.2.1,(⟨e2,0,r7.2.2==0,IntKind.i64.wrap (1+r3.2.2),r4.2.2,r5.2.2,r6.2.2,0,IntKind.i64.wrap (1+wY.2.2),r16.2.2,IntKind.i64.wrap (r16.2.2+Pd.2.2),xc.2.2,0⟩:af))))
 (some (eU.1,eU.2.1,(⟨e2,0,r7.2.2==0,IntKind.i64.wrap (1+r3.2.2),r4.2.2,r5.2.2,r6.2.2,0,0,0,0,0,0⟩:af))))) none) none
noncomputable def qc (n:Nat):Nat→(List (C .e5))→(Int)→Option (List (C .e5)×Int×af)
 | 0=>fun _ _=>none
 | d+1=>B51 n (qc n d)
noncomputable def EJ (n d:Nat):jw C:={ ids:=[38654706975360],roots:=[.ptr 38654706975360 0],fQ:=[],R0:=List (C .e5)×Int×af,out:=fun r=>[(38654706975360,.box .mem [.row .e5 r.1,.int .i64 r.2.1])],ret:=fun r=>[(true,[.str r.2.2.Name,.int .i64 r.2.2.Version,.bool r.2.2.cC,.int .i64 r.2.2.aB,.int .i64 r.2.2.Want,.int .i64 r.2.2.Down,.int .i64 r.2.2.ct,.int .i64 r.2.2.Next,.int .i64 r.2.2.dA,.int .i64 r.2.2.aP,.int .i64 r.2.2.bN,.int .i64 r.2.2.cK,.int .i64 r.2.2.cE])],g:=fun vs O=>match vs,O with
 | [.one (.ptr 38654706975360 0)],[(38654706975360,.box .mem [.row .e5 y0,.int .i64 y1])]=>qc n d y0 y1
 | _,_=>none }
noncomputable def X51 (n d:Nat):Cx C:=fT [] [] [(51,dH (EJ n d)),(23,Uo n)] [0,2,3,4,5,6,7,8,9,10,11,12,13,14,15,16,17,18,19,20,21,30,31,33,34,35,37,38,39,40,41,42,43,44,46,47,49,50] 3342336 []
theorem t51 (n d:Nat) (a0:List (C .e5)) (a1:Int):iD (X51 n d) (F51 n) Try.f51 (EJ n (d+1)) [.one (.ptr 38654706975360 0)] [(38654706975360,.box .mem [.row .e5 a0,.int .i64 a1])] MZ=B51 n (qc n d) a0 a1:=by
 kernel_rfl
noncomputable def I51 (n:Nat):mP C:=dH (EJ n n)
theorem i51d (n:Nat):∀ d:Nat,dx Try.prog KK 51 (dH (EJ n d))
 | 0=>iL (fn:=Try.f51) (by kernel_rfl) (by kernel_rfl) (iY (by kernel_rfl)) _ (fun vs O=>by simp only [EJ];split<;>rfl)
 | d+1=>by
  have ih:=i51d n d;have x:je Try.prog (X51 n d):=jG;have q:Cons Try.prog (X51 n d):=gO trivial trivial ⟨ih,i23 n,trivial⟩;refine lP x q (by kernel_rfl) (f:=51) (fn:=Try.f51) (c:=ak Try.f51) (by kernel_rfl) (by kernel_rfl) (by kernel_rfl) (iY (by kernel_rfl)) (EJ n (d+1)) (Nat.le_of_ble_eq_true (by kernel_rfl)) MZ (fun os ls rs r0 h=>?_) (fun vs O r0 hk h=>?_)
  ·unfold MZ at h
   split at h
   ·cases h;exact ⟨rfl,rfl,rfl⟩
   ·cases h
  ·simp only [EJ] at h
   split at h
   ·rename_i y0 y1
    exact ⟨mf (by kernel_rfl) (by kernel_rfl) (by kernel_rfl) (by kernel_rfl) (by kernel_rfl) (by kernel_rfl) (by kernel_rfl) (by kernel_rfl) (by kernel_rfl),Nat.le_of_ble_eq_true (by kernel_rfl),F51 n,(t51 n d y0 y1).trans h⟩
   ·cases h
theorem i51 (n:Nat):dx Try.prog KK 51 (I51 n):=i51d n n
end Go.Proofs.Ytipemmgoipbojaa.Ab
