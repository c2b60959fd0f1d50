/- The law FnStewAsks holds: for every input the Go function returns true, and each argument reads afterwards as it read before. No condition is added to the statement. -/
import Derived.Test.YtipemmgoipbojaaP6
import Derived.Test.YtipemmgoipbojaaRows
import Derived.WalkKit
import Derived.ProofKit
import Derived.OpenShut
import Derived.ShutString
import Derived.ChangeOld
import Derived.Below
import Derived.SizedLaws
set_option linter.unusedVariables false
set_option linter.unusedSimpArgs false
set_option linter.unusedSectionVars false
namespace Go.Proofs.Ytipemmgoipbojaa.fnStewAsks
open Go.ChangeShapes Go.WideShapes Go.ChangeAt Go.RowKit Go.Proofs.Ytipemmgoipbojaa.Ab
theorem own:ownKnob Try.prog.godebug=none:=by kernel_rfl
theorem laidOut:laidOutB Try.prog=true:=by kernel_rfl
set_option maxRecDepth 100000 in
theorem lifted (os:Os) (started:os.Started) (H:Type) (enc:TypeId×Value→H) :
  ReturnsInHanded {} Try.checked os 5 .any (Rows.fnStewAsksSpec.pre6 enc Try.prog Try.f5 Rows.fnStewAsksRow.domain false) (Rows.fnStewAsksSpec.post enc Try.prog Try.f5 false true false false):=by
 refine returnsInHanded_of_change_sized (C:=Try.checked) own started (by kernel_rfl) Try.func5
  (ChangeSpec.witness6 (enc:=enc) (C:=Try.checked) false ⟨#[],#[.slice none 0 0],[]⟩ 8 (by kernel_rfl) (by kernel_rfl) (by kernel_rfl) (by kernel_rfl)) ?_
 intro W base args ds gs before WR hW hcnd hsz0 _;have hval:∀ (j:Nat) t v,Try.f5.params[j]?=some t→args[j]?=some v→Value.okWide Try.prog W .any base t v:=WR;have hW':=hW;obtain ⟨p,q,hA0,hV,rfl,hfz,hnd⟩:=hW;have hA:DataW.TrodAll enc Try.prog W 0 (fun _=>true) true Try.f5.params.toList args.toList ds p:=hA0;rw [Try.params5] at hA hval;obtain ⟨v0,vs0,d0,ds0,p0,q0,hargs,rfl,rfl,h0,r0⟩:=trodAll_cons hA;obtain ⟨rfl,rfl,rfl⟩:=trodAll_nil r0
 obtain rfl:args = #[v0]:=by cases args;simp_all
 obtain ⟨rfl,rfl⟩:=trodVars_none hV;obtain ⟨ya0,yl0,yc0,rfl⟩:=Go.WideShapes.okWide_slice Try.underlying22 (hval 0 22 _ rfl rfl);have k0:=h0
 have lt0:∀ x∈p0,x.block<W.heap.size:=by obtain ⟨m,hm⟩:=k0;exact DataW.trod_lt m _ _ _ hm
 obtain ⟨fu0,hf0⟩:=h0;obtain ⟨ls0_0,g0_0,len0,rep0⟩:=Ug YB fu0 22 _ _ _ hf0 rfl rfl;obtain ⟨l0_0,ls0_1,rfl,wo,g0_1⟩:=aF g0_0;obtain ⟨x0_0,rfl⟩:=jB wo;obtain rfl:=eM g0_1;clear hA0 WR hsz0;have hres:=c5.2 W [.one (.row .e5 x0_0)] [.slice ya0 yl0 yc0] true trivial (by rfl) (fun i sv hi=>?_) (pure5 x0_0 (rep0 0 _ rfl).2)
 ·refine hres.mono fun e W' ⟨v,he,bel,⟨us,G,q1,q2,q3,q4,q5,q6⟩,_⟩=>?_
  have hv:v = .bool true:=by
   have hlen:us.length=1:=q2;obtain ⟨u,rfl⟩:=List.length_eq_one_iff.1 hlen;have hu:=q6 0 (.bool true) rfl;cases hu;exact q1
  subst he;subst hv;exact ⟨_,rfl,_,_,_,[],_,[],hW',trodAll_mk1 (shut_bool Try.underlying4 _),(trodAll_cons_mk (Below.trod laidOut (by kernel_rfl) (of_decide_eq_true (by kernel_rfl)) k0 bel lt0) trodAll_mk0),rfl,bel.frame _,fun h=>by cases h⟩
 ·match i with
  | 0=>cases hi;exact ⟨rfl,(rep0 0 _ rfl).1⟩
  | n+1=>simp at hi
theorem over:Rows.fnStewAsksRow.holds Try.pinned (OpenSpec.ofChange Rows.fnStewAsksSpec):=
 OpenClaim.holds_of_wide 5 Try.f5 rfl rfl rfl rfl rfl rfl rfl ⟨rfl,rfl,rfl,rfl,rfl⟩ rfl rfl rfl rfl rfl (by kernel_rfl) Try.func5 (by kernel_rfl)
  (of_decide_eq_true (by kernel_rfl)) (by unfold Func.isWrapper;first | (rw [if_pos (by decide +kernel)];kernel_rfl) | (rw [if_neg (by decide +kernel)];exact ⟨rfl,rfl⟩))
  (fun os started H enc _=>lifted os started H enc)
theorem proved:Rows.FnStewAsksSaid:=over
#print axioms proved
end Go.Proofs.Ytipemmgoipbojaa.fnStewAsks
namespace Go.Proofs.Ytipemmgoipbojaa
theorem fnStewAsks_holds:Rows.FnStewAsksSaid:=fnStewAsks.proved
end Go.Proofs.Ytipemmgoipbojaa
