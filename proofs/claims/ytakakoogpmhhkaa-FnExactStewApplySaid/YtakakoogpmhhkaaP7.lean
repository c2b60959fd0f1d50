/- The plain law of StewApply: acts that are formed, what is counted, copies of books. -/
import Derived.Test.YtakakoogpmhhkaaP6
set_option linter.unusedVariables false
set_option linter.unusedSimpArgs false
set_option linter.unusedSectionVars false
set_option linter.unusedVariables false
set_option linter.unusedSimpArgs false
set_option maxRecDepth 10000
namespace Go.Proofs.Ytakakoogpmhhkaa.Ab
open Go Go.RowKit

/-! ### Formed -/
def tlF (a : VStewAct) : Bool:=(cond a.Scale (inB a.Want 0 10&&inB a.Cool 0 3) ((a.Want == 0)&&(a.Cool == 0)))&&((!a.Drop)||((a.Create == 0)&&((!a.Scale)&&((a.Ends.length : Int) == 0))))
def enP (xs : List VStewEnd) (i : Nat) : Bool:=match xs[i - 1]?,xs[i]? with
  | some d,some c => !decide (d.Number≥c.Number)
  | _,_=>false
def fmB (a : VStewAct) : Bool:=inB a.Create 0 20&&((!decide ((a.Ends.length : Int)>200))&&(allN (enP a.Ends) a.Ends.length 1&&tlF a))
theorem r48_end (a : VStewAct) (n : Nat) (rec : Int→Option Bool) (x : Int) (h : ¬ x<(a.Ends.length : Int)) : r48_0 a.Create a.Want a.Cool a.Scale a.Ends a.Drop n rec x=some (tlF a):=by
  unfold tlF
  simp only [r48_0,h,decide_false,cond_false,g43,Option.bind_some]
  cases a.Scale
  · simp only [cond_false,Bool.not_false,cond_true]
    by_cases h1 : a.Want=0
    · by_cases h2 : a.Cool=0
      · simp only [h1,h2,bne_self_eq_false,cond_false,beq_self_eq_true,Bool.and_self,Bool.true_and]
        cases a.Drop <;> (try rfl)
        cases (a.Create == 0) <;> rfl
      · have q1 : (a.Cool != 0)=true:=by simp [h2]
        have q2 : (a.Cool == 0)=false:=by simp [h2]
        simp only [h1,q1,q2,bne_self_eq_false,cond_false,cond_true,Bool.and_false,Bool.false_and]
    · have q1 : (a.Want != 0)=true:=by simp [h1]
      have q2 : (a.Want == 0)=false:=by simp [h1]
      simp only [q1,q2,cond_true,Bool.false_and]
  · simp only [cond_true,Bool.not_true,cond_false]
    cases inB a.Want 0 10 <;> (try rfl)
    cases inB a.Cool 0 3 <;> (try rfl)
    cases a.Drop <;> (try rfl)
    cases (a.Create == 0) <;> rfl
theorem g48 {a : VStewAct} (h : a.Ends.length≤1048576) : G48 a=some (fmB a):=by
  unfold G48 G48n fmB
  rw [g43]
  cases inB a.Create 0 20 <;> (try rfl)
  cases decide ((a.Ends.length : Int)>200) <;> (try rfl)
  simp only [Option.bind_some,Bool.not_true,Bool.not_false,cond_false,Bool.true_and]
  rcases Nat.eq_zero_or_pos a.Ends.length with h0 | h0
  · rw [lp_open (show 0<fuel by unfold fuel; omega),r48_end a fuel _ 1 (by omega)]
    simp [allN,h0]
  · have key : ∀ n i,1≤i→i≤a.Ends.length→a.Ends.length - i<n→lpN (r48_0 a.Create a.Want a.Cool a.Scale a.Ends a.Drop fuel) n ((i : Nat) : Int)=some (allN (enP a.Ends) a.Ends.length i&&tlF a):=by
      intro n
      induction n with
      | zero=>intro i _ _ h; omega
      | succ n ih =>
        intro i h1 h2 hn
        rw [lp_succ]
        rcases Nat.lt_or_ge i a.Ends.length with h3 | h3
        · have q1 : (i : Int)<(a.Ends.length : Int):=by omega
          have e:=ih (i+1) (by omega) (by omega) (by omega)
          rw [← wrap_nat (by omega)] at e
          rw [allN_step h3]
          have he : enP a.Ends i = !decide ((a.Ends[i - 1]'(by omega)).Number≥a.Ends[i].Number):=by
            unfold enP
            rw [List.getElem?_eq_getElem h3,List.getElem?_eq_getElem (by omega)]
          rw [he]
          simp only [r48_0,q1,decide_true,cond_true,wrap_pred (show 0<i by omega) (by omega),Int.natCast_nonneg,get_cast (show i - 1<a.Ends.length by omega),get_cast h3,Option.bind_some]
          cases decide ((a.Ends[i - 1]'(by omega)).Number≥a.Ends[i].Number) with
          | true=>rfl
          | false=>simpa using e
        · have : i=a.Ends.length:=by omega
          subst this
          rw [r48_end a fuel _ _ (by omega),allN_end,Bool.true_and]
    exact key fuel 1 (by omega) h0 (by have:=fuel_big; omega)
theorem g62 (a : VStewAct) : G62 a=G48 a:=by
  unfold G62 G62n G48 G48n
  rw [g43,g57]
  have e : lpN (r62_0 a.Create a.Want a.Cool a.Scale a.Ends a.Drop fuel) fuel 1=lpN (r48_0 a.Create a.Want a.Cool a.Scale a.Ends a.Drop fuel) fuel 1:=by
    refine lp_same (fun rec x => ?_) fuel 1
    simp only [r62_0,r48_0,g43,g57]
    cases decide (x<(a.Ends.length : Int)) with
    | false=>rfl
    | true =>
      simp only [cond_true]
      cases decide (0≤x) <;> cases decide (0≤IntKind.i64.wrap (x - 1)) <;> cases a.Ends[x.toNat]? <;> cases a.Ends[(IntKind.i64.wrap (x - 1)).toNat]? <;> rfl
  rw [e]

/-! ### What is counted -/
theorem fold_lp {α B A R : Type} {f : B→α→B} {xs : List α} {st : Nat→B→A} {rnd : (A→Option R)→A→Option R} (fin : B→Option R) (hl : xs.length≤1048576)
    (hend : ∀ rec b,rnd rec (st xs.length b)=fin b) (hstep : ∀ rec i (hi : i<xs.length) b,rnd rec (st i b)=rec (st (i+1) (f b xs[i]))) (b : B) : lpN rnd fuel (st 0 b)=fin (xs.foldl f b):=by
  have key : ∀ n i b,i≤xs.length→xs.length - i<n→lpN rnd n (st i b)=fin ((xs.drop i).foldl f b):=by
    intro n
    induction n with
    | zero=>intro i b _ h; omega
    | succ n ih =>
      intro i b hi hn
      rw [lp_succ]
      rcases Nat.lt_or_ge i xs.length with h | h
      · rw [hstep _ i h,ih (i+1) _ (by omega) (by omega),List.drop_eq_getElem_cons h,List.foldl_cons]
      · have : i=xs.length:=by omega
        subst this
        rw [hend,List.drop_length]; rfl
  simpa using key fuel 0 b (Nat.zero_le _) (by have:=fuel_big; omega)
abbrev CT : Type:=Int×Int×Int×Int×Int
def ctS (n : ByteArray) (img : Int) (t : CT) (c : VStewCopy) : CT:=cond (decide (c.Service=n)) (cond c.Ending (t.1,t.2.1,t.2.2.1,t.2.2.2.1,IntKind.i64.wrap (t.2.2.2.2+1))
  (IntKind.i64.wrap (t.1+1),cond (c.State == 3) (IntKind.i64.wrap (t.2.1+1)) t.2.1,cond (c.Image != img) (IntKind.i64.wrap (t.2.2.1+1)) t.2.2.1,cond (c.State == 4) (IntKind.i64.wrap (t.2.2.2.1+1)) t.2.2.2.1,t.2.2.2.2)) t
def ctV (t : CT) : VStewCount:=⟨t.1,t.2.1,t.2.2.1,t.2.2.2.1,t.2.2.2.2⟩
def ctB (n : ByteArray) (img : Int) (cs : List VStewCopy) : VStewCount:=ctV (cs.foldl (ctS n img) (0,0,0,0,0))
def stC (i : Nat) (t : CT) : Int×Int×Int×Int×Int×Int:=(((i : Nat) : Int),t.1,t.2.1,t.2.2.1,t.2.2.2.1,t.2.2.2.2)
theorem ct65 {cs : List VStewCopy} {s : VStewService} (rec : A65_0→Option VStewCount) (i : Nat) (hi : i<cs.length) (h : cs.length≤1048576) (t : CT) (n : Nat) : r65_0 s cs (cs.length : Int) n rec (stC i t)=rec (stC (i+1) (ctS s.Name s.Image t cs[i])):=by
  have q1 : (i : Int)<(cs.length : Int):=by omega
  simp only [stC,r65_0,q1,decide_true,cond_true,Int.natCast_nonneg,get_cast hi,Option.bind_some,wrap_nat (show i<4611686018427387904 by omega),ctS]
  cases decide (cs[i].Service=s.Name) <;> (try rfl)
  cases cs[i].Ending <;> (try rfl)
  cases (cs[i].State == 3) <;> cases (cs[i].Image != s.Image) <;> cases (cs[i].State == 4) <;> rfl
theorem lp65 {cs : List VStewCopy} {s : VStewService} (h : cs.length≤1048576) (t : CT) : lpN (r65_0 s cs (cs.length : Int) fuel) fuel (stC 0 t)=some (ctV (cs.foldl (ctS s.Name s.Image) t)) :=
  fold_lp (st:=stC) (f:=ctS s.Name s.Image) (fun t=>some (ctV t)) h (fun rec t=>by simp [stC,r65_0,ctV]) (fun rec i hi t=>ct65 rec i hi h t fuel) t
theorem g65 {b : VStewBook} {s : VStewService} (h : b.Copies.length≤1048576) : G65 b s=some (ctB s.Name s.Image b.Copies):=by
  have:=lp65 (s:=s) h (0,0,0,0,0)
  unfold G65 G65n
  exact this
theorem ct52 {cs : List VStewCopy} {ss : List VStewService} {n : ByteArray} {k : Nat} (hk : k<ss.length) (rec : A52_0→Option VStewCount) (i : Nat) (hi : i<cs.length) (h : cs.length≤1048576) (t : CT) (m : Nat) : r52_0 n ((k : Nat) : Int) ss cs m rec (stC i t)=rec (stC (i+1) (ctS n ss[k].Image t cs[i])):=by
  have q1 : (i : Int)<(cs.length : Int):=by omega
  have q2 : ((k : Nat) : Int)≥0:=by omega
  simp only [stC,r52_0,q1,q2,decide_true,cond_true,Int.natCast_nonneg,get_cast hi,get_cast hk,Option.bind_some,wrap_nat (show i<4611686018427387904 by omega),ctS]
  cases decide (cs[i].Service=n) <;> (try rfl)
  cases cs[i].Ending <;> (try rfl)
  cases (cs[i].State == 3) <;> cases (cs[i].Image != ss[k].Image) <;> cases (cs[i].State == 4) <;> rfl
theorem lp52 {cs : List VStewCopy} {ss : List VStewService} {n : ByteArray} {k : Nat} (hk : k<ss.length) (h : cs.length≤1048576) (t : CT) : lpN (r52_0 n ((k : Nat) : Int) ss cs fuel) fuel (stC 0 t)=some (ctV (cs.foldl (ctS n ss[k].Image) t)) :=
  fold_lp (st:=stC) (f:=ctS n ss[k].Image) (fun t=>some (ctV t)) h (fun rec t=>by simp [stC,r52_0,ctV]) (fun rec i hi t=>ct52 hk rec i hi h t fuel) t
theorem g52 {b : VStewBook} {n : ByteArray} {k : Nat} (hs : b.Services.length≤1048576) (h : b.Copies.length≤1048576) (hk : k<b.Services.length) (hp : posL (svP n) b.Services 0=(k : Int)) : G52 b n=some (ctB n b.Services[k].Image b.Copies):=by
  have:=lp52 (n:=n) hk h (0,0,0,0,0)
  unfold G52 G52n
  rw [g49 hs,hp]
  exact this

/-! ### Copies of books -/
theorem g21 {b : VStewBook} (h1 : b.Services.length≤1048576) (h2 : b.Copies.length≤1048576) (h3 : b.Berths.length≤1048576) : G21 b=some b:=by
  unfold G21 G21n
  have e1 : (([] : List (C .e79)).length+b.Services.length)*112≤140737488355328:=by simp only [List.length_nil]; omega
  have e2 : (([] : List (C .e83)).length+b.Copies.length)*72≤140737488355328:=by simp only [List.length_nil]; omega
  have e3 : (([] : List (C .e81)).length+b.Berths.length)*24≤140737488355328:=by simp only [List.length_nil]; omega
  simp only [e1,e2,e3,decide_true,cond_true,List.nil_append]
theorem g27 {b : VStewBook} (h1 : b.Services.length≤1048576) (h2 : b.Copies.length≤1048576) (h3 : b.Berths.length≤1048576) : G27 b=some b:=by
  unfold G27 G27n
  have e1 : (([] : List (C .e79)).length+b.Services.length)*112≤140737488355328:=by simp only [List.length_nil]; omega
  have e2 : (([] : List (C .e83)).length+b.Copies.length)*72≤140737488355328:=by simp only [List.length_nil]; omega
  have e3 : (([] : List (C .e81)).length+b.Berths.length)*24≤140737488355328:=by simp only [List.length_nil]; omega
  simp only [e1,e2,e3,decide_true,cond_true,List.nil_append]

/-! ### The first that does not fit -/
def lead {α : Type} (p : α→Bool) (xs : List α) : Nat:=(xs.takeWhile p).length
theorem lead_le {α : Type} (p : α→Bool) (xs : List α) : lead p xs≤xs.length:=by
  unfold lead
  induction xs with
  | nil=>simp
  | cons x xs ih=>simp only [List.takeWhile_cons]; split <;> simp; omega
theorem lead_step {α : Type} {p : α→Bool} {xs : List α} {i : Nat} (h : i<xs.length) : i+lead p (xs.drop i)=cond (p xs[i]) (i+1+lead p (xs.drop (i+1))) i:=by
  rw [List.drop_eq_getElem_cons h]
  unfold lead
  rw [List.takeWhile_cons]
  cases p xs[i] <;> simp; omega
theorem stop_lp {α R : Type} {p : α→Bool} {xs : List α} {A : Type} {st : Nat→A} {rnd : (A→Option R)→A→Option R} (hl : xs.length≤1048576) (fin : Nat→Option R)
    (hend : ∀ rec,rnd rec (st xs.length)=fin xs.length)
    (hstep : ∀ rec i (hi : i<xs.length),rnd rec (st i)=cond (p xs[i]) (rec (st (i+1))) (fin i)) : lpN rnd fuel (st 0)=fin (lead p xs):=by
  have:=lp_idx (rnd:=rnd) (st:=st) (val:=fun i=>fin (i+lead p (xs.drop i))) xs.length (fun rec=>by rw [hend,List.drop_length]; simp [lead]) (fun rec i hi hr=>by
    rw [hstep rec i hi,lead_step hi]
    cases p xs[i] with
    | true=>exact hr
    | false=>rfl) fuel 0 (Nat.zero_le _) (by have:=fuel_big; omega)
  simpa using this
end Go.Proofs.Ytakakoogpmhhkaa.Ab

/- The plain law of StewApply: copies that are made. -/
set_option linter.unusedVariables false
set_option linter.unusedSimpArgs false
set_option maxRecDepth 10000
namespace Go.Proofs.Ytakakoogpmhhkaa.Ab
open Go Go.RowKit

theorem lead_congr {α : Type} {p q : α→Bool} : ∀ {xs : List α},(∀ x ∈ xs,p x=q x)→lead p xs=lead q xs
  | [],_=>rfl
  | x::xs,h=>by
    have ih:=lead_congr (p:=p) (q:=q) (xs:=xs) fun y hy=>h y (by simp [hy])
    unfold lead at ih ⊢
    rw [List.takeWhile_cons,List.takeWhile_cons,h x (by simp)]
    cases q x <;> simp [ih]
theorem lead_app {α : Type} {q : α→Bool} : ∀ {xs : List α} (ys : List α),(∀ x ∈ xs,q x=true)→lead q (xs++ys)=xs.length+lead q ys
  | [],ys,_=>by simp
  | x::xs,ys,h=>by
    have ih:=lead_app (q:=q) (xs:=xs) ys fun y hy=>h y (by simp [hy])
    unfold lead at ih ⊢
    rw [List.cons_append,List.takeWhile_cons,h x (by simp)]
    simp [ih]; omega
theorem lead_drop {α : Type} {q : α→Bool} : ∀ (xs : List α),lead q (xs.drop (lead q xs))=0
  | []=>rfl
  | x::xs=>by
    cases h : q x with
    | true =>
      have e : lead q (x::xs)=lead q xs+1:=by unfold lead; rw [List.takeWhile_cons,h]; simp
      rw [e,List.drop_succ_cons]
      exact lead_drop xs
    | false =>
      have e : lead q (x::xs)=0:=by unfold lead; rw [List.takeWhile_cons,h]; simp
      rw [e,List.drop_zero]; exact e
theorem lead_take {α : Type} {q : α→Bool} : ∀ (xs : List α),∀ x ∈ xs.take (lead q xs),q x=true
  | [],x,h=>by simp at h
  | y::xs,x,hx=>by
    cases h : q y with
    | true =>
      have e : lead q (y::xs)=lead q xs+1:=by unfold lead; rw [List.takeWhile_cons,h]; simp
      rw [e,List.take_succ_cons] at hx
      rcases List.mem_cons.1 hx with e' | hx
      · subst e'; exact h
      · exact lead_take xs x hx
    | false =>
      have e : lead q (y::xs)=0:=by unfold lead; rw [List.takeWhile_cons,h]; simp
      rw [e] at hx; simp at hx
/-- A row with others put in at a place. -/
def insL {α : Type} (i : Nat) (xs ys : List α) : List α:=xs.take i++ys++xs.drop i
theorem insL_len {α : Type} {i : Nat} {xs ys : List α} (h : i≤xs.length) : (insL i xs ys).length=xs.length+ys.length:=by
  unfold insL; simp; omega
theorem insL_lead {α : Type} {q : α→Bool} {xs ys : List α} (h : ∀ y ∈ ys,q y=true) : lead q (insL (lead q xs) xs ys)=lead q xs+ys.length:=by
  unfold insL
  rw [lead_app _ (fun x hx=>by
    rcases List.mem_append.1 hx with hx | hx
    · exact lead_take xs x hx
    · exact h x hx),lead_drop]
  have:=lead_le q xs
  simp; omega
theorem insL_snoc {α : Type} {i : Nat} {xs ys : List α} (h : i≤xs.length) (c : α) : (insL i xs ys).take (i+ys.length)++[c]++(insL i xs ys).drop (i+ys.length)=insL i xs (ys++[c]):=by
  unfold insL
  have e : (xs.take i++ys).length=i+ys.length:=by simp; omega
  rw [List.take_left' e,List.drop_left' e]
  simp [List.append_assoc]
def leP (n : ByteArray) (c : VStewCopy) : Bool := !slt n c.Service
theorem ah_le {n : ByteArray} {c d : VStewCopy} (hc : c.Service=n) (hd : d.Service=n→d.Number<c.Number) : ahB d c=leP n d:=by
  unfold ahB leP
  rw [hc]
  rcases slt_tri d.Service n with ⟨h1,h2,h3⟩ | ⟨h1,h2,h3⟩ | ⟨h1,h2,h3⟩
  · simp [h1,h2]
  · simp [h1,h2,h3]
  · have:=hd h3
    simp [h1,h2,h3,this,slt_irr]
def newC (v : Int) (s : VStewService) (j : Nat) : VStewCopy:=⟨s.Name,s.Next+(j : Int),v,s.Image,1,false,⟨#[]⟩⟩
def news (v : Int) (s : VStewService) (j : Nat) : List VStewCopy:=(List.range j).map (newC v s)
theorem news_succ (v : Int) (s : VStewService) (j : Nat) : news v s (j+1)=news v s j++[newC v s j]:=by unfold news; rw [List.range_succ]; simp
theorem news_len (v : Int) (s : VStewService) (j : Nat) : (news v s j).length=j:=by simp [news]

/-- The specification puts a copy where it belongs. -/
theorem lp6_4 {L : List VStewCopy} (hL : L.length≤1048576) (x2 x27 : Int) (n1 : ByteArray) (n2 v img st : Int) (en : Bool) (be : ByteArray) (rec3 : A6_3→Option (VStewBook×Int)) :
    lpN (r6_4 x2 L x27 n1 n2 v img st en be fuel rec3) fuel 0=rec3 (IntKind.i64.wrap (x2+1),L.take (lead (fun d=>ahB d ⟨n1,n2,v,img,st,en,be⟩) L)++[⟨n1,n2,v,img,st,en,be⟩]++L.drop (lead (fun d=>ahB d ⟨n1,n2,v,img,st,en,be⟩) L),IntKind.i64.wrap (x27+1)):=by
  have fin : ∀ p : Nat,p≤L.length→(cond (decide ((0 : Int)≤0)) (cond (decide ((0 : Int)≤((p : Nat) : Int))) (cond (decide (((p : Nat) : Int)≤(L.length : Int))) (cond (decide (((([] : List (C .e83))).length+((L.take ((p : Nat) : Int).toNat).drop ((0 : Int).toNat)).length)*72≤140737488355328)) (cond (decide ((((([] : List (C .e83)))++((L.take ((p : Nat) : Int).toNat).drop ((0 : Int).toNat))).length+(([(⟨n1,n2,v,img,st,en,be⟩ : VStewCopy)] : List (C .e83))).length)*72≤140737488355328)) (cond (decide ((0 : Int)≤((p : Nat) : Int))) (cond (decide ((((p : Nat) : Int) : Int)≤(L.length : Int))) (cond (decide ((L.length : Int)≤(L.length : Int))) (cond (decide (((((([] : List (C .e83)))++((L.take ((p : Nat) : Int).toNat).drop ((0 : Int).toNat)))++(([(⟨n1,n2,v,img,st,en,be⟩ : VStewCopy)] : List (C .e83)))).length+((L.take ((L.length : Int).toNat)).drop ((((p : Nat) : Int) : Int).toNat)).length)*72≤140737488355328)) (rec3 ((IntKind.i64.wrap (x2+1),(((([] : List (C .e83)))++((L.take ((p : Nat) : Int).toNat).drop ((0 : Int).toNat)))++(([(⟨n1,n2,v,img,st,en,be⟩ : VStewCopy)] : List (C .e83))))++((L.take ((L.length : Int).toNat)).drop ((((p : Nat) : Int) : Int).toNat)),IntKind.i64.wrap (x27+1)))) none) none) none) none) none) none) none) none) none)=rec3 (IntKind.i64.wrap (x2+1),L.take p++[⟨n1,n2,v,img,st,en,be⟩]++L.drop p,IntKind.i64.wrap (x27+1)):=by
    intro p hp
    have e1 : ((p : Nat) : Int)≤(L.length : Int):=by omega
    have e2 : (([] : List (C .e83)).length+(L.take p).length)*72≤140737488355328:=by simp; omega
    have e3 : ((L.take p).length+([(⟨n1,n2,v,img,st,en,be⟩ : VStewCopy)] : List (C .e83)).length)*72≤140737488355328:=by simp; omega
    have e4 : ((L.take p++([(⟨n1,n2,v,img,st,en,be⟩ : VStewCopy)] : List (C .e83))).length+(L.drop p).length)*72≤140737488355328:=by simp; omega
    simp only [Int.toNat_natCast,Int.toNat_zero,Int.natCast_nonneg,e1,e2,e3,e4,Int.le_refl,decide_true,cond_true,List.nil_append,List.drop_zero,List.take_length]
  refine stop_lp (p:=fun d=>ahB d ⟨n1,n2,v,img,st,en,be⟩) (st:=fun i=>((i : Nat) : Int)) hL (fun p=>rec3 (IntKind.i64.wrap (x2+1),L.take p++[⟨n1,n2,v,img,st,en,be⟩]++L.drop p,IntKind.i64.wrap (x27+1))) (fun rec => ?_) (fun rec i hi => ?_)
  · rw [← fin L.length (Nat.le_refl _)]
    simp only [r6_4,Int.lt_irrefl,decide_false,cond_false]
  · have q1 : (i : Int)<(L.length : Int):=by omega
    simp only [r6_4,q1,decide_true,cond_true,Int.natCast_nonneg,get_cast hi,Option.bind_some,g47]
    rw [wrap_nat (by omega)]
    cases ahB L[i] ⟨n1,n2,v,img,st,en,be⟩ with
    | true=>rfl
    | false =>
      rw [cond_false,cond_false,← fin i (by omega)]
      simp only [q1,decide_true,cond_true,Int.natCast_nonneg]

/-- What comes out. -/
def outB (v : Int) (ss : List VStewService) (cs : List VStewCopy) (bs : List VStewBerth) : VStewBook:=⟨v,ss,cs,bs⟩
def nxt (s : VStewService) (v W Co : Int) (j : Nat) : VStewService:=⟨s.Name,v,s.Gone,s.Image,W,s.Down,s.Over,s.Next+(j : Int),s.Per,s.Least,s.Most,s.Load,Co⟩
section
variable {ss : List VStewService} {cs : List VStewCopy} {bs : List VStewBerth} {s : VStewService} {k M : Nat} {v W Co : Int}
theorem spec_make (hk : k<ss.length) (hs : ss[k]=s) (hss : ss.length≤1048576) (hcs : cs.length≤1000) (hbs : bs.length≤1048576) (hC : M≤1000) (hN0 : 0≤s.Next) (hN : s.Next≤1000000) (hnum : ∀ c ∈ cs,c.Service=s.Name→c.Number<s.Next) :
    lpN (r6_3 ((k : Nat) : Int) v s.Name ((M : Nat) : Int) false ss bs s.Name s.Gone s.Image W s.Down s.Over s.Per s.Least s.Most s.Load Co fuel) fuel (0,cs,s.Next)=some (outB v (ss.set k (nxt s v W Co M)) (insL (lead (leP s.Name) cs) cs (news v s M)) bs,0):=by
  have h:=lp_idx (rnd:=r6_3 ((k : Nat) : Int) v s.Name ((M : Nat) : Int) false ss bs s.Name s.Gone s.Image W s.Down s.Over s.Per s.Least s.Most s.Load Co fuel)
    (st:=fun j=>(((j : Nat) : Int),insL (lead (leP s.Name) cs) cs (news v s j),s.Next+(j : Int))) (val:=fun _=>some (outB v (ss.set k (nxt s v W Co M)) (insL (lead (leP s.Name) cs) cs (news v s M)) bs,0)) M (fun rec=>by
    have q1 : ((k : Nat) : Int)<(ss.length : Int):=by omega
    have hlen:=insL_len (ys:=news v s M) (lead_le (leP s.Name) cs)
    rw [news_len] at hlen
    simp only [r6_3,Int.lt_irrefl,decide_false,cond_false,Int.natCast_nonneg,decide_true,cond_true,q1,Int.toNat_natCast,List.getElem?_eq_getElem hk,Option.bind_some]
    rw [g21 (by simp; omega) (by simp only; omega) (by simpa using hbs)]
    rfl) (fun rec j hj hr=>by
    have q1 : ((j : Nat) : Int)<((M : Nat) : Int):=by omega
    have hlen:=insL_len (ys:=news v s j) (lead_le (leP s.Name) cs)
    rw [news_len] at hlen
    simp only [r6_3,q1,decide_true,cond_true]
    rw [lp6_4 (by omega)]
    have hl : lead (fun d=>ahB d ⟨s.Name,s.Next+(j : Int),v,s.Image,1,false,⟨#[]⟩⟩) (insL (lead (leP s.Name) cs) cs (news v s j))=lead (leP s.Name) cs+(news v s j).length:=by
      rw [← insL_lead (q:=leP s.Name) (ys:=news v s j) (fun y hy=>by
        simp only [news,List.mem_map] at hy
        obtain ⟨t,_,rfl⟩:=hy
        simp [leP,newC,slt_irr])]
      refine lead_congr fun d hd=>ah_le rfl fun e => ?_
      unfold insL at hd
      rcases List.mem_append.1 hd with hd | hd
      · rcases List.mem_append.1 hd with hd | hd
        · have:=hnum d (List.mem_of_mem_take hd) e
          show d.Number<s.Next+(j : Int)
          omega
        · simp only [news,List.mem_map,List.mem_range] at hd
          obtain ⟨t,ht,rfl⟩:=hd
          show s.Next+(t : Int)<s.Next+(j : Int)
          omega
      · have:=hnum d (List.mem_of_mem_drop hd) e
        show d.Number<s.Next+(j : Int)
        omega
    rw [hl,insL_snoc (lead_le _ _),wrap_nat (by omega)]
    have e1 : IntKind.i64.wrap (s.Next+(j : Int)+1)=s.Next+((j+1 : Nat) : Int):=by rw [wrap_id (by omega) (by omega)]; omega
    rw [e1]
    have e2 : news v s j++[(⟨s.Name,s.Next+(j : Int),v,s.Image,1,false,⟨#[]⟩⟩ : VStewCopy)]=news v s (j+1):=(news_succ v s j).symm
    rw [e2]
    exact hr) fuel 0 (Nat.zero_le _) (by have:=fuel_big; omega)
  have e0 : insL (lead (leP s.Name) cs) cs (news v s 0)=cs:=by simp [insL,news]
  simp only [e0] at h
  simpa using h
theorem impl_make {N0 : Int} {S0 : List VStewService} {C0 : List VStewCopy} {B0 : List VStewBerth} {A : VStewAct} (hA : A.Create=((M : Nat) : Int)) (hD : A.Drop=false) (hk : k<ss.length) (hs : ss[k]=nxt s v W Co 0) (hcs : cs.length≤1000) (hC : M≤1000) (hN0 : 0≤s.Next) (hN : s.Next≤1000000) :
    lpN (r9_9 ss k v cs bs A.Service A.Seen A.Create A.Want A.Cool A.Scale A.Ends A.Drop N0 S0 C0 B0 fuel) fuel 0=some (outB v (ss.set k (nxt s v W Co M)) (insL (lead (leP s.Name) cs) cs (news v s M)) bs,0):=by
  have hg : ss[k]? = some (nxt s v W Co 0):=by rw [List.getElem?_eq_getElem hk,hs]
  have h9:=stop_lp (p:=leP s.Name) (xs:=cs) (rnd:=r9_9 ss k v cs bs A.Service A.Seen A.Create A.Want A.Cool A.Scale A.Ends A.Drop N0 S0 C0 B0 fuel) (st:=fun i=>((i : Nat) : Int)) (by omega) (fun i=>lpN (r9_10 k A.Create v bs A.Service A.Seen A.Create A.Want A.Cool A.Scale A.Ends A.Drop N0 S0 C0 B0 fuel) fuel (ss,((i : Nat) : Int),0,cs)) (fun rec=>by simp [r9_9]) (fun rec i hi=>by
    have q1 : (i : Int)<(cs.length : Int):=by omega
    simp only [r9_9,q1,decide_true,cond_true,Int.natCast_nonneg,get_cast hi,Option.bind_some,hg,leP]
    rw [wrap_nat (by omega)]
    rfl)
  refine Eq.trans h9 ?_
  have hi0:=lead_le (leP s.Name) cs
  generalize hi0e : lead (leP s.Name) cs=i0 at hi0
  have h:=lp_idx (rnd:=r9_10 k A.Create v bs A.Service A.Seen A.Create A.Want A.Cool A.Scale A.Ends A.Drop N0 S0 C0 B0 fuel)
    (st:=fun j=>(ss.set k (nxt s v W Co j),((i0+j : Nat) : Int),((j : Nat) : Int),insL i0 cs (news v s j))) (val:=fun _=>some (outB v (ss.set k (nxt s v W Co M)) (insL i0 cs (news v s M)) bs,0)) M (fun rec=>by
    simp only [r9_10,hA,hD,Int.lt_irrefl,decide_false,cond_false]
    rfl) (fun rec j hj hr=>by
    have q1 : ((j : Nat) : Int)<((M : Nat) : Int):=by omega
    have hlen:=insL_len (ys:=news v s j) hi0
    have hnl:=news_len v s j
    rw [hnl] at hlen
    have q2 : ((i0+j : Nat) : Int)≤((insL i0 cs (news v s j)).length : Int):=by omega
    have q3 : ∀ c : VStewCopy,((insL i0 cs (news v s j)).length+([c] : List (C .e83)).length)*72≤140737488355328:=fun c=>by simp only [List.length_cons,List.length_nil]; omega
    have q4 : ∀ c : VStewCopy,Nat.beq ([c] : List (C .e83)).length 1=true:=fun c=>rfl
    have hgj : (ss.set k (nxt s v W Co j))[k]? = some (nxt s v W Co j):=by simp [hk]
    simp only [r9_10,hA,q1,decide_true,cond_true,hgj,Option.bind_some,q4,Int.natCast_nonneg,Bool.and_self,q2,q3,List.set_set,Int.toNat_natCast]
    have e1 : IntKind.i64.wrap (s.Next+(j : Int)+1)=s.Next+((j+1 : Nat) : Int):=by rw [wrap_id (by omega) (by omega)]; omega
    have e3 : (insL i0 cs (news v s j)).take (i0+j)++[newC v s j]++(insL i0 cs (news v s j)).drop (i0+j)=insL i0 cs (news v s (j+1)):=by
      rw [news_succ]
      have:=insL_snoc (ys:=news v s j) hi0 (newC v s j)
      rw [hnl] at this
      exact this
    have e4 : (⟨(nxt s v W Co j).Name,(nxt s v W Co j).Next,v,(nxt s v W Co j).Image,1,false,⟨#[]⟩⟩ : VStewCopy)=newC v s j:=rfl
    have e5 : (⟨(nxt s v W Co j).Name,(nxt s v W Co j).Version,(nxt s v W Co j).Gone,(nxt s v W Co j).Image,(nxt s v W Co j).Want,(nxt s v W Co j).Down,(nxt s v W Co j).Over,IntKind.i64.wrap ((nxt s v W Co j).Next+1),(nxt s v W Co j).Per,(nxt s v W Co j).Least,(nxt s v W Co j).Most,(nxt s v W Co j).Load,(nxt s v W Co j).Cool⟩ : VStewService)=nxt s v W Co (j+1):=by
      show (⟨s.Name,v,s.Gone,s.Image,W,s.Down,s.Over,IntKind.i64.wrap (s.Next+(j : Int)+1),s.Per,s.Least,s.Most,s.Load,Co⟩ : VStewService)=_
      rw [e1]; rfl
    rw [e4,e5,e3,wrap_nat (by omega),wrap_nat (by omega)]
    exact hr) fuel 0 (Nat.zero_le _) (by have:=fuel_big; omega)
  have e0 : insL i0 cs (news v s 0)=cs:=by simp [insL,news]
  have e1 : ss.set k (nxt s v W Co 0)=ss:=by rw [← hs]; exact List.set_getElem_self hk
  simp only [e0,e1,Nat.add_zero] at h
  exact h
end
end Go.Proofs.Ytakakoogpmhhkaa.Ab

/- The plain law of StewApply: a service that is dropped. -/
set_option linter.unusedVariables false
set_option linter.unusedSimpArgs false
set_option maxRecDepth 10000
namespace Go.Proofs.Ytakakoogpmhhkaa.Ab
open Go Go.RowKit

section
variable {ss : List VStewService} {cs : List VStewCopy} {bs : List VStewBerth} {s : VStewService} {k : Nat} {v W Co : Int}
theorem nxt_zero : (⟨s.Name,v,s.Gone,s.Image,W,s.Down,s.Over,s.Next,s.Per,s.Least,s.Most,s.Load,Co⟩ : VStewService)=nxt s v W Co 0:=by
  unfold nxt; simp
theorem spec_drop (svc : ByteArray) (hk : k<ss.length) (hss : ss.length≤1048576) (hcs : cs.length≤1048576) (hbs : bs.length≤1048576) :
    lpN (r6_3 ((k : Nat) : Int) v svc 0 true ss bs s.Name s.Gone s.Image W s.Down s.Over s.Per s.Least s.Most s.Load Co fuel) fuel (0,cs,s.Next)=some (outB v (ss.take k++ss.drop (k+1)) cs bs,0):=by
  rw [lp_open (show 0<fuel by unfold fuel; omega)]
  have q1 : ((k : Nat) : Int)<(ss.length : Int):=by omega
  have hl : (ss.set k (nxt s v W Co 0)).length=ss.length:=by simp
  have q2 : ((k : Nat) : Int)≤(ss.length : Int):=by omega
  have q3 : (([] : List (C .e79)).length+(ss.take k).length)*112≤140737488355328:=by simp; omega
  have q4 : ((k+1 : Nat) : Int)≤(ss.length : Int):=by omega
  have q5 : ((ss.take k).length+(ss.drop (k+1)).length)*112≤140737488355328:=by simp; omega
  have t1 : (ss.set k (nxt s v W Co 0)).take k=ss.take k:=by rw [List.take_set]; exact List.set_eq_of_length_le (by simp; omega)
  have t2 : (ss.set k (nxt s v W Co 0)).drop (k+1)=ss.drop (k+1):=by rw [List.drop_set]; simp
  simp only [r6_3,Int.lt_irrefl,decide_false,cond_false,Int.natCast_nonneg,decide_true,cond_true,q1,Int.toNat_natCast,List.getElem?_eq_getElem hk,Option.bind_some,nxt_zero,hl,q2,Int.le_refl,Int.toNat_zero,List.drop_zero,t1,q3,wrap_nat (show k<4611686018427387904 by omega),q4,List.nil_append]
  have t3 : (ss.set k (nxt s v W Co 0)).take ss.length=ss.set k (nxt s v W Co 0):=List.take_of_length_le (by rw [hl]; exact Nat.le_refl _)
  simp only [t3,t2,q5,decide_true,cond_true]
  rw [g21 (by simp; omega) hcs hbs]
  rfl
def mov (ss : List VStewService) (k t : Nat) : List VStewService:=ss.take k++(ss.drop (k+1)).take t++ss.drop (k+t)
theorem mov_len {t : Nat} (hk : k+t<ss.length) : (mov ss k t).length=ss.length:=by unfold mov; simp; omega
theorem mov_get {t : Nat} (h : k+t+1<ss.length) : (mov ss k t)[k+1+t]? = ss[k+1+t]? := by
  unfold mov
  have e : (ss.take k++(ss.drop (k+1)).take t).length=k+t:=by simp; omega
  rw [List.getElem?_append_right (by omega),e,List.getElem?_drop]
  congr 1; omega
theorem mov_at {t : Nat} (h : k+t<ss.length) : ∃ x,(mov ss k t)[k+t]? = some x:=by
  exact ⟨_,List.getElem?_eq_getElem (by rw [mov_len h]; exact h)⟩
theorem mov_set {t : Nat} (h : k+t+1<ss.length) : (mov ss k t).set (k+t) (ss[k+1+t]'(by omega))=mov ss k (t+1):=by
  unfold mov
  have e : (ss.take k++(ss.drop (k+1)).take t).length=k+t:=by simp; omega
  rw [List.set_append_right _ _ (by omega),e,Nat.sub_self,List.drop_eq_getElem_cons (show k+t<ss.length by omega),List.set_cons_zero]
  have e2 : (ss.drop (k+1)).take (t+1)=(ss.drop (k+1)).take t++[ss[k+1+t]'(by omega)]:=by
    rw [List.take_add_one,List.getElem?_drop,List.getElem?_eq_getElem (by omega)]; rfl
  rw [e2,show k+(t+1)=k+t+1 by omega]
  simp [List.append_assoc]
theorem mov_end (h : k<ss.length) : (mov ss k (ss.length - 1 - k)).take (ss.length - 1)=ss.take k++ss.drop (k+1):=by
  unfold mov
  have e0 : (ss.drop (k+1)).take (ss.length - 1 - k)=ss.drop (k+1):=List.take_of_length_le (by simp; omega)
  rw [e0]
  exact List.take_left' (by simp; omega)
theorem impl_drop {N0 : Int} {S0 : List VStewService} {C0 : List VStewCopy} {B0 : List VStewBerth} {A : VStewAct} (hA : A.Create=0) (hD : A.Drop=true) (hk : k<ss.length) (hss : ss.length≤1048576) (hcs : cs.length≤1048576)
    (h0 : ∀ j (hj : j<ss.length),ss[j].Name=A.Service↔j=k) :
    lpN (r9_9 ss k v cs bs A.Service A.Seen A.Create A.Want A.Cool A.Scale A.Ends A.Drop N0 S0 C0 B0 fuel) fuel 0=some (outB v (ss.take k++ss.drop (k+1)) cs bs,0):=by
  have hg : ss[k]? = some ss[k]:=List.getElem?_eq_getElem hk
  have h9:=stop_lp (p:=leP ss[k].Name) (xs:=cs) (rnd:=r9_9 ss k v cs bs A.Service A.Seen A.Create A.Want A.Cool A.Scale A.Ends A.Drop N0 S0 C0 B0 fuel) (st:=fun i=>((i : Nat) : Int)) hcs (fun i=>lpN (r9_10 k A.Create v bs A.Service A.Seen A.Create A.Want A.Cool A.Scale A.Ends A.Drop N0 S0 C0 B0 fuel) fuel (ss,((i : Nat) : Int),0,cs)) (fun rec=>by simp [r9_9]) (fun rec i hi=>by
    have q1 : (i : Int)<(cs.length : Int):=by omega
    simp only [r9_9,q1,decide_true,cond_true,Int.natCast_nonneg,get_cast hi,Option.bind_some,hg,leP]
    rw [wrap_nat (by omega)])
  refine Eq.trans h9 ?_
  rw [lp_open (show 0<fuel by unfold fuel; omega)]
  simp only [r9_10,hA,hD,Int.lt_irrefl,decide_false,cond_false,cond_true]
  -- the first of the name
  have h11:=pos_lp (p:=svP A.Service) (xs:=ss) (rnd:=r9_11 ss (ss.length : Int) v cs bs A.Service A.Seen 0 A.Want A.Cool A.Scale A.Ends true N0 S0 C0 B0 fuel) (st:=fun i=>((i : Nat) : Int)) hss
    (fun j=>lpN (r9_12 v cs bs A.Service A.Seen 0 A.Want A.Cool A.Scale A.Ends true N0 S0 C0 B0 fuel) fuel (ss,((j : Nat) : Int),IntKind.i64.wrap (((j : Nat) : Int)+1))) (some (outB v ss cs bs,0)) (fun rec=>by simp only [r9_11,Int.lt_irrefl,decide_false,cond_false]; rfl) (fun rec i hi=>by
    have q1 : (i : Int)<(ss.length : Int):=by omega
    have q2 : (((i : Nat) : Int) == -1)=false:=by simp
    simp only [r9_11,q1,decide_true,cond_true,Int.natCast_nonneg,get_cast hi,Option.bind_some,G68,G68n,svP,q2,cond_false]
    rw [wrap_nat (show i<4611686018427387904 by omega)])
  refine Eq.trans h11 ?_
  have hpos : posL (svP A.Service) ss 0=((k : Nat) : Int):=by
    rcases posL_cases (svP A.Service) ss with ⟨e,hn⟩ | ⟨i,hi,e,hp,_⟩
    · have:=hn ss[k] (List.getElem_mem hk)
      have h2:=(h0 k hk).2 rfl
      simp [svP,h2] at this
    · have : ss[i].Name=A.Service:=by simpa [svP] using hp
      rw [e,(h0 i hi).1 this]
  have q0 : ¬ ((k : Nat) : Int)<0:=by omega
  rw [hpos]
  simp only [q0,decide_false,cond_false,Int.toNat_natCast,wrap_nat (show k<4611686018427387904 by omega)]
  have h:=lp_idx (rnd:=r9_12 v cs bs A.Service A.Seen 0 A.Want A.Cool A.Scale A.Ends true N0 S0 C0 B0 fuel) (st:=fun t=>(mov ss k t,((k+t : Nat) : Int),((k+1+t : Nat) : Int))) (val:=fun _=>some (outB v (ss.take k++ss.drop (k+1)) cs bs,0)) (ss.length - 1 - k) (fun rec=>by
    have hm : (mov ss k (ss.length - 1 - k)).length=ss.length:=mov_len (by omega)
    have q1 : ¬ ((k+1+(ss.length - 1 - k) : Nat) : Int)<(ss.length : Int):=by omega
    have q2 : k+(ss.length - 1 - k)=ss.length - 1:=by omega
    have q3 : ((ss.length - 1 : Nat) : Int)≤(ss.length : Int):=by omega
    have q4 : (((mov ss k (ss.length - 1 - k)).take (ss.length - 1)++List.replicate (ss.length - (ss.length - 1)) (⟨⟨#[]⟩,0,false,0,0,0,0,0,0,0,0,0,0⟩ : C .e79)++(mov ss k (ss.length - 1 - k)).drop ss.length).length : Nat)=ss.length:=by
      simp [hm]
    have q5 : ((mov ss k (ss.length - 1 - k)).take (ss.length - 1)++List.replicate (ss.length - (ss.length - 1)) (⟨⟨#[]⟩,0,false,0,0,0,0,0,0,0,0,0,0⟩ : C .e79)++(mov ss k (ss.length - 1 - k)).drop ss.length).take (ss.length - 1)=ss.take k++ss.drop (k+1):=by
      rw [List.append_assoc,List.take_left' (by simp [hm]),mov_end hk]
    simp only [r9_12,hm,q1,decide_false,cond_false,q2,Int.natCast_nonneg,decide_true,cond_true,q3,Int.le_refl,Int.toNat_natCast,q4,q5]
    rfl) (fun rec t ht hr=>by
    have hm : (mov ss k t).length=ss.length:=mov_len (by omega)
    have q1 : ((k+1+t : Nat) : Int)<(ss.length : Int):=by omega
    have q2 : ((k+t : Nat) : Int)<(ss.length : Int):=by omega
    obtain ⟨x,hx⟩:=mov_at (ss:=ss) (k:=k) (t:=t) (by omega)
    have hj : k+1+t<ss.length:=by omega
    have hne : decide ((ss[k+1+t]'hj).Name=A.Service)=false:=by
      apply decide_eq_false
      intro e
      have:=(h0 _ hj).1 e
      omega
    simp only [r9_12,hm,q1,q2,decide_true,cond_true,Int.natCast_nonneg,Int.toNat_natCast,mov_get (show k+t+1<ss.length by omega),List.getElem?_eq_getElem hj,Option.bind_some,G68,G68n,hne,Bool.not_false,hx,mov_set (show k+t+1<ss.length by omega)]
    rw [wrap_nat (by omega),wrap_nat (by omega)]
    exact hr) fuel 0 (Nat.zero_le _) (by have:=fuel_big; omega)
  have e0 : mov ss k 0=ss:=by unfold mov; simp
  simp only [e0,Nat.add_zero] at h
  exact h
end
end Go.Proofs.Ytakakoogpmhhkaa.Ab

/- The plain law of StewApply: the end of an act. -/
set_option linter.unusedVariables false
set_option linter.unusedSimpArgs false
set_option maxRecDepth 10000
namespace Go.Proofs.Ytakakoogpmhhkaa.Ab
open Go Go.RowKit

def vOf (b : VStewBook) : Int:=IntKind.i64.wrap (b.Now+1)
def keyC (c : VStewCopy) : ByteArray×Int:=(c.Service,c.Number)
structure Facts (b : VStewBook) (A : VStewAct) (s : VStewService) (k : Nat) : Prop where
  h1 : b.Services.length≤1048576
  h2 : b.Copies.length≤900
  h3 : b.Berths.length≤1048576
  he : A.Ends.length≤1048576
  n0 : 0≤b.Now
  n1 : b.Now≤1000000
  hk : k<b.Services.length
  hs : b.Services[k]? = some s
  name : s.Name=A.Service
  pos : posL (svP A.Service) b.Services 0=(k : Int)
  nx0 : 0≤s.Next
  nx1 : s.Next≤1000000
  c0 : 0≤A.Create
  c1 : A.Create≤1000
  num : ∀ c ∈ b.Copies,c.Service=s.Name→c.Number<s.Next
  uni : ∀ (j : Nat) (t : VStewService),b.Services[j]? = some t→(t.Name=A.Service↔j=k)
  drop : A.Drop=true→A.Create=0∧A.Scale=false∧A.Ends=[]
section
variable {b : VStewBook} {A : VStewAct} {s : VStewService} {k : Nat} {cs : List VStewCopy}
theorem Facts.gs (F : Facts b A s k) : b.Services[k]'F.hk=s:=by
  have h:=F.hs
  rw [List.getElem?_eq_getElem F.hk] at h
  exact Option.some.inj h
theorem key_len (h : cs.map keyC=b.Copies.map keyC) : cs.length=b.Copies.length:=by
  have:=congrArg List.length h
  simpa using this
theorem key_num (F : Facts b A s k) (h : cs.map keyC=b.Copies.map keyC) : ∀ c ∈ cs,c.Service=s.Name→c.Number<s.Next:=by
  intro c hc e
  have : keyC c ∈ b.Copies.map keyC:=by rw [← h]; exact List.mem_map_of_mem hc
  obtain ⟨d,hd,e2⟩:=List.mem_map.1 this
  have q1 : d.Service=c.Service:=congrArg Prod.fst e2
  have q2 : d.Number=c.Number:=congrArg Prod.snd e2
  rw [← q2]
  exact F.num d hd (by rw [q1,e])
def finM (b : VStewBook) (A : VStewAct) (s : VStewService) (k : Nat) (cs : List VStewCopy) (W Co : Int) : Option (VStewBook×Int) :=
  some (outB (vOf b) (b.Services.set k (nxt s (vOf b) W Co A.Create.toNat)) (insL (lead (leP s.Name) cs) cs (news (vOf b) s A.Create.toNat)) b.Berths,0)
def finD (b : VStewBook) (k : Nat) (cs : List VStewCopy) : Option (VStewBook×Int):=some (outB (vOf b) (b.Services.take k++b.Services.drop (k+1)) cs b.Berths,0)
theorem spec_finM (F : Facts b A s k) (h : cs.map keyC=b.Copies.map keyC) (W Co : Int) :
    lpN (r6_3 ((k : Nat) : Int) (vOf b) A.Service A.Create false b.Services b.Berths s.Name s.Gone s.Image W s.Down s.Over s.Per s.Least s.Most s.Load Co fuel) fuel (0,cs,s.Next)=finM b A s k cs W Co:=by
  have hl:=key_len h
  have q:=F.h2
  have c0:=F.c0
  have c1:=F.c1
  obtain ⟨M,hM⟩ : ∃ M : Nat,A.Create=(M : Int):=⟨A.Create.toNat,by omega⟩
  unfold finM
  rw [← F.name,hM,Int.toNat_natCast]
  exact spec_make F.hk F.gs F.h1 (by omega) F.h3 (by omega) F.nx0 F.nx1 (key_num F h)
theorem spec_finD (F : Facts b A s k) (h : cs.map keyC=b.Copies.map keyC) (W Co : Int) :
    lpN (r6_3 ((k : Nat) : Int) (vOf b) A.Service 0 true b.Services b.Berths s.Name s.Gone s.Image W s.Down s.Over s.Per s.Least s.Most s.Load Co fuel) fuel (0,cs,s.Next)=finD b k cs:=by
  have hl:=key_len h
  have q:=F.h2
  exact spec_drop A.Service F.hk F.h1 (by omega) F.h3
theorem impl_finM (F : Facts b A s k) (h : cs.map keyC=b.Copies.map keyC) (hD : A.Drop=false) (W Co : Int) {N0 : Int} {S0 : List VStewService} {C0 : List VStewCopy} {B0 : List VStewBerth} :
    lpN (r9_9 (b.Services.set k (⟨s.Name,vOf b,s.Gone,s.Image,W,s.Down,s.Over,s.Next,s.Per,s.Least,s.Most,s.Load,Co⟩ : VStewService)) k (vOf b) cs b.Berths A.Service A.Seen A.Create A.Want A.Cool A.Scale A.Ends A.Drop N0 S0 C0 B0 fuel) fuel 0=finM b A s k cs W Co:=by
  have hl:=key_len h
  have q:=F.h2
  have c0:=F.c0
  have c1:=F.c1
  obtain ⟨M,hM⟩ : ∃ M : Nat,A.Create=(M : Int):=⟨A.Create.toNat,by omega⟩
  unfold finM
  rw [nxt_zero]
  have:=impl_make (ss:=b.Services.set k (nxt s (vOf b) W Co 0)) (cs:=cs) (bs:=b.Berths) (s:=s) (k:=k) (M:=M) (v:=vOf b) (W:=W) (Co:=Co) (N0:=N0) (S0:=S0) (C0:=C0) (B0:=B0) (A:=A) hM hD (by simpa using F.hk) (by simp) (by omega) (by omega) F.nx0 F.nx1
  rw [this,hM,Int.toNat_natCast,List.set_set]
theorem impl_finD (F : Facts b A s k) (h : cs.map keyC=b.Copies.map keyC) (hD : A.Drop=true) (W Co : Int) {N0 : Int} {S0 : List VStewService} {C0 : List VStewCopy} {B0 : List VStewBerth} :
    lpN (r9_9 (b.Services.set k (⟨s.Name,vOf b,s.Gone,s.Image,W,s.Down,s.Over,s.Next,s.Per,s.Least,s.Most,s.Load,Co⟩ : VStewService)) k (vOf b) cs b.Berths A.Service A.Seen A.Create A.Want A.Cool A.Scale A.Ends A.Drop N0 S0 C0 B0 fuel) fuel 0=finD b k cs:=by
  have hl:=key_len h
  have q:=F.h2
  have:=impl_drop (ss:=b.Services.set k (⟨s.Name,vOf b,s.Gone,s.Image,W,s.Down,s.Over,s.Next,s.Per,s.Least,s.Most,s.Load,Co⟩ : VStewService)) (cs:=cs) (bs:=b.Berths) (k:=k) (v:=vOf b) (N0:=N0) (S0:=S0) (C0:=C0) (B0:=B0) (A:=A) (F.drop hD).1 hD (by simpa using F.hk) (by simpa using F.h1) (by omega) (fun j hj=>by
    have hj' : j<b.Services.length:=by simpa using hj
    by_cases e : j=k
    · subst e; simp [F.name]
    · have e' : ¬ k=j:=fun x=>e x.symm
      simp only [List.getElem_set,e',if_false]
      have:=F.uni j _ (List.getElem?_eq_getElem hj')
      exact this)
  rw [this]
  unfold finD
  have t1 : ∀ t : VStewService,(b.Services.set k t).take k=b.Services.take k:=fun t=>by rw [List.take_set]; exact List.set_eq_of_length_le (by simp; omega)
  have t2 : ∀ t : VStewService,(b.Services.set k t).drop (k+1)=b.Services.drop (k+1):=fun t=>by rw [List.drop_set]; simp
  rw [t1,t2]

/-! ### The ends -/
def f7 (b : VStewBook) (A : VStewAct) (s : VStewService) (y : Option (VStewBook×Int)) : Option (VStewBook×Int) :=
  cond (decide (IntKind.i64.wrap ((b.Copies.length : Int)+A.Create)>200)) (some (b,7)) (cond (decide (IntKind.i64.wrap (s.Next+A.Create)>1000000)) (some (b,7)) (cond (decide (b.Now≥1000000)) (some (b,7)) y))
def fS (b : VStewBook) (A : VStewAct) (s : VStewService) (y : Option (VStewBook×Int)) : Option (VStewBook×Int) :=
  cond (s.Per == 0) (some (b,6)) (cond (!inB A.Want s.Least s.Most) (some (b,6)) y)
def fC (b : VStewBook) (A : VStewAct) (s : VStewService) (cs : List VStewCopy) (W : Int) (y : Option (VStewBook×Int)) : Option (VStewBook×Int) :=
  cond (decide (A.Create>0)) (cond s.Gone (some (b,6)) (cond (decide (IntKind.i64.wrap ((ctB s.Name s.Image cs).Live+A.Create)>IntKind.i64.wrap (W+s.Over))) (some (b,6)) y)) y
def fD (b : VStewBook) (s : VStewService) (cs : List VStewCopy) (y : Option (VStewBook×Int)) : Option (VStewBook×Int) :=
  cond (!s.Gone) (some (b,6)) (cond (decide (IntKind.i64.wrap ((ctB s.Name s.Image cs).Live+(ctB s.Name s.Image cs).Ending)>0)) (some (b,6)) y)
def tlA (b : VStewBook) (A : VStewAct) (s : VStewService) (k : Nat) (cs : List VStewCopy) : Option (VStewBook×Int) :=
  cond A.Drop (fD b s cs (f7 b A s (finD b k cs))) (cond A.Scale (fC b A s cs A.Want (fS b A s (f7 b A s (finM b A s k cs A.Want A.Cool)))) (fC b A s cs s.Want (f7 b A s (finM b A s k cs s.Want s.Cool))))
theorem fCS {W : Int} (y : Option (VStewBook×Int)) : fS b A s (fC b A s cs W y)=fC b A s cs W (fS b A s y):=by
  unfold fS fC
  cases (s.Per == 0) <;> cases inB A.Want s.Least s.Most <;> cases decide (A.Create>0) <;> cases s.Gone <;> cases decide (IntKind.i64.wrap ((ctB s.Name s.Image cs).Live+A.Create)>IntKind.i64.wrap (W+s.Over)) <;> rfl
theorem spec_end (F : Facts b A s k) (h : cs.map keyC=b.Copies.map keyC) (hd : A.Ends=[]→cs=b.Copies) (n : Nat) (i : Int) (hi : ¬ i<(A.Ends.length : Int)) (rec : A6_2→Option (VStewBook×Int))
    (hM : ∀ W Co,lpN (r6_3 ((k : Nat) : Int) (vOf b) A.Service A.Create false b.Services b.Berths s.Name s.Gone s.Image W s.Down s.Over s.Per s.Least s.Most s.Load Co n) n (0,cs,s.Next)=finM b A s k cs W Co)
    (hDr : ∀ W Co,lpN (r6_3 ((k : Nat) : Int) (vOf b) A.Service 0 true b.Services b.Berths s.Name s.Gone s.Image W s.Down s.Over s.Per s.Least s.Most s.Load Co n) n (0,cs,s.Next)=finD b k cs) :
    r6_2 ((k : Nat) : Int) (vOf b) b.Now b.Services b.Copies b.Berths A.Service A.Create A.Want A.Cool A.Scale A.Ends A.Drop b.Now b.Services b.Berths n rec (i,cs)=tlA b A s k cs:=by
  have hl:=key_len h
  have q:=F.h2
  have e21 : G21 (⟨b.Now,b.Services,b.Copies,b.Berths⟩ : VStewBook)=some b:=g21 (b:=b) F.h1 (by have:=F.h2; omega) F.h3
  have e52 : G52 (⟨b.Now,b.Services,b.Copies,b.Berths⟩ : VStewBook) A.Service=some (ctB s.Name s.Image b.Copies):=by
    have:=g52 (b:=b) (n:=A.Service) F.h1 (by omega) F.hk F.pos
    rw [F.gs,← F.name] at this
    rw [← F.name]; exact this
  have e52c : G52 (⟨b.Now,b.Services,cs,b.Berths⟩ : VStewBook) A.Service=some (ctB s.Name s.Image cs):=by
    have:=g52 (b:=⟨b.Now,b.Services,cs,b.Berths⟩) (n:=A.Service) F.h1 (by show cs.length≤_; omega) F.hk F.pos
    rw [← F.name]
    rw [show (VStewBook.Services ⟨b.Now,b.Services,cs,b.Berths⟩)[k]'F.hk=s from F.gs,← F.name] at this
    exact this
  have q1 : ((k : Nat) : Int)<(b.Services.length : Int):=by have:=F.hk; omega
  unfold tlA
  cases hD : A.Drop with
  | true =>
    obtain ⟨hC,hS,hE⟩:=F.drop hD
    have hcs:=hd hE
    have z : ¬ (0 : Int)>0:=by omega
    clear e52c
    subst hcs
    simp only [r6_2,hi,decide_false,cond_false,cond_true,Int.natCast_nonneg,q1,decide_true,Int.toNat_natCast,F.hs,Option.bind_some,hC,hS,z,e52,e21,hDr,fD,f7]
  | false =>
    cases hS : A.Scale with
    | true=>simp only [r6_2,hi,decide_false,cond_false,cond_true,Int.natCast_nonneg,q1,decide_true,Int.toNat_natCast,F.hs,Option.bind_some,e52,e52c,e21,hM,g43,fC,fS,f7]
    | false=>simp only [r6_2,hi,decide_false,cond_false,cond_true,Int.natCast_nonneg,q1,decide_true,Int.toNat_natCast,F.hs,Option.bind_some,e52,e52c,e21,hM,g43,fC,fS,f7]
theorem impl_end (F : Facts b A s k) (h : cs.map keyC=b.Copies.map keyC) (n : Nat) (i : Int) (hi : ¬ i<(A.Ends.length : Int)) (rec : A9_7→Option (VStewBook×Int))
    (hM : A.Drop=false → ∀ W Co,lpN (r9_9 (b.Services.set k (⟨s.Name,vOf b,s.Gone,s.Image,W,s.Down,s.Over,s.Next,s.Per,s.Least,s.Most,s.Load,Co⟩ : VStewService)) k (vOf b) cs b.Berths A.Service A.Seen A.Create A.Want A.Cool A.Scale A.Ends A.Drop b.Now b.Services b.Copies b.Berths n) n 0=finM b A s k cs W Co)
    (hDr : A.Drop=true → ∀ W Co,lpN (r9_9 (b.Services.set k (⟨s.Name,vOf b,s.Gone,s.Image,W,s.Down,s.Over,s.Next,s.Per,s.Least,s.Most,s.Load,Co⟩ : VStewService)) k (vOf b) cs b.Berths A.Service A.Seen A.Create A.Want A.Cool A.Scale A.Ends A.Drop b.Now b.Services b.Copies b.Berths n) n 0=finD b k cs) :
    r9_7 b.Services k A.Ends (A.Ends.length : Int) b.Now b.Berths A.Service A.Seen A.Create A.Want A.Cool A.Scale A.Ends A.Drop b.Now b.Services b.Copies b.Berths n rec (i,cs)=tlA b A s k cs:=by
  have hl:=key_len h
  have q:=F.h2
  have e27 : G27 (⟨b.Now,b.Services,b.Copies,b.Berths⟩ : VStewBook)=some b:=g27 (b:=b) F.h1 (by have:=F.h2; omega) F.h3
  have e65 : G65 (⟨b.Now,b.Services,cs,b.Berths⟩ : VStewBook) s=some (ctB s.Name s.Image cs):=g65 (by show cs.length≤_; omega)
  have gset : ∀ t : VStewService,(b.Services.set k t)[k]? = some t:=fun t=>by simp [F.hk]
  have n6 : ((6 : Nat) != 0)=true:=rfl
  have n7 : ((7 : Nat) != 0)=true:=rfl
  have nv : IntKind.i64.wrap (b.Now+1)=vOf b:=rfl
  have nw : (b.Now == 1000000)=decide (b.Now≥1000000):=by
    have:=F.n1
    by_cases e : b.Now=1000000
    · simp [e]
    · have : ¬ b.Now≥1000000:=by omega
      simp [e,this]
  unfold tlA
  cases hD : A.Drop with
  | true =>
    obtain ⟨hC,hS,hE⟩:=F.drop hD
    have z : ¬ (0 : Int)>0:=by omega
    have hDr' := hDr hD
    rw [hD,hC,hS] at hDr'
    simp only [r9_7,hi,decide_false,cond_false,cond_true,F.hs,Option.bind_some,hC,hS,z,e65,e27,fD,f7,n6,n7,nv,nw,hl,hDr',gset,List.set_set]
  | false =>
    have hM' := hM hD
    rw [hD] at hM'
    cases hS : A.Scale with
    | true =>
      rw [hS] at hM'
      rw [← fCS]
      simp only [r9_7,hi,decide_false,cond_false,cond_true,F.hs,Option.bind_some,e65,e27,fC,fS,f7,n6,n7,nv,nw,hl,hM',gset,List.set_set,g57,alt_self]
    | false =>
      rw [hS] at hM'
      simp only [r9_7,hi,decide_false,cond_false,cond_true,F.hs,Option.bind_some,e65,e27,fC,fS,f7,n6,n7,nv,nw,hl,hM',gset,List.set_set,g57,alt_self]
theorem spec_tail (F : Facts b A s k) (h : cs.map keyC=b.Copies.map keyC) (hd : A.Ends=[]→cs=b.Copies) (i : Int) (hi : ¬ i<(A.Ends.length : Int)) (rec : A6_2→Option (VStewBook×Int)) :
    r6_2 ((k : Nat) : Int) (vOf b) b.Now b.Services b.Copies b.Berths A.Service A.Create A.Want A.Cool A.Scale A.Ends A.Drop b.Now b.Services b.Berths fuel rec (i,cs)=tlA b A s k cs :=
  spec_end F h hd fuel i hi rec (fun W Co=>spec_finM F h W Co) (fun W Co=>spec_finD F h W Co)
theorem impl_tail (F : Facts b A s k) (h : cs.map keyC=b.Copies.map keyC) (i : Int) (hi : ¬ i<(A.Ends.length : Int)) (rec : A9_7→Option (VStewBook×Int)) :
    r9_7 b.Services k A.Ends (A.Ends.length : Int) b.Now b.Berths A.Service A.Seen A.Create A.Want A.Cool A.Scale A.Ends A.Drop b.Now b.Services b.Copies b.Berths fuel rec (i,cs)=tlA b A s k cs :=
  impl_end F h fuel i hi rec (fun hD W Co=>impl_finM F h hD W Co) (fun hD W Co=>impl_finD F h hD W Co)
end
end Go.Proofs.Ytakakoogpmhhkaa.Ab

/- The plain law of StewApply: the loops agree. -/
set_option linter.unusedVariables false
set_option linter.unusedSimpArgs false
set_option maxRecDepth 10000
namespace Go.Proofs.Ytakakoogpmhhkaa.Ab
open Go Go.RowKit

section
variable {b : VStewBook} {A : VStewAct} {s : VStewService} {k : Nat} {cs : List VStewCopy}
/-- A copy may end. -/
def meB (s : VStewService) (cs : List VStewCopy) (c : VStewCopy) : Bool:=cond c.Ending false (cond (c.State != 3) true (cond s.Gone true (decide (IntKind.i64.wrap ((ctB s.Name s.Image cs).Ready - 1)≥IntKind.i64.wrap (s.Want - s.Down)))))
def endC (v : Int) (cs : List VStewCopy) (j : Nat) (c : VStewCopy) : List VStewCopy:=cs.set j (⟨c.Service,c.Number,v,c.Image,c.State,true,c.Berth⟩ : VStewCopy)
def rndE (b : VStewBook) (s : VStewService) (cs : List VStewCopy) (go : List VStewCopy→Option (VStewBook×Int)) (j : Nat) : Option (VStewBook×Int):=match cs[j]? with
  | some c=>cond (meB s cs c) (go (endC (vOf b) cs j c)) (some (b,5))
  | none=>none
def rndAt (b : VStewBook) (s : VStewService) (cs : List VStewCopy) (p : Int) (go : List VStewCopy→Option (VStewBook×Int)) : Option (VStewBook×Int):=cond (decide (p<0)) (some (b,5)) (rndE b s cs go p.toNat)
theorem g51 (F : Facts b A s k) (h : cs.map keyC=b.Copies.map keyC) (m : Int) : G51 (⟨b.Now,b.Services,cs,b.Berths⟩ : VStewBook) A.Service m=some (match cs[(posL (cpP A.Service m) cs 0).toNat]? with
  | some c => !decide (posL (cpP A.Service m) cs 0<0)&&meB s cs c
  | none=>false):=by
  have hl:=key_len h
  have q:=F.h2
  have q1 : ((k : Nat) : Int)<(b.Services.length : Int):=by have:=F.hk; omega
  have e50:=g50 (b:=⟨b.Now,b.Services,cs,b.Berths⟩) (n:=A.Service) (k:=m) (by show cs.length≤_; omega)
  have e52c : G52 (⟨b.Now,b.Services,cs,b.Berths⟩ : VStewBook) A.Service=some (ctB s.Name s.Image cs):=by
    have:=g52 (b:=⟨b.Now,b.Services,cs,b.Berths⟩) (n:=A.Service) F.h1 (by show cs.length≤_; omega) F.hk F.pos
    rw [← F.name]
    rw [show (VStewBook.Services ⟨b.Now,b.Services,cs,b.Berths⟩)[k]'F.hk=s from F.gs,← F.name] at this
    exact this
  have e49:=g49 (b:=⟨b.Now,b.Services,cs,b.Berths⟩) (n:=A.Service) F.h1
  have hp : posL (svP A.Service) (VStewBook.Services ⟨b.Now,b.Services,cs,b.Berths⟩) 0=(k : Int):=F.pos
  rw [hp] at e49
  unfold G51 G51n
  rw [e50]
  rcases posL_cases (cpP A.Service m) cs with ⟨e,_⟩ | ⟨j,hj,e,_⟩
  · simp only [e]
    cases cs[(-1 : Int).toNat]? <;> rfl
  · have b1 : ¬ ((j : Nat) : Int)<0:=by omega
    simp only [e,b1,Option.bind_some,decide_false,cond_false,Int.natCast_nonneg,decide_true,cond_true,Int.toNat_natCast,List.getElem?_eq_getElem hj,e49,F.hs,e52c,meB,Bool.not_false,Bool.true_and]
    cases cs[j].Ending <;> (try rfl)
    cases (cs[j].State != 3) <;> (try rfl)
    cases s.Gone <;> rfl
theorem spec_rnd (F : Facts b A s k) (h : cs.map keyC=b.Copies.map keyC) (n i : Nat) (hi : i<A.Ends.length) (rec : A6_2→Option (VStewBook×Int)) :
    r6_2 ((k : Nat) : Int) (vOf b) b.Now b.Services b.Copies b.Berths A.Service A.Create A.Want A.Cool A.Scale A.Ends A.Drop b.Now b.Services b.Berths n rec (((i : Nat) : Int),cs) =
      rndAt b s cs (posL (cpP A.Service A.Ends[i].Number) cs 0) fun x=>rec (((i+1 : Nat) : Int),x):=by
  have hl:=key_len h
  have q:=F.h2
  have he:=F.he
  have q1 : (i : Int)<(A.Ends.length : Int):=by omega
  have e21 : G21 (⟨b.Now,b.Services,b.Copies,b.Berths⟩ : VStewBook)=some b:=g21 (b:=b) F.h1 (by have:=F.h2; omega) F.h3
  have e50:=fun m=>g50 (b:=⟨b.Now,b.Services,cs,b.Berths⟩) (n:=A.Service) (k:=m) (by show cs.length≤_; omega)
  simp only [r6_2,q1,decide_true,cond_true,Int.natCast_nonneg,get_cast hi,Option.bind_some,g51 F h,e21,e50,wrap_nat (show i<4611686018427387904 by omega)]
  unfold rndAt rndE
  rcases posL_cases (cpP A.Service A.Ends[i].Number) cs with ⟨e,_⟩ | ⟨j,hj,e,_⟩
  · simp only [e]
    cases cs[(-1 : Int).toNat]? <;> rfl
  · have b1 : ¬ ((j : Nat) : Int)<0:=by omega
    have b2 : ((j : Nat) : Int)<(cs.length : Int):=by omega
    have gset : ∀ t : VStewCopy,(cs.set j t)[j]? = some t:=fun t=>by simp [hj]
    simp only [e,b1,b2,Option.bind_some,decide_false,cond_false,Int.natCast_nonneg,decide_true,cond_true,Int.toNat_natCast,List.getElem?_eq_getElem hj,Bool.not_false,Bool.true_and,List.length_set,gset,List.set_set,endC]
    cases meB s cs cs[j] <;> rfl
theorem impl_rnd (F : Facts b A s k) (h : cs.map keyC=b.Copies.map keyC) (n i : Nat) (hi : i<A.Ends.length) (rec : A9_7→Option (VStewBook×Int))
    (hin : ∀ m rec7,lpN (r9_8 A.Service m (cs.length : Int) b.Services k ((i : Nat) : Int) b.Now cs b.Berths b.Now b.Services b.Copies b.Berths n rec7) n 0=rndAt b s cs (posL (cpP A.Service m) cs 0) fun x=>rec7 (((i+1 : Nat) : Int),x)) :
    r9_7 b.Services k A.Ends (A.Ends.length : Int) b.Now b.Berths A.Service A.Seen A.Create A.Want A.Cool A.Scale A.Ends A.Drop b.Now b.Services b.Copies b.Berths n rec (((i : Nat) : Int),cs) =
      rndAt b s cs (posL (cpP A.Service A.Ends[i].Number) cs 0) fun x=>rec (((i+1 : Nat) : Int),x):=by
  have q1 : (i : Int)<(A.Ends.length : Int):=by omega
  simp only [r9_7,q1,decide_true,cond_true,Int.natCast_nonneg,get_cast hi,Option.bind_some,hin]
theorem lp9_8 (F : Facts b A s k) (h : cs.map keyC=b.Copies.map keyC) (n i : Nat) (hi : i<A.Ends.length) (m : Int) (rec7 : A9_7→Option (VStewBook×Int)) :
    lpN (r9_8 A.Service m (cs.length : Int) b.Services k ((i : Nat) : Int) b.Now cs b.Berths b.Now b.Services b.Copies b.Berths n rec7) fuel 0=rndAt b s cs (posL (cpP A.Service m) cs 0) fun x=>rec7 (((i+1 : Nat) : Int),x):=by
  have hl:=key_len h
  have q:=F.h2
  have he:=F.he
  have e27 : G27 (⟨b.Now,b.Services,b.Copies,b.Berths⟩ : VStewBook)=some b:=g27 (b:=b) F.h1 (by have:=F.h2; omega) F.h3
  have e65 : G65 (⟨b.Now,b.Services,cs,b.Berths⟩ : VStewBook) s=some (ctB s.Name s.Image cs):=g65 (by show cs.length≤_; omega)
  have n5 : ((5 : Nat) != 0)=true:=rfl
  have nv : IntKind.i64.wrap (b.Now+1)=vOf b:=rfl
  refine pos_lp (p:=cpP A.Service m) (xs:=cs) (st:=fun j=>((j : Nat) : Int)) (by omega) (fun j=>rndE b s cs (fun x=>rec7 (((i+1 : Nat) : Int),x)) j) (some (b,5)) (fun rec => ?_) (fun rec j hj => ?_)
  · simp only [r9_8,Int.lt_irrefl,decide_false,cond_false,n5,cond_true,e27,Option.bind_some]
  · have b2 : ((j : Nat) : Int)<(cs.length : Int):=by omega
    have gset : ∀ t : VStewCopy,(cs.set j t)[j]? = some t:=fun t=>by simp [hj]
    simp only [r9_8,b2,decide_true,cond_true,Int.natCast_nonneg,get_cast hj,Int.toNat_natCast,Option.bind_some,n5,e27,e65,F.hs,gset,List.set_set,nv,wrap_nat (show i<4611686018427387904 by omega),wrap_nat (show j<4611686018427387904 by omega),cpP,rndE,List.getElem?_eq_getElem hj,meB,endC]
    cases decide (cs[j].Service=A.Service) <;> (try rfl)
    cases (cs[j].Number == m) <;> (try rfl)
    cases cs[j].Ending <;> (try rfl)
    cases (cs[j].State != 3) <;> (try rfl)
    cases s.Gone <;> (try rfl)
    cases decide (IntKind.i64.wrap ((ctB s.Name s.Image cs).Ready - 1)≥IntKind.i64.wrap (s.Want - s.Down)) <;> rfl
theorem end_key {v : Int} {j : Nat} {c : VStewCopy} (hc : cs[j]? = some c) : (endC v cs j c).map keyC=cs.map keyC:=by
  unfold endC
  rw [List.map_set]
  apply List.ext_getElem?
  intro i
  rw [List.getElem?_set]
  by_cases e : j=i
  · subst e
    simp only [if_true,List.length_map,List.getElem?_map,hc,Option.map_some]
    have : j<cs.length:=(List.getElem?_eq_some_iff.1 hc).1
    simp [this,keyC]
  · simp [e]
theorem rndAt_congr {p : Int} {f g : List VStewCopy→Option (VStewBook×Int)} (h : cs.map keyC=b.Copies.map keyC) (hfg : ∀ x : List VStewCopy,x.map keyC=b.Copies.map keyC→f x=g x) : rndAt b s cs p f=rndAt b s cs p g:=by
  unfold rndAt rndE
  cases hc : cs[p.toNat]? with
  | none=>rfl
  | some c =>
    have:=hfg (endC (vOf b) cs p.toNat c) (by rw [end_key hc,h])
    simp only [this]
theorem loop2 (F : Facts b A s k) :
    lpN (r6_2 ((k : Nat) : Int) (vOf b) b.Now b.Services b.Copies b.Berths A.Service A.Create A.Want A.Cool A.Scale A.Ends A.Drop b.Now b.Services b.Berths fuel) fuel (0,b.Copies) =
      lpN (r9_7 b.Services k A.Ends (A.Ends.length : Int) b.Now b.Berths A.Service A.Seen A.Create A.Want A.Cool A.Scale A.Ends A.Drop b.Now b.Services b.Copies b.Berths fuel) fuel (0,b.Copies):=by
  refine lp_congr (fun x : Int×List VStewCopy => ∃ i : Nat,x.1=(i : Int)∧x.2.map keyC=b.Copies.map keyC∧(A.Ends=[]→x.2=b.Copies)) (fun r r' hr x hx => ?_) fuel (0,b.Copies) ⟨0,rfl,rfl,fun _=>rfl⟩
  obtain ⟨i0,cs⟩:=x
  obtain ⟨i,hi,hk,hd⟩:=hx
  simp only at hi hk hd
  subst hi
  rcases Nat.lt_or_ge i A.Ends.length with h | h
  · rw [spec_rnd F hk fuel i h r,impl_rnd F hk fuel i h r' (fun m rec7=>lp9_8 F hk fuel i h m rec7)]
    exact rndAt_congr hk fun x hx=>hr _ ⟨i+1,rfl,hx,fun e=>by rw [e] at h; simp at h⟩
  · have : ¬ ((i : Nat) : Int)<(A.Ends.length : Int):=by omega
    rw [spec_tail F hk hd _ this r,impl_tail F hk _ this r']

/-! ### What was seen -/
def rndS (b : VStewBook) (p x : Int) (go : Option (VStewBook×Int)) : Option (VStewBook×Int):=cond (decide (p<0)) none (match b.Copies[p.toNat]? with
  | some c=>cond (c.Version != x) (some (b,4)) go
  | none=>none)
theorem spec_rnd1 (F : Facts b A s k) (n i : Nat) (hi : i<A.Ends.length) (rec : A6_1→Option (VStewBook×Int)) :
    r6_1 ((k : Nat) : Int) b.Now b.Services b.Copies b.Berths A.Service A.Create A.Want A.Cool A.Scale A.Ends A.Drop n rec ((i : Nat) : Int) =
      rndS b (posL (cpP A.Service A.Ends[i].Number) b.Copies 0) A.Ends[i].Seen (rec ((i+1 : Nat) : Int)):=by
  have q:=F.h2
  have he:=F.he
  have q1 : (i : Int)<(A.Ends.length : Int):=by omega
  have e21 : G21 (⟨b.Now,b.Services,b.Copies,b.Berths⟩ : VStewBook)=some b:=g21 (b:=b) F.h1 (by have:=F.h2; omega) F.h3
  have e50 : ∀ m,G50 (⟨b.Now,b.Services,b.Copies,b.Berths⟩ : VStewBook) A.Service m=some (posL (cpP A.Service m) b.Copies 0):=fun m=>g50 (b:=b) (by omega)
  simp only [r6_1,q1,decide_true,cond_true,Int.natCast_nonneg,get_cast hi,Option.bind_some,e21,e50,wrap_nat (show i<4611686018427387904 by omega)]
  unfold rndS
  rcases posL_cases (cpP A.Service A.Ends[i].Number) b.Copies with ⟨e,_⟩ | ⟨j,hj,e,_⟩
  · simp only [e]
    rfl
  · have b1 : ¬ ((j : Nat) : Int)<0:=by omega
    simp only [e,b1,Option.bind_some,decide_false,cond_false,Int.natCast_nonneg,decide_true,cond_true,Int.toNat_natCast,List.getElem?_eq_getElem hj]
theorem lp9_4 (F : Facts b A s k) (n i : Nat) (hi : i<A.Ends.length) (m x : Int) (rec : A9_3→Option (VStewBook×Int)) :
    lpN (r9_4 A.Service m (b.Copies.length : Int) b.Services ((i : Nat) : Int) x b.Now b.Copies b.Berths b.Now b.Services b.Copies b.Berths n rec) fuel 0=rndS b (posL (cpP A.Service m) b.Copies 0) x (rec ((i+1 : Nat) : Int)):=by
  have q:=F.h2
  have he:=F.he
  have e27 : G27 (⟨b.Now,b.Services,b.Copies,b.Berths⟩ : VStewBook)=some b:=g27 (b:=b) F.h1 (by have:=F.h2; omega) F.h3
  have n4 : ((4 : Nat) != 0)=true:=rfl
  refine pos_lp (p:=cpP A.Service m) (xs:=b.Copies) (st:=fun j=>((j : Nat) : Int)) (by omega) (fun j=>match b.Copies[j]? with
    | some c=>cond (c.Version != x) (some (b,4)) (rec ((i+1 : Nat) : Int))
    | none=>none) none (fun rec => ?_) (fun rec j hj => ?_)
  · simp only [r9_4,Int.lt_irrefl,decide_false,cond_false]
  · have b2 : ((j : Nat) : Int)<(b.Copies.length : Int):=by omega
    simp only [r9_4,b2,decide_true,cond_true,Int.natCast_nonneg,get_cast hj,Option.bind_some,n4,e27,wrap_nat (show i<4611686018427387904 by omega),wrap_nat (show j<4611686018427387904 by omega),cpP,List.getElem?_eq_getElem hj]
    cases decide (b.Copies[j].Service=A.Service) <;> (try rfl)
theorem r9_5_eq (x0 : ByteArray) (x1 x2 : Int) (x4 : List (C .e79)) (x8 x11 : Int) (x12 : List (C .e83)) (x13 : List (C .e81)) (x23 x24 : Int) (x25 : List (C .e79)) (x26 : List (C .e83)) (x27 : List (C .e81)) (n : Nat) (rec3 : A9_3→Option (VStewBook×Int)) :
    r9_5 x0 x1 x2 x4 x8 x11 x12 x13 x23 x24 x25 x26 x27 n rec3=r9_4 x0 x1 x2 x4 x8 x23 x11 x12 x13 x24 x25 x26 x27 n rec3:=rfl
theorem r9_6_eq (x0 : ByteArray) (x1 x2 : Int) (x4 : List (C .e79)) (x8 x11 : Int) (x12 : List (C .e83)) (x13 : List (C .e81)) (x23 x24 : Int) (x25 : List (C .e79)) (x26 : List (C .e83)) (x27 : List (C .e81)) (n : Nat) (rec3 : A9_3→Option (VStewBook×Int)) :
    r9_6 x0 x1 x2 x4 x8 x11 x12 x13 x23 x24 x25 x26 x27 n rec3=r9_4 x0 x1 x2 x4 x8 x23 x11 x12 x13 x24 x25 x26 x27 n rec3:=rfl
theorem impl_rnd1 (n i : Nat) (hi : i<A.Ends.length) (rec : A9_3→Option (VStewBook×Int))
    (hin : ∀ m x rec3,lpN (r9_4 A.Service m (b.Copies.length : Int) b.Services ((i : Nat) : Int) x b.Now b.Copies b.Berths b.Now b.Services b.Copies b.Berths n rec3) n 0=rndS b (posL (cpP A.Service m) b.Copies 0) x (rec3 ((i+1 : Nat) : Int))) :
    r9_3 b.Services k A.Ends (A.Ends.length : Int) b.Now b.Copies b.Berths A.Service A.Seen A.Create A.Want A.Cool A.Scale A.Ends A.Drop b.Now b.Services b.Copies b.Berths n rec ((i : Nat) : Int) =
      rndS b (posL (cpP A.Service A.Ends[i].Number) b.Copies 0) A.Ends[i].Seen (rec ((i+1 : Nat) : Int)):=by
  have q1 : (i : Int)<(A.Ends.length : Int):=by omega
  simp only [r9_3,r9_5_eq,r9_6_eq,q1,decide_true,cond_true,Int.natCast_nonneg,get_cast hi,Option.bind_some,hin,alt_self]
theorem loop1_end (F : Facts b A s k) (n : Nat) (i : Int) (hi : ¬ i<(A.Ends.length : Int)) (r : A6_1→Option (VStewBook×Int)) (r' : A9_3→Option (VStewBook×Int))
    (hin : lpN (r6_2 ((k : Nat) : Int) (vOf b) b.Now b.Services b.Copies b.Berths A.Service A.Create A.Want A.Cool A.Scale A.Ends A.Drop b.Now b.Services b.Berths n) n (0,b.Copies) =
      lpN (r9_7 b.Services k A.Ends (A.Ends.length : Int) b.Now b.Berths A.Service A.Seen A.Create A.Want A.Cool A.Scale A.Ends A.Drop b.Now b.Services b.Copies b.Berths n) n (0,b.Copies)) :
    r6_1 ((k : Nat) : Int) b.Now b.Services b.Copies b.Berths A.Service A.Create A.Want A.Cool A.Scale A.Ends A.Drop n r i =
      r9_3 b.Services k A.Ends (A.Ends.length : Int) b.Now b.Copies b.Berths A.Service A.Seen A.Create A.Want A.Cool A.Scale A.Ends A.Drop b.Now b.Services b.Copies b.Berths n r' i:=by
  have q:=F.h2
  have e21 : G21 (⟨b.Now,b.Services,b.Copies,b.Berths⟩ : VStewBook)=some b:=g21 (b:=b) F.h1 (by have:=F.h2; omega) F.h3
  have nv : IntKind.i64.wrap (b.Now+1)=vOf b:=rfl
  simp only [r6_1,r9_3,hi,decide_false,cond_false,e21,Option.bind_some,nv,hin]
theorem loop1 (F : Facts b A s k) :
    lpN (r6_1 ((k : Nat) : Int) b.Now b.Services b.Copies b.Berths A.Service A.Create A.Want A.Cool A.Scale A.Ends A.Drop fuel) fuel 0 =
      lpN (r9_3 b.Services k A.Ends (A.Ends.length : Int) b.Now b.Copies b.Berths A.Service A.Seen A.Create A.Want A.Cool A.Scale A.Ends A.Drop b.Now b.Services b.Copies b.Berths fuel) fuel 0:=by
  refine lp_congr (fun x : Int => ∃ i : Nat,x=(i : Int)) (fun r r' hr x hx => ?_) fuel 0 ⟨0,rfl⟩
  obtain ⟨i,hi⟩:=hx
  subst hi
  rcases Nat.lt_or_ge i A.Ends.length with h | h
  · rw [spec_rnd1 F fuel i h r,impl_rnd1 fuel i h r' (fun m x rec3=>lp9_4 F fuel i h m x rec3),hr _ ⟨i+1,rfl⟩]
  · exact loop1_end F fuel _ (by omega) r r' (loop2 F)

/-! ### The copies that are named -/
def rndN (b : VStewBook) (p : Int) (go : Option (VStewBook×Int)) : Option (VStewBook×Int):=cond (decide (p<0)) (some (b,3)) go
theorem spec_rnd0 (F : Facts b A s k) (n i : Nat) (hi : i<A.Ends.length) (rec : A6_0→Option (VStewBook×Int)) :
    r6_0 ((k : Nat) : Int) b.Now b.Services b.Copies b.Berths A.Service A.Seen A.Create A.Want A.Cool A.Scale A.Ends A.Drop n rec ((i : Nat) : Int) =
      rndN b (posL (cpP A.Service A.Ends[i].Number) b.Copies 0) (rec ((i+1 : Nat) : Int)):=by
  have q:=F.h2
  have he:=F.he
  have q1 : (i : Int)<(A.Ends.length : Int):=by omega
  have e21 : G21 (⟨b.Now,b.Services,b.Copies,b.Berths⟩ : VStewBook)=some b:=g21 (b:=b) F.h1 (by have:=F.h2; omega) F.h3
  have e50 : ∀ m,G50 (⟨b.Now,b.Services,b.Copies,b.Berths⟩ : VStewBook) A.Service m=some (posL (cpP A.Service m) b.Copies 0):=fun m=>g50 (b:=b) (by omega)
  simp only [r6_0,q1,decide_true,cond_true,Int.natCast_nonneg,get_cast hi,Option.bind_some,e21,e50,wrap_nat (show i<4611686018427387904 by omega),rndN]
theorem lp9_2 (F : Facts b A s k) (n i : Nat) (hi : i<A.Ends.length) (m : Int) (rec : A9_1→Option (VStewBook×Int)) :
    lpN (r9_2 A.Service m (b.Copies.length : Int) b.Services ((i : Nat) : Int) b.Now b.Copies b.Berths b.Now b.Services b.Copies b.Berths n rec) fuel 0=rndN b (posL (cpP A.Service m) b.Copies 0) (rec ((i+1 : Nat) : Int)):=by
  have q:=F.h2
  have he:=F.he
  have e27 : G27 (⟨b.Now,b.Services,b.Copies,b.Berths⟩ : VStewBook)=some b:=g27 (b:=b) F.h1 (by have:=F.h2; omega) F.h3
  have n3 : ((3 : Nat) != 0)=true:=rfl
  refine pos_lp (p:=cpP A.Service m) (xs:=b.Copies) (st:=fun j=>((j : Nat) : Int)) (by omega) (fun j=>rec ((i+1 : Nat) : Int)) (some (b,3)) (fun rec => ?_) (fun rec j hj => ?_)
  · simp only [r9_2,Int.lt_irrefl,decide_false,cond_false,n3,cond_true,e27,Option.bind_some]
  · have b2 : ((j : Nat) : Int)<(b.Copies.length : Int):=by omega
    simp only [r9_2,b2,decide_true,cond_true,Int.natCast_nonneg,get_cast hj,Option.bind_some,wrap_nat (show i<4611686018427387904 by omega),wrap_nat (show j<4611686018427387904 by omega),cpP]
    cases decide (b.Copies[j].Service=A.Service) <;> (try rfl)
theorem impl_rnd0 (n i : Nat) (hi : i<A.Ends.length) (rec : A9_1→Option (VStewBook×Int))
    (hin : ∀ m rec1,lpN (r9_2 A.Service m (b.Copies.length : Int) b.Services ((i : Nat) : Int) b.Now b.Copies b.Berths b.Now b.Services b.Copies b.Berths n rec1) n 0=rndN b (posL (cpP A.Service m) b.Copies 0) (rec1 ((i+1 : Nat) : Int))) :
    r9_1 b.Services k A.Ends (A.Ends.length : Int) b.Now b.Copies b.Berths A.Service A.Seen A.Create A.Want A.Cool A.Scale A.Ends A.Drop b.Now b.Services b.Copies b.Berths n rec ((i : Nat) : Int) =
      rndN b (posL (cpP A.Service A.Ends[i].Number) b.Copies 0) (rec ((i+1 : Nat) : Int)):=by
  have q1 : (i : Int)<(A.Ends.length : Int):=by omega
  simp only [r9_1,q1,decide_true,cond_true,Int.natCast_nonneg,get_cast hi,Option.bind_some,hin]
theorem loop0_end (F : Facts b A s k) (n : Nat) (i : Int) (hi : ¬ i<(A.Ends.length : Int)) (r : A6_0→Option (VStewBook×Int)) (r' : A9_1→Option (VStewBook×Int))
    (hin : lpN (r6_1 ((k : Nat) : Int) b.Now b.Services b.Copies b.Berths A.Service A.Create A.Want A.Cool A.Scale A.Ends A.Drop n) n 0 =
      lpN (r9_3 b.Services k A.Ends (A.Ends.length : Int) b.Now b.Copies b.Berths A.Service A.Seen A.Create A.Want A.Cool A.Scale A.Ends A.Drop b.Now b.Services b.Copies b.Berths n) n 0) :
    r6_0 ((k : Nat) : Int) b.Now b.Services b.Copies b.Berths A.Service A.Seen A.Create A.Want A.Cool A.Scale A.Ends A.Drop n r i =
      r9_1 b.Services k A.Ends (A.Ends.length : Int) b.Now b.Copies b.Berths A.Service A.Seen A.Create A.Want A.Cool A.Scale A.Ends A.Drop b.Now b.Services b.Copies b.Berths n r' i:=by
  have q:=F.h2
  have e21 : G21 (⟨b.Now,b.Services,b.Copies,b.Berths⟩ : VStewBook)=some b:=g21 (b:=b) F.h1 (by have:=F.h2; omega) F.h3
  have e27 : G27 (⟨b.Now,b.Services,b.Copies,b.Berths⟩ : VStewBook)=some b:=g27 (b:=b) F.h1 (by have:=F.h2; omega) F.h3
  have n4 : ((4 : Nat) != 0)=true:=rfl
  simp only [r6_0,r9_1,hi,decide_false,cond_false,Int.natCast_nonneg,decide_true,cond_true,Int.toNat_natCast,F.hs,e21,e27,n4,Option.bind_some,hin]
theorem loop0 (F : Facts b A s k) :
    lpN (r6_0 ((k : Nat) : Int) b.Now b.Services b.Copies b.Berths A.Service A.Seen A.Create A.Want A.Cool A.Scale A.Ends A.Drop fuel) fuel 0 =
      lpN (r9_1 b.Services k A.Ends (A.Ends.length : Int) b.Now b.Copies b.Berths A.Service A.Seen A.Create A.Want A.Cool A.Scale A.Ends A.Drop b.Now b.Services b.Copies b.Berths fuel) fuel 0:=by
  refine lp_congr (fun x : Int => ∃ i : Nat,x=(i : Int)) (fun r r' hr x hx => ?_) fuel 0 ⟨0,rfl⟩
  obtain ⟨i,hi⟩:=hx
  subst hi
  rcases Nat.lt_or_ge i A.Ends.length with h | h
  · rw [spec_rnd0 F fuel i h r,impl_rnd0 fuel i h r' (fun m rec1=>lp9_2 F fuel i h m rec1),hr _ ⟨i+1,rfl⟩]
  · exact loop0_end F fuel _ (by omega) r r' (loop1 F)
end
end Go.Proofs.Ytakakoogpmhhkaa.Ab

/- The plain law: what is marked is held; what is compared with itself is alike. Printed out of the types. -/
set_option linter.unusedVariables false
set_option linter.unusedSimpArgs false
set_option maxRecDepth 10000
namespace Go.Proofs.Ytakakoogpmhhkaa.Ab
open Go Go.RowKit

theorem fuel_big2 : 2305843009213693952≤fuel:=by unfold fuel; omega
theorem len_sum {α : Type} {w : α→Nat} (h : ∀ x,1≤w x) : ∀ xs : List α,xs.length≤(xs.map w).sum
  | []=>Nat.le_refl _
  | x::t=>by have:=len_sum h t; have:=h x; simp only [List.length_cons,List.map_cons,List.sum_cons]; omega
theorem sum_get {α : Type} {w : α→Nat} : ∀ {xs : List α} {i : Nat} (hi : i<xs.length),w xs[i]≤(xs.map w).sum
  | [],_,h=>by simp at h
  | x::t,0,_=>by simp
  | x::t,i+1,h=>by
    have:=sum_get (w:=w) (xs:=t) (i:=i) (by simpa using h)
    simp only [List.getElem_cons_succ,List.map_cons,List.sum_cons]; omega
theorem sum_drop {α : Type} {w : α→Nat} {xs : List α} {i : Nat} (hi : i<xs.length) : ((xs.drop i).map w).sum=w xs[i]+((xs.drop (i+1)).map w).sum:=by
  rw [List.drop_eq_getElem_cons hi,List.map_cons,List.sum_cons]
inductive HC {α : Type} (gm : α→Int→Int→Prop) (ys : List α) : Nat→Int→Int→Prop
  | done (k) : HC gm ys ys.length k k
  | step {i k k1 k'} (hi : i<ys.length) (h : gm ys[i] k k1) (h0 : 0≤k) (r : HC gm ys (i+1) k1 k') : HC gm ys i k k'
theorem held_lp {α : Type} {gm : α→Int→Int→Prop} {ys : List α} {rnd : (List α×Int×Int→Option Int)→List α×Int×Int→Option Int}
    (hend : ∀ rec k,rnd rec (ys,k,(ys.length : Int))=some k)
    (hstep : ∀ rec i (hi : i<ys.length) k k1,gm ys[i] k k1→0≤k→rnd rec (ys,k,(i : Int))=rec (ys,k1,((i+1 : Nat) : Int)))
    {i : Nat} {k k' : Int} (h : HC gm ys i k k') : ∀ n,ys.length - i<n→lpN rnd n (ys,k,(i : Int))=some k' := by
  induction h with
  | done k=>intro n hn; rw [lp_open (by omega)]; exact hend _ _
  | @step i k k1 k' hi hm h0 _ ih =>
    intro n hn
    rw [lp_open (by omega),hstep _ i hi k k1 hm h0]
    exact ih _ (by omega)
theorem mark_lp {α : Type} {w : α→Nat} {gm : α→Int→Int→Prop} {rnd : (List α×Int×Int→Option (List α×Int))→List α×Int×Int→Option (List α×Int)}
    (hend : ∀ rec (zs : List α) k,rnd rec (zs,k,(zs.length : Int))=some (zs,k))
    (hstep : ∀ (zs : List α) i (hi : i<zs.length) k,zs.length≤1152921504606846976→0≤k→k+(w zs[i] : Int)≤1152921504606846976 → ∃ y,(∀ rec,rnd rec (zs,k,(i : Int))=rec (zs.set i y,k+(w zs[i] : Int),((i+1 : Nat) : Int)))∧gm y k (k+(w zs[i] : Int))) :
    ∀ n i (zs : List α) k,zs.length≤1152921504606846976→i≤zs.length→zs.length - i<n→0≤k→k+((((zs.drop i).map w).sum : Nat) : Int)≤1152921504606846976 → ∃ ys,lpN rnd n (zs,k,(i : Int))=some (ys,k+((((zs.drop i).map w).sum : Nat) : Int))∧ys.length=zs.length∧(∀ j,j<i→ys[j]? = zs[j]?)∧HC gm ys i k (k+((((zs.drop i).map w).sum : Nat) : Int)):=by
  intro n
  induction n with
  | zero=>intro i zs k _ _ h; omega
  | succ n ih =>
    intro i zs k hl hi hn h0 hk
    rw [lp_succ]
    rcases Nat.lt_or_ge i zs.length with h | h
    · rw [sum_drop h] at hk ⊢
      obtain ⟨y,e,g⟩:=hstep zs i h k hl h0 (by omega)
      rw [e]
      have hd : (zs.set i y).drop (i+1)=zs.drop (i+1):=by rw [List.drop_set_of_lt (by omega)]
      obtain ⟨ys,e,e1,e2,e3⟩:=ih (i+1) (zs.set i y) (k+(w zs[i] : Int)) (by rw [List.length_set]; omega) (by rw [List.length_set]; omega) (by rw [List.length_set]; omega) (by omega) (by rw [hd]; omega)
      rw [hd] at e e3
      rw [List.length_set] at e1
      have ek : k+(w zs[i] : Int)+((((zs.drop (i+1)).map w).sum : Nat) : Int)=k+((w zs[i]+((zs.drop (i+1)).map w).sum : Nat) : Int):=by omega
      rw [ek] at e e3
      refine ⟨ys,e,e1,fun j hj => ?_,?_⟩
      · rw [e2 j (by omega),List.getElem?_set_ne (by omega)]
      · have hy:=e2 i (by omega)
        rw [List.getElem?_set_self h] at hy
        have hi' : i<ys.length:=by omega
        rw [List.getElem?_eq_getElem hi'] at hy
        refine HC.step hi' ?_ h0 e3
        rw [Option.some.inj hy]
        exact g
    · obtain rfl : i=zs.length:=by omega
      rw [hend]
      have e0 : k+((((zs.drop zs.length).map w).sum : Nat) : Int)=k:=by simp
      rw [e0]
      exact ⟨zs,rfl,rfl,fun _ _=>rfl,HC.done _⟩
theorem mark_both {α : Type} {w : α→Nat} {gm : α→Int→Int→Prop} {rm : (List α×Int×Int→Option (List α×Int))→List α×Int×Int→Option (List α×Int)} {rh : (List α×Int×Int→Option Int)→List α×Int×Int→Option Int}
    (hw : ∀ x,1≤w x)
    (hend : ∀ rec (zs : List α) k,rm rec (zs,k,(zs.length : Int))=some (zs,k))
    (hstep : ∀ (zs : List α) i (hi : i<zs.length) k,zs.length≤1152921504606846976→0≤k→k+(w zs[i] : Int)≤1152921504606846976 → ∃ y,(∀ rec,rm rec (zs,k,(i : Int))=rec (zs.set i y,k+(w zs[i] : Int),((i+1 : Nat) : Int)))∧gm y k (k+(w zs[i] : Int)))
    (hend2 : ∀ rec (ys : List α) k,rh rec (ys,k,(ys.length : Int))=some k)
    (hstep2 : ∀ rec (ys : List α) i (hi : i<ys.length) k k1,ys.length≤1152921504606846976→gm ys[i] k k1→0≤k→rh rec (ys,k,(i : Int))=rec (ys,k1,((i+1 : Nat) : Int)))
    {xs : List α} {k : Int} (h0 : 0≤k) (hk : k+(((xs.map w).sum : Nat) : Int)≤1152921504606846976) :
    ∃ ys,lpN rm fuel (xs,k,0)=some (ys,k+(((xs.map w).sum : Nat) : Int))∧lpN rh fuel (ys,k,0)=some (k+(((xs.map w).sum : Nat) : Int)):=by
  have hl:=len_sum hw xs
  obtain ⟨ys,e,e1,_,e3⟩:=mark_lp hend hstep fuel 0 xs k (by omega) (Nat.zero_le _) (by have:=fuel_big2; omega) h0 (by simpa using hk)
  refine ⟨ys,e,?_⟩
  exact held_lp (fun rec k=>hend2 rec ys k) (fun rec i hi k k1 g h0=>hstep2 rec ys i hi k k1 (by omega) g h0) e3 fuel (by have:=fuel_big2; omega)
theorem eq_lp {α : Type} {xs : List α} {rnd : (List α×List α×Int→Option Bool)→List α×List α×Int→Option Bool}
    (hl : xs.length≤1152921504606846976)
    (hend : ∀ rec,rnd rec (xs,xs,(xs.length : Int))=some true)
    (hstep : ∀ rec i (hi : i<xs.length),rnd rec (xs,xs,(i : Int))=rec (xs,xs,((i+1 : Nat) : Int))) : lpN rnd fuel (xs,xs,0)=some true :=
  lp_idx (st:=fun i=>(xs,xs,(i : Int))) (val:=fun _=>some true) xs.length hend (fun rec i hi hr=>by rw [hstep rec i hi]; exact hr) fuel 0 (Nat.zero_le _) (by have:=fuel_big2; omega)

theorem mt_lp : ∀ (m : Nat) (x : Int) (s : ByteArray) (n : Nat),0≤x→x<(10 : Int) ^ m→x≤2305843009213693952→s.size+m≤1000→m<n → ∃ t,lpN (r73_0 fuel) n (x,s)=some t:=by
  intro m
  induction m with
  | zero =>
    intro x s n h0 h1 hx hs hn
    rw [lp_open (by omega)]
    have hc : ¬ x>0:=by omega
    have hz : (⟨#[109]⟩ : ByteArray).size+s.size≤9223372036854775807:=by have : (⟨#[109]⟩ : ByteArray).size=1:=rfl; omega
    simp only [r73_0,hc,hz,decide_false,decide_true,cond_false,cond_true]
    exact ⟨_,rfl⟩
  | succ m ih =>
    intro x s n h0 h1 hx hs hn
    rw [lp_open (by omega)]
    have hz : (⟨#[109]⟩ : ByteArray).size+s.size≤9223372036854775807:=by have : (⟨#[109]⟩ : ByteArray).size=1:=rfl; omega
    by_cases hc : x>0
    · have ht : ¬ ((10 : Int)=0):=by decide
      have hd : x.tdiv 10=x / 10:=Int.tdiv_eq_ediv_of_nonneg h0
      have hp : (10 : Int) ^ (m+1)=10 ^ m*10:=Int.pow_succ _ _
      have hw : IntKind.i64.wrap (x.tdiv 10)=x / 10:=by rw [hd,wrap_id (by omega) (by omega)]
      have hone : ∀ b : Int,(strOf KK .e5 ([b] : List (C .e5))).size=1:=fun b=>rfl
      have hz' : ∀ b : Int,(strOf KK .e5 ([b] : List (C .e5))).size+s.size≤9223372036854775807:=fun b=>by rw [hone]; omega
      simp only [r73_0,hc,hz',ht,decide_false,decide_true,cond_false,cond_true,hw]
      refine ih (x / 10) _ (n - 1) (by omega) (by omega) (by omega) ?_ (by omega)
      rw [ByteArray.size_append,hone]; omega
    · simp only [r73_0,hc,hz,decide_false,decide_true,cond_false,cond_true]
      exact ⟨_,rfl⟩
noncomputable def mt (k : Int) : ByteArray:=(G73 k).getD ⟨#[]⟩
theorem g73_mt {k : Int} (h : 0≤k) (h2 : k≤2305843009213693952) : G73 k=some (mt k):=by
  have : ∃ t,G73 k=some t:=by
    unfold G73 G73n
    by_cases hc : k≤0
    · exact ⟨⟨#[109,48]⟩,by simp only [hc,decide_true,cond_true]⟩
    · simp only [hc,decide_false,cond_false]
      exact mt_lp 19 k _ fuel h (by have : (10 : Int) ^ 19=10000000000000000000:=rfl; omega) h2 (by decide) (by have:=fuel_big; omega)
  obtain ⟨t,e⟩:=this
  unfold mt
  rw [e]
  rfl

def w_StewService (x : VStewService) : Nat:=13
def w_StewServiceS (xs : List VStewService) : Nat:=(xs.map w_StewService).sum
theorem w_StewService_pos (x : VStewService) : 1≤w_StewService x:=by unfold w_StewService; omega
theorem w_StewServiceS_len (xs : List VStewService) : xs.length≤w_StewServiceS xs:=len_sum w_StewService_pos xs
theorem eq_StewService {x : VStewService} (h : w_StewService x≤1152921504606846976) : G69 x x=some true:=by
  unfold w_StewService at h
  simp only [G10,G10n,G11,G11n,G69,G69n,G70,G70n,G71,G71n,G72,G72n,bne_self_eq_false,cond_false,decide_true,Bool.not_true,Option.bind_some,beq_self_eq_true]
theorem eq_StewServiceS {xs : List VStewService} (h : w_StewServiceS xs≤1152921504606846976) : G29 xs xs=some true:=by
  have hl:=w_StewServiceS_len xs
  unfold G29 G29n
  simp only [bne_self_eq_false,cond_false]
  refine eq_lp (rnd:=r29_0 fuel) (by omega) (fun rec=>by simp [r29_0]) (fun rec i hi => ?_)
  have hw:=wrap_nat (i:=i) (by omega)
  have h1 : (i : Int)<(xs.length : Int):=by omega
  have he:=eq_StewService (x:=xs[i]) (by have:=sum_get (w:=w_StewService) hi; unfold w_StewServiceS at h; omega)
  simp only [r29_0]
  rw [get_cast hi,hw]
  simp only [h1,decide_true,cond_true,Int.natCast_nonneg,Option.bind_some,bne_self_eq_false,Bool.not_true,cond_false,he]
def gm_StewService (y : VStewService) (k k1 : Int) : Prop:=y=(⟨mt (k),k+1,((k+1+1).tmod 3 == 0),k+1+1+1,k+1+1+1+1,k+1+1+1+1+1,k+1+1+1+1+1+1,k+1+1+1+1+1+1+1,k+1+1+1+1+1+1+1+1,k+1+1+1+1+1+1+1+1+1,k+1+1+1+1+1+1+1+1+1+1,k+1+1+1+1+1+1+1+1+1+1+1,k+1+1+1+1+1+1+1+1+1+1+1+1⟩ : VStewService)∧k1=k+1+1+1+1+1+1+1+1+1+1+1+1+1∧k1≤1152921504606846976
set_option maxHeartbeats 2000000 in
theorem mark_StewServiceS {xs : List VStewService} {k : Int} (h0 : 0≤k) (h : k+(w_StewServiceS xs : Int)≤1152921504606846976) : ∃ ys : List VStewService,G33 xs k=some (ys,k+(w_StewServiceS xs : Int))∧G37 ys k=some (k+(w_StewServiceS xs : Int)):=by
  refine mark_both (α:=VStewService) (w:=w_StewService) (gm:=gm_StewService) (rm:=r33_0 fuel) (rh:=r37_0 fuel) w_StewService_pos (fun rec zs k=>by simp [r33_0]) (fun zs i hi k hl h0 hk => ?_) (fun rec ys k=>by simp [r37_0]) (fun rec ys i hi k k1 hl g h0 => ?_) h0 h
  · have hw:=wrap_nat (i:=i) (by omega)
    have h1 : (i : Int)<(zs.length : Int):=by omega
    have h30 : ¬ ((3 : Int)=0):=by decide
    have h30n : ¬ ((3 : Nat)=0):=by decide
    unfold w_StewService at hk ⊢
    have w0 : IntKind.i64.wrap (k+1)=k+1:=wrap_id (by omega) (by omega)
    have w1 : IntKind.i64.wrap (k+1+1)=k+1+1:=wrap_id (by omega) (by omega)
    have w2 : IntKind.i64.wrap (k+1+1+1)=k+1+1+1:=wrap_id (by omega) (by omega)
    have w3 : IntKind.i64.wrap (k+1+1+1+1)=k+1+1+1+1:=wrap_id (by omega) (by omega)
    have w4 : IntKind.i64.wrap (k+1+1+1+1+1)=k+1+1+1+1+1:=wrap_id (by omega) (by omega)
    have w5 : IntKind.i64.wrap (k+1+1+1+1+1+1)=k+1+1+1+1+1+1:=wrap_id (by omega) (by omega)
    have w6 : IntKind.i64.wrap (k+1+1+1+1+1+1+1)=k+1+1+1+1+1+1+1:=wrap_id (by omega) (by omega)
    have w7 : IntKind.i64.wrap (k+1+1+1+1+1+1+1+1)=k+1+1+1+1+1+1+1+1:=wrap_id (by omega) (by omega)
    have w8 : IntKind.i64.wrap (k+1+1+1+1+1+1+1+1+1)=k+1+1+1+1+1+1+1+1+1:=wrap_id (by omega) (by omega)
    have w9 : IntKind.i64.wrap (k+1+1+1+1+1+1+1+1+1+1)=k+1+1+1+1+1+1+1+1+1+1:=wrap_id (by omega) (by omega)
    have w10 : IntKind.i64.wrap (k+1+1+1+1+1+1+1+1+1+1+1)=k+1+1+1+1+1+1+1+1+1+1+1:=wrap_id (by omega) (by omega)
    have w11 : IntKind.i64.wrap (k+1+1+1+1+1+1+1+1+1+1+1+1)=k+1+1+1+1+1+1+1+1+1+1+1+1:=wrap_id (by omega) (by omega)
    have w12 : IntKind.i64.wrap (k+1+1+1+1+1+1+1+1+1+1+1+1+1)=k+1+1+1+1+1+1+1+1+1+1+1+1+1:=wrap_id (by omega) (by omega)
    have he : k+((13 : Nat) : Int)=k+1+1+1+1+1+1+1+1+1+1+1+1+1:=by omega
    rw [he]
    refine ⟨(⟨mt (k),k+1,((k+1+1).tmod 3 == 0),k+1+1+1,k+1+1+1+1,k+1+1+1+1+1,k+1+1+1+1+1+1,k+1+1+1+1+1+1+1,k+1+1+1+1+1+1+1+1,k+1+1+1+1+1+1+1+1+1,k+1+1+1+1+1+1+1+1+1+1,k+1+1+1+1+1+1+1+1+1+1+1,k+1+1+1+1+1+1+1+1+1+1+1+1⟩ : VStewService),fun rec => ?_,⟨rfl,rfl,by omega⟩⟩
    simp only [r33_0]
    rw [hw]
    simp only [get_cast hi,List.getElem?_eq_getElem hi,h30,h30n,decide_false,h1,w0,w1,w2,w3,w4,w5,w6,w7,w8,w9,w10,w11,w12,g73_mt (k:=k) (by omega) (by omega),decide_true,cond_true,cond_false,Int.natCast_nonneg,Option.bind_some,Int.toNat_natCast,List.length_set,List.set_set,List.getElem?_set_self hi]
  · obtain ⟨e,rfl,hb⟩:=g
    have hw:=wrap_nat (i:=i) (by omega)
    have h1 : (i : Int)<(ys.length : Int):=by omega
    have h30 : ¬ ((3 : Int)=0):=by decide
    have h30n : ¬ ((3 : Nat)=0):=by decide
    have w0 : IntKind.i64.wrap (k+1)=k+1:=wrap_id (by omega) (by omega)
    have w1 : IntKind.i64.wrap (k+1+1)=k+1+1:=wrap_id (by omega) (by omega)
    have w2 : IntKind.i64.wrap (k+1+1+1)=k+1+1+1:=wrap_id (by omega) (by omega)
    have w3 : IntKind.i64.wrap (k+1+1+1+1)=k+1+1+1+1:=wrap_id (by omega) (by omega)
    have w4 : IntKind.i64.wrap (k+1+1+1+1+1)=k+1+1+1+1+1:=wrap_id (by omega) (by omega)
    have w5 : IntKind.i64.wrap (k+1+1+1+1+1+1)=k+1+1+1+1+1+1:=wrap_id (by omega) (by omega)
    have w6 : IntKind.i64.wrap (k+1+1+1+1+1+1+1)=k+1+1+1+1+1+1+1:=wrap_id (by omega) (by omega)
    have w7 : IntKind.i64.wrap (k+1+1+1+1+1+1+1+1)=k+1+1+1+1+1+1+1+1:=wrap_id (by omega) (by omega)
    have w8 : IntKind.i64.wrap (k+1+1+1+1+1+1+1+1+1)=k+1+1+1+1+1+1+1+1+1:=wrap_id (by omega) (by omega)
    have w9 : IntKind.i64.wrap (k+1+1+1+1+1+1+1+1+1+1)=k+1+1+1+1+1+1+1+1+1+1:=wrap_id (by omega) (by omega)
    have w10 : IntKind.i64.wrap (k+1+1+1+1+1+1+1+1+1+1+1)=k+1+1+1+1+1+1+1+1+1+1+1:=wrap_id (by omega) (by omega)
    have w11 : IntKind.i64.wrap (k+1+1+1+1+1+1+1+1+1+1+1+1)=k+1+1+1+1+1+1+1+1+1+1+1+1:=wrap_id (by omega) (by omega)
    have w12 : IntKind.i64.wrap (k+1+1+1+1+1+1+1+1+1+1+1+1+1)=k+1+1+1+1+1+1+1+1+1+1+1+1+1:=wrap_id (by omega) (by omega)
    simp only [r37_0]
    rw [hw]
    simp only [get_cast hi,e,h30,h30n,decide_false,h1,w0,w1,w2,w3,w4,w5,w6,w7,w8,w9,w10,w11,w12,g73_mt (k:=k) (by omega) (by omega),decide_true,decide_false,cond_true,cond_false,Int.natCast_nonneg,Option.bind_some,bne_self_eq_false,beq_self_eq_true,Bool.not_true]
def w_StewCopy (x : VStewCopy) : Nat:=7
def w_StewCopyS (xs : List VStewCopy) : Nat:=(xs.map w_StewCopy).sum
theorem w_StewCopy_pos (x : VStewCopy) : 1≤w_StewCopy x:=by unfold w_StewCopy; omega
theorem w_StewCopyS_len (xs : List VStewCopy) : xs.length≤w_StewCopyS xs:=len_sum w_StewCopy_pos xs
theorem eq_StewCopy {x : VStewCopy} (h : w_StewCopy x≤1152921504606846976) : G70 x x=some true:=by
  unfold w_StewCopy at h
  simp only [G10,G10n,G11,G11n,G69,G69n,G70,G70n,G71,G71n,G72,G72n,bne_self_eq_false,cond_false,decide_true,Bool.not_true,Option.bind_some,beq_self_eq_true]
theorem eq_StewCopyS {xs : List VStewCopy} (h : w_StewCopyS xs≤1152921504606846976) : G30 xs xs=some true:=by
  have hl:=w_StewCopyS_len xs
  unfold G30 G30n
  simp only [bne_self_eq_false,cond_false]
  refine eq_lp (rnd:=r30_0 fuel) (by omega) (fun rec=>by simp [r30_0]) (fun rec i hi => ?_)
  have hw:=wrap_nat (i:=i) (by omega)
  have h1 : (i : Int)<(xs.length : Int):=by omega
  have he:=eq_StewCopy (x:=xs[i]) (by have:=sum_get (w:=w_StewCopy) hi; unfold w_StewCopyS at h; omega)
  simp only [r30_0]
  rw [get_cast hi,hw]
  simp only [h1,decide_true,cond_true,Int.natCast_nonneg,Option.bind_some,bne_self_eq_false,Bool.not_true,cond_false,he]
def gm_StewCopy (y : VStewCopy) (k k1 : Int) : Prop:=y=(⟨mt (k),k+1,k+1+1,k+1+1+1,k+1+1+1+1,((k+1+1+1+1+1).tmod 3 == 0),mt (k+1+1+1+1+1+1)⟩ : VStewCopy)∧k1=k+1+1+1+1+1+1+1∧k1≤1152921504606846976
set_option maxHeartbeats 2000000 in
theorem mark_StewCopyS {xs : List VStewCopy} {k : Int} (h0 : 0≤k) (h : k+(w_StewCopyS xs : Int)≤1152921504606846976) : ∃ ys : List VStewCopy,G34 xs k=some (ys,k+(w_StewCopyS xs : Int))∧G38 ys k=some (k+(w_StewCopyS xs : Int)):=by
  refine mark_both (α:=VStewCopy) (w:=w_StewCopy) (gm:=gm_StewCopy) (rm:=r34_0 fuel) (rh:=r38_0 fuel) w_StewCopy_pos (fun rec zs k=>by simp [r34_0]) (fun zs i hi k hl h0 hk => ?_) (fun rec ys k=>by simp [r38_0]) (fun rec ys i hi k k1 hl g h0 => ?_) h0 h
  · have hw:=wrap_nat (i:=i) (by omega)
    have h1 : (i : Int)<(zs.length : Int):=by omega
    have h30 : ¬ ((3 : Int)=0):=by decide
    have h30n : ¬ ((3 : Nat)=0):=by decide
    unfold w_StewCopy at hk ⊢
    have w0 : IntKind.i64.wrap (k+1)=k+1:=wrap_id (by omega) (by omega)
    have w1 : IntKind.i64.wrap (k+1+1)=k+1+1:=wrap_id (by omega) (by omega)
    have w2 : IntKind.i64.wrap (k+1+1+1)=k+1+1+1:=wrap_id (by omega) (by omega)
    have w3 : IntKind.i64.wrap (k+1+1+1+1)=k+1+1+1+1:=wrap_id (by omega) (by omega)
    have w4 : IntKind.i64.wrap (k+1+1+1+1+1)=k+1+1+1+1+1:=wrap_id (by omega) (by omega)
    have w5 : IntKind.i64.wrap (k+1+1+1+1+1+1)=k+1+1+1+1+1+1:=wrap_id (by omega) (by omega)
    have w6 : IntKind.i64.wrap (k+1+1+1+1+1+1+1)=k+1+1+1+1+1+1+1:=wrap_id (by omega) (by omega)
    have he : k+((7 : Nat) : Int)=k+1+1+1+1+1+1+1:=by omega
    rw [he]
    refine ⟨(⟨mt (k),k+1,k+1+1,k+1+1+1,k+1+1+1+1,((k+1+1+1+1+1).tmod 3 == 0),mt (k+1+1+1+1+1+1)⟩ : VStewCopy),fun rec => ?_,⟨rfl,rfl,by omega⟩⟩
    simp only [r34_0]
    rw [hw]
    simp only [get_cast hi,List.getElem?_eq_getElem hi,h30,h30n,decide_false,h1,w0,w1,w2,w3,w4,w5,w6,g73_mt (k:=k) (by omega) (by omega),g73_mt (k:=k+1+1+1+1+1+1) (by omega) (by omega),decide_true,cond_true,cond_false,Int.natCast_nonneg,Option.bind_some,Int.toNat_natCast,List.length_set,List.set_set,List.getElem?_set_self hi]
  · obtain ⟨e,rfl,hb⟩:=g
    have hw:=wrap_nat (i:=i) (by omega)
    have h1 : (i : Int)<(ys.length : Int):=by omega
    have h30 : ¬ ((3 : Int)=0):=by decide
    have h30n : ¬ ((3 : Nat)=0):=by decide
    have w0 : IntKind.i64.wrap (k+1)=k+1:=wrap_id (by omega) (by omega)
    have w1 : IntKind.i64.wrap (k+1+1)=k+1+1:=wrap_id (by omega) (by omega)
    have w2 : IntKind.i64.wrap (k+1+1+1)=k+1+1+1:=wrap_id (by omega) (by omega)
    have w3 : IntKind.i64.wrap (k+1+1+1+1)=k+1+1+1+1:=wrap_id (by omega) (by omega)
    have w4 : IntKind.i64.wrap (k+1+1+1+1+1)=k+1+1+1+1+1:=wrap_id (by omega) (by omega)
    have w5 : IntKind.i64.wrap (k+1+1+1+1+1+1)=k+1+1+1+1+1+1:=wrap_id (by omega) (by omega)
    have w6 : IntKind.i64.wrap (k+1+1+1+1+1+1+1)=k+1+1+1+1+1+1+1:=wrap_id (by omega) (by omega)
    simp only [r38_0]
    rw [hw]
    simp only [get_cast hi,e,h30,h30n,decide_false,h1,w0,w1,w2,w3,w4,w5,w6,g73_mt (k:=k) (by omega) (by omega),g73_mt (k:=k+1+1+1+1+1+1) (by omega) (by omega),decide_true,decide_false,cond_true,cond_false,Int.natCast_nonneg,Option.bind_some,bne_self_eq_false,beq_self_eq_true,Bool.not_true]
def w_StewBerth (x : VStewBerth) : Nat:=2
def w_StewBerthS (xs : List VStewBerth) : Nat:=(xs.map w_StewBerth).sum
theorem w_StewBerth_pos (x : VStewBerth) : 1≤w_StewBerth x:=by unfold w_StewBerth; omega
theorem w_StewBerthS_len (xs : List VStewBerth) : xs.length≤w_StewBerthS xs:=len_sum w_StewBerth_pos xs
theorem eq_StewBerth {x : VStewBerth} (h : w_StewBerth x≤1152921504606846976) : G71 x x=some true:=by
  unfold w_StewBerth at h
  simp only [G10,G10n,G11,G11n,G69,G69n,G70,G70n,G71,G71n,G72,G72n,bne_self_eq_false,cond_false,decide_true,Bool.not_true,Option.bind_some,beq_self_eq_true]
theorem eq_StewBerthS {xs : List VStewBerth} (h : w_StewBerthS xs≤1152921504606846976) : G31 xs xs=some true:=by
  have hl:=w_StewBerthS_len xs
  unfold G31 G31n
  simp only [bne_self_eq_false,cond_false]
  refine eq_lp (rnd:=r31_0 fuel) (by omega) (fun rec=>by simp [r31_0]) (fun rec i hi => ?_)
  have hw:=wrap_nat (i:=i) (by omega)
  have h1 : (i : Int)<(xs.length : Int):=by omega
  have he:=eq_StewBerth (x:=xs[i]) (by have:=sum_get (w:=w_StewBerth) hi; unfold w_StewBerthS at h; omega)
  simp only [r31_0]
  rw [get_cast hi,hw]
  simp only [h1,decide_true,cond_true,Int.natCast_nonneg,Option.bind_some,bne_self_eq_false,Bool.not_true,cond_false,he]
def gm_StewBerth (y : VStewBerth) (k k1 : Int) : Prop:=y=(⟨mt (k),((k+1).tmod 3 == 0)⟩ : VStewBerth)∧k1=k+1+1∧k1≤1152921504606846976
set_option maxHeartbeats 2000000 in
theorem mark_StewBerthS {xs : List VStewBerth} {k : Int} (h0 : 0≤k) (h : k+(w_StewBerthS xs : Int)≤1152921504606846976) : ∃ ys : List VStewBerth,G35 xs k=some (ys,k+(w_StewBerthS xs : Int))∧G39 ys k=some (k+(w_StewBerthS xs : Int)):=by
  refine mark_both (α:=VStewBerth) (w:=w_StewBerth) (gm:=gm_StewBerth) (rm:=r35_0 fuel) (rh:=r39_0 fuel) w_StewBerth_pos (fun rec zs k=>by simp [r35_0]) (fun zs i hi k hl h0 hk => ?_) (fun rec ys k=>by simp [r39_0]) (fun rec ys i hi k k1 hl g h0 => ?_) h0 h
  · have hw:=wrap_nat (i:=i) (by omega)
    have h1 : (i : Int)<(zs.length : Int):=by omega
    have h30 : ¬ ((3 : Int)=0):=by decide
    have h30n : ¬ ((3 : Nat)=0):=by decide
    unfold w_StewBerth at hk ⊢
    have w0 : IntKind.i64.wrap (k+1)=k+1:=wrap_id (by omega) (by omega)
    have w1 : IntKind.i64.wrap (k+1+1)=k+1+1:=wrap_id (by omega) (by omega)
    have he : k+((2 : Nat) : Int)=k+1+1:=by omega
    rw [he]
    refine ⟨(⟨mt (k),((k+1).tmod 3 == 0)⟩ : VStewBerth),fun rec => ?_,⟨rfl,rfl,by omega⟩⟩
    simp only [r35_0]
    rw [hw]
    simp only [get_cast hi,List.getElem?_eq_getElem hi,h30,h30n,decide_false,h1,w0,w1,g73_mt (k:=k) (by omega) (by omega),decide_true,cond_true,cond_false,Int.natCast_nonneg,Option.bind_some,Int.toNat_natCast,List.length_set,List.set_set,List.getElem?_set_self hi]
  · obtain ⟨e,rfl,hb⟩:=g
    have hw:=wrap_nat (i:=i) (by omega)
    have h1 : (i : Int)<(ys.length : Int):=by omega
    have h30 : ¬ ((3 : Int)=0):=by decide
    have h30n : ¬ ((3 : Nat)=0):=by decide
    have w0 : IntKind.i64.wrap (k+1)=k+1:=wrap_id (by omega) (by omega)
    have w1 : IntKind.i64.wrap (k+1+1)=k+1+1:=wrap_id (by omega) (by omega)
    simp only [r39_0]
    rw [hw]
    simp only [get_cast hi,e,h30,h30n,decide_false,h1,w0,w1,g73_mt (k:=k) (by omega) (by omega),decide_true,decide_false,cond_true,cond_false,Int.natCast_nonneg,Option.bind_some,bne_self_eq_false,beq_self_eq_true,Bool.not_true]
def w_StewEnd (x : VStewEnd) : Nat:=2
def w_StewEndS (xs : List VStewEnd) : Nat:=(xs.map w_StewEnd).sum
theorem w_StewEnd_pos (x : VStewEnd) : 1≤w_StewEnd x:=by unfold w_StewEnd; omega
theorem w_StewEndS_len (xs : List VStewEnd) : xs.length≤w_StewEndS xs:=len_sum w_StewEnd_pos xs
theorem eq_StewEnd {x : VStewEnd} (h : w_StewEnd x≤1152921504606846976) : G72 x x=some true:=by
  unfold w_StewEnd at h
  simp only [G10,G10n,G11,G11n,G69,G69n,G70,G70n,G71,G71n,G72,G72n,bne_self_eq_false,cond_false,decide_true,Bool.not_true,Option.bind_some,beq_self_eq_true]
theorem eq_StewEndS {xs : List VStewEnd} (h : w_StewEndS xs≤1152921504606846976) : G32 xs xs=some true:=by
  have hl:=w_StewEndS_len xs
  unfold G32 G32n
  simp only [bne_self_eq_false,cond_false]
  refine eq_lp (rnd:=r32_0 fuel) (by omega) (fun rec=>by simp [r32_0]) (fun rec i hi => ?_)
  have hw:=wrap_nat (i:=i) (by omega)
  have h1 : (i : Int)<(xs.length : Int):=by omega
  have he:=eq_StewEnd (x:=xs[i]) (by have:=sum_get (w:=w_StewEnd) hi; unfold w_StewEndS at h; omega)
  simp only [r32_0]
  rw [get_cast hi,hw]
  simp only [h1,decide_true,cond_true,Int.natCast_nonneg,Option.bind_some,bne_self_eq_false,Bool.not_true,cond_false,he]
set_option maxHeartbeats 2000000 in
theorem markO_StewEndS {xs : List VStewEnd} {k : Int} (h0 : 0≤k) (h : k+(w_StewEndS xs : Int)≤1152921504606846976) : ∃ ys : List VStewEnd,G36 xs k=some (ys,k+(w_StewEndS xs : Int)):=by
  have hlw:=w_StewEndS_len xs
  have key:=mark_lp (α:=VStewEnd) (w:=w_StewEnd) (gm:=fun _ _ _=>True) (rnd:=r36_0 fuel) (fun rec zs k=>by simp [r36_0]) (fun zs i hi k hl h0 hk => ?_) fuel 0 xs k (by omega) (Nat.zero_le _) (by have:=fuel_big2; omega) h0 (by simpa [w_StewEndS] using h)
  · obtain ⟨ys,e,_⟩:=key
    refine ⟨ys,?_⟩
    unfold G36 G36n LP36_0 w_StewEndS
    simpa using e
  · have hw:=wrap_nat (i:=i) (by omega)
    have h1 : (i : Int)<(zs.length : Int):=by omega
    have h30 : ¬ ((3 : Int)=0):=by decide
    have h30n : ¬ ((3 : Nat)=0):=by decide
    unfold w_StewEnd at hk ⊢
    have w0 : IntKind.i64.wrap (k+1)=k+1:=wrap_id (by omega) (by omega)
    have w1 : IntKind.i64.wrap (k+1+1)=k+1+1:=wrap_id (by omega) (by omega)
    have he : k+((2 : Nat) : Int)=k+1+1:=by omega
    rw [he]
    refine ⟨(⟨k,k+1⟩ : VStewEnd),fun rec => ?_,trivial⟩
    simp only [r36_0]
    rw [hw]
    simp only [get_cast hi,List.getElem?_eq_getElem hi,h30,h30n,decide_false,h1,w0,w1,decide_true,cond_true,cond_false,Int.natCast_nonneg,Option.bind_some,Int.toNat_natCast,List.length_set,List.set_set,List.getElem?_set_self hi]
end Go.Proofs.Ytakakoogpmhhkaa.Ab

/- A codec,printed by codec.py: what a kind tells. -/
set_option linter.unusedVariables false
namespace Go.Proofs.Ytakakoogpmhhkaa.Ab
open Go Go.RowKit
theorem ek5 : ∀ ls : List (Lf C),kindsB [.int .u8] ls=true → ∃ x,d5 ls=some x:=by
  intro ls0 g0
  obtain ⟨l0,ls1,rfl,h0,g1⟩:=kinds_cons g0
  obtain ⟨x0,rfl⟩:=kind_int h0
  obtain rfl:=kinds_nil g1
  exact ⟨_,rfl⟩
theorem ek26 : ∀ ls : List (Lf C),kindsB [.int .i64,.sli .e70,.sli .e73,.sli .e76] ls=true → ∃ x,d26 ls=some x:=by
  intro ls0 g0
  obtain ⟨l0,ls1,rfl,h0,g1⟩:=kinds_cons g0
  obtain ⟨x0,rfl⟩:=kind_int h0
  obtain ⟨l1,ls2,rfl,h1,g2⟩:=kinds_cons g1
  obtain ⟨x1,rfl⟩:=kind_sli h1
  obtain ⟨l2,ls3,rfl,h2,g3⟩:=kinds_cons g2
  obtain ⟨x2,rfl⟩:=kind_sli h2
  obtain ⟨l3,ls4,rfl,h3,g4⟩:=kinds_cons g3
  obtain ⟨x3,rfl⟩:=kind_sli h3
  obtain rfl:=kinds_nil g4
  exact ⟨_,rfl⟩
theorem ek29 : ∀ ls : List (Lf C),kindsB [.str,.int .i64,.int .i64,.int .i64,.int .i64,.bool,.sli .e98,.bool] ls=true → ∃ x,d29 ls=some x:=by
  intro ls0 g0
  obtain ⟨l0,ls1,rfl,h0,g1⟩:=kinds_cons g0
  obtain ⟨x0,rfl⟩:=kind_str h0
  obtain ⟨l1,ls2,rfl,h1,g2⟩:=kinds_cons g1
  obtain ⟨x1,rfl⟩:=kind_int h1
  obtain ⟨l2,ls3,rfl,h2,g3⟩:=kinds_cons g2
  obtain ⟨x2,rfl⟩:=kind_int h2
  obtain ⟨l3,ls4,rfl,h3,g4⟩:=kinds_cons g3
  obtain ⟨x3,rfl⟩:=kind_int h3
  obtain ⟨l4,ls5,rfl,h4,g5⟩:=kinds_cons g4
  obtain ⟨x4,rfl⟩:=kind_int h4
  obtain ⟨l5,ls6,rfl,h5,g6⟩:=kinds_cons g5
  obtain ⟨x5,rfl⟩:=kind_bool h5
  obtain ⟨l6,ls7,rfl,h6,g7⟩:=kinds_cons g6
  obtain ⟨x6,rfl⟩:=kind_sli h6
  obtain ⟨l7,ls8,rfl,h7,g8⟩:=kinds_cons g7
  obtain ⟨x7,rfl⟩:=kind_bool h7
  obtain rfl:=kinds_nil g8
  exact ⟨_,rfl⟩
theorem ek36 : ∀ ls : List (Lf C),kindsB [.int .i64,.sli .e79,.sli .e83,.sli .e81] ls=true → ∃ x,d36 ls=some x:=by
  intro ls0 g0
  obtain ⟨l0,ls1,rfl,h0,g1⟩:=kinds_cons g0
  obtain ⟨x0,rfl⟩:=kind_int h0
  obtain ⟨l1,ls2,rfl,h1,g2⟩:=kinds_cons g1
  obtain ⟨x1,rfl⟩:=kind_sli h1
  obtain ⟨l2,ls3,rfl,h2,g3⟩:=kinds_cons g2
  obtain ⟨x2,rfl⟩:=kind_sli h2
  obtain ⟨l3,ls4,rfl,h3,g4⟩:=kinds_cons g3
  obtain ⟨x3,rfl⟩:=kind_sli h3
  obtain rfl:=kinds_nil g4
  exact ⟨_,rfl⟩
theorem ek42 : ∀ ls : List (Lf C),kindsB [.str,.int .i64,.int .i64,.int .i64,.int .i64,.bool,.sli .e89,.bool] ls=true → ∃ x,d42 ls=some x:=by
  intro ls0 g0
  obtain ⟨l0,ls1,rfl,h0,g1⟩:=kinds_cons g0
  obtain ⟨x0,rfl⟩:=kind_str h0
  obtain ⟨l1,ls2,rfl,h1,g2⟩:=kinds_cons g1
  obtain ⟨x1,rfl⟩:=kind_int h1
  obtain ⟨l2,ls3,rfl,h2,g3⟩:=kinds_cons g2
  obtain ⟨x2,rfl⟩:=kind_int h2
  obtain ⟨l3,ls4,rfl,h3,g4⟩:=kinds_cons g3
  obtain ⟨x3,rfl⟩:=kind_int h3
  obtain ⟨l4,ls5,rfl,h4,g5⟩:=kinds_cons g4
  obtain ⟨x4,rfl⟩:=kind_int h4
  obtain ⟨l5,ls6,rfl,h5,g6⟩:=kinds_cons g5
  obtain ⟨x5,rfl⟩:=kind_bool h5
  obtain ⟨l6,ls7,rfl,h6,g7⟩:=kinds_cons g6
  obtain ⟨x6,rfl⟩:=kind_sli h6
  obtain ⟨l7,ls8,rfl,h7,g8⟩:=kinds_cons g7
  obtain ⟨x7,rfl⟩:=kind_bool h7
  obtain rfl:=kinds_nil g8
  exact ⟨_,rfl⟩
theorem ek70 : ∀ ls : List (Lf C),kindsB [.str,.int .i64,.bool,.int .i64,.int .i64,.int .i64,.int .i64,.int .i64,.int .i64,.int .i64,.int .i64,.int .i64,.int .i64] ls=true → ∃ x,d70 ls=some x:=by
  intro ls0 g0
  obtain ⟨l0,ls1,rfl,h0,g1⟩:=kinds_cons g0
  obtain ⟨x0,rfl⟩:=kind_str h0
  obtain ⟨l1,ls2,rfl,h1,g2⟩:=kinds_cons g1
  obtain ⟨x1,rfl⟩:=kind_int h1
  obtain ⟨l2,ls3,rfl,h2,g3⟩:=kinds_cons g2
  obtain ⟨x2,rfl⟩:=kind_bool h2
  obtain ⟨l3,ls4,rfl,h3,g4⟩:=kinds_cons g3
  obtain ⟨x3,rfl⟩:=kind_int h3
  obtain ⟨l4,ls5,rfl,h4,g5⟩:=kinds_cons g4
  obtain ⟨x4,rfl⟩:=kind_int h4
  obtain ⟨l5,ls6,rfl,h5,g6⟩:=kinds_cons g5
  obtain ⟨x5,rfl⟩:=kind_int h5
  obtain ⟨l6,ls7,rfl,h6,g7⟩:=kinds_cons g6
  obtain ⟨x6,rfl⟩:=kind_int h6
  obtain ⟨l7,ls8,rfl,h7,g8⟩:=kinds_cons g7
  obtain ⟨x7,rfl⟩:=kind_int h7
  obtain ⟨l8,ls9,rfl,h8,g9⟩:=kinds_cons g8
  obtain ⟨x8,rfl⟩:=kind_int h8
  obtain ⟨l9,ls10,rfl,h9,g10⟩:=kinds_cons g9
  obtain ⟨x9,rfl⟩:=kind_int h9
  obtain ⟨l10,ls11,rfl,h10,g11⟩:=kinds_cons g10
  obtain ⟨x10,rfl⟩:=kind_int h10
  obtain ⟨l11,ls12,rfl,h11,g12⟩:=kinds_cons g11
  obtain ⟨x11,rfl⟩:=kind_int h11
  obtain ⟨l12,ls13,rfl,h12,g13⟩:=kinds_cons g12
  obtain ⟨x12,rfl⟩:=kind_int h12
  obtain rfl:=kinds_nil g13
  exact ⟨_,rfl⟩
theorem ek73 : ∀ ls : List (Lf C),kindsB [.str,.int .i64,.int .i64,.int .i64,.int .i64,.bool,.str] ls=true → ∃ x,d73 ls=some x:=by
  intro ls0 g0
  obtain ⟨l0,ls1,rfl,h0,g1⟩:=kinds_cons g0
  obtain ⟨x0,rfl⟩:=kind_str h0
  obtain ⟨l1,ls2,rfl,h1,g2⟩:=kinds_cons g1
  obtain ⟨x1,rfl⟩:=kind_int h1
  obtain ⟨l2,ls3,rfl,h2,g3⟩:=kinds_cons g2
  obtain ⟨x2,rfl⟩:=kind_int h2
  obtain ⟨l3,ls4,rfl,h3,g4⟩:=kinds_cons g3
  obtain ⟨x3,rfl⟩:=kind_int h3
  obtain ⟨l4,ls5,rfl,h4,g5⟩:=kinds_cons g4
  obtain ⟨x4,rfl⟩:=kind_int h4
  obtain ⟨l5,ls6,rfl,h5,g6⟩:=kinds_cons g5
  obtain ⟨x5,rfl⟩:=kind_bool h5
  obtain ⟨l6,ls7,rfl,h6,g7⟩:=kinds_cons g6
  obtain ⟨x6,rfl⟩:=kind_str h6
  obtain rfl:=kinds_nil g7
  exact ⟨_,rfl⟩
theorem ek76 : ∀ ls : List (Lf C),kindsB [.str,.bool] ls=true → ∃ x,d76 ls=some x:=by
  intro ls0 g0
  obtain ⟨l0,ls1,rfl,h0,g1⟩:=kinds_cons g0
  obtain ⟨x0,rfl⟩:=kind_str h0
  obtain ⟨l1,ls2,rfl,h1,g2⟩:=kinds_cons g1
  obtain ⟨x1,rfl⟩:=kind_bool h1
  obtain rfl:=kinds_nil g2
  exact ⟨_,rfl⟩
theorem ek79 : ∀ ls : List (Lf C),kindsB [.str,.int .i64,.bool,.int .i64,.int .i64,.int .i64,.int .i64,.int .i64,.int .i64,.int .i64,.int .i64,.int .i64,.int .i64] ls=true → ∃ x,d79 ls=some x:=by
  intro ls0 g0
  obtain ⟨l0,ls1,rfl,h0,g1⟩:=kinds_cons g0
  obtain ⟨x0,rfl⟩:=kind_str h0
  obtain ⟨l1,ls2,rfl,h1,g2⟩:=kinds_cons g1
  obtain ⟨x1,rfl⟩:=kind_int h1
  obtain ⟨l2,ls3,rfl,h2,g3⟩:=kinds_cons g2
  obtain ⟨x2,rfl⟩:=kind_bool h2
  obtain ⟨l3,ls4,rfl,h3,g4⟩:=kinds_cons g3
  obtain ⟨x3,rfl⟩:=kind_int h3
  obtain ⟨l4,ls5,rfl,h4,g5⟩:=kinds_cons g4
  obtain ⟨x4,rfl⟩:=kind_int h4
  obtain ⟨l5,ls6,rfl,h5,g6⟩:=kinds_cons g5
  obtain ⟨x5,rfl⟩:=kind_int h5
  obtain ⟨l6,ls7,rfl,h6,g7⟩:=kinds_cons g6
  obtain ⟨x6,rfl⟩:=kind_int h6
  obtain ⟨l7,ls8,rfl,h7,g8⟩:=kinds_cons g7
  obtain ⟨x7,rfl⟩:=kind_int h7
  obtain ⟨l8,ls9,rfl,h8,g9⟩:=kinds_cons g8
  obtain ⟨x8,rfl⟩:=kind_int h8
  obtain ⟨l9,ls10,rfl,h9,g10⟩:=kinds_cons g9
  obtain ⟨x9,rfl⟩:=kind_int h9
  obtain ⟨l10,ls11,rfl,h10,g11⟩:=kinds_cons g10
  obtain ⟨x10,rfl⟩:=kind_int h10
  obtain ⟨l11,ls12,rfl,h11,g12⟩:=kinds_cons g11
  obtain ⟨x11,rfl⟩:=kind_int h11
  obtain ⟨l12,ls13,rfl,h12,g13⟩:=kinds_cons g12
  obtain ⟨x12,rfl⟩:=kind_int h12
  obtain rfl:=kinds_nil g13
  exact ⟨_,rfl⟩
theorem ek81 : ∀ ls : List (Lf C),kindsB [.str,.bool] ls=true → ∃ x,d81 ls=some x:=by
  intro ls0 g0
  obtain ⟨l0,ls1,rfl,h0,g1⟩:=kinds_cons g0
  obtain ⟨x0,rfl⟩:=kind_str h0
  obtain ⟨l1,ls2,rfl,h1,g2⟩:=kinds_cons g1
  obtain ⟨x1,rfl⟩:=kind_bool h1
  obtain rfl:=kinds_nil g2
  exact ⟨_,rfl⟩
theorem ek83 : ∀ ls : List (Lf C),kindsB [.str,.int .i64,.int .i64,.int .i64,.int .i64,.bool,.str] ls=true → ∃ x,d83 ls=some x:=by
  intro ls0 g0
  obtain ⟨l0,ls1,rfl,h0,g1⟩:=kinds_cons g0
  obtain ⟨x0,rfl⟩:=kind_str h0
  obtain ⟨l1,ls2,rfl,h1,g2⟩:=kinds_cons g1
  obtain ⟨x1,rfl⟩:=kind_int h1
  obtain ⟨l2,ls3,rfl,h2,g3⟩:=kinds_cons g2
  obtain ⟨x2,rfl⟩:=kind_int h2
  obtain ⟨l3,ls4,rfl,h3,g4⟩:=kinds_cons g3
  obtain ⟨x3,rfl⟩:=kind_int h3
  obtain ⟨l4,ls5,rfl,h4,g5⟩:=kinds_cons g4
  obtain ⟨x4,rfl⟩:=kind_int h4
  obtain ⟨l5,ls6,rfl,h5,g6⟩:=kinds_cons g5
  obtain ⟨x5,rfl⟩:=kind_bool h5
  obtain ⟨l6,ls7,rfl,h6,g7⟩:=kinds_cons g6
  obtain ⟨x6,rfl⟩:=kind_str h6
  obtain rfl:=kinds_nil g7
  exact ⟨_,rfl⟩
theorem ek89 : ∀ ls : List (Lf C),kindsB [.int .i64,.int .i64] ls=true → ∃ x,d89 ls=some x:=by
  intro ls0 g0
  obtain ⟨l0,ls1,rfl,h0,g1⟩:=kinds_cons g0
  obtain ⟨x0,rfl⟩:=kind_int h0
  obtain ⟨l1,ls2,rfl,h1,g2⟩:=kinds_cons g1
  obtain ⟨x1,rfl⟩:=kind_int h1
  obtain rfl:=kinds_nil g2
  exact ⟨_,rfl⟩
theorem ek92 : ∀ ls : List (Lf C),kindsB [.int .i64,.int .i64,.int .i64,.int .i64,.int .i64] ls=true → ∃ x,d92 ls=some x:=by
  intro ls0 g0
  obtain ⟨l0,ls1,rfl,h0,g1⟩:=kinds_cons g0
  obtain ⟨x0,rfl⟩:=kind_int h0
  obtain ⟨l1,ls2,rfl,h1,g2⟩:=kinds_cons g1
  obtain ⟨x1,rfl⟩:=kind_int h1
  obtain ⟨l2,ls3,rfl,h2,g3⟩:=kinds_cons g2
  obtain ⟨x2,rfl⟩:=kind_int h2
  obtain ⟨l3,ls4,rfl,h3,g4⟩:=kinds_cons g3
  obtain ⟨x3,rfl⟩:=kind_int h3
  obtain ⟨l4,ls5,rfl,h4,g5⟩:=kinds_cons g4
  obtain ⟨x4,rfl⟩:=kind_int h4
  obtain rfl:=kinds_nil g5
  exact ⟨_,rfl⟩
theorem ek98 : ∀ ls : List (Lf C),kindsB [.int .i64,.int .i64] ls=true → ∃ x,d98 ls=some x:=by
  intro ls0 g0
  obtain ⟨l0,ls1,rfl,h0,g1⟩:=kinds_cons g0
  obtain ⟨x0,rfl⟩:=kind_int h0
  obtain ⟨l1,ls2,rfl,h1,g2⟩:=kinds_cons g1
  obtain ⟨x1,rfl⟩:=kind_int h1
  obtain rfl:=kinds_nil g2
  exact ⟨_,rfl⟩
def okT : Ty→Bool
  | .e5=>true
  | .e26=>true
  | .e29=>true
  | .e36=>true
  | .e42=>true
  | .e70=>true
  | .e73=>true
  | .e76=>true
  | .e79=>true
  | .e81=>true
  | .e83=>true
  | .e89=>true
  | .e92=>true
  | .e98=>true
set_option maxRecDepth 100000 in
theorem tab_ok : Tab Go.Proofs.Try.prog KK (lk tks) okT:=by
  refine tab_of tks_ok els_ok (by kernel_rfl) fun t ht => ?_
  cases t
  · exact ⟨_,rfl,rfl,ek5⟩
  · exact ⟨_,rfl,rfl,ek26⟩
  · exact ⟨_,rfl,rfl,ek29⟩
  · exact ⟨_,rfl,rfl,ek36⟩
  · exact ⟨_,rfl,rfl,ek42⟩
  · exact ⟨_,rfl,rfl,ek70⟩
  · exact ⟨_,rfl,rfl,ek73⟩
  · exact ⟨_,rfl,rfl,ek76⟩
  · exact ⟨_,rfl,rfl,ek79⟩
  · exact ⟨_,rfl,rfl,ek81⟩
  · exact ⟨_,rfl,rfl,ek83⟩
  · exact ⟨_,rfl,rfl,ek89⟩
  · exact ⟨_,rfl,rfl,ek92⟩
  · exact ⟨_,rfl,rfl,ek98⟩
end Go.Proofs.Ytakakoogpmhhkaa.Ab

/- The plain law: the size guards and the copies of the law's own helpers. Printed out of the types. -/
set_option linter.unusedVariables false
set_option linter.unusedSimpArgs false
set_option maxRecDepth 10000
namespace Go.Proofs.Ytakakoogpmhhkaa.Ab
open Go Go.RowKit

theorem take_set {α : Type} {xs ys : List α} {i : Nat} (hi : i<xs.length) (e : xs.length=ys.length) : (xs.take i++ys.drop i).set i xs[i]=xs.take (i+1)++ys.drop (i+1):=by
  have hl : (xs.take i).length=i:=by simp; omega
  rw [List.set_append_right _ _ (by omega),hl,Nat.sub_self,List.drop_eq_getElem_cons (show i<ys.length by omega),List.set_cons_zero,← List.take_append_getElem hi,List.append_assoc]
  rfl
theorem get_mix {α : Type} {xs ys : List α} {i : Nat} (hi : i<xs.length) (e : xs.length=ys.length) : (xs.take i++ys.drop i)[((i : Int)).toNat]? = some (ys[i]'(by omega)):=by
  have hl : (xs.take i).length=i:=by simp; omega
  rw [Int.toNat_natCast,List.getElem?_append_right (by omega),hl,Nat.sub_self,List.getElem?_drop,Nat.add_zero,List.getElem?_eq_getElem (by omega)]
theorem len_mix {α : Type} {xs ys : List α} {i : Nat} (hi : i≤xs.length) (e : xs.length=ys.length) : (xs.take i++ys.drop i).length=xs.length:=by
  simp; omega
theorem max_len {n : Nat} (h : n≤maxLen) : n≤9223372036854775807:=h
theorem sub_wrap {a : Int} {n : Nat} (h0 : 0≤a) (h1 : a≤1048576) (h2 : n≤9223372036854775807) : IntKind.i64.wrap (a - (n : Int))=a - (n : Int):=wrap_id (by omega) (by omega)
/-- What a size guard says: a rest below nought,or the rest when the size is taken off. -/
def Szd (a : Int) (s : Nat) (o : Option Int) : Prop := ∃ r,o=some r∧(r<0∨(0≤r∧r+(s : Int)=a))
theorem szd_sub {a : Int} {n s : Nat} {o : Option Int} (h0 : 0≤a) (h1 : a≤1048576) (h2 : n≤9223372036854775807) (hk : 0≤IntKind.i64.wrap (a - (n : Int))→IntKind.i64.wrap (a - (n : Int))+n=a→Szd (IntKind.i64.wrap (a - (n : Int))) s o) : Szd a (n+s) (cond (decide (IntKind.i64.wrap (a - (n : Int))<0)) (some (-1)) o):=by
  rw [sub_wrap h0 h1 h2] at hk ⊢
  by_cases hc : a - (n : Int)<0
  · simp only [hc,decide_true,cond_true]
    exact ⟨-1,rfl,Or.inl (by omega)⟩
  · simp only [hc,decide_false,cond_false]
    obtain ⟨r,e,hr⟩:=hk (by omega) (by omega)
    refine ⟨r,e,hr.imp id fun ⟨x,y⟩=>⟨x,by omega⟩⟩
theorem szd_ret {a : Int} (h0 : 0≤a) : Szd a 0 (some a):=⟨a,rfl,Or.inr ⟨h0,by omega⟩⟩
theorem szd_bind {a : Int} {s t : Nat} {o : Option Int} {k : Int→Option Int} (h : Szd a s o) (hk : ∀ b,0≤b→b+(s : Int)=a→Szd b t (k b)) : Szd a (s+t) (Option.bind o fun r=>cond (decide (r<0)) (some (-1)) (k r)):=by
  obtain ⟨r,rfl,hr | ⟨x,y⟩⟩:=h
  · simp only [Option.bind_some,hr,decide_true,cond_true]
    exact ⟨-1,rfl,Or.inl (by omega)⟩
  · have : ¬ r<0:=by omega
    simp only [Option.bind_some,this,decide_false,cond_false]
    obtain ⟨r',e,hr⟩:=hk r x y
    exact ⟨r',e,hr.imp id fun ⟨x,y⟩=>⟨x,by omega⟩⟩
theorem szd_lp {α : Type} {xs : List α} {s : α→Nat} {rnd : (List α×Int×Int→Option Int)→List α×Int×Int→Option Int}
    (hend : ∀ rec a,rnd rec (xs,a,(xs.length : Int))=some a)
    (hstep : ∀ rec a t i (hi : i<xs.length),0≤a→a≤1048576→(∀ b,0≤b→b+(s xs[i] : Int)=a→Szd b t (rec (xs,b,((i+1 : Nat) : Int))))→Szd a (s xs[i]+t) (rnd rec (xs,a,(i : Int)))) :
    ∀ n i a,i≤xs.length→xs.length - i<n→0≤a→a≤1048576→Szd a (((xs.drop i).map s).sum) (lpN rnd n (xs,a,(i : Int))):=by
  intro n
  induction n with
  | zero=>intro i a _ h; omega
  | succ n ih =>
    intro i a hi hn h0 h1
    rw [lp_succ]
    rcases Nat.lt_or_ge i xs.length with h | h
    · rw [sum_drop h]
      exact hstep _ _ _ i h h0 h1 fun b hb he=>ih (i+1) b (by omega) (by omega) hb (by omega)
    · obtain rfl : i=xs.length:=by omega
      rw [hend]
      simpa using szd_ret h0
theorem w_sum {α : Type} {w s : α→Nat} (h : ∀ x,w x≤64*(1+s x)) : ∀ xs : List α,(xs.map w).sum≤64*(xs.length+(xs.map s).sum)
  | []=>by simp
  | x::t=>by have:=w_sum h t; have:=h x; simp only [List.length_cons,List.map_cons,List.sum_cons]; omega
theorem copy_lp {α : Type} {xs : List α} {rnd : (List α×List α×Int→Option (List α))→List α×List α×Int→Option (List α)}
    (hl : xs.length≤1048576) (hend : ∀ rec ys,rnd rec (xs,ys,(xs.length : Int))=some ys)
    (hstep : ∀ rec ys i (hi : i<xs.length) (hy : i<ys.length),rnd rec (xs,ys,(i : Int))=rec (xs,ys.set i xs[i],((i+1 : Nat) : Int))) (ys : List α) (e : xs.length=ys.length) : lpN rnd fuel (xs,ys,0)=some xs:=by
  have key:=lp_idx (rnd:=rnd) (st:=fun i=>(xs,xs.take i++ys.drop i,(i : Int))) (val:=fun i=>some xs) xs.length (fun rec=>by rw [hend]; simp [e,List.take_of_length_le (Nat.le_of_eq e)]) (fun rec i hi hr=>by
    rw [hstep rec _ i hi (by rw [len_mix (by omega) e]; exact hi),take_set hi e]
    exact hr) fuel 0 (Nat.zero_le _) (by have:=fuel_big2; omega)
  simpa using key

def s_StewService (x : VStewService) : Nat:=x.Name.size+(0)
def sm_StewService (x : VStewService) : Prop:=x.Name.size≤9223372036854775807∧True
def s_StewServiceS (xs : List VStewService) : Nat:=xs.length+(xs.map s_StewService).sum
theorem s_StewServiceS_len (xs : List VStewService) : xs.length≤s_StewServiceS xs:=by unfold s_StewServiceS; omega
theorem s_StewServiceS_get {xs : List VStewService} {i : Nat} (hi : i<xs.length) : s_StewService xs[i]≤s_StewServiceS xs:=by have:=sum_get (w:=s_StewService) hi; unfold s_StewServiceS; omega
theorem s_StewServiceS_mem {xs : List VStewService} {x : VStewService} (h : x ∈ xs) : s_StewService x≤s_StewServiceS xs:=by obtain ⟨i,hi,rfl⟩:=List.mem_iff_getElem.1 h; exact s_StewServiceS_get hi
theorem ws_StewService (x : VStewService) : w_StewService x≤64*(1+s_StewService x):=by
  simp only [w_StewService,s_StewService]; omega
theorem ws_StewServiceS (xs : List VStewService) : w_StewServiceS xs≤64*s_StewServiceS xs:=w_sum ws_StewService xs
theorem sm_StewService_of {x : C .e70} (h : ∀ (i : Nat) (l : Lf C),(KK.enc .e70 x)[i]? = some l→Sm KK l) : sm_StewService x:=by
  refine ⟨?_,trivial⟩
  · have:=h 0 _ rfl
    cases this; exact max_len ‹_›
theorem sm_StewServiceS_of {xs : List (C .e70)} (h : Sm KK (.row .e70 xs)) : xs.length≤9223372036854775807 ∧ ∀ y ∈ xs,sm_StewService y:=by
  cases h with
  | row _ _ hl hs =>
    refine ⟨max_len hl,fun y hy => ?_⟩
    obtain ⟨j,hj,rfl⟩:=List.mem_iff_getElem.1 hy
    exact sm_StewService_of (fun i l e=>hs j hj i l e)
theorem sz_StewService {x : VStewService} (h : sm_StewService x) {a : Int} (h0 : 0≤a) (h1 : a≤1048576) : Szd a (s_StewService x) (G40 x a):=by
  obtain ⟨m0,-⟩:=h
  unfold G40 G40n s_StewService
  refine szd_sub h0 h1 m0 fun b0 c0 => ?_
  exact szd_ret b0
theorem sz_StewServiceS {xs : List VStewService} (h : xs.length≤9223372036854775807) (hs : ∀ y ∈ xs,sm_StewService y) {a : Int} (h0 : 0≤a) (h1 : a≤1048576) : Szd a (s_StewServiceS xs) (G15 xs a):=by
  unfold G15 G15n s_StewServiceS
  refine szd_sub h0 h1 h fun b0 c0 => ?_
  refine szd_lp (rnd:=r15_0 fuel) (s:=s_StewService) (fun rec a=>by simp [r15_0]) (fun rec a t i hi h0 h1 hr => ?_) fuel 0 _ (Nat.zero_le _) (by have:=fuel_big; omega) b0 (by omega)
  have hw:=wrap_nat (i:=i) (by omega)
  have h1' : (i : Int)<(xs.length : Int):=by omega
  simp only [r15_0]
  rw [get_cast hi,hw]
  simp only [h1',decide_true,cond_true,Int.natCast_nonneg,Option.bind_some]
  exact szd_bind (sz_StewService (hs _ (List.getElem_mem hi)) h0 h1) fun b b0 b1=>hr b b0 b1
theorem to_StewService {x : VStewService} (h : s_StewService x≤1048576) : G53 x=some x:=by
  unfold s_StewService at h
  unfold G53 G53n
  rfl
theorem to_StewServiceS {xs : List VStewService} (h : s_StewServiceS xs≤1048576) : G22 xs=some xs:=by
  have hl:=s_StewServiceS_len xs
  unfold G22 G22n
  have h1 : (xs.length : Int)*112≤140737488355328:=by omega
  simp only [h1,decide_true,cond_true,Int.natCast_nonneg]
  refine copy_lp (rnd:=r22_0 fuel) (by omega) (fun rec ys=>by simp [r22_0]) (fun rec ys i hi hy => ?_) _ (by simp)
  have hw:=wrap_nat (i:=i) (by omega)
  have h1 : (i : Int)<(xs.length : Int):=by omega
  have h2 : (i : Int)<(ys.length : Int):=by omega
  have he:=to_StewService (x:=xs[i]) (by have:=s_StewServiceS_get hi; omega)
  simp only [r22_0]
  rw [get_cast hi,get_cast hy,hw]
  simp only [h1,h2,decide_true,cond_true,Int.natCast_nonneg,Option.bind_some,Int.toNat_natCast,he]
def s_StewCopy (x : VStewCopy) : Nat:=x.Service.size+(x.Berth.size+(0))
def sm_StewCopy (x : VStewCopy) : Prop:=x.Service.size≤9223372036854775807∧x.Berth.size≤9223372036854775807∧True
def s_StewCopyS (xs : List VStewCopy) : Nat:=xs.length+(xs.map s_StewCopy).sum
theorem s_StewCopyS_len (xs : List VStewCopy) : xs.length≤s_StewCopyS xs:=by unfold s_StewCopyS; omega
theorem s_StewCopyS_get {xs : List VStewCopy} {i : Nat} (hi : i<xs.length) : s_StewCopy xs[i]≤s_StewCopyS xs:=by have:=sum_get (w:=s_StewCopy) hi; unfold s_StewCopyS; omega
theorem s_StewCopyS_mem {xs : List VStewCopy} {x : VStewCopy} (h : x ∈ xs) : s_StewCopy x≤s_StewCopyS xs:=by obtain ⟨i,hi,rfl⟩:=List.mem_iff_getElem.1 h; exact s_StewCopyS_get hi
theorem ws_StewCopy (x : VStewCopy) : w_StewCopy x≤64*(1+s_StewCopy x):=by
  simp only [w_StewCopy,s_StewCopy]; omega
theorem ws_StewCopyS (xs : List VStewCopy) : w_StewCopyS xs≤64*s_StewCopyS xs:=w_sum ws_StewCopy xs
theorem sm_StewCopy_of {x : C .e73} (h : ∀ (i : Nat) (l : Lf C),(KK.enc .e73 x)[i]? = some l→Sm KK l) : sm_StewCopy x:=by
  refine ⟨?_,?_,trivial⟩
  · have:=h 0 _ rfl
    cases this; exact max_len ‹_›
  · have:=h 6 _ rfl
    cases this; exact max_len ‹_›
theorem sm_StewCopyS_of {xs : List (C .e73)} (h : Sm KK (.row .e73 xs)) : xs.length≤9223372036854775807 ∧ ∀ y ∈ xs,sm_StewCopy y:=by
  cases h with
  | row _ _ hl hs =>
    refine ⟨max_len hl,fun y hy => ?_⟩
    obtain ⟨j,hj,rfl⟩:=List.mem_iff_getElem.1 hy
    exact sm_StewCopy_of (fun i l e=>hs j hj i l e)
theorem sz_StewCopy {x : VStewCopy} (h : sm_StewCopy x) {a : Int} (h0 : 0≤a) (h1 : a≤1048576) : Szd a (s_StewCopy x) (G41 x a):=by
  obtain ⟨m0,m1,-⟩:=h
  unfold G41 G41n s_StewCopy
  refine szd_sub h0 h1 m0 fun b0 c0 => ?_
  refine szd_sub b0 (by omega) m1 fun b1 c1 => ?_
  exact szd_ret b1
theorem sz_StewCopyS {xs : List VStewCopy} (h : xs.length≤9223372036854775807) (hs : ∀ y ∈ xs,sm_StewCopy y) {a : Int} (h0 : 0≤a) (h1 : a≤1048576) : Szd a (s_StewCopyS xs) (G16 xs a):=by
  unfold G16 G16n s_StewCopyS
  refine szd_sub h0 h1 h fun b0 c0 => ?_
  refine szd_lp (rnd:=r16_0 fuel) (s:=s_StewCopy) (fun rec a=>by simp [r16_0]) (fun rec a t i hi h0 h1 hr => ?_) fuel 0 _ (Nat.zero_le _) (by have:=fuel_big; omega) b0 (by omega)
  have hw:=wrap_nat (i:=i) (by omega)
  have h1' : (i : Int)<(xs.length : Int):=by omega
  simp only [r16_0]
  rw [get_cast hi,hw]
  simp only [h1',decide_true,cond_true,Int.natCast_nonneg,Option.bind_some]
  exact szd_bind (sz_StewCopy (hs _ (List.getElem_mem hi)) h0 h1) fun b b0 b1=>hr b b0 b1
theorem to_StewCopy {x : VStewCopy} (h : s_StewCopy x≤1048576) : G54 x=some x:=by
  unfold s_StewCopy at h
  unfold G54 G54n
  rfl
theorem to_StewCopyS {xs : List VStewCopy} (h : s_StewCopyS xs≤1048576) : G23 xs=some xs:=by
  have hl:=s_StewCopyS_len xs
  unfold G23 G23n
  have h1 : (xs.length : Int)*72≤140737488355328:=by omega
  simp only [h1,decide_true,cond_true,Int.natCast_nonneg]
  refine copy_lp (rnd:=r23_0 fuel) (by omega) (fun rec ys=>by simp [r23_0]) (fun rec ys i hi hy => ?_) _ (by simp)
  have hw:=wrap_nat (i:=i) (by omega)
  have h1 : (i : Int)<(xs.length : Int):=by omega
  have h2 : (i : Int)<(ys.length : Int):=by omega
  have he:=to_StewCopy (x:=xs[i]) (by have:=s_StewCopyS_get hi; omega)
  simp only [r23_0]
  rw [get_cast hi,get_cast hy,hw]
  simp only [h1,h2,decide_true,cond_true,Int.natCast_nonneg,Option.bind_some,Int.toNat_natCast,he]
def s_StewBerth (x : VStewBerth) : Nat:=x.Name.size+(0)
def sm_StewBerth (x : VStewBerth) : Prop:=x.Name.size≤9223372036854775807∧True
def s_StewBerthS (xs : List VStewBerth) : Nat:=xs.length+(xs.map s_StewBerth).sum
theorem s_StewBerthS_len (xs : List VStewBerth) : xs.length≤s_StewBerthS xs:=by unfold s_StewBerthS; omega
theorem s_StewBerthS_get {xs : List VStewBerth} {i : Nat} (hi : i<xs.length) : s_StewBerth xs[i]≤s_StewBerthS xs:=by have:=sum_get (w:=s_StewBerth) hi; unfold s_StewBerthS; omega
theorem s_StewBerthS_mem {xs : List VStewBerth} {x : VStewBerth} (h : x ∈ xs) : s_StewBerth x≤s_StewBerthS xs:=by obtain ⟨i,hi,rfl⟩:=List.mem_iff_getElem.1 h; exact s_StewBerthS_get hi
theorem ws_StewBerth (x : VStewBerth) : w_StewBerth x≤64*(1+s_StewBerth x):=by
  simp only [w_StewBerth,s_StewBerth]; omega
theorem ws_StewBerthS (xs : List VStewBerth) : w_StewBerthS xs≤64*s_StewBerthS xs:=w_sum ws_StewBerth xs
theorem sm_StewBerth_of {x : C .e76} (h : ∀ (i : Nat) (l : Lf C),(KK.enc .e76 x)[i]? = some l→Sm KK l) : sm_StewBerth x:=by
  refine ⟨?_,trivial⟩
  · have:=h 0 _ rfl
    cases this; exact max_len ‹_›
theorem sm_StewBerthS_of {xs : List (C .e76)} (h : Sm KK (.row .e76 xs)) : xs.length≤9223372036854775807 ∧ ∀ y ∈ xs,sm_StewBerth y:=by
  cases h with
  | row _ _ hl hs =>
    refine ⟨max_len hl,fun y hy => ?_⟩
    obtain ⟨j,hj,rfl⟩:=List.mem_iff_getElem.1 hy
    exact sm_StewBerth_of (fun i l e=>hs j hj i l e)
theorem sz_StewBerth {x : VStewBerth} (h : sm_StewBerth x) {a : Int} (h0 : 0≤a) (h1 : a≤1048576) : Szd a (s_StewBerth x) (G42 x a):=by
  obtain ⟨m0,-⟩:=h
  unfold G42 G42n s_StewBerth
  refine szd_sub h0 h1 m0 fun b0 c0 => ?_
  exact szd_ret b0
theorem sz_StewBerthS {xs : List VStewBerth} (h : xs.length≤9223372036854775807) (hs : ∀ y ∈ xs,sm_StewBerth y) {a : Int} (h0 : 0≤a) (h1 : a≤1048576) : Szd a (s_StewBerthS xs) (G17 xs a):=by
  unfold G17 G17n s_StewBerthS
  refine szd_sub h0 h1 h fun b0 c0 => ?_
  refine szd_lp (rnd:=r17_0 fuel) (s:=s_StewBerth) (fun rec a=>by simp [r17_0]) (fun rec a t i hi h0 h1 hr => ?_) fuel 0 _ (Nat.zero_le _) (by have:=fuel_big; omega) b0 (by omega)
  have hw:=wrap_nat (i:=i) (by omega)
  have h1' : (i : Int)<(xs.length : Int):=by omega
  simp only [r17_0]
  rw [get_cast hi,hw]
  simp only [h1',decide_true,cond_true,Int.natCast_nonneg,Option.bind_some]
  exact szd_bind (sz_StewBerth (hs _ (List.getElem_mem hi)) h0 h1) fun b b0 b1=>hr b b0 b1
theorem to_StewBerth {x : VStewBerth} (h : s_StewBerth x≤1048576) : G55 x=some x:=by
  unfold s_StewBerth at h
  unfold G55 G55n
  rfl
theorem to_StewBerthS {xs : List VStewBerth} (h : s_StewBerthS xs≤1048576) : G24 xs=some xs:=by
  have hl:=s_StewBerthS_len xs
  unfold G24 G24n
  have h1 : (xs.length : Int)*24≤140737488355328:=by omega
  simp only [h1,decide_true,cond_true,Int.natCast_nonneg]
  refine copy_lp (rnd:=r24_0 fuel) (by omega) (fun rec ys=>by simp [r24_0]) (fun rec ys i hi hy => ?_) _ (by simp)
  have hw:=wrap_nat (i:=i) (by omega)
  have h1 : (i : Int)<(xs.length : Int):=by omega
  have h2 : (i : Int)<(ys.length : Int):=by omega
  have he:=to_StewBerth (x:=xs[i]) (by have:=s_StewBerthS_get hi; omega)
  simp only [r24_0]
  rw [get_cast hi,get_cast hy,hw]
  simp only [h1,h2,decide_true,cond_true,Int.natCast_nonneg,Option.bind_some,Int.toNat_natCast,he]
def s_StewBook (x : VStewBook) : Nat:=s_StewServiceS x.Services+(s_StewCopyS x.Copies+(s_StewBerthS x.Berths+(0)))
def sm_StewBook (x : VStewBook) : Prop:=(x.Services.length≤9223372036854775807 ∧ ∀ y ∈ x.Services,sm_StewService y)∧(x.Copies.length≤9223372036854775807 ∧ ∀ y ∈ x.Copies,sm_StewCopy y)∧(x.Berths.length≤9223372036854775807 ∧ ∀ y ∈ x.Berths,sm_StewBerth y)∧True
def s_StewBookS (xs : List VStewBook) : Nat:=xs.length+(xs.map s_StewBook).sum
theorem s_StewBookS_len (xs : List VStewBook) : xs.length≤s_StewBookS xs:=by unfold s_StewBookS; omega
theorem s_StewBookS_get {xs : List VStewBook} {i : Nat} (hi : i<xs.length) : s_StewBook xs[i]≤s_StewBookS xs:=by have:=sum_get (w:=s_StewBook) hi; unfold s_StewBookS; omega
theorem s_StewBookS_mem {xs : List VStewBook} {x : VStewBook} (h : x ∈ xs) : s_StewBook x≤s_StewBookS xs:=by obtain ⟨i,hi,rfl⟩:=List.mem_iff_getElem.1 h; exact s_StewBookS_get hi
theorem sz_StewBook {x : VStewBook} (h : sm_StewBook x) {a : Int} (h0 : 0≤a) (h1 : a≤1048576) : Szd a (s_StewBook x) (G4 x a):=by
  obtain ⟨m0,m1,m2,-⟩:=h
  unfold G4 G4n s_StewBook
  refine szd_bind (sz_StewServiceS m0.1 m0.2 h0 h1) fun x0 b0 c0 => ?_
  refine szd_bind (sz_StewCopyS m1.1 m1.2 b0 (by omega)) fun x1 b1 c1 => ?_
  refine szd_bind (sz_StewBerthS m2.1 m2.2 b1 (by omega)) fun x2 b2 c2 => ?_
  exact szd_ret b2
theorem to_StewBook {x : VStewBook} (h : s_StewBook x≤1048576) : G7 x=some x:=by
  unfold s_StewBook at h
  unfold G7 G7n
  simp only [to_StewServiceS (xs:=x.Services) (by omega),to_StewCopyS (xs:=x.Copies) (by omega),to_StewBerthS (xs:=x.Berths) (by omega),Option.bind_some]
def s_StewEnd (x : VStewEnd) : Nat:=0
def sm_StewEnd (x : VStewEnd) : Prop:=True
def s_StewEndS (xs : List VStewEnd) : Nat:=xs.length+(xs.map s_StewEnd).sum
theorem s_StewEndS_len (xs : List VStewEnd) : xs.length≤s_StewEndS xs:=by unfold s_StewEndS; omega
theorem s_StewEndS_get {xs : List VStewEnd} {i : Nat} (hi : i<xs.length) : s_StewEnd xs[i]≤s_StewEndS xs:=by have:=sum_get (w:=s_StewEnd) hi; unfold s_StewEndS; omega
theorem s_StewEndS_mem {xs : List VStewEnd} {x : VStewEnd} (h : x ∈ xs) : s_StewEnd x≤s_StewEndS xs:=by obtain ⟨i,hi,rfl⟩:=List.mem_iff_getElem.1 h; exact s_StewEndS_get hi
theorem ws_StewEnd (x : VStewEnd) : w_StewEnd x≤64*(1+s_StewEnd x):=by
  simp only [w_StewEnd,s_StewEnd]; omega
theorem ws_StewEndS (xs : List VStewEnd) : w_StewEndS xs≤64*s_StewEndS xs:=w_sum ws_StewEnd xs
theorem sm_StewEnd_of {x : C .e98} (h : ∀ (i : Nat) (l : Lf C),(KK.enc .e98 x)[i]? = some l→Sm KK l) : sm_StewEnd x:=by
  exact trivial
theorem sm_StewEndS_of {xs : List (C .e98)} (h : Sm KK (.row .e98 xs)) : xs.length≤9223372036854775807 ∧ ∀ y ∈ xs,sm_StewEnd y:=by
  cases h with
  | row _ _ hl hs =>
    refine ⟨max_len hl,fun y hy => ?_⟩
    obtain ⟨j,hj,rfl⟩:=List.mem_iff_getElem.1 hy
    exact sm_StewEnd_of (fun i l e=>hs j hj i l e)
theorem sz_StewEndS {xs : List VStewEnd} (h : xs.length≤9223372036854775807) (hs : ∀ y ∈ xs,sm_StewEnd y) {a : Int} (h0 : 0≤a) (h1 : a≤1048576) : Szd a (s_StewEndS xs) (G18 xs a):=by
  unfold G18 G18n s_StewEndS
  refine szd_sub h0 h1 h fun b0 c0 => ?_
  have e0 : ∀ ys : List VStewEnd,(ys.map s_StewEnd).sum=0:=fun ys=>by induction ys with
    | nil=>rfl
    | cons y t ih=>simp only [List.map_cons,List.sum_cons,ih,s_StewEnd]
  rw [e0]
  exact szd_ret b0
theorem to_StewEnd {x : VStewEnd} (h : s_StewEnd x≤1048576) : G56 x=some x:=by
  unfold s_StewEnd at h
  unfold G56 G56n
  rfl
theorem to_StewEndS {xs : List VStewEnd} (h : s_StewEndS xs≤1048576) : G25 xs=some xs:=by
  have hl:=s_StewEndS_len xs
  unfold G25 G25n
  have h1 : (xs.length : Int)*16≤140737488355328:=by omega
  simp only [h1,decide_true,cond_true,Int.natCast_nonneg]
  refine copy_lp (rnd:=r25_0 fuel) (by omega) (fun rec ys=>by simp [r25_0]) (fun rec ys i hi hy => ?_) _ (by simp)
  have hw:=wrap_nat (i:=i) (by omega)
  have h1 : (i : Int)<(xs.length : Int):=by omega
  have h2 : (i : Int)<(ys.length : Int):=by omega
  have he:=to_StewEnd (x:=xs[i]) (by have:=s_StewEndS_get hi; omega)
  simp only [r25_0]
  rw [get_cast hi,get_cast hy,hw]
  simp only [h1,h2,decide_true,cond_true,Int.natCast_nonneg,Option.bind_some,Int.toNat_natCast,he]
def s_StewAct (x : VStewAct) : Nat:=x.Service.size+(s_StewEndS x.Ends+(0))
def sm_StewAct (x : VStewAct) : Prop:=x.Service.size≤9223372036854775807∧(x.Ends.length≤9223372036854775807 ∧ ∀ y ∈ x.Ends,sm_StewEnd y)∧True
def s_StewActS (xs : List VStewAct) : Nat:=xs.length+(xs.map s_StewAct).sum
theorem s_StewActS_len (xs : List VStewAct) : xs.length≤s_StewActS xs:=by unfold s_StewActS; omega
theorem s_StewActS_get {xs : List VStewAct} {i : Nat} (hi : i<xs.length) : s_StewAct xs[i]≤s_StewActS xs:=by have:=sum_get (w:=s_StewAct) hi; unfold s_StewActS; omega
theorem s_StewActS_mem {xs : List VStewAct} {x : VStewAct} (h : x ∈ xs) : s_StewAct x≤s_StewActS xs:=by obtain ⟨i,hi,rfl⟩:=List.mem_iff_getElem.1 h; exact s_StewActS_get hi
theorem sz_StewAct {x : VStewAct} (h : sm_StewAct x) {a : Int} (h0 : 0≤a) (h1 : a≤1048576) : Szd a (s_StewAct x) (G5 x a):=by
  obtain ⟨m0,m1,-⟩:=h
  unfold G5 G5n s_StewAct
  refine szd_sub h0 h1 m0 fun b0 c0 => ?_
  refine szd_bind (sz_StewEndS m1.1 m1.2 b0 (by omega)) fun x1 b1 c1 => ?_
  exact szd_ret b1
theorem to_StewAct {x : VStewAct} (h : s_StewAct x≤1048576) : G8 x=some x:=by
  unfold s_StewAct at h
  unfold G8 G8n
  simp only [to_StewEndS (xs:=x.Ends) (by omega),Option.bind_some]
end Go.Proofs.Ytakakoogpmhhkaa.Ab

/- The plain law: structures that are marked and held. Printed out of the types. -/
set_option linter.unusedVariables false
set_option linter.unusedSimpArgs false
set_option maxRecDepth 10000
namespace Go.Proofs.Ytakakoogpmhhkaa.Ab
open Go Go.RowKit

def w_StewBook (x : VStewBook) : Nat:=1+w_StewServiceS x.Services+w_StewCopyS x.Copies+w_StewBerthS x.Berths
theorem ws_StewBook (x : VStewBook) : w_StewBook x≤64*(1+s_StewBook x):=by
  have:=w_sum ws_StewService x.Services
  have:=w_sum ws_StewCopy x.Copies
  have:=w_sum ws_StewBerth x.Berths
  simp only [w_StewBook,s_StewBook,w_StewBerthS,s_StewBerthS,w_StewCopyS,s_StewCopyS,w_StewServiceS,s_StewServiceS]; omega
def wl_StewBook (x : VStewBook) : Nat:=w_StewServiceS x.Services+w_StewCopyS x.Copies+w_StewBerthS x.Berths
theorem wl_le_StewBook (x : VStewBook) : wl_StewBook x≤w_StewBook x:=by unfold wl_StewBook w_StewBook; omega
theorem eq_StewBook {x : VStewBook} (h : w_StewBook x≤1152921504606846976) : G10 x x=some true:=by
  unfold w_StewBook at h
  simp only [G10,G10n,G69,G69n,G70,G70n,G71,G71n,G72,G72n,eq_StewServiceS (xs:=x.Services) (by omega),eq_StewCopyS (xs:=x.Copies) (by omega),eq_StewBerthS (xs:=x.Berths) (by omega),bne_self_eq_false,cond_false,decide_true,Bool.not_true,Option.bind_some,beq_self_eq_true]
theorem mark_StewBook {x : VStewBook} {k : Int} (h0 : 0≤k) (h : k+(wl_StewBook x : Int)≤1152921504606846976) : ∃ l0 l1 l2,G12 x k=some (l0,l1,l2,k+(wl_StewBook x : Int))∧G14 (⟨x.Now,l0,l1,l2⟩ : VStewBook) k=some (k+(wl_StewBook x : Int)):=by
  have e : k+(wl_StewBook x : Int)=k+(w_StewServiceS x.Services : Int)+(w_StewCopyS x.Copies : Int)+(w_StewBerthS x.Berths : Int):=by unfold wl_StewBook; omega
  rw [e] at h ⊢
  obtain ⟨l0,m0,h0⟩:=mark_StewServiceS (xs:=x.Services) (k:=k) (by omega) (by omega)
  have n0 : ¬ k+(w_StewServiceS x.Services : Int)<0:=by omega
  obtain ⟨l1,m1,h1⟩:=mark_StewCopyS (xs:=x.Copies) (k:=k+(w_StewServiceS x.Services : Int)) (by omega) (by omega)
  have n1 : ¬ k+(w_StewServiceS x.Services : Int)+(w_StewCopyS x.Copies : Int)<0:=by omega
  obtain ⟨l2,m2,h2⟩:=mark_StewBerthS (xs:=x.Berths) (k:=k+(w_StewServiceS x.Services : Int)+(w_StewCopyS x.Copies : Int)) (by omega) (by omega)
  have n2 : ¬ k+(w_StewServiceS x.Services : Int)+(w_StewCopyS x.Copies : Int)+(w_StewBerthS x.Berths : Int)<0:=by omega
  refine ⟨l0,l1,l2,?_,?_⟩
  · unfold G12 G12n
    simp only [m0,m1,m2,Option.bind_some]
  · unfold G14 G14n
    simp only [h0,h1,h2,n0,n1,n2,Option.bind_some,decide_false,cond_false]
def w_StewAct (x : VStewAct) : Nat:=7+w_StewEndS x.Ends
theorem ws_StewAct (x : VStewAct) : w_StewAct x≤64*(1+s_StewAct x):=by
  have:=w_sum ws_StewEnd x.Ends
  simp only [w_StewAct,s_StewAct,w_StewEndS,s_StewEndS]; omega
def wl_StewAct (x : VStewAct) : Nat:=w_StewEndS x.Ends
theorem wl_le_StewAct (x : VStewAct) : wl_StewAct x≤w_StewAct x:=by unfold wl_StewAct w_StewAct; omega
theorem eq_StewAct {x : VStewAct} (h : w_StewAct x≤1152921504606846976) : G11 x x=some true:=by
  unfold w_StewAct at h
  simp only [G11,G11n,G69,G69n,G70,G70n,G71,G71n,G72,G72n,eq_StewEndS (xs:=x.Ends) (by omega),bne_self_eq_false,cond_false,decide_true,Bool.not_true,Option.bind_some,beq_self_eq_true]
theorem mark_StewAct {x : VStewAct} {k : Int} (h0 : 0≤k) (h : k+(wl_StewAct x : Int)≤1152921504606846976) : ∃ l0,G13 x k=some (l0,k+(wl_StewAct x : Int)):=by
  have e : k+(wl_StewAct x : Int)=k+(w_StewEndS x.Ends : Int):=by unfold wl_StewAct; omega
  rw [e] at h ⊢
  obtain ⟨l0,m0⟩:=markO_StewEndS (xs:=x.Ends) (k:=k) (by omega) (by omega)
  have n0 : ¬ k+(w_StewEndS x.Ends : Int)<0:=by omega
  refine ⟨l0,?_⟩
  · unfold G13 G13n
    simp only [m0,Option.bind_some]
end Go.Proofs.Ytakakoogpmhhkaa.Ab

/- The plain law of StewApply: what a valid book tells; the two answers are one. -/
set_option linter.unusedVariables false
set_option linter.unusedSimpArgs false
set_option maxRecDepth 10000
namespace Go.Proofs.Ytakakoogpmhhkaa.Ab
open Go Go.RowKit

theorem ord_lt {ss : List VStewService} {now : Int} (h : allN (pAt (fun s=>svB s now) (fun d s=>slt d.Name s.Name) ss) ss.length 0=true) : ∀ (n i : Nat) (hi : i+n+1<ss.length),slt (ss[i]'(by omega)).Name (ss[i+n+1]'hi).Name=true:=by
  intro n
  induction n with
  | zero =>
    intro i hi
    have:=allN_get h (i:=i+1) (by omega)
    rw [pAt_eq (by omega)] at this
    simp only [Bool.and_eq_true,Bool.or_eq_true,decide_eq_true_eq,Nat.add_sub_cancel] at this
    rcases this.2 with e | e
    · omega
    · exact e
  | succ n ih =>
    intro i hi
    have h1:=ih i (by omega)
    have:=allN_get h (i:=i+n+1+1) (by omega)
    rw [pAt_eq (by omega)] at this
    simp only [Bool.and_eq_true,Bool.or_eq_true,decide_eq_true_eq,Nat.add_sub_cancel] at this
    rcases this.2 with e | e
    · omega
    · exact slt_trans h1 e
theorem facts {b : VStewBook} {A : VStewAct} {k : Nat} (h1 : b.Services.length≤1048576) (h3 : b.Berths.length≤1048576) (hk : k<b.Services.length) (hp : posL (svP A.Service) b.Services 0=(k : Int)) (hn : b.Services[k].Name=A.Service) (hv : vB b=true) (hf : fmB A=true) : Facts b A b.Services[k] k:=by
  unfold vB at hv
  simp only [Bool.and_eq_true] at hv
  obtain ⟨v1,v2,v3,v4,v5,v6,v7⟩:=hv
  unfold fmB at hf
  simp only [Bool.and_eq_true] at hf
  obtain ⟨f1,f2,f3,f4⟩:=hf
  have n:=inB_iff.1 v1
  have c:=inB_iff.1 f1
  have lc : b.Copies.length≤200:=by simp at v3; omega
  have le : A.Ends.length≤200:=by simp at f2; omega
  have sv : ∀ (i : Nat) (hi : i<b.Services.length),svB b.Services[i] b.Now=true:=fun i hi=>by
    have:=allN_get v5 hi
    rw [pAt_eq hi] at this
    simp only [Bool.and_eq_true] at this
    exact this.1
  have nx:=sv k hk
  unfold svB at nx
  simp only [Bool.and_eq_true] at nx
  have nx:=inB_iff.1 nx.2.2.2.1
  refine ⟨h1,by omega,h3,by omega,n.1,n.2,hk,List.getElem?_eq_getElem hk,hn,hp,by omega,nx.2,c.1,by omega,?_,?_,?_⟩
  · intro x hx e
    obtain ⟨i,hi,rfl⟩:=List.mem_iff_getElem.1 hx
    have:=allN_get v7 hi
    rw [pAt_eq hi] at this
    simp only [Bool.and_eq_true] at this
    have:=this.1
    unfold cpB at this
    rw [e,hn,hp,Int.toNat_natCast,List.getElem?_eq_getElem hk] at this
    simp only [Bool.and_eq_true] at this
    have q:=inB_iff.1 this.2.1
    rw [wrap_id (by omega) (by omega)] at q
    omega
  · intro j t ht
    obtain ⟨hj,rfl⟩:=List.getElem?_eq_some_iff.1 ht
    constructor
    · intro e
      rcases Nat.lt_trichotomy j k with h | h | h
      · have:=ord_lt v5 (k - j - 1) j (by omega)
        have e2 : b.Services[j+(k - j - 1)+1]'(by omega)=b.Services[k]:=by congr 1; omega
        rw [e2,e,hn,slt_irr] at this
        cases this
      · exact h
      · have:=ord_lt v5 (j - k - 1) k (by omega)
        have e2 : b.Services[k+(j - k - 1)+1]'(by omega)=b.Services[j]:=by congr 1; omega
        rw [e2,e,hn,slt_irr] at this
        cases this
    · intro e; subst e; exact hn
  · intro hD
    unfold tlF at f4
    rw [hD] at f4
    simp only [Bool.and_eq_true,Bool.not_true,Bool.false_or,beq_iff_eq,Bool.not_eq_true'] at f4
    exact ⟨f4.2.1,f4.2.2.1,List.eq_nil_of_length_eq_zero (by omega)⟩
/-- The search of the service in the implementation. -/
theorem lp9_0 {b : VStewBook} {A : VStewAct} (h1 : b.Services.length≤1048576) (n : Nat) (e27 : G27 (⟨b.Now,b.Services,b.Copies,b.Berths⟩ : VStewBook)=some b) :
    lpN (r9_0 A.Service (b.Services.length : Int) b.Now b.Services b.Copies b.Berths A.Service A.Seen A.Create A.Want A.Cool A.Scale A.Ends A.Drop b.Now b.Services b.Copies b.Berths n) fuel 0 =
      cond (decide (posL (svP A.Service) b.Services 0<0)) (some (b,3)) (lpN (r9_1 b.Services (posL (svP A.Service) b.Services 0).toNat A.Ends (A.Ends.length : Int) b.Now b.Copies b.Berths A.Service A.Seen A.Create A.Want A.Cool A.Scale A.Ends A.Drop b.Now b.Services b.Copies b.Berths n) n 0):=by
  have n3 : ((3 : Nat) != 0)=true:=rfl
  refine pos_lp (p:=svP A.Service) (xs:=b.Services) (st:=fun j=>((j : Nat) : Int)) h1 (fun k=>lpN (r9_1 b.Services k A.Ends (A.Ends.length : Int) b.Now b.Copies b.Berths A.Service A.Seen A.Create A.Want A.Cool A.Scale A.Ends A.Drop b.Now b.Services b.Copies b.Berths n) n 0) (some (b,3)) (fun rec => ?_) (fun rec j hj => ?_)
  · simp only [r9_0,Int.lt_irrefl,decide_false,cond_false,n3,cond_true,e27,Option.bind_some]
  · have b2 : ((j : Nat) : Int)<(b.Services.length : Int):=by omega
    simp only [r9_0,b2,decide_true,cond_true,Int.natCast_nonneg,List.getElem?_eq_getElem hj,Option.bind_some,Int.toNat_natCast,wrap_nat (show j<4611686018427387904 by omega),svP]
/-! ### Something comes out -/
def TT (o : Option (VStewBook×Int)) : Prop := ∃ R0 R1,o=some (R0,R1)∧w_StewBook R0≤1000000000000000
theorem tt_cond {c : Bool} {x y : Option (VStewBook×Int)} (hx : TT x) (hy : TT y) : TT (cond c x y):=by cases c; exact hy; exact hx
theorem wS_len (xs : List VStewService) : w_StewServiceS xs=13*xs.length:=by
  unfold w_StewServiceS
  induction xs with
  | nil=>rfl
  | cons x xs ih=>simp only [List.map_cons,List.sum_cons,ih,List.length_cons,w_StewService]; omega
theorem wC_len (xs : List VStewCopy) : w_StewCopyS xs=7*xs.length:=by
  unfold w_StewCopyS
  induction xs with
  | nil=>rfl
  | cons x xs ih=>simp only [List.map_cons,List.sum_cons,ih,List.length_cons,w_StewCopy]; omega
theorem wB_len (xs : List VStewBerth) : w_StewBerthS xs=2*xs.length:=by
  unfold w_StewBerthS
  induction xs with
  | nil=>rfl
  | cons x xs ih=>simp only [List.map_cons,List.sum_cons,ih,List.length_cons,w_StewBerth]; omega
theorem w_lens {b : VStewBook} (h1 : b.Services.length≤1048576) (h2 : b.Copies.length≤1048576) (h3 : b.Berths.length≤1048576) : w_StewBook b≤1000000000000000:=by
  unfold w_StewBook
  rw [wS_len,wC_len,wB_len]; omega
theorem lp_tot {B : Type} {rnd : (B→Option (VStewBook×Int))→B→Option (VStewBook×Int)} {len : Nat} (I : Nat→B→Prop) (hend : ∀ rec x,I len x→TT (rnd rec x)) (hstep : ∀ rec i x,i<len→I i x→(∀ y,I (i+1) y→TT (rec y))→TT (rnd rec x)) :
    ∀ n i x,i≤len→len - i<n→I i x→TT (lpN rnd n x):=by
  intro n
  induction n with
  | zero=>intro i x _ h; omega
  | succ n ih =>
    intro i x hi hn hx
    rw [lp_succ]
    rcases Nat.lt_or_ge i len with h | h
    · exact hstep _ i x h hx fun y hy=>ih (i+1) y (by omega) (by omega) hy
    · have e : i=len:=by omega
      subst e
      exact hend _ x hx
section
variable {b : VStewBook} {A : VStewAct} {s : VStewService} {k : Nat} {cs : List VStewCopy}
theorem tt_b (F : Facts b A s k) (n : Int) : TT (some (b,n)):=⟨_,_,rfl,w_lens F.h1 (by have:=F.h2; omega) F.h3⟩
theorem tt_tl (F : Facts b A s k) (h : cs.map keyC=b.Copies.map keyC) : TT (tlA b A s k cs):=by
  have hl:=key_len h
  have q:=F.h2
  have c0:=F.c0
  have c1:=F.c1
  have h1:=F.h1
  have hM : ∀ W Co,TT (finM b A s k cs W Co):=fun W Co=>⟨_,_,rfl,w_lens (by simp [outB]; omega) (by
    show (insL (lead (leP s.Name) cs) cs (news (vOf b) s A.Create.toNat)).length≤_
    rw [insL_len (lead_le _ _),news_len]; omega) F.h3⟩
  have hD : TT (finD b k cs):=⟨_,_,rfl,w_lens (by simp [outB]; omega) (by show cs.length≤_; omega) F.h3⟩
  have h7 : ∀ y,TT y→TT (f7 b A s y):=fun y hy=>tt_cond (tt_b F _) (tt_cond (tt_b F _) (tt_cond (tt_b F _) hy))
  have hS : ∀ y,TT y→TT (fS b A s y):=fun y hy=>tt_cond (tt_b F _) (tt_cond (tt_b F _) hy)
  have hC : ∀ W y,TT y→TT (fC b A s cs W y):=fun W y hy=>tt_cond (tt_cond (tt_b F _) (tt_cond (tt_b F _) hy)) hy
  have hDr : ∀ y,TT y→TT (fD b s cs y):=fun y hy=>tt_cond (tt_b F _) (tt_cond (tt_b F _) hy)
  exact tt_cond (hDr _ (h7 _ hD)) (tt_cond (hC _ _ (hS _ (h7 _ (hM _ _)))) (hC _ _ (h7 _ (hM _ _))))
theorem tt_rnd {p : Int} {go : List VStewCopy→Option (VStewBook×Int)} (F : Facts b A s k) (h : cs.map keyC=b.Copies.map keyC) (hp : p<0∨p.toNat<cs.length) (hgo : ∀ x : List VStewCopy,x.map keyC=b.Copies.map keyC→TT (go x)) : TT (rndAt b s cs p go):=by
  unfold rndAt rndE
  by_cases h0 : p<0
  · simp only [h0,decide_true,cond_true]; exact tt_b F _
  · have hj : p.toNat<cs.length:=by omega
    simp only [h0,decide_false,cond_false,List.getElem?_eq_getElem hj]
    exact tt_cond (hgo _ (by rw [end_key (List.getElem?_eq_getElem hj),h])) (tt_b F _)
theorem pos_in {α : Type} (p : α→Bool) (xs : List α) : posL p xs 0<0∨(posL p xs 0).toNat<xs.length:=by
  rcases posL_cases p xs with ⟨e,_⟩ | ⟨j,hj,e,_⟩ <;> rw [e]
  · left; omega
  · right; simpa using hj
theorem tt_loop2 (F : Facts b A s k) : TT (lpN (r6_2 ((k : Nat) : Int) (vOf b) b.Now b.Services b.Copies b.Berths A.Service A.Create A.Want A.Cool A.Scale A.Ends A.Drop b.Now b.Services b.Berths fuel) fuel (0,b.Copies)):=by
  refine lp_tot (len:=A.Ends.length) (fun i (x : Int×List VStewCopy)=>x.1=(i : Int)∧x.2.map keyC=b.Copies.map keyC∧(A.Ends=[]→x.2=b.Copies)) (fun rec x hx => ?_) (fun rec i x hi hx hr => ?_) fuel 0 (0,b.Copies) (Nat.zero_le _) (by have:=fuel_big; have:=F.he; omega) ⟨rfl,rfl,fun _=>rfl⟩
  · obtain ⟨i0,cs⟩:=x
    obtain ⟨h0,hk,hd⟩:=hx
    simp only at h0 hk hd
    subst h0
    rw [spec_tail F hk hd _ (by omega) rec]
    exact tt_tl F hk
  · obtain ⟨i0,cs⟩:=x
    obtain ⟨h0,hk,hd⟩:=hx
    simp only at h0 hk hd
    subst h0
    rw [spec_rnd F hk fuel i hi rec]
    exact tt_rnd F hk (pos_in _ _) fun x hx=>hr _ ⟨rfl,hx,fun e=>by rw [e] at hi; simp at hi⟩
theorem tt_end1 (n : Nat) (i : Int) (hi : ¬ i<(A.Ends.length : Int)) (r' : A9_3→Option (VStewBook×Int))
    (h : TT (lpN (r9_7 b.Services k A.Ends (A.Ends.length : Int) b.Now b.Berths A.Service A.Seen A.Create A.Want A.Cool A.Scale A.Ends A.Drop b.Now b.Services b.Copies b.Berths n) n (0,b.Copies))) :
    TT (r9_3 b.Services k A.Ends (A.Ends.length : Int) b.Now b.Copies b.Berths A.Service A.Seen A.Create A.Want A.Cool A.Scale A.Ends A.Drop b.Now b.Services b.Copies b.Berths n r' i):=by
  simp only [r9_3,hi,decide_false,cond_false]
  exact h
theorem tt_end0 (F : Facts b A s k) (n : Nat) (i : Int) (hi : ¬ i<(A.Ends.length : Int)) (r : A6_0→Option (VStewBook×Int))
    (h : TT (lpN (r6_1 ((k : Nat) : Int) b.Now b.Services b.Copies b.Berths A.Service A.Create A.Want A.Cool A.Scale A.Ends A.Drop n) n 0)) :
    TT (r6_0 ((k : Nat) : Int) b.Now b.Services b.Copies b.Berths A.Service A.Seen A.Create A.Want A.Cool A.Scale A.Ends A.Drop n r i):=by
  have e21 : G21 (⟨b.Now,b.Services,b.Copies,b.Berths⟩ : VStewBook)=some b:=g21 (b:=b) F.h1 (by have:=F.h2; omega) F.h3
  simp only [r6_0,hi,decide_false,cond_false,Int.natCast_nonneg,decide_true,cond_true,Int.toNat_natCast,F.hs,e21,Option.bind_some]
  exact tt_cond (tt_b F _) h
theorem tt_loop1 (F : Facts b A s k) (hall : ∀ i (hi : i<A.Ends.length),¬ posL (cpP A.Service A.Ends[i].Number) b.Copies 0<0) : TT (lpN (r6_1 ((k : Nat) : Int) b.Now b.Services b.Copies b.Berths A.Service A.Create A.Want A.Cool A.Scale A.Ends A.Drop fuel) fuel 0):=by
  refine lp_tot (len:=A.Ends.length) (fun i (x : Int)=>x=(i : Int)) (fun rec x hx => ?_) (fun rec i x hi hx hr => ?_) fuel 0 0 (Nat.zero_le _) (by have:=fuel_big; have:=F.he; omega) rfl
  · subst hx
    rw [loop1_end F fuel _ (by omega) rec (fun _=>none) (loop2 F)]
    have hi : ¬ (A.Ends.length : Int)<(A.Ends.length : Int):=by omega
    have h:=tt_loop2 F
    rw [loop2 F] at h
    exact tt_end1 fuel _ hi _ h
  · subst hx
    rw [spec_rnd1 F fuel i hi rec]
    unfold rndS
    have h0:=hall i hi
    simp only [h0,decide_false,cond_false]
    rcases pos_in (cpP A.Service A.Ends[i].Number) b.Copies with h | h
    · exact absurd h h0
    · rw [List.getElem?_eq_getElem h]
      exact tt_cond (tt_b F _) (hr _ rfl)
theorem tt_loop0 (F : Facts b A s k) : TT (lpN (r6_0 ((k : Nat) : Int) b.Now b.Services b.Copies b.Berths A.Service A.Seen A.Create A.Want A.Cool A.Scale A.Ends A.Drop fuel) fuel 0):=by
  refine lp_tot (len:=A.Ends.length) (fun i (x : Int)=>x=(i : Int) ∧ ∀ j (hj : j<A.Ends.length),j<i → ¬ posL (cpP A.Service A.Ends[j].Number) b.Copies 0<0) (fun rec x hx => ?_) (fun rec i x hi hx hr => ?_) fuel 0 0 (Nat.zero_le _) (by have:=fuel_big; have:=F.he; omega) ⟨rfl,fun j _ h=>by omega⟩
  · obtain ⟨h0,hall⟩:=hx
    subst h0
    exact tt_end0 F fuel _ (by omega) rec (tt_loop1 F fun i hi=>hall i hi hi)
  · obtain ⟨h0,hall⟩:=hx
    subst h0
    rw [spec_rnd0 F fuel i hi rec]
    unfold rndN
    by_cases hp : posL (cpP A.Service A.Ends[i].Number) b.Copies 0<0
    · simp only [hp,decide_true,cond_true]; exact tt_b F _
    · simp only [hp,decide_false,cond_false]
      exact hr _ ⟨rfl,fun j hj hji=>by
        rcases Nat.lt_or_ge j i with h | h
        · exact hall j hj h
        · have : j=i:=by omega
          subst this; exact hp⟩
end
/-! ### The law -/
theorem law_n (n : Nat) {a0 : VStewBook} {a1 : VStewAct} (h1 : a0.Services.length≤1048576) (h2 : a0.Copies.length≤1048576) (h3 : a0.Berths.length≤1048576) (h4 : a1.Ends.length≤1048576)
    (hs : ∀ k : Nat,posL (svP a1.Service) a0.Services 0=(k : Int)→(hk : k<a0.Services.length)→vB a0=true→fmB a1=true →
      lpN (r6_0 ((k : Nat) : Int) a0.Now a0.Services a0.Copies a0.Berths a1.Service a1.Seen a1.Create a1.Want a1.Cool a1.Scale a1.Ends a1.Drop n) n 0 =
        lpN (r9_1 a0.Services k a1.Ends (a1.Ends.length : Int) a0.Now a0.Copies a0.Berths a1.Service a1.Seen a1.Create a1.Want a1.Cool a1.Scale a1.Ends a1.Drop a0.Now a0.Services a0.Copies a0.Berths n) n 0 ∧
      TT (lpN (r6_0 ((k : Nat) : Int) a0.Now a0.Services a0.Copies a0.Berths a1.Service a1.Seen a1.Create a1.Want a1.Cool a1.Scale a1.Ends a1.Drop n) n 0))
    (h9 : lpN (r9_0 a1.Service (a0.Services.length : Int) a0.Now a0.Services a0.Copies a0.Berths a1.Service a1.Seen a1.Create a1.Want a1.Cool a1.Scale a1.Ends a1.Drop a0.Now a0.Services a0.Copies a0.Berths n) n 0 =
      cond (decide (posL (svP a1.Service) a0.Services 0<0)) (some (a0,3)) (lpN (r9_1 a0.Services (posL (svP a1.Service) a0.Services 0).toNat a1.Ends (a1.Ends.length : Int) a0.Now a0.Copies a0.Berths a1.Service a1.Seen a1.Create a1.Want a1.Cool a1.Scale a1.Ends a1.Drop a0.Now a0.Services a0.Copies a0.Berths n) n 0)) :
    G6n n a0 a1=G9n n a0 a1∧TT (G6n n a0 a1):=by
  have n2 : ((2 : Nat) != 0)=true:=rfl
  have tb : ∀ n : Int,TT (some (a0,n)):=fun n=>⟨_,_,rfl,w_lens h1 h2 h3⟩
  unfold G6n G9n
  rw [g19 h1 h2 h3,g26 h1 h2 h3,g62,g48 h4,g49 h1,g21 h1 h2 h3,g27 h1 h2 h3]
  simp only [Option.bind_some]
  cases hv : vB a0 with
  | false=>exact ⟨rfl,_,_,rfl,by simp [w_StewBook,w_StewServiceS,w_StewCopyS,w_StewBerthS]⟩
  | true =>
    cases hf : fmB a1 with
    | false=>simp only [Bool.not_true,Bool.not_false,cond_false,cond_true,n2]; exact ⟨trivial,tb 2⟩
    | true =>
      simp only [Bool.not_true,cond_false,h9]
      rcases posL_cases (svP a1.Service) a0.Services with ⟨e,_⟩ | ⟨k,hk,e,_⟩
      · have z : ((-1 : Int)<0):=by omega
        simp only [e,z,decide_true,cond_true]
        exact ⟨trivial,tb 3⟩
      · have b1 : ¬ ((k : Nat) : Int)<0:=by omega
        simp only [e,b1,decide_false,cond_false,Int.toNat_natCast]
        exact hs k e hk hv hf
theorem law_of {a0 : VStewBook} {a1 : VStewAct} (h1 : a0.Services.length≤1048576) (h2 : a0.Copies.length≤1048576) (h3 : a0.Berths.length≤1048576) (h4 : a1.Ends.length≤1048576) : G6 a0 a1=G9 a0 a1∧TT (G6 a0 a1) :=
  law_n fuel h1 h2 h3 h4 (fun k e hk hv hf=>by
    have hn : a0.Services[k].Name=a1.Service:=by
      rcases posL_cases (svP a1.Service) a0.Services with ⟨e',_⟩ | ⟨j,hj,e',hp,_⟩
      · rw [e] at e'; omega
      · rw [e] at e'
        have : k=j:=by omega
        subst this
        simpa [svP] using hp
    have F:=facts h1 h3 hk e hn hv hf
    exact ⟨loop0 F,tt_loop0 F⟩) (lp9_0 h1 fuel (g27 (b:=a0) h1 h2 h3))
theorem main3 (a0 : VStewBook) (a1 : VStewAct) (t0 : s_StewBook a0≤1048576) (t1 : s_StewAct a1≤1048576) : ∃ R0 R1,G6 a0 a1=some (R0,R1)∧G9 a0 a1=some (R0,R1)∧w_StewBook R0≤1000000000000000∧True:=by
  have h1 : a0.Services.length≤1048576:=by have:=s_StewServiceS_len a0.Services; unfold s_StewBook at t0; omega
  have h2 : a0.Copies.length≤1048576:=by have:=s_StewCopyS_len a0.Copies; unfold s_StewBook at t0; omega
  have h3 : a0.Berths.length≤1048576:=by have:=s_StewBerthS_len a0.Berths; unfold s_StewBook at t0; omega
  have h4 : a1.Ends.length≤1048576:=by have:=s_StewEndS_len a1.Ends; unfold s_StewAct at t1; omega
  have hb:=w_lens h1 h2 h3
  have key : G6 a0 a1=G9 a0 a1∧TT (G6 a0 a1):=law_of h1 h2 h3 h4
  obtain ⟨hk,R0,R1,e,hw⟩:=key
  exact ⟨R0,R1,e,hk ▸ e,hw,trivial⟩
end Go.Proofs.Ytakakoogpmhhkaa.Ab

/- The plain law: the function of FnExactStewApply is true. Printed. -/
set_option linter.unusedVariables false
set_option linter.unusedSimpArgs false
set_option maxRecDepth 10000
namespace Go.Proofs.Ytakakoogpmhhkaa.Ab
open Go Go.RowKit

theorem sm_str {s : ByteArray} (h : Sm KK (.str s)) : s.size≤9223372036854775807:=by
  cases h; exact max_len ‹_›
theorem pure3 (a0 : VStewBook) (a1 : VStewAct) (h0_0 : Sm KK (.int .i64 a0.Now)) (h0_1 : Sm KK (.row .e70 a0.Services)) (h0_2 : Sm KK (.row .e73 a0.Copies)) (h0_3 : Sm KK (.row .e76 a0.Berths)) (h1_0 : Sm KK (.str a1.Service)) (h1_1 : Sm KK (.int .i64 a1.Seen)) (h1_2 : Sm KK (.int .i64 a1.Create)) (h1_3 : Sm KK (.int .i64 a1.Want)) (h1_4 : Sm KK (.int .i64 a1.Cool)) (h1_6 : Sm KK (.row .e98 a1.Ends)) : G3 a0 a1=some true:=by
  unfold G3 G3n
  obtain ⟨r1,e1,q1 | ⟨p1,q1⟩⟩:=sz_StewBook (x:=a0) ⟨sm_StewServiceS_of h0_1,sm_StewCopyS_of h0_2,sm_StewBerthS_of h0_3,trivial⟩ (a:=1048576) (by omega) (by omega)
  · simp only [e1,q1,Option.bind_some,decide_true,decide_false,cond_true,cond_false]
  have n1 : ¬ r1<0:=by omega
  obtain ⟨r2,e2,q2 | ⟨p2,q2⟩⟩:=sz_StewAct (x:=a1) ⟨sm_str h1_0,sm_StewEndS_of h1_6,trivial⟩ (a:=r1) p1 (by omega)
  · simp only [e1,n1,e2,q2,Option.bind_some,decide_true,decide_false,cond_true,cond_false]
  have n2 : ¬ r2<0:=by omega
  have t0 : s_StewBook a0≤1048576:=by omega
  have t1 : s_StewAct a1≤1048576:=by omega
  obtain ⟨R0,R1,sp,im,b0,-⟩:=main3 a0 a1 t0 t1
  have w0:=ws_StewBook a0
  have v0:=wl_le_StewBook a0
  obtain ⟨y0_0,y0_1,y0_2,m0,-⟩:=mark_StewBook (x:=a0) (k:=1) (by omega) (by omega)
  have w1:=ws_StewAct a1
  have v1:=wl_le_StewAct a1
  obtain ⟨y1_0,m1⟩:=mark_StewAct (x:=a1) (k:=1+(wl_StewBook a0 : Int)) (by omega) (by omega)
  have nk : ¬ 1+(wl_StewBook a0 : Int)+(wl_StewAct a1 : Int)<0:=by omega
  have x0:=wl_le_StewBook R0
  obtain ⟨z0_0,z0_1,z0_2,u0,g0⟩:=mark_StewBook (x:=R0) (k:=1) (by omega) (by omega)
  have o0 : ¬ 1+(wl_StewBook R0 : Int)<0:=by omega
  simp only [e1,n1,e2,n2,sp,im,to_StewBook t0,eq_StewBook (x:=a0) (by omega),m0,to_StewAct t1,eq_StewAct (x:=a1) (by omega),m1,nk,eq_StewBook (x:=R0) (by omega),u0,g0,o0,Option.bind_some,decide_false,decide_true,cond_false,cond_true,Bool.not_true,Bool.not_false,bne_self_eq_false,beq_self_eq_true,eq_self_iff_true,alt_self]
end Go.Proofs.Ytakakoogpmhhkaa.Ab

