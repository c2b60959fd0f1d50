/- The abstract machine: function values and interface values: they are made, they are called. -/
import Derived.Test.YtkiognopoigbhaaAi1
set_option linter.unusedVariables false
set_option linter.unusedSimpArgs false
set_option linter.unusedSectionVars false
namespace Go.Proofs.Ytkiognopoigbhaa.Ab
open Go Go.RowKit

section
variable {Ty : Type} [DecidableEq Ty] {C : Ty → Type}
variable {P : Program} {X : Cx C} {K : Cd C} {w0 w : World} {nt : Nat} {S : St C} {β : Nat → Value} {fp : Nat → Nat → Prop} {a : Act} {R : Type} {k : St C → Option R} {r : R}
variable {dst : Option Tmp} {ty : TypeId} {pos : String} {aft : Array Edge} {gd : Option (Nat × Bool)} {Q : Exit → Act → World → Prop} {objs : Objs C} {stb : Nat → Prop}

theorem take_left {α : Type} {l l' : List α} {n : Nat} (h : l.length = n) : (l ++ l').take n = l := by subst h; simp
theorem drop_left {α : Type} {l l' : List α} {n : Nat} (h : l.length = n) : (l ++ l').drop n = l' := by subst h; simp
theorem leaves_pack : ∀ {vs : List (SV C)} {us : List Value}, AllV vs → SVsOk K w objs β fp stb vs us → ∃ fs, LfsOk K w objs β fp stb (leavesOf vs) fs ∧ packSh (shOf vs) fs = us
  | [], us, _, h => by
    obtain rfl : us = [] := by have := h.1; simpa using this
    exact ⟨[], ⟨rfl, fun i l h => by simp [leavesOf] at h⟩, rfl⟩
  | v :: vs, us, ha, h => by
    obtain ⟨u, us, rfl⟩ : ∃ u us', us = u :: us' := by
      cases us with
      | nil => have := h.1; simp at this
      | cons u us => exact ⟨u, us, rfl⟩
    have h' : SVsOk K w objs β fp stb vs us := ⟨by have := h.1; simpa using this, fun i v hi => h.2 (i + 1) v (by simpa using hi)⟩
    obtain ⟨fs, q1, q2⟩ := leaves_pack (fun i v hi => ha (i + 1) v (by simpa using hi)) h'
    have h0 : SVOk K w objs β fp stb v u := h.2 0 v rfl
    have hok := ha 0 v rfl
    cases v with
    | one l =>
      refine ⟨u :: fs, ⟨by simp [leavesOf, SV.leaves, q1.1], fun i l' hi => ?_⟩, by simp [shOf, packSh, q2]⟩
      cases i with
      | zero => simp [leavesOf, SV.leaves] at hi; subst hi; exact h0
      | succ i => exact q1.2 i l' (by simpa [leavesOf, SV.leaves] using hi)
    | agg ls =>
      obtain ⟨vs0, rfl, hv⟩ := h0
      refine ⟨vs0 ++ fs, ⟨by simp [leavesOf, SV.leaves, q1.1, hv.1], fun i l' hi => ?_⟩, ?_⟩
      · simp only [leavesOf, SV.leaves, List.getElem?_append] at hi
        have e : (vs0 ++ fs).getD i undef = if i < vs0.length then vs0.getD i undef else fs.getD (i - vs0.length) undef := by
          simp only [List.getD_eq_getElem?_getD, List.getElem?_append]
          split <;> rfl
        rw [e, hv.1]
        split at hi
        · rename_i hlt; rw [if_pos hlt]; exact hv.2 i l' hi
        · rename_i hlt; rw [if_neg hlt]; exact q1.2 _ l' hi
      · simp only [shOf, packSh, cond_true, take_left hv.1, drop_left hv.1, q2]
    | _ => cases hok
theorem idsLs_append : ∀ (l l' : List (Lf C)), idsLs (l ++ l') = idsLs l ++ idsLs l'
  | [], _ => rfl
  | x :: l, l' => by simp [idsLs, idsLs_append l l']
theorem leavesOf_append : ∀ (l l' : List (SV C)), leavesOf (l ++ l') = leavesOf l ++ leavesOf l'
  | [], _ => rfl
  | x :: l, l' => by simp [leavesOf, leavesOf_append l l']
theorem argsI_ids : ∀ {xs : List Operand} {ts : List TypeId} {vs : List (SV C)}, argsI X S xs ts = some vs → ∀ id, id ∈ idsLs (leavesOf vs) → id ∈ idsE0 S.env
  | [], ts, vs, h, id, hi => by simp only [argsI, Option.some.injEq] at h; subst h; simp [leavesOf, idsLs] at hi
  | x :: xs, ts, vs, h, id, hi => by
    simp only [argsI] at h
    split at h
    · rename_i l hv
      split at h
      · rename_i vs' hr
        cases h
        simp only [leavesOf, idsLs_append, List.mem_append] at hi
        rcases hi with hi | hi
        · exact opdT_ids hv (leaves_ids hi)
        · exact argsI_ids hr id hi
      · cases h
    · rename_i l hv
      split at h
      · rename_i vs' hr
        cases h
        simp only [leavesOf, idsLs_append, List.mem_append] at hi
        rcases hi with hi | hi
        · exact opdT_ids hv (leaves_ids hi)
        · exact argsI_ids hr id hi
      · cases h
    · cases h
/-- A new thing without a place in memory. -/
theorem new_vo (hs : Sim X.K w0 nt S β fp a w) (hd : slot dst nt) {id : Nat} {kd : VT} {ls : List (Lf C)} {fs : List Value} {hv : Value} {S' : St C} (hadd : S.add id (.box kd ls) = some S')
    (hkd : (∃ f n sh, kd = .clo f n sh ∧ hv = cloV f n sh fs) ∨ ∃ t sh, kd = .ifc t sh ∧ hv = ifcV t sh fs)
    (hl : LfsOk X.K w S.objs β fp (stbOf S.objs fp w) ls fs) (hids : ∀ i, i ∈ idsLs ls → i ∈ idsE0 S.env) (hk : k (S'.put dst (.one (.vo id))) = some r) :
    Next X.K w0 nt k r (a.put dst hv) w := by
  obtain ⟨hn, rfl⟩ := add_some hadd
  have hw : Below w.heap.size w w := Below.refl _ _
  have hl' := lfs_new hs hw (id := id) (ob := .box kd ls) (hv := hv) (F := fun _ => False) (fun k hk => hk.elim) hl (fun hm => hn.1 (hids _ hm))
  have h2 := hs.addNew hw hn (ob := .box kd ls) (hv := hv) (F := fun _ => False) (fun k hk => hk.elim) (by
    rcases hkd with ⟨f, n, sh, rfl, rfl⟩ | ⟨t, sh, rfl, rfl⟩
    · exact ⟨fs, rfl, fun k hk => hk, hl'⟩
    · exact ⟨fs, rfl, fun k hk => hk, hl'⟩)
  refine next_put h2 hd (v := .one (.vo id)) ⟨?_, (upd_same _ _ _).symm⟩ hk
  rcases hkd with ⟨f, n, sh, rfl, rfl⟩ | ⟨t, sh, rfl, rfl⟩ <;> rfl
theorem s_makeFunc (hs : Sim X.K w0 nt S β fp a w) (hd : slot dst nt) {fn : Fn} {first captured : Array Operand} (h : ev X ⟨dst, .makeFunc fn first captured, ty, pos, aft, gd⟩ S k = some r) : Goal P X w0 nt k r Q ⟨dst, .makeFunc fn first captured, ty, pos, aft, gd⟩ a w := by
  simp only [ev] at h
  split at h
  case h_2 => cases h
  rename_i f
  split at h
  case h_2 => cases h
  rename_i vs us hvs hus
  have h1 := argsI_sv hs hvs
  have h2 := argsI_sv hs hus
  have hexec : ∀ v, v = Value.func (.func f) (first.map a.eval) (captured.map a.eval) → (execOp a.eval ⟨dst, .makeFunc (.func f) first captured, ty, pos, aft, gd⟩).run P w = .ok (.value v) w := fun v e => by
    subst e
    simp [execOp, Instr.makeFunc]
  have e1 : first.map a.eval = (first.toList.map a.eval).toArray := by rw [← Array.toList_map, Array.toArray_toList]
  have e2 : captured.map a.eval = (captured.toList.map a.eval).toArray := by rw [← Array.toList_map, Array.toArray_toList]
  cases he : (vs ++ us).isEmpty with
  | true =>
    rw [he] at h
    simp only [cond_true] at h
    have hnil : vs = [] ∧ us = [] := by simpa using he
    obtain ⟨rfl, rfl⟩ := hnil
    have z1 : first.toList.map a.eval = [] := List.length_eq_zero_iff.1 h1.1
    have z2 : captured.toList.map a.eval = [] := List.length_eq_zero_iff.1 h2.1
    rw [z1] at e1
    rw [z2] at e2
    exact wp_value (hexec (fnV (some f)) (by rw [e1, e2]; rfl)) (next_put hs hd (v := .one (.fnc (some f))) rfl h)
  | false =>
    rw [he] at h
    simp only [cond_false] at h
    split at h
    case h_2 => cases h
    rename_i S' hadd
    obtain ⟨fs, q1, q2⟩ := leaves_pack (AllV.append (argsI_okV hvs) (argsI_okV hus)) (h1.append h2)
    refine wp_value (hexec (cloV f vs.length (shOf (vs ++ us)) fs) ?_) (new_vo hs hd hadd (.inl ⟨f, _, _, rfl, rfl⟩) q1 (fun i hi => ?_) h)
    · unfold cloV
      rw [q2, take_left h1.1, drop_left h1.1, e1, e2]
    · rw [leavesOf_append, idsLs_append] at hi
      rcases List.mem_append.1 hi with hi | hi
      · exact argsI_ids hvs i hi
      · exact argsI_ids hus i hi
theorem s_makeInterface (hX : XOk P X) (hs : Sim X.K w0 nt S β fp a w) (hd : slot dst nt) {t : TypeId} {x : Operand} (h : ev X ⟨dst, .makeInterface t x, ty, pos, aft, gd⟩ S k = some r) : Goal P X w0 nt k r Q ⟨dst, .makeInterface t x, ty, pos, aft, gd⟩ a w := by
  simp only [ev] at h
  split at h
  case h_2 => cases h
  rename_i tk v ht hv
  obtain ⟨hb, h⟩ := cond_some h
  simp only [Bool.and_eq_true] at hb
  split at h
  case h_2 => cases h
  rename_i S' hadd
  have hsv : SVsOk X.K w S.objs β fp (stbOf S.objs fp w) [v] [a.eval x] := ⟨rfl, fun i v' hi => by
    cases i with
    | zero => simp at hi; subst hi; exact opdT_ok hs hv
    | succ i => simp at hi⟩
  obtain ⟨fs, q1, q2⟩ := leaves_pack (vs := [v]) (fun i v' hi => by
    cases i with
    | zero => simp at hi; subst hi; exact hb.2
    | succ i => simp at hi) hsv
  have q1' : LfsOk X.K w S.objs β fp (stbOf S.objs fp w) v.leaves fs := by simpa [leavesOf] using q1
  have hund : ∃ d, P.underlying t = some d ∧ ∀ ms, d ≠ .interface ms := by
    have hT := hX.tk _ _ ht
    cases tk with
    | one z =>
      obtain ⟨_, d, h1, h2⟩ := hT
      refine ⟨d, h1, fun ms e => ?_⟩
      subst e
      cases z with
      | nk n => cases n with
        | ifc => exact absurd hb.1 (by simp [notIfc])
        | map => obtain ⟨_, _, h2⟩ := h2; cases h2
      | ptr => obtain ⟨_, h2⟩ := h2; cases h2
      | fnc => obtain ⟨_, _, _, h2⟩ := h2; cases h2
      | _ => cases h2
    | agg fs zs =>
      obtain ⟨_, f, h1, _⟩ := hT
      exact ⟨_, h1, fun ms e => by cases e⟩
  obtain ⟨d, hd1, hd2⟩ := hund
  refine wp_value (v := ifcV t (shOf [v]) fs) ?_ (new_vo hs hd hadd (.inr ⟨t, _, rfl, rfl⟩) q1' (fun i hi => opdT_ids hv (leaves_ids hi)) h)
  unfold ifcV
  rw [q2]
  have : (Instr.makeInterface t (a.eval x)).run P w = .ok (.iface t (a.eval x)) w := by
    unfold Instr.makeInterface
    rw [Sem.run_bind, run_under hd1]
    simp only [Result.andThen_ok]
    cases d <;> first | rfl | exact absurd rfl (hd2 _)
  simp [execOp, this]

theorem s_callF (hC1 : ∀ f c, X.con f = some c → ConOk P X.K f c) (hC2 : ∀ f I, X.inl f = some I → InlOk P X.K f I) (hs : Sim X.K w0 nt S β fp a w) {o : Oper} (hd : slot o.dst nt) {f : FuncId} {pre post : List (SV C)} {pu qu : List Value} {as : List Operand} {ts : List TypeId}
    (h : callF X S f pre as ts post o k = some r) (hpre : SVsOk X.K w S.objs β fp (stbOf S.objs fp w) pre pu) (hpost : SVsOk X.K w S.objs β fp (stbOf S.objs fp w) post qu) (apre : AllV pre) (apost : AllV post)
    (hexec : ∀ fn, P.funcs[f]? = some fn → fn.body.isNone = false → fn.name ≠ "runtime.NumGoroutine" → (execOp a.eval o).run P w = .ok (.enter f (pu ++ (as.map a.eval ++ qu)).toArray) w) : Goal P X w0 nt k r Q o a w := by
  unfold callF at h
  split at h
  · rename_i c hc
    exact s_callC hs (hC1 f c hc) h hpre hpost hexec hd
  · exact s_callI hC2 hs hd h hpre hpost apre apost hexec
theorem AllV.take {vs : List (SV C)} (h : AllV vs) (n : Nat) : AllV (vs.take n) := fun i v hi => h i v (by
  rw [List.getElem?_take] at hi
  split at hi
  · exact hi
  · cases hi)
theorem AllV.drop {vs : List (SV C)} (h : AllV vs) (n : Nat) : AllV (vs.drop n) := fun i v hi => h (n + i) v (by rwa [List.getElem?_drop] at hi)
/-- The value of a function value. -/
theorem cloOf_ok (hs : Sim X.K w0 nt S β fp a w) {l : Lf C} {u : Value} (hl : LfOk X.K w S.objs β fp (stbOf S.objs fp w) l u) {kk : Nat → List (SV C) → List (SV C) → Option R} (h : cloOf S l kk = some r) :
    ∃ f pre post pu qu, kk f pre post = some r ∧ u = .func (.func f) pu.toArray qu.toArray ∧ SVsOk X.K w S.objs β fp (stbOf S.objs fp w) pre pu ∧ SVsOk X.K w S.objs β fp (stbOf S.objs fp w) post qu ∧ AllV pre ∧ AllV post := by
  unfold cloOf at h
  split at h
  · exact ⟨_, _, _, [], [], h, hl, .nil, .nil, .nil, .nil⟩
  · rename_i id
    split at h
    · rename_i f n sh ls ho
      obtain ⟨hb, h⟩ := cond_some h
      obtain ⟨us, q1, q2⟩ := clo_ob hs ho
      have := unSh_ok hb q2
      exact ⟨f, _, _, _, _, h, hl.2.trans q1, this.take n, this.drop n, AllV.take (fun i v hi => unSh_okV i v hi) n, AllV.drop (fun i v hi => unSh_okV i v hi) n⟩
    · cases h
  · cases h
theorem ifcOf_ok (hs : Sim X.K w0 nt S β fp a w) {x : Operand} {kk : TypeId → SV C → Option R} (h : ifcOf S (opd S x) kk = some r) :
    ∃ t v u, kk t v = some r ∧ a.eval x = .iface t u ∧ SVOk X.K w S.objs β fp (stbOf S.objs fp w) v u ∧ okV v = true := by
  unfold ifcOf at h
  split at h
  case h_2 => cases h
  rename_i id hx
  have hv := opd_ok hs hx
  split at h
  · rename_i t sh ls ho
    obtain ⟨hb, h⟩ := cond_some h
    obtain ⟨us, q1, q2⟩ := ifc_ob hs ho
    have q3 := unSh_ok hb q2
    split at h
    · rename_i v hv1
      rw [hv1] at q3
      refine ⟨t, v, _, h, (show a.eval x = β id from hv.2).trans q1, ?_, unSh_okV (sh := sh) (ls := ls) 0 v (by rw [hv1]; rfl)⟩
      have h2 := q3.2 0 v rfl
      have e : (packSh sh us).headD undef = (packSh sh us).getD 0 undef := by cases packSh sh us <;> rfl
      rw [e]
      exact h2
    · cases h
  · cases h
theorem s_callT (hC1 : ∀ f c, X.con f = some c → ConOk P X.K f c) (hC2 : ∀ f I, X.inl f = some I → InlOk P X.K f I) (hs : Sim X.K w0 nt S β fp a w) (hd : slot dst nt) {t : Tmp} {as : Array Operand} {ts : Array TypeId}
    (h : ev X ⟨dst, .call { callee := .value (.tmp t), args := as, argTypes := ts }, ty, pos, aft, gd⟩ S k = some r) : Goal P X w0 nt k r Q ⟨dst, .call { callee := .value (.tmp t), args := as, argTypes := ts }, ty, pos, aft, gd⟩ a w := by
  simp only [ev] at h
  split at h
  case h_2 => cases h
  rename_i l hl
  obtain ⟨f, pre, post, pu, qu, h, hu, q1, q2, q3, q4⟩ := cloOf_ok hs (show LfOk _ _ _ _ _ _ l (a.eval (.tmp t)) from hs.env t _ hl) h
  refine s_callF hC1 hC2 hs hd h q1 q2 q3 q4 fun fn hf1 hf2 hf3 => ?_
  have e : (pu ++ (as.toList.map a.eval ++ qu)).toArray = pu.toArray ++ as.map a.eval ++ qu.toArray := by
    have : as.map a.eval = (as.toList.map a.eval).toArray := by rw [← Array.toList_map, Array.toArray_toList]
    rw [this]; simp
  rw [e, ← enter_run (us := pu.toArray ++ as.map a.eval ++ qu.toArray) hf1 hf2 hf3]
  simp only [execOp, resolve, hu, Deferred.ofValue]
  simp [invoke]
theorem s_invoke (hX : XOk P X) (hC1 : ∀ f c, X.con f = some c → ConOk P X.K f c) (hC2 : ∀ f I, X.inl f = some I → InlOk P X.K f I) (hs : Sim X.K w0 nt S β fp a w) (hd : slot dst nt) {x : Operand} {name : String} {as : Array Operand} {ts : Array TypeId}
    (h : ev X ⟨dst, .call { callee := .invoke x name, args := as, argTypes := ts }, ty, pos, aft, gd⟩ S k = some r) : Goal P X w0 nt k r Q ⟨dst, .call { callee := .invoke x name, args := as, argTypes := ts }, ty, pos, aft, gd⟩ a w := by
  simp only [ev] at h
  obtain ⟨t, v, u, h, hu, q1, q2⟩ := ifcOf_ok hs h
  split at h
  case h_2 => cases h
  rename_i f hm
  refine s_callF hC1 hC2 hs hd (pu := [u]) (qu := []) h ⟨rfl, fun i v' hi => ?_⟩ .nil (fun i v' hi => ?_) .nil fun fn hf1 hf2 hf3 => ?_
  · cases i with
    | zero => simp at hi; subst hi; exact q1
    | succ i => simp at hi
  · cases i with
    | zero => simp at hi; subst hi; exact q2
    | succ i => simp at hi
  · have e : ([u] ++ (as.toList.map a.eval ++ [])).toArray = #[u] ++ as.map a.eval := by
      have : as.map a.eval = (as.toList.map a.eval).toArray := by rw [← Array.toList_map, Array.toArray_toList]
      rw [this]; simp
    have e2 : (#[Value.iface t u] ++ as.map a.eval).extract 1 (#[Value.iface t u] ++ as.map a.eval).size = as.map a.eval := by
      apply Array.ext'
      simp
      exact List.take_of_length_le (by simp)
    have e3 : (#[Value.iface t u] ++ as.map a.eval)[0]? = some (Value.iface t u) := by rw [Array.getElem?_append]; rfl
    rw [e, ← enter_run (us := #[u] ++ as.map a.eval) hf1 hf2 hf3]
    simp only [execOp, resolve, hu]
    simp only [Sem.run_bind, Sem.run_pure, Result.andThen_ok, invoke, e3, e2]
    simp only [callMethod, Sem.run_bind, run_program, Result.andThen_ok, hX.meth _ _ _ hm]
end
end Go.Proofs.Ytkiognopoigbhaa.Ab
