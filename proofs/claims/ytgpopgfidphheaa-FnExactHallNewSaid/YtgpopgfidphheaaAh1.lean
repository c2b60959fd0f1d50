/- Steps by hand: one operation of a region, its slots told by a list. -/
import Derived.Test.YtgpopgfidphheaaAb27
set_option linter.unusedVariables false
set_option linter.unusedSimpArgs false
set_option linter.unusedSectionVars false
namespace Go.Proofs.Ytgpopgfidphheaa.Ab
open Go Go.RowKit

section
variable {Ty : Type} [DecidableEq Ty] {C : Ty → Type} {K : Cd C}
variable {P : Program} {all : Array Oper} {Q : Exit → Act → World → Prop} {a : Act} {w : World} {sz : Nat} {l : List (Nat × Value)} {rest : List Oper}
variable {ty : TypeId} {pos : String} {aft : Array Edge}

def Sl (a : Act) (sz : Nat) (l : List (Nat × Value)) : Prop := a.tmps.size = sz ∧ a.defers = [] ∧ ∀ t v, lk l t = some v → a.tmps.getD t undef = v
theorem Sl.get (h : Sl a sz l) {t : Nat} {v : Value} (ht : lk l t = some v) : a.eval (.tmp t) = v := h.2.2 t v ht
theorem Sl.put (h : Sl a sz l) {d : Nat} {v : Value} (hd : d < sz) : Sl (a.put (some d) v) sz ((d, v) :: l) := by
  refine ⟨by simpa [Act.put] using h.1, h.2.1, fun t u ht => ?_⟩
  simp only [Act.put]
  rw [getD_set _ _ _ _ _ (by rw [h.1]; exact hd)]
  rw [lk_cons] at ht
  by_cases e : t = d
  · subst e; simp at ht ⊢; exact ht
  · rw [if_neg e] at ht ⊢; exact h.2.2 t u ht
theorem Sl.less (h : Sl a sz l) {l' : List (Nat × Value)} (hl : ∀ t v, lk l' t = some v → lk l t = some v) : Sl a sz l' := ⟨h.1, h.2.1, fun t v ht => h.2.2 t v (hl t v ht)⟩

theorem st_val {o : Oper} {v : Value} {w' : World} (hg : o.guard = none) (h : (execOp a.eval o).run P w = .ok (.value v) w') (hn : wpList P all Q rest (a.put o.dst v) w') : wpList P all Q (o :: rest) a w := by
  have hw : Region.wanted o (yielded all a.tmps) = true := by simp [Region.wanted, hg]
  simp only [wpList, hw, if_true]
  exact .inl (wp_value h hn)
theorem st_put {d : Nat} {op : Op} {v : Value} {w' : World} (hs : Sl a sz l) (hd : d < sz) (h : (execOp a.eval ⟨some d, op, ty, pos, aft, none⟩).run P w = .ok (.value v) w') (hn : ∀ a', Sl a' sz ((d, v) :: l) → wpList P all Q rest a' w') :
    wpList P all Q (⟨some d, op, ty, pos, aft, none⟩ :: rest) a w := st_val rfl h (hn _ (hs.put hd))
theorem st_move {d x : Nat} {v : Value} (hs : Sl a sz l) (hx : lk l x = some v) (hd : d < sz) (hn : ∀ a', Sl a' sz ((d, v) :: l) → wpList P all Q rest a' w) :
    wpList P all Q (⟨some d, .move (.tmp x), ty, pos, aft, none⟩ :: rest) a w := st_put hs hd (by simp [execOp, hs.get hx]) hn
theorem st_const {d : Nat} {v : Value} (hs : Sl a sz l) (hd : d < sz) (hn : ∀ a', Sl a' sz ((d, v) :: l) → wpList P all Q rest a' w) :
    wpList P all Q (⟨some d, .move (.const v), ty, pos, aft, none⟩ :: rest) a w := st_put hs hd (by simp [execOp, Act.eval]) hn
theorem st_assign {d x : Nat} {v : Value} (hs : Sl a sz l) (hx : lk l x = some v) (hd : d < sz) (hn : ∀ a', Sl a' sz ((d, v) :: l) → wpList P all Q rest a' w) :
    wpList P all Q (⟨some d, .assign (.tmp x), ty, pos, aft, none⟩ :: rest) a w := st_put hs hd (by simp [execOp, hs.get hx]) hn
theorem st_aconst {d : Nat} {v : Value} (hs : Sl a sz l) (hd : d < sz) (hn : ∀ a', Sl a' sz ((d, v) :: l) → wpList P all Q rest a' w) :
    wpList P all Q (⟨some d, .assign (.const v), ty, pos, aft, none⟩ :: rest) a w := st_put hs hd (by simp [execOp, Act.eval]) hn
theorem st_call {d x : Nat} {u : Value} {f : Nat} {ts : Array TypeId} {fn : Func} (hs : Sl a sz l) (hx : lk l x = some u) (hd : d < sz) (hf : P.funcs[f]? = some fn) (hb : fn.body.isNone = false) (hn : fn.name ≠ "runtime.NumGoroutine")
    (hc : Calls P f #[u] w fun e w' => ∃ v, e = .returned v ∧ ∀ a', Sl a' sz ((d, v) :: l) → wpList P all Q rest a' w') :
    wpList P all Q (⟨some d, .call { callee := .value (.func f), args := #[.tmp x], argTypes := ts }, ty, pos, aft, none⟩ :: rest) a w := by
  have hw : Region.wanted (⟨some d, .call { callee := .value (.func f), args := #[.tmp x], argTypes := ts }, ty, pos, aft, none⟩ : Oper) (yielded all a.tmps) = true := by simp [Region.wanted]
  simp only [wpList, hw, if_true]
  refine .inl ?_
  have hexec : (execOp a.eval ⟨some d, .call { callee := .value (.func f), args := #[.tmp x], argTypes := ts }, ty, pos, aft, none⟩).run P w = .ok (.enter f #[u]) w := by
    have hf3' : (fn.name == "runtime.NumGoroutine") = false := by simpa using hn
    have e := hs.get hx
    simp [execOp, resolve, Deferred.ofValue, invoke, callFunc, hf, hb, hf3', Act.eval]
    rw [if_neg hn, if_neg (by intro h; simp [h] at hb)]
    have e' : a.tmps.getD x undef = u := e
    simpa [Array.getD_eq_getD_getElem?] using e'
  show Oper.wp P _ a w _ _
  unfold Oper.wp
  rw [hexec]
  show Calls P f #[u] w _
  refine hc.mono fun e w' ⟨v, he, h⟩ => ?_
  subst he
  exact h _ (hs.put hd)
theorem st_len {d x : Nat} {T : TypeId} {t : Ty} {A : Option Addr} {n c : Nat} (hs : Sl a sz l) (hx : lk l x = some (.slice A n c)) (hd : d < sz) (hT : TFact P K T (.one (.sli t))) (hn : ∀ a', Sl a' sz ((d, .int .i64 n) :: l) → wpList P all Q rest a' w) :
    wpList P all Q (⟨some d, .call { callee := .builtin .len, args := #[.tmp x], argTypes := #[T] }, ty, pos, aft, none⟩ :: rest) a w :=
  st_put hs hd (by
    have e := hs.get hx
    simp [execOp, resolve, invoke, builtin, Builtin.len_, run_under hT.sli, e, goInt]) hn
theorem st_lss {d x y : Nat} {T : TypeId} {m n : Int} (hs : Sl a sz l) (hx : lk l x = some (.int .i64 m)) (hy : lk l y = some (.int .i64 n)) (hd : d < sz) (hn : ∀ a', Sl a' sz ((d, .bool (decide (m < n))) :: l) → wpList P all Q rest a' w) :
    wpList P all Q (⟨some d, .binOp .lss T (.tmp x) (.tmp y) T, ty, pos, aft, none⟩ :: rest) a w :=
  st_put hs hd (by
    have e1 := hs.get hx
    have e2 := hs.get hy
    have hg : (eqGuard .lss T (.tmp x) (.tmp y) (.int .i64 m) (.int .i64 n)).run P w = .ok () w := run_eqGuard (by simp) (by simp)
    simp only [execOp, e1, e2, Sem.run_bind, hg, Result.andThen_ok]
    simp [binOp, Go.Op.intCmp]) hn
theorem st_add1 {d x : Nat} {T : TypeId} {m : Int} (hs : Sl a sz l) (hx : lk l x = some (.int .i64 m)) (hd : d < sz) (hn : ∀ a', Sl a' sz ((d, .int .i64 (IntKind.i64.wrap (m + 1))) :: l) → wpList P all Q rest a' w) :
    wpList P all Q (⟨some d, .binOp .add T (.tmp x) (.const (.int .i64 1)) T, ty, pos, aft, none⟩ :: rest) a w :=
  st_put hs hd (by
    have e1 := hs.get hx
    have hg : (eqGuard .add T (.tmp x) (.const (.int .i64 1)) (.int .i64 m) (.int .i64 1)).run P w = .ok () w := run_eqGuard (by simp) (by simp)
    have e2 : a.eval (.const (.int .i64 1)) = .int .i64 1 := rfl
    simp only [execOp, e1, e2, Sem.run_bind, hg, Result.andThen_ok]
    simp [binOp, Go.Op.intArith]) hn
theorem st_index {d x y : Nat} {T : TypeId} {t : Ty} {p : Addr} {n c : Nat} {m : Int} (hs : Sl a sz l) (hx : lk l x = some (.slice (some p) n c)) (hy : lk l y = some (.int .i64 m)) (hd : d < sz) (hT : TFact P K T (.one (.sli t))) (hE : EFact P K t) (h0 : 0 ≤ m) (h1 : m < (n : Int))
    (hn : ∀ a', Sl a' sz ((d, .pointer (some (p.add (m.toNat * K.sz t)))) :: l) → wpList P all Q rest a' w) :
    wpList P all Q (⟨some d, .indexAddr T (.tmp x) (.tmp y), ty, pos, aft, none⟩ :: rest) a w :=
  st_put hs hd (by simp only [execOp, hs.get hx, hs.get hy, Sem.run_bind, index_at hT.sli hE.size h0 h1, Result.andThen_ok, Sem.run_pure]) hn
theorem st_field {d x f off n : Nat} {ag : Bool} {T : TypeId} {fs : List (Nat × Nat × Bool)} {zs : List (ZL Ty)} {p : Addr} (hs : Sl a sz l) (hx : lk l x = some (.pointer (some p))) (hd : d < sz) (hT : TFact P K T (.agg fs zs)) (hf : fs[f]? = some (off, n, ag))
    (hn : ∀ a', Sl a' sz ((d, .pointer (some (p.add off))) :: l) → wpList P all Q rest a' w) :
    wpList P all Q (⟨some d, .fieldAddr T (.tmp x) f, ty, pos, aft, none⟩ :: rest) a w :=
  st_put hs hd (by simp only [execOp, hs.get hx, Sem.run_bind, field_addr hT hf, Result.andThen_ok, Sem.run_pure]) hn
theorem st_load {d x : Nat} {T : TypeId} {z : ZL Ty} {p : Addr} {u : Value} (hs : Sl a sz l) (hx : lk l x = some (.pointer (some p))) (hd : d < sz) (hT : TFact P K T (.one z)) (hc : w.cell? p = some u) (hn : ∀ a', Sl a' sz ((d, u) :: l) → wpList P all Q rest a' w) :
    wpList P all Q (⟨some d, .load T (.tmp x), ty, pos, aft, none⟩ :: rest) a w :=
  st_put hs hd (by simp [execOp, Instr.loadAt, hs.get hx, Instr.sureAddr, loadVar, run_isAgg hT, isAggT, hc]) hn
theorem st_store {x y : Nat} {T : TypeId} {z : ZL Ty} {p : Addr} {u : Value} {w' : World} (hs : Sl a sz l) (hx : lk l x = some (.pointer (some p))) (hy : lk l y = some u) (hT : TFact P K T (.one z)) (hu : u.oneCell' = true) (hc : (storeCells p [u]).run P w = .ok () w')
    (hn : ∀ a', Sl a' sz l → wpList P all Q rest a' w') :
    wpList P all Q (⟨none, .store T (.tmp x) (.tmp y), ty, pos, aft, none⟩ :: rest) a w := by
  have hw : Region.wanted (⟨none, .store T (.tmp x) (.tmp y), ty, pos, aft, none⟩ : Oper) (yielded all a.tmps) = true := by simp [Region.wanted]
  simp only [wpList, hw, if_true]
  refine .inl (wp_skip (w' := w') ?_ (hn _ hs))
  have e1 := one_cells hu
  simp only [execOp, Instr.storeAt, hs.get hx, hs.get hy, Instr.sureAddr, Sem.run_bind, Sem.run_pure, Result.andThen_ok]
  rw [run_storeVar hT (v := u) (by rw [e1]; rfl), e1]
  rw [hc]
  rfl
theorem st_nil {d x : Nat} {T : TypeId} {t : Ty} {A : Option Addr} {n c : Nat} (hs : Sl a sz l) (hx : lk l x = some (.slice A n c)) (hd : d < sz) (hT : TFact P K T (.one (.sli t))) (hn : ∀ a', Sl a' sz ((d, .bool A.isNone) :: l) → wpList P all Q rest a' w) :
    wpList P all Q (⟨some d, .binOp .eql T (.tmp x) (.const (.slice none 0 0)) T, ty, pos, aft, none⟩ :: rest) a w :=
  st_put hs hd (by
    have e1 := hs.get hx
    have hg : (eqGuard .eql T (.tmp x) (.const (.slice none 0 0)) (.slice A n c) (.slice none 0 0)).run P w = .ok () w := run_eqGuard (by simp) (by simp)
    have e2 : a.eval (.const (.slice none 0 0)) = .slice none 0 0 := rfl
    simp only [execOp, e1, e2, Sem.run_bind, hg, Result.andThen_ok]
    simp [binOp, run_eq_sli hT.sli]) hn
/-- A literal of no elements. -/
theorem st_empty {d : Nat} {T : TypeId} {t : Ty} (hs : Sl a sz l) (hd : d < sz) (hT : TFact P K T (.one (.sli t))) (hE : EFact P K t) (hn : ∀ a', Sl a' sz ((d, .slice (some ⟨w.heap.size, 0, none⟩) 0 0) :: l) → wpList P all Q rest a' (w.alloc (.cells #[] (K.tid t)))) :
    wpList P all Q (⟨some d, .buildSlice T 0 #[], ty, pos, aft, none⟩ :: rest) a w :=
  st_put hs hd (by
    simp only [execOp, Instr.buildSlice, Sem.run_bind, run_under hT.sli, hE.size, Result.andThen_ok, Sem.run_pure]
    have e0 : Array.range 0 = #[] := rfl
    simp [newRow, Instr.fill, e0]) hn
theorem st_append {d x y : Nat} {T : TypeId} {u v v' : Value} {w' : World} (hs : Sl a sz l) (hx : lk l x = some u) (hy : lk l y = some v) (hd : d < sz) (hr : (Builtin.append_ #[T, T] ty #[u, v]).run P w = .ok v' w') (hn : ∀ a', Sl a' sz ((d, v') :: l) → wpList P all Q rest a' w') :
    wpList P all Q (⟨some d, .call { callee := .builtin .append, args := #[.tmp x, .tmp y], argTypes := #[T, T] }, ty, pos, aft, none⟩ :: rest) a w :=
  st_put hs hd (by
    simp only [execOp, resolve, Sem.run_bind, Sem.run_pure, Result.andThen_ok, invoke, builtin, List.map_toArray, List.map_cons, List.map_nil, hs.get hx, hs.get hy]
    rw [hr]
    rfl) hn
theorem start_sl {us : List Value} {nt : Nat} (h : us.length ≤ nt) : Sl { tmps := us.toArray ++ Array.replicate (nt - us.toArray.size) undef, defers := [] } nt (us.zipIdx.map fun x => (x.2, x.1)) := by
  refine ⟨by simp; omega, rfl, fun t v ht => ?_⟩
  have key : ∀ (us : List Value) (k t : Nat) (v : Value), lk ((us.zipIdx k).map fun x => (x.2, x.1)) t = some v → k ≤ t ∧ us[t - k]? = some v := by
    intro us
    induction us with
    | nil => intro k t v h; simp [lk] at h
    | cons u us ih =>
      intro k t v h
      simp only [List.zipIdx_cons, List.map_cons, lk_cons] at h
      split at h
      · rename_i e; cases h; subst e; simp
      · obtain ⟨h1, h2⟩ := ih _ _ _ h
        refine ⟨by omega, ?_⟩
        have e : t - k = (t - (k + 1)) + 1 := by omega
        rw [e]; simpa using h2
  obtain ⟨_, h2⟩ := key us 0 t v ht
  simp only [Nat.sub_zero] at h2
  have hlt := idx_lt h2
  simp only [Array.getD_eq_getD_getElem?]
  rw [Array.getElem?_append_left (by simpa using hlt)]
  simp [h2]
end
end Go.Proofs.Ytgpopgfidphheaa.Ab
