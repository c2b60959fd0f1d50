/- The abstract machine, part 4: its operations are the model's (those that leave memory alone). -/
import Derived.Test.YtkiognopoigbhaaAb3
import Derived.Laws.Slices
import Derived.Laws.Strings
import Derived.Tactics
set_option linter.unusedVariables false
set_option linter.unusedSimpArgs false
namespace Go.Proofs.Ytkiognopoigbhaa.Ab
open Go Go.RowKit

section
variable {Ty : Type} {C : Ty → Type}

def ZL.desc (K : Cd C) : ZL Ty → TypeDesc → Prop
  | .int k, d => d = .int k
  | .bool, d => d = .bool
  | .str, d => d = .string
  | .sli t, d => d = .slice (K.tid t)
  | .ptr, d => ∃ e, d = .pointer e
  | .fnc, d => ∃ p r v, d = .func p r v
  | .nk .ifc, d => ∃ ms, d = .interface ms
  | .nk .map, d => ∃ k e, d = .map k e

/-- What the program's tables say of a type. -/
def TFact (P : Program) (K : Cd C) (T : TypeId) : TK Ty → Prop
  | .one z => (∃ i, P.info? T = some i ∧ i.size = 1 ∧ i.zero = some z.val) ∧ ∃ d, P.underlying T = some d ∧ z.desc K d
  | .agg fs zs => (∃ i, P.info? T = some i ∧ i.size = zs.length ∧ i.zero = some (.agg (zs.map ZL.val).toArray)) ∧
      ∃ fields : Array Field, P.underlying T = some (.struct fields) ∧ fields.size = fs.length ∧
        ∀ (j off n : Nat) (ag : Bool), fs[j]? = some (off, n, ag) → ∃ (f : Field) (i : TypeInfo), fields[j]? = some f ∧ f.offset = off ∧ P.info? f.type = some i ∧ i.size = n ∧ 0 < n ∧
          ∃ d, P.underlying f.type = some d ∧ (match d with | .struct _ | .array .. => true | _ => false) = ag

def EFact (P : Program) (K : Cd C) (t : Ty) : Prop :=
  ∃ i z, P.info? (K.tid t) = some i ∧ i.size = K.sz t ∧ i.bytes = K.bytes t ∧ 0 < K.bytes t ∧ i.zero = some z ∧ z.cells.size = K.sz t ∧
    ∀ i l, (K.enc t (K.zero t))[i]? = some l → ∀ w base F, Own K w base F l (z.cells.getD i undef)

def slot (d : Option Tmp) (nt : Nat) : Prop := ∀ t, d = some t → t < nt

section
variable {P : Program} {K : Cd C} {X : Cx C} {w0 w : World} {nt : Nat} {S : St C} {β : Nat → Value} {fp : Nat → Nat → Prop} {a : Act}

theorem opd_ok (h : Sim K w0 nt S β fp a w) {x : Operand} {v : SV C} (hx : opd S x = some v) : SVOk K w S.objs β fp (stbOf S.objs fp w) v (a.eval x) := by
  cases x with
  | tmp t => exact h.env t v hx
  | const c =>
    cases c with
    | int k n => simp [opd] at hx; subst hx; rfl
    | bool b => simp [opd] at hx; subst hx; rfl
    | string s => simp [opd] at hx; subst hx; rfl
    | pointer p =>
      cases p with
      | none => simp [opd] at hx; subst hx; rfl
      | some p => simp [opd] at hx
    | map m =>
      cases m with
      | none => simp [opd] at hx; subst hx; rfl
      | some p => simp [opd] at hx
    | nilFunc => simp [opd] at hx; subst hx; rfl
    | nilIface => simp [opd] at hx; subst hx; rfl
    | _ => simp [opd] at hx
  | global g => simp [opd] at hx
  | func f => simp [opd] at hx; subst hx; rfl

theorem opdT_ok (h : Sim K w0 nt S β fp a w) {T : TypeId} {x : Operand} {v : SV C} (hx : opdT X S T x = some v) : SVOk K w S.objs β fp (stbOf S.objs fp w) v (a.eval x) := by
  unfold opdT at hx
  split at hx
  · split at hx
    · simp at hx; subst hx; rfl
    · cases hx
  · exact opd_ok h hx

/-- A value that an operation yields, memory left alone. -/
theorem wp_value {o : Oper} {v : Value} {w' : World} {next : Act → World → Prop} {Q : Exit → Act → World → Prop} (h : (execOp a.eval o).run P w = .ok (.value v) w') (hn : next (a.put o.dst v) w') : o.wp P a w next Q := by
  unfold Oper.wp
  rw [h]
  exact hn
theorem wp_skip {o : Oper} {w' : World} {next : Act → World → Prop} {Q : Exit → Act → World → Prop} (h : (execOp a.eval o).run P w = .ok .skip w') (hn : next (a.put o.dst undef) w') : o.wp P a w next Q := by
  unfold Oper.wp
  rw [h]
  exact hn

def Next (K : Cd C) (w0 : World) (nt : Nat) {R : Type} (k : St C → Option R) (r : R) (a' : Act) (w' : World) : Prop := ∃ S', SimE K w0 nt S' a' w' ∧ k S' = some r

theorem next_put {R : Type} {k : St C → Option R} {r : R} (h : Sim K w0 nt S β fp a w) {d : Option Tmp} (hd : slot d nt) {v : SV C} {u : Value} (hv : SVOk K w S.objs β fp (stbOf S.objs fp w) v u) (hk : k (S.put d v) = some r) :
    Next K w0 nt k r (a.put d u) w := ⟨_, ⟨β, fp, h.put d hd hv⟩, hk⟩

theorem toList_inj {a b : ByteArray} (h : a.toList = b.toList) : a = b := by
  rw [ByteArray.toList_eq, ByteArray.toList_eq] at h
  exact ByteArray.ext (Array.ext' h)

theorem str_eq (a b : ByteArray) : (a.toList == b.toList) = decide (a = b) := by
  by_cases h : a = b
  · subst h; simp
  · have : a.toList ≠ b.toList := fun e => h (toList_inj e)
    simp [h, this]

theorem bytesLess_total : ∀ (a b : List UInt8), Go.Op.bytesLess a b = true → Go.Op.bytesLess b a = false ∧ (a == b) = false
  | _, [], h => by simp [Go.Op.bytesLess] at h
  | [], b :: y, h => by simp [Go.Op.bytesLess]
  | x :: a, y :: b, h => by
    simp only [Go.Op.bytesLess, Bool.or_eq_true, decide_eq_true_eq, Bool.and_eq_true, beq_iff_eq] at h
    rcases h with h | ⟨rfl, h⟩
    · have h1 : ¬ y < x := fun h2 => absurd (UInt8.lt_trans h h2) (UInt8.lt_irrefl _)
      have h2 : x ≠ y := fun e => by subst e; exact absurd h (UInt8.lt_irrefl _)
      have h3 : y ≠ x := fun e => h2 e.symm
      simp [Go.Op.bytesLess, h1, h2, h3]
    · have ih := bytesLess_total a b h
      simp only [beq_eq_false_iff_ne] at ih
      simp [Go.Op.bytesLess, ih.1, ih.2, UInt8.lt_irrefl]
theorem bytesLess_or : ∀ (a b : List UInt8), Go.Op.bytesLess a b = false → (a == b) = false → Go.Op.bytesLess b a = true
  | [], [], _, h => by simp at h
  | _ :: _, [], _, _ => by simp [Go.Op.bytesLess]
  | [], b :: y, h, _ => by simp [Go.Op.bytesLess] at h
  | x :: a, y :: b, h, h' => by
    simp only [Go.Op.bytesLess, Bool.or_eq_false_iff, decide_eq_false_iff_not, Bool.and_eq_false_iff, beq_eq_false_iff_ne] at h
    by_cases e : x = y
    · subst e
      have h2 : (a == b) = false := by simpa using h'
      have := bytesLess_or a b (by simpa using h.2) h2
      simp [Go.Op.bytesLess, this]
    · have h3 : y < x := by
        rcases Nat.lt_trichotomy x.toNat y.toNat with h4 | h4 | h4
        · exact absurd (UInt8.lt_iff_toNat_lt.2 h4) h.1
        · exact absurd (UInt8.toNat_inj.1 h4) e
        · exact UInt8.lt_iff_toNat_lt.2 h4
      simp [Go.Op.bytesLess, h3]
theorem slt_geq (a b : ByteArray) : (Go.Op.bytesLess a.toList b.toList || (a.toList == b.toList)) = !(Go.Op.bytesLess b.toList a.toList) := by
  cases h : Go.Op.bytesLess a.toList b.toList with
  | true => simp [(bytesLess_total _ _ h).1]
  | false =>
    cases h' : (a.toList == b.toList) with
    | false => simp [bytesLess_or _ _ h h']
    | true =>
      have := eq_of_beq h'
      rw [this] at h ⊢
      simp [h]

theorem run_eqGuard {op : BinOp} {T : TypeId} {x y : Operand} {u v : Value} (h : ∀ cs, u ≠ .agg cs) (h' : u ≠ .nilIface) : (eqGuard op T x y u v).run P w = .ok () w := by
  unfold eqGuard
  cases op <;> simp <;> (cases u <;> first | (exfalso; exact h' rfl) | (exfalso; exact h _ rfl) | (cases v <;> simp))

theorem run_under {T : TypeId} {d : TypeDesc} (h : P.underlying T = some d) : (underlying T).run P w = .ok d w := by
  simp [underlying, h]

theorem run_eq_bool {T : TypeId} (hu : P.underlying T = some .bool) (a b : Bool) : (Go.Op.equal T (.bool a) (.bool b)).run P w = .ok (a == b) w := by
  have : ∀ d, (Go.Op.equalIn (d + 1) T (.bool a) (.bool b)).run P w = .ok (a == b) w := fun d => by simp [Go.Op.equalIn, run_under hu]
  exact this 9999
theorem run_eq_ptr {T e : TypeId} (hu : P.underlying T = some (.pointer e)) (p : Option Addr) : (Go.Op.equal T (.pointer p) (.pointer none)).run P w = .ok p.isNone w := by
  have : ∀ d, (Go.Op.equalIn (d + 1) T (.pointer p) (.pointer none)).run P w = .ok p.isNone w := fun d => by
    cases p <;> simp [Go.Op.equalIn, run_under hu]
  exact this 9999

theorem bin_ok {T : TypeId} (hT : ∀ k, X.tk T = some k → TFact P X.K T k) {op : BinOp} {xo yo : Operand} {x y : SV C} {u v : Value} {R : Type} {k : SV C → Option R} {r : R} {objs : Objs C} {stb : Nat → Prop}
    (h : binL (X.tk T) op x y k = some r) (hx : SVOk X.K w objs β fp stb x u) (hy : SVOk X.K w objs β fp stb y v) :
    ∃ z q, (do eqGuard op T xo yo u v; binOp op T u v : Sem Value).run P w = .ok q w ∧ SVOk X.K w objs β fp stb z q ∧ k z = some r := by
  unfold binL at h
  split at h
  · -- ints
    rename_i ka a kb b
    simp only [SVOk, LfOk] at hx hy
    subst hx hy
    have hg : (eqGuard op T xo yo (.int ka a) (.int kb b)).run P w = .ok () w := run_eqGuard (by simp) (by simp)
    by_cases hk : ka = kb
    · subst hk
      simp only [decide_true, cond_true] at h
      cases hc : cmpI op a b with
      | some c =>
        rw [hc] at h
        refine ⟨.one (.bool c), .bool c, ?_, rfl, h⟩
        simp only [Sem.run_bind, hg, Result.andThen_ok]
        cases op <;> simp [cmpI] at hc <;> subst hc <;> simp [binOp, Go.Op.intCmp]
      | none =>
        rw [hc] at h
        simp only at h
        cases ha : arI op ka a b with
        | some n =>
          rw [ha] at h
          refine ⟨.one (.int ka n), .int ka n, ?_, rfl, h⟩
          simp only [Sem.run_bind, hg, Result.andThen_ok]
          cases op <;> simp [arI] at ha <;> subst ha <;> simp [binOp, Go.Op.intArith]
        | none =>
          rw [ha] at h
          simp only at h
          by_cases hb : b = 0
          · simp [hb] at h
          · simp only [hb, decide_false, cond_false] at h
            split at h
            · refine ⟨.one (.int ka (ka.wrap (a.tdiv b))), .int ka (ka.wrap (a.tdiv b)), ?_, rfl, h⟩
              simp only [Sem.run_bind, hg, Result.andThen_ok]
              simp [binOp, Go.Op.intDiv, hb]
            · refine ⟨.one (.int ka (a.tmod b)), .int ka (a.tmod b), ?_, rfl, h⟩
              simp only [Sem.run_bind, hg, Result.andThen_ok]
              simp [binOp, Go.Op.intDiv, hb]
            · cases h
    · simp [hk] at h
  · -- strings
    rename_i a b
    simp only [SVOk, LfOk] at hx hy
    subst hx hy
    have hg : (eqGuard op T xo yo (.string a) (.string b)).run P w = .ok () w := run_eqGuard (by simp) (by simp)
    cases hc : cmpS op a b with
    | some c =>
      rw [hc] at h
      refine ⟨.one (.bool c), .bool c, ?_, rfl, h⟩
      simp only [Sem.run_bind, hg, Result.andThen_ok]
      cases op <;> simp only [cmpS, Option.some.injEq, reduceCtorEq] at hc <;> subst hc <;> simp [binOp, Go.Op.stringOp, slt, str_eq]
      · have := slt_geq a b
        rw [str_eq] at this
        simpa using this
      · have := slt_geq a b
        rw [str_eq] at this
        rw [← Bool.not_or, this]
        simp
    | none =>
      rw [hc] at h
      simp only at h
      split at h
      · by_cases hs : a.size + b.size ≤ 9223372036854775807
        · simp only [hs, decide_true, cond_true] at h
          refine ⟨.one (.str (a ++ b)), .string (a ++ b), ?_, rfl, h⟩
          simp only [Sem.run_bind, hg, Result.andThen_ok]
          have : ¬ (((a.size + b.size : Nat) : Int) > IntKind.i64.max) := by
            have : IntKind.i64.max = 9223372036854775807 := by decide
            rw [this]; omega
          simp only [binOp, Go.Op.stringOp, if_neg this]
          rfl
        · simp [hs] at h
      · cases h
  · -- bools
    rename_i a b
    simp only [SVOk, LfOk] at hx hy
    subst hx hy
    have hg : (eqGuard op T xo yo (.bool a) (.bool b)).run P w = .ok () w := run_eqGuard (by simp) (by simp)
    split at h
    · rename_i ht
      obtain ⟨_, d, hd, hd'⟩ := hT _ ht
      have hu := hd.trans (congrArg some (show d = TypeDesc.bool from hd'))
      refine ⟨.one (.bool (a == b)), .bool (a == b), ?_, rfl, h⟩
      simp only [Sem.run_bind, hg, Result.andThen_ok]
      simp [binOp, run_eq_bool hu]
    · rename_i ht
      obtain ⟨_, d, hd, hd'⟩ := hT _ ht
      have hu := hd.trans (congrArg some (show d = TypeDesc.bool from hd'))
      refine ⟨.one (.bool (!(a == b))), .bool (!(a == b)), ?_, rfl, h⟩
      simp only [Sem.run_bind, hg, Result.andThen_ok]
      simp [binOp, run_eq_bool hu]
    · cases h
  · -- pointers against nil
    rename_i x
    simp only [SVOk, LfOk] at hy
    subst hy
    cases hn : isNilP x with
    | none => simp [hn] at h
    | some c =>
      have hu' : ∃ p, u = .pointer p ∧ p.isNone = c := by
        cases x <;> simp [isNilP] at hn <;> subst hn
        · exact ⟨none, hx, rfl⟩
        · obtain ⟨b, _, e⟩ := hx; exact ⟨_, e, rfl⟩
        · obtain ⟨a, _, e, _⟩ := hx; exact ⟨_, e, rfl⟩
        · rename_i id p i o
          cases p with
          | nil => obtain ⟨⟨a, e⟩, _⟩ := hx; exact ⟨_, e, rfl⟩
          | cons s p => obtain ⟨⟨a, e⟩, _⟩ := hx; exact ⟨_, e, rfl⟩
      obtain ⟨p, rfl, hp⟩ := hu'
      have hg : (eqGuard op T xo yo (.pointer p) (.pointer none)).run P w = .ok () w := run_eqGuard (by simp) (by simp)
      simp only [hn] at h
      split at h
      · rename_i c' e ht
        cases e
        obtain ⟨_, d, hd, e, hd'⟩ := hT _ ht
        have hu := hd.trans (congrArg some hd')
        refine ⟨.one (.bool c), .bool c, ?_, rfl, h⟩
        simp only [Sem.run_bind, hg, Result.andThen_ok]
        subst hp; simp [binOp, run_eq_ptr hu]
      · rename_i c' e ht
        cases e
        obtain ⟨_, d, hd, e, hd'⟩ := hT _ ht
        have hu := hd.trans (congrArg some hd')
        refine ⟨.one (.bool (!c)), .bool (!c), ?_, rfl, h⟩
        simp only [Sem.run_bind, hg, Result.andThen_ok]
        subst hp; simp [binOp, run_eq_ptr hu]
      · cases h
  · cases h
end
end
end Go.Proofs.Ytkiognopoigbhaa.Ab
