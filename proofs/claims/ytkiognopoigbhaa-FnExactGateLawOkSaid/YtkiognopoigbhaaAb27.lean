/- The abstract machine, part 27: facts of types, out of what the kernel can reckon. -/
import Derived.Test.YtkiognopoigbhaaAb21
set_option linter.unusedVariables false
set_option linter.unusedSimpArgs false
set_option linter.unusedSectionVars false
namespace Go.Proofs.Ytkiognopoigbhaa.Ab
open Go Go.RowKit

section
variable {Ty : Type} [DecidableEq Ty] {C : Ty → Type}
variable {P : Program} {K : Cd C}

theorem tk_of {l : List (Nat × TK Ty)} (h : ∀ x, x ∈ l → TFact P K x.1 x.2) : ∀ T k, lk l T = some k → TFact P K T k := by
  induction l with
  | nil => intro T k h; simp [lk] at h
  | cons x l ih =>
    obtain ⟨m, k0⟩ := x
    intro T k hl
    rw [lk_cons] at hl
    split at hl
    · rename_i e
      cases hl
      subst e
      exact h (T, k0) (by simp)
    · exact ih (fun y hy => h y (by simp [hy])) T k hl

theorem tfact_one {T : TypeId} {z : ZL Ty} {d : TypeDesc} (h1 : (P.info? T).map (fun i => i.size) = some 1) (h2 : (P.info? T).bind (fun i => i.zero) = some z.val) (h3 : P.underlying T = some d) (h4 : z.desc K d) : TFact P K T (.one z) := by
  cases hi : P.info? T with
  | none => rw [hi] at h1; cases h1
  | some i =>
    rw [hi] at h1 h2
    exact ⟨⟨i, hi, by simpa using h1, h2⟩, d, h3, h4⟩

def fieldB (P : Program) (f : Field) (x : Nat × Nat × Bool) : Bool :=
  Nat.beq f.offset x.1 && (match P.info? f.type with
    | some i => Nat.beq i.size x.2.1
    | none => false) && Nat.ble 1 x.2.1 && (match P.underlying f.type with
    | some (.struct _) => x.2.2
    | some (.array ..) => x.2.2
    | some _ => !x.2.2
    | none => false)
def fieldsB (P : Program) : List Field → List (Nat × Nat × Bool) → Bool
  | [], [] => true
  | f :: l, x :: r => fieldB P f x && fieldsB P l r
  | _, _ => false
theorem fieldsB_ok : ∀ {l : List Field} {fs : List (Nat × Nat × Bool)}, fieldsB P l fs = true → l.length = fs.length ∧ ∀ (j : Nat) (x : Nat × Nat × Bool), fs[j]? = some x → ∃ f, l[j]? = some f ∧ fieldB P f x = true
  | [], [], _ => ⟨rfl, fun j x h => by simp at h⟩
  | [], _ :: _, h => by cases h
  | _ :: _, [], h => by cases h
  | f :: l, x :: r, h => by
    simp only [fieldsB, Bool.and_eq_true] at h
    obtain ⟨h1, h2⟩ := fieldsB_ok h.2
    refine ⟨by simp [h1], fun j y hj => ?_⟩
    cases j with
    | zero => simp at hj; subst hj; exact ⟨f, rfl, h.1⟩
    | succ j => exact h2 j y (by simpa using hj)
def structB (P : Program) (T : TypeId) (fs : List (Nat × Nat × Bool)) : Bool := match P.underlying T with
  | some (.struct fields) => fieldsB P fields.toList fs
  | _ => false
theorem tfact_agg {T : TypeId} {fs : List (Nat × Nat × Bool)} {zs : List (ZL Ty)} (h1 : (P.info? T).map (fun i => i.size) = some zs.length) (h2 : (P.info? T).bind (fun i => i.zero) = some (.agg (zs.map ZL.val).toArray))
    (h3 : structB P T fs = true) : TFact P K T (.agg fs zs) := by
  cases hi : P.info? T with
  | none => rw [hi] at h1; cases h1
  | some i =>
    rw [hi] at h1 h2
    refine ⟨⟨i, hi, by simpa using h1, h2⟩, ?_⟩
    unfold structB at h3
    split at h3
    · rename_i fields hu
      obtain ⟨g1, g2⟩ := fieldsB_ok h3
      refine ⟨fields, hu, by simpa using g1, fun j off n ag hj => ?_⟩
      obtain ⟨f, hf, hb⟩ := g2 j _ hj
      simp only [fieldB, Bool.and_eq_true] at hb
      obtain ⟨⟨⟨b1, b2⟩, b3⟩, b4⟩ := hb
      cases hfi : P.info? f.type with
      | none => rw [hfi] at b2; cases b2
      | some fi =>
        rw [hfi] at b2
        refine ⟨f, fi, by simpa using hf, Nat.eq_of_beq_eq_true b1, hfi, Nat.eq_of_beq_eq_true b2, Nat.le_of_ble_eq_true b3, ?_⟩
        cases hd : P.underlying f.type with
        | none => rw [hd] at b4; cases b4
        | some d =>
          rw [hd] at b4
          refine ⟨d, rfl, ?_⟩
          cases d <;> simp at b4 <;> simp [b4]
    · cases h3

def zvL : Lf C → Option Value
  | .int k n => some (.int k n)
  | .bool b => some (.bool b)
  | .str s => some (.string s)
  | .row _ [] => some (.slice none 0 0)
  | .fnc f => some (fnV f)
  | _ => none
theorem efact {t : Ty} {z : Value} (h1 : (P.info? (K.tid t)).map (fun i => (i.size, i.bytes)) = some (K.sz t, K.bytes t)) (h2 : 0 < K.bytes t) (h3 : (P.info? (K.tid t)).bind (fun i => i.zero) = some z)
    (h4 : (K.enc t (K.zero t)).map zvL = z.cells.toList.map some) : EFact P K t := by
  cases hi : P.info? (K.tid t) with
  | none => rw [hi] at h1; cases h1
  | some i =>
    rw [hi] at h1 h3
    simp only [Option.map_some, Option.some.injEq, Prod.mk.injEq] at h1
    have hlen : z.cells.size = K.sz t := by
      have := congrArg List.length h4
      simpa [K.enc_len] using this.symm
    refine ⟨i, z, hi, h1.1, h1.2, h2, h3, hlen, fun j l hj w base F => ?_⟩
    have hz : zvL l = some (z.cells.getD j undef) := by
      have := congrArg (fun x => x[j]?) h4
      simp only [List.getElem?_map, hj, Option.map_some] at this
      have hjl : j < z.cells.size := by
        have : j < (K.enc t (K.zero t)).length := by
          rcases Nat.lt_or_ge j (K.enc t (K.zero t)).length with h | h
          · exact h
          · simp [List.getElem?_eq_none h] at hj
        rw [hlen, ← K.enc_len t (K.zero t)]
        exact this
      rw [Array.getElem?_toList, Array.getElem?_eq_getElem hjl] at this
      rw [Array.getD_eq_getD_getElem?, Array.getElem?_eq_getElem hjl]
      simpa using this
    cases l with
    | int k n => simp only [zvL, Option.some.injEq] at hz; rw [← hz]; exact .int ..
    | bool b => simp only [zvL, Option.some.injEq] at hz; rw [← hz]; exact .bool ..
    | str s => simp only [zvL, Option.some.injEq] at hz; rw [← hz]; exact .str ..
    | fnc f => simp only [zvL, Option.some.injEq] at hz; rw [← hz]; exact .fnc ..
    | row t' xs =>
      cases xs with
      | nil =>
        simp only [zvL, Option.some.injEq] at hz
        rw [← hz]
        exact .row _ t' [] _ [] (fun _ _ _ => False) (World.ownsRow_nil ..) (fun g hg => by simp [Value.ownBlock] at hg) (fun _ _ _ h => h.elim) (fun _ _ _ _ _ h => h.elim) (fun j hj => absurd hj (by simp))
      | cons x xs => simp [zvL] at hz
    | _ => simp [zvL] at hz

/-! ### Words for what gen.py prints -/
def codeAt : Code → List Nat → Code
  | .seq a _, 0 :: r => codeAt a r
  | .seq _ b, 1 :: r => codeAt b r
  | .block _ c, _ :: r => codeAt c r
  | .loop c, _ :: r => codeAt c r
  | .cond _ a _, 0 :: r => codeAt a r
  | .cond _ _ b, 1 :: r => codeAt b r
  | c, _ => c
def bodyOf (f : Func) : Code := match f.body with
  | some c => c
  | none => .skip
def kTop {R : Type} (X : Cx C) (fn : Func) (k : List (Bool × List (Lf C)) → Option R) (e : Ex) (S : St C) : Option R := match e with
  | .exit _ => none
  | _ => match resOf X S fn.results.toList with
    | some rs => match outs S rs with
      | some rs' => k rs'
      | none => none
    | none => none
theorem runFn_eq {R : Type} {X : Cx C} {F : Cf} {fn : Func} {c : Code} (hb : fn.body = some c) (vs : List (SV C)) (k : List (Bool × List (Lf C)) → Option R) :
    runFn X F fn vs k = run X F (bodyOf fn) 0 (start vs) (kTop X fn k) := by
  unfold runFn bodyOf
  rw [hb]
  congr 1
end
end Go.Proofs.Ytkiognopoigbhaa.Ab
