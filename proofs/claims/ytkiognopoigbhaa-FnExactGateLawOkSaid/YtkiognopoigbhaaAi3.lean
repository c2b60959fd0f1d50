/- The abstract machine: names for what comes behind a call in place. -/
import Derived.Test.YtkiognopoigbhaaAi2
set_option linter.unusedVariables false
namespace Go.Proofs.Ytkiognopoigbhaa.Ab
open Go Go.RowKit

section
variable {Ty : Type} {C : Ty → Type} {R : Type}
def opsOf : Code → Array Oper
  | .region _ ops _ => ops
  | _ => #[]
def regK (F : Cf) (k : Ex → St C → Option R) (S : St C) : Option R := forceS (S.tidy F.keep) fun S2 => k .norm S2
def callK (b : Nat) (d : Option Tmp) (k : St C → Option R) (rs : List (Bool × List (Lf C))) (S : St C) : Option R := match toSV rs with
  | some v => k ((resu b S).put d v)
  | none => none
def inlK (X : Cx C) (fn : Func) (k : List (Bool × List (Lf C)) → St C → Option R) (e : Ex) (S : St C) : Option R := match e with
  | .exit _ => none
  | _ => match resOf X S fn.results.toList with
    | some rs => k rs { S with env := ghostsE S.env }
    | none => none
noncomputable def restK [DecidableEq Ty] (X : Cx C) (c : Code) (j : Nat) (k : St C → Option R) (S : St C) : Option R := evs X (opsOf c) ((opsOf c).toList.drop j) S k
def allI (P : Program) (K : Cd C) : List (Nat × Inl C) → Prop
  | [] => True
  | (f, c) :: r => InlOk P K f c ∧ allI P K r
def lkA {α : Type 1} : List (Nat × α) → Nat → Option α
  | [], _ => none
  | (m, v) :: r, n => cond (Nat.beq n m) (some v) (lkA r n)
theorem lkI_ok {P : Program} {K : Cd C} : ∀ {l : List (Nat × Inl C)}, allI P K l → ∀ f c, lkA l f = some c → InlOk P K f c
  | [], _, f, c, h => by cases h
  | (m, v) :: r, ha, f, c, h => by
    simp only [lkA] at h
    cases hb : Nat.beq f m with
    | true => rw [hb] at h; cases h; have := Nat.eq_of_beq_eq_true hb; subst this; exact ha.1
    | false => rw [hb] at h; exact lkI_ok ha.2 f c h
end
end Go.Proofs.Ytkiognopoigbhaa.Ab
