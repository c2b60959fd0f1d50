/- The abstract machine: ghosts may be any. -/
import Derived.Test.YtkiognopoigbhaaAw3
set_option linter.unusedVariables false
set_option linter.unusedSimpArgs false
set_option linter.unusedSectionVars false
namespace Go.Proofs.Ytkiognopoigbhaa.Ab
open Go Go.RowKit

section
variable {Ty : Type} [DecidableEq Ty] {C : Ty → Type}
variable {P : Program} {X : Cx C} {w0 w : World} {nt : Nat} {S : St C} {β : Nat → Value} {fp : Nat → Nat → Prop} {a : Act} {R : Type} {r : R}

def Cd.gh (K : Cd C) (kp : Nat → Prop) (kh : Nat → Option Obj) (hd : Nat → Value) : Cd C := { K with kp := kp, kh := kh, hd := hd }
def Cx.gh (X : Cx C) (kp : Nat → Prop) (kh : Nat → Option Obj) (hd : Nat → Value) : Cx C := { X with K := X.K.gh kp kh hd }

section
variable {K : Cd C} {kp : Nat → Prop} {kh : Nat → Option Obj} {hd : Nat → Value}
theorem own_gh {base : Nat} {F : Nat → Prop} {l : Lf C} {v : Value} (h : Own K w base F l v) : Own (K.gh kp kh hd) w base F l v := by
  induction h with
  | int => exact .int ..
  | bool => exact .bool ..
  | str => exact .str ..
  | fnc => exact .fnc ..
  | row F t xs v cells G h hF hG hd _ ih => exact .row F t xs v cells G h hF hG hd ih
theorem own_hg {base : Nat} {F : Nat → Prop} {l : Lf C} {v : Value} (h : Own (K.gh kp kh hd) w base F l v) : Own K w base F l v := by
  induction h with
  | int => exact .int ..
  | bool => exact .bool ..
  | str => exact .str ..
  | fnc => exact .fnc ..
  | row F t xs v cells G h hF hG hd _ ih => exact .row F t xs v cells G h hF hG hd ih
theorem rep_gh {F : Nat → Prop} {l : Lf C} {v : Value} (h : Rep K w F l v) : Rep (K.gh kp kh hd) w F l v := by
  induction h with
  | int => exact .int ..
  | bool => exact .bool ..
  | str => exact .str ..
  | fnc => exact .fnc ..
  | row t xs A c a U hc hA hcell _ ih => exact .row t xs A c a U hc hA hcell ih
theorem rep_hg {F : Nat → Prop} {l : Lf C} {v : Value} (h : Rep (K.gh kp kh hd) w F l v) : Rep K w F l v := by
  induction h with
  | int => exact .int ..
  | bool => exact .bool ..
  | str => exact .str ..
  | fnc => exact .fnc ..
  | row t xs A c a U hc hA hcell _ ih => exact .row t xs A c a U hc hA hcell ih
theorem con_gh {f : Nat} {c : Con C} (h : ConOk P K f c) : ConOk P (K.gh kp kh hd) f c := by
  refine ⟨h.1, fun w vs us r0 hl ha hg => (h.2 w vs us r0 hl (fun i v hi => ?_) hg).mono fun e w' ⟨v, he, hb, us', G, q1, q2, q3, q4, q5, q6⟩ => ⟨v, he, hb, us', G, q1, q2, q3, q4, q5, fun m l hm => own_gh (q6 m l hm)⟩⟩
  have := ha i v hi
  cases v with
  | one l =>
    cases l with
    | elt t x o => obtain ⟨a, U, h1, h2, h3, h4⟩ := this; exact ⟨a, U, h1, h2, h3, fun i l hl => rep_hg (h4 i l hl)⟩
    | _ => exact ⟨this.1, rep_hg this.2⟩
  | agg ls => obtain ⟨us, e, h1, h2⟩ := this; exact ⟨us, e, h1, fun i l hi => rep_hg (h2 i l hi)⟩
  | _ => exact this.elim
theorem conw_gh {f : Nat} {c : ConW C} (h : ConWOk P K f c) : ConWOk P (K.gh kp kh hd) f c := by
  refine ⟨h.1, fun w0 w rs uls r0 G hb hok hul hG1 hG2 hl hg => (h.2 w0 w rs uls r0 G hb hok hul hG1 hG2 (fun m l hm => ⟨(hl m l hm).1, own_hg (hl m l hm).2⟩) hg).mono fun e w' ⟨v, he, hb', hfr, rls, G', q1, q2, q3, q4, q5, q6, q7⟩ =>
    ⟨v, he, hb', hfr, rls, G', q1, q2, q3, q4, q5, q6, fun m l hm => own_gh (q7 m l hm)⟩⟩
theorem mget_gh (kt vt : Ty) (x : C kt) : ∀ xs : List (Nat × C kt × C vt), mget (K.gh kp kh hd) kt vt x xs = mget K kt vt x xs
  | [] => rfl
  | e :: r => by simp only [mget, mget_gh kt vt x r]; rfl
theorem mfind_gh (fl : MK) (kt vt : Ty) (x : C kt) : ∀ (xs : List (Nat × C kt × C vt)) (i : Nat), mfind (K.gh kp kh hd) fl kt vt x xs i = mfind K fl kt vt x xs i
  | [], _ => rfl
  | e :: r, i => by simp only [mfind, mfind_gh fl kt vt x r]; rfl
theorem mval_gh (kt vt : Ty) (x : C kt) (xs : List (Nat × C kt × C vt)) : mval (K.gh kp kh hd) kt vt x xs = mval K kt vt x xs := by unfold mval; rw [mget_gh]; rfl
theorem mhas_gh (kt vt : Ty) (x : C kt) (xs : List (Nat × C kt × C vt)) : mhas (K.gh kp kh hd) kt vt x xs = mhas K kt vt x xs := by unfold mhas; rw [mget_gh]
theorem mclk_gh (kt vt : Ty) (x : C kt) (c : Nat) (xs : List (Nat × C kt × C vt)) : mclk (K.gh kp kh hd) kt vt x c xs = mclk K kt vt x c xs := by unfold mclk; rw [mhas_gh]
theorem mput_gh (kt vt : Ty) (x : C kt) (y : C vt) (c : Nat) : ∀ xs : List (Nat × C kt × C vt), mput (K.gh kp kh hd) kt vt x y c xs = mput K kt vt x y c xs
  | [] => rfl
  | e :: r => by simp only [mput, mput_gh kt vt x y c r]; rfl
theorem mdel_gh (kt vt : Ty) (x : C kt) : ∀ xs : List (Nat × C kt × C vt), mdel (K.gh kp kh hd) kt vt x xs = mdel K kt vt x xs
  | [] => rfl
  | e :: r => by simp only [mdel, mdel_gh kt vt x r]; rfl
theorem mbr_gh {R : Type} (kt vt : Ty) (x : C kt) (yes : C vt → Option R) (no : Option R) : ∀ xs : List (Nat × C kt × C vt), mbr (K.gh kp kh hd) kt vt x yes no xs = mbr K kt vt x yes no xs
  | [] => rfl
  | e :: r => by simp only [mbr, mbr_gh kt vt x yes no r]; rfl
theorem xok_gh (h : XOk P X) : XOk P (X.gh kp kh hd) := by
  refine ⟨fun T k hk => h.tk T k hk, fun t => ?_, fun T m hm => ?_, h.meth⟩
  rotate_left
  · obtain ⟨kt, et, q⟩ := h.mp T m hm
    exact ⟨kt, et, q.und, q.fk, q.fv, q.zero, q.chk, fun x xs w => (q.find x xs w).trans (congrArg (Result.ok · w) (mfind_gh m.fl m.kt m.vt x xs 0).symm), q.vone, q.bits⟩
  obtain ⟨i, z, h1, h2, h3, h4, h5, h6, h7⟩ := h.el t
  exact ⟨i, z, h1, h2, h3, h4, h5, h6, fun j l hj w base F => own_gh (h7 j l hj w base F)⟩
end
end
end Go.Proofs.Ytkiognopoigbhaa.Ab
