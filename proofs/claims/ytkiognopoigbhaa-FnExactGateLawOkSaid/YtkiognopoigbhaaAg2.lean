/- The abstract machine: what it reckons does not hang on the ghosts. -/
import Derived.Test.YtkiognopoigbhaaAg1
set_option linter.unusedVariables false
set_option linter.unusedSimpArgs false
set_option linter.unusedSectionVars false
namespace Go.Proofs.Ytkiognopoigbhaa.Ab
open Go Go.RowKit

section
variable {Ty : Type} [DecidableEq Ty] {C : Ty → Type}
variable {X : Cx C} {K : Cd C} {S : St C} {R : Type} {kp : Nat → Prop} {kh : Nat → Option Obj} {hd : Nat → Value}

theorem newId_gh (o : Oper) : newId (X.gh kp kh hd) o = newId X o := rfl
theorem path_gh {α : Type} : ∀ (p : List (Nat × Nat)) (t : Ty) (xs : List (C t)) (k : (t : Ty) → List (C t) → Option α), path (K.gh kp kh hd) p t xs k = path K p t xs k
  | [], _, _, _ => rfl
  | (i, o) :: p, t, xs, k => by
    simp only [path, path_gh p]
    rfl
theorem Sli_gh {α : Type} (l : Lf C) (k : (t : Ty) → List (C t) → Option α) : Sli S (X.gh kp kh hd) l k = Sli S X l k := by
  cases l with
  | ref id p =>
    simp only [Sli]
    split
    · exact path_gh ..
    · rfl
  | _ => rfl
theorem cellsAt_gh {α : Type} (a : Lf C) (k : List (Lf C) → Option α) : cellsAt (X.gh kp kh hd) S a k = cellsAt X S a k := by
  cases a with
  | ep id p i o =>
    simp only [cellsAt]
    split
    · exact path_gh ..
    · rfl
  | _ => rfl
theorem elems_gh (t : Ty) : ∀ (l : List (Nat × Operand)) (S : St C) (n : Nat), elems (X.gh kp kh hd) t S n l = elems X t S n l
  | [], _, _ => rfl
  | (i, x) :: r, S, n => by
    simp only [elems, elems_gh t r]
    rfl
theorem partsOf_gh (fs : List (Nat × Nat × Bool)) : ∀ (l : List (Nat × Operand)) (ls : List (Lf C)), partsOf (X.gh kp kh hd) fs S l ls = partsOf X fs S l ls
  | [], _ => rfl
  | (i, x) :: r, ls => by simp only [partsOf, partsOf_gh fs r]
theorem opdT_gh (T : TypeId) (x : Operand) : opdT (X.gh kp kh hd) S T x = opdT X S T x := rfl
theorem ownL_gh (l : Lf C) (k : Lf C → Tgt → Option R) : ownL (X.gh kp kh hd) S l k = ownL X S l k := by
  cases l with
  | ref id p =>
    simp only [ownL]
    split
    · exact path_gh ..
    · rfl
  | _ => rfl
theorem ownLs_gh : ∀ (l : List (Lf C)) (k : List (Lf C) → List Tgt → Option R), ownLs (X.gh kp kh hd) S l k = ownLs X S l k
  | [], _ => rfl
  | l :: r, k => by simp only [ownLs, ownL_gh, ownLs_gh r]
theorem ownAll_gh : ∀ (l : List Operand) (ts : List TypeId) (k : List (Bool × List (Lf C)) → List Tgt → Option R), ownAll (X.gh kp kh hd) S l ts k = ownAll X S l ts k
  | [], _, _ => rfl
  | x :: r, ts, k => by simp only [ownAll, ownLs_gh, ownAll_gh r, opdT_gh]
theorem setPath_gh : ∀ (p : List (Nat × Nat)) (t : Ty) (xs : List (C t)) (l : Lf C) (k : List (C t) → Option R), setPath (K.gh kp kh hd) p t xs l k = setPath K p t xs l k
  | [], _, _, l, _ => by cases l <;> rfl
  | (i, o) :: p, t, xs, l, k => by
    simp only [setPath, setPath_gh p]
    rfl
theorem putAll_gh : ∀ (ls : List (Lf C)) (ts : List Tgt) (os : List (Lf C)) (S : St C) (k : St C → Option R), putAll (K.gh kp kh hd) ls ts os S k = putAll K ls ts os S k := by
  intro ls
  induction ls with
  | nil => intro ts os S k; cases ts <;> cases os <;> rfl
  | cons l ls ih =>
    intro ts os S k
    cases ts with
    | nil => cases l <;> rfl
    | cons t ts =>
      cases l with
      | row t0 xs0 =>
        cases os with
        | nil => cases t <;> rfl
        | cons o os =>
          cases t with
          | none => simp only [putAll, ih]
          | some x =>
            obtain ⟨id, p⟩ := x
            simp only [putAll, setPath_gh, ih]
      | int ki n => cases t <;> simp only [putAll, ih]
      | bool b => cases t <;> simp only [putAll, ih]
      | str s => cases t <;> simp only [putAll, ih]
      | _ => cases t <;> rfl
theorem callW_gh (f : Nat) (as : List Operand) (ts : List TypeId) (o : Oper) (k : St C → Option R) : callW (X.gh kp kh hd) S f as ts o k = callW X S f as ts o k := by
  simp only [callW, ownAll_gh]
  have e : (X.gh kp kh hd).conw f = X.conw f := rfl
  rw [e]
  cases X.conw f with
  | none => rfl
  | some c =>
    have e2 : (X.gh kp kh hd).K = X.K.gh kp kh hd := rfl
    simp only [e2, putAll_gh, newId_gh]
theorem argsI_gh : ∀ (l : List Operand) (ts : List TypeId), argsI (X.gh kp kh hd) S l ts = argsI X S l ts
  | [], _ => rfl
  | x :: r, ts => by simp only [argsI, argsI_gh r, opdT_gh]
theorem callI_gh (f : Nat) (pre : List (SV C)) (as : List Operand) (ts : List TypeId) (post : List (SV C)) (o : Oper) (k : St C → Option R) : callI (X.gh kp kh hd) S f pre as ts post o k = callI X S f pre as ts post o k := by
  simp only [callI, argsI_gh]
  rfl
theorem viewLX_gh (l : Lf C) : viewLX (X.gh kp kh hd) S l = viewLX X S l := by
  unfold viewLX
  simp only [Sli_gh]
theorem viewLXs_gh : ∀ l : List (Lf C), viewLXs (X.gh kp kh hd) S l = viewLXs X S l
  | [] => rfl
  | l :: r => by simp only [viewLXs, viewLX_gh, viewLXs_gh r]
theorem viewP_gh (pt : Option Ty) (v : SV C) : viewP (X.gh kp kh hd) S pt v = viewP X S pt v := by
  unfold viewP
  simp only [cellsAt_gh, viewLXs_gh]
  rfl
theorem views_gh : ∀ (pt : List (Option Ty)) (l : List (SV C)), views (X.gh kp kh hd) S pt l = views X S pt l
  | _, [] => rfl
  | pt, v :: r => by simp only [views, viewP_gh, views_gh pt.tail r]
theorem callC_gh (c : Con C) (pre : List (SV C)) (as : List Operand) (ts : List TypeId) (post : List (SV C)) (o : Oper) (k : St C → Option R) : callC (X.gh kp kh hd) c S pre as ts post o k = callC X c S pre as ts post o k := by
  unfold callC argsC
  simp only [argsI_gh, views_gh, newId_gh]
theorem callCq_gh (c : Con C) (pre : List (SV C)) (as : List Operand) (ts : List TypeId) (post : List (SV C)) (o : Oper) (k : SV C → List (Nat × Ob C) → List Nat → Option R) : callCq (X.gh kp kh hd) c S pre as ts post o k = callCq X c S pre as ts post o k := by
  unfold callCq argsC
  simp only [argsI_gh, views_gh, newId_gh]
theorem callF_gh (f : Nat) (pre : List (SV C)) (as : List Operand) (ts : List TypeId) (post : List (SV C)) (o : Oper) (k : St C → Option R) : callF (X.gh kp kh hd) S f pre as ts post o k = callF X S f pre as ts post o k := by
  unfold callF
  simp only [callC_gh, callI_gh]
  rfl
theorem lookV_gh (m : MT Ty) (l : Lf C) (key : SV C) (ok : Bool) (k : SV C → Option R) : lookV (X.gh kp kh hd) S m l key ok k = lookV X S m l key ok k := by
  have e2 : (X.gh kp kh hd).K = X.K.gh kp kh hd := rfl
  unfold lookV mapAt
  simp only [e2, mval_gh, mhas_gh]
  rfl
theorem lookB_gh (m : MT Ty) (l : Lf C) (key : SV C) (ok : Bool) (k : SV C → Option R) : lookB (X.gh kp kh hd) S m l key ok k = lookB X S m l key ok k := by
  have e2 : (X.gh kp kh hd).K = X.K.gh kp kh hd := rfl
  unfold lookB mapAt
  simp only [e2, mbr_gh]
  rfl
theorem upd1_gh (m : MT Ty) (l : Lf C) (key v : SV C) (k : St C → Option R) : upd1 (X.gh kp kh hd) S m l key v k = upd1 X S m l key v k := by
  have e2 : (X.gh kp kh hd).K = X.K.gh kp kh hd := rfl
  unfold upd1 mapAt
  simp only [e2, mput_gh, mclk_gh]
  rfl
theorem del1_gh (m : MT Ty) (l : Lf C) (key : SV C) (k : St C → Option R) : del1 (X.gh kp kh hd) S m l key k = del1 X S m l key k := by
  have e2 : (X.gh kp kh hd).K = X.K.gh kp kh hd := rfl
  unfold del1 mapAt
  simp only [e2, mdel_gh]
  rfl
theorem refsP_gh (t : Ty) : ∀ (l : List (Nat × Operand)) (S : St C), refsP (X.gh kp kh hd) t S l = refsP X t S l
  | [], _ => rfl
  | (i, x) :: r, S => by
    simp only [refsP, refsP_gh t r]
    rfl
theorem nilB_gh (tk : Option (TK Ty)) (op : BinOp) (x : SV C) (k : SV C → Option R) : nilB tk (X.gh kp kh hd) S op x k = nilB tk X S op x k := by
  unfold nilB
  simp only [Sli_gh]
theorem resOf_gh : ∀ (l : List ResultVar), resOf (X.gh kp kh hd) S l = resOf X S l
  | [] => rfl
  | .tmp t :: r => by simp only [resOf, resOf_gh r]
  | .cell a t :: r => by
    simp only [resOf, resOf_gh r, cellsAt_gh]
    rfl
theorem ev_gh (o : Oper) (S : St C) (k : St C → Option R) : ev (X.gh kp kh hd) o S k = ev X o S k := by
  obtain ⟨dst, op, ty, pos, aft, gd⟩ := o
  cases op with
  | build t ps => simp only [ev, partsOf_gh]; rfl
  | buildSlice t n ps => simp only [ev, elems_gh]; rfl
  | load t x => simp only [ev, cellsAt_gh]; rfl
  | binOp op t x y t' => simp only [ev, nilB_gh, opdT_gh]; rfl
  | convert t t' x => simp only [ev, Sli_gh]; rfl
  | indexAddr t x i => simp only [ev, Sli_gh]; rfl
  | call c =>
    obtain ⟨cal, as, ts⟩ := c
    cases cal with
    | builtin b => cases b with
      | len => simp only [ev, Sli_gh]; rfl
      | append => simp only [ev, opdT_gh]; rfl
      | delete => simp only [ev, opdT_gh, del1_gh]; rfl
      | _ => rfl
    | value f => cases f with
      | func f => simp only [ev, callC_gh, callW_gh, callI_gh]; rfl
      | tmp t => simp only [ev, callF_gh]
      | _ => rfl
    | invoke x name => simp only [ev, callF_gh]; rfl
  | makeFunc fn first captured => simp only [ev, argsI_gh, newId_gh]
  | makeInterface t x => simp only [ev, opdT_gh]; rfl
  | lookup t x i ok => simp only [ev, lookV_gh, lookB_gh]; rfl
  | mapUpdate t x i y => simp only [ev, upd1_gh]; rfl
  | insert t x i y => simp only [ev, upd1_gh]; rfl
  | _ => rfl
theorem evq_gh (o : Oper) (S : St C) (k : SV C → List (Nat × Ob C) → List Nat → Option R) : evq (X.gh kp kh hd) o S k = evq X o S k := by
  obtain ⟨dst, op, ty, pos, aft, gd⟩ := o
  cases op with
  | build t ps => simp only [evq, partsOf_gh]; rfl
  | buildSlice t n ps => simp only [evq, elems_gh, refsP_gh]; rfl
  | load t x => simp only [evq, cellsAt_gh]; rfl
  | convert t t' x => simp only [evq, Sli_gh]; rfl
  | indexAddr t x i => simp only [evq, Sli_gh]; rfl
  | call c =>
    obtain ⟨cal, as, ts⟩ := c
    cases cal with
    | builtin b => cases b with
      | len => simp only [evq, Sli_gh]; rfl
      | append => simp only [evq, opdT_gh]; rfl
      | _ => rfl
    | value f => cases f with
      | func f => simp only [evq, callCq_gh]; rfl
      | tmp t => simp only [evq, callCq_gh]; rfl
      | _ => rfl
    | invoke x name => simp only [evq, callCq_gh]; rfl
  | makeFunc fn first captured => simp only [evq, argsI_gh, newId_gh]
  | makeInterface t x => simp only [evq, opdT_gh]; rfl
  | lookup t x i ok => simp only [evq, lookV_gh]; rfl
  | _ => rfl
theorem evs_gh (all : Array Oper) : ∀ (l : List Oper) (S : St C) (k : St C → Option R), evs (X.gh kp kh hd) all l S k = evs X all l S k
  | [], _, _ => rfl
  | o :: r, S, k => by simp only [evs, ev_gh, evs_gh all r]
theorem dlay_gh (all : Array Oper) (tab : List (Nat × Nat)) (k : St C → Option R) : ∀ (f : Nat) (l : List (Nat × Oper)) (S0 : St C) (ents : List (Ent C)), dlay (X.gh kp kh hd) all tab k f l S0 ents = dlay X all tab k f l S0 ents
  | 0, _, _, _ => rfl
  | f + 1, [], _, _ => rfl
  | f + 1, (n, o) :: r, S0, ents => by simp only [dlay, ev_gh, evq_gh, dlay_gh all tab k f]
theorem run_gh (F : Cf) : ∀ (c : Code) (cur : Nat) (S : St C) (k : Ex → St C → Option R), run (X.gh kp kh hd) F c cur S k = run X F c cur S k := by
  intro c
  induction c with
  | region i ops draw =>
    intro cur S k
    cases draw with
    | false => simp only [run, evs_gh]
    | true => simp only [run, drun, dlay_gh]
  | seq a b iha ihb =>
    intro cur S k
    simp only [run]
    rw [iha]
    congr 1
    funext e S'
    cases e <;> simp only [seqK, ihb]
  | cond c x y ihx ihy =>
    intro cur S k
    simp only [run, ihx, ihy]
  | block id c ih => intro cur S k; simp only [run, ih]
  | scope c ih => intro cur S k; simp only [run, ih]
  | loop b ih =>
    intro cur S k
    simp only [run]
    congr 2
    funext rec S'
    exact ih ..
  | _ => intros; rfl
end
end Go.Proofs.Ytkiognopoigbhaa.Ab
