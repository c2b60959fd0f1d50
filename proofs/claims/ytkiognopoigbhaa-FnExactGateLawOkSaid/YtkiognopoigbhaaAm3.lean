/- The abstract machine: facts of types of functions, interfaces, maps; of methods: out of what the kernel can reckon. -/
import Derived.Test.YtkiognopoigbhaaAb27
set_option linter.unusedVariables false
set_option linter.unusedSimpArgs false
set_option linter.unusedSectionVars false
namespace Go.Proofs.Ytkiognopoigbhaa.Ab
open Go Go.RowKit

section
variable {Ty : Type} [DecidableEq Ty] {C : Ty → Type}
variable {P : Program} {K : Cd C} {w : World}

def isFn : Option TypeDesc → Bool
  | some (.func ..) => true
  | _ => false
def isIf : Option TypeDesc → Bool
  | some (.interface _) => true
  | _ => false
def isMp : Option TypeDesc → Bool
  | some (.map ..) => true
  | _ => false
theorem tfact_fnc {T : TypeId} (h1 : (P.info? T).map (fun i => i.size) = some 1) (h2 : (P.info? T).bind (fun i => i.zero) = some .nilFunc) (h3 : isFn (P.underlying T) = true) : TFact P K T (.one .fnc) := by
  cases h : P.underlying T with
  | none => rw [h] at h3; cases h3
  | some d =>
    rw [h] at h3
    cases d with
    | func p r v => exact tfact_one h1 h2 h ⟨p, r, v, rfl⟩
    | _ => cases h3
theorem tfact_ifc {T : TypeId} (h1 : (P.info? T).map (fun i => i.size) = some 1) (h2 : (P.info? T).bind (fun i => i.zero) = some .nilIface) (h3 : isIf (P.underlying T) = true) : TFact P K T (.one (.nk .ifc)) := by
  cases h : P.underlying T with
  | none => rw [h] at h3; cases h3
  | some d =>
    rw [h] at h3
    cases d with
    | interface ms => exact tfact_one h1 h2 h ⟨ms, rfl⟩
    | _ => cases h3
theorem tfact_map {T : TypeId} (h1 : (P.info? T).map (fun i => i.size) = some 1) (h2 : (P.info? T).bind (fun i => i.zero) = some (.map none)) (h3 : isMp (P.underlying T) = true) : TFact P K T (.one (.nk .map)) := by
  cases h : P.underlying T with
  | none => rw [h] at h3; cases h3
  | some d =>
    rw [h] at h3
    cases d with
    | map p r => exact tfact_one h1 h2 h ⟨p, r, rfl⟩
    | _ => cases h3

/-! ### Maps -/
theorem ba_beq (a b : ByteArray) : (a == b) = decide (a = b) := by
  obtain ⟨x⟩ := a
  obtain ⟨y⟩ := b
  show (x == y) = _
  rw [Bool.eq_iff_iff]
  simp
theorem chk_int {b : Bool} {n : Nat} {t : TypeId} {k : IntKind} (h : P.underlying t = some (.int k)) (v : Value) : (Instr.checkKey b (n + 1) t v).run P w = .ok () w := by
  simp [Instr.checkKey, run_under h]
theorem chk_str {b : Bool} {n : Nat} {t : TypeId} (h : P.underlying t = some .string) (v : Value) : (Instr.checkKey b (n + 1) t v).run P w = .ok () w := by
  simp [Instr.checkKey, run_under h]
theorem find_now {fl : MK} {kt vt : Ty} {kid : TypeId} {d : TypeDesc} (hd : P.underlying kid = some d) (hs : ∀ x y, Instr.sameNow d (keyV K fl kt x) (keyV K fl kt y) = some (keysEq (K.enc kt y) (K.enc kt x))) (x : C kt) (xs : List (Nat × C kt × C vt)) :
    (Instr.findKey kid (keyV K fl kt x) (xs.map (entV K fl kt vt))).run P w = .ok (mfind K fl kt vt x xs 0) w := by
  have key : ∀ (xs : List (Nat × C kt × C vt)) (i : Nat), Instr.findNow d (keyV K fl kt x) (xs.map (entV K fl kt vt)) i = some (mfind K fl kt vt x xs i) := by
    intro xs
    induction xs with
    | nil => intro i; rfl
    | cons e r ih =>
      intro i
      have h1 : Instr.sameNow d (keyV K fl kt x) (entV K fl kt vt e).key = some (keysEq (K.enc kt e.2.1) (K.enc kt x)) := hs x e.2.1
      simp only [List.map_cons, Instr.findNow, h1, mfind]
      cases keysEq (K.enc kt e.2.1) (K.enc kt x) with
      | true => rfl
      | false => exact ih (i + 1)
  unfold Instr.findKey
  simp only [Sem.run_bind, run_under hd, Result.andThen_ok, key]
  rfl
/-- A map whose keys are whole numbers. -/
theorem mfact_int {T kid eid : TypeId} {m : MT Ty} {k : IntKind} (hu : P.underlying T = some (.map kid eid)) (hk : P.underlying kid = some (.int k)) (henc : ∀ x, ∃ n, K.enc m.kt x = [Lf.int k n]) (hag : m.fl.kag = false)
    (fk : K.flat m.kt = true) (fv : K.flat m.vt = true) (hz : (P.info? eid).bind (fun i => i.zero) = some (valV K m.fl m.vt (K.zero m.vt))) (h1 : m.fl.vag = false → m.fl.un = false → K.sz m.vt = 1) : MFact P K T m := by
  refine ⟨kid, eid, hu, fk, fv, fun w => ?_, fun b x w => chk_int hk _, fun x xs w => find_now hk (fun x y => ?_) x xs, h1, fun x y h => ?_⟩
  · cases hi : P.info? eid with
    | none => rw [hi] at hz; cases hz
    | some i =>
      rw [hi] at hz
      have hz' : i.zero = some (valV K m.fl m.vt (K.zero m.vt)) := hz
      simp [zeroValue, typeInfo, hi, hz']
  · obtain ⟨n, hn⟩ := henc x
    obtain ⟨n', hn'⟩ := henc y
    simp only [keyV, mkV, hag, hn, hn', cond_false, List.map_cons, List.map_nil, plainV, List.headD_cons, Instr.sameNow, keysEq, keyEq, if_true]
    congr 1
    rw [Bool.eq_iff_iff]
    simp only [beq_iff_eq, decide_eq_true_eq]
    exact ⟨fun e => e.symm, fun e => e.symm⟩
  · obtain ⟨n, hn⟩ := henc x
    obtain ⟨n', hn'⟩ := henc y
    rw [hn, hn'] at h
    have e : n' = n := by simpa [keysEq, keyEq] using h
    subst e
    simp [keyV, mkV, hag, hn, hn', plainV, Instr.sameBits]
/-- A map whose keys are texts. -/
theorem mfact_str {T kid eid : TypeId} {m : MT Ty} (hu : P.underlying T = some (.map kid eid)) (hk : P.underlying kid = some .string) (henc : ∀ x, ∃ n, K.enc m.kt x = [Lf.str n]) (hag : m.fl.kag = false)
    (fk : K.flat m.kt = true) (fv : K.flat m.vt = true) (hz : (P.info? eid).bind (fun i => i.zero) = some (valV K m.fl m.vt (K.zero m.vt))) (h1 : m.fl.vag = false → m.fl.un = false → K.sz m.vt = 1) : MFact P K T m := by
  refine ⟨kid, eid, hu, fk, fv, fun w => ?_, fun b x w => chk_str hk _, fun x xs w => find_now hk (fun x y => ?_) x xs, h1, fun x y h => ?_⟩
  · cases hi : P.info? eid with
    | none => rw [hi] at hz; cases hz
    | some i =>
      rw [hi] at hz
      have hz' : i.zero = some (valV K m.fl m.vt (K.zero m.vt)) := hz
      simp [zeroValue, typeInfo, hi, hz']
  · obtain ⟨n, hn⟩ := henc x
    obtain ⟨n', hn'⟩ := henc y
    simp only [keyV, mkV, hag, hn, hn', cond_false, List.map_cons, List.map_nil, plainV, List.headD_cons, Instr.sameNow, keysEq, keyEq]
    congr 1
    rw [ba_beq, Bool.eq_iff_iff]
    simp only [decide_eq_true_eq]
    exact ⟨fun e => e.symm, fun e => e.symm⟩
  · obtain ⟨n, hn⟩ := henc x
    obtain ⟨n', hn'⟩ := henc y
    rw [hn, hn'] at h
    have e : n' = n := by simpa [keysEq, keyEq] using h
    subst e
    simp [keyV, mkV, hag, hn, hn', plainV, Instr.sameBits, ba_beq]
theorem mp_of {l : List (Nat × MT Ty)} (h : ∀ x, x ∈ l → MFact P K x.1 x.2) : ∀ T m, lk l T = some m → MFact P K T m := by
  induction l with
  | nil => intro T m hm; cases hm
  | cons x l ih =>
    intro T m hm
    obtain ⟨n, v⟩ := x
    rw [lk_cons] at hm
    split at hm
    · rename_i e; cases hm; subst e; exact h (T, m) (by simp)
    · exact ih (fun y hy => h y (by simp [hy])) T m hm

def allK (P : Program) (K : Cd C) : List (Nat × TK Ty) → Prop
  | [] => True
  | x :: r => TFact P K x.1 x.2 ∧ allK P K r
theorem tk_all : ∀ {l : List (Nat × TK Ty)}, allK P K l → ∀ T k, lk l T = some k → TFact P K T k
  | [], _, T, k, h => by cases h
  | (n, v) :: l, ha, T, k, h => by
    rw [lk_cons] at h
    split at h
    · rename_i e; cases h; subst e; exact ha.1
    · exact tk_all ha.2 T k h
/-! ### Methods -/
def lkS : List (Nat × String × Nat) → Nat → String → Option Nat
  | [], _, _ => none
  | (T, s, f) :: r, U, t => cond (Nat.beq U T && decide (t = s)) (some f) (lkS r U t)
def isPtr : Option TypeDesc → Bool
  | some (.pointer _) => true
  | some _ => false
  | none => true
def methB (P : Program) (x : Nat × String × Nat) : Bool := match P.info? x.1 with
  | some i => match i.methods.find? (·.name == x.2.1) with
    | some m => m.path.isEmpty && (match m.func with
      | some (g, false) => Nat.beq g x.2.2 && !isPtr (P.underlying x.1)
      | some (g, true) => Nat.beq g x.2.2 && (P.underlying x.1).isSome && isPtr (P.underlying x.1)
      | none => false)
    | none => false
  | none => false
theorem meth_one {x : Nat × String × Nat} (h : methB P x = true) (n : Nat) (v : Value) (w : World) : (method (n + 1) x.1 v x.2.1).run P w = .ok (x.2.2, v) w := by
  obtain ⟨T, s, f⟩ := x
  unfold methB at h
  simp only at h
  split at h
  case h_2 => cases h
  rename_i i hi
  split at h
  case h_2 => cases h
  rename_i m hm
  simp only [Bool.and_eq_true] at h
  obtain ⟨h1, h2⟩ := h
  have hp : m.path = #[] := by simpa using h1
  have hi' : (typeInfo T).run P w = .ok i w := by simp [typeInfo, hi]
  have hf : (follow m.path.toList T (.val v)).run P w = .ok (T, .val v) w := by rw [hp]; rfl
  unfold method
  simp only [Sem.run_bind, hi', Result.andThen_ok, hm, hf]
  split at h2
  · rename_i g hg
    simp only [Bool.and_eq_true] at h2
    have e := Nat.eq_of_beq_eq_true h2.1
    subst e
    rw [hg]
    cases hd : P.underlying T with
    | none => rw [hd] at h2; cases h2.2
    | some d =>
      have : (receiverAt T (.val v) false (if m.path.isEmpty = true then some ((s.splitOn ".").getLastD s) else none)).run P w = .ok v w := by
        unfold receiverAt
        simp only [Sem.run_bind, run_under hd, Result.andThen_ok]
        rw [hd] at h2
        cases d <;> first | rfl | cases h2.2
      simp only [Sem.run_bind, this, Result.andThen_ok]
      rfl
  · rename_i g hg
    simp only [Bool.and_eq_true] at h2
    have e := Nat.eq_of_beq_eq_true h2.1.1
    subst e
    rw [hg]
    cases hd : P.underlying T with
    | none => rw [hd] at h2; cases h2.1.2
    | some d =>
      have : (receiverAt T (.val v) true (if m.path.isEmpty = true then some ((s.splitOn ".").getLastD s) else none)).run P w = .ok v w := by
        unfold receiverAt
        simp only [Sem.run_bind, run_under hd, Result.andThen_ok]
        rw [hd] at h2
        cases d <;> first | rfl | cases h2.2
      simp only [Sem.run_bind, this, Result.andThen_ok]
      rfl
  · cases h2
theorem meth_of {l : List (Nat × String × Nat)} (h : l.all (methB P) = true) : ∀ T name f, lkS l T name = some f → ∀ v w, (method (P.types.size + Made.depth) T v name).run P w = .ok (f, v) w := by
  intro T name f hf v w
  have hd : 0 < Made.depth := by decide
  have hn : ∃ n, P.types.size + Made.depth = n + 1 := ⟨P.types.size + Made.depth - 1, by omega⟩
  obtain ⟨n, hn⟩ := hn
  rw [hn]
  clear hn
  induction l with
  | nil => cases hf
  | cons x l ih =>
    simp only [List.all_cons, Bool.and_eq_true] at h
    obtain ⟨T', s, f'⟩ := x
    simp only [lkS] at hf
    cases hb : Nat.beq T T' && decide (name = s) with
    | true =>
      rw [hb] at hf
      cases hf
      simp only [Bool.and_eq_true, decide_eq_true_eq] at hb
      have e := Nat.eq_of_beq_eq_true hb.1
      obtain ⟨_, rfl⟩ := hb
      subst e
      exact meth_one h.1 n v w
    | false => rw [hb] at hf; exact ih h.2 hf
end
end Go.Proofs.Ytkiognopoigbhaa.Ab
