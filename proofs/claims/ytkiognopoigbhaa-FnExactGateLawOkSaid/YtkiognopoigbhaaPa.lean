/- Loops told place by place; numbers that do not overflow. -/
import Derived.Test.YtkiognopoigbhaaGc
import Derived.Test.YtkiognopoigbhaaKo
set_option linter.unusedVariables false
set_option linter.unusedSimpArgs false
namespace Go.Proofs.Ytkiognopoigbhaa.Ab
open Go Go.RowKit

theorem wrap_id {n : Int} (h0 : -9223372036854775808 ≤ n) (h1 : n < 9223372036854775808) : IntKind.i64.wrap n = n := by
  simp [IntKind.wrap, IntKind.bits, IntKind.signed]
  omega

theorem lp_open {A R : Type} {rnd : (A → Option R) → A → Option R} {n : Nat} {x : A} (h : 0 < n) : lpN rnd n x = rnd (lpN rnd (n - 1)) x := by
  obtain ⟨m, rfl⟩ : ∃ k, n = k + 1 := ⟨n - 1, by omega⟩
  rfl
def allN (p : Nat → Bool) (len i : Nat) : Bool := (List.range' i (len - i)).all p
theorem allN_step {p : Nat → Bool} {len i : Nat} (h : i < len) : allN p len i = (p i && allN p len (i + 1)) := by
  unfold allN
  rw [show len - i = (len - (i + 1)) + 1 by omega, List.range'_succ]
  rfl
theorem allN_end (p : Nat → Bool) (len : Nat) : allN p len len = true := by simp [allN]
theorem wrap_pred {i : Nat} (h : 0 < i) (h2 : i < 4611686018427387904) : IntKind.i64.wrap ((i : Int) - 1) = ((i - 1 : Nat) : Int) := by
  rw [wrap_id (by omega) (by omega)]; omega

theorem fuel_big : 1152921504606846976 ≤ fuel := by unfold fuel; omega
theorem alt_self {R : Type} (a : Option R) : alt a a = a := by
  unfold alt
  cases a <;> simp
theorem wrap_nat {i : Nat} (h : i < 4611686018427387904) : IntKind.i64.wrap ((i : Int) + 1) = ((i + 1 : Nat) : Int) := by
  rw [wrap_id (by omega) (by omega)]; rfl
theorem lp_succ {A R : Type} (rnd : (A → Option R) → A → Option R) (n : Nat) (x : A) : lpN rnd (n + 1) x = rnd (lpN rnd n) x := rfl
/-- A loop over places, its state told place by place. -/
theorem lp_idx {A R : Type} {rnd : (A → Option R) → A → Option R} (st : Nat → A) (val : Nat → Option R) (len : Nat) (hend : ∀ rec, rnd rec (st len) = val len) (hstep : ∀ rec i, i < len → rec (st (i + 1)) = val (i + 1) → rnd rec (st i) = val i) :
    ∀ n i, i ≤ len → len - i < n → lpN rnd n (st i) = val i := by
  intro n
  induction n with
  | zero => intro i _ h; omega
  | succ n ih =>
    intro i hi hn
    rw [lp_succ]
    rcases Nat.lt_or_ge i len with h | h
    · exact hstep _ i h (ih (i + 1) (by omega) (by omega))
    · have e : i = len := by omega
      subst e
      exact hend _
theorem get_cast {α : Type} {xs : List α} {i : Nat} (h : i < xs.length) : xs[((i : Int)).toNat]? = some xs[i] := by simp [h]


end Go.Proofs.Ytkiognopoigbhaa.Ab

/- The plain law: what is marked is held; what is compared with itself is alike. Printed out of the types. -/
set_option linter.unusedVariables false
set_option linter.unusedSimpArgs false
set_option maxRecDepth 10000
namespace Go.Proofs.Ytkiognopoigbhaa.Ab
open Go Go.RowKit

theorem fuel_big2 : 2305843009213693952 ≤ fuel := by unfold fuel; omega
theorem len_sum {α : Type} {w : α → Nat} (h : ∀ x, 1 ≤ w x) : ∀ xs : List α, xs.length ≤ (xs.map w).sum
  | [] => Nat.le_refl _
  | x :: t => by have := len_sum h t; have := h x; simp only [List.length_cons, List.map_cons, List.sum_cons]; omega
theorem sum_get {α : Type} {w : α → Nat} : ∀ {xs : List α} {i : Nat} (hi : i < xs.length), w xs[i] ≤ (xs.map w).sum
  | [], _, h => by simp at h
  | x :: t, 0, _ => by simp
  | x :: t, i + 1, h => by
    have := sum_get (w := w) (xs := t) (i := i) (by simpa using h)
    simp only [List.getElem_cons_succ, List.map_cons, List.sum_cons]; omega
theorem sum_drop {α : Type} {w : α → Nat} {xs : List α} {i : Nat} (hi : i < xs.length) : ((xs.drop i).map w).sum = w xs[i] + ((xs.drop (i + 1)).map w).sum := by
  rw [List.drop_eq_getElem_cons hi, List.map_cons, List.sum_cons]
inductive HC {α : Type} (gm : α → Int → Int → Prop) (ys : List α) : Nat → Int → Int → Prop
  | done (k) : HC gm ys ys.length k k
  | step {i k k1 k'} (hi : i < ys.length) (h : gm ys[i] k k1) (h0 : 0 ≤ k) (r : HC gm ys (i + 1) k1 k') : HC gm ys i k k'
theorem held_lp {α : Type} {gm : α → Int → Int → Prop} {ys : List α} {rnd : (List α × Int × Int → Option Int) → List α × Int × Int → Option Int}
    (hend : ∀ rec k, rnd rec (ys, k, (ys.length : Int)) = some k)
    (hstep : ∀ rec i (hi : i < ys.length) k k1, gm ys[i] k k1 → 0 ≤ k → rnd rec (ys, k, (i : Int)) = rec (ys, k1, ((i + 1 : Nat) : Int)))
    {i : Nat} {k k' : Int} (h : HC gm ys i k k') : ∀ n, ys.length - i < n → lpN rnd n (ys, k, (i : Int)) = some k' := by
  induction h with
  | done k => intro n hn; rw [lp_open (by omega)]; exact hend _ _
  | @step i k k1 k' hi hm h0 _ ih =>
    intro n hn
    rw [lp_open (by omega), hstep _ i hi k k1 hm h0]
    exact ih _ (by omega)
theorem mark_lp {α : Type} {w : α → Nat} {gm : α → Int → Int → Prop} {rnd : (List α × Int × Int → Option (List α × Int)) → List α × Int × Int → Option (List α × Int)}
    (hend : ∀ rec (zs : List α) k, rnd rec (zs, k, (zs.length : Int)) = some (zs, k))
    (hstep : ∀ (zs : List α) i (hi : i < zs.length) k, zs.length ≤ 1152921504606846976 → 0 ≤ k → k + (w zs[i] : Int) ≤ 1152921504606846976 → ∃ y, (∀ rec, rnd rec (zs, k, (i : Int)) = rec (zs.set i y, k + (w zs[i] : Int), ((i + 1 : Nat) : Int))) ∧ gm y k (k + (w zs[i] : Int))) :
    ∀ n i (zs : List α) k, zs.length ≤ 1152921504606846976 → i ≤ zs.length → zs.length - i < n → 0 ≤ k → k + ((((zs.drop i).map w).sum : Nat) : Int) ≤ 1152921504606846976 → ∃ ys, lpN rnd n (zs, k, (i : Int)) = some (ys, k + ((((zs.drop i).map w).sum : Nat) : Int)) ∧ ys.length = zs.length ∧ (∀ j, j < i → ys[j]? = zs[j]?) ∧ HC gm ys i k (k + ((((zs.drop i).map w).sum : Nat) : Int)) := by
  intro n
  induction n with
  | zero => intro i zs k _ _ h; omega
  | succ n ih =>
    intro i zs k hl hi hn h0 hk
    rw [lp_succ]
    rcases Nat.lt_or_ge i zs.length with h | h
    · rw [sum_drop h] at hk ⊢
      obtain ⟨y, e, g⟩ := hstep zs i h k hl h0 (by omega)
      rw [e]
      have hd : (zs.set i y).drop (i + 1) = zs.drop (i + 1) := by rw [List.drop_set_of_lt (by omega)]
      obtain ⟨ys, e, e1, e2, e3⟩ := ih (i + 1) (zs.set i y) (k + (w zs[i] : Int)) (by rw [List.length_set]; omega) (by rw [List.length_set]; omega) (by rw [List.length_set]; omega) (by omega) (by rw [hd]; omega)
      rw [hd] at e e3
      rw [List.length_set] at e1
      have ek : k + (w zs[i] : Int) + ((((zs.drop (i + 1)).map w).sum : Nat) : Int) = k + ((w zs[i] + ((zs.drop (i + 1)).map w).sum : Nat) : Int) := by omega
      rw [ek] at e e3
      refine ⟨ys, e, e1, fun j hj => ?_, ?_⟩
      · rw [e2 j (by omega), List.getElem?_set_ne (by omega)]
      · have hy := e2 i (by omega)
        rw [List.getElem?_set_self h] at hy
        have hi' : i < ys.length := by omega
        rw [List.getElem?_eq_getElem hi'] at hy
        refine HC.step hi' ?_ h0 e3
        rw [Option.some.inj hy]
        exact g
    · obtain rfl : i = zs.length := by omega
      rw [hend]
      have e0 : k + ((((zs.drop zs.length).map w).sum : Nat) : Int) = k := by simp
      rw [e0]
      exact ⟨zs, rfl, rfl, fun _ _ => rfl, HC.done _⟩
theorem mark_both {α : Type} {w : α → Nat} {gm : α → Int → Int → Prop} {rm : (List α × Int × Int → Option (List α × Int)) → List α × Int × Int → Option (List α × Int)} {rh : (List α × Int × Int → Option Int) → List α × Int × Int → Option Int}
    (hw : ∀ x, 1 ≤ w x)
    (hend : ∀ rec (zs : List α) k, rm rec (zs, k, (zs.length : Int)) = some (zs, k))
    (hstep : ∀ (zs : List α) i (hi : i < zs.length) k, zs.length ≤ 1152921504606846976 → 0 ≤ k → k + (w zs[i] : Int) ≤ 1152921504606846976 → ∃ y, (∀ rec, rm rec (zs, k, (i : Int)) = rec (zs.set i y, k + (w zs[i] : Int), ((i + 1 : Nat) : Int))) ∧ gm y k (k + (w zs[i] : Int)))
    (hend2 : ∀ rec (ys : List α) k, rh rec (ys, k, (ys.length : Int)) = some k)
    (hstep2 : ∀ rec (ys : List α) i (hi : i < ys.length) k k1, ys.length ≤ 1152921504606846976 → gm ys[i] k k1 → 0 ≤ k → rh rec (ys, k, (i : Int)) = rec (ys, k1, ((i + 1 : Nat) : Int)))
    {xs : List α} {k : Int} (h0 : 0 ≤ k) (hk : k + (((xs.map w).sum : Nat) : Int) ≤ 1152921504606846976) :
    ∃ ys, lpN rm fuel (xs, k, 0) = some (ys, k + (((xs.map w).sum : Nat) : Int)) ∧ lpN rh fuel (ys, k, 0) = some (k + (((xs.map w).sum : Nat) : Int)) := by
  have hl := len_sum hw xs
  obtain ⟨ys, e, e1, _, e3⟩ := mark_lp hend hstep fuel 0 xs k (by omega) (Nat.zero_le _) (by have := fuel_big2; omega) h0 (by simpa using hk)
  refine ⟨ys, e, ?_⟩
  exact held_lp (fun rec k => hend2 rec ys k) (fun rec i hi k k1 g h0 => hstep2 rec ys i hi k k1 (by omega) g h0) e3 fuel (by have := fuel_big2; omega)
theorem eq_lp {α : Type} {xs : List α} {rnd : (List α × List α × Int → Option Bool) → List α × List α × Int → Option Bool}
    (hl : xs.length ≤ 1152921504606846976)
    (hend : ∀ rec, rnd rec (xs, xs, (xs.length : Int)) = some true)
    (hstep : ∀ rec i (hi : i < xs.length), rnd rec (xs, xs, (i : Int)) = rec (xs, xs, ((i + 1 : Nat) : Int))) : lpN rnd fuel (xs, xs, 0) = some true :=
  lp_idx (st := fun i => (xs, xs, (i : Int))) (val := fun _ => some true) xs.length hend (fun rec i hi hr => by rw [hstep rec i hi]; exact hr) fuel 0 (Nat.zero_le _) (by have := fuel_big2; omega)

def w_String (_ : ByteArray) : Nat := 1
def w_StringS (xs : List ByteArray) : Nat := (xs.map w_String).sum
theorem w_String_pos (x : ByteArray) : 1 ≤ w_String x := by unfold w_String; omega
theorem w_StringS_len (xs : List ByteArray) : xs.length ≤ w_StringS xs := len_sum w_String_pos xs
theorem eq_StringS {xs : List ByteArray} (h : w_StringS xs ≤ 1152921504606846976) : G58 xs xs = some true := by
  have hl := w_StringS_len xs
  unfold G58 G58n
  simp only [bne_self_eq_false, cond_false]
  refine eq_lp (rnd := r58_0 fuel) (by omega) (fun rec => by simp [r58_0]) (fun rec i hi => ?_)
  have hw := wrap_nat (i := i) (by omega)
  have h1 : (i : Int) < (xs.length : Int) := by omega
  simp only [r58_0]
  rw [get_cast hi, hw]
  simp only [h1, decide_true, cond_true, Int.natCast_nonneg, Option.bind_some, bne_self_eq_false, Bool.not_true, cond_false]
def w_GateField (x : VGateField) : Nat := 10 + w_StringS x.Words
def w_GateFieldS (xs : List VGateField) : Nat := (xs.map w_GateField).sum
theorem w_GateField_pos (x : VGateField) : 1 ≤ w_GateField x := by unfold w_GateField; omega
theorem w_GateFieldS_len (xs : List VGateField) : xs.length ≤ w_GateFieldS xs := len_sum w_GateField_pos xs
theorem eq_GateField {x : VGateField} (h : w_GateField x ≤ 1152921504606846976) : G110 x x = some true := by
  unfold w_GateField at h
  simp only [G11, G11n, G59, G59n, G60, G60n, G80, G80n, G110, G110n, eq_StringS (xs := x.Words) (by omega), bne_self_eq_false, cond_false, decide_true, Bool.not_true, Option.bind_some, beq_self_eq_true]
theorem eq_GateFieldS {xs : List VGateField} (h : w_GateFieldS xs ≤ 1152921504606846976) : G90 xs xs = some true := by
  have hl := w_GateFieldS_len xs
  unfold G90 G90n
  simp only [bne_self_eq_false, cond_false]
  refine eq_lp (rnd := r90_0 fuel) (by omega) (fun rec => by simp [r90_0]) (fun rec i hi => ?_)
  have hw := wrap_nat (i := i) (by omega)
  have h1 : (i : Int) < (xs.length : Int) := by omega
  have he := eq_GateField (x := xs[i]) (by have := sum_get (w := w_GateField) hi; unfold w_GateFieldS at h; omega)
  simp only [r90_0]
  rw [get_cast hi, hw]
  simp only [h1, decide_true, cond_true, Int.natCast_nonneg, Option.bind_some, bne_self_eq_false, Bool.not_true, cond_false, he]
def w_GateShape (x : VGateShape) : Nat := 1 + w_GateFieldS x.Fields
def w_GateShapeS (xs : List VGateShape) : Nat := (xs.map w_GateShape).sum
theorem w_GateShape_pos (x : VGateShape) : 1 ≤ w_GateShape x := by unfold w_GateShape; omega
theorem w_GateShapeS_len (xs : List VGateShape) : xs.length ≤ w_GateShapeS xs := len_sum w_GateShape_pos xs
theorem eq_GateShape {x : VGateShape} (h : w_GateShape x ≤ 1152921504606846976) : G59 x x = some true := by
  unfold w_GateShape at h
  simp only [G11, G11n, G59, G59n, G60, G60n, G80, G80n, G110, G110n, eq_GateFieldS (xs := x.Fields) (by omega), bne_self_eq_false, cond_false, decide_true, Bool.not_true, Option.bind_some, beq_self_eq_true]
theorem eq_GateShapeS {xs : List VGateShape} (h : w_GateShapeS xs ≤ 1152921504606846976) : G21 xs xs = some true := by
  have hl := w_GateShapeS_len xs
  unfold G21 G21n
  simp only [bne_self_eq_false, cond_false]
  refine eq_lp (rnd := r21_0 fuel) (by omega) (fun rec => by simp [r21_0]) (fun rec i hi => ?_)
  have hw := wrap_nat (i := i) (by omega)
  have h1 : (i : Int) < (xs.length : Int) := by omega
  have he := eq_GateShape (x := xs[i]) (by have := sum_get (w := w_GateShape) hi; unfold w_GateShapeS at h; omega)
  simp only [r21_0]
  rw [get_cast hi, hw]
  simp only [h1, decide_true, cond_true, Int.natCast_nonneg, Option.bind_some, bne_self_eq_false, Bool.not_true, cond_false, he]
def w_GateMend (x : VGateMend) : Nat := 6
def w_GateMendS (xs : List VGateMend) : Nat := (xs.map w_GateMend).sum
theorem w_GateMend_pos (x : VGateMend) : 1 ≤ w_GateMend x := by unfold w_GateMend; omega
theorem w_GateMendS_len (xs : List VGateMend) : xs.length ≤ w_GateMendS xs := len_sum w_GateMend_pos xs
theorem eq_GateMend {x : VGateMend} (h : w_GateMend x ≤ 1152921504606846976) : G60 x x = some true := by
  unfold w_GateMend at h
  simp only [G11, G11n, G59, G59n, G60, G60n, G80, G80n, G110, G110n, bne_self_eq_false, cond_false, decide_true, Bool.not_true, Option.bind_some, beq_self_eq_true]
theorem eq_GateMendS {xs : List VGateMend} (h : w_GateMendS xs ≤ 1152921504606846976) : G22 xs xs = some true := by
  have hl := w_GateMendS_len xs
  unfold G22 G22n
  simp only [bne_self_eq_false, cond_false]
  refine eq_lp (rnd := r22_0 fuel) (by omega) (fun rec => by simp [r22_0]) (fun rec i hi => ?_)
  have hw := wrap_nat (i := i) (by omega)
  have h1 : (i : Int) < (xs.length : Int) := by omega
  have he := eq_GateMend (x := xs[i]) (by have := sum_get (w := w_GateMend) hi; unfold w_GateMendS at h; omega)
  simp only [r22_0]
  rw [get_cast hi, hw]
  simp only [h1, decide_true, cond_true, Int.natCast_nonneg, Option.bind_some, bne_self_eq_false, Bool.not_true, cond_false, he]
def w_GateTeam (x : VGateTeam) : Nat := 2
def w_GateTeamS (xs : List VGateTeam) : Nat := (xs.map w_GateTeam).sum
theorem w_GateTeam_pos (x : VGateTeam) : 1 ≤ w_GateTeam x := by unfold w_GateTeam; omega
theorem w_GateTeamS_len (xs : List VGateTeam) : xs.length ≤ w_GateTeamS xs := len_sum w_GateTeam_pos xs
theorem eq_GateTeam {x : VGateTeam} (h : w_GateTeam x ≤ 1152921504606846976) : G80 x x = some true := by
  unfold w_GateTeam at h
  simp only [G11, G11n, G59, G59n, G60, G60n, G80, G80n, G110, G110n, bne_self_eq_false, cond_false, decide_true, Bool.not_true, Option.bind_some, beq_self_eq_true]
theorem eq_GateTeamS {xs : List VGateTeam} (h : w_GateTeamS xs ≤ 1152921504606846976) : G43 xs xs = some true := by
  have hl := w_GateTeamS_len xs
  unfold G43 G43n
  simp only [bne_self_eq_false, cond_false]
  refine eq_lp (rnd := r43_0 fuel) (by omega) (fun rec => by simp [r43_0]) (fun rec i hi => ?_)
  have hw := wrap_nat (i := i) (by omega)
  have h1 : (i : Int) < (xs.length : Int) := by omega
  have he := eq_GateTeam (x := xs[i]) (by have := sum_get (w := w_GateTeam) hi; unfold w_GateTeamS at h; omega)
  simp only [r43_0]
  rw [get_cast hi, hw]
  simp only [h1, decide_true, cond_true, Int.natCast_nonneg, Option.bind_some, bne_self_eq_false, Bool.not_true, cond_false, he]
end Go.Proofs.Ytkiognopoigbhaa.Ab

/- The plain law: the size guards and the copies of the law's own helpers. Printed out of the types. -/
set_option linter.unusedVariables false
set_option linter.unusedSimpArgs false
set_option maxRecDepth 10000
namespace Go.Proofs.Ytkiognopoigbhaa.Ab
open Go Go.RowKit

theorem take_set {α : Type} {xs ys : List α} {i : Nat} (hi : i < xs.length) (e : xs.length = ys.length) : (xs.take i ++ ys.drop i).set i xs[i] = xs.take (i + 1) ++ ys.drop (i + 1) := by
  have hl : (xs.take i).length = i := by simp; omega
  rw [List.set_append_right _ _ (by omega), hl, Nat.sub_self, List.drop_eq_getElem_cons (show i < ys.length by omega), List.set_cons_zero, ← List.take_append_getElem hi, List.append_assoc]
  rfl
theorem get_mix {α : Type} {xs ys : List α} {i : Nat} (hi : i < xs.length) (e : xs.length = ys.length) : (xs.take i ++ ys.drop i)[((i : Int)).toNat]? = some (ys[i]'(by omega)) := by
  have hl : (xs.take i).length = i := by simp; omega
  rw [Int.toNat_natCast, List.getElem?_append_right (by omega), hl, Nat.sub_self, List.getElem?_drop, Nat.add_zero, List.getElem?_eq_getElem (by omega)]
theorem len_mix {α : Type} {xs ys : List α} {i : Nat} (hi : i ≤ xs.length) (e : xs.length = ys.length) : (xs.take i ++ ys.drop i).length = xs.length := by
  simp; omega
theorem max_len {n : Nat} (h : n ≤ maxLen) : n ≤ 9223372036854775807 := h
theorem sub_wrap {a : Int} {n : Nat} (h0 : 0 ≤ a) (h1 : a ≤ 1048576) (h2 : n ≤ 9223372036854775807) : IntKind.i64.wrap (a - (n : Int)) = a - (n : Int) := wrap_id (by omega) (by omega)
/-- What a size guard says: a rest below nought, or the rest when the size is taken off. -/
def Szd (a : Int) (s : Nat) (o : Option Int) : Prop := ∃ r, o = some r ∧ (r < 0 ∨ (0 ≤ r ∧ r + (s : Int) = a))
theorem szd_sub {a : Int} {n s : Nat} {o : Option Int} (h0 : 0 ≤ a) (h1 : a ≤ 1048576) (h2 : n ≤ 9223372036854775807) (hk : 0 ≤ IntKind.i64.wrap (a - (n : Int)) → IntKind.i64.wrap (a - (n : Int)) + n = a → Szd (IntKind.i64.wrap (a - (n : Int))) s o) : Szd a (n + s) (cond (decide (IntKind.i64.wrap (a - (n : Int)) < 0)) (some (-1)) o) := by
  rw [sub_wrap h0 h1 h2] at hk ⊢
  by_cases hc : a - (n : Int) < 0
  · simp only [hc, decide_true, cond_true]
    exact ⟨-1, rfl, Or.inl (by omega)⟩
  · simp only [hc, decide_false, cond_false]
    obtain ⟨r, e, hr⟩ := hk (by omega) (by omega)
    refine ⟨r, e, hr.imp id fun ⟨x, y⟩ => ⟨x, by omega⟩⟩
theorem szd_ret {a : Int} (h0 : 0 ≤ a) : Szd a 0 (some a) := ⟨a, rfl, Or.inr ⟨h0, by omega⟩⟩
theorem szd_bind {a : Int} {s t : Nat} {o : Option Int} {k : Int → Option Int} (h : Szd a s o) (hk : ∀ b, 0 ≤ b → b + (s : Int) = a → Szd b t (k b)) : Szd a (s + t) (Option.bind o fun r => cond (decide (r < 0)) (some (-1)) (k r)) := by
  obtain ⟨r, rfl, hr | ⟨x, y⟩⟩ := h
  · simp only [Option.bind_some, hr, decide_true, cond_true]
    exact ⟨-1, rfl, Or.inl (by omega)⟩
  · have : ¬ r < 0 := by omega
    simp only [Option.bind_some, this, decide_false, cond_false]
    obtain ⟨r', e, hr⟩ := hk r x y
    exact ⟨r', e, hr.imp id fun ⟨x, y⟩ => ⟨x, by omega⟩⟩
theorem szd_lp {α : Type} {xs : List α} {s : α → Nat} {rnd : (List α × Int × Int → Option Int) → List α × Int × Int → Option Int}
    (hend : ∀ rec a, rnd rec (xs, a, (xs.length : Int)) = some a)
    (hstep : ∀ rec a t i (hi : i < xs.length), 0 ≤ a → a ≤ 1048576 → (∀ b, 0 ≤ b → b + (s xs[i] : Int) = a → Szd b t (rec (xs, b, ((i + 1 : Nat) : Int)))) → Szd a (s xs[i] + t) (rnd rec (xs, a, (i : Int)))) :
    ∀ n i a, i ≤ xs.length → xs.length - i < n → 0 ≤ a → a ≤ 1048576 → Szd a (((xs.drop i).map s).sum) (lpN rnd n (xs, a, (i : Int))) := by
  intro n
  induction n with
  | zero => intro i a _ h; omega
  | succ n ih =>
    intro i a hi hn h0 h1
    rw [lp_succ]
    rcases Nat.lt_or_ge i xs.length with h | h
    · rw [sum_drop h]
      exact hstep _ _ _ i h h0 h1 fun b hb he => ih (i + 1) b (by omega) (by omega) hb (by omega)
    · obtain rfl : i = xs.length := by omega
      rw [hend]
      simpa using szd_ret h0
theorem w_sum {α : Type} {w s : α → Nat} (h : ∀ x, w x ≤ 64 * (1 + s x)) : ∀ xs : List α, (xs.map w).sum ≤ 64 * (xs.length + (xs.map s).sum)
  | [] => by simp
  | x :: t => by have := w_sum h t; have := h x; simp only [List.length_cons, List.map_cons, List.sum_cons]; omega
theorem copy_lp {α : Type} {xs : List α} {rnd : (List α × List α × Int → Option (List α)) → List α × List α × Int → Option (List α)}
    (hl : xs.length ≤ 1048576) (hend : ∀ rec ys, rnd rec (xs, ys, (xs.length : Int)) = some ys)
    (hstep : ∀ rec ys i (hi : i < xs.length) (hy : i < ys.length), rnd rec (xs, ys, (i : Int)) = rec (xs, ys.set i xs[i], ((i + 1 : Nat) : Int))) (ys : List α) (e : xs.length = ys.length) : lpN rnd fuel (xs, ys, 0) = some xs := by
  have key := lp_idx (rnd := rnd) (st := fun i => (xs, xs.take i ++ ys.drop i, (i : Int))) (val := fun i => some xs) xs.length (fun rec => by rw [hend]; simp [e, List.take_of_length_le (Nat.le_of_eq e)]) (fun rec i hi hr => by
    rw [hstep rec _ i hi (by rw [len_mix (by omega) e]; exact hi), take_set hi e]
    exact hr) fuel 0 (Nat.zero_le _) (by have := fuel_big2; omega)
  simpa using key

def s_String (x : ByteArray) : Nat := x.size
def sm_String (x : ByteArray) : Prop := x.size ≤ 9223372036854775807
def s_StringS (xs : List ByteArray) : Nat := xs.length + (xs.map s_String).sum
theorem s_StringS_len (xs : List ByteArray) : xs.length ≤ s_StringS xs := by unfold s_StringS; omega
theorem s_StringS_get {xs : List ByteArray} {i : Nat} (hi : i < xs.length) : s_String xs[i] ≤ s_StringS xs := by have := sum_get (w := s_String) hi; unfold s_StringS; omega
theorem s_StringS_mem {xs : List ByteArray} {x : ByteArray} (h : x ∈ xs) : s_String x ≤ s_StringS xs := by obtain ⟨i, hi, rfl⟩ := List.mem_iff_getElem.1 h; exact s_StringS_get hi
theorem ws_String (x : ByteArray) : w_String x ≤ 64 * (1 + s_String x) := by
  simp only [w_String, s_String]; omega
theorem ws_StringS (xs : List ByteArray) : w_StringS xs ≤ 64 * s_StringS xs := w_sum ws_String xs
theorem sm_String_of {x : C .e9} (h : ∀ (i : Nat) (l : Lf C), (KK.enc .e9 x)[i]? = some l → Sm KK l) : sm_String x := by
  have := h 0 _ rfl
  cases this; exact max_len ‹_›
theorem sm_StringS_of {xs : List (C .e9)} (h : Sm KK (.row .e9 xs)) : xs.length ≤ 9223372036854775807 ∧ ∀ y ∈ xs, sm_String y := by
  cases h with
  | row _ _ hl hs =>
    refine ⟨max_len hl, fun y hy => ?_⟩
    obtain ⟨j, hj, rfl⟩ := List.mem_iff_getElem.1 hy
    exact sm_String_of (fun i l e => hs j hj i l e)
theorem sz_StringS {xs : List ByteArray} (h : xs.length ≤ 9223372036854775807) (hs : ∀ y ∈ xs, sm_String y) {a : Int} (h0 : 0 ≤ a) (h1 : a ≤ 1048576) : Szd a (s_StringS xs) (G46 xs a) := by
  unfold G46 G46n s_StringS
  refine szd_sub h0 h1 h fun b0 c0 => ?_
  refine szd_lp (rnd := r46_0 fuel) (s := s_String) (fun rec a => by simp [r46_0]) (fun rec a t i hi h0 h1 hr => ?_) fuel 0 _ (Nat.zero_le _) (by have := fuel_big; omega) b0 (by omega)
  have hw := wrap_nat (i := i) (by omega)
  have h1' : (i : Int) < (xs.length : Int) := by omega
  simp only [r46_0]
  rw [get_cast hi, hw]
  simp only [h1', decide_true, cond_true, Int.natCast_nonneg, Option.bind_some]
  exact szd_sub (n := xs[i].size) h0 h1 (hs _ (List.getElem_mem hi)) fun b c => hr _ b c
theorem to_StringS {xs : List ByteArray} (h : s_StringS xs ≤ 1048576) : G51 xs = some xs := by
  have hl := s_StringS_len xs
  unfold G51 G51n
  have h1 : (xs.length : Int) * 16 ≤ 140737488355328 := by omega
  simp only [h1, decide_true, cond_true, Int.natCast_nonneg]
  refine copy_lp (rnd := r51_0 fuel) (by omega) (fun rec ys => by simp [r51_0]) (fun rec ys i hi hy => ?_) _ (by simp)
  have hw := wrap_nat (i := i) (by omega)
  have h1 : (i : Int) < (xs.length : Int) := by omega
  have h2 : (i : Int) < (ys.length : Int) := by omega
  simp only [r51_0]
  rw [get_cast hi, get_cast hy, hw]
  simp only [h1, h2, decide_true, cond_true, Int.natCast_nonneg, Option.bind_some, Int.toNat_natCast]
def s_GateField (x : VGateField) : Nat := x.Name.size + (s_StringS x.Words + (x.To.size + (x.Default.size + (x.Weighs.size + (0)))))
def sm_GateField (x : VGateField) : Prop := x.Name.size ≤ 9223372036854775807 ∧ (x.Words.length ≤ 9223372036854775807 ∧ ∀ y ∈ x.Words, sm_String y) ∧ x.To.size ≤ 9223372036854775807 ∧ x.Default.size ≤ 9223372036854775807 ∧ x.Weighs.size ≤ 9223372036854775807 ∧ True
def s_GateFieldS (xs : List VGateField) : Nat := xs.length + (xs.map s_GateField).sum
theorem s_GateFieldS_len (xs : List VGateField) : xs.length ≤ s_GateFieldS xs := by unfold s_GateFieldS; omega
theorem s_GateFieldS_get {xs : List VGateField} {i : Nat} (hi : i < xs.length) : s_GateField xs[i] ≤ s_GateFieldS xs := by have := sum_get (w := s_GateField) hi; unfold s_GateFieldS; omega
theorem s_GateFieldS_mem {xs : List VGateField} {x : VGateField} (h : x ∈ xs) : s_GateField x ≤ s_GateFieldS xs := by obtain ⟨i, hi, rfl⟩ := List.mem_iff_getElem.1 h; exact s_GateFieldS_get hi
theorem ws_GateField (x : VGateField) : w_GateField x ≤ 64 * (1 + s_GateField x) := by
  have := w_sum ws_String x.Words
  simp only [w_GateField, s_GateField, w_StringS, s_StringS]; omega
theorem ws_GateFieldS (xs : List VGateField) : w_GateFieldS xs ≤ 64 * s_GateFieldS xs := w_sum ws_GateField xs
theorem sm_GateField_of {x : C .e134} (h : ∀ (i : Nat) (l : Lf C), (KK.enc .e134 x)[i]? = some l → Sm KK l) : sm_GateField x := by
  refine ⟨?_, ⟨?_, ?_⟩, ?_, ?_, ?_, trivial⟩
  · have := h 0 _ rfl
    cases this; exact max_len ‹_›
  · have := h 4 _ rfl
    cases this; exact max_len ‹_›
  · intro y hy
    obtain ⟨j, hj, rfl⟩ := List.mem_iff_getElem.1 hy
    have := h 4 _ rfl
    cases this with
    | row _ _ hl hs => exact sm_String_of (fun i l e => hs j hj i l e)
  · have := h 5 _ rfl
    cases this; exact max_len ‹_›
  · have := h 9 _ rfl
    cases this; exact max_len ‹_›
  · have := h 10 _ rfl
    cases this; exact max_len ‹_›
theorem sm_GateFieldS_of {xs : List (C .e134)} (h : Sm KK (.row .e134 xs)) : xs.length ≤ 9223372036854775807 ∧ ∀ y ∈ xs, sm_GateField y := by
  cases h with
  | row _ _ hl hs =>
    refine ⟨max_len hl, fun y hy => ?_⟩
    obtain ⟨j, hj, rfl⟩ := List.mem_iff_getElem.1 hy
    exact sm_GateField_of (fun i l e => hs j hj i l e)
theorem sz_GateField {x : VGateField} (h : sm_GateField x) {a : Int} (h0 : 0 ≤ a) (h1 : a ≤ 1048576) : Szd a (s_GateField x) (G107 x a) := by
  obtain ⟨m0, m1, m2, m3, m4, -⟩ := h
  unfold G107 G107n s_GateField
  refine szd_sub h0 h1 m0 fun b0 c0 => ?_
  refine szd_bind (sz_StringS m1.1 m1.2 b0 (by omega)) fun x1 b1 c1 => ?_
  refine szd_sub b1 (by omega) m2 fun b2 c2 => ?_
  refine szd_sub b2 (by omega) m3 fun b3 c3 => ?_
  refine szd_sub b3 (by omega) m4 fun b4 c4 => ?_
  exact szd_ret b4
theorem sz_GateFieldS {xs : List VGateField} (h : xs.length ≤ 9223372036854775807) (hs : ∀ y ∈ xs, sm_GateField y) {a : Int} (h0 : 0 ≤ a) (h1 : a ≤ 1048576) : Szd a (s_GateFieldS xs) (G81 xs a) := by
  unfold G81 G81n s_GateFieldS
  refine szd_sub h0 h1 h fun b0 c0 => ?_
  refine szd_lp (rnd := r81_0 fuel) (s := s_GateField) (fun rec a => by simp [r81_0]) (fun rec a t i hi h0 h1 hr => ?_) fuel 0 _ (Nat.zero_le _) (by have := fuel_big; omega) b0 (by omega)
  have hw := wrap_nat (i := i) (by omega)
  have h1' : (i : Int) < (xs.length : Int) := by omega
  simp only [r81_0]
  rw [get_cast hi, hw]
  simp only [h1', decide_true, cond_true, Int.natCast_nonneg, Option.bind_some]
  exact szd_bind (sz_GateField (hs _ (List.getElem_mem hi)) h0 h1) fun b b0 b1 => hr b b0 b1
theorem to_GateField {x : VGateField} (h : s_GateField x ≤ 1048576) : G108 x = some x := by
  unfold s_GateField at h
  unfold G108 G108n
  simp only [to_StringS (xs := x.Words) (by omega), Option.bind_some]
theorem to_GateFieldS {xs : List VGateField} (h : s_GateFieldS xs ≤ 1048576) : G86 xs = some xs := by
  have hl := s_GateFieldS_len xs
  unfold G86 G86n
  have h1 : (xs.length : Int) * 128 ≤ 140737488355328 := by omega
  simp only [h1, decide_true, cond_true, Int.natCast_nonneg]
  refine copy_lp (rnd := r86_0 fuel) (by omega) (fun rec ys => by simp [r86_0]) (fun rec ys i hi hy => ?_) _ (by simp)
  have hw := wrap_nat (i := i) (by omega)
  have h1 : (i : Int) < (xs.length : Int) := by omega
  have h2 : (i : Int) < (ys.length : Int) := by omega
  have he := to_GateField (x := xs[i]) (by have := s_GateFieldS_get hi; omega)
  simp only [r86_0]
  rw [get_cast hi, get_cast hy, hw]
  simp only [h1, h2, decide_true, cond_true, Int.natCast_nonneg, Option.bind_some, Int.toNat_natCast, he]
def s_GateShape (x : VGateShape) : Nat := x.Kind.size + (s_GateFieldS x.Fields + (0))
def sm_GateShape (x : VGateShape) : Prop := x.Kind.size ≤ 9223372036854775807 ∧ (x.Fields.length ≤ 9223372036854775807 ∧ ∀ y ∈ x.Fields, sm_GateField y) ∧ True
def s_GateShapeS (xs : List VGateShape) : Nat := xs.length + (xs.map s_GateShape).sum
theorem s_GateShapeS_len (xs : List VGateShape) : xs.length ≤ s_GateShapeS xs := by unfold s_GateShapeS; omega
theorem s_GateShapeS_get {xs : List VGateShape} {i : Nat} (hi : i < xs.length) : s_GateShape xs[i] ≤ s_GateShapeS xs := by have := sum_get (w := s_GateShape) hi; unfold s_GateShapeS; omega
theorem s_GateShapeS_mem {xs : List VGateShape} {x : VGateShape} (h : x ∈ xs) : s_GateShape x ≤ s_GateShapeS xs := by obtain ⟨i, hi, rfl⟩ := List.mem_iff_getElem.1 h; exact s_GateShapeS_get hi
theorem ws_GateShape (x : VGateShape) : w_GateShape x ≤ 64 * (1 + s_GateShape x) := by
  have := w_sum ws_GateField x.Fields
  simp only [w_GateShape, s_GateShape, w_GateFieldS, s_GateFieldS]; omega
theorem ws_GateShapeS (xs : List VGateShape) : w_GateShapeS xs ≤ 64 * s_GateShapeS xs := w_sum ws_GateShape xs
theorem sm_GateShape_of {x : C .e74} (h : ∀ (i : Nat) (l : Lf C), (KK.enc .e74 x)[i]? = some l → Sm KK l) : sm_GateShape x := by
  refine ⟨?_, ⟨?_, ?_⟩, trivial⟩
  · have := h 0 _ rfl
    cases this; exact max_len ‹_›
  · have := h 1 _ rfl
    cases this; exact max_len ‹_›
  · intro y hy
    obtain ⟨j, hj, rfl⟩ := List.mem_iff_getElem.1 hy
    have := h 1 _ rfl
    cases this with
    | row _ _ hl hs => exact sm_GateField_of (fun i l e => hs j hj i l e)
theorem sm_GateShapeS_of {xs : List (C .e74)} (h : Sm KK (.row .e74 xs)) : xs.length ≤ 9223372036854775807 ∧ ∀ y ∈ xs, sm_GateShape y := by
  cases h with
  | row _ _ hl hs =>
    refine ⟨max_len hl, fun y hy => ?_⟩
    obtain ⟨j, hj, rfl⟩ := List.mem_iff_getElem.1 hy
    exact sm_GateShape_of (fun i l e => hs j hj i l e)
theorem sz_GateShape {x : VGateShape} (h : sm_GateShape x) {a : Int} (h0 : 0 ≤ a) (h1 : a ≤ 1048576) : Szd a (s_GateShape x) (G44 x a) := by
  obtain ⟨m0, m1, -⟩ := h
  unfold G44 G44n s_GateShape
  refine szd_sub h0 h1 m0 fun b0 c0 => ?_
  refine szd_bind (sz_GateFieldS m1.1 m1.2 b0 (by omega)) fun x1 b1 c1 => ?_
  exact szd_ret b1
theorem sz_GateShapeS {xs : List VGateShape} (h : xs.length ≤ 9223372036854775807) (hs : ∀ y ∈ xs, sm_GateShape y) {a : Int} (h0 : 0 ≤ a) (h1 : a ≤ 1048576) : Szd a (s_GateShapeS xs) (G12 xs a) := by
  unfold G12 G12n s_GateShapeS
  refine szd_sub h0 h1 h fun b0 c0 => ?_
  refine szd_lp (rnd := r12_0 fuel) (s := s_GateShape) (fun rec a => by simp [r12_0]) (fun rec a t i hi h0 h1 hr => ?_) fuel 0 _ (Nat.zero_le _) (by have := fuel_big; omega) b0 (by omega)
  have hw := wrap_nat (i := i) (by omega)
  have h1' : (i : Int) < (xs.length : Int) := by omega
  simp only [r12_0]
  rw [get_cast hi, hw]
  simp only [h1', decide_true, cond_true, Int.natCast_nonneg, Option.bind_some]
  exact szd_bind (sz_GateShape (hs _ (List.getElem_mem hi)) h0 h1) fun b b0 b1 => hr b b0 b1
theorem to_GateShape {x : VGateShape} (h : s_GateShape x ≤ 1048576) : G49 x = some x := by
  unfold s_GateShape at h
  unfold G49 G49n
  simp only [to_GateFieldS (xs := x.Fields) (by omega), Option.bind_some]
theorem to_GateShapeS {xs : List VGateShape} (h : s_GateShapeS xs ≤ 1048576) : G16 xs = some xs := by
  have hl := s_GateShapeS_len xs
  unfold G16 G16n
  have h1 : (xs.length : Int) * 40 ≤ 140737488355328 := by omega
  simp only [h1, decide_true, cond_true, Int.natCast_nonneg]
  refine copy_lp (rnd := r16_0 fuel) (by omega) (fun rec ys => by simp [r16_0]) (fun rec ys i hi hy => ?_) _ (by simp)
  have hw := wrap_nat (i := i) (by omega)
  have h1 : (i : Int) < (xs.length : Int) := by omega
  have h2 : (i : Int) < (ys.length : Int) := by omega
  have he := to_GateShape (x := xs[i]) (by have := s_GateShapeS_get hi; omega)
  simp only [r16_0]
  rw [get_cast hi, get_cast hy, hw]
  simp only [h1, h2, decide_true, cond_true, Int.natCast_nonneg, Option.bind_some, Int.toNat_natCast, he]
def s_GateMend (x : VGateMend) : Nat := x.Kind.size + (x.Field.size + (x.When.size + (x.Is.size + (x.Put.size + (x.From.size + (0))))))
def sm_GateMend (x : VGateMend) : Prop := x.Kind.size ≤ 9223372036854775807 ∧ x.Field.size ≤ 9223372036854775807 ∧ x.When.size ≤ 9223372036854775807 ∧ x.Is.size ≤ 9223372036854775807 ∧ x.Put.size ≤ 9223372036854775807 ∧ x.From.size ≤ 9223372036854775807 ∧ True
def s_GateMendS (xs : List VGateMend) : Nat := xs.length + (xs.map s_GateMend).sum
theorem s_GateMendS_len (xs : List VGateMend) : xs.length ≤ s_GateMendS xs := by unfold s_GateMendS; omega
theorem s_GateMendS_get {xs : List VGateMend} {i : Nat} (hi : i < xs.length) : s_GateMend xs[i] ≤ s_GateMendS xs := by have := sum_get (w := s_GateMend) hi; unfold s_GateMendS; omega
theorem s_GateMendS_mem {xs : List VGateMend} {x : VGateMend} (h : x ∈ xs) : s_GateMend x ≤ s_GateMendS xs := by obtain ⟨i, hi, rfl⟩ := List.mem_iff_getElem.1 h; exact s_GateMendS_get hi
theorem ws_GateMend (x : VGateMend) : w_GateMend x ≤ 64 * (1 + s_GateMend x) := by
  simp only [w_GateMend, s_GateMend]; omega
theorem ws_GateMendS (xs : List VGateMend) : w_GateMendS xs ≤ 64 * s_GateMendS xs := w_sum ws_GateMend xs
theorem sm_GateMend_of {x : C .e77} (h : ∀ (i : Nat) (l : Lf C), (KK.enc .e77 x)[i]? = some l → Sm KK l) : sm_GateMend x := by
  refine ⟨?_, ?_, ?_, ?_, ?_, ?_, trivial⟩
  · have := h 0 _ rfl
    cases this; exact max_len ‹_›
  · have := h 1 _ rfl
    cases this; exact max_len ‹_›
  · have := h 2 _ rfl
    cases this; exact max_len ‹_›
  · have := h 3 _ rfl
    cases this; exact max_len ‹_›
  · have := h 4 _ rfl
    cases this; exact max_len ‹_›
  · have := h 5 _ rfl
    cases this; exact max_len ‹_›
theorem sm_GateMendS_of {xs : List (C .e77)} (h : Sm KK (.row .e77 xs)) : xs.length ≤ 9223372036854775807 ∧ ∀ y ∈ xs, sm_GateMend y := by
  cases h with
  | row _ _ hl hs =>
    refine ⟨max_len hl, fun y hy => ?_⟩
    obtain ⟨j, hj, rfl⟩ := List.mem_iff_getElem.1 hy
    exact sm_GateMend_of (fun i l e => hs j hj i l e)
theorem sz_GateMend {x : VGateMend} (h : sm_GateMend x) {a : Int} (h0 : 0 ≤ a) (h1 : a ≤ 1048576) : Szd a (s_GateMend x) (G45 x a) := by
  obtain ⟨m0, m1, m2, m3, m4, m5, -⟩ := h
  unfold G45 G45n s_GateMend
  refine szd_sub h0 h1 m0 fun b0 c0 => ?_
  refine szd_sub b0 (by omega) m1 fun b1 c1 => ?_
  refine szd_sub b1 (by omega) m2 fun b2 c2 => ?_
  refine szd_sub b2 (by omega) m3 fun b3 c3 => ?_
  refine szd_sub b3 (by omega) m4 fun b4 c4 => ?_
  refine szd_sub b4 (by omega) m5 fun b5 c5 => ?_
  exact szd_ret b5
theorem sz_GateMendS {xs : List VGateMend} (h : xs.length ≤ 9223372036854775807) (hs : ∀ y ∈ xs, sm_GateMend y) {a : Int} (h0 : 0 ≤ a) (h1 : a ≤ 1048576) : Szd a (s_GateMendS xs) (G13 xs a) := by
  unfold G13 G13n s_GateMendS
  refine szd_sub h0 h1 h fun b0 c0 => ?_
  refine szd_lp (rnd := r13_0 fuel) (s := s_GateMend) (fun rec a => by simp [r13_0]) (fun rec a t i hi h0 h1 hr => ?_) fuel 0 _ (Nat.zero_le _) (by have := fuel_big; omega) b0 (by omega)
  have hw := wrap_nat (i := i) (by omega)
  have h1' : (i : Int) < (xs.length : Int) := by omega
  simp only [r13_0]
  rw [get_cast hi, hw]
  simp only [h1', decide_true, cond_true, Int.natCast_nonneg, Option.bind_some]
  exact szd_bind (sz_GateMend (hs _ (List.getElem_mem hi)) h0 h1) fun b b0 b1 => hr b b0 b1
theorem to_GateMend {x : VGateMend} (h : s_GateMend x ≤ 1048576) : G50 x = some x := by
  unfold s_GateMend at h
  unfold G50 G50n
  rfl
theorem to_GateMendS {xs : List VGateMend} (h : s_GateMendS xs ≤ 1048576) : G17 xs = some xs := by
  have hl := s_GateMendS_len xs
  unfold G17 G17n
  have h1 : (xs.length : Int) * 96 ≤ 140737488355328 := by omega
  simp only [h1, decide_true, cond_true, Int.natCast_nonneg]
  refine copy_lp (rnd := r17_0 fuel) (by omega) (fun rec ys => by simp [r17_0]) (fun rec ys i hi hy => ?_) _ (by simp)
  have hw := wrap_nat (i := i) (by omega)
  have h1 : (i : Int) < (xs.length : Int) := by omega
  have h2 : (i : Int) < (ys.length : Int) := by omega
  have he := to_GateMend (x := xs[i]) (by have := s_GateMendS_get hi; omega)
  simp only [r17_0]
  rw [get_cast hi, get_cast hy, hw]
  simp only [h1, h2, decide_true, cond_true, Int.natCast_nonneg, Option.bind_some, Int.toNat_natCast, he]
def s_GateTeam (x : VGateTeam) : Nat := x.Name.size + (x.Over.size + (0))
def sm_GateTeam (x : VGateTeam) : Prop := x.Name.size ≤ 9223372036854775807 ∧ x.Over.size ≤ 9223372036854775807 ∧ True
def s_GateTeamS (xs : List VGateTeam) : Nat := xs.length + (xs.map s_GateTeam).sum
theorem s_GateTeamS_len (xs : List VGateTeam) : xs.length ≤ s_GateTeamS xs := by unfold s_GateTeamS; omega
theorem s_GateTeamS_get {xs : List VGateTeam} {i : Nat} (hi : i < xs.length) : s_GateTeam xs[i] ≤ s_GateTeamS xs := by have := sum_get (w := s_GateTeam) hi; unfold s_GateTeamS; omega
theorem s_GateTeamS_mem {xs : List VGateTeam} {x : VGateTeam} (h : x ∈ xs) : s_GateTeam x ≤ s_GateTeamS xs := by obtain ⟨i, hi, rfl⟩ := List.mem_iff_getElem.1 h; exact s_GateTeamS_get hi
theorem ws_GateTeam (x : VGateTeam) : w_GateTeam x ≤ 64 * (1 + s_GateTeam x) := by
  simp only [w_GateTeam, s_GateTeam]; omega
theorem ws_GateTeamS (xs : List VGateTeam) : w_GateTeamS xs ≤ 64 * s_GateTeamS xs := w_sum ws_GateTeam xs
theorem sm_GateTeam_of {x : C .e103} (h : ∀ (i : Nat) (l : Lf C), (KK.enc .e103 x)[i]? = some l → Sm KK l) : sm_GateTeam x := by
  refine ⟨?_, ?_, trivial⟩
  · have := h 0 _ rfl
    cases this; exact max_len ‹_›
  · have := h 1 _ rfl
    cases this; exact max_len ‹_›
theorem sm_GateTeamS_of {xs : List (C .e103)} (h : Sm KK (.row .e103 xs)) : xs.length ≤ 9223372036854775807 ∧ ∀ y ∈ xs, sm_GateTeam y := by
  cases h with
  | row _ _ hl hs =>
    refine ⟨max_len hl, fun y hy => ?_⟩
    obtain ⟨j, hj, rfl⟩ := List.mem_iff_getElem.1 hy
    exact sm_GateTeam_of (fun i l e => hs j hj i l e)
theorem sz_GateTeam {x : VGateTeam} (h : sm_GateTeam x) {a : Int} (h0 : 0 ≤ a) (h1 : a ≤ 1048576) : Szd a (s_GateTeam x) (G70 x a) := by
  obtain ⟨m0, m1, -⟩ := h
  unfold G70 G70n s_GateTeam
  refine szd_sub h0 h1 m0 fun b0 c0 => ?_
  refine szd_sub b0 (by omega) m1 fun b1 c1 => ?_
  exact szd_ret b1
theorem sz_GateTeamS {xs : List VGateTeam} (h : xs.length ≤ 9223372036854775807) (hs : ∀ y ∈ xs, sm_GateTeam y) {a : Int} (h0 : 0 ≤ a) (h1 : a ≤ 1048576) : Szd a (s_GateTeamS xs) (G38 xs a) := by
  unfold G38 G38n s_GateTeamS
  refine szd_sub h0 h1 h fun b0 c0 => ?_
  refine szd_lp (rnd := r38_0 fuel) (s := s_GateTeam) (fun rec a => by simp [r38_0]) (fun rec a t i hi h0 h1 hr => ?_) fuel 0 _ (Nat.zero_le _) (by have := fuel_big; omega) b0 (by omega)
  have hw := wrap_nat (i := i) (by omega)
  have h1' : (i : Int) < (xs.length : Int) := by omega
  simp only [r38_0]
  rw [get_cast hi, hw]
  simp only [h1', decide_true, cond_true, Int.natCast_nonneg, Option.bind_some]
  exact szd_bind (sz_GateTeam (hs _ (List.getElem_mem hi)) h0 h1) fun b b0 b1 => hr b b0 b1
theorem to_GateTeam {x : VGateTeam} (h : s_GateTeam x ≤ 1048576) : G77 x = some x := by
  unfold s_GateTeam at h
  unfold G77 G77n
  rfl
theorem to_GateTeamS {xs : List VGateTeam} (h : s_GateTeamS xs ≤ 1048576) : G41 xs = some xs := by
  have hl := s_GateTeamS_len xs
  unfold G41 G41n
  have h1 : (xs.length : Int) * 32 ≤ 140737488355328 := by omega
  simp only [h1, decide_true, cond_true, Int.natCast_nonneg]
  refine copy_lp (rnd := r41_0 fuel) (by omega) (fun rec ys => by simp [r41_0]) (fun rec ys i hi hy => ?_) _ (by simp)
  have hw := wrap_nat (i := i) (by omega)
  have h1 : (i : Int) < (xs.length : Int) := by omega
  have h2 : (i : Int) < (ys.length : Int) := by omega
  have he := to_GateTeam (x := xs[i]) (by have := s_GateTeamS_get hi; omega)
  simp only [r41_0]
  rw [get_cast hi, get_cast hy, hw]
  simp only [h1, h2, decide_true, cond_true, Int.natCast_nonneg, Option.bind_some, Int.toNat_natCast, he]
def s_GateLaw (x : VGateLaw) : Nat := s_GateShapeS x.Shapes + (s_GateMendS x.Mends + (s_GateTeamS x.Teams + (0)))
def sm_GateLaw (x : VGateLaw) : Prop := (x.Shapes.length ≤ 9223372036854775807 ∧ ∀ y ∈ x.Shapes, sm_GateShape y) ∧ (x.Mends.length ≤ 9223372036854775807 ∧ ∀ y ∈ x.Mends, sm_GateMend y) ∧ (x.Teams.length ≤ 9223372036854775807 ∧ ∀ y ∈ x.Teams, sm_GateTeam y) ∧ True
def s_GateLawS (xs : List VGateLaw) : Nat := xs.length + (xs.map s_GateLaw).sum
theorem s_GateLawS_len (xs : List VGateLaw) : xs.length ≤ s_GateLawS xs := by unfold s_GateLawS; omega
theorem s_GateLawS_get {xs : List VGateLaw} {i : Nat} (hi : i < xs.length) : s_GateLaw xs[i] ≤ s_GateLawS xs := by have := sum_get (w := s_GateLaw) hi; unfold s_GateLawS; omega
theorem s_GateLawS_mem {xs : List VGateLaw} {x : VGateLaw} (h : x ∈ xs) : s_GateLaw x ≤ s_GateLawS xs := by obtain ⟨i, hi, rfl⟩ := List.mem_iff_getElem.1 h; exact s_GateLawS_get hi
theorem sz_GateLaw {x : VGateLaw} (h : sm_GateLaw x) {a : Int} (h0 : 0 ≤ a) (h1 : a ≤ 1048576) : Szd a (s_GateLaw x) (G7 x a) := by
  obtain ⟨m0, m1, m2, -⟩ := h
  unfold G7 G7n s_GateLaw
  refine szd_bind (sz_GateShapeS m0.1 m0.2 h0 h1) fun x0 b0 c0 => ?_
  refine szd_bind (sz_GateMendS m1.1 m1.2 b0 (by omega)) fun x1 b1 c1 => ?_
  refine szd_bind (sz_GateTeamS m2.1 m2.2 b1 (by omega)) fun x2 b2 c2 => ?_
  exact szd_ret b2
theorem to_GateLaw {x : VGateLaw} (h : s_GateLaw x ≤ 1048576) : G9 x = some x := by
  unfold s_GateLaw at h
  unfold G9 G9n
  simp only [to_GateShapeS (xs := x.Shapes) (by omega), to_GateMendS (xs := x.Mends) (by omega), to_GateTeamS (xs := x.Teams) (by omega), Option.bind_some]
def s_GateObject (x : VGateObject) : Nat := x.Kind.size + (x.Name.size + (x.Team.size + (s_StringS x.Values + (s_StringS x.Holds + (0)))))
def sm_GateObject (x : VGateObject) : Prop := x.Kind.size ≤ 9223372036854775807 ∧ x.Name.size ≤ 9223372036854775807 ∧ x.Team.size ≤ 9223372036854775807 ∧ (x.Values.length ≤ 9223372036854775807 ∧ ∀ y ∈ x.Values, sm_String y) ∧ (x.Holds.length ≤ 9223372036854775807 ∧ ∀ y ∈ x.Holds, sm_String y) ∧ True
def s_GateObjectS (xs : List VGateObject) : Nat := xs.length + (xs.map s_GateObject).sum
theorem s_GateObjectS_len (xs : List VGateObject) : xs.length ≤ s_GateObjectS xs := by unfold s_GateObjectS; omega
theorem s_GateObjectS_get {xs : List VGateObject} {i : Nat} (hi : i < xs.length) : s_GateObject xs[i] ≤ s_GateObjectS xs := by have := sum_get (w := s_GateObject) hi; unfold s_GateObjectS; omega
theorem s_GateObjectS_mem {xs : List VGateObject} {x : VGateObject} (h : x ∈ xs) : s_GateObject x ≤ s_GateObjectS xs := by obtain ⟨i, hi, rfl⟩ := List.mem_iff_getElem.1 h; exact s_GateObjectS_get hi
end Go.Proofs.Ytkiognopoigbhaa.Ab

/- The plain law: names, places, what a list holds, names in order. -/
set_option linter.unusedVariables false
set_option linter.unusedSimpArgs false
namespace Go.Proofs.Ytkiognopoigbhaa.Ab
open Go Go.RowKit

/-! ### Names -/
def bOk (c : Int) : Bool := (decide (97 ≤ c) && decide (c ≤ 122)) || (decide (48 ≤ c) && decide (c ≤ 57)) || c == 45
theorem g105 (c : Int) : G105 c = some (bOk c) := by
  unfold G105 G105n bOk
  by_cases h1 : 97 ≤ c <;> by_cases h2 : c ≤ 122 <;> by_cases h3 : 48 ≤ c <;> by_cases h4 : c ≤ 57 <;> simp [h1, h2, h3, h4]
theorem g124 (c : Int) : G124 c = some (bOk c) := g105 c
def allB (s : ByteArray) (i : Nat) : Bool := allN (fun j => bOk (sbt s (j : Int))) s.size i
theorem lp74 {s : ByteArray} (hs : s.size ≤ 281474976710656) : LP74_0 fuel (s, 0) = some (allB s 0) :=
  lp_idx (st := fun i => (s, (i : Int))) (val := fun i => some (allB s i)) s.size (fun rec => by simp [r74_0, allB, allN_end]) (fun rec i hi hr => by
    rw [← wrap_nat (by omega)] at hr
    have h1 : (i : Int) < (s.size : Int) := by omega
    simp only [r74_0, h1, decide_true, cond_true, Int.natCast_nonneg, g105, Option.bind_some]
    rw [show allB s i = _ from allN_step hi]
    cases hb : bOk (sbt s (i : Int)) with
    | true => simpa [allB] using hr
    | false => rfl) fuel 0 (Nat.zero_le _) (by have := fuel_big; omega)
theorem lp106 {s : ByteArray} (hs : s.size ≤ 281474976710656) : LP106_0 fuel (s, (s.size : Int), 0) = some (allB s 0) :=
  lp_idx (st := fun i => (s, (s.size : Int), (i : Int))) (val := fun i => some (allB s i)) s.size (fun rec => by simp [r106_0, allB, allN_end]) (fun rec i hi hr => by
    rw [← wrap_nat (by omega)] at hr
    have h1 : (i : Int) < (s.size : Int) := by omega
    simp only [r106_0, h1, decide_true, cond_true, Int.natCast_nonneg, g124, Option.bind_some]
    rw [show allB s i = _ from allN_step hi]
    cases hb : bOk (sbt s (i : Int)) with
    | true => simpa [allB] using hr
    | false => rfl) fuel 0 (Nat.zero_le _) (by have := fuel_big; omega)
def nmB (s : ByteArray) : Bool := decide (1 ≤ s.size) && (decide (s.size ≤ 16) && allB s 0)
theorem g104 (a b c : Int) : G104 a b c = some (decide (b ≤ a) && decide (a ≤ c)) := by
  unfold G104 G104n
  by_cases h : b ≤ a <;> simp [h]
theorem g74 (s : ByteArray) : G74 s = some (nmB s) := by
  unfold G74 G74n nmB
  rw [g104]
  by_cases h1 : 1 ≤ s.size
  · by_cases h2 : s.size ≤ 16
    · have e1 : (1 : Int) ≤ (s.size : Int) := by omega
      have e2 : (s.size : Int) ≤ 16 := by omega
      simp only [e1, e2, h1, h2, decide_true, Bool.and_self, Option.bind_some, Bool.not_true, cond_false, Bool.true_and]
      exact lp74 (by omega)
    · have e2 : ¬ (s.size : Int) ≤ 16 := by omega
      simp [e2, h2]
  · have e1 : ¬ (1 : Int) ≤ (s.size : Int) := by omega
    simp [e1, h1]
theorem g78 (s : ByteArray) : G78 s = some (nmB s) := by
  unfold G78 G78n nmB
  by_cases h1 : 1 ≤ s.size
  · by_cases h2 : s.size ≤ 16
    · have e1 : (s.size : Int) ≥ 1 := by omega
      have e2 : (s.size : Int) ≤ 16 := by omega
      have : G106 s = some (allB s 0) := lp106 (by omega)
      simp [e1, e2, h1, h2, this]
    · have e2 : ¬ (s.size : Int) ≤ 16 := by omega
      simp [e2, h2]
  · have e1 : ¬ (1 : Int) ≤ (s.size : Int) := by omega
    simp [e1, h1]
theorem nm_ne {s : ByteArray} (h : nmB s = true) : s ≠ ⟨#[]⟩ := fun e => by subst e; simp [nmB] at h; exact absurd h.1 (by decide)
theorem nm_nil : nmB ⟨#[]⟩ = false := rfl

/-! ### Places -/
def posL {α : Type} (p : α → Bool) : List α → Nat → Int
  | [], _ => -1
  | x :: r, i => cond (p x) (i : Int) (posL p r (i + 1))
theorem posL_step {α : Type} {p : α → Bool} {xs : List α} {i : Nat} (h : i < xs.length) : posL p (xs.drop i) i = cond (p xs[i]) (i : Int) (posL p (xs.drop (i + 1)) (i + 1)) := by
  rw [List.drop_eq_getElem_cons h]; rfl
/-- A place: minus one and nothing there, or the first that fits. -/
theorem posL_cases {α : Type} (p : α → Bool) (xs : List α) : (posL p xs 0 = -1 ∧ ∀ x ∈ xs, p x = false) ∨ ∃ i : Nat, ∃ h : i < xs.length, posL p xs 0 = (i : Int) ∧ p xs[i] = true ∧ ∀ j (hj : j < i), p (xs[j]'(by omega)) = false := by
  have key : ∀ (n i : Nat), i ≤ xs.length → xs.length - i ≤ n → (posL p (xs.drop i) i = -1 ∧ ∀ j (hj : j < xs.length), i ≤ j → p xs[j] = false) ∨ ∃ k : Nat, ∃ h : k < xs.length, i ≤ k ∧ posL p (xs.drop i) i = (k : Int) ∧ p xs[k] = true ∧ ∀ j (hj : j < k), i ≤ j → p (xs[j]'(by omega)) = false := by
    intro n
    induction n with
    | zero =>
      intro i hi hn
      have : i = xs.length := by omega
      subst this
      left
      exact ⟨by simp [posL], fun j hj h => by omega⟩
    | succ n ih =>
      intro i hi hn
      rcases Nat.lt_or_ge i xs.length with h | h
      · rw [posL_step h]
        cases hp : p xs[i] with
        | true => right; exact ⟨i, h, Nat.le_refl _, rfl, hp, fun j hj hij => by omega⟩
        | false =>
          rcases ih (i + 1) (by omega) (by omega) with ⟨e, ha⟩ | ⟨k, hk, hik, e, hp2, ha⟩
          · left
            refine ⟨e, fun j hj hij => ?_⟩
            rcases Nat.lt_or_ge i j with h' | h'
            · exact ha j hj h'
            · obtain rfl : i = j := by omega
              exact hp
          · right
            refine ⟨k, hk, by omega, e, hp2, fun j hj hij => ?_⟩
            rcases Nat.lt_or_ge i j with h' | h'
            · exact ha j hj h'
            · obtain rfl : i = j := by omega
              exact hp
      · left
        have : i = xs.length := by omega
        subst this
        exact ⟨by simp [posL], fun j hj h => by omega⟩
  rcases key xs.length 0 (Nat.zero_le _) (by omega) with ⟨e, h⟩ | ⟨k, hk, _, e, h1, h2⟩
  · left
    refine ⟨by simpa using e, fun x hx => ?_⟩
    obtain ⟨i, hi, rfl⟩ := List.mem_iff_getElem.1 hx
    exact h i hi (Nat.zero_le _)
  · right
    exact ⟨k, hk, by simpa using e, h1, fun j hj => h2 j hj (Nat.zero_le _)⟩
theorem pos_lp {α R : Type} {p : α → Bool} {xs : List α} {A : Type} {st : Nat → A} {rnd : (A → Option Int) → A → Option Int} (hl : xs.length ≤ 1048576)
    (hend : ∀ rec, rnd rec (st xs.length) = some (-1))
    (hstep : ∀ rec i (hi : i < xs.length), rnd rec (st i) = cond (p xs[i]) (some (i : Int)) (rec (st (i + 1)))) : lpN rnd fuel (st 0) = some (posL p xs 0) := by
  have := lp_idx (rnd := rnd) (st := st) (val := fun i => some (posL p (xs.drop i) i)) xs.length (fun rec => by rw [hend]; simp [posL]) (fun rec i hi hr => by
    rw [hstep rec i hi, posL_step hi]
    cases p xs[i] with
    | true => rfl
    | false => exact hr) fuel 0 (Nat.zero_le _) (by have := fuel_big; omega)
  simpa using this
theorem g83 {xs : List VGateShape} (h : xs.length ≤ 1048576) (k : ByteArray) : G83 xs k = some (posL (fun x => decide (x.Kind = k)) xs 0) := by
  unfold G83 G83n
  refine pos_lp (R := Int) (rnd := r83_0 fuel) (st := fun i => (xs, k, (i : Int))) h (fun rec => by simp [r83_0]) (fun rec i hi => ?_)
  have hw := wrap_nat (i := i) (by omega)
  have h1 : (i : Int) < (xs.length : Int) := by omega
  simp only [r83_0]
  rw [get_cast hi, hw]
  simp only [h1, decide_true, cond_true, Int.natCast_nonneg, Option.bind_some]
theorem g55 {xs : List VGateShape} (h : xs.length ≤ 1048576) (k : ByteArray) : G55 xs k = some (posL (fun x => decide (x.Kind = k)) xs 0) := by
  unfold G55 G55n
  refine pos_lp (R := Int) (rnd := r55_0 fuel) (st := fun i => (k, xs, (xs.length : Int), (i : Int))) h (fun rec => by simp [r55_0]) (fun rec i hi => ?_)
  have hw := wrap_nat (i := i) (by omega)
  have h1 : (i : Int) < (xs.length : Int) := by omega
  simp only [r55_0]
  rw [get_cast hi, hw]
  simp only [h1, decide_true, cond_true, Int.natCast_nonneg, Option.bind_some]
theorem g85 {xs : List VGateField} (h : xs.length ≤ 1048576) (k : ByteArray) : G85 xs k = some (posL (fun x => decide (x.Name = k)) xs 0) := by
  unfold G85 G85n
  refine pos_lp (R := Int) (rnd := r85_0 fuel) (st := fun i => (xs, k, (i : Int))) h (fun rec => by simp [r85_0]) (fun rec i hi => ?_)
  have hw := wrap_nat (i := i) (by omega)
  have h1 : (i : Int) < (xs.length : Int) := by omega
  simp only [r85_0]
  rw [get_cast hi, hw]
  simp only [h1, decide_true, cond_true, Int.natCast_nonneg, Option.bind_some]
theorem g57 {xs : List VGateField} (h : xs.length ≤ 1048576) (k : ByteArray) : G57 xs k = some (posL (fun x => decide (x.Name = k)) xs 0) := by
  unfold G57 G57n
  refine pos_lp (R := Int) (rnd := r57_0 fuel) (st := fun i => (k, xs, (xs.length : Int), (i : Int))) h (fun rec => by simp [r57_0]) (fun rec i hi => ?_)
  have hw := wrap_nat (i := i) (by omega)
  have h1 : (i : Int) < (xs.length : Int) := by omega
  simp only [r57_0]
  rw [get_cast hi, hw]
  simp only [h1, decide_true, cond_true, Int.natCast_nonneg, Option.bind_some]
theorem g79 {xs : List VGateTeam} (h : xs.length ≤ 1048576) (k : ByteArray) : G79 xs k = some (posL (fun x => decide (x.Name = k)) xs 0) := by
  unfold G79 G79n
  refine pos_lp (R := Int) (rnd := r79_0 fuel) (st := fun i => (k, xs, (xs.length : Int), (i : Int))) h (fun rec => by simp [r79_0]) (fun rec i hi => ?_)
  have hw := wrap_nat (i := i) (by omega)
  have h1 : (i : Int) < (xs.length : Int) := by omega
  simp only [r79_0]
  rw [get_cast hi, hw]
  simp only [h1, decide_true, cond_true, Int.natCast_nonneg, Option.bind_some]

/-! ### What a list holds -/
theorem any_lp {α A : Type} {p : α → Bool} {xs : List α} {st : Nat → A} {rnd : (A → Option Bool) → A → Option Bool} (hl : xs.length ≤ 1048576)
    (hend : ∀ rec, rnd rec (st xs.length) = some false)
    (hstep : ∀ rec i (hi : i < xs.length), rnd rec (st i) = cond (p xs[i]) (some true) (rec (st (i + 1)))) : lpN rnd fuel (st 0) = some (xs.any p) := by
  have := lp_idx (rnd := rnd) (st := st) (val := fun i => some ((xs.drop i).any p)) xs.length (fun rec => by rw [hend]; simp) (fun rec i hi hr => by
    rw [hstep rec i hi, List.drop_eq_getElem_cons hi, List.any_cons]
    cases p xs[i] with
    | true => rfl
    | false => simpa using hr) fuel 0 (Nat.zero_le _) (by have := fuel_big; omega)
  simpa using this
theorem all_lp {α A : Type} {p : α → Bool} {xs : List α} {st : Nat → A} {rnd : (A → Option Bool) → A → Option Bool} (hl : xs.length ≤ 1048576)
    (hend : ∀ rec, rnd rec (st xs.length) = some true)
    (hstep : ∀ rec i (hi : i < xs.length), rnd rec (st i) = cond (p xs[i]) (rec (st (i + 1))) (some false)) : lpN rnd fuel (st 0) = some (xs.all p) := by
  have := lp_idx (rnd := rnd) (st := st) (val := fun i => some ((xs.drop i).all p)) xs.length (fun rec => by rw [hend]; simp) (fun rec i hi hr => by
    rw [hstep rec i hi, List.drop_eq_getElem_cons hi, List.all_cons]
    cases p xs[i] with
    | true => simpa using hr
    | false => rfl) fuel 0 (Nat.zero_le _) (by have := fuel_big; omega)
  simpa using this
def hasB (xs : List ByteArray) (s : ByteArray) : Bool := xs.any fun x => decide (x = s)
theorem has_iff {xs : List ByteArray} {s : ByteArray} : hasB xs s = true ↔ s ∈ xs := by
  unfold hasB
  rw [List.any_eq_true]
  exact ⟨fun ⟨x, h, e⟩ => by simp at e; subst e; exact h, fun h => ⟨s, h, by simp⟩⟩
theorem g102 {xs : List ByteArray} (h : xs.length ≤ 1048576) (s : ByteArray) : G102 xs s = some (hasB xs s) := by
  unfold G102 G102n
  refine any_lp (rnd := r102_0 fuel) (st := fun i => (xs, s, (i : Int))) h (fun rec => by simp [r102_0]) (fun rec i hi => ?_)
  have hw := wrap_nat (i := i) (by omega)
  have h1 : (i : Int) < (xs.length : Int) := by omega
  simp only [r102_0]
  rw [get_cast hi, hw]
  simp only [h1, decide_true, cond_true, Int.natCast_nonneg, Option.bind_some]
theorem lp159 {xs : List ByteArray} (h : xs.length ≤ 1048576) (s : ByteArray) : LP159_0 fuel (s, xs, (xs.length : Int), 0) = some (hasB xs s) := by
  refine any_lp (rnd := r159_0 fuel) (st := fun i => (s, xs, (xs.length : Int), (i : Int))) h (fun rec => by simp [r159_0]) (fun rec i hi => ?_)
  have hw := wrap_nat (i := i) (by omega)
  have h1 : (i : Int) < (xs.length : Int) := by omega
  simp only [r159_0]
  rw [get_cast hi, hw]
  simp only [h1, decide_true, cond_true, Int.natCast_nonneg, Option.bind_some]

/-! ### Names in order -/
def ascAt (xs : List ByteArray) (j : Nat) : Bool := nmB (xs.getD j ⟨#[]⟩) && (decide (j = 0) || slt (xs.getD (j - 1) ⟨#[]⟩) (xs.getD j ⟨#[]⟩))
def ascB (xs : List ByteArray) : Bool := allN (ascAt xs) xs.length 0
theorem g122 {xs : List ByteArray} (h : xs.length ≤ 1048576) : G122 xs = some (ascB xs) :=
  lp_idx (rnd := r122_0 fuel) (st := fun i => (xs, (i : Int))) (val := fun i => some (allN (ascAt xs) xs.length i)) xs.length (fun rec => by simp [r122_0, allN_end]) (fun rec i hi hr => by
    have hw := wrap_nat (i := i) (by omega)
    have h1 : (i : Int) < (xs.length : Int) := by omega
    have hg : xs.getD i ⟨#[]⟩ = xs[i] := by simp [List.getD, hi]
    simp only [r122_0]
    rw [get_cast hi, hw]
    simp only [h1, decide_true, cond_true, Int.natCast_nonneg, Option.bind_some, g74]
    have ha : ascAt xs i = (nmB xs[i] && (decide (i = 0) || slt (xs.getD (i - 1) ⟨#[]⟩) xs[i])) := by unfold ascAt; rw [hg]
    rw [allN_step hi, ha]
    cases hb : nmB xs[i] with
    | false => rfl
    | true =>
      rcases Nat.eq_zero_or_pos i with h0 | h0
      · subst h0
        simpa using hr
      · have hp := wrap_pred h0 (by omega)
        have hg2 : xs.getD (i - 1) ⟨#[]⟩ = xs[i - 1]'(by omega) := by simp [List.getD, show i - 1 < xs.length by omega]
        have h2 : (i : Int) > 0 := by omega
        have h3 : ¬ i = 0 := by omega
        rw [hp, get_cast (show i - 1 < xs.length by omega), hg2]
        simp only [h2, h3, decide_true, decide_false, cond_true, Int.natCast_nonneg, Option.bind_some, Bool.not_true, cond_false, Bool.false_or, Bool.true_and]
        cases slt (xs[i - 1]'(by omega)) xs[i] with
        | true => simpa using hr
        | false => rfl) fuel 0 (Nat.zero_le _) (by have := fuel_big; omega)
theorem g95 {xs : List ByteArray} (h : xs.length ≤ 1048576) : G95 xs = some (ascB xs) :=
  lp_idx (rnd := r95_0 fuel) (st := fun i => (xs, xs, (xs.length : Int), (i : Int))) (val := fun i => some (allN (ascAt xs) xs.length i)) xs.length (fun rec => by simp [r95_0, allN_end]) (fun rec i hi hr => by
    have hw := wrap_nat (i := i) (by omega)
    have h1 : (i : Int) < (xs.length : Int) := by omega
    have hg : xs.getD i ⟨#[]⟩ = xs[i] := by simp [List.getD, hi]
    simp only [r95_0]
    rw [get_cast hi, hw]
    simp only [h1, decide_true, cond_true, Int.natCast_nonneg, Option.bind_some, g78]
    have ha : ascAt xs i = (nmB xs[i] && (decide (i = 0) || slt (xs.getD (i - 1) ⟨#[]⟩) xs[i])) := by unfold ascAt; rw [hg]
    rw [allN_step hi, ha]
    cases hb : nmB xs[i] with
    | false => rfl
    | true =>
      rcases Nat.eq_zero_or_pos i with h0 | h0
      · subst h0
        simpa using hr
      · have hp := wrap_pred h0 (by omega)
        have hg2 : xs.getD (i - 1) ⟨#[]⟩ = xs[i - 1]'(by omega) := by simp [List.getD, show i - 1 < xs.length by omega]
        have h2 : (i : Int) > 0 := by omega
        have h3 : ¬ i = 0 := by omega
        rw [hp, get_cast (show i - 1 < xs.length by omega), hg2]
        simp only [h2, h3, decide_true, decide_false, cond_true, Int.natCast_nonneg, Option.bind_some, Bool.not_true, cond_false, Bool.false_or, Bool.true_and]
        cases slt (xs[i - 1]'(by omega)) xs[i] with
        | true => simpa using hr
        | false => rfl) fuel 0 (Nat.zero_le _) (by have := fuel_big; omega)
end Go.Proofs.Ytkiognopoigbhaa.Ab

