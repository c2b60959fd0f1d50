/- The plain law, part 5: sizes, copies, likeness. -/
import Derived.Test.YtgpopgfidphheaaPd
import Derived.Test.YtgpopgfidphheaaKo
set_option linter.unusedVariables false
set_option linter.unusedSimpArgs false
namespace Go.Proofs.Ytgpopgfidphheaa.Ab
open Go Go.RowKit

/-! ### Copies -/
theorem take_set {α : Type} {xs ys : List α} {i : Nat} (hi : i < xs.length) (e : xs.length = ys.length) : (xs.take i ++ ys.drop i).set i xs[i] = xs.take (i + 1) ++ ys.drop (i + 1) := by
  have hl : (xs.take i).length = i := by simp; omega
  rw [List.set_append_right _ _ (by omega), hl, Nat.sub_self, List.drop_eq_getElem_cons (show i < ys.length by omega), List.set_cons_zero, ← List.take_append_getElem hi, List.append_assoc]
  rfl
theorem get_mix {α : Type} {xs ys : List α} {i : Nat} (hi : i < xs.length) (e : xs.length = ys.length) : (xs.take i ++ ys.drop i)[((i : Int)).toNat]? = some (ys[i]'(by omega)) := by
  have hl : (xs.take i).length = i := by simp; omega
  rw [Int.toNat_natCast, List.getElem?_append_right (by omega), hl, Nat.sub_self, List.getElem?_drop, Nat.add_zero, List.getElem?_eq_getElem (by omega)]
theorem len_mix {α : Type} {xs ys : List α} {i : Nat} (hi : i ≤ xs.length) (e : xs.length = ys.length) : (xs.take i ++ ys.drop i).length = xs.length := by
  simp; omega
theorem g91 {xs : List Int} (h : xs.length ≤ 1048576) : G91 xs = some xs := by
  have key : ∀ (ys : List Int), xs.length = ys.length → LP91_0 fuel (xs, xs.take 0 ++ ys.drop 0, ((0 : Nat) : Int)) = some xs := fun ys e =>
    lp_idx (rnd := r91_0 fuel) (st := fun i => (xs, xs.take i ++ ys.drop i, (i : Int))) (val := fun i => some xs) xs.length (fun rec => by simp [r91_0, e, List.take_of_length_le (Nat.le_of_eq e)]) (fun rec i hi hr => by
      have hw := wrap_nat (i := i) (by omega)
      have h1 : (i : Int) < (xs.length : Int) := by omega
      have h2 : (i : Int) < ((xs.take i ++ ys.drop i).length : Int) := by rw [len_mix (by omega) e]; omega
      simp only [r91_0]
      rw [get_cast hi, get_mix hi e, hw]
      simp only [h1, h2, decide_true, cond_true, Int.natCast_nonneg, Option.bind_some]
      rw [Int.toNat_natCast, take_set hi e]
      exact hr) fuel 0 (Nat.zero_le _) (by have := fuel_big; omega)
  unfold G91 G91n
  have h1 : (xs.length : Int) * 8 ≤ 140737488355328 := by omega
  simp only [h1, decide_true, cond_true, Int.natCast_nonneg]
  exact key _ (by simp)
theorem g72 {r : VGateRule} (h : r.Verbs.length ≤ 1048576) : G72 r = some r := by
  unfold G72 G72n
  rw [g91 h]
  rfl
theorem g44 {x : VGateGrant} (h : x.Rule_Verbs.length ≤ 1048576) : G44 x = some x := by
  unfold G44 G44n
  rw [g72 h]
  rfl
theorem g20 {xs : List VGateGrant} (h : xs.length ≤ 1048576) (hv : ∀ x ∈ xs, x.Rule_Verbs.length ≤ 1048576) : G20 xs = some xs := by
  have key : ∀ (ys : List VGateGrant), xs.length = ys.length → LP20_0 fuel (xs, xs.take 0 ++ ys.drop 0, ((0 : Nat) : Int)) = some xs := fun ys e =>
    lp_idx (rnd := r20_0 fuel) (st := fun i => (xs, xs.take i ++ ys.drop i, (i : Int))) (val := fun i => some xs) xs.length (fun rec => by simp [r20_0, e, List.take_of_length_le (Nat.le_of_eq e)]) (fun rec i hi hr => by
      have hw := wrap_nat (i := i) (by omega)
      have h1 : (i : Int) < (xs.length : Int) := by omega
      have h2 : (i : Int) < ((xs.take i ++ ys.drop i).length : Int) := by rw [len_mix (by omega) e]; omega
      simp only [r20_0]
      rw [get_cast hi, get_mix hi e, hw]
      simp only [h1, h2, decide_true, cond_true, Int.natCast_nonneg, Option.bind_some, g44 (hv _ (List.getElem_mem hi))]
      rw [Int.toNat_natCast, take_set hi e]
      exact hr) fuel 0 (Nat.zero_le _) (by have := fuel_big; omega)
  unfold G20 G20n
  have h1 : (xs.length : Int) * 112 ≤ 140737488355328 := by omega
  simp only [h1, decide_true, cond_true, Int.natCast_nonneg]
  exact key _ (by simp)
theorem g19 {xs : List VGateTeam} (h : xs.length ≤ 1048576) : G19 xs = some xs := by
  have key : ∀ (ys : List VGateTeam), xs.length = ys.length → LP19_0 fuel (xs, xs.take 0 ++ ys.drop 0, ((0 : Nat) : Int)) = some xs := fun ys e =>
    lp_idx (rnd := r19_0 fuel) (st := fun i => (xs, xs.take i ++ ys.drop i, (i : Int))) (val := fun i => some xs) xs.length (fun rec => by simp [r19_0, e, List.take_of_length_le (Nat.le_of_eq e)]) (fun rec i hi hr => by
      have hw := wrap_nat (i := i) (by omega)
      have h1 : (i : Int) < (xs.length : Int) := by omega
      have h2 : (i : Int) < ((xs.take i ++ ys.drop i).length : Int) := by rw [len_mix (by omega) e]; omega
      have h38 : G43 (xs[i]) = some (xs[i]) := rfl
      simp only [r19_0]
      rw [get_cast hi, get_mix hi e, hw]
      simp only [h1, h2, decide_true, cond_true, Int.natCast_nonneg, Option.bind_some, h38]
      rw [Int.toNat_natCast, take_set hi e]
      exact hr) fuel 0 (Nat.zero_le _) (by have := fuel_big; omega)
  unfold G19 G19n
  have h1 : (xs.length : Int) * 32 ≤ 140737488355328 := by omega
  simp only [h1, decide_true, cond_true, Int.natCast_nonneg]
  exact key _ (by simp)
theorem g6 {h : VHallHouse} (hb : HBd h) : G6 h = some h := by
  unfold G6 G6n
  rw [g19 hb.t, Option.bind_some, g20 hb.g hb.v]
  rfl

/-! ### Likeness -/
theorem g95 {xs : List Int} (h : xs.length ≤ 1048576) : G95 xs xs = some true := by
  unfold G95 G95n
  simp only [bne_self_eq_false, cond_false]
  exact lp_idx (rnd := r95_0 fuel) (st := fun i => (xs, xs, (i : Int))) (val := fun i => some true) xs.length (fun rec => by simp [r95_0]) (fun rec i hi hr => by
    have hw := wrap_nat (i := i) (by omega)
    have h1 : (i : Int) < (xs.length : Int) := by omega
    simp only [r95_0]
    rw [get_cast hi, hw]
    simp only [h1, decide_true, cond_true, Int.natCast_nonneg, Option.bind_some, bne_self_eq_false, cond_false]
    exact hr) fuel 0 (Nat.zero_le _) (by have := fuel_big; omega)
theorem g57 {x : VGateGrant} (h : x.Rule_Verbs.length ≤ 1048576) : G57 x x = some true := by
  unfold G57 G57n G82 G82n
  simp only [g95 h, bne_self_eq_false, cond_false, decide_true, Bool.not_true, Option.bind_some]
theorem g27 {xs : List VGateGrant} (h : xs.length ≤ 1048576) (hv : ∀ x ∈ xs, x.Rule_Verbs.length ≤ 1048576) : G27 xs xs = some true := by
  unfold G27 G27n
  simp only [bne_self_eq_false, cond_false]
  exact lp_idx (rnd := r27_0 fuel) (st := fun i => (xs, xs, (i : Int))) (val := fun i => some true) xs.length (fun rec => by simp [r27_0]) (fun rec i hi hr => by
    have hw := wrap_nat (i := i) (by omega)
    have h1 : (i : Int) < (xs.length : Int) := by omega
    simp only [r27_0]
    rw [get_cast hi, hw]
    simp only [h1, decide_true, cond_true, Int.natCast_nonneg, Option.bind_some, g57 (hv _ (List.getElem_mem hi)), Bool.not_true, cond_false]
    exact hr) fuel 0 (Nat.zero_le _) (by have := fuel_big; omega)
theorem g26 {xs : List VGateTeam} (h : xs.length ≤ 1048576) : G26 xs xs = some true := by
  unfold G26 G26n
  simp only [bne_self_eq_false, cond_false]
  exact lp_idx (rnd := r26_0 fuel) (st := fun i => (xs, xs, (i : Int))) (val := fun i => some true) xs.length (fun rec => by simp [r26_0]) (fun rec i hi hr => by
    have hw := wrap_nat (i := i) (by omega)
    have h1 : (i : Int) < (xs.length : Int) := by omega
    have h51 : G56 (xs[i]) (xs[i]) = some true := by unfold G56 G56n; simp
    simp only [r26_0]
    rw [get_cast hi, hw]
    simp only [h1, decide_true, cond_true, Int.natCast_nonneg, Option.bind_some, h51, Bool.not_true, cond_false]
    exact hr) fuel 0 (Nat.zero_le _) (by have := fuel_big; omega)
theorem g9 {h : VHallHouse} (hb : HBd h) : G9 h h = some true := by
  unfold G9 G9n
  simp only [g26 hb.t, g27 hb.g hb.v, Option.bind_some, Bool.not_true, cond_false]

/-! ### Sizes -/
theorem max_len {n : Nat} (h : n ≤ maxLen) : n ≤ 9223372036854775807 := h
theorem sub_wrap {a : Int} {n : Nat} (h0 : 0 ≤ a) (h1 : a ≤ 1048576) (h2 : n ≤ 9223372036854775807) : IntKind.i64.wrap (a - (n : Int)) = a - (n : Int) := wrap_id (by omega) (by omega)
/-- What a size guard says: a rest below nought, or a rest in bounds and the promise `p`. -/
def Szd (a : Int) (p : Prop) (o : Option Int) : Prop := ∃ r, o = some r ∧ (r < 0 ∨ (0 ≤ r ∧ r ≤ a ∧ p))
theorem szd_sub {a : Int} {n : Nat} {p : Prop} {o : Option Int} (h0 : 0 ≤ a) (h1 : a ≤ 1048576) (h2 : n ≤ 9223372036854775807) (hk : 0 ≤ IntKind.i64.wrap (a - (n : Int)) → IntKind.i64.wrap (a - (n : Int)) ≤ a → n ≤ 1048576 → Szd (IntKind.i64.wrap (a - (n : Int))) p o) : Szd a p (cond (decide ((IntKind.i64.wrap (a - (n : Int))) < 0)) (some (-1)) o) := by
  rw [sub_wrap h0 h1 h2] at hk ⊢
  by_cases hc : a - (n : Int) < 0
  · simp only [hc, decide_true, cond_true]
    exact ⟨-1, rfl, Or.inl (by omega)⟩
  · simp only [hc, decide_false, cond_false]
    obtain ⟨r, e, hr⟩ := hk (by omega) (by omega) (by omega)
    refine ⟨r, e, hr.imp id fun ⟨x, y, z⟩ => ⟨x, by omega, z⟩⟩
theorem szd_ret {a b : Int} {p : Prop} (h0 : 0 ≤ b) (h1 : b ≤ a) (hp : p) : Szd a p (some b) := ⟨b, rfl, Or.inr ⟨h0, h1, hp⟩⟩
theorem szd_bind {a : Int} {p q : Prop} {o : Option Int} {k : Int → Option Int} (h : Szd a q o) (hk : ∀ b, 0 ≤ b → b ≤ a → q → Szd b p (k b)) : Szd a p (Option.bind o fun r => cond (decide (r < 0)) (some (-1)) (k r)) := by
  obtain ⟨r, rfl, hr | ⟨x, y, z⟩⟩ := h
  · simp only [Option.bind_some, hr, decide_true, cond_true]
    exact ⟨-1, rfl, Or.inl (by omega)⟩
  · have : ¬ r < 0 := by omega
    simp only [Option.bind_some, this, decide_false, cond_false]
    obtain ⟨r', e, hr⟩ := hk r x y z
    exact ⟨r', e, hr.imp id fun ⟨x, y, z⟩ => ⟨x, by omega, z⟩⟩
structure TSm (x : VGateTeam) : Prop where
  n : x.Name.size ≤ 9223372036854775807
  o : x.Over.size ≤ 9223372036854775807
structure GSm (x : VGateGrant) : Prop where
  t : x.To.size ≤ 9223372036854775807
  b : x.By.size ≤ 9223372036854775807
  v : x.Rule_Verbs.length ≤ 9223372036854775807
  k : x.Rule_Kind.size ≤ 9223372036854775807
  m : x.Rule_Team.size ≤ 9223372036854775807
  p : x.Rule_Prefix.size ≤ 9223372036854775807
theorem g35 {x : VGateTeam} (h : TSm x) {a : Int} (h0 : 0 ≤ a) (h1 : a ≤ 1048576) : Szd a True (G35 x a) := by
  unfold G35 G35n
  refine szd_sub h0 h1 h.n fun hb1 hb2 _ => ?_
  exact szd_sub hb1 (by omega) h.o fun hc1 hc2 _ => szd_ret hc1 (Int.le_refl _) trivial
theorem g36 {x : VGateGrant} (h : GSm x) {a : Int} (h0 : 0 ≤ a) (h1 : a ≤ 1048576) : Szd a (x.Rule_Verbs.length ≤ 1048576) (G36 x a) := by
  unfold G36 G36n G68 G68n G90 G90n
  refine szd_sub h0 h1 h.t fun hb1 hb2 _ => ?_
  refine szd_sub hb1 (by omega) h.b fun hc1 hc2 _ => ?_
  refine szd_bind (q := x.Rule_Verbs.length ≤ 1048576) (k := fun r => some r) (szd_bind (q := x.Rule_Verbs.length ≤ 1048576) ?_ fun d hd1 hd2 hd => ?_) fun e he1 he2 hq => szd_ret he1 (Int.le_refl _) hq
  · exact szd_sub hc1 (by omega) h.v fun hd1 hd2 hd => szd_ret hd1 (Int.le_refl _) hd
  · refine szd_sub hd1 (by omega) h.k fun he1 he2 _ => ?_
    refine szd_sub he1 (by omega) h.m fun hf1 hf2 _ => ?_
    exact szd_sub hf1 (by omega) h.p fun hg1 hg2 _ => szd_ret hg1 (Int.le_refl _) hd
/-- The loop of a size guard over a list. -/
theorem szd_lp {α : Type} {xs : List α} {q : α → Prop} {gd : α → Int → Option Int} {rnd : (List α × Int × Int → Option Int) → List α × Int × Int → Option Int}
    (hend : ∀ rec a, rnd rec (xs, a, (xs.length : Int)) = some a)
    (hstep : ∀ rec a i (hi : i < xs.length), rnd rec (xs, a, (i : Int)) = Option.bind (gd xs[i] a) fun r => cond (decide (r < 0)) (some (-1)) (rec (xs, r, ((i + 1 : Nat) : Int))))
    (hgd : ∀ i (hi : i < xs.length) a, 0 ≤ a → a ≤ 1048576 → Szd a (q xs[i]) (gd xs[i] a)) :
    ∀ n i a, i ≤ xs.length → xs.length - i < n → 0 ≤ a → a ≤ 1048576 → Szd a (∀ j (hj : j < xs.length), i ≤ j → q xs[j]) (lpN rnd n (xs, a, (i : Int))) := by
  intro n
  induction n with
  | zero => intro i a _ h; omega
  | succ n ih =>
    intro i a hi hn h0 h1
    rw [lp_succ]
    rcases Nat.lt_or_ge i xs.length with h | h
    · rw [hstep _ _ _ h]
      refine szd_bind (hgd i h a h0 h1) fun b hb1 hb2 hq => ?_
      obtain ⟨r, e, hr⟩ := ih (i + 1) b (by omega) (by omega) hb1 (by omega)
      refine ⟨r, e, hr.imp id fun ⟨x, y, z⟩ => ⟨x, y, fun j hj hij => ?_⟩⟩
      rcases Nat.lt_or_ge i j with h' | h'
      · exact z j hj h'
      · obtain rfl : j = i := by omega
        exact hq
    · obtain rfl : i = xs.length := by omega
      rw [hend]
      exact szd_ret h0 (Int.le_refl _) fun j hj hij => by omega
theorem g13 {xs : List VGateTeam} (h : xs.length ≤ 9223372036854775807) (hs : ∀ i (hi : i < xs.length), TSm xs[i]) {a : Int} (h0 : 0 ≤ a) (h1 : a ≤ 1048576) : Szd a (xs.length ≤ 1048576) (G13 xs a) := by
  unfold G13 G13n
  refine szd_sub h0 h1 h fun hb1 hb2 hl => ?_
  obtain ⟨r, e, hr⟩ := szd_lp (xs := xs) (q := fun _ => True) (gd := G35) (rnd := r13_0 fuel) (fun rec a => by simp [r13_0]) (fun rec a i hi => by
    have hw := wrap_nat (i := i) (by omega)
    have h1 : (i : Int) < (xs.length : Int) := by omega
    simp only [r13_0]
    rw [get_cast hi, hw]
    simp only [h1, decide_true, cond_true, Int.natCast_nonneg, Option.bind_some]) (fun i hi a h0 h1 => g35 (hs i hi) h0 h1) fuel 0 _ (Nat.zero_le _) (by have := fuel_big; omega) hb1 (by omega)
  exact ⟨r, e, hr.imp id fun ⟨x, y, _⟩ => ⟨x, y, hl⟩⟩
theorem g14 {xs : List VGateGrant} (h : xs.length ≤ 9223372036854775807) (hs : ∀ i (hi : i < xs.length), GSm xs[i]) {a : Int} (h0 : 0 ≤ a) (h1 : a ≤ 1048576) : Szd a (xs.length ≤ 1048576 ∧ ∀ x ∈ xs, x.Rule_Verbs.length ≤ 1048576) (G14 xs a) := by
  unfold G14 G14n
  refine szd_sub h0 h1 h fun hb1 hb2 hl => ?_
  obtain ⟨r, e, hr⟩ := szd_lp (xs := xs) (q := fun x => x.Rule_Verbs.length ≤ 1048576) (gd := G36) (rnd := r14_0 fuel) (fun rec a => by simp [r14_0]) (fun rec a i hi => by
    have hw := wrap_nat (i := i) (by omega)
    have h1 : (i : Int) < (xs.length : Int) := by omega
    simp only [r14_0]
    rw [get_cast hi, hw]
    simp only [h1, decide_true, cond_true, Int.natCast_nonneg, Option.bind_some]) (fun i hi a h0 h1 => g36 (hs i hi) h0 h1) fuel 0 _ (Nat.zero_le _) (by have := fuel_big; omega) hb1 (by omega)
  refine ⟨r, e, hr.imp id fun ⟨x, y, z⟩ => ⟨x, y, hl, fun w hw => ?_⟩⟩
  obtain ⟨i, hi, rfl⟩ := List.mem_iff_getElem.1 hw
  exact z i hi (Nat.zero_le _)
theorem g4 {h : VHallHouse} (h0 : Sm KK (.row .e64 h.Teams)) (h1 : Sm KK (.row .e70 h.Grants)) : ∃ r, G4 h 1048576 = some r ∧ (r < 0 ∨ HBd h) := by
  obtain ⟨T, X⟩ := h
  have hT : T.length ≤ 9223372036854775807 ∧ ∀ i (hi : i < T.length), TSm T[i] := by
    cases h0 with
    | row _ _ hl hs =>
      refine ⟨max_len hl, fun i hi => ⟨?_, ?_⟩⟩
      · have := hs i hi 0 _ rfl
        cases this; exact max_len ‹_›
      · have := hs i hi 1 _ rfl
        cases this; exact max_len ‹_›
  have hX : X.length ≤ 9223372036854775807 ∧ ∀ i (hi : i < X.length), GSm X[i] := by
    cases h1 with
    | row _ _ hl hs =>
      refine ⟨max_len hl, fun i hi => ⟨?_, ?_, ?_, ?_, ?_, ?_⟩⟩
      · have := hs i hi 1 _ rfl
        cases this; exact max_len ‹_›
      · have := hs i hi 2 _ rfl
        cases this; exact max_len ‹_›
      · have := hs i hi 3 _ rfl
        cases this; exact max_len ‹_›
      · have := hs i hi 4 _ rfl
        cases this; exact max_len ‹_›
      · have := hs i hi 5 _ rfl
        cases this; exact max_len ‹_›
      · have := hs i hi 6 _ rfl
        cases this; exact max_len ‹_›
  have : Szd 1048576 (HBd ⟨T, X⟩) (G4 ⟨T, X⟩ 1048576) := by
    unfold G4 G4n
    refine szd_bind (q := T.length ≤ 1048576) (g13 hT.1 hT.2 (by omega) (by omega)) fun b hb1 hb2 hq => ?_
    exact szd_bind (k := fun r => some r) (g14 hX.1 hX.2 hb1 (by omega)) fun c hc1 hc2 hq2 => szd_ret hc1 (Int.le_refl _) ⟨hq, hq2.1, hq2.2⟩
  obtain ⟨r, e, hr⟩ := this
  exact ⟨r, e, hr.imp id fun x => x.2.2⟩
end Go.Proofs.Ytgpopgfidphheaa.Ab
