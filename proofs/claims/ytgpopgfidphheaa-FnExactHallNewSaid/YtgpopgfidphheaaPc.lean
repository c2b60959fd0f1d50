/- The plain law, part 3: teams. -/
import Derived.Test.YtgpopgfidphheaaPb
set_option linter.unusedVariables false
set_option linter.unusedSimpArgs false
namespace Go.Proofs.Ytgpopgfidphheaa.Ab
open Go Go.RowKit

theorem bl_irrefl : ∀ x : List UInt8, Go.Op.bytesLess x x = false
  | [] => rfl
  | a :: x => by simp [Go.Op.bytesLess, bl_irrefl x]
theorem bl_trans : ∀ x y z : List UInt8, Go.Op.bytesLess x y = true → Go.Op.bytesLess y z = true → Go.Op.bytesLess x z = true
  | _, [], _ => by intro h; cases ‹List UInt8› <;> simp [Go.Op.bytesLess] at h
  | _, _ :: _, [] => by intro _ h; simp [Go.Op.bytesLess] at h
  | [], b :: y, c :: z => by intro _ _; rfl
  | a :: x, b :: y, c :: z => by
    intro h1 h2
    simp only [Go.Op.bytesLess, Bool.or_eq_true, decide_eq_true_eq, Bool.and_eq_true, beq_iff_eq] at *
    rcases h1 with h1 | ⟨rfl, h1⟩
    · rcases h2 with h2 | ⟨rfl, h2⟩
      · exact Or.inl (UInt8.lt_trans h1 h2)
      · exact Or.inl h1
    · rcases h2 with h2 | ⟨rfl, h2⟩
      · exact Or.inl h2
      · exact Or.inr ⟨rfl, bl_trans x y z h1 h2⟩
theorem slt_irrefl (a : ByteArray) : slt a a = false := bl_irrefl _
theorem slt_trans {a b c : ByteArray} (h1 : slt a b = true) (h2 : slt b c = true) : slt a c = true := bl_trans _ _ _ h1 h2

def ovAt : List VGateTeam → ByteArray → ByteArray
  | [], _ => ⟨#[]⟩
  | x :: t, a => if x.Name = a then x.Over else ovAt t a
def tmAt : List VGateTeam → ByteArray → Bool
  | [], _ => false
  | x :: t, a => if x.Name = a then true else tmAt t a
def ixAt : List VGateTeam → ByteArray → Nat → Int
  | [], _, _ => -1
  | x :: t, a, i => if x.Name = a then (i : Int) else ixAt t a (i + 1)
theorem g70 {xs : List VGateTeam} (h : xs.length ≤ 281474976710656) (a : ByteArray) : G70 xs a = some (ovAt xs a) := by
  have := lp_idx (rnd := r70_0 fuel) (st := fun i => (xs, a, (i : Int))) (val := fun i => some (ovAt (xs.drop i) a)) xs.length (fun rec => by simp [r70_0, ovAt]) (fun rec i hi hr => by
    rw [← wrap_nat (by omega)] at hr
    have h1 : (i : Int) < (xs.length : Int) := by omega
    have hd : xs.drop i = xs[i] :: xs.drop (i + 1) := List.drop_eq_getElem_cons hi
    simp only [r70_0]
    rw [get_cast hi, hd, hr]
    simp only [h1, decide_true, cond_true, Int.natCast_nonneg, Option.bind_some, ovAt]
    by_cases hc : (xs[i]).Name = a <;> simp [hc]) fuel 0 (Nat.zero_le _) (by have := fuel_big; omega)
  exact this
theorem g69 {xs : List VGateTeam} (h : xs.length ≤ 281474976710656) (a : ByteArray) : G69 xs a = some (tmAt xs a) := by
  have := lp_idx (rnd := r69_0 fuel) (st := fun i => (xs, a, (i : Int))) (val := fun i => some (tmAt (xs.drop i) a)) xs.length (fun rec => by simp [r69_0, tmAt]) (fun rec i hi hr => by
    rw [← wrap_nat (by omega)] at hr
    have h1 : (i : Int) < (xs.length : Int) := by omega
    have hd : xs.drop i = xs[i] :: xs.drop (i + 1) := List.drop_eq_getElem_cons hi
    simp only [r69_0]
    rw [get_cast hi, hd, hr]
    simp only [h1, decide_true, cond_true, Int.natCast_nonneg, Option.bind_some, tmAt]
    by_cases hc : (xs[i]).Name = a <;> simp [hc]) fuel 0 (Nat.zero_le _) (by have := fuel_big; omega)
  exact this
theorem g74 {xs : List VGateTeam} (h : xs.length ≤ 281474976710656) (a : ByteArray) : G74 xs a = some (ixAt xs a 0) := by
  have := lp_idx (rnd := r74_0 fuel) (st := fun i => (a, xs, (xs.length : Int), (i : Int))) (val := fun i => some (ixAt (xs.drop i) a i)) xs.length (fun rec => by simp [r74_0, ixAt]) (fun rec i hi hr => by
    rw [← wrap_nat (by omega)] at hr
    have h1 : (i : Int) < (xs.length : Int) := by omega
    have hd : xs.drop i = xs[i] :: xs.drop (i + 1) := List.drop_eq_getElem_cons hi
    simp only [r74_0]
    rw [get_cast hi, hd, hr]
    simp only [h1, decide_true, cond_true, Int.natCast_nonneg, Option.bind_some, ixAt]
    by_cases hc : (xs[i]).Name = a <;> simp [hc]) fuel 0 (Nat.zero_le _) (by have := fuel_big; omega)
  exact this
theorem ix_no : ∀ {xs : List VGateTeam} {a : ByteArray} {i : Nat}, tmAt xs a = false → ixAt xs a i = -1
  | [], _, _, _ => rfl
  | x :: t, a, i, h => by
    by_cases hc : x.Name = a
    · simp [tmAt, hc] at h
    · simp only [tmAt, hc, if_false] at h
      simpa [ixAt, hc] using ix_no h
theorem ix_yes : ∀ {xs : List VGateTeam} {a : ByteArray} {i : Nat}, tmAt xs a = true → ∃ (j : Nat) (hj : j < xs.length), ixAt xs a i = ((i + j : Nat) : Int) ∧ xs[j].Over = ovAt xs a
  | [], _, _, h => by cases h
  | x :: t, a, i, h => by
    by_cases hc : x.Name = a
    · exact ⟨0, by simp, by simp [ixAt, hc], by simp [ovAt, hc]⟩
    · simp only [tmAt, hc, if_false] at h
      obtain ⟨j, hj, e1, e2⟩ := ix_yes (i := i + 1) h
      exact ⟨j + 1, by simpa using hj, by simp [ixAt, hc, e1]; omega, by simpa [ovAt, hc] using e2⟩
def dT : VGateTeam := ⟨⟨#[]⟩, ⟨#[]⟩⟩
def aB (xs : List VGateTeam) (j : Nat) : Bool := nmB (xs.getD j dT).Name && ((decide (j = 0) || slt (xs.getD (j - 1) dT).Name (xs.getD j dT).Name) && (decide ((xs.getD j dT).Over = ⟨#[]⟩) || tmAt xs (xs.getD j dT).Over))
def climb (xs : List VGateTeam) : Nat → ByteArray → Bool
  | 0, a => decide (a = ⟨#[]⟩)
  | n + 1, a => decide (a = ⟨#[]⟩) || climb xs n (ovAt xs a)

/-- The climb of the spec, out of the loop within. -/
theorem lp37_1 {xs : List VGateTeam} (h : xs.length ≤ 281474976710656) (rec0 : A37_0 → Option Bool) (i : Int) : ∀ (c : Nat), c ≤ 5 → ∀ (m : Nat) (a : ByteArray), c < m → lpN (r37_1 fuel rec0) m (xs, i, a, ((5 - c : Nat) : Int)) = cond (climb xs c a) (rec0 (xs, IntKind.i64.wrap (i + 1))) (some false) := by
  intro c
  induction c with
  | zero =>
    intro _ m a hm
    obtain ⟨m, rfl⟩ : ∃ k, m = k + 1 := ⟨m - 1, by omega⟩
    rw [lp_succ]
    have h1 : ¬ (((5 - 0 : Nat) : Int) ≤ 4) := by decide
    simp only [r37_1, h1, decide_false, cond_false, climb]
    by_cases ha : a = ⟨#[]⟩ <;> simp [ha]
  | succ c ih =>
    intro hc m a hm
    obtain ⟨m, rfl⟩ : ∃ k, m = k + 1 := ⟨m - 1, by omega⟩
    rw [lp_succ]
    have h1 : (((5 - (c + 1) : Nat) : Int) ≤ 4) := by omega
    have h2 : IntKind.i64.wrap (((5 - (c + 1) : Nat) : Int) + 1) = ((5 - c : Nat) : Int) := by rw [wrap_id (by omega) (by omega)]; omega
    simp only [r37_1, h1, decide_true, cond_true, g70 h, Option.bind_some, climb, h2]
    by_cases ha : a = ⟨#[]⟩
    · simp [ha]
    · simp only [ha, decide_false, Bool.not_false, cond_true, Bool.false_or]
      exact ih (by omega) m _ (by omega)
theorem g37 {xs : List VGateTeam} (h : xs.length ≤ 281474976710656) : G37 xs = some (decide (xs.length ≤ 12) && allN (fun j => aB xs j && climb xs 5 (xs.getD j dT).Name) xs.length 0) := by
  unfold G37 G37n
  by_cases hl : xs.length ≤ 12
  · have hl' : ¬ (xs.length : Int) > 12 := by omega
    simp only [hl, hl', decide_true, decide_false, cond_false, Bool.true_and]
    exact lp_idx (rnd := r37_0 fuel) (st := fun i => (xs, (i : Int))) (val := fun i => some (allN (fun j => aB xs j && climb xs 5 (xs.getD j dT).Name) xs.length i)) xs.length (fun rec => by simp [r37_0, allN_end]) (fun rec i hi hr => by
      rw [← wrap_nat (by omega)] at hr
      have h1 : (i : Int) < (xs.length : Int) := by omega
      have hg : xs.getD i dT = xs[i] := by simp [List.getD, hi]
      have hL : ∀ a, LP37_1 fuel rec (xs, (i : Int), a, 0) = cond (climb xs 5 a) (some (allN (fun j => aB xs j && climb xs 5 (xs.getD j dT).Name) xs.length (i + 1))) (some false) := fun a => by
        rw [← hr]
        exact lp37_1 h rec (i : Int) 5 (by omega) fuel a (by have := fuel_big; omega)
      have hv : aB xs i = (nmB (xs[i]).Name && ((decide (i = 0) || slt (xs.getD (i - 1) dT).Name (xs[i]).Name) && (decide ((xs[i]).Over = ⟨#[]⟩) || tmAt xs (xs[i]).Over))) := by rw [← hg]; rfl
      simp only [r37_0]
      rw [allN_step hi, get_cast hi]
      simp only [h1, decide_true, cond_true, Int.natCast_nonneg, g38, Option.bind_some, g69 h, hL, hv, hg]
      cases c1 : nmB (xs[i]).Name
      · simp
      · rcases Nat.eq_zero_or_pos i with rfl | hp
        · by_cases c3 : (xs[0]).Over = ⟨#[]⟩
          · cases c5 : climb xs 5 (xs[0]).Name <;> simp [c3]
          · cases c4 : tmAt xs (xs[0]).Over <;> cases c5 : climb xs 5 (xs[0]).Name <;> simp [c3]
        · have hl : i - 1 < xs.length := by omega
          have hg' : xs.getD (i - 1) dT = xs[i - 1] := by simp [List.getD, hl]
          have h0 : (i : Int) > 0 := by omega
          have h0' : ¬ i = 0 := by omega
          rw [wrap_pred hp (by omega), hg', get_cast hl]
          cases c2 : slt (xs[i - 1]).Name (xs[i]).Name
          · simp [hp, h0, h0', c2]
          · by_cases c3 : (xs[i]).Over = ⟨#[]⟩
            · cases c5 : climb xs 5 (xs[i]).Name <;> simp [c3, h0, h0', c2]
            · cases c4 : tmAt xs (xs[i]).Over <;> cases c5 : climb xs 5 (xs[i]).Name <;> simp [c3, h0, h0', c2]) fuel 0 (Nat.zero_le _) (by have := fuel_big; omega)
  · have hl' : (xs.length : Int) > 12 := by omega
    simp [hl, hl']
/-- The climb of the implementation. -/
theorem lp45_2 {xs : List VGateTeam} (h : xs.length ≤ 281474976710656) (hall : ∀ (j : Nat) (hj : j < xs.length), (xs[j]).Over = ⟨#[]⟩ ∨ tmAt xs (xs[j]).Over = true) (rec1 : A45_1 → Option Bool) (ys : List VGateTeam) (k i : Int) : ∀ (c : Nat), c ≤ 4 → ∀ (m : Nat) (a : ByteArray), c < m → a = ⟨#[]⟩ ∨ tmAt xs a = true → lpN (r45_2 fuel rec1) m (xs, ((4 - c : Nat) : Int), a, ys, k, i) = cond (climb xs c a) (rec1 (xs, ys, k, IntKind.i64.wrap (i + 1))) (some false) := by
  intro c
  induction c with
  | zero =>
    intro _ m a hm hta
    obtain ⟨m, rfl⟩ : ∃ k, m = k + 1 := ⟨m - 1, by omega⟩
    rw [lp_succ]
    have h1 : IntKind.i64.wrap (((4 - 0 : Nat) : Int) + 1) > 4 := by decide
    simp only [r45_2, h1, decide_true, cond_true, climb]
    by_cases ha : a = ⟨#[]⟩ <;> simp [ha]
  | succ c ih =>
    intro hc m a hm hta
    obtain ⟨m, rfl⟩ : ∃ k, m = k + 1 := ⟨m - 1, by omega⟩
    rw [lp_succ]
    have h2 : IntKind.i64.wrap (((4 - (c + 1) : Nat) : Int) + 1) = ((4 - c : Nat) : Int) := by rw [wrap_id (by omega) (by omega)]; omega
    have h1 : ¬ (((4 - c : Nat) : Int) > 4) := by omega
    simp only [r45_2, h2, h1, decide_false, cond_false, g74 h, Option.bind_some, climb]
    by_cases ha : a = ⟨#[]⟩
    · simp [ha]
    · rcases hta with hta | hta
      · exact absurd hta ha
      obtain ⟨j, hj, e1, e2⟩ := ix_yes (i := 0) hta
      rw [Nat.zero_add] at e1
      rw [e1, get_cast hj]
      simp only [ha, decide_false, Bool.not_false, cond_true, Bool.false_or, Int.natCast_nonneg, decide_true, Option.bind_some, e2]
      refine ih (by omega) m _ (by omega) ?_
      rw [← e2]
      exact hall j hj
theorem allN_all {p : Nat → Bool} {len i : Nat} (h : allN p len i = true) {j : Nat} (h1 : i ≤ j) (h2 : j < len) : p j = true := by
  unfold allN at h
  exact List.all_eq_true.1 h j (by simp [List.mem_range']; exact ⟨j - i, by omega, by omega⟩)
theorem allN_mk {p : Nat → Bool} {len i : Nat} (h : ∀ j, i ≤ j → j < len → p j = true) : allN p len i = true := by
  unfold allN
  refine List.all_eq_true.2 fun j hj => ?_
  simp [List.mem_range'] at hj
  obtain ⟨k, h1, rfl⟩ := hj
  exact h _ (by omega) (by omega)
theorem allN_congr {p q : Nat → Bool} {len i : Nat} (h : ∀ j, i ≤ j → j < len → p j = q j) : allN p len i = allN q len i := by
  cases hq : allN q len i with
  | true => exact allN_mk fun j h1 h2 => by rw [h j h1 h2]; exact allN_all hq h1 h2
  | false =>
    cases hp : allN p len i with
    | false => rfl
    | true =>
      rw [← hq]
      exact (allN_mk fun j h1 h2 => by rw [← h j h1 h2]; exact allN_all hp h1 h2).symm
theorem ab_over {xs : List VGateTeam} (h : allN (aB xs) xs.length 0 = true) (j : Nat) (hj : j < xs.length) : (xs[j]).Over = ⟨#[]⟩ ∨ tmAt xs (xs[j]).Over = true := by
  have := allN_all h (Nat.zero_le j) hj
  have hg : xs.getD j dT = xs[j] := by simp [List.getD, hj]
  simp only [aB, hg, Bool.and_eq_true, Bool.or_eq_true, decide_eq_true_eq] at this
  exact this.2.2
theorem lp45_1 {xs : List VGateTeam} (h : xs.length ≤ 281474976710656) (hall : allN (aB xs) xs.length 0 = true) : LP45_1 fuel (xs, xs, (xs.length : Int), 0) = some (allN (fun j => climb xs 4 (xs.getD j dT).Over) xs.length 0) :=
  lp_idx (rnd := r45_1 fuel) (st := fun i => (xs, xs, (xs.length : Int), (i : Int))) (val := fun i => some (allN (fun j => climb xs 4 (xs.getD j dT).Over) xs.length i)) xs.length (fun rec => by simp [r45_1, allN_end]) (fun rec i hi hr => by
    rw [← wrap_nat (by omega)] at hr
    have h1 : (i : Int) < (xs.length : Int) := by omega
    have hg : xs.getD i dT = xs[i] := by simp [List.getD, hi]
    simp only [r45_1]
    rw [allN_step hi, get_cast hi, hg]
    simp only [h1, decide_true, cond_true, Int.natCast_nonneg, Option.bind_some]
    refine (lp45_2 h (ab_over hall) rec xs (xs.length : Int) (i : Int) 4 (by omega) fuel _ (by have := fuel_big; omega) (ab_over hall i hi)).trans ?_
    rw [hr]
    cases climb xs 4 (xs[i]).Over <;> rfl) fuel 0 (Nat.zero_le _) (by have := fuel_big; omega)
theorem g45 {xs : List VGateTeam} (h : xs.length ≤ 281474976710656) : G45 xs = some (decide (xs.length ≤ 12) && (allN (aB xs) xs.length 0 && allN (fun j => climb xs 4 (xs.getD j dT).Over) xs.length 0)) := by
  unfold G45 G45n
  by_cases hl : xs.length ≤ 12
  · have hl' : ¬ (xs.length : Int) > 12 := by omega
    simp only [hl, hl', decide_true, decide_false, cond_false, Bool.true_and]
    have key : ∀ b : Bool, b = allN (fun j => climb xs 4 (xs.getD j dT).Over) xs.length 0 → ∀ n i, i ≤ xs.length → xs.length - i < n → (allN (aB xs) i 0 = true) → lpN (r45_0 fuel) n (xs, xs, (xs.length : Int), (i : Int)) = some (allN (aB xs) xs.length i && b) := by
      intro b hb n
      induction n with
      | zero => intro i _ h'; omega
      | succ n ih =>
        intro i hi hn hpre
        rw [lp_succ]
        rcases Nat.lt_or_ge i xs.length with hi' | hi'
        · have hr : allN (aB xs) (i + 1) 0 = true → lpN (r45_0 fuel) n (xs, xs, (xs.length : Int), IntKind.i64.wrap ((i : Int) + 1)) = some (allN (aB xs) xs.length (i + 1) && b) := fun hq => by
            rw [wrap_nat (by omega)]
            exact ih (i + 1) (by omega) (by omega) hq
          have hq' : aB xs i = true → allN (aB xs) (i + 1) 0 = true := fun ha => allN_mk fun j _ hj => by
            rcases Nat.lt_or_ge j i with h' | h'
            · exact allN_all hpre (Nat.zero_le _) h'
            · obtain rfl : j = i := by omega
              exact ha
          have hr' := fun ha => hr (hq' ha)
          clear hr hq'
          generalize hk : lpN (r45_0 fuel) n = rec at hr'
          have h1 : (i : Int) < (xs.length : Int) := by omega
          have hg : xs.getD i dT = xs[i] := by simp [List.getD, hi']
          have hv : aB xs i = (nmB (xs[i]).Name && ((decide (i = 0) || slt (xs.getD (i - 1) dT).Name (xs[i]).Name) && (decide ((xs[i]).Over = ⟨#[]⟩) || tmAt xs (xs[i]).Over))) := by rw [← hg]; rfl
          have hx : tmAt xs (xs[i]).Over = false → ixAt xs (xs[i]).Over 0 < 0 := fun e => by rw [ix_no e]; decide
          have hy : tmAt xs (xs[i]).Over = true → ¬ ixAt xs (xs[i]).Over 0 < 0 := fun e => by
            obtain ⟨j, _, e1, _⟩ := ix_yes (i := 0) e
            rw [e1]; omega
          simp only [r45_0]
          rw [allN_step hi', get_cast hi']
          rw [hv] at hr' ⊢
          simp only [h1, decide_true, cond_true, Int.natCast_nonneg, g73, Option.bind_some, g74 h]
          cases c1 : nmB (xs[i]).Name
          · simp
          · rcases Nat.eq_zero_or_pos i with rfl | hp
            · by_cases c3 : (xs[0]).Over = ⟨#[]⟩
              · have := hr' (by simp [c1, c3]); simpa [c3] using this
              · cases c4 : tmAt xs (xs[0]).Over
                · simp [c3, c4, hx c4]
                · have := hr' (by simp [c1, c4]); simpa [c3, c4, hy c4] using this
            · have hl : i - 1 < xs.length := by omega
              have hg' : xs.getD (i - 1) dT = xs[i - 1] := by simp [List.getD, hl]
              have h0 : (i : Int) > 0 := by omega
              have h0' : ¬ i = 0 := by omega
              rw [hg'] at hr' ⊢
              rw [wrap_pred hp (by omega), get_cast hl]
              cases c2 : slt (xs[i - 1]).Name (xs[i]).Name
              · simp [hp, h0, h0', c2]
              · by_cases c3 : (xs[i]).Over = ⟨#[]⟩
                · have := hr' (by simp [c1, c2, c3]); simpa [c3, h0, h0', c2] using this
                · cases c4 : tmAt xs (xs[i]).Over
                  · simp [c3, c4, hx c4, h0, h0', c2]
                  · have := hr' (by simp [c1, c2, c4]); simpa [c3, c4, hy c4, h0, h0', c2] using this
        · obtain rfl : i = xs.length := by omega
          have h1 : ¬ ((xs.length : Int) < (xs.length : Int)) := by omega
          simp only [r45_0, h1, decide_false, cond_false]
          rw [lp45_1 h hpre, allN_end, hb]
          rfl
    exact key _ rfl fuel 0 (Nat.zero_le _) (by have := fuel_big; omega) (by simp [allN])
  · have hl' : (xs.length : Int) > 12 := by omega
    simp [hl, hl']
theorem asc {xs : List VGateTeam} (h : allN (aB xs) xs.length 0 = true) : ∀ (d i : Nat) (hj : i + d + 1 < xs.length) (hi : i < xs.length), slt (xs[i]).Name (xs[i + d + 1]).Name = true := by
  have one : ∀ (i : Nat) (hj : i + 1 < xs.length) (hi : i < xs.length), slt (xs[i]).Name (xs[i + 1]).Name = true := fun i hj hi => by
    have := allN_all h (Nat.zero_le (i + 1)) hj
    have hg : xs.getD (i + 1) dT = xs[i + 1] := by simp [List.getD, hj]
    have hg' : xs.getD i dT = xs[i] := by simp [List.getD, hi]
    simp only [aB, Nat.add_sub_cancel, hg, hg', Bool.and_eq_true, Bool.or_eq_true, decide_eq_true_eq] at this
    exact this.2.1.resolve_left (by omega)
  intro d
  induction d with
  | zero => intro i hj hi; exact one i hj hi
  | succ d ih => intro i hj hi; exact slt_trans (ih i (by omega) hi) (one (i + d + 1) hj (by omega))
theorem ov_at : ∀ {xs : List VGateTeam} {j : Nat} (hj : j < xs.length), (∀ i (hi : i < xs.length), i < j → (xs[i]).Name ≠ (xs[j]).Name) → ovAt xs (xs[j]).Name = (xs[j]).Over
  | [], _, h, _ => by simp at h
  | x :: t, 0, _, _ => by simp [ovAt]
  | x :: t, j + 1, hj, h => by
    have h0 := h 0 (by simp) (by omega)
    simp only [List.getElem_cons_zero, List.getElem_cons_succ] at h0 ⊢
    simp only [ovAt, h0, if_false]
    exact ov_at (by simpa using hj) fun i hi hij => by
      have := h (i + 1) (by simpa using hi) (by omega)
      simpa using this
def tmsB (xs : List VGateTeam) : Bool := decide (xs.length ≤ 12) && (allN (aB xs) xs.length 0 && allN (fun j => climb xs 4 (xs.getD j dT).Over) xs.length 0)
theorem g37' {xs : List VGateTeam} (h : xs.length ≤ 281474976710656) : G37 xs = some (tmsB xs) := by
  rw [g37 h]
  unfold tmsB
  congr 2
  cases ha : allN (aB xs) xs.length 0 with
  | false =>
    rw [Bool.false_and]
    cases hb : allN (fun j => aB xs j && climb xs 5 (xs.getD j dT).Name) xs.length 0 with
    | false => rfl
    | true =>
      rw [← ha]
      exact (allN_mk fun j h1 h2 => by have := allN_all hb h1 h2; simp only [Bool.and_eq_true] at this; exact this.1).symm
  | true =>
    rw [Bool.true_and]
    refine allN_congr fun j _ hj => ?_
    have hA := allN_all ha (Nat.zero_le j) hj
    have hg : xs.getD j dT = xs[j] := by simp [List.getD, hj]
    have ho := ov_at hj fun i hi hij he => by
      obtain ⟨d, rfl⟩ : ∃ d, j = i + d + 1 := ⟨j - i - 1, by omega⟩
      have := asc ha d i hj hi
      rw [he, slt_irrefl] at this
      cases this
    rw [hA, Bool.true_and, hg]
    simp only [aB, hg, Bool.and_eq_true] at hA
    have hne : ¬ (xs[j]).Name = ⟨#[]⟩ := fun he => by
      have := hA.1
      rw [he] at this
      exact absurd this (by decide)
    simp only [climb, hne, decide_false, Bool.false_or, ho]
theorem g45' {xs : List VGateTeam} (h : xs.length ≤ 281474976710656) : G45 xs = some (tmsB xs) := g45 h
end Go.Proofs.Ytgpopgfidphheaa.Ab
