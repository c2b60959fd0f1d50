/- From a law's arguments, as the statements read them, to abstract values. -/
import Derived.Test.YtkiognopoigbhaaAb27
import Derived.ChangeArms
import Derived.DataReads
import Derived.ChangeOld
set_option linter.unusedVariables false
set_option linter.unusedSimpArgs false
set_option linter.unusedSectionVars false
namespace Go.Proofs.Ytkiognopoigbhaa.Ab
open Go Go.RowKit

section
variable {Ty : Type} [DecidableEq Ty] {C : Ty → Type}
variable {P : Program} {w : World} {H : Type} {en : TypeId × Value → H} {base : Nat} {spare : Nat → Bool} {held : Bool}

/-- Numbers of their kind; texts and rows no longer than what a machine holds. -/
inductive Sm (K : Cd C) : Lf C → Prop
  | int (k n) (h : (Lit.int k n).wf = true) : Sm K (.int k n)
  | bool (b) : Sm K (.bool b)
  | str (s) (h : s.size ≤ maxLen) : Sm K (.str s)
  | row (t xs) (h : xs.length ≤ maxLen) (h2 : ∀ (j : Nat) (hj : j < xs.length) (i : Nat) (l : Lf C), (K.enc t xs[j])[i]? = some l → Sm K l) : Sm K (.row t xs)

def zls : TK Ty → List (ZL Ty)
  | .one z => [z]
  | .agg _ zs => zs
def kindB : ZL Ty → Lf C → Bool
  | .int k, .int k' _ => decide (k = k')
  | .bool, .bool _ => true
  | .str, .str _ => true
  | .sli t, .row t' _ => decide (t = t')
  | _, _ => false
def kindsB : List (ZL Ty) → List (Lf C) → Bool
  | [], [] => true
  | z :: zs, l :: ls => kindB z l && kindsB zs ls
  | _, _ => false
def notPtr (ok : Ty → Bool) : ZL Ty → Bool
  | .ptr => false
  | .fnc => false
  | .nk _ => false
  | .sli t => ok t
  | _ => true

structure Tab (P : Program) (K : Cd C) (tk : Nat → Option (TK Ty)) (ok : Ty → Bool) : Prop where
  fact : ∀ T k, tk T = some k → TFact P K T k
  el : ∀ t, EFact P K t
  sub : ∀ T fs zs, tk T = some (.agg fs zs) → ∀ fields, P.underlying T = some (.struct fields) → ∀ (j off n : Nat) (ag : Bool) (f : Field), fs[j]? = some (off, n, ag) → fields[j]? = some f → ∃ kf, tk f.type = some kf ∧ zls kf = (zs.drop off).take n
  cov : ∀ T fs zs, tk T = some (.agg fs zs) → ∀ i, i < zs.length → ∃ (j off n : Nat) (ag : Bool), fs[j]? = some (off, n, ag) ∧ off ≤ i ∧ i < off + n
  elk : ∀ t, ok t = true → ∃ kt, tk (K.tid t) = some kt ∧ (zls kt).all (notPtr ok) = true ∧ ∀ ls, kindsB (zls kt) ls = true → ∃ x, K.dec t ls = some x

theorem list_of {α : Type} {Q : Nat → α → Prop} : ∀ n, (∀ i, i < n → ∃ x, Q i x) → ∃ xs : List α, xs.length = n ∧ ∀ (i : Nat) (x : α), xs[i]? = some x → Q i x
  | 0, _ => ⟨[], rfl, fun i x h => by simp at h⟩
  | n + 1, h => by
    obtain ⟨xs, h1, h2⟩ := list_of n fun i hi => h i (by omega)
    obtain ⟨x, hx⟩ := h n (by omega)
    refine ⟨xs ++ [x], by simp [h1], fun i y hy => ?_⟩
    rcases Nat.lt_or_ge i n with hlt | hge
    · rw [List.getElem?_append_left (by omega)] at hy; exact h2 i y hy
    · rw [List.getElem?_append_right (by omega), h1] at hy
      have : i - n = 0 := by
        rcases Nat.eq_zero_or_pos (i - n) with h0 | h0
        · exact h0
        · rw [List.getElem?_eq_none (by simp; omega)] at hy; cases hy
      rw [this] at hy
      simp at hy
      have e : i = n := by omega
      rw [e, ← hy]; exact hx
theorem kinds_of : ∀ {zs : List (ZL Ty)} {ls : List (Lf C)}, ls.length = zs.length → (∀ (i : Nat) (z : ZL Ty) (l : Lf C), zs[i]? = some z → ls[i]? = some l → kindB z l = true) → kindsB zs ls = true
  | [], [], _, _ => rfl
  | [], _ :: _, h, _ => by simp at h
  | _ :: _, [], h, _ => by simp at h
  | z :: zs, l :: ls, h, hk => by
    simp only [kindsB, Bool.and_eq_true]
    exact ⟨hk 0 z l rfl rfl, kinds_of (by simpa using h) fun i z l h1 h2 => hk (i + 1) z l (by simpa using h1) (by simpa using h2)⟩
theorem kinds_get : ∀ {zs : List (ZL Ty)} {ls : List (Lf C)}, kindsB zs ls = true → ls.length = zs.length ∧ ∀ (i : Nat) (z : ZL Ty) (l : Lf C), zs[i]? = some z → ls[i]? = some l → kindB z l = true
  | [], [], _ => ⟨rfl, fun i z l h => by simp at h⟩
  | [], _ :: _, h => by cases h
  | _ :: _, [], h => by cases h
  | z :: zs, l :: ls, h => by
    simp only [kindsB, Bool.and_eq_true] at h
    obtain ⟨h1, h2⟩ := kinds_get h.2
    refine ⟨by simp [h1], fun i z' l' hz hl => ?_⟩
    cases i with
    | zero => simp at hz hl; subst hz hl; exact h.1
    | succ i => exact h2 i z' l' (by simpa using hz) (by simpa using hl)

theorem open_ok {K : Cd C} {tk : Nat → Option (TK Ty)} {ok : Ty → Bool} (ht : Tab P K tk ok) : ∀ (n : Nat) (T : TypeId) (cs : List Value) (x : DataW H × List MemPlace) (k : TK Ty), DataW.trod en P w base spare held n T cs = some x → tk T = some k → (zls k).all (notPtr ok) = true →
    ∃ ls : List (Lf C), kindsB (zls k) ls = true ∧ ls.length = cs.length ∧ ∀ (i : Nat) (l : Lf C), ls[i]? = some l → Rep K w (fun b => b < w.heap.size) l (cs.getD i undef) ∧ Sm K l := by
  intro n
  induction n with
  | zero => intro T cs x k h; simp [DataW.trod] at h
  | succ n ih =>
    intro T cs x k h hT hp
    have one : ∀ (z : ZL Ty) (l : Lf C) (v : Value), kindB z l = true → Rep K w (fun b => b < w.heap.size) l v → Sm K l → ∃ ls : List (Lf C), kindsB (zls (.one z)) ls = true ∧ ls.length = [v].length ∧ ∀ (i : Nat) (l : Lf C), ls[i]? = some l → Rep K w (fun b => b < w.heap.size) l ([v].getD i undef) ∧ Sm K l :=
      fun z l v h1 h2 h3 => ⟨[l], by simp [zls, kindsB, h1], rfl, fun i l' hi => by
        cases i with
        | zero => simp at hi; subst hi; exact ⟨h2, h3⟩
        | succ i => simp at hi⟩
    have hF := ht.fact T k hT
    cases k with
    | one z =>
      obtain ⟨_, d, hd, hz⟩ := hF
      cases z with
      | int ki =>
        have e : d = .int ki := hz
        subst e
        obtain ⟨m, rfl, -, hw⟩ := DataW.trod_int hd h
        exact one _ (.int ki m) _ (by simp [kindB]) (.int ..) (.int _ _ hw)
      | bool =>
        have e : d = .bool := hz
        subst e
        obtain ⟨b, rfl, -⟩ := DataW.trod_bool hd h
        exact one _ (.bool b) _ rfl (.bool ..) (.bool _)
      | str =>
        have e : d = .string := hz
        subst e
        obtain ⟨s, rfl, -, hw⟩ := DataW.trod_string hd h
        exact one _ (.str s) _ rfl (.str ..) (.str _ hw)
      | ptr => simp [zls, notPtr] at hp
      | fnc => simp [zls, notPtr] at hp
      | nk n => simp [zls, notPtr] at hp
      | sli t =>
        have hok : ok t = true := by simpa [zls, notPtr] using hp
        have e : d = .slice (K.tid t) := hz
        subst e
        rcases DataW.trod_slice hd h with ⟨rfl, -⟩ | ⟨a, len, cap, elems, rest, n', hn, rfl, -, hb, hl, hm, hlen, hel, -, -⟩
        · exact one _ (.row t []) _ (by simp [kindB]) (.row t [] none 0 default (fun _ => undef) (Nat.le_refl _) (fun h => absurd rfl h) (fun h => absurd rfl h) (fun j hj => absurd hj (by simp))) (.row t [] (Nat.zero_le _) (fun j hj => absurd hj (by simp)))
        · cases hn
          obtain ⟨i0, z0, hi0, hsz, hby, hpos, hz0, hzs, hzl⟩ := ht.el t
          have hcells : P.cellsOf (K.tid t) = K.sz t := by simp [Program.cellsOf, hi0, hsz]
          obtain ⟨kt, hkt, hnp, hdec⟩ := ht.elk t hok
          have each : ∀ j, j < len → ∃ x : C t, ∀ (i : Nat) (l : Lf C), (K.enc t x)[i]? = some l → ∃ u, w.cell? ((a.add (j * K.sz t)).add i) = some u ∧ Rep K w (fun b => b < w.heap.size) l u ∧ Sm K l := by
            intro j hj
            have h1 := hel j hj
            rw [hcells, List.getElem?_eq_getElem (by omega)] at h1
            rw [Option.bind_eq_some_iff] at h1
            obtain ⟨cs', hc, hd'⟩ := h1
            obtain ⟨_, hcl, hcg⟩ := World.cells?_some hc
            obtain ⟨ls, k1, k2, k3⟩ := ih _ _ _ _ hd' hkt hnp
            obtain ⟨x, hx⟩ := hdec ls k1
            have henc := K.enc_dec t ls x hx
            refine ⟨x, fun i l hi => ?_⟩
            rw [henc] at hi
            have hil := idx_lt hi
            obtain ⟨r1, r2⟩ := k3 i l hi
            refine ⟨cs'.getD i undef, ?_, r1, r2⟩
            rw [hcg i (by omega), List.getD_eq_getElem?_getD, List.getElem?_eq_getElem (by omega)]
            rfl
          obtain ⟨xs, x1, x2⟩ := list_of len each
          have hrow : ∀ (j : Nat) (hj : j < xs.length) (i : Nat) (l : Lf C), (K.enc t xs[j])[i]? = some l → ∃ u, w.cell? (a.add (j * K.sz t + i)) = some u ∧ Rep K w (fun b => b < w.heap.size) l u ∧ Sm K l := fun j hj i l hi => by
            have := x2 j xs[j] (by simp [hj]) i l hi
            rwa [add_add] at this
          have hsome : ∀ m, m < xs.length * K.sz t → ∃ u, w.cell? (a.add m) = some u := fun m hm => by
            have hj : m / K.sz t < xs.length := Nat.div_lt_of_lt_mul (by rw [Nat.mul_comm]; exact hm)
            have hi : m % K.sz t < (K.enc t xs[m / K.sz t]).length := by rw [K.enc_len]; exact Nat.mod_lt _ (K.pos t)
            obtain ⟨u, hu, _⟩ := hrow _ hj (m % K.sz t) (K.enc t xs[m / K.sz t])[m % K.sz t] (by simp [hi])
            rw [Nat.mul_comm, Nat.div_add_mod] at hu
            exact ⟨u, hu⟩
          refine one _ (.row t xs) _ (by simp [kindB]) ?_ (.row t xs (by omega) fun j hj i l hi => (hrow j hj i l hi).elim fun u h => h.2.2)
          have e : (Value.slice (some a) len cap) = .slice (some a) xs.length cap := by rw [x1]
          rw [e]
          refine .row t xs (some a) cap a (fun m => (w.cell? (a.add m)).getD undef) (by omega) (fun hne => ⟨rfl, ?_⟩) (fun hne m hm => ?_) (fun j hj i l hi => ?_)
          · have hp0 : 0 < xs.length * K.sz t := Nat.mul_pos (List.length_pos_iff.2 hne) (K.pos t)
            have hj0 : 0 < len := by have := List.length_pos_iff.2 hne; omega
            have h1 := hel 0 hj0
            rw [hcells, List.getElem?_eq_getElem (by omega), Option.bind_eq_some_iff] at h1
            obtain ⟨cs', hc, _⟩ := h1
            have := World.cells?_block hc (K.pos t)
            rwa [add_block] at this
          · obtain ⟨u, hu⟩ := hsome m hm
            simp [hu]
          · obtain ⟨u, hu, hr, _⟩ := hrow j hj i l hi
            simp only [hu, Option.getD_some]
            exact hr
    | agg fs zs =>
      obtain ⟨⟨i0, hi0, hsz0, _⟩, fields, hu, hl, hF⟩ := hF
      obtain ⟨xs, n', hn, -, hcl, hxl, hxs⟩ := DataW.trod_struct hu h
      cases hn
      have hcl' : cs.length = zs.length := by rw [hcl]; simp [Program.cellsOf, hi0, hsz0]
      have each : ∀ i, i < zs.length → ∃ l : Lf C, (∀ z, zs[i]? = some z → kindB z l = true) ∧ Rep K w (fun b => b < w.heap.size) l (cs.getD i undef) ∧ Sm K l := by
        intro i hi
        obtain ⟨j, off, m, ag, hj, ho1, ho2⟩ := ht.cov T fs zs hT i hi
        obtain ⟨f, fi, q1, q2, q3, q4, q5, _⟩ := hF j off m ag hj
        obtain ⟨kf, hkf, hzk⟩ := ht.sub T fs zs hT fields hu j off m ag f hj q1
        have hc1 : P.cellsOf f.type = m := by simp [Program.cellsOf, q3, q4]
        have h1 := hxs j f q1
        rw [hc1, q2, List.getElem?_eq_getElem (by
          have := idx_lt (xs := fields.toList) (n := j) (x := f) (by simpa using q1)
          rw [hxl]; simpa using this)] at h1
        obtain ⟨ls, k1, k2, k3⟩ := ih _ _ _ _ h1 hkf (by
          rw [hzk]
          refine List.all_eq_true.2 fun z hz => List.all_eq_true.1 hp z ?_
          exact List.mem_of_mem_drop (List.mem_of_mem_take hz))
        obtain ⟨g1, g2⟩ := kinds_get k1
        rw [hzk] at g1 g2
        have hlt : i - off < ls.length := by rw [g1]; simp; omega
        obtain ⟨r1, r2⟩ := k3 (i - off) ls[i - off] (by simp [hlt])
        have e1 : ((cs.drop off).take m).getD (i - off) undef = cs.getD i undef := by
          simp only [List.getD]
          rw [List.getElem?_take, if_pos (by omega), List.getElem?_drop, show off + (i - off) = i by omega]
        rw [e1] at r1
        refine ⟨ls[i - off], fun z hz => g2 (i - off) z _ ?_ (by simp [hlt]), r1, r2⟩
        rw [List.getElem?_take, if_pos (by omega), List.getElem?_drop, show off + (i - off) = i by omega]
        exact hz
      obtain ⟨ls, h1, h2⟩ := list_of zs.length each
      exact ⟨ls, kinds_of h1 fun i z l hz hl => (h2 i l hl).1 z hz, by omega, fun i l hi => (h2 i l hi).2⟩

/-! ### What a kind tells -/
theorem kinds_cons {z : ZL Ty} {zs : List (ZL Ty)} {ls : List (Lf C)} (h : kindsB (z :: zs) ls = true) : ∃ l ls', ls = l :: ls' ∧ kindB z l = true ∧ kindsB zs ls' = true := by
  cases ls with
  | nil => cases h
  | cons l ls => simp only [kindsB, Bool.and_eq_true] at h; exact ⟨l, ls, rfl, h.1, h.2⟩
theorem kinds_nil {ls : List (Lf C)} (h : kindsB ([] : List (ZL Ty)) ls = true) : ls = [] := by
  cases ls with
  | nil => rfl
  | cons l ls => cases h
theorem kind_int {k : IntKind} {l : Lf C} (h : kindB (.int k : ZL Ty) l = true) : ∃ n, l = .int k n := by
  cases l <;> simp [kindB] at h
  subst h; exact ⟨_, rfl⟩
theorem kind_bool {l : Lf C} (h : kindB (.bool : ZL Ty) l = true) : ∃ n, l = .bool n := by
  cases l <;> simp [kindB] at h
  exact ⟨_, rfl⟩
theorem kind_str {l : Lf C} (h : kindB (.str : ZL Ty) l = true) : ∃ n, l = .str n := by
  cases l <;> simp [kindB] at h
  exact ⟨_, rfl⟩
theorem kind_sli {t : Ty} {l : Lf C} (h : kindB (.sli t) l = true) : ∃ xs, l = .row t xs := by
  cases l <;> simp [kindB] at h
  subst h; exact ⟨_, rfl⟩

/-! ### The table, reckoned -/
def zlB : ZL Ty → ZL Ty → Bool
  | .int k, .int k' => decide (k = k')
  | .bool, .bool => true
  | .str, .str => true
  | .ptr, .ptr => true
  | .fnc, .fnc => true
  | .nk .ifc, .nk .ifc => true
  | .nk .map, .nk .map => true
  | .sli t, .sli t' => decide (t = t')
  | _, _ => false
def zlsB : List (ZL Ty) → List (ZL Ty) → Bool
  | [], [] => true
  | z :: zs, y :: ys => zlB z y && zlsB zs ys
  | _, _ => false
theorem zlsB_ok : ∀ {a b : List (ZL Ty)}, zlsB a b = true → a = b
  | [], [], _ => rfl
  | [], _ :: _, h => by cases h
  | _ :: _, [], h => by cases h
  | z :: zs, y :: ys, h => by
    simp only [zlsB, Bool.and_eq_true] at h
    have e : z = y := by
      have h1 := h.1
      cases z <;> cases y <;> first | rfl | (simp [zlB] at h1; done) | (simp [zlB] at h1; subst h1; rfl) | (rename_i n m; cases n <;> cases m <;> first | rfl | (simp [zlB] at h1))
    rw [e, zlsB_ok h.2]
def subB (tk : Nat → Option (TK Ty)) (zs : List (ZL Ty)) : List Field → List (Nat × Nat × Bool) → Bool
  | [], [] => true
  | f :: l, x :: r => (match tk f.type with
    | some kf => zlsB (zls kf) ((zs.drop x.1).take x.2.1)
    | none => false) && subB tk zs l r
  | _, _ => false
theorem subB_ok {tk : Nat → Option (TK Ty)} {zs : List (ZL Ty)} : ∀ {l : List Field} {r : List (Nat × Nat × Bool)}, subB tk zs l r = true → ∀ (j off n : Nat) (ag : Bool) (f : Field), r[j]? = some (off, n, ag) → l[j]? = some f → ∃ kf, tk f.type = some kf ∧ zls kf = (zs.drop off).take n
  | [], [], _, j, off, n, ag, f, h, _ => by simp at h
  | [], _ :: _, h, _, _, _, _, _, _, _ => by cases h
  | _ :: _, [], h, _, _, _, _, _, _, _ => by cases h
  | f0 :: l, x :: r, h, j, off, n, ag, f, hj, hf => by
    simp only [subB, Bool.and_eq_true] at h
    cases j with
    | zero =>
      simp at hj hf
      subst hj hf
      have h1 := h.1
      split at h1
      · rename_i kf hk; exact ⟨kf, hk, zlsB_ok h1⟩
      · cases h1
    | succ j => exact subB_ok h.2 j off n ag f (by simpa using hj) (by simpa using hf)
def rowB (P : Program) (tk : Nat → Option (TK Ty)) (x : Nat × TK Ty) : Bool := match x.2 with
  | .one _ => true
  | .agg fs zs => (match P.underlying x.1 with
    | some (.struct fields) => subB tk zs fields.toList fs
    | _ => false) && (below zs.length).all fun i => fs.any fun y => Nat.ble y.1 i && Nat.ble (i + 1) (y.1 + y.2.1)
theorem below_mem : ∀ {n j : Nat}, j < n → j ∈ Ab.below n
  | n + 1, j, h => by
    simp only [Ab.below, List.mem_cons]
    rcases Nat.lt_succ_iff_lt_or_eq.1 h with h | h
    · exact .inr (below_mem h)
    · exact .inl h
theorem lk_in {α : Type} : ∀ {l : List (Nat × α)} {n : Nat} {v : α}, lk l n = some v → (n, v) ∈ l
  | [], n, v, h => by simp [lk] at h
  | (m, x) :: l, n, v, h => by
    rw [lk_cons] at h
    split at h
    · rename_i e; cases h; subst e; simp
    · exact List.mem_cons_of_mem _ (lk_in h)
theorem tab_of {K : Cd C} {l : List (Nat × TK Ty)} (hf : ∀ T k, lk l T = some k → TFact P K T k) (he : ∀ t, EFact P K t) (hr : l.all (rowB P (lk l)) = true)
    {ok : Ty → Bool} (hk : ∀ t, ok t = true → ∃ kt, lk l (K.tid t) = some kt ∧ (zls kt).all (notPtr ok) = true ∧ ∀ ls, kindsB (zls kt) ls = true → ∃ x, K.dec t ls = some x) : Tab P K (lk l) ok := by
  refine ⟨hf, he, fun T fs zs hT fields hu j off n ag f hj hf => ?_, fun T fs zs hT i hi => ?_, hk⟩
  · have := List.all_eq_true.1 hr (T, .agg fs zs) (lk_in hT)
    simp only [rowB, hu, Bool.and_eq_true] at this
    exact subB_ok this.1 j off n ag f hj (by simpa using hf)
  · have := List.all_eq_true.1 hr (T, .agg fs zs) (lk_in hT)
    simp only [rowB, Bool.and_eq_true] at this
    have := List.all_eq_true.1 this.2 i (below_mem hi)
    obtain ⟨y, hy, hb⟩ := List.any_eq_true.1 this
    simp only [Bool.and_eq_true] at hb
    obtain ⟨off, n, ag⟩ := y
    obtain ⟨j, hj, e⟩ := List.getElem_of_mem hy
    exact ⟨j, off, n, ag, by rw [List.getElem?_eq_getElem hj, e], Nat.le_of_ble_eq_true hb.1, Nat.le_of_ble_eq_true hb.2⟩
end
end Go.Proofs.Ytkiognopoigbhaa.Ab
