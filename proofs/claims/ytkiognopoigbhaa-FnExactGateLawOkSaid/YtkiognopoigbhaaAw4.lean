/- The abstract machine: functions that write through what they are handed, part 4: their contracts. -/
import Derived.Test.YtkiognopoigbhaaAb27
set_option linter.unusedVariables false
set_option linter.unusedSimpArgs false
set_option linter.unusedSectionVars false
namespace Go.Proofs.Ytkiognopoigbhaa.Ab
open Go Go.RowKit

section
variable {Ty : Type} [DecidableEq Ty] {C : Ty → Type}
variable {P : Program} {X : Cx C} {w0 w : World} {nt : Nat} {S : St C} {β : Nat → Value} {fp : Nat → Nat → Prop} {a : Act} {R : Type} {r : R}

section
variable {K : Cd C} {kp : Nat → Prop} {kh : Nat → Option Obj} {hd : Nat → Value}
theorem cons_gh (h : Cons P X) : Cons P (X.gh kp kh hd) := ⟨fun f c hc => con_gh (h.1 f c hc), fun f c hc => conw_gh (h.2.1 f c hc), fun f I hI => inl_gh (h.2.2 f I hI)⟩
end

def GB : Nat := 90000
def A0 : Nat := 50000000
def sv1 : Bool × List (Lf C) → SV C
  | (false, l :: _) => .one l
  | (_, ls) => .agg ls
def hdrs : Nat → List (Lf C) → List (Nat × SV C)
  | _, [] => []
  | m, .row _ _ :: r => (GB + 1 + m, .hdr (A0 + m) m) :: hdrs (m + 1) r
  | m, _ :: r => hdrs (m + 1) r
def startW (rs : List (Bool × List (Lf C))) : St C := { env := argEnv 0 ((internAll A0 rs).1.map sv1) ++ (GB, .frame) :: hdrs 0 (flatten rs), objs := (internAll A0 rs).2, base := 0 }
def isRow : Lf C → Bool
  | .row _ _ => true
  | _ => false
def roots (S : St C) : Nat → List Bool → Option (List (Lf C))
  | _, [] => some []
  | m, true :: r => match lk S.env (GB + 1 + m) with
    | some (.hdr id j) => cond (Nat.beq j m) (match roots S (m + 1) r with
      | some l => some (.ref id [] :: l)
      | none => none) none
    | _ => none
  | m, false :: r => roots S (m + 1) r
def kTopW (X : Cx C) (fn : Func) (mask : List Bool) (dec : List (Lf C) → List (Bool × List (Lf C)) → Option R) (e : Ex) (S : St C) : Option R := match e with
  | .exit _ => none
  | _ => match lk S.env GB with
    | some .frame => match resOf X S fn.results.toList, roots S 0 mask with
      | some rs', some rt => match absorb S (rt ++ flatten rs') with
        | some (ls', _, false) => dec (ls'.take rt.length) (reshape rs' (ls'.drop rt.length))
        | _ => none
      | _, _ => none
    | _ => none
noncomputable def runFnW (X : Cx C) (F : Cf) (fn : Func) (rs : List (Bool × List (Lf C))) (dec : List (Lf C) → List (Bool × List (Lf C)) → Option R) : Option R := run X F (bodyOf fn) 0 (startW rs) (kTopW X fn ((flatten rs).map isRow) dec)

theorem hdrs_lk : ∀ {ls : List (Lf C)} {m t : Nat} {v : SV C}, lk (hdrs m ls) t = some v → ∃ i t' xs, ls[i]? = some (.row t' xs) ∧ v = .hdr (A0 + (m + i)) (m + i)
  | [], m, t, v, h => by simp [hdrs, lk] at h
  | l :: ls, m, t, v, h => by
    have up : lk (hdrs (m + 1) ls) t = some v → ∃ i t' xs, (l :: ls)[i]? = some (.row t' xs) ∧ v = .hdr (A0 + (m + i)) (m + i) := fun h => by
      obtain ⟨i, t', xs, h1, h2⟩ := hdrs_lk h
      exact ⟨i + 1, t', xs, by simpa using h1, by rw [h2]; congr 1 <;> omega⟩
    cases l with
    | row t' xs =>
      simp only [hdrs, lk_cons] at h
      split at h
      · cases h; exact ⟨0, t', xs, rfl, rfl⟩
      · exact up h
    | _ => exact up h

theorem startW_sim {K : Cd C} {rs : List (Bool × List (Lf C))} {uls : List Value} {G : Nat → Nat → Prop} (hb0 : Below w0.heap.size w0 w) (hok : okRes rs = true) (hul : uls.length = (flatten rs).length) (hn : rs.length ≤ nt)
    (hfr : ∀ m k, G m k → w0.heap.size ≤ k ∧ k < w.heap.size) (hdj : ∀ m m' k, G m k → G m' k → m = m') (hleaf : ∀ (m : Nat) (l : Lf C), (flatten rs)[m]? = some l → l.plain = true ∧ Own K w w0.heap.size (G m) l (uls.getD m undef))
    (hkp : ∀ k, K.kp (2 * k) → k < w.heap.size ∧ ∀ m, ¬ G m k) (hkh : ∀ k, K.kh k = w.heap[k]?) (hhd : ∀ m, K.hd m = uls.getD m undef) :
    Sim K w0 nt (startW rs) (fun id => uls.getD (id - A0) undef) (fun id => G (id - A0)) { tmps := (packAll rs uls).toArray ++ Array.replicate (nt - (packAll rs uls).toArray.size) undef, defers := [] } w := by
  have hsh := shape_intern rs A0
  have hobj : ∀ id ob, lk (internAll A0 rs).2 id = some ob → ∃ m t xs, id = A0 + m ∧ (flatten rs)[m]? = some (.row t xs) ∧ ob = .row t xs false := fun id ob h => all_lk _ _ _ _ h
  have hlfs : LfsOk K w (startW rs).objs (fun id => uls.getD (id - A0) undef) (fun id => G (id - A0)) (stbOf (startW rs).objs (fun id => G (id - A0)) w) (flatten (internAll A0 rs).1) uls := by
    refine ⟨by rw [hul, flatten_len hsh], fun m l hm => ?_⟩
    rcases all_get rs A0 m l hm with ⟨t, xs, q1, q2, q3⟩ | ⟨q1, q2⟩
    · subst q2
      refine ⟨(hleaf m _ q1).2.one, ?_⟩
      simp
    · exact own_lf (hleaf m l q1).2 q2
  obtain ⟨hpl, hpk⟩ := packAll_ok (by rw [okRes_congr hsh]; exact hok) hlfs
  rw [packAll_congr hsh] at hpl hpk
  have hlen : (internAll A0 rs).1.length = rs.length := by
    have : ∀ (rs : List (Bool × List (Lf C))) (n : Nat), (internAll n rs).1.length = rs.length := by
      intro rs
      induction rs with
      | nil => intro n; rfl
      | cons x r ih => intro n; obtain ⟨b, ls⟩ := x; simp [internAll, ih]
    exact this rs A0
  refine ⟨hb0, rfl, by simp; omega, fun id ob k h hk => hfr _ k hk, fun id id' ob ob' k h h' hk hk' => ?_, fun id ob h => ?_, fun t v h => ?_⟩
  · obtain ⟨m, _, _, e, _⟩ := hobj id ob h
    obtain ⟨m', _, _, e', _⟩ := hobj id' ob' h'
    have := hdj _ _ k hk hk'
    omega
  · obtain ⟨m, t, xs, e, h1, h2⟩ := hobj id ob h
    subst h2
    have e' : id - A0 = m := by omega
    show Own K w w0.heap.size (G (id - A0)) (.row t xs) (uls.getD (id - A0) undef)
    rw [e']
    exact (hleaf m _ h1).2
  · have h' : lk (argEnv 0 ((internAll A0 rs).1.map sv1) ++ (GB, .frame) :: hdrs 0 (flatten rs)) t = some v := h
    rw [lk_append] at h'
    cases e1 : lk (argEnv 0 ((internAll A0 rs).1.map sv1)) t with
    | some v' =>
      rw [e1] at h'
      cases h'
      obtain ⟨_, e2⟩ := argEnv_lk _ 0 t _ e1
      simp only [Nat.sub_zero, List.getElem?_map] at e2
      cases e3 : (internAll A0 rs).1[t]? with
      | none => rw [e3] at e2; cases e2
      | some x =>
        rw [e3] at e2
        simp only [Option.map_some, Option.some.injEq] at e2
        subst e2
        have hlt : t < (packAll rs uls).length := by rw [hpl]; exact idx_lt e3
        have e4 : ((packAll rs uls).toArray ++ Array.replicate (nt - (packAll rs uls).toArray.size) undef).getD t undef = (packAll rs uls).getD t undef := by
          simp [Array.getD_eq_getD_getElem?, Array.getElem?_append, hlt, List.getD]
        show SVOk K w _ _ _ _ (sv1 x) (((packAll rs uls).toArray ++ Array.replicate (nt - (packAll rs uls).toArray.size) undef).getD t undef)
        rw [e4]
        have := hpk t x e3
        obtain ⟨b, ls⟩ := x
        cases b with
        | false => obtain ⟨l, e, h1⟩ := this; subst e; exact h1
        | true => exact this
    | none =>
      rw [e1] at h'
      simp only [lk_cons] at h'
      split at h'
      · cases h'
        intro k hk
        obtain ⟨h1, h2⟩ := hkp k hk
        exact ⟨⟨h1, fun id ob _ => h2 _⟩, (hkh k).symm⟩
      · obtain ⟨i, t', xs, h1, h2⟩ := hdrs_lk h'
        subst h2
        have e : A0 + (0 + i) - A0 = 0 + i := Nat.add_sub_cancel_left ..
        have e2 : uls.getD (A0 + (0 + i) - A0) undef = K.hd (0 + i) := by rw [e, hhd]
        exact e2

theorem roots_ok {K : Cd C} (hs : Sim K w0 nt S β fp a w) : ∀ {ls : List (Lf C)} {us : List Value} {m : Nat} {rt : List (Lf C)}, roots S m (ls.map isRow) = some rt → us.length = ls.length → (∀ (i : Nat) (l : Lf C), ls[i]? = some l → us.getD i undef = K.hd (m + i) ∧ (us.getD i undef).oneCell' = true) →
    LfsOk K w S.objs β fp (stbOf S.objs fp w) rt (rowsOf ls us)
  | [], us, m, rt, h, hl, _ => by
    simp only [List.map_nil, roots, Option.some.injEq] at h
    subst h
    cases us <;> exact ⟨rfl, fun i l h => by simp at h⟩
  | l :: ls, us, m, rt, h, hl, hu => by
    obtain ⟨u, us, rfl⟩ : ∃ u us', us = u :: us' := by
      cases us with
      | nil => simp at hl
      | cons u us => exact ⟨u, us, rfl⟩
    have hl' : us.length = ls.length := by simpa using hl
    have hu' : ∀ (i : Nat) (l : Lf C), ls[i]? = some l → us.getD i undef = K.hd (m + 1 + i) ∧ (us.getD i undef).oneCell' = true := fun i l hi => by
      have := hu (i + 1) l (by simpa using hi)
      rw [show m + 1 + i = m + (i + 1) by omega]
      simpa using this
    cases l with
    | row t xs =>
      simp only [List.map_cons, isRow, roots] at h
      split at h
      · rename_i id j hj
        obtain ⟨hb, h⟩ := cond_some h
        have hb := Nat.eq_of_beq_eq_true hb
        subst hb
        split at h
        · rename_i rt' hr
          cases h
          have ih := roots_ok hs hr hl' hu'
          obtain ⟨h1, h2⟩ := hu 0 _ rfl
          have hβ : β id = K.hd j := hs.env _ _ hj
          refine ⟨by simp [rowsOf, ih.1], fun i l hi => ?_⟩
          cases i with
          | zero => simp at hi; subst hi; exact ⟨h2, by rw [hβ]; simpa [rowsOf] using h1⟩
          | succ i => simpa [rowsOf] using ih.2 i l (by simpa using hi)
        · cases h
      · cases h
    | _ => exact roots_ok (ls := ls) hs h hl' hu'

theorem conw_of (hX : XOk P X) (hC : Cons P X) (hm : P.follows .mixedOrders = true) {f : Nat} {fn : Func} {c : Code} (hf : P.funcs[f]? = some fn) (hb : fn.body = some c) (hB : codeB fn.ntmps c = true) (hname : fn.name ≠ "runtime.NumGoroutine") (co : ConW C)
    (dec : List (Lf C) → List (Bool × List (Lf C)) → Option co.R0) (hd : ∀ os rs r0, dec os rs = some r0 → os = co.out r0 ∧ rs = co.ret r0)
    (h : ∀ rs r0, co.g rs = some r0 → rs.length ≤ fn.ntmps ∧ ∃ F : Cf, ∀ kp kh hd, runFnW (X.gh kp kh hd) F fn rs dec = some r0) : ConWOk P X.K f co := by
  refine ⟨⟨fn, hf, by rw [hb]; rfl, hname⟩, fun w0 w rs uls r0 G hb0 hok hul hfrG hdjG hleaf hg => ?_⟩
  obtain ⟨hn, F, hr⟩ := h rs r0 hg
  let kp : Nat → Prop := fun k => k / 2 < w.heap.size ∧ ∀ m, ¬ G m (k / 2)
  have hkp2 : ∀ k, kp (2 * k) ↔ (k < w.heap.size ∧ ∀ m, ¬ G m k) := fun k => by
    have e : 2 * k / 2 = k := by omega
    simp only [kp, e]
  let kh : Nat → Option Obj := fun k => w.heap[k]?
  let hh : Nat → Value := fun m => uls.getD m undef
  have hr := hr kp kh hh
  have hsim := startW_sim (K := X.K.gh kp kh hh) (nt := fn.ntmps) hb0 hok hul hn hfrG hdjG (fun m l hm => ⟨(hleaf m l hm).1, own_gh (hleaf m l hm).2⟩) (fun k hk => (hkp2 k).1 hk) (fun k => rfl) (fun m => rfl)
  unfold runFnW at hr
  have hbody : bodyOf fn = c := by unfold bodyOf; rw [hb]
  rw [hbody] at hr
  refine calls_of_wp hf hb (Go.wp_mono (run_sound (xok_gh hX) (cons_gh hC) hm F c 0 _ _ w _ hB ⟨_, _, hsim⟩ hr) ?_)
  have fin : ∀ (a : Act) (w' : World) (S' : St C) (e : Ex), SimE (X.gh kp kh hh).K w0 fn.ntmps S' a w' → (e = .norm ∨ e = .ret) → kTopW (X.gh kp kh hh) fn ((flatten rs).map isRow) dec e S' = some r0 →
      a.defers = [] ∧ ∃ v, (results fn a.tmps).run P w' = .ok v w' ∧ ∃ v_1, Ending.returned v = .returned v_1 ∧ Below w0.heap.size w0 w' ∧ (∀ k, k < w.heap.size → (∀ m, ¬ G m k) → k < w'.heap.size ∧ w'.heap[k]? = w.heap[k]?) ∧
      ∃ (rls : List Value) (G' : Nat → Nat → Prop), v_1 = pack (co.ret r0) rls ∧ rls.length = (flatten (co.ret r0)).length ∧ okRes (co.ret r0) = true ∧ (co.out r0).length = (rowsOf (flatten rs) uls).length ∧
        (∀ m k, G' m k → ((∃ m0, G m0 k) ∨ w.heap.size ≤ k) ∧ w0.heap.size ≤ k ∧ k < w'.heap.size) ∧ (∀ m m' k, G' m k → G' m' k → m = m') ∧
        ∀ (m : Nat) (l : Lf C), (co.out r0 ++ flatten (co.ret r0))[m]? = some l → Own X.K w' w0.heap.size (G' m) l ((rowsOf (flatten rs) uls ++ rls).getD m undef) := by
    intro a w' S' e ⟨β', fp', hs'⟩ he h
    have h : (match lk S'.env GB with
      | some .frame => match resOf (X.gh kp kh hh) S' fn.results.toList, roots S' 0 ((flatten rs).map isRow) with
        | some rs', some rt => match absorb S' (rt ++ flatten rs') with
          | some (ls', _, false) => dec (ls'.take rt.length) (reshape rs' (ls'.drop rt.length))
          | _ => none
        | _, _ => none
      | _ => none) = some r0 := by
      rcases he with he | he <;> subst he <;> exact h
    split at h
    case h_2 => cases h
    rename_i hfrm
    split at h
    case h_2 => cases h
    rename_i rs' rt hres hroot
    split at h
    case h_2 => cases h
    rename_i ls' S1 habs
    obtain ⟨us', h1, h2, h3⟩ := resOf_ok (xok_gh hX) hs' _ rs' hres
    have hrt := roots_ok (us := uls) hs' hroot hul (fun i l hi => ⟨by rw [Nat.zero_add]; rfl, (hleaf i l hi).2.one⟩)
    have hall : LfsOk (X.gh kp kh hh).K w' S'.objs β' fp' (stbOf S'.objs fp' w') (rt ++ flatten rs') (rowsOf (flatten rs) uls ++ us') := by
      refine ⟨by simp [hrt.1, h2.1], fun i l hi => ?_⟩
      rcases cat_get hi with ⟨hj, hx⟩ | ⟨hj, hx⟩
      · have := hrt.2 i l hx
        have e : (rowsOf (flatten rs) uls ++ us').getD i undef = (rowsOf (flatten rs) uls).getD i undef := by simp [List.getD, List.getElem?_append_left (by rw [hrt.1]; exact hj : i < (rowsOf (flatten rs) uls).length)]
        rw [e]; exact this
      · have := h2.2 _ l hx
        have e : (rowsOf (flatten rs) uls ++ us').getD i undef = us'.getD (i - rt.length) undef := by
          simp only [List.getD]
          rw [List.getElem?_append_right (by rw [hrt.1]; exact hj), hrt.1]
        rw [e]; exact this
    obtain ⟨_, _, _, g3, G', g4, g5, g6⟩ := absorb_ok hs' (rt ++ flatten rs') _ S'.objs ls' S1 false (fun _ _ h => h) habs hall
    obtain ⟨ho, hret⟩ := hd _ _ _ h
    have hlen : ls'.length = rt.length + (flatten rs').length := by rw [g3]; simp
    obtain ⟨e1, e2⟩ := reshape_flat rs' (ls'.drop rt.length) (by simp [hlen])
    have hsplit : ls' = co.out r0 ++ flatten (co.ret r0) := by rw [← ho, ← hret, e1, List.take_append_drop]
    have hfr : ∀ k, kp (2 * k) → stbOf S'.objs fp' w' k ∧ w'.heap[k]? = w.heap[k]? := fun k hk => hs'.env GB _ hfrm k hk
    refine ⟨hs'.defers, pack rs' us', ?_, _, rfl, hs'.below, fun k h1 h2 => ⟨(hfr k ((hkp2 k).2 ⟨h1, h2⟩)).1.1, (hfr k ((hkp2 k).2 ⟨h1, h2⟩)).2⟩, us', G', ?_, ?_, ?_, ?_, fun m k hk => ?_, fun m m' k h1 h2 => g5 m m' k h1 h2, fun m l hm => ?_⟩
    · rw [results_eq]
      simp only [Sem.run_bind, h3, Result.andThen_ok]
      rfl
    · rw [← hret]; exact (pack_congr e2).symm
    · rw [← hret, e1]; simp [hlen, h2.1]
    · rw [← hret, okRes_congr e2]; exact h1
    · rw [← ho, hrt.1]; simp [hlen]
    · obtain ⟨id, ob, q1, q2, q3⟩ := g4 m k hk
      refine ⟨?_, hs'.fresh id ob k q1 q3⟩
      by_cases hc : ∃ m0, G m0 k
      · exact .inl hc
      · right
        rcases Nat.lt_or_ge k w.heap.size with hlt | hge
        · exact absurd q3 ((hfr k ((hkp2 k).2 ⟨hlt, fun m hm => hc ⟨m, hm⟩⟩)).1.2 id ob q1)
        · exact hge
    · rw [← hsplit] at hm
      exact own_hg ((g6 m l hm).1 rfl)
  rintro (_ | _ | _ | _ | _ | _) a' w' hp
  · obtain ⟨S', hs', hk⟩ := hp; exact fin a' w' S' .norm hs' (.inl rfl) hk
  · obtain ⟨S', hs', hk⟩ := hp; cases hk
  · exact hp.elim
  · obtain ⟨S', hs', hk⟩ := hp; exact fin a' w' S' .ret hs' (.inr rfl) hk
  · exact hp.elim
  · exact hp.elim
end
end Go.Proofs.Ytkiognopoigbhaa.Ab
