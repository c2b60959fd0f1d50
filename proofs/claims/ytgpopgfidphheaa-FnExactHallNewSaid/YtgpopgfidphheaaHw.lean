/- impl.hwGrants and the slices.Clone that it calls, by hand: what comes in goes out, as a row of its own. -/
import Derived.Test.YtgpopgfidphheaaGa
import Derived.Test.YtgpopgfidphheaaAh1
set_option linter.unusedVariables false
set_option linter.unusedSimpArgs false
namespace Go.Proofs.Ytgpopgfidphheaa.Ab
open Go Go.RowKit

theorem fin_ret {P : Program} {fn : Func} {Rr : Ending → World → Prop} {a : Act} {w : World} {sz t : Nat} {l : List (Nat × Value)} {v : Value} (hs : Sl a sz l) (hr : fn.results.toList = [.tmp t]) (hv : lk l t = some v) (hR : Rr (.returned v) w) : bodyPost P fn Rr .ret a w := by
  refine ⟨hs.2.1, v, ?_, hR⟩
  rw [results_eq, hr]
  have e := hs.2.2 t v hv
  simp [resG]
  simpa [Array.getD_eq_getD_getElem?] using e

def gOk (a0 : List (C .e74)) : Bool := decide (a0.length ≤ 2000000) && a0.all fun x => decide (x.Rule_Verbs.length ≤ 2000000)
noncomputable def G49 (a0 : List (C .e74)) : Option (List (C .e74)) := cond (gOk a0) (some a0) none
noncomputable def con49 : Con C := { R0 := List (C .e74), ret := fun r => [(false, [.row .e74 r])], g := fun vs => match vs with
  | [.one (.row .e74 y0)] => G49 y0
  | _ => none }

noncomputable abbrev PP := Go.Proofs.Try.prog
theorem T28 : TFact PP KK 28 (.one (.sli .e74)) := tks_ok 28 _ rfl
theorem T69 : TFact PP KK 66 (.one (.sli .e3)) := tks_ok 66 _ rfl

theorem clone76 {w : World} {xs : List (C .e74)} {A : Option Addr} {c : Nat} {U : Nat → Value} (hn : xs.length ≤ 2000000) (hA : 0 < xs.length → ∃ p, A = some p ∧ ∀ j, j < xs.length * 7 → w.cell? (p.add j) = some (U j)) (h1 : ∀ j, j < xs.length * 7 → (U j).oneCell' = true) :
    Calls PP 76 #[.slice A xs.length c] w fun e w' => ∃ v', e = .returned v' ∧ Below w.heap.size w w' ∧ ∃ cells, w'.ownsRow w.heap.size 74 7 v' xs.length cells ∧ ∀ m, m < xs.length * 7 → cells.getD m undef = U m := by
  refine calls_of_wp (fn := Go.Proofs.Try.f76) (c := bodyOf Go.Proofs.Try.f76) (by kernel_rfl) (by kernel_rfl) ?_
  have hs := start_sl (us := [.slice A xs.length c]) (nt := Go.Proofs.Try.f76.ntmps) (by show 1 ≤ 8; decide)
  revert hs
  generalize ({ tmps := _, defers := [] } : Act) = a
  intro hs
  have hs : Sl a 8 [(0, .slice A xs.length c)] := hs
  refine wp_seq (x := codeAt (bodyOf Go.Proofs.Try.f76) [0]) (y := codeAt (bodyOf Go.Proofs.Try.f76) [1]) (wp_region_list ?_)
  refine st_aconst hs (by decide) fun a hs => ?_
  refine wp_seq (x := codeAt (bodyOf Go.Proofs.Try.f76) [1, 0]) (y := codeAt (bodyOf Go.Proofs.Try.f76) [1, 1]) ?_
  refine wp_seq (x := codeAt (bodyOf Go.Proofs.Try.f76) [1, 0, 0]) (y := codeAt (bodyOf Go.Proofs.Try.f76) [1, 0, 1]) (wp_region_list ?_)
  refine st_move hs rfl (by decide) fun a hs => ?_
  refine st_nil hs rfl (by decide) T28 fun a hs => ?_
  refine wp_cond_split (c := .tmp 4) (t := A.isNone) (x := codeAt (bodyOf Go.Proofs.Try.f76) [1, 0, 1, 0]) (y := codeAt (bodyOf Go.Proofs.Try.f76) [1, 0, 1, 1]) (hs.get rfl) (fun hA' => ?_) (fun hA' => ?_)
  · refine wp_seq (x := codeAt (bodyOf Go.Proofs.Try.f76) [1, 0, 1, 0, 0]) (y := codeAt (bodyOf Go.Proofs.Try.f76) [1, 0, 1, 0, 1]) (wp_region_list ?_)
    refine st_aconst hs (by decide) fun a hs => ?_
    refine wp_ret ?_
    have h0 : xs.length = 0 := by
      rcases Nat.eq_zero_or_pos xs.length with h | h
      · exact h
      · obtain ⟨p, e, _⟩ := hA h; rw [e] at hA'; cases hA'
    try simp only [Exit.then]
    refine fin_ret (P := PP) (fn := Go.Proofs.Try.f76) hs (t := 2) rfl rfl ?_
    refine ⟨_, rfl, Below.refl _ _, [], ?_, fun m hm => ?_⟩
    · rw [h0]; exact World.ownsRow_nil ..
    · rw [h0] at hm; omega
  · refine Go.wp_skip ?_
    show (codeAt (bodyOf Go.Proofs.Try.f76) [1, 1]).wp PP _ a w
    refine wp_seq (x := codeAt (bodyOf Go.Proofs.Try.f76) [1, 1, 0]) (y := codeAt (bodyOf Go.Proofs.Try.f76) [1, 1, 1]) (wp_region_list ?_)
    refine st_empty hs (by decide) T28 (els_ok .e74) fun a hs => ?_
    refine st_move hs rfl (by decide) fun a hs => ?_
    obtain ⟨i, z, hi, hsz, hby, hpos, hz, hzs, hzl⟩ := els_ok .e74
    let w1 := w.alloc (.cells #[] (KK.tid .e74))
    have hown : w1.ownsRow w.heap.size 74 7 (.slice (some ⟨w.heap.size, 0, none⟩) 0 0) 0 [] := by
      refine ⟨rfl, .inr ⟨w.heap.size, 0, #[], rfl, Nat.le_refl _, heap_alloc_new w _, Nat.le_refl _, Nat.zero_le _, rfl, rfl⟩⟩
    have hb1 : Below w.heap.size w w1 := (Below.refl _ _).alloc (Nat.le_refl _) _
    have hsize : w1.heap.size = w.heap.size + 1 := by simp [w1]
    have hA1 : 0 < xs.length → ∃ p, A = some p ∧ ∀ j, j < xs.length * 7 → w1.cell? (p.add j) = some (U j) := fun h => by
      obtain ⟨p, e, hc⟩ := hA h
      refine ⟨p, e, fun j hj => ?_⟩
      have hcj := hc j hj
      have hlt : (p.add j).block < w.heap.size := by
        rcases Nat.lt_or_ge (p.add j).block w.heap.size with h | h
        · exact h
        · have : w.cell? (p.add j) = none := by simp [World.cell?, Array.getElem?_eq_none h]
          rw [this] at hcj; cases hcj
      rw [hb1.cell hlt]; exact hcj
    obtain ⟨v', w', q1, q2, q3, q4⟩ := append_run (P := PP) (w := w1) (ty := 28) T28.sli hi hz hsz hby hzs (by decide) hown (m := xs.length) (c := c) hA1 h1 (by simp only [maxLen]; omega) (by show (0 + xs.length) * 112 ≤ _; omega) (by omega)
    refine st_append hs rfl rfl (by decide) q1 fun a hs => ?_
    refine st_assign hs rfl (by decide) fun a hs => ?_
    refine wp_ret ?_
    try simp only [Exit.then]
    refine fin_ret (P := PP) (fn := Go.Proofs.Try.f76) hs (t := 2) rfl rfl ?_
    refine ⟨_, rfl, hb1.trans (below_grown (w0 := w) q3 (fun g e => by simp [Value.ownBlock] at e; omega) (by omega)), (List.range (xs.length * 7)).map U, ?_, fun m hm => ?_⟩
    · have h := q2
      rw [List.nil_append, Nat.zero_add] at h
      exact h
    · simp [List.getD, hm]

/-- Row i's own rows, and what is still the other's. -/
structure Inv (w wr : World) (xs : List (C .e74)) (v : Value) (i : Nat) : Prop where
  bel : Below w.heap.size w wr
  ex : ∃ (cells : List Value) (G : Nat → Nat → Prop), wr.ownsRow w.heap.size 74 7 v xs.length cells ∧ (∀ j k, G j k → j < i ∧ w.heap.size ≤ k ∧ k < wr.heap.size ∧ v.ownBlock ≠ some k) ∧ (∀ j j' k, G j k → G j' k → j = j') ∧
    ∀ (j : Nat) (x : C .e74), xs[j]? = some x → ∀ (m : Nat) (l : Lf C), (KK.enc .e74 x)[m]? = some l →
      (m ≠ 3 → ∀ F, Own KK wr w.heap.size F l (cells.getD (j * 7 + m) undef)) ∧ (m = 3 → (j < i → Own KK wr w.heap.size (G j) l (cells.getD (j * 7 + m) undef)) ∧ (i ≤ j → Rep KK w (fun k => k < w.heap.size) l (cells.getD (j * 7 + m) undef)))

theorem enc77_row {x : C .e74} {m : Nat} {l : Lf C} (h : (KK.enc .e74 x)[m]? = some l) : (m ≠ 3 → ∀ t xs, l ≠ .row t xs) ∧ (m = 3 → l = .row .e3 x.Rule_Verbs) ∧ m < 7 := by
  have hm : m < 7 := enc_lt h
  have h : (enc .e74 x)[m]? = some l := h
  rcases m with _ | _ | _ | _ | _ | _ | _ | m <;> first | (simp [enc] at h; subst h; simp) | omega

theorem rep_own {K : Cd C} {w w' : World} {F G : Nat → Prop} {b : Nat} {l : Lf C} {v : Value} (h : Rep K w F l v) (hn : ∀ t xs, l ≠ .row t xs) : Own K w' b G l v := by
  cases h with
  | int => exact .int ..
  | bool => exact .bool ..
  | str => exact .str ..
  | row t xs => exact absurd rfl (hn t xs)

theorem g77 {xs : List (C .e3)} (h : xs.length ≤ 2000000) : G77 xs = some xs := by
  unfold G77 G77n nilq
  cases xs with
  | nil => simp [alt]
  | cons x xs =>
    have h2 : (0 + (x :: xs).length) * 8 ≤ 140737488355328 := by omega
    have h3 : decide ((([] : List (C .e3)).length + (x :: xs).length) * 8 ≤ 140737488355328) = true := decide_eq_true h2
    rw [h3]
    rfl

theorem wrap_id {n : Int} (h0 : -9223372036854775808 ≤ n) (h1 : n < 9223372036854775808) : IntKind.i64.wrap n = n := by
  simp [IntKind.wrap, IntKind.bits, IntKind.signed]
  omega

theorem inv_step {w wr wr2 : World} {xs : List (C .e74)} {g c : Nat} {i : Nat} {x : C .e74} {cells : List Value} {G : Nat → Nat → Prop} {u2 : Value} {G2 : Nat → Prop} {cur' : Array Value}
    (hx : xs[i]? = some x) (hbel : Below w.heap.size w wr) (hb2 : Below wr.heap.size wr wr2)
    (ho : wr.ownsRow w.heap.size 74 7 (.slice (some ⟨g, 0, none⟩) xs.length c) xs.length cells)
    (hG1 : ∀ j k, G j k → j < i ∧ w.heap.size ≤ k ∧ k < wr.heap.size ∧ (Value.slice (some ⟨g, 0, none⟩) xs.length c).ownBlock ≠ some k) (hG2 : ∀ j j' k, G j k → G j' k → j = j')
    (hel : ∀ (j : Nat) (x : C .e74), xs[j]? = some x → ∀ (m : Nat) (l : Lf C), (KK.enc .e74 x)[m]? = some l →
      (m ≠ 3 → ∀ F, Own KK wr w.heap.size F l (cells.getD (j * 7 + m) undef)) ∧ (m = 3 → (j < i → Own KK wr w.heap.size (G j) l (cells.getD (j * 7 + m) undef)) ∧ (i ≤ j → Rep KK w (fun k => k < w.heap.size) l (cells.getD (j * 7 + m) undef))))
    (hu : Own KK wr2 wr.heap.size G2 (.row .e3 x.Rule_Verbs) u2) (hu1 : ∀ k, G2 k → wr.heap.size ≤ k ∧ k < wr2.heap.size)
    (ho2 : (wr2.setRow g cur').ownsRow w.heap.size 74 7 (.slice (some ⟨g, 0, none⟩) xs.length c) xs.length (cells.take (i * 7 + 3) ++ [u2] ++ cells.drop (i * 7 + 3 + [u2].length))) :
    Inv w (wr2.setRow g cur') xs (.slice (some ⟨g, 0, none⟩) xs.length c) (i + 1) := by
  have hgb : w.heap.size ≤ g ∧ g < wr.heap.size := owns_lt ho (g := g) rfl
  have hsz := hb2.size
  have hset : ∀ k, k ≠ g → (wr2.setRow g cur').heap[k]? = wr2.heap[k]? := fun k hk => setRow_other wr2 g k cur' hk
  have hil := idx_lt hx
  have hcl : i * 7 + 3 + [u2].length ≤ cells.length := by rw [ho.1]; simp; omega
  have hget : ∀ j m, m < 7 → (cells.take (i * 7 + 3) ++ [u2] ++ cells.drop (i * 7 + 3 + [u2].length)).getD (j * 7 + m) undef = if j = i ∧ m = 3 then u2 else cells.getD (j * 7 + m) undef := fun j m hm => by
    rw [List.getD_eq_getElem?_getD, splice_get hcl]
    simp only [List.length_singleton]
    by_cases h : j = i ∧ m = 3
    · obtain ⟨rfl, rfl⟩ := h
      simp
    · rw [if_neg h, List.getD_eq_getElem?_getD]
      by_cases h1 : j * 7 + m < i * 7 + 3
      · rw [if_pos h1]
      · rw [if_neg h1, if_neg (by omega)]
  refine ⟨(hbel.trans (hb2.mono (by omega))).trans (below_setRow (w0 := w) g cur' hgb.1), _, fun j k => if j = i then G2 k else G j k, ho2, fun j k hk => ?_, fun j j' k hk hk' => ?_, fun j y hj m l hl => ?_⟩
  · have hk : if j = i then G2 k else G j k := hk
    split at hk
    · rename_i e
      have := hu1 k hk
      refine ⟨by omega, by omega, by simpa using this.2, fun e' => ?_⟩
      have e' : some g = some k := e'
      cases e'
      omega
    · have := hG1 j k hk
      exact ⟨by omega, this.2.1, by simp; omega, this.2.2.2⟩
  · have hk : if j = i then G2 k else G j k := hk
    have hk' : if j' = i then G2 k else G j' k := hk'
    split at hk <;> split at hk'
    · omega
    · have := hu1 k hk; have := hG1 _ k hk'; omega
    · have := hu1 k hk'; have := hG1 _ k hk; omega
    · exact hG2 j j' k hk hk'
  · obtain ⟨e1, e2, hm⟩ := enc77_row hl
    obtain ⟨a1, a2⟩ := hel j y hj m l hl
    rw [hget j m hm]
    refine ⟨fun h3 F => ?_, fun h3 => ?_⟩
    · rw [if_neg (fun h => h3 h.2)]
      exact rep_own (a1 h3 F).rep (e1 h3)
    · subst h3
      obtain ⟨b1, b2⟩ := a2 rfl
      refine ⟨fun hlt => ?_, fun hge => ?_⟩
      · by_cases e : j = i
        · subst e
          rw [if_pos ⟨rfl, rfl⟩]
          rw [hx] at hj
          cases hj
          rw [e2 rfl]
          exact ((own_base hu hbel.size).frame fun k hk => hset k (by have := hu1 k hk; omega)).mono fun k hk => by simpa using hk
        · rw [if_neg (fun h => e h.1)]
          refine ((b1 (by omega)).frame fun k hk => ?_).mono fun k hk => by show if j = i then G2 k else G j k; rw [if_neg e]; exact hk
          have := hG1 j k hk
          have hne : k ≠ g := fun e' => this.2.2.2 (by rw [e']; rfl)
          rw [hset k hne, hb2.block k this.2.2.1]
      · rw [if_neg (fun h => by omega)]
        exact b2 (by omega)

theorem loop49 {w : World} {xs : List (C .e74)} {v : Value} {Q : Exit → Act → World → Prop} (hn : xs.length ≤ 2000000) (hv : ∀ x, x ∈ xs → x.Rule_Verbs.length ≤ 2000000)
    (hexit : ∀ a wr, Sl a 26 [(3, v)] → Inv w wr xs v xs.length → Q (.exit 0) a wr) : ∀ (d i : Nat) (a : Act) (wr : World), i + d = xs.length → Sl a 26 [(3, v), (8, .int .i64 xs.length), (9, .int .i64 i)] → Inv w wr xs v i →
      Code.rounds PP (codeAt (bodyOf Go.Proofs.Try.f49) [1, 1, 0, 1, 0, 0]) Q (d + 1) a wr := by
  intro d
  induction d with
  | zero =>
    intro i a wr hid hs hinv
    have e : i = xs.length := by omega
    subst e
    show Code.wp PP _ (Exit.then _ Q) a wr
    refine wp_seq (x := codeAt (bodyOf Go.Proofs.Try.f49) [1, 1, 0, 1, 0, 0, 0]) (y := codeAt (bodyOf Go.Proofs.Try.f49) [1, 1, 0, 1, 0, 0, 1]) (wp_region_list ?_)
    refine st_lss hs rfl rfl (by decide) fun a hs => ?_
    refine wp_seq (x := codeAt (bodyOf Go.Proofs.Try.f49) [1, 1, 0, 1, 0, 0, 1, 0]) (y := codeAt (bodyOf Go.Proofs.Try.f49) [1, 1, 0, 1, 0, 0, 1, 1]) ?_
    refine wp_cond_split (c := .tmp 10) (t := decide ((xs.length : Int) < xs.length)) (x := .skip) (y := .exit 0) (hs.get rfl) (fun h => ?_) (fun h => ?_)
    · have := of_decide_eq_true h; omega
    · refine wp_exit ?_
      exact hexit a wr (hs.less fun t v ht => by
        rw [lk_cons] at ht
        split at ht
        · rename_i e; cases ht; subst e; rfl
        · simp [lk] at ht) hinv
  | succ d ih =>
    intro i a wr hid hs hinv
    have hil : i < xs.length := by omega
    show Code.wp PP _ (Exit.then _ Q) a wr
    refine wp_seq (x := codeAt (bodyOf Go.Proofs.Try.f49) [1, 1, 0, 1, 0, 0, 0]) (y := codeAt (bodyOf Go.Proofs.Try.f49) [1, 1, 0, 1, 0, 0, 1]) (wp_region_list ?_)
    refine st_lss hs rfl rfl (by decide) fun a hs => ?_
    refine wp_seq (x := codeAt (bodyOf Go.Proofs.Try.f49) [1, 1, 0, 1, 0, 0, 1, 0]) (y := codeAt (bodyOf Go.Proofs.Try.f49) [1, 1, 0, 1, 0, 0, 1, 1]) ?_
    refine wp_cond_split (c := .tmp 10) (t := decide ((i : Int) < xs.length)) (x := .skip) (y := .exit 0) (hs.get rfl) (fun h => ?_) (fun h => ?_)
    case refine_2 => have := of_decide_eq_false h; omega
    refine Go.wp_skip ?_
    show (codeAt (bodyOf Go.Proofs.Try.f49) [1, 1, 0, 1, 0, 0, 1, 1]).wp PP _ a wr
    refine wp_seq (x := codeAt (bodyOf Go.Proofs.Try.f49) [1, 1, 0, 1, 0, 0, 1, 1, 0]) (y := codeAt (bodyOf Go.Proofs.Try.f49) [1, 1, 0, 1, 0, 0, 1, 1, 1]) ?_
    refine wp_block (id := 1) (c := codeAt (bodyOf Go.Proofs.Try.f49) [1, 1, 0, 1, 0, 0, 1, 1, 0, 0]) ?_
    refine wp_seq (x := codeAt (bodyOf Go.Proofs.Try.f49) [1, 1, 0, 1, 0, 0, 1, 1, 0, 0, 0]) (y := codeAt (bodyOf Go.Proofs.Try.f49) [1, 1, 0, 1, 0, 0, 1, 1, 0, 0, 1]) (wp_region_list ?_)
    refine st_move hs rfl (by decide) fun a hs => ?_
    refine st_assign hs rfl (by decide) fun a hs => ?_
    show (codeAt (bodyOf Go.Proofs.Try.f49) [1, 1, 0, 1, 0, 0, 1, 1, 0, 0, 1]).wp PP _ a wr
    refine wp_region_list ?_
    obtain ⟨hbel, cells, G, ho, hG1, hG2, hel⟩ := hinv
    obtain ⟨g, c, rfl, hbg, hnc, hcell⟩ := own_at ho (by omega)
    have hx : xs[i]? = some xs[i] := by simp [hil]
    have hl3 : (KK.enc .e74 xs[i])[3]? = some (.row .e3 xs[i].Rule_Verbs) := rfl
    have hrep := ((hel i xs[i] hx 3 _ hl3).2 rfl).2 (Nat.le_refl _)
    refine st_move hs rfl (by decide) fun a hs => ?_
    refine st_move hs rfl (by decide) fun a hs => ?_
    refine st_move hs rfl (by decide) fun a hs => ?_
    refine st_move hs rfl (by decide) fun a hs => ?_
    refine st_index hs rfl rfl (by decide) T28 (els_ok .e74) (by omega) (by omega) fun a hs => ?_
    refine st_field hs rfl (by decide) (tks_ok 74 _ rfl) rfl fun a hs => ?_
    refine st_field hs rfl (by decide) (tks_ok 72 _ rfl) rfl fun a hs => ?_
    have hadd : (((⟨g, 0, none⟩ : Addr).add ((i : Int).toNat * KK.sz .e74)).add 3).add 0 = ⟨g, i * 7 + 3, none⟩ := by
      rw [add_none, add_none, add_none]
      simp
      rfl
    have hm : i * 7 + 3 < xs.length * 7 := by omega
    have hc0 : wr.cell? ((((⟨g, 0, none⟩ : Addr).add ((i : Int).toNat * KK.sz .e74)).add 3).add 0) = some (cells.getD (i * 7 + 3) undef) := by
      rw [hadd]
      have := hcell _ hm
      rw [add_none] at this
      simpa using this
    refine st_load hs rfl (by decide) T69 hc0 fun a hs => ?_
    have hfn77 : PP.funcs[77]? = some Go.Proofs.Try.f77 := by kernel_rfl
    refine st_call hs rfl (by decide) hfn77 (by kernel_rfl) (nameB (by kernel_rfl)) ?_
    have hys : xs[i].Rule_Verbs.length ≤ 2000000 := hv _ (List.getElem_mem hil)
    have hc77 := c77.2 wr [.one (.row .e3 xs[i].Rule_Verbs)] [cells.getD (i * 7 + 3) undef] xs[i].Rule_Verbs rfl (fun j sv hj => by
      match j with
      | 0 =>
        cases hj
        exact ⟨rfl, (hrep.frame fun k hk => hbel.block k hk).mono fun k hk => Nat.lt_of_lt_of_le hk hbel.size⟩
      | j + 1 => simp at hj) (g77 hys)
    refine hc77.mono fun e wr2 ⟨u2, he, hb2, us, G2, q1, q2, q3, q4, q5, q6⟩ => ⟨u2, he, fun a hs => ?_⟩
    have hlen : us.length = 1 := q2
    obtain ⟨u3, rfl⟩ := List.length_eq_one_iff.1 hlen
    have e3 : u2 = u3 := q1
    subst e3
    have hu : Own KK wr2 wr.heap.size (G2 0) (.row .e3 xs[i].Rule_Verbs) u2 := q6 0 _ rfl
    refine st_index hs rfl rfl (by decide) T28 (els_ok .e74) (by omega) (by omega) fun a hs => ?_
    refine st_field hs rfl (by decide) (tks_ok 74 _ rfl) rfl fun a hs => ?_
    refine st_field hs rfl (by decide) (tks_ok 72 _ rfl) rfl fun a hs => ?_
    have hgb : w.heap.size ≤ g ∧ g < wr.heap.size := owns_lt ho (g := g) rfl
    have ho2 : wr2.ownsRow w.heap.size 74 7 (.slice (some ⟨g, 0, none⟩) xs.length c) xs.length cells := ownsRow_frame ho fun k hk => by
      have e : some g = some k := hk
      cases e
      exact hb2.block g hgb.2
    obtain ⟨cur', hrun, ho3⟩ := ownsRow_store (P := PP) ho2 (m := i * 7 + 3) (vs := [u2]) (by simp; omega) (fun v hv => by simp at hv; subst hv; exact hu.one)
    rw [← hadd] at hrun
    refine st_store hs rfl rfl T69 hu.one hrun fun a hs => ?_
    have hinv2 := inv_step hx hbel hb2 ho hG1 hG2 hel hu (fun k hk => q4 0 k hk) ho3
    -- the round's end
    show (codeAt (bodyOf Go.Proofs.Try.f49) [1, 1, 0, 1, 0, 0, 1, 1, 1]).wp PP _ a _
    refine wp_region_list ?_
    refine st_add1 hs rfl (by decide) fun a hs => ?_
    refine st_move hs rfl (by decide) fun a hs => ?_
    rw [wrap_id (by omega) (by omega)] at hs
    refine ih (i + 1) a _ (by omega) (hs.less fun t u ht => ?_) hinv2
    rw [lk_cons] at ht
    split at ht
    · rename_i e; cases ht; subst e; rfl
    · rw [lk_cons] at ht
      split at ht
      · rename_i e; cases ht; subst e; rfl
      · rw [lk_cons] at ht
        split at ht
        · rename_i e; cases ht; subst e; simp [lk_cons]
        · simp [lk] at ht

theorem c49 : ConOk PP KK 49 con49 := by
  refine ⟨⟨Go.Proofs.Try.f49, by kernel_rfl, by kernel_rfl, nameB (by kernel_rfl)⟩, fun w vs us r0 hl ha hg => ?_⟩
  simp only [con49] at hg
  split at hg
  case h_2 => cases hg
  rename_i xs
  unfold G49 at hg
  obtain ⟨hok, hg⟩ := cond_some hg
  have e0 := Option.some.inj hg
  subst e0
  simp only [gOk, Bool.and_eq_true, decide_eq_true_eq, List.all_eq_true] at hok
  obtain ⟨hn, hv⟩ := hok
  obtain ⟨u, rfl⟩ := List.length_eq_one_iff.1 (show us.length = 1 from hl)
  have harg : Rep KK w (fun k => k < w.heap.size) (.row .e74 xs) u := (ha 0 _ rfl).2
  cases harg with
  | row _ _ A c p U hc hA hcell hrep =>
  refine calls_of_wp (fn := Go.Proofs.Try.f49) (c := bodyOf Go.Proofs.Try.f49) (by kernel_rfl) (by kernel_rfl) ?_
  have hs := start_sl (us := [.slice A xs.length c]) (nt := Go.Proofs.Try.f49.ntmps) (by show 1 ≤ 26; decide)
  revert hs
  generalize ({ tmps := _, defers := [] } : Act) = a
  intro hs
  have hs : Sl a 26 [(0, .slice A xs.length c)] := hs
  refine wp_seq (x := codeAt (bodyOf Go.Proofs.Try.f49) [0]) (y := codeAt (bodyOf Go.Proofs.Try.f49) [1]) (wp_region_list ?_)
  refine st_aconst hs (by decide) fun a hs => ?_
  refine wp_seq (x := codeAt (bodyOf Go.Proofs.Try.f49) [1, 0]) (y := codeAt (bodyOf Go.Proofs.Try.f49) [1, 1]) (wp_region_list ?_)
  refine st_move hs rfl (by decide) fun a hs => ?_
  have hfn76 : PP.funcs[76]? = some Go.Proofs.Try.f76 := by kernel_rfl
  refine st_call hs rfl (by decide) hfn76 (by kernel_rfl) (nameB (by kernel_rfl)) ?_
  have hleaf : ∀ m, m < xs.length * 7 → ∃ l, Rep KK w (fun k => k < w.heap.size) l (U m) := fun m hm => by
    have hj : m / 7 < xs.length := by omega
    have hi : m % 7 < (KK.enc .e74 xs[m / 7]).length := by rw [KK.enc_len]; exact Nat.mod_lt _ (by decide)
    have := hrep (m / 7) hj (m % 7) (KK.enc .e74 xs[m / 7])[m % 7] (by simp [hi])
    have e : m / 7 * KK.sz .e74 + m % 7 = m := by show m / 7 * 7 + m % 7 = m; omega
    rw [e] at this
    exact ⟨_, this⟩
  have hcl := clone76 (w := w) (xs := xs) (A := A) (c := c) (U := U) hn (fun h => by
    have hne := List.length_pos_iff.1 h
    exact ⟨p, (hA hne).1, fun j hj => hcell hne j hj⟩) (fun j hj => (hleaf j hj).elim fun l h => h.one)
  refine hcl.mono fun e w1 ⟨v1, he, hb1, cells, ho, hU⟩ => ⟨v1, he, fun a hs => ?_⟩
  refine st_assign hs rfl (by decide) fun a hs => ?_
  obtain ⟨A1, c1, e1, hA1⟩ := owns_head ho
  show (codeAt (bodyOf Go.Proofs.Try.f49) [1, 1]).wp PP _ a w1
  refine wp_seq (x := codeAt (bodyOf Go.Proofs.Try.f49) [1, 1, 0]) (y := codeAt (bodyOf Go.Proofs.Try.f49) [1, 1, 1]) ?_
  refine wp_seq (x := codeAt (bodyOf Go.Proofs.Try.f49) [1, 1, 0, 0]) (y := codeAt (bodyOf Go.Proofs.Try.f49) [1, 1, 0, 1]) (wp_region_list ?_)
  refine st_move hs rfl (by decide) fun a hs => ?_
  refine st_len (A := A1) (n := xs.length) (c := c1) hs (by rw [← e1]; rfl) (by decide) T28 fun a hs => ?_
  refine st_const hs (by decide) fun a hs => ?_
  show (codeAt (bodyOf Go.Proofs.Try.f49) [1, 1, 0, 1]).wp PP _ a w1
  refine wp_block (id := 0) (c := codeAt (bodyOf Go.Proofs.Try.f49) [1, 1, 0, 1, 0]) ?_
  have hinv : Inv w w1 xs v1 0 := by
    refine ⟨hb1, cells, fun _ _ => False, ho, fun j k h => h.elim, fun j j' k h => h.elim, fun j x hj m l hl => ?_⟩
    obtain ⟨f1, f2, hm⟩ := enc77_row hl
    have hjl := idx_lt hj
    have hxe : xs[j] = x := by simpa [List.getElem?_eq_getElem hjl] using hj
    have hr := hrep j hjl m l (by rw [hxe]; exact hl)
    have hr : Rep KK w (fun k => k < w.heap.size) l (U (j * 7 + m)) := hr
    rw [hU (j * 7 + m) (by omega)]
    exact ⟨fun h3 F => rep_own hr (f1 h3), fun h3 => ⟨fun h => absurd h (Nat.not_lt_zero _), fun _ => hr⟩⟩
  refine wp_loop_rounds (xs.length + 1) (loop49 hn (fun x hx => hv x hx) (fun a wr hs hinv => ?_) xs.length 0 a w1 (by omega) (hs.less fun t u ht => ?_) hinv)
  · show (codeAt (bodyOf Go.Proofs.Try.f49) [1, 1, 1]).wp PP _ a wr
    refine wp_seq (x := codeAt (bodyOf Go.Proofs.Try.f49) [1, 1, 1, 0]) (y := codeAt (bodyOf Go.Proofs.Try.f49) [1, 1, 1, 1]) (wp_region_list ?_)
    refine st_move hs rfl (by decide) fun a hs => ?_
    refine st_assign hs rfl (by decide) fun a hs => ?_
    refine wp_ret ?_
    try simp only [Exit.then]
    refine fin_ret (P := PP) (fn := Go.Proofs.Try.f49) hs (t := 2) rfl rfl ?_
    obtain ⟨hbel, cells, G, ho, hG1, hG2, hel⟩ := hinv
    refine ⟨v1, rfl, hbel, [v1], fun m k => m = 0 ∧ (v1.ownBlock = some k ∨ ∃ j, G j k), rfl, rfl, rfl, fun m k hk => ?_, fun m m' k h1 h2 => h1.1.trans h2.1.symm, fun m l hm => ?_⟩
    · rcases hk.2 with h | ⟨j, h⟩
      · exact owns_lt ho h
      · have := hG1 j k h; exact ⟨this.2.1, this.2.2.1⟩
    · have hm : ([Lf.row .e74 xs] : List (Lf C))[m]? = some l := hm
      cases m with
      | succ m => simp at hm
      | zero =>
        simp at hm
        subst hm
        show Own KK wr w.heap.size _ (.row .e74 xs) v1
        refine Own.row _ Ty.e74 xs v1 cells (fun j i k => i = 3 ∧ G j k) ho (fun g hg => ⟨rfl, .inl hg⟩) (fun j i k hk => ⟨⟨rfl, .inr ⟨j, hk.2⟩⟩, (hG1 j k hk.2).2.2.2⟩) (fun j i j' i' k h1 h2 => ⟨hG2 j j' k h1.2 h2.2, h1.1.trans h2.1.symm⟩) (fun j hj i l hl => ?_)
        have hj' : xs[j]? = some xs[j] := by simp [hj]
        obtain ⟨b1, b2⟩ := hel j xs[j] hj' i l hl
        by_cases h3 : i = 3
        · subst h3
          exact ((b2 rfl).1 hj).mono fun k hk => ⟨rfl, hk⟩
        · exact b1 h3 _
  · rw [lk_cons] at ht
    split at ht
    · rename_i e; cases ht; subst e; rfl
    · rw [lk_cons] at ht
      split at ht
      · rename_i e; cases ht; subst e; rfl
      · rw [lk_cons] at ht
        split at ht
        · rename_i e; cases ht; subst e; rfl
        · simp [lk] at ht
end Go.Proofs.Ytgpopgfidphheaa.Ab
