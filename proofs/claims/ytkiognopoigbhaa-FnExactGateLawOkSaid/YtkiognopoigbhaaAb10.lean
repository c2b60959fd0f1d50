/- The abstract machine, part 10: a row is turned; stores. -/
import Derived.Test.YtkiognopoigbhaaAb9
set_option linter.unusedVariables false
set_option linter.unusedSimpArgs false
set_option linter.unusedSectionVars false
namespace Go.Proofs.Ytkiognopoigbhaa.Ab
open Go Go.RowKit

section
variable {Ty : Type} {C : Ty → Type}
variable {K : Cd C} {w0 w : World} {nt : Nat} {S : St C} {β : Nat → Value} {fp : Nat → Nat → Prop} {a : Act}

/-- A row whose length stays. -/
def Keeps' (w w' : World) (objs objs' : Objs C) (β β' : Nat → Value) (id : Nat) : Prop :=
  β' id = β id ∧ ∀ t xs sh, lk objs' id = some (.row t xs sh) → ∃ xs0 sh0, lk objs id = some (.row t xs0 sh0) ∧ xs.length = xs0.length

theorem LfOk.tr' {w w' : World} {objs objs' : Objs C} {β β' : Nat → Value} {fp fp' : Nat → Nat → Prop} {stb stb' : Nat → Prop} {l : Lf C} {v : Value} {d : Nat}
    (h : LfOk K w objs β fp stb l v) (hst : ∀ k, stb k → stb' k ∧ w'.heap[k]? = w.heap[k]?) (hid : ∀ id, id ∈ idsL l → id ≠ d → Keeps w w' objs objs' β β' fp fp' id) (hd : Keeps' w w' objs objs' β β' d) (hn : deepL d l = false) : LfOk K w' objs' β' fp' stb' l v := by
  by_cases hm : d ∈ idsL l
  · cases l with
    | ptr id off =>
      simp only [idsL, List.mem_singleton] at hm
      subst hm
      obtain ⟨b, h1, h2⟩ := h
      exact ⟨b, hd.1.trans h1, h2⟩
    | vo id =>
      simp only [idsL, List.mem_singleton] at hm
      subst hm
      exact ⟨h.1, h.2.trans hd.1.symm⟩
    | ref id p =>
      simp only [idsL, List.mem_singleton] at hm
      subst hm
      cases p with
      | nil => exact ⟨h.1, h.2.trans hd.1.symm⟩
      | cons s p => simp [deepL, Nat.beq_refl] at hn
    | ep id p i o =>
      simp only [idsL, List.mem_singleton] at hm
      subst hm
      cases p with
      | nil =>
        refine ⟨h.1, fun t xs sh ho => ?_⟩
        obtain ⟨xs0, sh0, h1, h2⟩ := hd.2 t xs sh ho
        rw [h2, hd.1]
        exact h.2 t xs0 sh0 h1
      | cons s p => simp [deepL, Nat.beq_refl] at hn
    | _ => simp [idsL] at hm
  · exact h.tr hst fun id hi => hid id hi fun e => hm (by subst e; exact hi)

theorem LfsOk.tr' {w w' : World} {objs objs' : Objs C} {β β' : Nat → Value} {fp fp' : Nat → Nat → Prop} {stb stb' : Nat → Prop} {ls : List (Lf C)} {vs : List Value} {d : Nat}
    (h : LfsOk K w objs β fp stb ls vs) (hst : ∀ k, stb k → stb' k ∧ w'.heap[k]? = w.heap[k]?) (hid : ∀ id, id ∈ idsLs ls → id ≠ d → Keeps w w' objs objs' β β' fp fp' id) (hd : Keeps' w w' objs objs' β β' d) (hn : ls.any (deepL d) = false) : LfsOk K w' objs' β' fp' stb' ls vs :=
  ⟨h.1, fun i l hl => (h.2 i l hl).tr' hst (fun id hi => hid id (mem_idsLs hl hi)) hd (by
    have := List.any_eq_false.1 hn l (List.mem_of_getElem? hl)
    simpa using this)⟩
theorem SVOk.tr' {w w' : World} {objs objs' : Objs C} {β β' : Nat → Value} {fp fp' : Nat → Nat → Prop} {stb stb' : Nat → Prop} {x : SV C} {v : Value} {d : Nat}
    (h : SVOk K w objs β fp stb x v) (hst : ∀ k, stb k → stb' k ∧ w'.heap[k]? = w.heap[k]?) (hid : ∀ id, id ∈ idsV0 x → id ≠ d → Keeps w w' objs objs' β β' fp fp' id) (hd : Keeps' w w' objs objs' β β' d) (hn : deepV d x = false) : SVOk K w' objs' β' fp' stb' x v := by
  cases x with
  | one l => exact LfOk.tr' h hst hid hd hn
  | agg ls => obtain ⟨vs, h1, h2⟩ := h; exact ⟨vs, h1, h2.tr' hst hid hd hn⟩
  | tup xs =>
    obtain ⟨vs, h1, h2, h3⟩ := h
    refine ⟨vs, h1, h2, fun i x hx => ?_⟩
    have hm : ∀ id, id ∈ idsLs x.2 → id ∈ idsT xs := by
      clear h3 h2 h1 hid hn
      induction xs generalizing i with
      | nil => simp at hx
      | cons y r ih =>
        intro id hi
        obtain ⟨b, ls⟩ := y
        simp only [idsT, List.mem_append]
        cases i with
        | zero => simp at hx; subst hx; exact .inl hi
        | succ i => simp at hx; exact .inr (ih i hx id hi)
    have hn' : x.2.any (deepL d) = false := by
      have := List.any_eq_false.1 hn x (List.mem_of_getElem? hx)
      simpa using this
    have := h3 i x hx
    obtain ⟨b, ls⟩ := x
    cases b with
    | false =>
      obtain ⟨l, h1, h2⟩ := this
      subst h1
      exact ⟨l, rfl, h2.tr' hst (fun id hi => hid id (hm id (by simpa [idsLs] using hi))) hd (by simpa using hn')⟩
    | true => obtain ⟨vs, h1, h2⟩ := this; exact ⟨vs, h1, h2.tr' hst (fun id hi => hid id (hm id hi)) hd hn'⟩
  | und => exact h
  | hdr id j =>
    by_cases e : id = d
    · subst e; exact hd.1.trans h
    · exact (hid id (by simp [idsV0]) e).1.trans h
  | frame => exact fun k hk => ⟨(hst k (h k hk).1).1, (hst k (h k hk).1).2.trans (h k hk).2⟩
  | sus x j =>
    obtain ⟨b, ls⟩ := x
    have hn' : ls.any (deepL d) = false := hn
    cases b with
    | false =>
      obtain ⟨l, h1, h2⟩ := h
      have h1 : ls = [l] := h1
      subst h1
      exact ⟨l, rfl, h2.tr' hst (fun id hi => hid id (by simpa [idsV0, idsLs] using hi)) hd (by simpa using hn')⟩
    | true => obtain ⟨vs, h1, h2⟩ := h; exact ⟨vs, h1, h2.tr' hst (fun id hi => hid id hi) hd hn'⟩

/-- A row is turned in place; things may have moved into it. -/
theorem Sim.turnRow (h : Sim K w0 nt S β fp a w) {O1 : Objs C} (hO : ∀ j ob, lk O1 j = some ob → lk S.objs j = some ob) {id : Nat} {t : Ty} {xs xs' : List (C t)} {sh sh' : Bool}
    (ho : lk O1 id = some (.row t xs sh)) (hlen : xs'.length = xs.length) {F' : Nat → Prop} (hF : ∀ k, F' k → fp id k ∨ ∃ j ob, lk S.objs j = some ob ∧ lk O1 j = none ∧ fp j k)
    {w' : World} (hw : Below w0.heap.size w w') (hb : ∀ k, ¬ fp id k → w'.heap[k]? = w.heap[k]?)
    (hob : ObOk K w' w0.heap.size ((id, .row t xs' sh') :: O1) β (upd fp id F') (stbOf ((id, .row t xs' sh') :: O1) (upd fp id F') w') F' (.row t xs' sh') (β id))
    (hbox : ∀ j kd ls, lk O1 j = some (.box kd ls) → ls.any (deepL id) = false) {E : List (Nat × SV C)} (hE : ∀ t v, lk E t = some v → lk S.env t = some v ∧ deepV id v = false) (bs : Nat) :
    Sim K w0 nt ⟨E, (id, .row t xs' sh') :: O1, bs⟩ β (upd fp id F') a w' := by
  have hlk : ∀ j ob, lk ((id, Ob.row t xs' sh') :: O1) j = some ob → j ≠ id → lk O1 j = some ob := fun j ob hj hne => by rw [lk_cons, if_neg hne] at hj; exact hj
  have hap : ∀ j ob k, lk O1 j = some ob → j ≠ id → fp j k → ¬ F' k := fun j ob k hj hne hk hf => by
    rcases hF k hf with h1 | ⟨j', ob', h1, h2, h3⟩
    · exact hne (h.disj j id ob _ k (hO j ob hj) (hO id _ ho) hk h1)
    · have := h.disj j j' ob ob' k (hO j ob hj) h1 hk h3
      subst this
      rw [hj] at h2
      cases h2
  have hst : ∀ k, stbOf S.objs fp w k → stbOf ((id, Ob.row t xs' sh') :: O1) (upd fp id F') w' k ∧ w'.heap[k]? = w.heap[k]? := fun k hk => by
    refine ⟨⟨Nat.lt_of_lt_of_le hk.1 hw.size, fun j ob hj => ?_⟩, hb k (hk.2 id _ (hO _ _ ho))⟩
    by_cases e : j = id
    · subst e
      rw [upd_same]
      intro hf
      rcases hF k hf with h1 | ⟨j', ob', h1, h2, h3⟩
      · exact hk.2 j _ (hO _ _ ho) h1
      · exact hk.2 j' _ h1 h3
    · rw [upd_ne _ _ e]
      exact hk.2 j ob (hO _ _ (hlk j ob hj e))
  have hkp : ∀ j, j ≠ id → Keeps w w' S.objs ((id, Ob.row t xs' sh') :: O1) β β fp (upd fp id F') j := fun j e => by
    refine ⟨rfl, fun t0 xs0 sh0 hj => ?_⟩
    have hj' := hlk j _ hj e
    exact ⟨hO _ _ hj', fun k hk => ⟨by rw [upd_ne _ _ e]; exact hk, hb k fun hk' => e (h.disj j id _ _ k (hO _ _ hj') (hO _ _ ho) hk hk')⟩⟩
  have hkd : Keeps' w w' S.objs ((id, Ob.row t xs' sh') :: O1) β β id := by
    refine ⟨rfl, fun t0 xs0 sh0 hj => ?_⟩
    rw [lk_cons, if_pos rfl] at hj
    cases hj
    exact ⟨xs, sh, hO _ _ ho, hlen⟩
  refine ⟨h.below.trans hw, h.defers, h.size, fun j ob k hj hk => ?_, fun i j oi oj k hi hj hki hkj => ?_, fun j ob hj => ?_, fun t v ht => (h.env t v (hE t v ht).1).tr' hst (fun i _ e => hkp i e) hkd (hE t v ht).2⟩
  · have hsz := hw.size
    by_cases e : j = id
    · subst e
      rw [upd_same] at hk
      rcases hF k hk with h1 | ⟨j', ob', h1, h2, h3⟩
      · have := h.fresh j _ k (hO _ _ ho) h1; omega
      · have := h.fresh j' _ k h1 h3; omega
    · rw [upd_ne _ _ e] at hk
      have := h.fresh j ob k (hO _ _ (hlk j ob hj e)) hk; omega
  · by_cases ei : i = id <;> by_cases ej : j = id
    · rw [ei, ej]
    · subst ei
      rw [upd_same] at hki
      rw [upd_ne _ _ ej] at hkj
      exact absurd hki (hap j oj k (hlk j oj hj ej) ej hkj)
    · subst ej
      rw [upd_same] at hkj
      rw [upd_ne _ _ ei] at hki
      exact absurd hkj (hap i oi k (hlk i oi hi ei) ei hki)
    · rw [upd_ne _ _ ei] at hki
      rw [upd_ne _ _ ej] at hkj
      exact h.disj i j oi oj k (hO _ _ (hlk i oi hi ei)) (hO _ _ (hlk j oj hj ej)) hki hkj
  · by_cases e : j = id
    · subst e
      have : ob = .row t xs' sh' := by simp only [lk_cons, if_pos] at hj; cases hj; rfl
      subst this
      rw [upd_same]
      exact hob
    · have hj' := hlk j ob hj e
      rw [upd_ne _ _ e]
      have hobj := h.objs j ob (hO _ _ hj')
      have hF' : ∀ k, fp j k → w'.heap[k]? = w.heap[k]? := fun k hk' => hb k fun hk'' => e (h.disj j id _ _ k (hO _ _ hj') (hO _ _ ho) hk' hk'')
      cases ob with
      | box kd ls => cases kd with
        | mem =>
          obtain ⟨b, cs, e', h1, h2, h3, h4⟩ := hobj
          exact ⟨b, cs, e', h1, (hF' b ((h3 b).2 rfl)).trans h2, h3, h4.tr' hst (fun i _ e => hkp i e) hkd (hbox j _ ls hj')⟩
        | clo f n sh => obtain ⟨us, h1, h2, h3⟩ := hobj; exact ⟨us, h1, h2, h3.tr' hst (fun i _ e => hkp i e) hkd (hbox j _ ls hj')⟩
        | ifc t sh => obtain ⟨us, h1, h2, h3⟩ := hobj; exact ⟨us, h1, h2, h3.tr' hst (fun i _ e => hkp i e) hkd (hbox j _ ls hj')⟩
      | row t0 xs0 sh0 => exact hobj.tr (objs' := (id, Ob.row t xs' sh') :: O1) (β' := β) (fp' := upd fp id F') hst hF' (fun _ ls els => by cases els)
      | map mk kt vt ys c => exact hobj.tr (objs' := (id, Ob.row t xs' sh') :: O1) (β' := β) (fp' := upd fp id F') hst hF' (fun _ ls els => by cases els)
      | ghost => exact hobj.tr (objs' := (id, Ob.row t xs' sh') :: O1) (β' := β) (fp' := upd fp id F') hst hF' (fun _ ls els => by cases els)

/-- Cells of an own row are stored over. -/
theorem ownsRow_store {P : Program} {base : Nat} {e : TypeId} {size n cap g : Nat} {cells : List Value} (h : w.ownsRow base e size (.slice (some ⟨g, 0, none⟩) n cap) n cells) {m : Nat} {vs : List Value} (hm : m + vs.length ≤ n * size) (h1 : ∀ v ∈ vs, v.oneCell' = true) :
    ∃ cur', (storeCells ⟨g, m, none⟩ vs).run P w = .ok () (w.setRow g cur') ∧ (w.setRow g cur').ownsRow base e size (.slice (some ⟨g, 0, none⟩) n cap) n (cells.take m ++ vs ++ cells.drop (m + vs.length)) := by
  obtain ⟨hl, h2⟩ := h
  rcases h2 with ⟨h2, _⟩ | ⟨g', cap', cur, h2, hb, hh, hn, hc, hs, ht⟩
  · cases h2
  · cases h2
    have hle : n * size ≤ cap * size := Nat.mul_le_mul_right _ hn
    have hst := run_storeCells_at P g m e vs 0 cur w hh (by rw [hs]; simp; omega) h1
    simp only [Nat.add_zero] at hst
    refine ⟨_, hst, ?_, .inr ⟨g, cap, _, rfl, hb, setRow_heap w g cur _ e (0, 0) hh, hn, hc, ?_, ?_⟩⟩
    · simp; omega
    · simp; omega
    · rw [← ht]
      apply List.ext_getElem?
      intro i
      have hcl : cur.toList.length = cap * size := by simpa using hs
      have hlen : m + vs.length ≤ (cur.toList.take (n * size)).length := by rw [List.length_take, hcl]; omega
      have hlen' : m + vs.length ≤ cur.toList.length := by rw [hcl]; omega
      rw [splice_get hlen, List.getElem?_take]
      simp only [List.toList_toArray]
      rw [splice_get hlen']
      simp only [List.getElem?_take]
      by_cases hi : i < n * size
      · simp [hi]
      · have hi1 : ¬ i < m := by omega
        have hi2 : ¬ i < m + vs.length := by omega
        simp [hi, hi1, hi2]
end
end Go.Proofs.Ytkiognopoigbhaa.Ab
