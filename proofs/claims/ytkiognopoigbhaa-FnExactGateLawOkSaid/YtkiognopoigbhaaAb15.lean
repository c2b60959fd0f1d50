/- The abstract machine, part 15: literals. -/
import Derived.Test.YtkiognopoigbhaaAb14
set_option linter.unusedVariables false
set_option linter.unusedSimpArgs false
set_option linter.unusedSectionVars false
namespace Go.Proofs.Ytkiognopoigbhaa.Ab
open Go Go.RowKit

section
variable {Ty : Type} [DecidableEq Ty] {C : Ty → Type}
variable {P : Program} {X : Cx C} {w0 w : World} {nt : Nat} {S : St C} {β : Nat → Value} {fp : Nat → Nat → Prop} {a : Act} {R : Type} {k : St C → Option R} {r : R}
variable {dst : Option Tmp} {ty : TypeId} {pos : String} {aft : Array Edge} {gd : Option (Nat × Bool)} {Q : Exit → Act → World → Prop}

theorem foldl_set (off : Nat) : ∀ (vs : List Value) (n : Nat) (cs : Array Value), (vs.zipIdx n).foldl (fun cs (x : Value × Nat) => cs.setIfInBounds (off + x.2) x.1) cs = ⟨setAt cs.toList (off + n) vs⟩
  | [], n, cs => by simp [setAt]
  | v :: vs, n, cs => by
    simp only [List.zipIdx_cons, List.foldl_cons]
    rw [foldl_set off vs (n + 1)]
    simp [setAt, Nat.add_assoc]
theorem fill_one {place : Nat → Option (Nat × Nat)} {cs : Array Value} {i off n : Nat} {v : Value} {rest : List (Nat × Value)} (hp : place i = some (off, n)) (hn : v.cells.size = n) (hf : off + n ≤ cs.size) :
    Instr.fill place cs ((i, v) :: rest) = Instr.fill place ⟨setAt cs.toList off v.cells.toList⟩ rest := by
  have h1 : ¬ (v.cells.size ≠ n || off + v.cells.size > cs.size) = true := by simp [hn]; omega
  simp only [Instr.fill, hp]
  rw [if_neg (by simpa using h1)]
  congr 1
  have := foldl_set off v.cells.toList 0 cs
  rw [← Array.foldl_toList]
  simpa using this

/-- The cells of a struct's literal. -/
theorem parts_ok (hs : Sim X.K w0 nt S β fp a w) {fs : List (Nat × Nat × Bool)} {place : Nat → Option (Nat × Nat)} (hp : ∀ (i off n : Nat) (ag : Bool), fs[i]? = some (off, n, ag) → place i = some (off, n)) :
    ∀ (ps : List (Nat × Operand)) (ls ls' : List (Lf C)) (cs : List Value), partsOf X fs S ps ls = some ls' → (∀ (i off n : Nat) (ag : Bool), fs[i]? = some (off, n, ag) → off + n ≤ ls.length) → LfsOk X.K w S.objs β fp (stbOf S.objs fp w) ls cs →
      ∃ cs', Instr.fill place ⟨cs⟩ (ps.map fun (x : Nat × Operand) => (x.1, a.eval x.2)) = some ⟨cs'⟩ ∧ LfsOk X.K w S.objs β fp (stbOf S.objs fp w) ls' cs'
  | [], ls, ls', cs, h, _, hl => by
    simp only [partsOf, Option.some.injEq] at h
    subst h
    exact ⟨cs, rfl, hl⟩
  | (i, x) :: ps, ls, ls', cs, h, hb, hl => by
    simp only [partsOf] at h
    split at h
    · rename_i off n ag v hf hx
      obtain ⟨hc, h⟩ := cond_some h
      simp only [Bool.and_eq_true] at hc
      have h1 := Nat.eq_of_beq_eq_true hc.1
      have h2 := Nat.le_of_ble_eq_true hc.2
      have hv := sv_cells (opd_ok hs hx) (by omega)
      have ho : off + v.leaves.length ≤ ls.length := by rw [h1]; exact hb i off n ag hf
      have hl2 := lfs_splice hl hv ho
      have hcs : cs.length = ls.length := hl.1
      have hcl : (a.eval x).cells.size = n := by rw [← h1, ← hv.1]; simp
      have e : setAt cs off (a.eval x).cells.toList = cs.take off ++ (a.eval x).cells.toList ++ cs.drop (off + (a.eval x).cells.toList.length) := setAt_eq _ _ _ (by rw [hv.1, hcs]; exact ho)
      obtain ⟨cs', q1, q2⟩ := parts_ok hs hp ps _ ls' _ h (by rw [setAt_len]; exact hb) hl2
      refine ⟨cs', ?_, q2⟩
      simp only [List.map_cons]
      rw [fill_one (hp i off n ag hf) hcl (by have := hb i off n ag hf; simp; omega)]
      simp only [e]
      exact q1
    · cases h

theorem mapM_list {α β' : Type} {g : α → Sem β'} {g' : α → β'} : ∀ (l : List α), (∀ x ∈ l, (g x).run P w = .ok (g' x) w) → (l.mapM g).run P w = .ok (l.map g') w
  | [], _ => by simp
  | x :: l, h => by
    have h1 := h x (by simp)
    have h2 := mapM_list l (fun y hy => h y (by simp [hy]))
    simp [List.mapM_cons, h1, h2]

theorem s_build (hX : XOk P X) (hs : Sim X.K w0 nt S β fp a w) (hd : slot dst nt) {t : TypeId} {ps : Array (Nat × Operand)} (h : ev X ⟨dst, .build t ps, ty, pos, aft, gd⟩ S k = some r) : Goal P X w0 nt k r Q ⟨dst, .build t ps, ty, pos, aft, gd⟩ a w := by
  obtain ⟨ps⟩ := ps
  simp only [ev] at h
  split at h
  · rename_i fs zs ht
    split at h
    · rename_i ls hp
      obtain ⟨hb, h⟩ := cond_some h
      obtain ⟨⟨i, h1, h2, h3⟩, fields, hu, hl, hF⟩ := hX.tk _ _ ht
      have hsz : ∀ f ∈ fields.toList, (do pure (f.offset, ← sizeOf f.type) : Sem (Nat × Nat)).run P w = .ok (f.offset, ((P.info? f.type).map (·.size)).getD 0) w := by
        intro f hf
        obtain ⟨j, hj, rfl⟩ := List.getElem_of_mem hf
        have hj' : j < fs.length := by rw [← hl]; simpa using hj
        obtain ⟨f', i', q1, q2, q3, q4, _⟩ := hF j (fs[j]).1 (fs[j]).2.1 (fs[j]).2.2 (by simp [hj'])
        have : fields.toList[j] = f' := by
          have hj2 : j < fields.size := by simpa using hj
          rw [Array.getElem?_eq_getElem hj2] at q1
          simpa using q1
        rw [this]
        simp [sizeOf, typeInfo, q3]
      have hm := mapM_list (P := P) (w := w) (g := fun f => (do pure (f.offset, ← sizeOf f.type) : Sem (Nat × Nat))) (g' := fun f => (f.offset, ((P.info? f.type).map (·.size)).getD 0)) fields.toList hsz
      have hplace : ∀ (i off n : Nat) (ag : Bool), fs[i]? = some (off, n, ag) → ((fields.toList.map fun f => (f.offset, ((P.info? f.type).map (·.size)).getD 0)).toArray)[i]? = some (off, n) := fun j off n ag hj => by
        obtain ⟨f', i', q1, q2, q3, q4, _⟩ := hF j off n ag hj
        have q1' : fields.toList[j]? = some f' := by simpa using q1
        simp only [List.getElem?_toArray, List.getElem?_map, q1', Option.map_some, q2, q3, q4, Option.getD_some]
      obtain ⟨cs', q1, q2⟩ := parts_ok hs (place := fun i => ((fields.toList.map fun f => (f.offset, ((P.info? f.type).map (·.size)).getD 0)).toArray)[i]?) hplace ps _ ls _ hp
        (fun i off n ag hi => by
          have := List.all_eq_true.1 hb (off, n, ag) (List.mem_of_getElem? hi)
          have := Nat.le_of_ble_eq_true this
          simpa using this) (zls_ok zs)
      refine wp_value (v := .agg cs'.toArray) ?_ (next_put hs hd (v := .agg ls) ⟨cs', rfl, q2⟩ h)
      simp only [execOp, Instr.build, Sem.run_bind, zeroValue, typeInfo, run_program, h1, h3, Result.andThen_ok, Sem.run_pure, run_under hu]
      rw [Array.mapM_eq_mapM_toList]
      simp only [Sem.run_bind, Sem.run_map, hm, Result.andThen_ok]
      have : (List.map (fun x : Nat × Operand => (x.fst, a.eval x.snd)) ps) = (Array.map (fun x : Nat × Operand => (x.fst, a.eval x.snd)) ps.toArray).toList := by simp
      rw [← this]
      simp only [Value.cells]
      rw [q1]
      rfl
    · cases h
  · cases h

theorem elems_ok (hs : Sim X.K w0 nt S β fp a w) {t : Ty} : ∀ (ps : List (Nat × Operand)) (n : Nat) (O : Objs C) (es : List (C t)) (S' : St C) (b : Bool) (cs : List Value), (∀ id ob, lk O id = some ob → lk S.objs id = some ob) →
    elems X t { S with objs := O } n ps = some (es, S', b) → (n + ps.length) * X.K.sz t ≤ cs.length →
    S'.env = S.env ∧ S'.base = S.base ∧ (∀ id ob, lk S'.objs id = some ob → lk O id = some ob) ∧ es.length = ps.length ∧
    ∃ cs', Instr.fill (fun i => some (i * X.K.sz t, X.K.sz t)) ⟨cs⟩ (ps.map fun (x : Nat × Operand) => (x.1, a.eval x.2)) = some ⟨cs'⟩ ∧ cs'.length = cs.length ∧ (∀ m, m < n * X.K.sz t → cs'[m]? = cs[m]?) ∧
    ∃ G : Nat → Nat → Nat → Prop, (∀ j i k, G j i k → ∃ id ob, lk O id = some ob ∧ lk S'.objs id = none ∧ fp id k) ∧ (∀ j i j' i' k, G j i k → G j' i' k → j = j' ∧ i = i') ∧
      ∀ (j : Nat) (x : C t), es[j]? = some x → ∀ (i : Nat) (l : Lf C), (X.K.enc t x)[i]? = some l → (b = false → Own X.K w w0.heap.size (G j i) l (cs'.getD ((n + j) * X.K.sz t + i) undef)) ∧ Rep X.K w (fun k => stbOf S.objs fp w k ∨ G j i k) l (cs'.getD ((n + j) * X.K.sz t + i) undef)
  | [], n, O, es, S', b, cs, hO, h, hb => by
    simp only [elems, Option.some.injEq, Prod.mk.injEq] at h
    obtain ⟨rfl, rfl, rfl⟩ := h
    exact ⟨rfl, rfl, fun _ _ h => h, rfl, cs, rfl, rfl, fun _ _ => rfl, fun _ _ _ => False, fun _ _ _ h => h.elim, fun _ _ _ _ _ h => h.elim, fun j x h => by simp at h⟩
  | (i0, x0) :: ps, n, O, es, S', b, cs, hO, h, hb => by
    simp only [elems] at h
    split at h
    · rename_i v hv
      split at h
      · rename_i ls S1 b1 hab
        split at h
        · rename_i e hdec
          split at h
          · rename_i es' S2 b2 hel
            obtain ⟨hi, hk⟩ := cond_some h
            have hi := Nat.eq_of_beq_eq_true hi
            simp only [Option.some.injEq, Prod.mk.injEq] at hk
            obtain ⟨rfl, rfl, rfl⟩ := hk
            clear h
            subst hi
            have hv' : SVOk X.K w S.objs β fp (stbOf S.objs fp w) v (a.eval x0) := opdT_ok hs (T := X.K.tid t) (x := x0) (by
              have : opdT X { S with objs := O } (X.K.tid t) x0 = opdT X S (X.K.tid t) x0 := by
                unfold opdT
                split
                · rfl
                · cases x0 <;> rfl
              rw [← this]; exact hv)
            have henc := X.K.enc_dec t _ _ hdec
            have hls : ls.length = X.K.sz t := by rw [← henc, X.K.enc_len]
            -- the part's cells
            have hlv : 0 < v.leaves.length := by
              rcases Nat.eq_zero_or_pos v.leaves.length with h0 | h0
              · have : v.leaves = [] := List.eq_nil_of_length_eq_zero h0
                rw [this] at hab
                simp only [absorb, Option.some.injEq, Prod.mk.injEq] at hab
                rw [← hab.1] at hls
                have := X.K.pos t
                simp at hls; omega
              · exact h0
            have hc := sv_cells hv' hlv
            obtain ⟨g1, g1', g2, g3, G, g4, g5, g6⟩ := absorb_ok hs v.leaves (a.eval x0).cells.toList O ls S1 b1 hO hab hc
            have hcl : (a.eval x0).cells.size = X.K.sz t := by
              have := hc.1
              simp only [Array.length_toList] at this
              rw [this, ← g3, hls]
            have hS1 : S1 = { S with objs := S1.objs } := by
              obtain ⟨e1, o1, b1⟩ := S1
              rw [St.mk.injEq]
              exact ⟨g1, rfl, g1'⟩
            rw [hS1] at hel
            have hfit : i0 * X.K.sz t + X.K.sz t ≤ cs.length := by
              rw [← Nat.succ_mul]
              refine Nat.le_trans (Nat.mul_le_mul_right _ ?_) hb
              simp only [List.length_cons]; omega
            have hfit' : i0 * X.K.sz t + (a.eval x0).cells.toList.length ≤ cs.length := by simpa [hcl] using hfit
            obtain ⟨q1, q1', q2, q3, cs', q4, q5, q6, G', q7, q8, q9⟩ := elems_ok hs ps (i0 + 1) S1.objs es' S2 b2 (setAt cs (i0 * X.K.sz t) (a.eval x0).cells.toList) (fun id ob h => hO id ob (g2 id ob h)) hel (by rw [setAt_len]; refine Nat.le_trans (Nat.mul_le_mul_right _ ?_) hb; simp; omega)
            refine ⟨q1, q1', fun id ob h => g2 id ob (q2 id ob h), by simp [q3], cs', ?_, by rw [q5, setAt_len], fun m hm => ?_, fun j i k => match j with | 0 => G i k | j + 1 => G' j i k, fun j i k hk => ?_, fun j i j' i' k hk hk' => ?_, fun j x hx i l hl => ?_⟩
            · simp only [List.map_cons]
              rw [fill_one (off := i0 * X.K.sz t) (n := X.K.sz t) rfl hcl (by simpa using hfit)]
              exact q4
            · rw [q6 m (by rw [Nat.succ_mul]; omega), setAt_eq _ _ _ hfit', splice_get hfit', if_pos hm]
            · cases j with
              | zero =>
                obtain ⟨id, ob, h1, h2, h3⟩ := g4 i k hk
                refine ⟨id, ob, h1, ?_, h3⟩
                cases e2 : lk S2.objs id with
                | none => rfl
                | some ob' => have := q2 id ob' e2; rw [h2] at this; cases this
              | succ j =>
                obtain ⟨id, ob, h1, h2, h3⟩ := q7 j i k hk
                exact ⟨id, ob, g2 id ob h1, h2, h3⟩
            · have cross : ∀ i j' i' k, G i k → G' j' i' k → False := fun i j' i' k hk hk' => by
                obtain ⟨id, ob, h1, h2, h3⟩ := g4 i k hk
                obtain ⟨id', ob', h1', h2', h3'⟩ := q7 j' i' k hk'
                have := hs.disj id id' ob ob' k (hO _ _ h1) (hO _ _ (g2 _ _ h1')) h3 h3'
                subst this
                rw [h1'] at h2; cases h2
              cases j with
              | zero => cases j' with
                | zero => exact ⟨rfl, g5 _ _ k hk hk'⟩
                | succ j' => exact (cross _ _ _ k hk hk').elim
              | succ j => cases j' with
                | zero => exact (cross _ _ _ k hk' hk).elim
                | succ j' => have := q8 _ _ _ _ k hk hk'; exact ⟨by rw [this.1], this.2⟩
            · cases j with
              | zero =>
                simp at hx
                subst hx
                have hil := enc_lt hl
                have hcell : cs'.getD ((i0 + 0) * X.K.sz t + i) undef = (a.eval x0).cells.toList.getD i undef := by
                  rw [List.getD_eq_getElem?_getD, List.getD_eq_getElem?_getD, q6 _ (by rw [Nat.succ_mul]; simp; omega), setAt_eq _ _ _ hfit', splice_get hfit', if_neg (by simp), if_pos (by simp [hcl]; omega)]
                  congr 2
                  simp
                rw [hcell]
                have := g6 i l (by rw [← henc]; exact hl)
                exact ⟨fun hb => this.1 (by cases b1 <;> simp at hb ⊢), this.2⟩
              | succ j =>
                have hx : es'[j]? = some x := by simpa using hx
                have := q9 j x hx i l hl
                have e : i0 + 1 + j = i0 + (j + 1) := by omega
                rw [e] at this
                exact ⟨fun hb => this.1 (by cases b2 <;> simp at hb ⊢), this.2⟩
          · cases h
        · cases h
      · cases h
    · cases h

theorem elems_len {t : Ty} : ∀ {ps : List (Nat × Operand)} {n : Nat} {S : St C} {es : List (C t)} {S' : St C} {b : Bool}, elems X t S n ps = some (es, S', b) → es.length = ps.length
  | [], n, S, es, S', b, h => by simp only [elems, Option.some.injEq, Prod.mk.injEq] at h; rw [← h.1]; rfl
  | (i, x) :: ps, n, S, es, S', b, h => by
    simp only [elems] at h
    split at h
    · split at h
      · split at h
        · split at h
          · rename_i hel
            obtain ⟨_, h⟩ := cond_some h
            simp only [Option.some.injEq, Prod.mk.injEq] at h
            rw [← h.1]
            simp [elems_len hel]
          · cases h
        · cases h
      · cases h
    · cases h

theorem s_buildSlice (hX : XOk P X) (hs : Sim X.K w0 nt S β fp a w) (hd : slot dst nt) {t : TypeId} {n : Nat} {ps : Array (Nat × Operand)} (h : ev X ⟨dst, .buildSlice t n ps, ty, pos, aft, gd⟩ S k = some r) : Goal P X w0 nt k r Q ⟨dst, .buildSlice t n ps, ty, pos, aft, gd⟩ a w := by
  obtain ⟨ps⟩ := ps
  simp only [ev] at h
  split at h
  · rename_i t1 ht
    split at h
    · rename_i es S' b hel
      obtain ⟨hc, h⟩ := cond_some h
      simp only [Bool.and_eq_true] at hc
      have hlen := Nat.eq_of_beq_eq_true hc.1
      have hroom := Nat.le_of_ble_eq_true hc.2
      split at h
      · rename_i S'' hadd
        obtain ⟨hn, rfl⟩ := add_some hadd
        obtain ⟨i, z, hi, hsz, hby, hpos, hz, hzs, hzl⟩ := hX.el t1
        let zs : List Value := (madeCells z.cells (n * X.K.sz t1)).toList
        have hzs' : zs.length = n * X.K.sz t1 := by simp [zs, madeCells]
        have hps0 : n = ps.length := by rw [← hlen]; exact elems_len hel
        obtain ⟨q1, q1', q2, q3, cs', q4, q5, q6, G, q7, q8, q9⟩ := elems_ok hs ps 0 S.objs es S' b zs (fun _ _ h => h) hel (by rw [hzs', hps0]; simp)
        have hrun : (execOp a.eval ⟨dst, .buildSlice t n ps.toArray, ty, pos, aft, gd⟩).run P w = .ok (.value (.slice (some ⟨w.heap.size, 0, none⟩) n n)) (w.alloc (.cells cs'.toArray (X.K.tid t1))) := by
          have hmap : (Array.map (fun x : Nat × Operand => (x.fst, a.eval x.snd)) ps.toArray).toList = ps.map fun x => (x.1, a.eval x.2) := by simp
          simp only [execOp, Instr.buildSlice, Sem.run_bind, run_under (hX.tk _ _ ht).sli, (hX.el t1).size, Result.andThen_ok, Sem.run_pure]
          rw [if_neg (by omega)]
          by_cases h0 : n * X.K.sz t1 = 0
          · rw [if_pos h0]
            have hz3 : (Array.range (n * X.K.sz t1)).map ((#[] : Array Value)[· % (#[] : Array Value).size]!) = zs.toArray := by simp [h0, zs, madeCells]
            simp only [Sem.run_bind, Sem.run_pure, Result.andThen_ok, hmap]
            rw [hz3, q4]
            simp [newRow]
          · rw [if_neg h0]
            have hz3 : (Array.range (n * X.K.sz t1)).map (z.cells[· % z.cells.size]!) = zs.toArray := by
              show madeCells z.cells (n * X.K.sz t1) = _
              simp [zs]
            have hz2 : (zeroValue (X.K.tid t1)).run P w = .ok z w := by simp [zeroValue, typeInfo, hi, hz]
            simp only [Sem.run_bind, hz2, Sem.run_pure, Result.andThen_ok, hmap]
            rw [hz3, q4]
            simp [newRow]
        have hO := q2
        have hnl : ∀ k, stbOf S.objs fp w k → ¬ Left' S fp S'.objs k := fun k hk ⟨j, ob, h1, _, h3⟩ => hk.2 j ob h1 h3
        have hle : ∀ k, Left' S fp S'.objs k → k < w.heap.size := fun k ⟨j, ob, h1, _, h3⟩ => (hs.fresh j ob k h1 h3).2
        have hcsl : cs'.length = n * X.K.sz t1 := by rw [q5, hzs']
        have hsz0 := hs.below.size
        let w' := w.alloc (.cells cs'.toArray (X.K.tid t1))
        have hwk : ∀ k, k < w.heap.size → w'.heap[k]? = w.heap[k]? := fun k hk => Below.heap_alloc w _ k hk
        have hw : Below w0.heap.size w w' := (Below.refl _ _).alloc hsz0 _
        have hsize : w'.heap.size = w.heap.size + 1 := by simp [w']
        have hcr : (List.range (es.length * X.K.sz t1)).map (fun m => cs'.getD m undef) = cs' := by
          apply List.ext_getElem?
          intro m
          rw [hlen]
          by_cases hm : m < n * X.K.sz t1
          · simp [hm, List.getD, hcsl]
          · simp [hm, hcsl]
        have hown : w'.ownsRow w0.heap.size (X.K.tid t1) (X.K.sz t1) (.slice (some ⟨w.heap.size, 0, none⟩) n n) (([] : List (C t1)).length + es.length) ([] ++ (List.range (es.length * X.K.sz t1)).map (fun m => cs'.getD m undef)) := by
          rw [hcr]
          refine ⟨by simp [hcsl, hlen], .inr ⟨w.heap.size, n, cs'.toArray, by simp [hlen], hsz0, heap_alloc_new w _, by simp [hlen], by simp only [maxLen]; have := Nat.le_mul_of_pos_right n (X.K.pos t1); omega, by simp [hcsl], by
            simp only [List.length_nil, Nat.zero_add, hlen, List.nil_append]
            exact List.take_of_length_le (by simp [hcsl])⟩⟩
        let sh := cond (X.K.flat t1) false b
        let F : Nat → Prop := cond sh (fun g => (Value.slice (some ⟨w.heap.size, 0, none⟩) n n).ownBlock = some g) (fun k => (Value.slice (some ⟨w.heap.size, 0, none⟩) n n).ownBlock = some k ∨ False ∨ Left' S fp S'.objs k)
        have hFv : ∀ g, (Value.slice (some ⟨w.heap.size, 0, none⟩) n n).ownBlock = some g → g = w.heap.size := fun g hg => by simp [Value.ownBlock] at hg; exact hg.symm
        have hF : ∀ k, F k → Left' S fp S'.objs k ∨ (w.heap.size ≤ k ∧ k < w'.heap.size) := fun k hk => by
          cases e : sh with
          | true => simp only [F, e, cond_true] at hk; have := hFv k hk; exact .inr ⟨by omega, by omega⟩
          | false =>
            simp only [F, e, cond_false] at hk
            rcases hk with h | h | h
            · have := hFv k h; exact .inr ⟨by omega, by omega⟩
            · exact h.elim
            · exact .inl h
        have hst := fun k hk => stb_reown hs hO (w' := w') (by omega) (fun k hk _ => hwk k hk) (id := newId X ⟨dst, .buildSlice t n ps.toArray, ty, pos, aft, gd⟩) (ob := .row t1 es sh) (F := F) (fun k hk => (hF k hk).imp (fun h => h) fun h => h.1) (k := k) hk
        have hob := cat_ob (K := X.K) (w := w) (β := upd β (newId X ⟨dst, .buildSlice t n ps.toArray, ty, pos, aft, gd⟩) (.slice (some ⟨w.heap.size, 0, none⟩) n n)) (fp := upd fp (newId X ⟨dst, .buildSlice t n ps.toArray, ty, pos, aft, gd⟩) F)
          (objs := (newId X ⟨dst, .buildSlice t n ps.toArray, ty, pos, aft, gd⟩, .row t1 es sh) :: S'.objs) (stb' := stbOf ((newId X ⟨dst, .buildSlice t n ps.toArray, ty, pos, aft, gd⟩, .row t1 es sh) :: S'.objs) (upd fp (newId X ⟨dst, .buildSlice t n ps.toArray, ty, pos, aft, gd⟩) F) w')
          (xs := []) (ys := es) (own0 := none) (own1 := none) (sh0 := false) (sh1 := b) (sh := sh) (D0 := fun _ => False) (D1 := Left' S fp S'.objs) (stb := stbOf S.objs fp w) (cs := [])
          elems_nil (f := fun m => cs'.getD m undef) ⟨G, fun j i k hk => ⟨q7 j i k hk, by simp⟩, q8, fun j x hx i l hl => by have := q9 j x hx i l hl; simpa using this⟩ (fun k h => h.elim) (by simp) hown
          (fun g hg => ⟨.inr fun h => h, fun h => by have := hFv g hg; have := hle g h; omega⟩) (fun k hk _ => hwk k (by rcases hk with h | h | h; exact h.elim; exact hle k h; exact h.1)) (fun k _ => by simp) (by simp [sh]) (fun k hk => (hst k hk).1)
          (fun k hs1 hk hne1 _ => by
            have hk' : Left' S fp S'.objs k := hk.elim (fun h => h.elim) id
            refine ⟨by have := hle k hk'; omega, fun j ob' hj => ?_⟩
            rw [lk_cons] at hj
            by_cases e : j = newId X ⟨dst, .buildSlice t n ps.toArray, ty, pos, aft, gd⟩
            · rw [e, upd_same]
              show ¬ (cond sh (fun g => (Value.slice (some ⟨w.heap.size, 0, none⟩) n n).ownBlock = some g) (fun k => (Value.slice (some ⟨w.heap.size, 0, none⟩) n n).ownBlock = some k ∨ False ∨ Left' S fp S'.objs k)) k
              have hs1' : sh = true := hs1
              rw [hs1']
              exact hne1
            · rw [if_neg e] at hj
              rw [upd_ne _ _ e]
              intro hk2
              exact left_not hs hO hj hk2 hk') (fun g hg => by cases hg)
        have h2 := hs.reown hO hw (fun k hk _ => hwk k hk) (id := newId X ⟨dst, .buildSlice t n ps.toArray, ty, pos, aft, gd⟩) (by
          have := hn
          unfold Unnamed at this
          rw [q1] at this
          exact this) (ob := .row t1 es sh) (hv := .slice (some ⟨w.heap.size, 0, none⟩) n n) (F := F) hF hob S'.base
        have hSe : (⟨S.env, (newId X ⟨dst, .buildSlice t n ps.toArray, ty, pos, aft, gd⟩, .row t1 es sh) :: S'.objs, S'.base⟩ : St C) = S'.setObj (newId X ⟨dst, .buildSlice t n ps.toArray, ty, pos, aft, gd⟩) (.row t1 es sh) := by
          unfold St.setObj
          rw [← q1]
        rw [hSe] at h2
        exact wp_value hrun (next_put h2 hd (v := .one (.ref _ [])) ⟨rfl, (upd_same _ _ _).symm⟩ h)
      · cases h
    · cases h
  · cases h
end
end Go.Proofs.Ytkiognopoigbhaa.Ab
