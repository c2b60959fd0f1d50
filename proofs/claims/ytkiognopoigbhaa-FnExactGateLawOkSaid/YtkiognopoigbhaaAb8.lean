/- The abstract machine, part 8: operations on memory. -/
import Derived.Test.YtkiognopoigbhaaAb7
import Derived.Laws.MakeOwn
import Derived.Laws.OwnMore
set_option linter.unusedVariables false
set_option linter.unusedSimpArgs false
set_option linter.unusedSectionVars false
namespace Go.Proofs.Ytkiognopoigbhaa.Ab
open Go Go.RowKit

section
variable {Ty : Type} [DecidableEq Ty] {C : Ty → Type}
variable {P : Program} {X : Cx C} {w0 w : World} {nt : Nat} {S : St C} {β : Nat → Value} {fp : Nat → Nat → Prop} {a : Act} {R : Type} {k : St C → Option R} {r : R}
variable {dst : Option Tmp} {ty : TypeId} {pos : String} {aft : Array Edge} {gd : Option (Nat × Bool)} {Q : Exit → Act → World → Prop}

theorem LfOk.cell {K : Cd C} {objs : Objs C} {stb : Nat → Prop} {l : Lf C} {v : Value} (h : LfOk K w objs β fp stb l v) : v.oneCell' = true := by
  cases l with
  | int k n => rw [show v = _ from h]; rfl
  | bool b => rw [show v = _ from h]; rfl
  | str s => rw [show v = _ from h]; rfl
  | row t xs => exact Rep.one h
  | nil t => rw [show v = _ from h]; rfl
  | nilp => rw [show v = _ from h]; rfl
  | fnc f => rw [show v = _ from h]; cases f <;> rfl
  | nilv n => rw [show v = _ from h]; cases n <;> rfl
  | vo id => exact h.1
  | elt t x o => obtain ⟨p, U, h1, _⟩ := h; rw [h1]; rfl
  | ptr id o => obtain ⟨b, _, h1⟩ := h; rw [h1]; rfl
  | ref id p => cases p with
    | nil => exact h.1
    | cons s p => exact h.1
  | ep id p i o => cases p with
    | nil => obtain ⟨⟨q, h1⟩, _⟩ := h; rw [h1]; rfl
    | cons s p => obtain ⟨⟨q, h1⟩, _⟩ := h; rw [h1]; rfl
theorem one_cells {v : Value} (h : v.oneCell' = true) : v.cells = #[v] := by cases v <;> first | rfl | cases h

/-- A value's cells. -/
theorem sv_cells {K : Cd C} {objs : Objs C} {stb : Nat → Prop} {v : SV C} {u : Value} (h : SVOk K w objs β fp stb v u) (hf : 0 < v.leaves.length) : LfsOk K w objs β fp stb v.leaves u.cells.toList := by
  cases v with
  | one l =>
    have hl : LfOk K w objs β fp stb l u := h
    rw [one_cells hl.cell]
    refine ⟨rfl, fun i l' hi => ?_⟩
    cases i with
    | zero => simp [SV.leaves] at hi; subst hi; exact hl
    | succ i => simp [SV.leaves] at hi
  | agg ls => obtain ⟨vs, rfl, h⟩ := h; exact h
  | _ => simp [SV.leaves] at hf
theorem fits_ok {v : SV C} {tk : TK Ty} (h : fits v tk = true) : v.leaves.length = tk.size ∧ 0 < v.leaves.length := by
  unfold fits at h
  simp only [Bool.and_eq_true] at h
  have h1 := Nat.eq_of_beq_eq_true h.1
  have h2 := Nat.le_of_ble_eq_true h.2
  exact ⟨h1, by omega⟩
theorem leaves_ids {v : SV C} {id : Nat} (h : id ∈ idsLs v.leaves) : id ∈ idsV0 v := by
  cases v with
  | one l => simpa [SV.leaves, idsLs, idsV0] using h
  | agg ls => exact h
  | _ => simp [SV.leaves, idsLs] at h
theorem opd_ids {x : Operand} {v : SV C} (h : opd S x = some v) {id : Nat} (hi : id ∈ idsV0 v) : id ∈ idsE0 S.env := by
  cases x with
  | tmp t => exact mem_idsE h hi
  | const c =>
    cases c with
    | int k n => simp [opd] at h; subst h; simp [idsV0, idsL] at hi
    | bool b => simp [opd] at h; subst h; simp [idsV0, idsL] at hi
    | string s => simp [opd] at h; subst h; simp [idsV0, idsL] at hi
    | pointer p =>
      cases p with
      | none => simp [opd] at h; subst h; simp [idsV0, idsL] at hi
      | some p => simp [opd] at h
    | map p =>
      cases p with
      | none => simp [opd] at h; subst h; simp [idsV0, idsL] at hi
      | some p => simp [opd] at h
    | nilFunc => simp [opd] at h; subst h; simp [idsV0, idsL] at hi
    | nilIface => simp [opd] at h; subst h; simp [idsV0, idsL] at hi
    | _ => simp [opd] at h
  | global g => simp [opd] at h
  | func f => simp [opd] at h; subst h; simp [idsV0, idsL] at hi
theorem opdT_ids {T : TypeId} {x : Operand} {v : SV C} (h : opdT X S T x = some v) {id : Nat} (hi : id ∈ idsV0 v) : id ∈ idsE0 S.env := by
  unfold opdT at h
  split at h
  · split at h
    · cases h; simp [idsV0, idsL] at hi
    · cases h
  · exact opd_ids h hi

theorem slot_next (hs : Sim X.K w0 nt S β fp a w) (hd : slot dst nt) {v : SV C} {u : Value} (hv : SVOk X.K w S.objs β fp (stbOf S.objs fp w) v u) (hk : k (S.put dst v) = some r) : Next X.K w0 nt k r (a.put dst u) w := next_put hs hd hv hk

/-- A new variable in memory. -/
theorem new_box (hs : Sim X.K w0 nt S β fp a w) (hd : slot dst nt) {id : Nat} {ls : List (Lf C)} {cs : Array Value} {e : TypeId} {S' : St C} (hadd : S.add id (.box .mem ls) = some S')
    (hl : LfsOk X.K w S.objs β fp (stbOf S.objs fp w) ls cs.toList) (hids : ∀ i, i ∈ idsLs ls → i ∈ idsE0 S.env) (hk : k (S'.put dst (.one (.ptr id 0))) = some r) :
    Next X.K w0 nt k r (a.put dst (.pointer (some ⟨w.heap.size, 0, none⟩))) (w.alloc (.cells cs e)) := by
  obtain ⟨hn, rfl⟩ := add_some hadd
  have hw : Below w.heap.size w (w.alloc (.cells cs e)) := (Below.refl _ _).alloc (Nat.le_refl _) _
  have hF : ∀ k, (fun k => k = w.heap.size) k → w.heap.size ≤ k := fun k hk => by rw [hk]; exact Nat.le_refl _
  have h2 := hs.addNew hw hn (ob := .box .mem ls) (hv := .pointer (some ⟨w.heap.size, 0, none⟩)) (F := fun k => k = w.heap.size) (fun k hk => ⟨hF k hk, by rw [hk]; simp⟩)
    ⟨w.heap.size, cs, e, rfl, heap_alloc_new w _, fun k => Iff.rfl, lfs_new hs hw hF hl fun hm => hn.1 (hids _ hm)⟩
  exact next_put h2 hd (v := .one (.ptr id 0)) ⟨w.heap.size, upd_same _ _ _, rfl⟩ hk

theorem s_box (hs : Sim X.K w0 nt S β fp a w) (hd : slot dst nt) {e : TypeId} {x : Operand} (h : ev X ⟨dst, .box e x, ty, pos, aft, gd⟩ S k = some r) : Goal P X w0 nt k r Q ⟨dst, .box e x, ty, pos, aft, gd⟩ a w := by
  simp only [ev] at h
  split at h
  · rename_i v tk hv ht
    obtain ⟨hf, h⟩ := cond_some h
    split at h
    · rename_i S' hadd
      have hc := sv_cells (opd_ok hs hv) (fits_ok hf).2
      exact wp_value (v := .pointer (some ⟨w.heap.size, 0, none⟩)) (w' := w.alloc (.cells (a.eval x).cells e)) (by simp [execOp, Instr.box, newVar, newRow])
        (new_box hs hd hadd (by simpa using hc) (fun i hi => opd_ids hv (leaves_ids hi)) h)
    · cases h
  · cases h

theorem zl_ok {K : Cd C} {objs : Objs C} {stb : Nat → Prop} (z : ZL Ty) : LfOk K w objs β fp stb (z.lf : Lf C) z.val := by cases z <;> rfl
theorem zl_ids (z : ZL Ty) : idsL (z.lf : Lf C) = [] := by cases z <;> rfl
theorem zls_ok {K : Cd C} {objs : Objs C} {stb : Nat → Prop} (zs : List (ZL Ty)) : LfsOk K w objs β fp stb (zs.map (ZL.lf (C := C))) (zs.map ZL.val) := by
  refine ⟨by simp, fun i l hi => ?_⟩
  simp only [List.getElem?_map, Option.map_eq_some_iff] at hi
  obtain ⟨z, hz, rfl⟩ := hi
  have : (zs.map ZL.val).getD i undef = z.val := by simp [List.getD, hz]
  rw [this]
  exact zl_ok z
theorem zls_ids (zs : List (ZL Ty)) : idsLs (zs.map (ZL.lf (C := C))) = [] := by
  induction zs with
  | nil => rfl
  | cons z zs ih => simp [idsLs, zl_ids, ih]

theorem s_alloc (hX : XOk P X) (hs : Sim X.K w0 nt S β fp a w) (hd : slot dst nt) {e : TypeId} (h : ev X ⟨dst, .alloc e, ty, pos, aft, gd⟩ S k = some r) : Goal P X w0 nt k r Q ⟨dst, .alloc e, ty, pos, aft, gd⟩ a w := by
  have run : ∀ z i, P.info? e = some i → i.zero = some z → (execOp a.eval ⟨dst, .alloc e, ty, pos, aft, gd⟩).run P w = .ok (.value (.pointer (some ⟨w.heap.size, 0, none⟩))) (w.alloc (.cells z.cells e)) := by
    intro z i h1 h2
    simp [execOp, Instr.alloc, zeroValue, typeInfo, h1, h2, newVar, newRow]
  simp only [ev] at h
  split at h
  · rename_i z ht
    obtain ⟨⟨i, h1, h2, h3⟩, _⟩ := hX.tk _ _ ht
    split at h
    · rename_i S' hadd
      refine wp_value (run _ i h1 h3) (new_box hs hd hadd ?_ (fun i hi => by simp [idsLs, zl_ids] at hi) h)
      have := zls_ok (K := X.K) (w := w) (objs := S.objs) (β := β) (fp := fp) (stb := stbOf S.objs fp w) [z]
      have hc : z.val.cells = #[z.val] := by
        cases z with
        | nk n => cases n <;> rfl
        | _ => rfl
      rw [hc]
      exact this
    · cases h
  · rename_i fs zs ht
    obtain ⟨⟨i, h1, h2, h3⟩, _⟩ := hX.tk _ _ ht
    split at h
    · rename_i S' hadd
      refine wp_value (run _ i h1 h3) (new_box hs hd hadd ?_ (fun i hi => by rw [zls_ids] at hi; cases hi) h)
      simpa [Value.cells] using zls_ok (K := X.K) (w := w) (objs := S.objs) (β := β) (fp := fp) (stb := stbOf S.objs fp w) zs
    · cases h
  · cases h

theorem rep_lf {K : Cd C} {objs : Objs C} {stb : Nat → Prop} {l : Lf C} {v : Value} (h : Rep K w stb l v) : LfOk K w objs β fp stb l v := by
  cases h with
  | int k n => rfl
  | bool b => rfl
  | str s => rfl
  | fnc f => rfl
  | row t xs A c p U hc hA hcell hrep => exact .row t xs A c p U hc hA hcell hrep

theorem own_lf {K : Cd C} {base : Nat} {G : Nat → Prop} {objs : Objs C} {stb : Nat → Prop} {l : Lf C} {v : Value} (h : Own K w base G l v) (hn : ∀ t xs, l ≠ .row t xs) : LfOk K w objs β fp stb l v := by
  cases h with
  | int => rfl
  | bool => rfl
  | str => rfl
  | fnc => rfl
  | row _ t xs => exact absurd rfl (hn t xs)
theorem inRow_get (id : Nat) (p : List (Nat × Nat)) (i : Nat) (sh : Bool) : ∀ (ls : List (Lf C)) (n j : Nat) (l : Lf C), (inRow id p i sh n ls)[j]? = some l →
    (∃ t xs, ls[j]? = some (.row t xs) ∧ l = cond sh (.row t xs) (.ref id (p ++ [(i, n + j)]))) ∨ (ls[j]? = some l ∧ ∀ t xs, l ≠ .row t xs)
  | [], n, j, l, h => by simp [inRow] at h
  | x :: r, n, j, l, h => by
    have ih := inRow_get id p i sh r (n + 1)
    cases j with
    | zero =>
      cases x with
      | row t xs => simp [inRow] at h; exact .inl ⟨t, xs, rfl, h.symm⟩
      | _ => simp [inRow] at h; subst h; exact .inr ⟨rfl, fun t xs => by simp⟩
    | succ j =>
      have : (inRow id p i sh (n + 1) r)[j]? = some l := by cases x <;> simpa [inRow] using h
      rcases ih j l this with ⟨t, xs, h1, h2⟩ | h1
      · exact .inl ⟨t, xs, by simpa using h1, by rw [h2]; congr 5; omega⟩
      · exact .inr (by simpa using h1)

theorem pres_snoc {K : Cd C} {F : Nat → Prop} {t : Ty} {xs : List (C t)} {v : Value} {p : List (Nat × Nat)} {t' : Ty} {zs : List (C t')} {v' : Value} (h : PRes K w F t xs v p t' zs v')
    {i o : Nat} {x : C t'} {t1 : Ty} {ys : List (C t1)} {q : Addr} {n c : Nat} {v1 : Value} (hx : zs[i]? = some x) (hl : (K.enc t' x)[o]? = some (.row t1 ys)) (hv : v' = .slice (some q) n c) (hF : F q.block) (hc : w.cell? (q.add (i * K.sz t' + o)) = some v1) :
    PRes K w F t xs v (p ++ [(i, o)]) t1 ys v1 := by
  induction h with
  | nil t xs v => exact .cons t xs v i o x t1 ys q n c v1 [] t1 ys v1 hx hl hv hF hc (.nil ..)
  | cons t xs v i' o' x' t1' ys' a' n' c' v1' p t' zs v' hx' hl' hv' hF' hc' _ ih => exact .cons t xs v i' o' x' t1' ys' a' n' c' v1' _ _ _ _ hx' hl' hv' hF' hc' (ih hx hl hv hc)

/-- The cells of an element of an own row. -/
theorem own_elem {K : Cd C} {base : Nat} {F : Nat → Prop} {t : Ty} {xs : List (C t)} {v : Value} (h : Own K w base F (.row t xs) v) {i : Nat} {x : C t} (hx : xs[i]? = some x) :
    ∃ g cap cells, v = .slice (some ⟨g, 0, none⟩) xs.length cap ∧ F g ∧ w.ownsRow base (K.tid t) (K.sz t) v xs.length cells ∧
      (∀ m, m < xs.length * K.sz t → w.cell? ((⟨g, 0, none⟩ : Addr).add m) = some (cells.getD m undef)) ∧ ∀ o l, (K.enc t x)[o]? = some l → ∃ G, (∀ k, G k → F k ∧ k ≠ g) ∧ Own K w base G l (cells.getD (i * K.sz t + o) undef) := by
  cases h with
  | row _ _ _ _ cells G h h1 h2 h3 h4 =>
    have hi := idx_lt hx
    have hxe : xs[i] = x := by simpa [List.getElem?_eq_getElem hi] using hx
    obtain ⟨g, cap, e, hb, hn, hcell⟩ := own_at h (Nat.mul_pos (by omega) (K.pos t))
    refine ⟨g, cap, cells, e, h1 g (by rw [e]; rfl), h, hcell, fun o l hl => ⟨G i o, fun k hk => ⟨(h2 i o k hk).1, fun ek => (h2 i o k hk).2 (by rw [e, ek]; rfl)⟩, h4 i hi o l (by rw [hxe]; exact hl)⟩⟩

theorem drop_get {α : Type} {l : List α} {o i : Nat} {x : α} (h : (l.drop o)[i]? = some x) : l[o + i]? = some x := by simpa using h
theorem enc_lt {K : Cd C} {t : Ty} {x : C t} {o : Nat} {l : Lf C} (h : (K.enc t x)[o]? = some l) : o < K.sz t := by
  have := idx_lt h
  rwa [K.enc_len] at this

/-- The cells from an address on. -/
theorem cells_ok (hs : Sim X.K w0 nt S β fp a w) {l : Lf C} {v : Value} (hv : LfOk X.K w S.objs β fp (stbOf S.objs fp w) l v) {α : Type} {kk : List (Lf C) → Option α} {q : α} (h : cellsAt X S l kk = some q) :
    ∃ ls p, kk ls = some q ∧ v = .pointer (some p) ∧ ∀ i l', ls[i]? = some l' → ∃ u, w.cell? (p.add i) = some u ∧ LfOk X.K w S.objs β fp (stbOf S.objs fp w) l' u := by
  cases l with
  | ptr id off =>
    simp only [cellsAt] at h
    split at h
    · rename_i ls ho
      obtain ⟨b, cs, e, h1, h2, h3, h4⟩ := hs.objs id _ ho
      obtain ⟨b', h5, h6⟩ := hv
      rw [h1] at h5
      cases h5
      refine ⟨ls.drop off, ⟨b, off, none⟩, h, h6, fun i l' hl => ?_⟩
      have hl := drop_get hl
      have hlt : off + i < cs.size := by have := idx_lt hl; have := h4.1; simp at this; omega
      refine ⟨cs.toList.getD (off + i) undef, ?_, h4.2 _ _ hl⟩
      rw [add_none, cell_of_row w b (off + i) cs e (0, 0) h2]
      simp [List.getD, hlt]
    · cases h
  | elt t x o =>
    obtain ⟨p, U, h1, h2, h3, h4⟩ := hv
    refine ⟨(X.K.enc t x).drop o, _, h, h1, fun i l' hl => ?_⟩
    have hl := drop_get hl
    refine ⟨U (o + i), ?_, rep_lf (h4 _ _ hl)⟩
    rw [add_add]
    exact h3 _ (enc_lt hl)
  | ep id p i o =>
    simp only [cellsAt] at h
    split at h
    · rename_i t xs sh ho
      have hob := hs.objs id _ ho
      cases p with
      | nil =>
        obtain ⟨⟨p0, hp0⟩, hv⟩ := hv
        obtain ⟨h1, q, n, c, h2, h3⟩ := hv t xs sh ho
        cases hx : xs[i]? with
        | none => rw [List.getElem?_eq_none_iff] at hx; omega
        | some x =>
          simp only [path, hx, Option.bind_some] at h
          refine ⟨_, _, h, h3, fun j l' hl => ?_⟩
          have hl := drop_get hl
          simp only [List.isEmpty_nil, cond_true] at hl
          cases sh with
          | true =>
            obtain ⟨cells, ho1, ho2, ho3⟩ := hob
            obtain ⟨g, cap, e, hb, hn, hcell⟩ := own_at ho1 (Nat.mul_pos (by omega) (X.K.pos t))
            rw [h2] at e
            cases e
            have key : ∀ l0, (X.K.enc t x)[o + j]? = some l0 → ∃ u, w.cell? ((Addr.add ⟨g, 0, none⟩ (i * X.K.sz t + o)).add j) = some u ∧ Rep X.K w (stbOf S.objs fp w) l0 u := fun l0 hl0 => by
              refine ⟨_, ?_, ho3 i x hx (o + j) l0 hl0⟩
              rw [add_add, Nat.add_assoc]
              exact hcell _ (cell_in h1 (enc_lt hl0))
            rcases inRow_get id [] i true _ 0 (o + j) l' hl with ⟨t1, ys, e1, e2⟩ | ⟨e1, _⟩
            · simp only [cond_true] at e2
              subst e2
              obtain ⟨u, hu1, hu2⟩ := key _ e1
              exact ⟨u, hu1, rep_lf hu2⟩
            · obtain ⟨u, hu1, hu2⟩ := key _ e1
              exact ⟨u, hu1, rep_lf hu2⟩
          | false =>
            obtain ⟨g, cap, cells, e, hFg, hown, hcell, hel⟩ := own_elem hob hx
            rw [h2] at e
            cases e
            have hc : ∀ o', o' < X.K.sz t → w.cell? (Addr.add ⟨g, 0, none⟩ (i * X.K.sz t + o')) = some (cells.getD (i * X.K.sz t + o') undef) := fun o' ho' => hcell _ (cell_in h1 ho')
            have hc' : ∀ l0, (X.K.enc t x)[o + j]? = some l0 → w.cell? ((Addr.add ⟨g, 0, none⟩ (i * X.K.sz t + o)).add j) = some (cells.getD (i * X.K.sz t + (o + j)) undef) := fun l0 hl0 => by
              rw [add_add, Nat.add_assoc]
              exact hc _ (enc_lt hl0)
            rcases inRow_get id [] i false _ 0 (o + j) l' hl with ⟨t1, ys, e1, e2⟩ | ⟨e1, hne⟩
            · simp only [cond_false, Nat.zero_add, List.nil_append] at e2
              subst e2
              obtain ⟨G, hG, hO⟩ := hel _ _ e1
              refine ⟨_, hc' _ e1, hO.one, fun t0 xs0 sh0 ho0 => ?_⟩
              rw [ho] at ho0
              cases ho0
              exact ⟨rfl, t1, ys, .cons t xs _ i (o + j) x t1 ys ⟨g, 0, none⟩ _ c _ [] t1 ys _ hx e1 h2 hFg (hc _ (enc_lt e1)) (.nil ..)⟩
            · obtain ⟨G, hG, hO⟩ := hel _ _ e1
              exact ⟨_, hc' _ e1, own_lf hO hne⟩
      | cons s p =>
        obtain ⟨⟨p0, hp0⟩, hv⟩ := hv
        obtain ⟨hsh, t', zs, v', hpr, h1, q, n, c, h2, h3⟩ := hv t xs sh ho
        subst hsh
        have h := path_pres hpr h
        obtain ⟨G0, hG0, hO0⟩ := pres_own hpr _ hob
        cases hx : zs[i]? with
        | none => rw [List.getElem?_eq_none_iff] at hx; omega
        | some x =>
          simp only [hx, Option.bind_some, List.isEmpty_cons, cond_false] at h
          refine ⟨_, _, h, h3, fun j l' hl => ?_⟩
          have hl := drop_get hl
          obtain ⟨g, cap, cells, e, hFg, hown, hcell, hel⟩ := own_elem hO0 hx
          rw [h2] at e
          cases e
          have hc : ∀ o', o' < X.K.sz t' → w.cell? (Addr.add ⟨g, 0, none⟩ (i * X.K.sz t' + o')) = some (cells.getD (i * X.K.sz t' + o') undef) := fun o' ho' => hcell _ (cell_in h1 ho')
          have hc' : ∀ l0, (X.K.enc t' x)[o + j]? = some l0 → w.cell? ((Addr.add ⟨g, 0, none⟩ (i * X.K.sz t' + o)).add j) = some (cells.getD (i * X.K.sz t' + (o + j)) undef) := fun l0 hl0 => by
            rw [add_add, Nat.add_assoc]
            exact hc _ (enc_lt hl0)
          rcases inRow_get id (s :: p) i false _ 0 (o + j) l' hl with ⟨t1, ys, e1, e2⟩ | ⟨e1, hne⟩
          · simp only [cond_false, Nat.zero_add] at e2
            subst e2
            obtain ⟨G, hG, hO⟩ := hel _ _ e1
            refine ⟨_, hc' _ e1, hO.one, fun t0 xs0 sh0 ho0 => ?_⟩
            rw [ho] at ho0
            cases ho0
            exact ⟨rfl, t1, ys, pres_snoc hpr hx e1 h2 (hG0 _ hFg) (hc _ (enc_lt e1))⟩
          · obtain ⟨G, hG, hO⟩ := hel _ _ e1
            exact ⟨_, hc' _ e1, own_lf hO hne⟩
    · cases h
  | _ => simp [cellsAt] at h
end
end Go.Proofs.Ytkiognopoigbhaa.Ab
