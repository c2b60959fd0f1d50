/- The abstract machine, part 5: operations that leave memory alone. -/
import Derived.Test.YtkiognopoigbhaaAb4
set_option linter.unusedVariables false
set_option linter.unusedSimpArgs false
namespace Go.Proofs.Ytkiognopoigbhaa.Ab
open Go Go.RowKit

section
variable {Ty : Type} {C : Ty → Type}
variable {P : Program} {K : Cd C} {X : Cx C} {w0 w : World} {nt : Nat} {S : St C} {β : Nat → Value} {fp : Nat → Nat → Prop} {a : Act}

theorem add_add (p : Addr) (m n : Nat) : (p.add m).add n = p.add (m + n) := by
  unfold Addr.add
  by_cases h1 : m = 0 <;> by_cases h2 : n = 0 <;> simp [h1, h2, Nat.add_assoc]
theorem add_none (b o n : Nat) : (⟨b, o, none⟩ : Addr).add n = ⟨b, o + n, none⟩ := by
  unfold Addr.add; split <;> simp_all
theorem add_block (p : Addr) (n : Nat) : (p.add n).block = p.block := by unfold Addr.add; split <;> rfl

theorem TFact.under {T : TypeId} {k : TK Ty} (h : TFact P K T k) : ∃ d, P.underlying T = some d := by
  cases k with
  | one z => obtain ⟨_, d, hd, _⟩ := h; exact ⟨d, hd⟩
  | agg fs zs => obtain ⟨_, f, hf, _⟩ := h; exact ⟨_, hf⟩
theorem TFact.sli {T : TypeId} {t : Ty} (h : TFact P K T (.one (.sli t))) : P.underlying T = some (.slice (K.tid t)) := by
  obtain ⟨_, d, hd, h⟩ := h
  exact hd.trans (congrArg some h)
theorem TFact.str {T : TypeId} (h : TFact P K T (.one .str)) : P.underlying T = some .string := by
  obtain ⟨_, d, hd, h⟩ := h
  exact hd.trans (congrArg some h)
theorem TFact.int {T : TypeId} {k : IntKind} (h : TFact P K T (.one (.int k))) : P.underlying T = some (.int k) := by
  obtain ⟨_, d, hd, h⟩ := h
  exact hd.trans (congrArg some h)
theorem EFact.size {t : Ty} (h : EFact P K t) : (sizeOf (K.tid t)).run P w = .ok (K.sz t) w := by
  obtain ⟨i, z, h1, h2, _⟩ := h
  simp [sizeOf, typeInfo, h1, h2]

def mfind (K : Cd C) (fl : MK) (kt vt : Ty) (x : C kt) : List (Nat × C kt × C vt) → Nat → Option (Nat × Value)
  | [], _ => none
  | e :: r, i => cond (keysEq (K.enc kt e.2.1) (K.enc kt x)) (some (i, valV K fl vt e.2.2)) (mfind K fl kt vt x r (i + 1))
/-- What the program's tables say of a map's type. -/
structure MFact0 (P : Program) (K : Cd C) (T : TypeId) (m : MT Ty) (kt et : TypeId) : Prop where
  und : P.underlying T = some (.map kt et)
  fk : K.flat m.kt = true
  fv : K.flat m.vt = true
  zero : ∀ w, (zeroValue et).run P w = .ok (valV K m.fl m.vt (K.zero m.vt)) w
  chk : ∀ b x w, (Instr.checkKey b 10000 kt (keyV K m.fl m.kt x)).run P w = .ok () w
  find : ∀ x (xs : List (Nat × C m.kt × C m.vt)) w, (Instr.findKey kt (keyV K m.fl m.kt x) (xs.map (entV K m.fl m.kt m.vt))).run P w = .ok (mfind K m.fl m.kt m.vt x xs 0) w
  vone : m.fl.vag = false → m.fl.un = false → K.sz m.vt = 1
  bits : ∀ x y, keysEq (K.enc m.kt y) (K.enc m.kt x) = true → keyV K m.fl m.kt y = keyV K m.fl m.kt x ∧ Instr.sameBits 10000 (keyV K m.fl m.kt y) (keyV K m.fl m.kt x) = true
def MFact (P : Program) (K : Cd C) (T : TypeId) (m : MT Ty) : Prop := ∃ kt et, MFact0 P K T m kt et

structure XOk (P : Program) (X : Cx C) : Prop where
  tk : ∀ T k, X.tk T = some k → TFact P X.K T k
  el : ∀ t, EFact P X.K t
  mp : ∀ T m, X.mp T = some m → MFact P X.K T m
  meth : ∀ T name f, X.meth T name = some f → ∀ v w, (method (P.types.size + Made.depth) T v name).run P w = .ok (f, v) w

theorem unOp_neg {k : IntKind} {n : Int} : (Go.Op.unary .neg (.int k n)).run P w = .ok (.int k (k.wrap (0 - n))) w := by simp [Go.Op.unary, Go.Op.intArith]
theorem convert_int {s d : TypeId} {k k' : IntKind} {n : Int} {ds : TypeDesc} (hs : P.underlying s = some ds) (hd : P.underlying d = some (.int k')) : (convert s d (.int k n)).run P w = .ok (.int k' (k'.wrap n)) w := by
  unfold convert
  simp only [Sem.run_bind, run_under hs, run_under hd, Result.andThen_ok]
  cases ds <;> simp [Conv.intToInt]
theorem convert_str {s d : TypeId} {x : ByteArray} {ds : TypeDesc} (hs : P.underlying s = some ds) (hd : P.underlying d = some .string) : (convert s d (.string x)).run P w = .ok (.string x) w := by
  unfold convert
  simp only [Sem.run_bind, run_under hs, run_under hd, Result.andThen_ok]
  cases ds <;> simp

/-- The address of a field. -/
theorem field_addr {T : TypeId} {fs : List (Nat × Nat × Bool)} {zs : List (ZL Ty)} (hT : TFact P K T (.agg fs zs)) {f off n : Nat} {ag : Bool} (hf : fs[f]? = some (off, n, ag)) (p : Addr) :
    (Instr.fieldAt T (.pointer (some p)) f).run P w = .ok (.pointer (some (p.add off))) w := by
  obtain ⟨_, fields, hu, hl, hF⟩ := hT
  obtain ⟨fl, i, h1, h2, h3, h4, h5, _⟩ := hF f off n ag hf
  have hn : n ≠ 0 := by omega
  simp [Instr.fieldAt, run_under hu, h1, Instr.sureAddr, fieldPlace, sizeOf, typeInfo, h3, h4, hn, h2]

theorem addOff_ok {objs : Objs C} {stb : Nat → Prop} {l l' : Lf C} {off : Nat} {v : Value} (h : addOff l off = some l') (hv : LfOk K w objs β fp stb l v) : ∃ p, v = .pointer (some p) ∧ LfOk K w objs β fp stb l' (.pointer (some (p.add off))) := by
  cases l <;> simp [addOff] at h <;> subst h
  · obtain ⟨b, h1, h2⟩ := hv
    exact ⟨_, h2, b, h1, by rw [add_none]⟩
  · obtain ⟨q, U, h1, h2, h3, h4⟩ := hv
    exact ⟨_, h1, q, U, by rw [add_add], h2, h3, h4⟩
  · rename_i id p i o
    cases p with
    | nil =>
      obtain ⟨⟨q, hq⟩, h2⟩ := hv
      subst hq
      refine ⟨q, rfl, ⟨_, rfl⟩, fun t xs sh ho => ?_⟩
      obtain ⟨h3, q', m, c, h4, h5⟩ := h2 t xs sh ho
      refine ⟨h3, q', m, c, h4, ?_⟩
      simp only [Value.pointer.injEq, Option.some.injEq] at h5 ⊢
      rw [h5, add_add, Nat.add_assoc]
    | cons s p =>
      obtain ⟨⟨q, hq⟩, h2⟩ := hv
      subst hq
      refine ⟨q, rfl, ⟨_, rfl⟩, fun t xs sh ho => ?_⟩
      obtain ⟨h1, t', zs, v', hp, h3, q', m, c, h4, h5⟩ := h2 t xs sh ho
      refine ⟨h1, t', zs, v', hp, h3, q', m, c, h4, ?_⟩
      simp only [Value.pointer.injEq, Option.some.injEq] at h5 ⊢
      rw [h5, add_add, Nat.add_assoc]

/-- The shape of an own row's header. -/
theorem owns_head {base : Nat} {e : TypeId} {size n : Nat} {v : Value} {cells : List Value} (h : w.ownsRow base e size v n cells) : ∃ A c, v = .slice A n c ∧ (0 < n → ∃ g, A = some ⟨g, 0, none⟩) := by
  rcases h.2 with ⟨rfl, rfl⟩ | ⟨g, cap, cur, rfl, _⟩
  · exact ⟨none, 0, rfl, fun h => absurd h (by omega)⟩
  · exact ⟨_, cap, rfl, fun _ => ⟨g, rfl⟩⟩
theorem Own.head {base : Nat} {F : Nat → Prop} {t : Ty} {xs : List (C t)} {v : Value} (h : Own K w base F (.row t xs) v) : ∃ A c, v = .slice A xs.length c ∧ (0 < xs.length → ∃ g, A = some ⟨g, 0, none⟩) := by
  cases h with
  | row _ _ _ _ cells G h => exact owns_head h
theorem Rep.head {F : Nat → Prop} {t : Ty} {xs : List (C t)} {v : Value} (h : Rep K w F (.row t xs) v) : ∃ A c, v = .slice A xs.length c ∧ (0 < xs.length → ∃ g, A = some g) := by
  cases h with
  | row _ _ A c a U hc hA => exact ⟨A, c, rfl, fun h => ⟨a, (hA (List.length_pos_iff.1 h)).1⟩⟩
theorem ob_head {base : Nat} {objs : Objs C} {stb F : Nat → Prop} {t : Ty} {xs : List (C t)} {sh : Bool} {v : Value} (h : ObOk K w base objs β fp stb F (.row t xs sh) v) : ∃ A c, v = .slice A xs.length c ∧ (0 < xs.length → ∃ g, A = some ⟨g, 0, none⟩) := by
  cases sh with
  | false => exact Own.head h
  | true => obtain ⟨cells, h1, _⟩ := h; exact owns_head h1

/-- What lies at a path in an own row is own. -/
theorem pres_own {F : Nat → Prop} {base : Nat} {t : Ty} {xs : List (C t)} {v : Value} {p : List (Nat × Nat)} {t' : Ty} {zs : List (C t')} {v' : Value}
    (h : PRes K w F t xs v p t' zs v') : ∀ G, Own K w base G (.row t xs) v → ∃ G', (∀ k, G' k → G k) ∧ Own K w base G' (.row t' zs) v' := by
  induction h with
  | nil => exact fun G h => ⟨G, fun _ h => h, h⟩
  | cons t xs v i o x t1 ys a n c v1 p t' zs v' hx hl hv hF hc _ ih =>
    intro G h
    cases h with
    | row _ _ _ _ cells G0 h h1 h2 h3 h4 =>
      have hi : i < xs.length := by
        rcases Nat.lt_or_ge i xs.length with h | h
        · exact h
        · simp [List.getElem?_eq_none h] at hx
      have hxe : xs[i] = x := by simpa [List.getElem?_eq_getElem hi] using hx
      have ho : o < K.sz t := by
        have : o < (K.enc t x).length := by
          rcases Nat.lt_or_ge o (K.enc t x).length with h | h
          · exact h
          · simp [List.getElem?_eq_none h] at hl
        rwa [K.enc_len] at this
      have hpos : 0 < xs.length * K.sz t := Nat.mul_pos (by omega) (K.pos t)
      obtain ⟨g, cap, e, hb, hn, hcell⟩ := own_at h hpos
      rw [e] at hv
      cases hv
      have hm : i * K.sz t + o < xs.length * K.sz t := by
        calc i * K.sz t + o < i * K.sz t + K.sz t := by omega
          _ = (i + 1) * K.sz t := by rw [Nat.succ_mul]
          _ ≤ xs.length * K.sz t := Nat.mul_le_mul_right _ hi
      have := hcell _ hm
      rw [hc] at this
      cases this
      obtain ⟨G', hG', hO⟩ := ih (G0 i o) (h4 i hi o _ (by rw [hxe]; exact hl))
      exact ⟨G', fun k hk => (h2 i o k (hG' k hk)).1, hO⟩
end
end Go.Proofs.Ytkiognopoigbhaa.Ab
