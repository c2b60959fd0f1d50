/- An abstract machine over the model's code, part 1: abstract values, and what it is for them to lie in a world. -/
import Derived.Calls
import Derived.Below
import Derived.Laws.AppendOwn
import Derived.Laws.Cells
import Derived.KernelRfl
set_option linter.unusedVariables false
set_option linter.unusedSimpArgs false
namespace Go.Proofs.Ytkiognopoigbhaa.Ab
open Go Go.RowKit

/-- What is nil: a function, an interface value, a map. -/
inductive NK where
  | ifc
  | map
def fnV : Option Nat → Value
  | none => .nilFunc
  | some f => .func (.func f) #[] #[]
def NK.val : NK → Value
  | .ifc => .nilIface
  | .map => .map none

/-- What a thing is: cells in memory; a function value with what it holds; an interface value. sh: of each part whether it is an aggregate, and how many cells. -/
inductive VT where
  | mem
  | clo (f n : Nat) (sh : List (Bool × Nat))
  | ifc (t : TypeId) (sh : List (Bool × Nat))

inductive Lf {Ty : Type} (C : Ty → Type) : Type where
  | int (k : IntKind) (n : Int)
  | bool (b : Bool)
  | str (s : ByteArray)
  | row (t : Ty) (xs : List (C t))
  | nil (t : Ty)
  | nilp
  | ptr (id off : Nat)
  | elt (t : Ty) (x : C t) (o : Nat)
  | ref (id : Nat) (p : List (Nat × Nat))
  | ep (id : Nat) (p : List (Nat × Nat)) (i o : Nat)
  | fnc (f : Option Nat)
  | nilv (k : NK)
  | vo (id : Nat)

inductive SV {Ty : Type} (C : Ty → Type) : Type where
  | one (l : Lf C)
  | agg (ls : List (Lf C))
  | tup (vs : List (Bool × List (Lf C)))
  | und
  | hdr (id j : Nat)
  | frame
  | sus (x : Bool × List (Lf C)) (j : Nat)

/-- A map's keys and values: are they aggregates, are the values nothing (struct{}), does a look-up branch over the entries. -/
structure MK where
  kag : Bool
  vag : Bool
  un : Bool
  br : Bool

inductive Ob {Ty : Type} (C : Ty → Type) : Type where
  | box (kd : VT) (ls : List (Lf C))
  | row (t : Ty) (xs : List (C t)) (sh : Bool)
  | map (mk : MK) (kt vt : Ty) (xs : List (Nat × C kt × C vt)) (clock : Nat)
  | ghost

def Lf.plain {Ty : Type} {C : Ty → Type} : Lf C → Bool
  | .int .. | .bool _ | .str _ | .row .. | .fnc _ => true
  | _ => false

structure Cd {Ty : Type} (C : Ty → Type) where
  enc : (t : Ty) → C t → List (Lf C)
  dec : (t : Ty) → List (Lf C) → Option (C t)
  sz : Ty → Nat
  tid : Ty → TypeId
  bytes : Ty → Nat
  zero : (t : Ty) → C t
  pos : ∀ t, 0 < sz t
  enc_len : ∀ t x, (enc t x).length = sz t
  enc_dec : ∀ t cs x, dec t cs = some x → enc t x = cs
  enc_plain : ∀ t x l, l ∈ enc t x → l.plain = true
  flat : Ty → Bool
  enc_flat : ∀ t, flat t = true → ∀ x t' (ys : List (C t')), Lf.row t' ys ∉ enc t x
  byte : Ty → Bool := fun _ => false
  enc_byte : ∀ t, byte t = true → ∀ x, ∃ n, enc t x = [Lf.int .u8 n] := by intro t h; cases h
  kp : Nat → Prop := fun _ => False
  kh : Nat → Option Obj := fun _ => none
  hd : Nat → Value := fun _ => undef

section
variable {Ty : Type} {C : Ty → Type} (K : Cd C)

/-- A cell's abstract value as it can be read; every block that the reading comes to is in F. -/
inductive Rep (w : World) (F : Nat → Prop) : Lf C → Value → Prop
  | int (k n) : Rep w F (.int k n) (.int k n)
  | bool (b) : Rep w F (.bool b) (.bool b)
  | str (s) : Rep w F (.str s) (.string s)
  | fnc (f) : Rep w F (.fnc f) (fnV f)
  | row (t : Ty) (xs : List (C t)) (A : Option Addr) (c : Nat) (a : Addr) (U : Nat → Value) (hc : xs.length ≤ c)
      (hA : xs ≠ [] → A = some a ∧ F a.block)
      (hcell : xs ≠ [] → ∀ m, m < xs.length * K.sz t → w.cell? (a.add m) = some (U m))
      (hrep : ∀ j (hj : j < xs.length) i l, (K.enc t xs[j])[i]? = some l → Rep w F l (U (j * K.sz t + i))) :
      Rep w F (.row t xs) (.slice A xs.length c)

/-- A cell's abstract value all of whose rows are the call's own, no two of them one; F: their blocks. -/
inductive Own (w : World) (base : Nat) : (Nat → Prop) → Lf C → Value → Prop
  | int (F k n) : Own w base F (.int k n) (.int k n)
  | bool (F b) : Own w base F (.bool b) (.bool b)
  | str (F s) : Own w base F (.str s) (.string s)
  | fnc (F f) : Own w base F (.fnc f) (fnV f)
  | row (F : Nat → Prop) (t : Ty) (xs : List (C t)) (v : Value) (cells : List Value) (G : Nat → Nat → Nat → Prop)
      (h : w.ownsRow base (K.tid t) (K.sz t) v xs.length cells)
      (hF : ∀ g, v.ownBlock = some g → F g)
      (hG : ∀ j i k, G j i k → F k ∧ v.ownBlock ≠ some k)
      (hd : ∀ j i j' i' k, G j i k → G j' i' k → j = j' ∧ i = i')
      (hn : ∀ j (hj : j < xs.length) i l, (K.enc t xs[j])[i]? = some l → Own w base (G j i) l (cells.getD (j * K.sz t + i) undef)) :
      Own w base F (.row t xs) v

variable {K}
theorem Rep.mono {w : World} {F F' : Nat → Prop} {l : Lf C} {v : Value} (h : Rep K w F l v) (hF : ∀ k, F k → F' k) : Rep K w F' l v := by
  induction h with
  | int k n => exact .int k n
  | bool b => exact .bool b
  | str s => exact .str s
  | fnc f => exact .fnc f
  | row t xs A c a U hc hA hcell _ ih => exact .row t xs A c a U hc (fun h => ⟨(hA h).1, hF _ (hA h).2⟩) hcell ih

theorem Rep.frame {w w' : World} {F : Nat → Prop} {l : Lf C} {v : Value} (h : Rep K w F l v) (hw : ∀ k, F k → w'.heap[k]? = w.heap[k]?) : Rep K w' F l v := by
  induction h with
  | int k n => exact .int k n
  | bool b => exact .bool b
  | str s => exact .str s
  | fnc f => exact .fnc f
  | row t xs A c a U hc hA hcell _ ih =>
    refine .row t xs A c a U hc hA (fun hx m hm => ?_) ih
    have hb : (a.add m).block = a.block := by unfold Addr.add; split <;> rfl
    rw [World.cell?_of_block (w := w) (by rw [hb]; exact hw _ (hA hx).2)]
    exact hcell hx m hm

theorem Own.mono {w : World} {base : Nat} {F F' : Nat → Prop} {l : Lf C} {v : Value} (h : Own K w base F l v) (hF : ∀ k, F k → F' k) : Own K w base F' l v := by
  cases h with
  | int => exact .int ..
  | bool => exact .bool ..
  | str => exact .str ..
  | fnc => exact .fnc ..
  | row _ t xs _ cells G h hF' hG hd hn => exact .row F' t xs v cells G h (fun g hg => hF _ (hF' g hg)) (fun j i k hk => ⟨hF _ (hG j i k hk).1, (hG j i k hk).2⟩) hd hn

theorem ownsRow_frame {w w' : World} {base : Nat} {e : TypeId} {size n : Nat} {v : Value} {xs : List Value} (h : w.ownsRow base e size v n xs) (hw : ∀ g, v.ownBlock = some g → w'.heap[g]? = w.heap[g]?) : w'.ownsRow base e size v n xs := by
  obtain ⟨h1, h2⟩ := h
  refine ⟨h1, ?_⟩
  rcases h2 with h2 | ⟨g, cap, cur, rfl, hb, hh, r⟩
  · exact .inl h2
  · exact .inr ⟨g, cap, cur, rfl, hb, (hw g rfl).trans hh, r⟩

theorem Own.frame {w w' : World} {base : Nat} {F : Nat → Prop} {l : Lf C} {v : Value} (h : Own K w base F l v) (hw : ∀ k, F k → w'.heap[k]? = w.heap[k]?) : Own K w' base F l v := by
  induction h with
  | int => exact .int ..
  | bool => exact .bool ..
  | str => exact .str ..
  | fnc => exact .fnc ..
  | row F t xs v cells G h hF hG hd _ ih =>
    refine .row F t xs v cells G (ownsRow_frame h fun g hg => hw g (hF g hg)) hF hG hd fun j hj i l hl => ih j hj i l hl fun k hk => hw k (hG j i k hk).1

theorem Own.one {w : World} {base : Nat} {F : Nat → Prop} {l : Lf C} {v : Value} (h : Own K w base F l v) : v.oneCell' = true := by
  cases h with
  | int => rfl
  | bool => rfl
  | str => rfl
  | fnc F f => cases f <;> rfl
  | row _ t xs _ cells G h => rcases h.2 with ⟨rfl, _⟩ | ⟨g, cap, cur, rfl, _⟩ <;> rfl

theorem Rep.one {w : World} {F : Nat → Prop} {l : Lf C} {v : Value} (h : Rep K w F l v) : v.oneCell' = true := by
  cases h with
  | fnc f => cases f <;> rfl
  | _ => rfl

theorem own_at {w : World} {base : Nat} {e : TypeId} {size n : Nat} {v : Value} {cells : List Value} (h : w.ownsRow base e size v n cells) (hs : 0 < n * size) :
    ∃ g cap, v = .slice (some ⟨g, 0, none⟩) n cap ∧ base ≤ g ∧ n ≤ cap ∧ ∀ m, m < n * size → w.cell? ((⟨g, 0, none⟩ : Addr).add m) = some (cells.getD m undef) := by
  have hc := h
  obtain ⟨h1, h2⟩ := h
  rcases h2 with ⟨_, rfl⟩ | ⟨g, cap, cur, rfl, hb, hh, hn, r⟩
  · omega
  · refine ⟨g, cap, rfl, hb, hn, fun m hm => hc.cells (g := g) rfl m _ ?_⟩
    rw [List.getD_eq_getElem?_getD, List.getElem?_eq_getElem (by omega)]; rfl

theorem Own.rep {w : World} {base : Nat} {F : Nat → Prop} {l : Lf C} {v : Value} (h : Own K w base F l v) : Rep K w F l v := by
  induction h with
  | int => exact .int ..
  | bool => exact .bool ..
  | str => exact .str ..
  | fnc => exact .fnc ..
  | row F t xs v cells G h hF hG hd _ ih =>
    by_cases hx : xs = []
    · subst hx
      rcases h.2 with ⟨rfl, _⟩ | ⟨g, cap, cur, rfl, _⟩
      · exact .row t [] none 0 default (fun _ => undef) (Nat.le_refl _) (fun h => absurd rfl h) (fun h => absurd rfl h) (fun j hj => absurd hj (by simp))
      · exact .row t [] _ cap default (fun _ => undef) (Nat.zero_le _) (fun h => absurd rfl h) (fun h => absurd rfl h) (fun j hj => absurd hj (by simp))
    · have hp : 0 < xs.length * K.sz t := Nat.mul_pos (List.length_pos_iff.2 hx) (K.pos t)
      obtain ⟨g, cap, rfl, hb, hn, hcell⟩ := own_at h hp
      refine .row t xs _ cap ⟨g, 0, none⟩ (fun m => cells.getD m undef) hn (fun _ => ⟨rfl, hF g rfl⟩) (fun _ => hcell) fun j hj i l hl => ?_
      exact (ih j hj i l hl).mono fun k hk => (hG j i k hk).1
end
end Go.Proofs.Ytkiognopoigbhaa.Ab
