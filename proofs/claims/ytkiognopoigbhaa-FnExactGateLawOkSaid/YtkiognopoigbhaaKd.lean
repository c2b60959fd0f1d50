/- A codec, printed by codec.py: structures, cells, the table of types and its facts. -/
import Derived.Test.YtkiognopoigbhaaAm3
import Derived.Test.YtkiognopoigbhaaProg
import Derived.KernelRfl
set_option linter.unusedVariables false
set_option linter.unusedSimpArgs false
namespace Go.Proofs.Ytkiognopoigbhaa.Ab
open Go Go.RowKit
inductive Ty where
  | e3
  | e5
  | e9
  | e29
  | e30
  | e37
  | e43
  | e60
  | e74
  | e77
  | e81
  | e83
  | e100
  | e103
  | e106
  | e134
  | e173
  | e199
  | e201
  | e203
  deriving DecidableEq
structure VGateField where
  Name : ByteArray
  Kind : Int
  Least : Int
  Most : Int
  Words : List ByteArray
  To : ByteArray
  Role : Int
  Must : Bool
  Fixed : Bool
  Default : ByteArray
  Weighs : ByteArray
structure VGateShape where
  Kind : ByteArray
  Fields : List VGateField
structure VGateMend where
  Kind : ByteArray
  Field : ByteArray
  When : ByteArray
  Is : ByteArray
  Put : ByteArray
  From : ByteArray
structure VGateObject where
  Kind : ByteArray
  Name : ByteArray
  Team : ByteArray
  Values : List ByteArray
  Ending : Bool
  Holds : List ByteArray
  Version : Int
structure VGateTeam where
  Name : ByteArray
  Over : ByteArray
structure VGateGrant where
  Number : Int
  To : ByteArray
  By : ByteArray
  Rule_Verbs : List Int
  Rule_Kind : ByteArray
  Rule_Team : ByteArray
  Rule_Prefix : ByteArray
structure VGateLedger where
  Team : ByteArray
  Resource : ByteArray
  Most : Int
  Free : Int
structure VGatePurse where
  Door : ByteArray
  Team : ByteArray
  Resource : ByteArray
  Amount : Int
  Until : Int
structure VboundsError where
  x : Int
  y : Int
  signed : Bool
  code : Int
structure VerrorAddressString where
  msg : ByteArray
  addr : Int
structure VGateLaw where
  Shapes : List VGateShape
  Mends : List VGateMend
  Teams : List VGateTeam
structure Vl1Rd where
  b : List Int
  p : Int
structure VGateBook where
  Now : Int
  Tick : Int
  Given : Int
  Objects : List VGateObject
  Grants : List VGateGrant
  Ledgers : List VGateLedger
  Purses : List VGatePurse
structure VnumberField where
  GateField_Name : ByteArray
  GateField_Kind : Int
  GateField_Least : Int
  GateField_Most : Int
  GateField_Words : List ByteArray
  GateField_To : ByteArray
  GateField_Role : Int
  GateField_Must : Bool
  GateField_Fixed : Bool
  GateField_Default : ByteArray
  GateField_Weighs : ByteArray
structure VwordField where
  GateField_Name : ByteArray
  GateField_Kind : Int
  GateField_Least : Int
  GateField_Most : Int
  GateField_Words : List ByteArray
  GateField_To : ByteArray
  GateField_Role : Int
  GateField_Must : Bool
  GateField_Fixed : Bool
  GateField_Default : ByteArray
  GateField_Weighs : ByteArray
structure VtextField where
  GateField_Name : ByteArray
  GateField_Kind : Int
  GateField_Least : Int
  GateField_Most : Int
  GateField_Words : List ByteArray
  GateField_To : ByteArray
  GateField_Role : Int
  GateField_Must : Bool
  GateField_Fixed : Bool
  GateField_Default : ByteArray
  GateField_Weighs : ByteArray
structure VlinkField where
  GateField_Name : ByteArray
  GateField_Kind : Int
  GateField_Least : Int
  GateField_Most : Int
  GateField_Words : List ByteArray
  GateField_To : ByteArray
  GateField_Role : Int
  GateField_Must : Bool
  GateField_Fixed : Bool
  GateField_Default : ByteArray
  GateField_Weighs : ByteArray
structure VGateRule where
  Verbs : List Int
  Kind : ByteArray
  Team : ByteArray
  Prefix : ByteArray
structure Vspot where
  kind : ByteArray
  name : ByteArray
abbrev C : Ty → Type
  | .e3 => Int
  | .e5 => Int
  | .e9 => ByteArray
  | .e29 => List VGateShape
  | .e30 => List VGateMend
  | .e37 => List ByteArray
  | .e43 => VGateObject
  | .e60 => List VGateField
  | .e74 => VGateShape
  | .e77 => VGateMend
  | .e81 => VGateShape
  | .e83 => VGateMend
  | .e100 => VGateField
  | .e103 => VGateTeam
  | .e106 => VGateTeam
  | .e134 => VGateField
  | .e173 => Option Nat
  | .e199 => VGateGrant
  | .e201 => VGateLedger
  | .e203 => VGatePurse
def enc : (t : Ty) → C t → List (Lf C)
  | .e3, x => [.int .i64 x]
  | .e5, x => [.int .u8 x]
  | .e9, x => [.str x]
  | .e29, x => [.row .e81 x]
  | .e30, x => [.row .e83 x]
  | .e37, x => [.row .e9 x]
  | .e43, x => [.str x.Kind, .str x.Name, .str x.Team, .row .e9 x.Values, .bool x.Ending, .row .e9 x.Holds, .int .i64 x.Version]
  | .e60, x => [.row .e100 x]
  | .e74, x => [.str x.Kind, .row .e134 x.Fields]
  | .e77, x => [.str x.Kind, .str x.Field, .str x.When, .str x.Is, .str x.Put, .str x.From]
  | .e81, x => [.str x.Kind, .row .e100 x.Fields]
  | .e83, x => [.str x.Kind, .str x.Field, .str x.When, .str x.Is, .str x.Put, .str x.From]
  | .e100, x => [.str x.Name, .int .i64 x.Kind, .int .i64 x.Least, .int .i64 x.Most, .row .e9 x.Words, .str x.To, .int .i64 x.Role, .bool x.Must, .bool x.Fixed, .str x.Default, .str x.Weighs]
  | .e103, x => [.str x.Name, .str x.Over]
  | .e106, x => [.str x.Name, .str x.Over]
  | .e134, x => [.str x.Name, .int .i64 x.Kind, .int .i64 x.Least, .int .i64 x.Most, .row .e9 x.Words, .str x.To, .int .i64 x.Role, .bool x.Must, .bool x.Fixed, .str x.Default, .str x.Weighs]
  | .e173, x => [.fnc x]
  | .e199, x => [.int .i64 x.Number, .str x.To, .str x.By, .row .e3 x.Rule_Verbs, .str x.Rule_Kind, .str x.Rule_Team, .str x.Rule_Prefix]
  | .e201, x => [.str x.Team, .str x.Resource, .int .i64 x.Most, .int .i64 x.Free]
  | .e203, x => [.str x.Door, .str x.Team, .str x.Resource, .int .i64 x.Amount, .int .i64 x.Until]
def d3 (cs : List (Lf C)) : Option (C .e3) := match cs with
  | [.int .i64 x] => some x
  | _ => none
theorem d3_ok (cs : List (Lf C)) (x : C .e3) (h : d3 cs = some x) : enc .e3 x = cs := by
  unfold d3 at h
  split at h
  · cases h; rfl
  · cases h
def d5 (cs : List (Lf C)) : Option (C .e5) := match cs with
  | [.int .u8 x] => some x
  | _ => none
theorem d5_ok (cs : List (Lf C)) (x : C .e5) (h : d5 cs = some x) : enc .e5 x = cs := by
  unfold d5 at h
  split at h
  · cases h; rfl
  · cases h
def d9 (cs : List (Lf C)) : Option (C .e9) := match cs with
  | [.str x] => some x
  | _ => none
theorem d9_ok (cs : List (Lf C)) (x : C .e9) (h : d9 cs = some x) : enc .e9 x = cs := by
  unfold d9 at h
  split at h
  · cases h; rfl
  · cases h
def d29 (cs : List (Lf C)) : Option (C .e29) := match cs with
  | [.row .e81 x] => some x
  | _ => none
theorem d29_ok (cs : List (Lf C)) (x : C .e29) (h : d29 cs = some x) : enc .e29 x = cs := by
  unfold d29 at h
  split at h
  · cases h; rfl
  · cases h
def d30 (cs : List (Lf C)) : Option (C .e30) := match cs with
  | [.row .e83 x] => some x
  | _ => none
theorem d30_ok (cs : List (Lf C)) (x : C .e30) (h : d30 cs = some x) : enc .e30 x = cs := by
  unfold d30 at h
  split at h
  · cases h; rfl
  · cases h
def d37 (cs : List (Lf C)) : Option (C .e37) := match cs with
  | [.row .e9 x] => some x
  | _ => none
theorem d37_ok (cs : List (Lf C)) (x : C .e37) (h : d37 cs = some x) : enc .e37 x = cs := by
  unfold d37 at h
  split at h
  · cases h; rfl
  · cases h
def d43 (cs : List (Lf C)) : Option (C .e43) := match cs with
  | [.str x0, .str x1, .str x2, .row .e9 x3, .bool x4, .row .e9 x5, .int .i64 x6] => some ⟨x0, x1, x2, x3, x4, x5, x6⟩
  | _ => none
theorem d43_ok (cs : List (Lf C)) (x : C .e43) (h : d43 cs = some x) : enc .e43 x = cs := by
  unfold d43 at h
  split at h
  · cases h; rfl
  · cases h
def d60 (cs : List (Lf C)) : Option (C .e60) := match cs with
  | [.row .e100 x] => some x
  | _ => none
theorem d60_ok (cs : List (Lf C)) (x : C .e60) (h : d60 cs = some x) : enc .e60 x = cs := by
  unfold d60 at h
  split at h
  · cases h; rfl
  · cases h
def d74 (cs : List (Lf C)) : Option (C .e74) := match cs with
  | [.str x0, .row .e134 x1] => some ⟨x0, x1⟩
  | _ => none
theorem d74_ok (cs : List (Lf C)) (x : C .e74) (h : d74 cs = some x) : enc .e74 x = cs := by
  unfold d74 at h
  split at h
  · cases h; rfl
  · cases h
def d77 (cs : List (Lf C)) : Option (C .e77) := match cs with
  | [.str x0, .str x1, .str x2, .str x3, .str x4, .str x5] => some ⟨x0, x1, x2, x3, x4, x5⟩
  | _ => none
theorem d77_ok (cs : List (Lf C)) (x : C .e77) (h : d77 cs = some x) : enc .e77 x = cs := by
  unfold d77 at h
  split at h
  · cases h; rfl
  · cases h
def d81 (cs : List (Lf C)) : Option (C .e81) := match cs with
  | [.str x0, .row .e100 x1] => some ⟨x0, x1⟩
  | _ => none
theorem d81_ok (cs : List (Lf C)) (x : C .e81) (h : d81 cs = some x) : enc .e81 x = cs := by
  unfold d81 at h
  split at h
  · cases h; rfl
  · cases h
def d83 (cs : List (Lf C)) : Option (C .e83) := match cs with
  | [.str x0, .str x1, .str x2, .str x3, .str x4, .str x5] => some ⟨x0, x1, x2, x3, x4, x5⟩
  | _ => none
theorem d83_ok (cs : List (Lf C)) (x : C .e83) (h : d83 cs = some x) : enc .e83 x = cs := by
  unfold d83 at h
  split at h
  · cases h; rfl
  · cases h
def d100 (cs : List (Lf C)) : Option (C .e100) := match cs with
  | [.str x0, .int .i64 x1, .int .i64 x2, .int .i64 x3, .row .e9 x4, .str x5, .int .i64 x6, .bool x7, .bool x8, .str x9, .str x10] => some ⟨x0, x1, x2, x3, x4, x5, x6, x7, x8, x9, x10⟩
  | _ => none
theorem d100_ok (cs : List (Lf C)) (x : C .e100) (h : d100 cs = some x) : enc .e100 x = cs := by
  unfold d100 at h
  split at h
  · cases h; rfl
  · cases h
def d103 (cs : List (Lf C)) : Option (C .e103) := match cs with
  | [.str x0, .str x1] => some ⟨x0, x1⟩
  | _ => none
theorem d103_ok (cs : List (Lf C)) (x : C .e103) (h : d103 cs = some x) : enc .e103 x = cs := by
  unfold d103 at h
  split at h
  · cases h; rfl
  · cases h
def d106 (cs : List (Lf C)) : Option (C .e106) := match cs with
  | [.str x0, .str x1] => some ⟨x0, x1⟩
  | _ => none
theorem d106_ok (cs : List (Lf C)) (x : C .e106) (h : d106 cs = some x) : enc .e106 x = cs := by
  unfold d106 at h
  split at h
  · cases h; rfl
  · cases h
def d134 (cs : List (Lf C)) : Option (C .e134) := match cs with
  | [.str x0, .int .i64 x1, .int .i64 x2, .int .i64 x3, .row .e9 x4, .str x5, .int .i64 x6, .bool x7, .bool x8, .str x9, .str x10] => some ⟨x0, x1, x2, x3, x4, x5, x6, x7, x8, x9, x10⟩
  | _ => none
theorem d134_ok (cs : List (Lf C)) (x : C .e134) (h : d134 cs = some x) : enc .e134 x = cs := by
  unfold d134 at h
  split at h
  · cases h; rfl
  · cases h
def d173 (cs : List (Lf C)) : Option (C .e173) := match cs with
  | [.fnc x] => some x
  | _ => none
theorem d173_ok (cs : List (Lf C)) (x : C .e173) (h : d173 cs = some x) : enc .e173 x = cs := by
  unfold d173 at h
  split at h
  · cases h; rfl
  · cases h
def d199 (cs : List (Lf C)) : Option (C .e199) := match cs with
  | [.int .i64 x0, .str x1, .str x2, .row .e3 x3, .str x4, .str x5, .str x6] => some ⟨x0, x1, x2, x3, x4, x5, x6⟩
  | _ => none
theorem d199_ok (cs : List (Lf C)) (x : C .e199) (h : d199 cs = some x) : enc .e199 x = cs := by
  unfold d199 at h
  split at h
  · cases h; rfl
  · cases h
def d201 (cs : List (Lf C)) : Option (C .e201) := match cs with
  | [.str x0, .str x1, .int .i64 x2, .int .i64 x3] => some ⟨x0, x1, x2, x3⟩
  | _ => none
theorem d201_ok (cs : List (Lf C)) (x : C .e201) (h : d201 cs = some x) : enc .e201 x = cs := by
  unfold d201 at h
  split at h
  · cases h; rfl
  · cases h
def d203 (cs : List (Lf C)) : Option (C .e203) := match cs with
  | [.str x0, .str x1, .str x2, .int .i64 x3, .int .i64 x4] => some ⟨x0, x1, x2, x3, x4⟩
  | _ => none
theorem d203_ok (cs : List (Lf C)) (x : C .e203) (h : d203 cs = some x) : enc .e203 x = cs := by
  unfold d203 at h
  split at h
  · cases h; rfl
  · cases h
def dec (t : Ty) : List (Lf C) → Option (C t) := match t with
  | .e3 => d3
  | .e5 => d5
  | .e9 => d9
  | .e29 => d29
  | .e30 => d30
  | .e37 => d37
  | .e43 => d43
  | .e60 => d60
  | .e74 => d74
  | .e77 => d77
  | .e81 => d81
  | .e83 => d83
  | .e100 => d100
  | .e103 => d103
  | .e106 => d106
  | .e134 => d134
  | .e173 => d173
  | .e199 => d199
  | .e201 => d201
  | .e203 => d203
noncomputable def KK : Cd C where
  enc := enc
  dec := dec
  sz := fun t => match t with
    | .e3 => 1
    | .e5 => 1
    | .e9 => 1
    | .e29 => 1
    | .e30 => 1
    | .e37 => 1
    | .e43 => 7
    | .e60 => 1
    | .e74 => 2
    | .e77 => 6
    | .e81 => 2
    | .e83 => 6
    | .e100 => 11
    | .e103 => 2
    | .e106 => 2
    | .e134 => 11
    | .e173 => 1
    | .e199 => 7
    | .e201 => 4
    | .e203 => 5
  tid := fun t => match t with
    | .e3 => 3
    | .e5 => 5
    | .e9 => 9
    | .e29 => 29
    | .e30 => 30
    | .e37 => 37
    | .e43 => 43
    | .e60 => 60
    | .e74 => 74
    | .e77 => 77
    | .e81 => 81
    | .e83 => 83
    | .e100 => 100
    | .e103 => 103
    | .e106 => 106
    | .e134 => 134
    | .e173 => 173
    | .e199 => 199
    | .e201 => 201
    | .e203 => 203
  bytes := fun t => match t with
    | .e3 => 8
    | .e5 => 1
    | .e9 => 16
    | .e29 => 24
    | .e30 => 24
    | .e37 => 24
    | .e43 => 112
    | .e60 => 24
    | .e74 => 40
    | .e77 => 96
    | .e81 => 40
    | .e83 => 96
    | .e100 => 128
    | .e103 => 32
    | .e106 => 32
    | .e134 => 128
    | .e173 => 8
    | .e199 => 112
    | .e201 => 48
    | .e203 => 64
  zero := fun t => match t with
    | .e3 => (0 : Int)
    | .e5 => (0 : Int)
    | .e9 => (⟨#[]⟩ : ByteArray)
    | .e29 => ([] : List VGateShape)
    | .e30 => ([] : List VGateMend)
    | .e37 => ([] : List ByteArray)
    | .e43 => (⟨⟨#[]⟩, ⟨#[]⟩, ⟨#[]⟩, [], false, [], 0⟩ : VGateObject)
    | .e60 => ([] : List VGateField)
    | .e74 => (⟨⟨#[]⟩, []⟩ : VGateShape)
    | .e77 => (⟨⟨#[]⟩, ⟨#[]⟩, ⟨#[]⟩, ⟨#[]⟩, ⟨#[]⟩, ⟨#[]⟩⟩ : VGateMend)
    | .e81 => (⟨⟨#[]⟩, []⟩ : VGateShape)
    | .e83 => (⟨⟨#[]⟩, ⟨#[]⟩, ⟨#[]⟩, ⟨#[]⟩, ⟨#[]⟩, ⟨#[]⟩⟩ : VGateMend)
    | .e100 => (⟨⟨#[]⟩, 0, 0, 0, [], ⟨#[]⟩, 0, false, false, ⟨#[]⟩, ⟨#[]⟩⟩ : VGateField)
    | .e103 => (⟨⟨#[]⟩, ⟨#[]⟩⟩ : VGateTeam)
    | .e106 => (⟨⟨#[]⟩, ⟨#[]⟩⟩ : VGateTeam)
    | .e134 => (⟨⟨#[]⟩, 0, 0, 0, [], ⟨#[]⟩, 0, false, false, ⟨#[]⟩, ⟨#[]⟩⟩ : VGateField)
    | .e173 => (none : Option Nat)
    | .e199 => (⟨0, ⟨#[]⟩, ⟨#[]⟩, [], ⟨#[]⟩, ⟨#[]⟩, ⟨#[]⟩⟩ : VGateGrant)
    | .e201 => (⟨⟨#[]⟩, ⟨#[]⟩, 0, 0⟩ : VGateLedger)
    | .e203 => (⟨⟨#[]⟩, ⟨#[]⟩, ⟨#[]⟩, 0, 0⟩ : VGatePurse)
  pos := fun t => by cases t <;> decide
  enc_len := fun t x => by cases t <;> rfl
  enc_dec := fun t cs x h => by
    cases t
    · exact d3_ok cs x h
    · exact d5_ok cs x h
    · exact d9_ok cs x h
    · exact d29_ok cs x h
    · exact d30_ok cs x h
    · exact d37_ok cs x h
    · exact d43_ok cs x h
    · exact d60_ok cs x h
    · exact d74_ok cs x h
    · exact d77_ok cs x h
    · exact d81_ok cs x h
    · exact d83_ok cs x h
    · exact d100_ok cs x h
    · exact d103_ok cs x h
    · exact d106_ok cs x h
    · exact d134_ok cs x h
    · exact d173_ok cs x h
    · exact d199_ok cs x h
    · exact d201_ok cs x h
    · exact d203_ok cs x h
  enc_plain := fun t x l h => by
    cases t <;> simp only [enc, List.mem_cons, List.not_mem_nil, or_false] at h <;> (first | (subst h; rfl) | (rcases h with rfl <;> rfl) | (repeat (rcases h with rfl | h; · rfl)) <;> (subst h; rfl))
  flat := fun t => match t with
    | .e3 => true
    | .e5 => true
    | .e9 => true
    | .e29 => false
    | .e30 => false
    | .e37 => false
    | .e43 => false
    | .e60 => false
    | .e74 => false
    | .e77 => true
    | .e81 => false
    | .e83 => true
    | .e100 => false
    | .e103 => true
    | .e106 => true
    | .e134 => false
    | .e173 => true
    | .e199 => false
    | .e201 => true
    | .e203 => true
  byte := fun t => match t with
    | .e3 => false
    | .e5 => true
    | .e9 => false
    | .e29 => false
    | .e30 => false
    | .e37 => false
    | .e43 => false
    | .e60 => false
    | .e74 => false
    | .e77 => false
    | .e81 => false
    | .e83 => false
    | .e100 => false
    | .e103 => false
    | .e106 => false
    | .e134 => false
    | .e173 => false
    | .e199 => false
    | .e201 => false
    | .e203 => false
  enc_byte := fun t ht x => by cases t <;> first | (cases ht; done) | exact ⟨_, rfl⟩
  enc_flat := fun t ht x t' ys h => by cases t <;> first | (cases ht; done) | (simp [enc] at h)
def tks : List (Nat × TK Ty) := [
  (1, .one (.fnc)),
  (2, .one (.int .i64)),
  (3, .one (.int .i64)),
  (4, .one (.bool)),
  (5, .one (.int .u8)),
  (6, .one (.int .u8)),
  (7, .agg [(0, 1, false), (1, 1, false), (2, 1, false), (3, 1, false)] [.int .i64, .int .i64, .bool, .int .u8]),
  (8, .agg [(0, 1, false), (1, 1, false), (2, 1, false), (3, 1, false)] [.int .i64, .int .i64, .bool, .int .u8]),
  (9, .one (.str)),
  (10, .one (.str)),
  (11, .one (.str)),
  (12, .one (.int .u64)),
  (13, .agg [(0, 1, false), (1, 1, false)] [.str, .int .u64]),
  (14, .agg [(0, 1, false), (1, 1, false)] [.str, .int .u64]),
  (15, .one (.ptr)),
  (16, .one (.ptr)),
  (17, .one (.ptr)),
  (18, .agg [(0, 1, false)] [.ptr]),
  (19, .agg [(0, 1, false)] [.ptr]),
  (20, .one (.nk .ifc)),
  (21, .one (.int .i32)),
  (22, .one (.sli .e74)),
  (23, .one (.sli .e77)),
  (24, .one (.sli .e103)),
  (25, .agg [(0, 1, false), (1, 1, false), (2, 1, false)] [.sli .e74, .sli .e77, .sli .e103]),
  (26, .agg [(0, 1, false), (1, 1, false), (2, 1, false)] [.sli .e74, .sli .e77, .sli .e103]),
  (27, .one (.fnc)),
  (28, .one (.fnc)),
  (29, .one (.sli .e81)),
  (30, .one (.sli .e83)),
  (31, .one (.sli .e106)),
  (32, .agg [(0, 1, false), (1, 1, false), (2, 1, false)] [.sli .e81, .sli .e83, .sli .e106]),
  (33, .agg [(0, 1, false), (1, 1, false), (2, 1, false)] [.sli .e81, .sli .e83, .sli .e106]),
  (34, .one (.fnc)),
  (35, .one (.fnc)),
  (36, .one (.fnc)),
  (37, .one (.sli .e9)),
  (38, .agg [(0, 1, false), (1, 1, false), (2, 1, false), (3, 1, false), (4, 1, false), (5, 1, false), (6, 1, false)] [.str, .str, .str, .sli .e9, .bool, .sli .e9, .int .i64]),
  (39, .agg [(0, 1, false), (1, 1, false), (2, 1, false), (3, 1, false), (4, 1, false), (5, 1, false), (6, 1, false)] [.str, .str, .str, .sli .e9, .bool, .sli .e9, .int .i64]),
  (40, .one (.fnc)),
  (41, .one (.fnc)),
  (42, .one (.fnc)),
  (43, .agg [(0, 1, false), (1, 1, false), (2, 1, false), (3, 1, false), (4, 1, false), (5, 1, false), (6, 1, false)] [.str, .str, .str, .sli .e9, .bool, .sli .e9, .int .i64]),
  (44, .one (.fnc)),
  (45, .one (.fnc)),
  (46, .one (.fnc)),
  (47, .one (.fnc)),
  (48, .one (.fnc)),
  (49, .one (.fnc)),
  (50, .one (.fnc)),
  (51, .one (.fnc)),
  (52, .one (.fnc)),
  (53, .one (.fnc)),
  (54, .one (.fnc)),
  (55, .one (.sli .e5)),
  (57, .one (.fnc)),
  (58, .one (.fnc)),
  (59, .one (.fnc)),
  (60, .one (.sli .e100)),
  (61, .one (.fnc)),
  (62, .one (.fnc)),
  (63, .one (.fnc)),
  (64, .one (.fnc)),
  (65, .one (.fnc)),
  (66, .one (.fnc)),
  (67, .one (.fnc)),
  (68, .one (.fnc)),
  (69, .one (.fnc)),
  (70, .one (.fnc)),
  (71, .one (.fnc)),
  (72, .one (.sli .e134)),
  (73, .agg [(0, 1, false), (1, 1, false)] [.str, .sli .e134]),
  (74, .agg [(0, 1, false), (1, 1, false)] [.str, .sli .e134]),
  (75, .one (.fnc)),
  (76, .agg [(0, 1, false), (1, 1, false), (2, 1, false), (3, 1, false), (4, 1, false), (5, 1, false)] [.str, .str, .str, .str, .str, .str]),
  (77, .agg [(0, 1, false), (1, 1, false), (2, 1, false), (3, 1, false), (4, 1, false), (5, 1, false)] [.str, .str, .str, .str, .str, .str]),
  (78, .one (.fnc)),
  (79, .one (.fnc)),
  (80, .agg [(0, 1, false), (1, 1, false)] [.str, .sli .e100]),
  (81, .agg [(0, 1, false), (1, 1, false)] [.str, .sli .e100]),
  (82, .one (.fnc)),
  (83, .agg [(0, 1, false), (1, 1, false), (2, 1, false), (3, 1, false), (4, 1, false), (5, 1, false)] [.str, .str, .str, .str, .str, .str]),
  (84, .one (.fnc)),
  (85, .one (.fnc)),
  (87, .one (.fnc)),
  (89, .one (.fnc)),
  (90, .one (.fnc)),
  (91, .one (.fnc)),
  (92, .one (.fnc)),
  (93, .one (.fnc)),
  (94, .one (.fnc)),
  (95, .one (.fnc)),
  (96, .one (.fnc)),
  (97, .one (.fnc)),
  (98, .one (.fnc)),
  (99, .agg [(0, 1, false), (1, 1, false), (2, 1, false), (3, 1, false), (4, 1, false), (5, 1, false), (6, 1, false), (7, 1, false), (8, 1, false), (9, 1, false), (10, 1, false)] [.str, .int .i64, .int .i64, .int .i64, .sli .e9, .str, .int .i64, .bool, .bool, .str, .str]),
  (100, .agg [(0, 1, false), (1, 1, false), (2, 1, false), (3, 1, false), (4, 1, false), (5, 1, false), (6, 1, false), (7, 1, false), (8, 1, false), (9, 1, false), (10, 1, false)] [.str, .int .i64, .int .i64, .int .i64, .sli .e9, .str, .int .i64, .bool, .bool, .str, .str]),
  (101, .one (.fnc)),
  (102, .agg [(0, 1, false), (1, 1, false)] [.str, .str]),
  (103, .agg [(0, 1, false), (1, 1, false)] [.str, .str]),
  (104, .one (.fnc)),
  (105, .one (.fnc)),
  (106, .agg [(0, 1, false), (1, 1, false)] [.str, .str]),
  (107, .one (.fnc)),
  (108, .one (.fnc)),
  (109, .one (.fnc)),
  (110, .one (.fnc)),
  (111, .one (.fnc)),
  (112, .one (.fnc)),
  (113, .one (.fnc)),
  (114, .one (.fnc)),
  (115, .one (.fnc)),
  (116, .one (.fnc)),
  (117, .one (.fnc)),
  (118, .one (.fnc)),
  (119, .one (.ptr)),
  (120, .one (.fnc)),
  (122, .one (.fnc)),
  (123, .one (.fnc)),
  (124, .one (.fnc)),
  (125, .one (.fnc)),
  (126, .one (.fnc)),
  (127, .one (.fnc)),
  (128, .one (.fnc)),
  (129, .one (.fnc)),
  (130, .one (.fnc)),
  (131, .one (.fnc)),
  (132, .one (.fnc)),
  (133, .one (.fnc)),
  (134, .agg [(0, 1, false), (1, 1, false), (2, 1, false), (3, 1, false), (4, 1, false), (5, 1, false), (6, 1, false), (7, 1, false), (8, 1, false), (9, 1, false), (10, 1, false)] [.str, .int .i64, .int .i64, .int .i64, .sli .e9, .str, .int .i64, .bool, .bool, .str, .str]),
  (135, .one (.fnc)),
  (136, .one (.nk .map)),
  (137, .one (.fnc)),
  (138, .agg [(0, 1, false), (1, 1, false)] [.sli .e5, .int .i64]),
  (139, .agg [(0, 1, false), (1, 1, false)] [.sli .e5, .int .i64]),
  (140, .one (.fnc)),
  (141, .one (.fnc)),
  (142, .one (.fnc)),
  (143, .one (.fnc)),
  (144, .one (.fnc)),
  (145, .one (.fnc)),
  (146, .one (.fnc)),
  (147, .one (.sli .e43)),
  (148, .one (.sli .e199)),
  (149, .one (.sli .e201)),
  (150, .one (.sli .e203)),
  (151, .agg [(0, 1, false), (1, 1, false), (2, 1, false), (3, 1, false), (4, 1, false), (5, 1, false), (6, 1, false)] [.int .i64, .int .i64, .int .i64, .sli .e43, .sli .e199, .sli .e201, .sli .e203]),
  (152, .agg [(0, 1, false), (1, 1, false), (2, 1, false), (3, 1, false), (4, 1, false), (5, 1, false), (6, 1, false)] [.int .i64, .int .i64, .int .i64, .sli .e43, .sli .e199, .sli .e201, .sli .e203]),
  (153, .one (.fnc)),
  (154, .one (.fnc)),
  (155, .one (.sli .e37)),
  (156, .one (.sli .e3)),
  (157, .one (.nk .ifc)),
  (158, .one (.nk .ifc)),
  (160, .one (.fnc)),
  (161, .one (.fnc)),
  (162, .one (.fnc)),
  (163, .one (.fnc)),
  (164, .one (.fnc)),
  (165, .one (.fnc)),
  (166, .one (.fnc)),
  (167, .one (.fnc)),
  (168, .one (.fnc)),
  (169, .one (.fnc)),
  (170, .one (.fnc)),
  (171, .agg [(0, 11, true)] [.str, .int .i64, .int .i64, .int .i64, .sli .e9, .str, .int .i64, .bool, .bool, .str, .str]),
  (172, .agg [(0, 11, true)] [.str, .int .i64, .int .i64, .int .i64, .sli .e9, .str, .int .i64, .bool, .bool, .str, .str]),
  (173, .one (.fnc)),
  (174, .agg [(0, 11, true)] [.str, .int .i64, .int .i64, .int .i64, .sli .e9, .str, .int .i64, .bool, .bool, .str, .str]),
  (175, .agg [(0, 11, true)] [.str, .int .i64, .int .i64, .int .i64, .sli .e9, .str, .int .i64, .bool, .bool, .str, .str]),
  (176, .agg [(0, 11, true)] [.str, .int .i64, .int .i64, .int .i64, .sli .e9, .str, .int .i64, .bool, .bool, .str, .str]),
  (177, .one (.nk .map)),
  (179, .one (.fnc)),
  (180, .agg [(0, 1, false), (1, 1, false), (2, 1, false), (3, 1, false)] [.ptr, .ptr, .ptr, .str]),
  (181, .agg [(0, 1, false), (1, 1, false), (2, 1, false), (3, 1, false)] [.ptr, .ptr, .ptr, .str]),
  (185, .one (.fnc)),
  (186, .one (.int .u32)),
  (187, .one (.int .u8)),
  (188, .one (.int .u8)),
  (189, .one (.fnc)),
  (190, .one (.ptr)),
  (191, .one (.int .i32)),
  (192, .one (.int .i32)),
  (193, .agg [(0, 1, false), (1, 1, false), (2, 1, false), (3, 1, false), (4, 1, false), (5, 1, false), (6, 1, false), (7, 1, false), (8, 1, false), (9, 1, false), (10, 1, false)] [.int .u64, .int .u64, .int .u32, .int .u8, .int .u8, .int .u8, .int .u8, .fnc, .ptr, .int .i32, .int .i32]),
  (194, .agg [(0, 1, false), (1, 1, false), (2, 1, false), (3, 1, false), (4, 1, false), (5, 1, false), (6, 1, false), (7, 1, false), (8, 1, false), (9, 1, false), (10, 1, false)] [.int .u64, .int .u64, .int .u32, .int .u8, .int .u8, .int .u8, .int .u8, .fnc, .ptr, .int .i32, .int .i32]),
  (195, .one (.fnc)),
  (196, .agg [(0, 1, false), (1, 1, false), (2, 1, false), (3, 1, false)] [.sli .e3, .str, .str, .str]),
  (197, .agg [(0, 1, false), (1, 1, false), (2, 1, false), (3, 1, false)] [.sli .e3, .str, .str, .str]),
  (198, .agg [(0, 1, false), (1, 1, false), (2, 1, false), (3, 4, true)] [.int .i64, .str, .str, .sli .e3, .str, .str, .str]),
  (199, .agg [(0, 1, false), (1, 1, false), (2, 1, false), (3, 4, true)] [.int .i64, .str, .str, .sli .e3, .str, .str, .str]),
  (200, .agg [(0, 1, false), (1, 1, false), (2, 1, false), (3, 1, false)] [.str, .str, .int .i64, .int .i64]),
  (201, .agg [(0, 1, false), (1, 1, false), (2, 1, false), (3, 1, false)] [.str, .str, .int .i64, .int .i64]),
  (202, .agg [(0, 1, false), (1, 1, false), (2, 1, false), (3, 1, false), (4, 1, false)] [.str, .str, .str, .int .i64, .int .i64]),
  (203, .agg [(0, 1, false), (1, 1, false), (2, 1, false), (3, 1, false), (4, 1, false)] [.str, .str, .str, .int .i64, .int .i64]),
  (205, .one (.fnc)),
  (207, .agg [(0, 1, false), (1, 1, false)] [.str, .str]),
  (208, .agg [(0, 1, false), (1, 1, false)] [.str, .str]),
  (209, .one (.fnc))]
theorem tf1 : TFact Go.Proofs.Try.prog KK 1 (.one (.fnc)) := tfact_fnc (by kernel_rfl) (by kernel_rfl) (by kernel_rfl)
theorem tf2 : TFact Go.Proofs.Try.prog KK 2 (.one (.int .i64)) := tfact_one (by kernel_rfl) (by kernel_rfl) (d := .int .i64) (by kernel_rfl) rfl
theorem tf3 : TFact Go.Proofs.Try.prog KK 3 (.one (.int .i64)) := tfact_one (by kernel_rfl) (by kernel_rfl) (d := .int .i64) (by kernel_rfl) rfl
theorem tf4 : TFact Go.Proofs.Try.prog KK 4 (.one (.bool)) := tfact_one (by kernel_rfl) (by kernel_rfl) (d := .bool) (by kernel_rfl) rfl
theorem tf5 : TFact Go.Proofs.Try.prog KK 5 (.one (.int .u8)) := tfact_one (by kernel_rfl) (by kernel_rfl) (d := .int .u8) (by kernel_rfl) rfl
theorem tf6 : TFact Go.Proofs.Try.prog KK 6 (.one (.int .u8)) := tfact_one (by kernel_rfl) (by kernel_rfl) (d := .int .u8) (by kernel_rfl) rfl
theorem tf7 : TFact Go.Proofs.Try.prog KK 7 (.agg [(0, 1, false), (1, 1, false), (2, 1, false), (3, 1, false)] [.int .i64, .int .i64, .bool, .int .u8]) := tfact_agg (by kernel_rfl) (by kernel_rfl) (by kernel_rfl)
theorem tf8 : TFact Go.Proofs.Try.prog KK 8 (.agg [(0, 1, false), (1, 1, false), (2, 1, false), (3, 1, false)] [.int .i64, .int .i64, .bool, .int .u8]) := tfact_agg (by kernel_rfl) (by kernel_rfl) (by kernel_rfl)
theorem tf9 : TFact Go.Proofs.Try.prog KK 9 (.one (.str)) := tfact_one (by kernel_rfl) (by kernel_rfl) (d := .string) (by kernel_rfl) rfl
theorem tf10 : TFact Go.Proofs.Try.prog KK 10 (.one (.str)) := tfact_one (by kernel_rfl) (by kernel_rfl) (d := .string) (by kernel_rfl) rfl
theorem tf11 : TFact Go.Proofs.Try.prog KK 11 (.one (.str)) := tfact_one (by kernel_rfl) (by kernel_rfl) (d := .string) (by kernel_rfl) rfl
theorem tf12 : TFact Go.Proofs.Try.prog KK 12 (.one (.int .u64)) := tfact_one (by kernel_rfl) (by kernel_rfl) (d := .int .u64) (by kernel_rfl) rfl
theorem tf13 : TFact Go.Proofs.Try.prog KK 13 (.agg [(0, 1, false), (1, 1, false)] [.str, .int .u64]) := tfact_agg (by kernel_rfl) (by kernel_rfl) (by kernel_rfl)
theorem tf14 : TFact Go.Proofs.Try.prog KK 14 (.agg [(0, 1, false), (1, 1, false)] [.str, .int .u64]) := tfact_agg (by kernel_rfl) (by kernel_rfl) (by kernel_rfl)
theorem tf15 : TFact Go.Proofs.Try.prog KK 15 (.one (.ptr)) := tfact_one (by kernel_rfl) (by kernel_rfl) (d := .pointer 181) (by kernel_rfl) ⟨_, rfl⟩
theorem tf16 : TFact Go.Proofs.Try.prog KK 16 (.one (.ptr)) := tfact_one (by kernel_rfl) (by kernel_rfl) (d := .pointer 184) (by kernel_rfl) ⟨_, rfl⟩
theorem tf17 : TFact Go.Proofs.Try.prog KK 17 (.one (.ptr)) := tfact_one (by kernel_rfl) (by kernel_rfl) (d := .pointer 194) (by kernel_rfl) ⟨_, rfl⟩
theorem tf18 : TFact Go.Proofs.Try.prog KK 18 (.agg [(0, 1, false)] [.ptr]) := tfact_agg (by kernel_rfl) (by kernel_rfl) (by kernel_rfl)
theorem tf19 : TFact Go.Proofs.Try.prog KK 19 (.agg [(0, 1, false)] [.ptr]) := tfact_agg (by kernel_rfl) (by kernel_rfl) (by kernel_rfl)
theorem tf20 : TFact Go.Proofs.Try.prog KK 20 (.one (.nk .ifc)) := tfact_ifc (by kernel_rfl) (by kernel_rfl) (by kernel_rfl)
theorem tf21 : TFact Go.Proofs.Try.prog KK 21 (.one (.int .i32)) := tfact_one (by kernel_rfl) (by kernel_rfl) (d := .int .i32) (by kernel_rfl) rfl
theorem tf22 : TFact Go.Proofs.Try.prog KK 22 (.one (.sli .e74)) := tfact_one (by kernel_rfl) (by kernel_rfl) (d := .slice 74) (by kernel_rfl) rfl
theorem tf23 : TFact Go.Proofs.Try.prog KK 23 (.one (.sli .e77)) := tfact_one (by kernel_rfl) (by kernel_rfl) (d := .slice 77) (by kernel_rfl) rfl
theorem tf24 : TFact Go.Proofs.Try.prog KK 24 (.one (.sli .e103)) := tfact_one (by kernel_rfl) (by kernel_rfl) (d := .slice 103) (by kernel_rfl) rfl
theorem tf25 : TFact Go.Proofs.Try.prog KK 25 (.agg [(0, 1, false), (1, 1, false), (2, 1, false)] [.sli .e74, .sli .e77, .sli .e103]) := tfact_agg (by kernel_rfl) (by kernel_rfl) (by kernel_rfl)
theorem tf26 : TFact Go.Proofs.Try.prog KK 26 (.agg [(0, 1, false), (1, 1, false), (2, 1, false)] [.sli .e74, .sli .e77, .sli .e103]) := tfact_agg (by kernel_rfl) (by kernel_rfl) (by kernel_rfl)
theorem tf27 : TFact Go.Proofs.Try.prog KK 27 (.one (.fnc)) := tfact_fnc (by kernel_rfl) (by kernel_rfl) (by kernel_rfl)
theorem tf28 : TFact Go.Proofs.Try.prog KK 28 (.one (.fnc)) := tfact_fnc (by kernel_rfl) (by kernel_rfl) (by kernel_rfl)
theorem tf29 : TFact Go.Proofs.Try.prog KK 29 (.one (.sli .e81)) := tfact_one (by kernel_rfl) (by kernel_rfl) (d := .slice 81) (by kernel_rfl) rfl
theorem tf30 : TFact Go.Proofs.Try.prog KK 30 (.one (.sli .e83)) := tfact_one (by kernel_rfl) (by kernel_rfl) (d := .slice 83) (by kernel_rfl) rfl
theorem tf31 : TFact Go.Proofs.Try.prog KK 31 (.one (.sli .e106)) := tfact_one (by kernel_rfl) (by kernel_rfl) (d := .slice 106) (by kernel_rfl) rfl
theorem tf32 : TFact Go.Proofs.Try.prog KK 32 (.agg [(0, 1, false), (1, 1, false), (2, 1, false)] [.sli .e81, .sli .e83, .sli .e106]) := tfact_agg (by kernel_rfl) (by kernel_rfl) (by kernel_rfl)
theorem tf33 : TFact Go.Proofs.Try.prog KK 33 (.agg [(0, 1, false), (1, 1, false), (2, 1, false)] [.sli .e81, .sli .e83, .sli .e106]) := tfact_agg (by kernel_rfl) (by kernel_rfl) (by kernel_rfl)
theorem tf34 : TFact Go.Proofs.Try.prog KK 34 (.one (.fnc)) := tfact_fnc (by kernel_rfl) (by kernel_rfl) (by kernel_rfl)
theorem tf35 : TFact Go.Proofs.Try.prog KK 35 (.one (.fnc)) := tfact_fnc (by kernel_rfl) (by kernel_rfl) (by kernel_rfl)
theorem tf36 : TFact Go.Proofs.Try.prog KK 36 (.one (.fnc)) := tfact_fnc (by kernel_rfl) (by kernel_rfl) (by kernel_rfl)
theorem tf37 : TFact Go.Proofs.Try.prog KK 37 (.one (.sli .e9)) := tfact_one (by kernel_rfl) (by kernel_rfl) (d := .slice 9) (by kernel_rfl) rfl
theorem tf38 : TFact Go.Proofs.Try.prog KK 38 (.agg [(0, 1, false), (1, 1, false), (2, 1, false), (3, 1, false), (4, 1, false), (5, 1, false), (6, 1, false)] [.str, .str, .str, .sli .e9, .bool, .sli .e9, .int .i64]) := tfact_agg (by kernel_rfl) (by kernel_rfl) (by kernel_rfl)
theorem tf39 : TFact Go.Proofs.Try.prog KK 39 (.agg [(0, 1, false), (1, 1, false), (2, 1, false), (3, 1, false), (4, 1, false), (5, 1, false), (6, 1, false)] [.str, .str, .str, .sli .e9, .bool, .sli .e9, .int .i64]) := tfact_agg (by kernel_rfl) (by kernel_rfl) (by kernel_rfl)
theorem tf40 : TFact Go.Proofs.Try.prog KK 40 (.one (.fnc)) := tfact_fnc (by kernel_rfl) (by kernel_rfl) (by kernel_rfl)
theorem tf41 : TFact Go.Proofs.Try.prog KK 41 (.one (.fnc)) := tfact_fnc (by kernel_rfl) (by kernel_rfl) (by kernel_rfl)
theorem tf42 : TFact Go.Proofs.Try.prog KK 42 (.one (.fnc)) := tfact_fnc (by kernel_rfl) (by kernel_rfl) (by kernel_rfl)
theorem tf43 : TFact Go.Proofs.Try.prog KK 43 (.agg [(0, 1, false), (1, 1, false), (2, 1, false), (3, 1, false), (4, 1, false), (5, 1, false), (6, 1, false)] [.str, .str, .str, .sli .e9, .bool, .sli .e9, .int .i64]) := tfact_agg (by kernel_rfl) (by kernel_rfl) (by kernel_rfl)
theorem tf44 : TFact Go.Proofs.Try.prog KK 44 (.one (.fnc)) := tfact_fnc (by kernel_rfl) (by kernel_rfl) (by kernel_rfl)
theorem tf45 : TFact Go.Proofs.Try.prog KK 45 (.one (.fnc)) := tfact_fnc (by kernel_rfl) (by kernel_rfl) (by kernel_rfl)
theorem tf46 : TFact Go.Proofs.Try.prog KK 46 (.one (.fnc)) := tfact_fnc (by kernel_rfl) (by kernel_rfl) (by kernel_rfl)
theorem tf47 : TFact Go.Proofs.Try.prog KK 47 (.one (.fnc)) := tfact_fnc (by kernel_rfl) (by kernel_rfl) (by kernel_rfl)
theorem tf48 : TFact Go.Proofs.Try.prog KK 48 (.one (.fnc)) := tfact_fnc (by kernel_rfl) (by kernel_rfl) (by kernel_rfl)
theorem tf49 : TFact Go.Proofs.Try.prog KK 49 (.one (.fnc)) := tfact_fnc (by kernel_rfl) (by kernel_rfl) (by kernel_rfl)
theorem tf50 : TFact Go.Proofs.Try.prog KK 50 (.one (.fnc)) := tfact_fnc (by kernel_rfl) (by kernel_rfl) (by kernel_rfl)
theorem tf51 : TFact Go.Proofs.Try.prog KK 51 (.one (.fnc)) := tfact_fnc (by kernel_rfl) (by kernel_rfl) (by kernel_rfl)
theorem tf52 : TFact Go.Proofs.Try.prog KK 52 (.one (.fnc)) := tfact_fnc (by kernel_rfl) (by kernel_rfl) (by kernel_rfl)
theorem tf53 : TFact Go.Proofs.Try.prog KK 53 (.one (.fnc)) := tfact_fnc (by kernel_rfl) (by kernel_rfl) (by kernel_rfl)
theorem tf54 : TFact Go.Proofs.Try.prog KK 54 (.one (.fnc)) := tfact_fnc (by kernel_rfl) (by kernel_rfl) (by kernel_rfl)
theorem tf55 : TFact Go.Proofs.Try.prog KK 55 (.one (.sli .e5)) := tfact_one (by kernel_rfl) (by kernel_rfl) (d := .slice 5) (by kernel_rfl) rfl
theorem tf57 : TFact Go.Proofs.Try.prog KK 57 (.one (.fnc)) := tfact_fnc (by kernel_rfl) (by kernel_rfl) (by kernel_rfl)
theorem tf58 : TFact Go.Proofs.Try.prog KK 58 (.one (.fnc)) := tfact_fnc (by kernel_rfl) (by kernel_rfl) (by kernel_rfl)
theorem tf59 : TFact Go.Proofs.Try.prog KK 59 (.one (.fnc)) := tfact_fnc (by kernel_rfl) (by kernel_rfl) (by kernel_rfl)
theorem tf60 : TFact Go.Proofs.Try.prog KK 60 (.one (.sli .e100)) := tfact_one (by kernel_rfl) (by kernel_rfl) (d := .slice 100) (by kernel_rfl) rfl
theorem tf61 : TFact Go.Proofs.Try.prog KK 61 (.one (.fnc)) := tfact_fnc (by kernel_rfl) (by kernel_rfl) (by kernel_rfl)
theorem tf62 : TFact Go.Proofs.Try.prog KK 62 (.one (.fnc)) := tfact_fnc (by kernel_rfl) (by kernel_rfl) (by kernel_rfl)
theorem tf63 : TFact Go.Proofs.Try.prog KK 63 (.one (.fnc)) := tfact_fnc (by kernel_rfl) (by kernel_rfl) (by kernel_rfl)
theorem tf64 : TFact Go.Proofs.Try.prog KK 64 (.one (.fnc)) := tfact_fnc (by kernel_rfl) (by kernel_rfl) (by kernel_rfl)
theorem tf65 : TFact Go.Proofs.Try.prog KK 65 (.one (.fnc)) := tfact_fnc (by kernel_rfl) (by kernel_rfl) (by kernel_rfl)
theorem tf66 : TFact Go.Proofs.Try.prog KK 66 (.one (.fnc)) := tfact_fnc (by kernel_rfl) (by kernel_rfl) (by kernel_rfl)
theorem tf67 : TFact Go.Proofs.Try.prog KK 67 (.one (.fnc)) := tfact_fnc (by kernel_rfl) (by kernel_rfl) (by kernel_rfl)
theorem tf68 : TFact Go.Proofs.Try.prog KK 68 (.one (.fnc)) := tfact_fnc (by kernel_rfl) (by kernel_rfl) (by kernel_rfl)
theorem tf69 : TFact Go.Proofs.Try.prog KK 69 (.one (.fnc)) := tfact_fnc (by kernel_rfl) (by kernel_rfl) (by kernel_rfl)
theorem tf70 : TFact Go.Proofs.Try.prog KK 70 (.one (.fnc)) := tfact_fnc (by kernel_rfl) (by kernel_rfl) (by kernel_rfl)
theorem tf71 : TFact Go.Proofs.Try.prog KK 71 (.one (.fnc)) := tfact_fnc (by kernel_rfl) (by kernel_rfl) (by kernel_rfl)
theorem tf72 : TFact Go.Proofs.Try.prog KK 72 (.one (.sli .e134)) := tfact_one (by kernel_rfl) (by kernel_rfl) (d := .slice 134) (by kernel_rfl) rfl
theorem tf73 : TFact Go.Proofs.Try.prog KK 73 (.agg [(0, 1, false), (1, 1, false)] [.str, .sli .e134]) := tfact_agg (by kernel_rfl) (by kernel_rfl) (by kernel_rfl)
theorem tf74 : TFact Go.Proofs.Try.prog KK 74 (.agg [(0, 1, false), (1, 1, false)] [.str, .sli .e134]) := tfact_agg (by kernel_rfl) (by kernel_rfl) (by kernel_rfl)
theorem tf75 : TFact Go.Proofs.Try.prog KK 75 (.one (.fnc)) := tfact_fnc (by kernel_rfl) (by kernel_rfl) (by kernel_rfl)
theorem tf76 : TFact Go.Proofs.Try.prog KK 76 (.agg [(0, 1, false), (1, 1, false), (2, 1, false), (3, 1, false), (4, 1, false), (5, 1, false)] [.str, .str, .str, .str, .str, .str]) := tfact_agg (by kernel_rfl) (by kernel_rfl) (by kernel_rfl)
theorem tf77 : TFact Go.Proofs.Try.prog KK 77 (.agg [(0, 1, false), (1, 1, false), (2, 1, false), (3, 1, false), (4, 1, false), (5, 1, false)] [.str, .str, .str, .str, .str, .str]) := tfact_agg (by kernel_rfl) (by kernel_rfl) (by kernel_rfl)
theorem tf78 : TFact Go.Proofs.Try.prog KK 78 (.one (.fnc)) := tfact_fnc (by kernel_rfl) (by kernel_rfl) (by kernel_rfl)
theorem tf79 : TFact Go.Proofs.Try.prog KK 79 (.one (.fnc)) := tfact_fnc (by kernel_rfl) (by kernel_rfl) (by kernel_rfl)
theorem tf80 : TFact Go.Proofs.Try.prog KK 80 (.agg [(0, 1, false), (1, 1, false)] [.str, .sli .e100]) := tfact_agg (by kernel_rfl) (by kernel_rfl) (by kernel_rfl)
theorem tf81 : TFact Go.Proofs.Try.prog KK 81 (.agg [(0, 1, false), (1, 1, false)] [.str, .sli .e100]) := tfact_agg (by kernel_rfl) (by kernel_rfl) (by kernel_rfl)
theorem tf82 : TFact Go.Proofs.Try.prog KK 82 (.one (.fnc)) := tfact_fnc (by kernel_rfl) (by kernel_rfl) (by kernel_rfl)
theorem tf83 : TFact Go.Proofs.Try.prog KK 83 (.agg [(0, 1, false), (1, 1, false), (2, 1, false), (3, 1, false), (4, 1, false), (5, 1, false)] [.str, .str, .str, .str, .str, .str]) := tfact_agg (by kernel_rfl) (by kernel_rfl) (by kernel_rfl)
theorem tf84 : TFact Go.Proofs.Try.prog KK 84 (.one (.fnc)) := tfact_fnc (by kernel_rfl) (by kernel_rfl) (by kernel_rfl)
theorem tf85 : TFact Go.Proofs.Try.prog KK 85 (.one (.fnc)) := tfact_fnc (by kernel_rfl) (by kernel_rfl) (by kernel_rfl)
theorem tf87 : TFact Go.Proofs.Try.prog KK 87 (.one (.fnc)) := tfact_fnc (by kernel_rfl) (by kernel_rfl) (by kernel_rfl)
theorem tf89 : TFact Go.Proofs.Try.prog KK 89 (.one (.fnc)) := tfact_fnc (by kernel_rfl) (by kernel_rfl) (by kernel_rfl)
theorem tf90 : TFact Go.Proofs.Try.prog KK 90 (.one (.fnc)) := tfact_fnc (by kernel_rfl) (by kernel_rfl) (by kernel_rfl)
theorem tf91 : TFact Go.Proofs.Try.prog KK 91 (.one (.fnc)) := tfact_fnc (by kernel_rfl) (by kernel_rfl) (by kernel_rfl)
theorem tf92 : TFact Go.Proofs.Try.prog KK 92 (.one (.fnc)) := tfact_fnc (by kernel_rfl) (by kernel_rfl) (by kernel_rfl)
theorem tf93 : TFact Go.Proofs.Try.prog KK 93 (.one (.fnc)) := tfact_fnc (by kernel_rfl) (by kernel_rfl) (by kernel_rfl)
theorem tf94 : TFact Go.Proofs.Try.prog KK 94 (.one (.fnc)) := tfact_fnc (by kernel_rfl) (by kernel_rfl) (by kernel_rfl)
theorem tf95 : TFact Go.Proofs.Try.prog KK 95 (.one (.fnc)) := tfact_fnc (by kernel_rfl) (by kernel_rfl) (by kernel_rfl)
theorem tf96 : TFact Go.Proofs.Try.prog KK 96 (.one (.fnc)) := tfact_fnc (by kernel_rfl) (by kernel_rfl) (by kernel_rfl)
theorem tf97 : TFact Go.Proofs.Try.prog KK 97 (.one (.fnc)) := tfact_fnc (by kernel_rfl) (by kernel_rfl) (by kernel_rfl)
theorem tf98 : TFact Go.Proofs.Try.prog KK 98 (.one (.fnc)) := tfact_fnc (by kernel_rfl) (by kernel_rfl) (by kernel_rfl)
theorem tf99 : TFact Go.Proofs.Try.prog KK 99 (.agg [(0, 1, false), (1, 1, false), (2, 1, false), (3, 1, false), (4, 1, false), (5, 1, false), (6, 1, false), (7, 1, false), (8, 1, false), (9, 1, false), (10, 1, false)] [.str, .int .i64, .int .i64, .int .i64, .sli .e9, .str, .int .i64, .bool, .bool, .str, .str]) := tfact_agg (by kernel_rfl) (by kernel_rfl) (by kernel_rfl)
theorem tf100 : TFact Go.Proofs.Try.prog KK 100 (.agg [(0, 1, false), (1, 1, false), (2, 1, false), (3, 1, false), (4, 1, false), (5, 1, false), (6, 1, false), (7, 1, false), (8, 1, false), (9, 1, false), (10, 1, false)] [.str, .int .i64, .int .i64, .int .i64, .sli .e9, .str, .int .i64, .bool, .bool, .str, .str]) := tfact_agg (by kernel_rfl) (by kernel_rfl) (by kernel_rfl)
theorem tf101 : TFact Go.Proofs.Try.prog KK 101 (.one (.fnc)) := tfact_fnc (by kernel_rfl) (by kernel_rfl) (by kernel_rfl)
theorem tf102 : TFact Go.Proofs.Try.prog KK 102 (.agg [(0, 1, false), (1, 1, false)] [.str, .str]) := tfact_agg (by kernel_rfl) (by kernel_rfl) (by kernel_rfl)
theorem tf103 : TFact Go.Proofs.Try.prog KK 103 (.agg [(0, 1, false), (1, 1, false)] [.str, .str]) := tfact_agg (by kernel_rfl) (by kernel_rfl) (by kernel_rfl)
theorem tf104 : TFact Go.Proofs.Try.prog KK 104 (.one (.fnc)) := tfact_fnc (by kernel_rfl) (by kernel_rfl) (by kernel_rfl)
theorem tf105 : TFact Go.Proofs.Try.prog KK 105 (.one (.fnc)) := tfact_fnc (by kernel_rfl) (by kernel_rfl) (by kernel_rfl)
theorem tf106 : TFact Go.Proofs.Try.prog KK 106 (.agg [(0, 1, false), (1, 1, false)] [.str, .str]) := tfact_agg (by kernel_rfl) (by kernel_rfl) (by kernel_rfl)
theorem tf107 : TFact Go.Proofs.Try.prog KK 107 (.one (.fnc)) := tfact_fnc (by kernel_rfl) (by kernel_rfl) (by kernel_rfl)
theorem tf108 : TFact Go.Proofs.Try.prog KK 108 (.one (.fnc)) := tfact_fnc (by kernel_rfl) (by kernel_rfl) (by kernel_rfl)
theorem tf109 : TFact Go.Proofs.Try.prog KK 109 (.one (.fnc)) := tfact_fnc (by kernel_rfl) (by kernel_rfl) (by kernel_rfl)
theorem tf110 : TFact Go.Proofs.Try.prog KK 110 (.one (.fnc)) := tfact_fnc (by kernel_rfl) (by kernel_rfl) (by kernel_rfl)
theorem tf111 : TFact Go.Proofs.Try.prog KK 111 (.one (.fnc)) := tfact_fnc (by kernel_rfl) (by kernel_rfl) (by kernel_rfl)
theorem tf112 : TFact Go.Proofs.Try.prog KK 112 (.one (.fnc)) := tfact_fnc (by kernel_rfl) (by kernel_rfl) (by kernel_rfl)
theorem tf113 : TFact Go.Proofs.Try.prog KK 113 (.one (.fnc)) := tfact_fnc (by kernel_rfl) (by kernel_rfl) (by kernel_rfl)
theorem tf114 : TFact Go.Proofs.Try.prog KK 114 (.one (.fnc)) := tfact_fnc (by kernel_rfl) (by kernel_rfl) (by kernel_rfl)
theorem tf115 : TFact Go.Proofs.Try.prog KK 115 (.one (.fnc)) := tfact_fnc (by kernel_rfl) (by kernel_rfl) (by kernel_rfl)
theorem tf116 : TFact Go.Proofs.Try.prog KK 116 (.one (.fnc)) := tfact_fnc (by kernel_rfl) (by kernel_rfl) (by kernel_rfl)
theorem tf117 : TFact Go.Proofs.Try.prog KK 117 (.one (.fnc)) := tfact_fnc (by kernel_rfl) (by kernel_rfl) (by kernel_rfl)
theorem tf118 : TFact Go.Proofs.Try.prog KK 118 (.one (.fnc)) := tfact_fnc (by kernel_rfl) (by kernel_rfl) (by kernel_rfl)
theorem tf119 : TFact Go.Proofs.Try.prog KK 119 (.one (.ptr)) := tfact_one (by kernel_rfl) (by kernel_rfl) (d := .pointer 139) (by kernel_rfl) ⟨_, rfl⟩
theorem tf120 : TFact Go.Proofs.Try.prog KK 120 (.one (.fnc)) := tfact_fnc (by kernel_rfl) (by kernel_rfl) (by kernel_rfl)
theorem tf122 : TFact Go.Proofs.Try.prog KK 122 (.one (.fnc)) := tfact_fnc (by kernel_rfl) (by kernel_rfl) (by kernel_rfl)
theorem tf123 : TFact Go.Proofs.Try.prog KK 123 (.one (.fnc)) := tfact_fnc (by kernel_rfl) (by kernel_rfl) (by kernel_rfl)
theorem tf124 : TFact Go.Proofs.Try.prog KK 124 (.one (.fnc)) := tfact_fnc (by kernel_rfl) (by kernel_rfl) (by kernel_rfl)
theorem tf125 : TFact Go.Proofs.Try.prog KK 125 (.one (.fnc)) := tfact_fnc (by kernel_rfl) (by kernel_rfl) (by kernel_rfl)
theorem tf126 : TFact Go.Proofs.Try.prog KK 126 (.one (.fnc)) := tfact_fnc (by kernel_rfl) (by kernel_rfl) (by kernel_rfl)
theorem tf127 : TFact Go.Proofs.Try.prog KK 127 (.one (.fnc)) := tfact_fnc (by kernel_rfl) (by kernel_rfl) (by kernel_rfl)
theorem tf128 : TFact Go.Proofs.Try.prog KK 128 (.one (.fnc)) := tfact_fnc (by kernel_rfl) (by kernel_rfl) (by kernel_rfl)
theorem tf129 : TFact Go.Proofs.Try.prog KK 129 (.one (.fnc)) := tfact_fnc (by kernel_rfl) (by kernel_rfl) (by kernel_rfl)
theorem tf130 : TFact Go.Proofs.Try.prog KK 130 (.one (.fnc)) := tfact_fnc (by kernel_rfl) (by kernel_rfl) (by kernel_rfl)
theorem tf131 : TFact Go.Proofs.Try.prog KK 131 (.one (.fnc)) := tfact_fnc (by kernel_rfl) (by kernel_rfl) (by kernel_rfl)
theorem tf132 : TFact Go.Proofs.Try.prog KK 132 (.one (.fnc)) := tfact_fnc (by kernel_rfl) (by kernel_rfl) (by kernel_rfl)
theorem tf133 : TFact Go.Proofs.Try.prog KK 133 (.one (.fnc)) := tfact_fnc (by kernel_rfl) (by kernel_rfl) (by kernel_rfl)
theorem tf134 : TFact Go.Proofs.Try.prog KK 134 (.agg [(0, 1, false), (1, 1, false), (2, 1, false), (3, 1, false), (4, 1, false), (5, 1, false), (6, 1, false), (7, 1, false), (8, 1, false), (9, 1, false), (10, 1, false)] [.str, .int .i64, .int .i64, .int .i64, .sli .e9, .str, .int .i64, .bool, .bool, .str, .str]) := tfact_agg (by kernel_rfl) (by kernel_rfl) (by kernel_rfl)
theorem tf135 : TFact Go.Proofs.Try.prog KK 135 (.one (.fnc)) := tfact_fnc (by kernel_rfl) (by kernel_rfl) (by kernel_rfl)
theorem tf136 : TFact Go.Proofs.Try.prog KK 136 (.one (.nk .map)) := tfact_map (by kernel_rfl) (by kernel_rfl) (by kernel_rfl)
theorem tf137 : TFact Go.Proofs.Try.prog KK 137 (.one (.fnc)) := tfact_fnc (by kernel_rfl) (by kernel_rfl) (by kernel_rfl)
theorem tf138 : TFact Go.Proofs.Try.prog KK 138 (.agg [(0, 1, false), (1, 1, false)] [.sli .e5, .int .i64]) := tfact_agg (by kernel_rfl) (by kernel_rfl) (by kernel_rfl)
theorem tf139 : TFact Go.Proofs.Try.prog KK 139 (.agg [(0, 1, false), (1, 1, false)] [.sli .e5, .int .i64]) := tfact_agg (by kernel_rfl) (by kernel_rfl) (by kernel_rfl)
theorem tf140 : TFact Go.Proofs.Try.prog KK 140 (.one (.fnc)) := tfact_fnc (by kernel_rfl) (by kernel_rfl) (by kernel_rfl)
theorem tf141 : TFact Go.Proofs.Try.prog KK 141 (.one (.fnc)) := tfact_fnc (by kernel_rfl) (by kernel_rfl) (by kernel_rfl)
theorem tf142 : TFact Go.Proofs.Try.prog KK 142 (.one (.fnc)) := tfact_fnc (by kernel_rfl) (by kernel_rfl) (by kernel_rfl)
theorem tf143 : TFact Go.Proofs.Try.prog KK 143 (.one (.fnc)) := tfact_fnc (by kernel_rfl) (by kernel_rfl) (by kernel_rfl)
theorem tf144 : TFact Go.Proofs.Try.prog KK 144 (.one (.fnc)) := tfact_fnc (by kernel_rfl) (by kernel_rfl) (by kernel_rfl)
theorem tf145 : TFact Go.Proofs.Try.prog KK 145 (.one (.fnc)) := tfact_fnc (by kernel_rfl) (by kernel_rfl) (by kernel_rfl)
theorem tf146 : TFact Go.Proofs.Try.prog KK 146 (.one (.fnc)) := tfact_fnc (by kernel_rfl) (by kernel_rfl) (by kernel_rfl)
theorem tf147 : TFact Go.Proofs.Try.prog KK 147 (.one (.sli .e43)) := tfact_one (by kernel_rfl) (by kernel_rfl) (d := .slice 43) (by kernel_rfl) rfl
theorem tf148 : TFact Go.Proofs.Try.prog KK 148 (.one (.sli .e199)) := tfact_one (by kernel_rfl) (by kernel_rfl) (d := .slice 199) (by kernel_rfl) rfl
theorem tf149 : TFact Go.Proofs.Try.prog KK 149 (.one (.sli .e201)) := tfact_one (by kernel_rfl) (by kernel_rfl) (d := .slice 201) (by kernel_rfl) rfl
theorem tf150 : TFact Go.Proofs.Try.prog KK 150 (.one (.sli .e203)) := tfact_one (by kernel_rfl) (by kernel_rfl) (d := .slice 203) (by kernel_rfl) rfl
theorem tf151 : TFact Go.Proofs.Try.prog KK 151 (.agg [(0, 1, false), (1, 1, false), (2, 1, false), (3, 1, false), (4, 1, false), (5, 1, false), (6, 1, false)] [.int .i64, .int .i64, .int .i64, .sli .e43, .sli .e199, .sli .e201, .sli .e203]) := tfact_agg (by kernel_rfl) (by kernel_rfl) (by kernel_rfl)
theorem tf152 : TFact Go.Proofs.Try.prog KK 152 (.agg [(0, 1, false), (1, 1, false), (2, 1, false), (3, 1, false), (4, 1, false), (5, 1, false), (6, 1, false)] [.int .i64, .int .i64, .int .i64, .sli .e43, .sli .e199, .sli .e201, .sli .e203]) := tfact_agg (by kernel_rfl) (by kernel_rfl) (by kernel_rfl)
theorem tf153 : TFact Go.Proofs.Try.prog KK 153 (.one (.fnc)) := tfact_fnc (by kernel_rfl) (by kernel_rfl) (by kernel_rfl)
theorem tf154 : TFact Go.Proofs.Try.prog KK 154 (.one (.fnc)) := tfact_fnc (by kernel_rfl) (by kernel_rfl) (by kernel_rfl)
theorem tf155 : TFact Go.Proofs.Try.prog KK 155 (.one (.sli .e37)) := tfact_one (by kernel_rfl) (by kernel_rfl) (d := .slice 37) (by kernel_rfl) rfl
theorem tf156 : TFact Go.Proofs.Try.prog KK 156 (.one (.sli .e3)) := tfact_one (by kernel_rfl) (by kernel_rfl) (d := .slice 3) (by kernel_rfl) rfl
theorem tf157 : TFact Go.Proofs.Try.prog KK 157 (.one (.nk .ifc)) := tfact_ifc (by kernel_rfl) (by kernel_rfl) (by kernel_rfl)
theorem tf158 : TFact Go.Proofs.Try.prog KK 158 (.one (.nk .ifc)) := tfact_ifc (by kernel_rfl) (by kernel_rfl) (by kernel_rfl)
theorem tf160 : TFact Go.Proofs.Try.prog KK 160 (.one (.fnc)) := tfact_fnc (by kernel_rfl) (by kernel_rfl) (by kernel_rfl)
theorem tf161 : TFact Go.Proofs.Try.prog KK 161 (.one (.fnc)) := tfact_fnc (by kernel_rfl) (by kernel_rfl) (by kernel_rfl)
theorem tf162 : TFact Go.Proofs.Try.prog KK 162 (.one (.fnc)) := tfact_fnc (by kernel_rfl) (by kernel_rfl) (by kernel_rfl)
theorem tf163 : TFact Go.Proofs.Try.prog KK 163 (.one (.fnc)) := tfact_fnc (by kernel_rfl) (by kernel_rfl) (by kernel_rfl)
theorem tf164 : TFact Go.Proofs.Try.prog KK 164 (.one (.fnc)) := tfact_fnc (by kernel_rfl) (by kernel_rfl) (by kernel_rfl)
theorem tf165 : TFact Go.Proofs.Try.prog KK 165 (.one (.fnc)) := tfact_fnc (by kernel_rfl) (by kernel_rfl) (by kernel_rfl)
theorem tf166 : TFact Go.Proofs.Try.prog KK 166 (.one (.fnc)) := tfact_fnc (by kernel_rfl) (by kernel_rfl) (by kernel_rfl)
theorem tf167 : TFact Go.Proofs.Try.prog KK 167 (.one (.fnc)) := tfact_fnc (by kernel_rfl) (by kernel_rfl) (by kernel_rfl)
theorem tf168 : TFact Go.Proofs.Try.prog KK 168 (.one (.fnc)) := tfact_fnc (by kernel_rfl) (by kernel_rfl) (by kernel_rfl)
theorem tf169 : TFact Go.Proofs.Try.prog KK 169 (.one (.fnc)) := tfact_fnc (by kernel_rfl) (by kernel_rfl) (by kernel_rfl)
theorem tf170 : TFact Go.Proofs.Try.prog KK 170 (.one (.fnc)) := tfact_fnc (by kernel_rfl) (by kernel_rfl) (by kernel_rfl)
theorem tf171 : TFact Go.Proofs.Try.prog KK 171 (.agg [(0, 11, true)] [.str, .int .i64, .int .i64, .int .i64, .sli .e9, .str, .int .i64, .bool, .bool, .str, .str]) := tfact_agg (by kernel_rfl) (by kernel_rfl) (by kernel_rfl)
theorem tf172 : TFact Go.Proofs.Try.prog KK 172 (.agg [(0, 11, true)] [.str, .int .i64, .int .i64, .int .i64, .sli .e9, .str, .int .i64, .bool, .bool, .str, .str]) := tfact_agg (by kernel_rfl) (by kernel_rfl) (by kernel_rfl)
theorem tf173 : TFact Go.Proofs.Try.prog KK 173 (.one (.fnc)) := tfact_fnc (by kernel_rfl) (by kernel_rfl) (by kernel_rfl)
theorem tf174 : TFact Go.Proofs.Try.prog KK 174 (.agg [(0, 11, true)] [.str, .int .i64, .int .i64, .int .i64, .sli .e9, .str, .int .i64, .bool, .bool, .str, .str]) := tfact_agg (by kernel_rfl) (by kernel_rfl) (by kernel_rfl)
theorem tf175 : TFact Go.Proofs.Try.prog KK 175 (.agg [(0, 11, true)] [.str, .int .i64, .int .i64, .int .i64, .sli .e9, .str, .int .i64, .bool, .bool, .str, .str]) := tfact_agg (by kernel_rfl) (by kernel_rfl) (by kernel_rfl)
theorem tf176 : TFact Go.Proofs.Try.prog KK 176 (.agg [(0, 11, true)] [.str, .int .i64, .int .i64, .int .i64, .sli .e9, .str, .int .i64, .bool, .bool, .str, .str]) := tfact_agg (by kernel_rfl) (by kernel_rfl) (by kernel_rfl)
theorem tf177 : TFact Go.Proofs.Try.prog KK 177 (.one (.nk .map)) := tfact_map (by kernel_rfl) (by kernel_rfl) (by kernel_rfl)
theorem tf179 : TFact Go.Proofs.Try.prog KK 179 (.one (.fnc)) := tfact_fnc (by kernel_rfl) (by kernel_rfl) (by kernel_rfl)
theorem tf180 : TFact Go.Proofs.Try.prog KK 180 (.agg [(0, 1, false), (1, 1, false), (2, 1, false), (3, 1, false)] [.ptr, .ptr, .ptr, .str]) := tfact_agg (by kernel_rfl) (by kernel_rfl) (by kernel_rfl)
theorem tf181 : TFact Go.Proofs.Try.prog KK 181 (.agg [(0, 1, false), (1, 1, false), (2, 1, false), (3, 1, false)] [.ptr, .ptr, .ptr, .str]) := tfact_agg (by kernel_rfl) (by kernel_rfl) (by kernel_rfl)
theorem tf185 : TFact Go.Proofs.Try.prog KK 185 (.one (.fnc)) := tfact_fnc (by kernel_rfl) (by kernel_rfl) (by kernel_rfl)
theorem tf186 : TFact Go.Proofs.Try.prog KK 186 (.one (.int .u32)) := tfact_one (by kernel_rfl) (by kernel_rfl) (d := .int .u32) (by kernel_rfl) rfl
theorem tf187 : TFact Go.Proofs.Try.prog KK 187 (.one (.int .u8)) := tfact_one (by kernel_rfl) (by kernel_rfl) (d := .int .u8) (by kernel_rfl) rfl
theorem tf188 : TFact Go.Proofs.Try.prog KK 188 (.one (.int .u8)) := tfact_one (by kernel_rfl) (by kernel_rfl) (d := .int .u8) (by kernel_rfl) rfl
theorem tf189 : TFact Go.Proofs.Try.prog KK 189 (.one (.fnc)) := tfact_fnc (by kernel_rfl) (by kernel_rfl) (by kernel_rfl)
theorem tf190 : TFact Go.Proofs.Try.prog KK 190 (.one (.ptr)) := tfact_one (by kernel_rfl) (by kernel_rfl) (d := .pointer 5) (by kernel_rfl) ⟨_, rfl⟩
theorem tf191 : TFact Go.Proofs.Try.prog KK 191 (.one (.int .i32)) := tfact_one (by kernel_rfl) (by kernel_rfl) (d := .int .i32) (by kernel_rfl) rfl
theorem tf192 : TFact Go.Proofs.Try.prog KK 192 (.one (.int .i32)) := tfact_one (by kernel_rfl) (by kernel_rfl) (d := .int .i32) (by kernel_rfl) rfl
theorem tf193 : TFact Go.Proofs.Try.prog KK 193 (.agg [(0, 1, false), (1, 1, false), (2, 1, false), (3, 1, false), (4, 1, false), (5, 1, false), (6, 1, false), (7, 1, false), (8, 1, false), (9, 1, false), (10, 1, false)] [.int .u64, .int .u64, .int .u32, .int .u8, .int .u8, .int .u8, .int .u8, .fnc, .ptr, .int .i32, .int .i32]) := tfact_agg (by kernel_rfl) (by kernel_rfl) (by kernel_rfl)
theorem tf194 : TFact Go.Proofs.Try.prog KK 194 (.agg [(0, 1, false), (1, 1, false), (2, 1, false), (3, 1, false), (4, 1, false), (5, 1, false), (6, 1, false), (7, 1, false), (8, 1, false), (9, 1, false), (10, 1, false)] [.int .u64, .int .u64, .int .u32, .int .u8, .int .u8, .int .u8, .int .u8, .fnc, .ptr, .int .i32, .int .i32]) := tfact_agg (by kernel_rfl) (by kernel_rfl) (by kernel_rfl)
theorem tf195 : TFact Go.Proofs.Try.prog KK 195 (.one (.fnc)) := tfact_fnc (by kernel_rfl) (by kernel_rfl) (by kernel_rfl)
theorem tf196 : TFact Go.Proofs.Try.prog KK 196 (.agg [(0, 1, false), (1, 1, false), (2, 1, false), (3, 1, false)] [.sli .e3, .str, .str, .str]) := tfact_agg (by kernel_rfl) (by kernel_rfl) (by kernel_rfl)
theorem tf197 : TFact Go.Proofs.Try.prog KK 197 (.agg [(0, 1, false), (1, 1, false), (2, 1, false), (3, 1, false)] [.sli .e3, .str, .str, .str]) := tfact_agg (by kernel_rfl) (by kernel_rfl) (by kernel_rfl)
theorem tf198 : TFact Go.Proofs.Try.prog KK 198 (.agg [(0, 1, false), (1, 1, false), (2, 1, false), (3, 4, true)] [.int .i64, .str, .str, .sli .e3, .str, .str, .str]) := tfact_agg (by kernel_rfl) (by kernel_rfl) (by kernel_rfl)
theorem tf199 : TFact Go.Proofs.Try.prog KK 199 (.agg [(0, 1, false), (1, 1, false), (2, 1, false), (3, 4, true)] [.int .i64, .str, .str, .sli .e3, .str, .str, .str]) := tfact_agg (by kernel_rfl) (by kernel_rfl) (by kernel_rfl)
theorem tf200 : TFact Go.Proofs.Try.prog KK 200 (.agg [(0, 1, false), (1, 1, false), (2, 1, false), (3, 1, false)] [.str, .str, .int .i64, .int .i64]) := tfact_agg (by kernel_rfl) (by kernel_rfl) (by kernel_rfl)
theorem tf201 : TFact Go.Proofs.Try.prog KK 201 (.agg [(0, 1, false), (1, 1, false), (2, 1, false), (3, 1, false)] [.str, .str, .int .i64, .int .i64]) := tfact_agg (by kernel_rfl) (by kernel_rfl) (by kernel_rfl)
theorem tf202 : TFact Go.Proofs.Try.prog KK 202 (.agg [(0, 1, false), (1, 1, false), (2, 1, false), (3, 1, false), (4, 1, false)] [.str, .str, .str, .int .i64, .int .i64]) := tfact_agg (by kernel_rfl) (by kernel_rfl) (by kernel_rfl)
theorem tf203 : TFact Go.Proofs.Try.prog KK 203 (.agg [(0, 1, false), (1, 1, false), (2, 1, false), (3, 1, false), (4, 1, false)] [.str, .str, .str, .int .i64, .int .i64]) := tfact_agg (by kernel_rfl) (by kernel_rfl) (by kernel_rfl)
theorem tf205 : TFact Go.Proofs.Try.prog KK 205 (.one (.fnc)) := tfact_fnc (by kernel_rfl) (by kernel_rfl) (by kernel_rfl)
theorem tf207 : TFact Go.Proofs.Try.prog KK 207 (.agg [(0, 1, false), (1, 1, false)] [.str, .str]) := tfact_agg (by kernel_rfl) (by kernel_rfl) (by kernel_rfl)
theorem tf208 : TFact Go.Proofs.Try.prog KK 208 (.agg [(0, 1, false), (1, 1, false)] [.str, .str]) := tfact_agg (by kernel_rfl) (by kernel_rfl) (by kernel_rfl)
theorem tf209 : TFact Go.Proofs.Try.prog KK 209 (.one (.fnc)) := tfact_fnc (by kernel_rfl) (by kernel_rfl) (by kernel_rfl)
set_option maxRecDepth 100000 in
theorem tks_ok : ∀ T k, lk tks T = some k → TFact Go.Proofs.Try.prog KK T k := tk_all (l := tks) ⟨tf1, tf2, tf3, tf4, tf5, tf6, tf7, tf8, tf9, tf10, tf11, tf12, tf13, tf14, tf15, tf16, tf17, tf18, tf19, tf20, tf21, tf22, tf23, tf24, tf25, tf26, tf27, tf28, tf29, tf30, tf31, tf32, tf33, tf34, tf35, tf36, tf37, tf38, tf39, tf40, tf41, tf42, tf43, tf44, tf45, tf46, tf47, tf48, tf49, tf50, tf51, tf52, tf53, tf54, tf55, tf57, tf58, tf59, tf60, tf61, tf62, tf63, tf64, tf65, tf66, tf67, tf68, tf69, tf70, tf71, tf72, tf73, tf74, tf75, tf76, tf77, tf78, tf79, tf80, tf81, tf82, tf83, tf84, tf85, tf87, tf89, tf90, tf91, tf92, tf93, tf94, tf95, tf96, tf97, tf98, tf99, tf100, tf101, tf102, tf103, tf104, tf105, tf106, tf107, tf108, tf109, tf110, tf111, tf112, tf113, tf114, tf115, tf116, tf117, tf118, tf119, tf120, tf122, tf123, tf124, tf125, tf126, tf127, tf128, tf129, tf130, tf131, tf132, tf133, tf134, tf135, tf136, tf137, tf138, tf139, tf140, tf141, tf142, tf143, tf144, tf145, tf146, tf147, tf148, tf149, tf150, tf151, tf152, tf153, tf154, tf155, tf156, tf157, tf158, tf160, tf161, tf162, tf163, tf164, tf165, tf166, tf167, tf168, tf169, tf170, tf171, tf172, tf173, tf174, tf175, tf176, tf177, tf179, tf180, tf181, tf185, tf186, tf187, tf188, tf189, tf190, tf191, tf192, tf193, tf194, tf195, tf196, tf197, tf198, tf199, tf200, tf201, tf202, tf203, tf205, tf207, tf208, tf209, trivial⟩
theorem els_ok : ∀ t, EFact Go.Proofs.Try.prog KK t := by
  intro t
  cases t
  · exact efact (z := .int .i64 0) (by kernel_rfl) (by show 0 < 8; decide) (by kernel_rfl) (by kernel_rfl)
  · exact efact (z := .int .u8 0) (by kernel_rfl) (by show 0 < 1; decide) (by kernel_rfl) (by kernel_rfl)
  · exact efact (z := .string ⟨#[]⟩) (by kernel_rfl) (by show 0 < 16; decide) (by kernel_rfl) (by kernel_rfl)
  · exact efact (z := .slice none 0 0) (by kernel_rfl) (by show 0 < 24; decide) (by kernel_rfl) (by kernel_rfl)
  · exact efact (z := .slice none 0 0) (by kernel_rfl) (by show 0 < 24; decide) (by kernel_rfl) (by kernel_rfl)
  · exact efact (z := .slice none 0 0) (by kernel_rfl) (by show 0 < 24; decide) (by kernel_rfl) (by kernel_rfl)
  · exact efact (z := .agg #[.string ⟨#[]⟩, .string ⟨#[]⟩, .string ⟨#[]⟩, .slice none 0 0, .bool false, .slice none 0 0, .int .i64 0]) (by kernel_rfl) (by show 0 < 112; decide) (by kernel_rfl) (by kernel_rfl)
  · exact efact (z := .slice none 0 0) (by kernel_rfl) (by show 0 < 24; decide) (by kernel_rfl) (by kernel_rfl)
  · exact efact (z := .agg #[.string ⟨#[]⟩, .slice none 0 0]) (by kernel_rfl) (by show 0 < 40; decide) (by kernel_rfl) (by kernel_rfl)
  · exact efact (z := .agg #[.string ⟨#[]⟩, .string ⟨#[]⟩, .string ⟨#[]⟩, .string ⟨#[]⟩, .string ⟨#[]⟩, .string ⟨#[]⟩]) (by kernel_rfl) (by show 0 < 96; decide) (by kernel_rfl) (by kernel_rfl)
  · exact efact (z := .agg #[.string ⟨#[]⟩, .slice none 0 0]) (by kernel_rfl) (by show 0 < 40; decide) (by kernel_rfl) (by kernel_rfl)
  · exact efact (z := .agg #[.string ⟨#[]⟩, .string ⟨#[]⟩, .string ⟨#[]⟩, .string ⟨#[]⟩, .string ⟨#[]⟩, .string ⟨#[]⟩]) (by kernel_rfl) (by show 0 < 96; decide) (by kernel_rfl) (by kernel_rfl)
  · exact efact (z := .agg #[.string ⟨#[]⟩, .int .i64 0, .int .i64 0, .int .i64 0, .slice none 0 0, .string ⟨#[]⟩, .int .i64 0, .bool false, .bool false, .string ⟨#[]⟩, .string ⟨#[]⟩]) (by kernel_rfl) (by show 0 < 128; decide) (by kernel_rfl) (by kernel_rfl)
  · exact efact (z := .agg #[.string ⟨#[]⟩, .string ⟨#[]⟩]) (by kernel_rfl) (by show 0 < 32; decide) (by kernel_rfl) (by kernel_rfl)
  · exact efact (z := .agg #[.string ⟨#[]⟩, .string ⟨#[]⟩]) (by kernel_rfl) (by show 0 < 32; decide) (by kernel_rfl) (by kernel_rfl)
  · exact efact (z := .agg #[.string ⟨#[]⟩, .int .i64 0, .int .i64 0, .int .i64 0, .slice none 0 0, .string ⟨#[]⟩, .int .i64 0, .bool false, .bool false, .string ⟨#[]⟩, .string ⟨#[]⟩]) (by kernel_rfl) (by show 0 < 128; decide) (by kernel_rfl) (by kernel_rfl)
  · exact efact (z := .nilFunc) (by kernel_rfl) (by show 0 < 8; decide) (by kernel_rfl) (by kernel_rfl)
  · exact efact (z := .agg #[.int .i64 0, .string ⟨#[]⟩, .string ⟨#[]⟩, .slice none 0 0, .string ⟨#[]⟩, .string ⟨#[]⟩, .string ⟨#[]⟩]) (by kernel_rfl) (by show 0 < 112; decide) (by kernel_rfl) (by kernel_rfl)
  · exact efact (z := .agg #[.string ⟨#[]⟩, .string ⟨#[]⟩, .int .i64 0, .int .i64 0]) (by kernel_rfl) (by show 0 < 48; decide) (by kernel_rfl) (by kernel_rfl)
  · exact efact (z := .agg #[.string ⟨#[]⟩, .string ⟨#[]⟩, .string ⟨#[]⟩, .int .i64 0, .int .i64 0]) (by kernel_rfl) (by show 0 < 64; decide) (by kernel_rfl) (by kernel_rfl)
def mps : List (Nat × MT Ty) := [(136, ⟨⟨false, false, false, false⟩, .e9, .e3⟩), (177, ⟨⟨false, false, false, true⟩, .e3, .e173⟩)]
theorem mf136 : MFact Go.Proofs.Try.prog KK 136 ⟨⟨false, false, false, false⟩, .e9, .e3⟩ := mfact_str (kid := 9) (eid := 3) (by kernel_rfl) (by kernel_rfl) (fun x => ⟨x, rfl⟩) rfl rfl rfl (by kernel_rfl) (fun _ _ => rfl)
theorem mf177 : MFact Go.Proofs.Try.prog KK 177 ⟨⟨false, false, false, true⟩, .e3, .e173⟩ := mfact_int (kid := 3) (eid := 173) (by kernel_rfl) (by kernel_rfl) (fun x => ⟨x, rfl⟩) rfl rfl rfl (by kernel_rfl) (fun _ _ => rfl)
theorem mps_ok : ∀ T m, lk mps T = some m → MFact Go.Proofs.Try.prog KK T m := mp_of (by
  intro x hx
  simp only [mps, List.mem_cons, List.not_mem_nil, or_false] at hx
  rcases hx with rfl | rfl
  · exact mf136
  · exact mf177)
def meths : List (Nat × String × Nat) := [(8, "Error", 137), (8, "RuntimeError", 138), (10, "Error", 139), (10, "RuntimeError", 140), (11, "Error", 141), (11, "RuntimeError", 142), (14, "Error", 143), (14, "RuntimeError", 144), (15, "Error", 145), (15, "RuntimeError", 146), (16, "Error", 147), (16, "RuntimeError", 148), (17, "Align", 149), (19, "Error", 150), (19, "RuntimeError", 151), (43, "loop.example/wharfdesk/impl.spot", 152), (43, "loop.example/wharfdesk/impl.twin", 52), (119, "loop.example/wharfdesk/spec.of", 119), (119, "loop.example/wharfdesk/spec.pick", 112), (152, "loop.example/wharfdesk/impl.grantsOk", 153), (172, "loop.example/wharfdesk/impl.clean", 154), (172, "loop.example/wharfdesk/impl.fits", 155), (172, "loop.example/wharfdesk/impl.sound", 156), (174, "loop.example/wharfdesk/impl.clean", 158), (174, "loop.example/wharfdesk/impl.fits", 159), (174, "loop.example/wharfdesk/impl.sound", 160), (175, "loop.example/wharfdesk/impl.clean", 161), (175, "loop.example/wharfdesk/impl.fits", 162), (175, "loop.example/wharfdesk/impl.sound", 163), (176, "loop.example/wharfdesk/impl.clean", 164), (176, "loop.example/wharfdesk/impl.fits", 165), (176, "loop.example/wharfdesk/impl.sound", 166), (188, "String", 167), (197, "loop.example/wharfdesk/impl.ok", 168), (199, "loop.example/wharfdesk/impl.twin", 169)]
theorem meths_ok : ∀ T name f, lkS meths T name = some f → ∀ v w, (method (Go.Proofs.Try.prog.types.size + Made.depth) T v name).run Go.Proofs.Try.prog w = .ok (f, v) w := meth_of (by kernel_rfl)
end Go.Proofs.Ytkiognopoigbhaa.Ab
