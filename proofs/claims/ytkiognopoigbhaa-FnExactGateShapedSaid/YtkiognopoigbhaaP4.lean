/- A codec, printed by codec.py: structures, cells, the table of types and its facts. -/
import Derived.Test.YtkiognopoigbhaaP3
import Derived.Test.YtkiognopoigbhaaProg
import Derived.KernelRfl
set_option linter.unusedVariables false
set_option linter.unusedSimpArgs false
namespace Go.Proofs.Ytkiognopoigbhaa.Ab
open Go Go.RowKit
inductive Ty where
  | e3
  | e5
  | e9
  | e29
  | e30
  | e37
  | e43
  | e60
  | e74
  | e77
  | e81
  | e83
  | e100
  | e103
  | e106
  | e134
  | e173
  | e199
  | e201
  | e203
  deriving DecidableEq
structure VGateField where
  Name : ByteArray
  Kind : Int
  Least : Int
  Most : Int
  Words : List ByteArray
  To : ByteArray
  Role : Int
  Must : Bool
  Fixed : Bool
  Default : ByteArray
  Weighs : ByteArray
structure VGateShape where
  Kind : ByteArray
  Fields : List VGateField
structure VGateMend where
  Kind : ByteArray
  Field : ByteArray
  When : ByteArray
  Is : ByteArray
  Put : ByteArray
  From : ByteArray
structure VGateObject where
  Kind : ByteArray
  Name : ByteArray
  Team : ByteArray
  Values : List ByteArray
  Ending : Bool
  Holds : List ByteArray
  Version : Int
structure VGateTeam where
  Name : ByteArray
  Over : ByteArray
structure VGateGrant where
  Number : Int
  To : ByteArray
  By : ByteArray
  Rule_Verbs : List Int
  Rule_Kind : ByteArray
  Rule_Team : ByteArray
  Rule_Prefix : ByteArray
structure VGateLedger where
  Team : ByteArray
  Resource : ByteArray
  Most : Int
  Free : Int
structure VGatePurse where
  Door : ByteArray
  Team : ByteArray
  Resource : ByteArray
  Amount : Int
  Until : Int
structure VboundsError where
  x : Int
  y : Int
  signed : Bool
  code : Int
structure VerrorAddressString where
  msg : ByteArray
  addr : Int
structure VGateLaw where
  Shapes : List VGateShape
  Mends : List VGateMend
  Teams : List VGateTeam
structure Vl1Rd where
  b : List Int
  p : Int
structure VGateBook where
  Now : Int
  Tick : Int
  Given : Int
  Objects : List VGateObject
  Grants : List VGateGrant
  Ledgers : List VGateLedger
  Purses : List VGatePurse
structure VnumberField where
  GateField_Name : ByteArray
  GateField_Kind : Int
  GateField_Least : Int
  GateField_Most : Int
  GateField_Words : List ByteArray
  GateField_To : ByteArray
  GateField_Role : Int
  GateField_Must : Bool
  GateField_Fixed : Bool
  GateField_Default : ByteArray
  GateField_Weighs : ByteArray
structure VwordField where
  GateField_Name : ByteArray
  GateField_Kind : Int
  GateField_Least : Int
  GateField_Most : Int
  GateField_Words : List ByteArray
  GateField_To : ByteArray
  GateField_Role : Int
  GateField_Must : Bool
  GateField_Fixed : Bool
  GateField_Default : ByteArray
  GateField_Weighs : ByteArray
structure VtextField where
  GateField_Name : ByteArray
  GateField_Kind : Int
  GateField_Least : Int
  GateField_Most : Int
  GateField_Words : List ByteArray
  GateField_To : ByteArray
  GateField_Role : Int
  GateField_Must : Bool
  GateField_Fixed : Bool
  GateField_Default : ByteArray
  GateField_Weighs : ByteArray
structure VlinkField where
  GateField_Name : ByteArray
  GateField_Kind : Int
  GateField_Least : Int
  GateField_Most : Int
  GateField_Words : List ByteArray
  GateField_To : ByteArray
  GateField_Role : Int
  GateField_Must : Bool
  GateField_Fixed : Bool
  GateField_Default : ByteArray
  GateField_Weighs : ByteArray
structure VGateRule where
  Verbs : List Int
  Kind : ByteArray
  Team : ByteArray
  Prefix : ByteArray
structure Vspot where
  kind : ByteArray
  name : ByteArray
abbrev C : Ty → Type
  | .e3 => Int
  | .e5 => Int
  | .e9 => ByteArray
  | .e29 => List VGateShape
  | .e30 => List VGateMend
  | .e37 => List ByteArray
  | .e43 => VGateObject
  | .e60 => List VGateField
  | .e74 => VGateShape
  | .e77 => VGateMend
  | .e81 => VGateShape
  | .e83 => VGateMend
  | .e100 => VGateField
  | .e103 => VGateTeam
  | .e106 => VGateTeam
  | .e134 => VGateField
  | .e173 => Option Nat
  | .e199 => VGateGrant
  | .e201 => VGateLedger
  | .e203 => VGatePurse
def enc : (t : Ty) → C t → List (Lf C)
  | .e3, x => [.int .i64 x]
  | .e5, x => [.int .u8 x]
  | .e9, x => [.str x]
  | .e29, x => [.row .e81 x]
  | .e30, x => [.row .e83 x]
  | .e37, x => [.row .e9 x]
  | .e43, x => [.str x.Kind, .str x.Name, .str x.Team, .row .e9 x.Values, .bool x.Ending, .row .e9 x.Holds, .int .i64 x.Version]
  | .e60, x => [.row .e100 x]
  | .e74, x => [.str x.Kind, .row .e134 x.Fields]
  | .e77, x => [.str x.Kind, .str x.Field, .str x.When, .str x.Is, .str x.Put, .str x.From]
  | .e81, x => [.str x.Kind, .row .e100 x.Fields]
  | .e83, x => [.str x.Kind, .str x.Field, .str x.When, .str x.Is, .str x.Put, .str x.From]
  | .e100, x => [.str x.Name, .int .i64 x.Kind, .int .i64 x.Least, .int .i64 x.Most, .row .e9 x.Words, .str x.To, .int .i64 x.Role, .bool x.Must, .bool x.Fixed, .str x.Default, .str x.Weighs]
  | .e103, x => [.str x.Name, .str x.Over]
  | .e106, x => [.str x.Name, .str x.Over]
  | .e134, x => [.str x.Name, .int .i64 x.Kind, .int .i64 x.Least, .int .i64 x.Most, .row .e9 x.Words, .str x.To, .int .i64 x.Role, .bool x.Must, .bool x.Fixed, .str x.Default, .str x.Weighs]
  | .e173, x => [.fnc x]
  | .e199, x => [.int .i64 x.Number, .str x.To, .str x.By, .row .e3 x.Rule_Verbs, .str x.Rule_Kind, .str x.Rule_Team, .str x.Rule_Prefix]
  | .e201, x => [.str x.Team, .str x.Resource, .int .i64 x.Most, .int .i64 x.Free]
  | .e203, x => [.str x.Door, .str x.Team, .str x.Resource, .int .i64 x.Amount, .int .i64 x.Until]
def d3 (cs : List (Lf C)) : Option (C .e3) := match cs with
  | [.int .i64 x] => some x
  | _ => none
theorem d3_ok (cs : List (Lf C)) (x : C .e3) (h : d3 cs = some x) : enc .e3 x = cs := by
  unfold d3 at h
  split at h
  · cases h; rfl
  · cases h
def d5 (cs : List (Lf C)) : Option (C .e5) := match cs with
  | [.int .u8 x] => some x
  | _ => none
theorem d5_ok (cs : List (Lf C)) (x : C .e5) (h : d5 cs = some x) : enc .e5 x = cs := by
  unfold d5 at h
  split at h
  · cases h; rfl
  · cases h
def d9 (cs : List (Lf C)) : Option (C .e9) := match cs with
  | [.str x] => some x
  | _ => none
theorem d9_ok (cs : List (Lf C)) (x : C .e9) (h : d9 cs = some x) : enc .e9 x = cs := by
  unfold d9 at h
  split at h
  · cases h; rfl
  · cases h
def d29 (cs : List (Lf C)) : Option (C .e29) := match cs with
  | [.row .e81 x] => some x
  | _ => none
theorem d29_ok (cs : List (Lf C)) (x : C .e29) (h : d29 cs = some x) : enc .e29 x = cs := by
  unfold d29 at h
  split at h
  · cases h; rfl
  · cases h
def d30 (cs : List (Lf C)) : Option (C .e30) := match cs with
  | [.row .e83 x] => some x
  | _ => none
theorem d30_ok (cs : List (Lf C)) (x : C .e30) (h : d30 cs = some x) : enc .e30 x = cs := by
  unfold d30 at h
  split at h
  · cases h; rfl
  · cases h
def d37 (cs : List (Lf C)) : Option (C .e37) := match cs with
  | [.row .e9 x] => some x
  | _ => none
theorem d37_ok (cs : List (Lf C)) (x : C .e37) (h : d37 cs = some x) : enc .e37 x = cs := by
  unfold d37 at h
  split at h
  · cases h; rfl
  · cases h
def d43 (cs : List (Lf C)) : Option (C .e43) := match cs with
  | [.str x0, .str x1, .str x2, .row .e9 x3, .bool x4, .row .e9 x5, .int .i64 x6] => some ⟨x0, x1, x2, x3, x4, x5, x6⟩
  | _ => none
theorem d43_ok (cs : List (Lf C)) (x : C .e43) (h : d43 cs = some x) : enc .e43 x = cs := by
  unfold d43 at h
  split at h
  · cases h; rfl
  · cases h
def d60 (cs : List (Lf C)) : Option (C .e60) := match cs with
  | [.row .e100 x] => some x
  | _ => none
theorem d60_ok (cs : List (Lf C)) (x : C .e60) (h : d60 cs = some x) : enc .e60 x = cs := by
  unfold d60 at h
  split at h
  · cases h; rfl
  · cases h
def d74 (cs : List (Lf C)) : Option (C .e74) := match cs with
  | [.str x0, .row .e134 x1] => some ⟨x0, x1⟩
  | _ => none
theorem d74_ok (cs : List (Lf C)) (x : C .e74) (h : d74 cs = some x) : enc .e74 x = cs := by
  unfold d74 at h
  split at h
  · cases h; rfl
  · cases h
def d77 (cs : List (Lf C)) : Option (C .e77) := match cs with
  | [.str x0, .str x1, .str x2, .str x3, .str x4, .str x5] => some ⟨x0, x1, x2, x3, x4, x5⟩
  | _ => none
theorem d77_ok (cs : List (Lf C)) (x : C .e77) (h : d77 cs = some x) : enc .e77 x = cs := by
  unfold d77 at h
  split at h
  · cases h; rfl
  · cases h
def d81 (cs : List (Lf C)) : Option (C .e81) := match cs with
  | [.str x0, .row .e100 x1] => some ⟨x0, x1⟩
  | _ => none
theorem d81_ok (cs : List (Lf C)) (x : C .e81) (h : d81 cs = some x) : enc .e81 x = cs := by
  unfold d81 at h
  split at h
  · cases h; rfl
  · cases h
def d83 (cs : List (Lf C)) : Option (C .e83) := match cs with
  | [.str x0, .str x1, .str x2, .str x3, .str x4, .str x5] => some ⟨x0, x1, x2, x3, x4, x5⟩
  | _ => none
theorem d83_ok (cs : List (Lf C)) (x : C .e83) (h : d83 cs = some x) : enc .e83 x = cs := by
  unfold d83 at h
  split at h
  · cases h; rfl
  · cases h
def d100 (cs : List (Lf C)) : Option (C .e100) := match cs with
  | [.str x0, .int .i64 x1, .int .i64 x2, .int .i64 x3, .row .e9 x4, .str x5, .int .i64 x6, .bool x7, .bool x8, .str x9, .str x10] => some ⟨x0, x1, x2, x3, x4, x5, x6, x7, x8, x9, x10⟩
  | _ => none
theorem d100_ok (cs : List (Lf C)) (x : C .e100) (h : d100 cs = some x) : enc .e100 x = cs := by
  unfold d100 at h
  split at h
  · cases h; rfl
  · cases h
def d103 (cs : List (Lf C)) : Option (C .e103) := match cs with
  | [.str x0, .str x1] => some ⟨x0, x1⟩
  | _ => none
theorem d103_ok (cs : List (Lf C)) (x : C .e103) (h : d103 cs = some x) : enc .e103 x = cs := by
  unfold d103 at h
  split at h
  · cases h; rfl
  · cases h
def d106 (cs : List (Lf C)) : Option (C .e106) := match cs with
  | [.str x0, .str x1] => some ⟨x0, x1⟩
  | _ => none
theorem d106_ok (cs : List (Lf C)) (x : C .e106) (h : d106 cs = some x) : enc .e106 x = cs := by
  unfold d106 at h
  split at h
  · cases h; rfl
  · cases h
def d134 (cs : List (Lf C)) : Option (C .e134) := match cs with
  | [.str x0, .int .i64 x1, .int .i64 x2, .int .i64 x3, .row .e9 x4, .str x5, .int .i64 x6, .bool x7, .bool x8, .str x9, .str x10] => some ⟨x0, x1, x2, x3, x4, x5, x6, x7, x8, x9, x10⟩
  | _ => none
theorem d134_ok (cs : List (Lf C)) (x : C .e134) (h : d134 cs = some x) : enc .e134 x = cs := by
  unfold d134 at h
  split at h
  · cases h; rfl
  · cases h
def d173 (cs : List (Lf C)) : Option (C .e173) := match cs with
  | [.fnc x] => some x
  | _ => none
theorem d173_ok (cs : List (Lf C)) (x : C .e173) (h : d173 cs = some x) : enc .e173 x = cs := by
  unfold d173 at h
  split at h
  · cases h; rfl
  · cases h
def d199 (cs : List (Lf C)) : Option (C .e199) := match cs with
  | [.int .i64 x0, .str x1, .str x2, .row .e3 x3, .str x4, .str x5, .str x6] => some ⟨x0, x1, x2, x3, x4, x5, x6⟩
  | _ => none
theorem d199_ok (cs : List (Lf C)) (x : C .e199) (h : d199 cs = some x) : enc .e199 x = cs := by
  unfold d199 at h
  split at h
  · cases h; rfl
  · cases h
def d201 (cs : List (Lf C)) : Option (C .e201) := match cs with
  | [.str x0, .str x1, .int .i64 x2, .int .i64 x3] => some ⟨x0, x1, x2, x3⟩
  | _ => none
theorem d201_ok (cs : List (Lf C)) (x : C .e201) (h : d201 cs = some x) : enc .e201 x = cs := by
  unfold d201 at h
  split at h
  · cases h; rfl
  · cases h
def d203 (cs : List (Lf C)) : Option (C .e203) := match cs with
  | [.str x0, .str x1, .str x2, .int .i64 x3, .int .i64 x4] => some ⟨x0, x1, x2, x3, x4⟩
  | _ => none
theorem d203_ok (cs : List (Lf C)) (x : C .e203) (h : d203 cs = some x) : enc .e203 x = cs := by
  unfold d203 at h
  split at h
  · cases h; rfl
  · cases h
def dec (t : Ty) : List (Lf C) → Option (C t) := match t with
  | .e3 => d3
  | .e5 => d5
  | .e9 => d9
  | .e29 => d29
  | .e30 => d30
  | .e37 => d37
  | .e43 => d43
  | .e60 => d60
  | .e74 => d74
  | .e77 => d77
  | .e81 => d81
  | .e83 => d83
  | .e100 => d100
  | .e103 => d103
  | .e106 => d106
  | .e134 => d134
  | .e173 => d173
  | .e199 => d199
  | .e201 => d201
  | .e203 => d203
noncomputable def KK : Cd C where
  enc := enc
  dec := dec
  sz := fun t => match t with
    | .e3 => 1
    | .e5 => 1
    | .e9 => 1
    | .e29 => 1
    | .e30 => 1
    | .e37 => 1
    | .e43 => 7
    | .e60 => 1
    | .e74 => 2
    | .e77 => 6
    | .e81 => 2
    | .e83 => 6
    | .e100 => 11
    | .e103 => 2
    | .e106 => 2
    | .e134 => 11
    | .e173 => 1
    | .e199 => 7
    | .e201 => 4
    | .e203 => 5
  tid := fun t => match t with
    | .e3 => 3
    | .e5 => 5
    | .e9 => 9
    | .e29 => 29
    | .e30 => 30
    | .e37 => 37
    | .e43 => 43
    | .e60 => 60
    | .e74 => 74
    | .e77 => 77
    | .e81 => 81
    | .e83 => 83
    | .e100 => 100
    | .e103 => 103
    | .e106 => 106
    | .e134 => 134
    | .e173 => 173
    | .e199 => 199
    | .e201 => 201
    | .e203 => 203
  bytes := fun t => match t with
    | .e3 => 8
    | .e5 => 1
    | .e9 => 16
    | .e29 => 24
    | .e30 => 24
    | .e37 => 24
    | .e43 => 112
    | .e60 => 24
    | .e74 => 40
    | .e77 => 96
    | .e81 => 40
    | .e83 => 96
    | .e100 => 128
    | .e103 => 32
    | .e106 => 32
    | .e134 => 128
    | .e173 => 8
    | .e199 => 112
    | .e201 => 48
    | .e203 => 64
  zero := fun t => match t with
    | .e3 => (0 : Int)
    | .e5 => (0 : Int)
    | .e9 => (⟨#[]⟩ : ByteArray)
    | .e29 => ([] : List VGateShape)
    | .e30 => ([] : List VGateMend)
    | .e37 => ([] : List ByteArray)
    | .e43 => (⟨⟨#[]⟩, ⟨#[]⟩, ⟨#[]⟩, [], false, [], 0⟩ : VGateObject)
    | .e60 => ([] : List VGateField)
    | .e74 => (⟨⟨#[]⟩, []⟩ : VGateShape)
    | .e77 => (⟨⟨#[]⟩, ⟨#[]⟩, ⟨#[]⟩, ⟨#[]⟩, ⟨#[]⟩, ⟨#[]⟩⟩ : VGateMend)
    | .e81 => (⟨⟨#[]⟩, []⟩ : VGateShape)
    | .e83 => (⟨⟨#[]⟩, ⟨#[]⟩, ⟨#[]⟩, ⟨#[]⟩, ⟨#[]⟩, ⟨#[]⟩⟩ : VGateMend)
    | .e100 => (⟨⟨#[]⟩, 0, 0, 0, [], ⟨#[]⟩, 0, false, false, ⟨#[]⟩, ⟨#[]⟩⟩ : VGateField)
    | .e103 => (⟨⟨#[]⟩, ⟨#[]⟩⟩ : VGateTeam)
    | .e106 => (⟨⟨#[]⟩, ⟨#[]⟩⟩ : VGateTeam)
    | .e134 => (⟨⟨#[]⟩, 0, 0, 0, [], ⟨#[]⟩, 0, false, false, ⟨#[]⟩, ⟨#[]⟩⟩ : VGateField)
    | .e173 => (none : Option Nat)
    | .e199 => (⟨0, ⟨#[]⟩, ⟨#[]⟩, [], ⟨#[]⟩, ⟨#[]⟩, ⟨#[]⟩⟩ : VGateGrant)
    | .e201 => (⟨⟨#[]⟩, ⟨#[]⟩, 0, 0⟩ : VGateLedger)
    | .e203 => (⟨⟨#[]⟩, ⟨#[]⟩, ⟨#[]⟩, 0, 0⟩ : VGatePurse)
  pos := fun t => by cases t <;> decide
  enc_len := fun t x => by cases t <;> rfl
  enc_dec := fun t cs x h => by
    cases t
    · exact d3_ok cs x h
    · exact d5_ok cs x h
    · exact d9_ok cs x h
    · exact d29_ok cs x h
    · exact d30_ok cs x h
    · exact d37_ok cs x h
    · exact d43_ok cs x h
    · exact d60_ok cs x h
    · exact d74_ok cs x h
    · exact d77_ok cs x h
    · exact d81_ok cs x h
    · exact d83_ok cs x h
    · exact d100_ok cs x h
    · exact d103_ok cs x h
    · exact d106_ok cs x h
    · exact d134_ok cs x h
    · exact d173_ok cs x h
    · exact d199_ok cs x h
    · exact d201_ok cs x h
    · exact d203_ok cs x h
  enc_plain := fun t x l h => by
    cases t <;> simp only [enc, List.mem_cons, List.not_mem_nil, or_false] at h <;> (first | (subst h; rfl) | (rcases h with rfl <;> rfl) | (repeat (rcases h with rfl | h; · rfl)) <;> (subst h; rfl))
  flat := fun t => match t with
    | .e3 => true
    | .e5 => true
    | .e9 => true
    | .e29 => false
    | .e30 => false
    | .e37 => false
    | .e43 => false
    | .e60 => false
    | .e74 => false
    | .e77 => true
    | .e81 => false
    | .e83 => true
    | .e100 => false
    | .e103 => true
    | .e106 => true
    | .e134 => false
    | .e173 => true
    | .e199 => false
    | .e201 => true
    | .e203 => true
  byte := fun t => match t with
    | .e3 => false
    | .e5 => true
    | .e9 => false
    | .e29 => false
    | .e30 => false
    | .e37 => false
    | .e43 => false
    | .e60 => false
    | .e74 => false
    | .e77 => false
    | .e81 => false
    | .e83 => false
    | .e100 => false
    | .e103 => false
    | .e106 => false
    | .e134 => false
    | .e173 => false
    | .e199 => false
    | .e201 => false
    | .e203 => false
  enc_byte := fun t ht x => by cases t <;> first | (cases ht; done) | exact ⟨_, rfl⟩
  enc_flat := fun t ht x t' ys h => by cases t <;> first | (cases ht; done) | (simp [enc] at h)
def tks : List (Nat × TK Ty) := [
  (1, .one (.fnc)),
  (2, .one (.int .i64)),
  (3, .one (.int .i64)),
  (4, .one (.bool)),
  (5, .one (.int .u8)),
  (6, .one (.int .u8)),
  (7, .agg [(0, 1, false), (1, 1, false), (2, 1, false), (3, 1, false)] [.int .i64, .int .i64, .bool, .int .u8]),
  (8, .agg [(0, 1, false), (1, 1, false), (2, 1, false), (3, 1, false)] [.int .i64, .int .i64, .bool, .int .u8]),
  (9, .one (.str)),
  (10, .one (.str)),
  (11, .one (.str)),
  (12, .one (.int .u64)),
  (13, .agg [(0, 1, false), (1, 1, false)] [.str, .int .u64]),
  (14, .agg [(0, 1, false), (1, 1, false)] [.str, .int .u64]),
  (15, .one (.ptr)),
  (16, .one (.ptr)),
  (17, .one (.ptr)),
  (18, .agg [(0, 1, false)] [.ptr]),
  (19, .agg [(0, 1, false)] [.ptr]),
  (20, .one (.nk .ifc)),
  (21, .one (.int .i32)),
  (22, .one (.sli .e74)),
  (23, .one (.sli .e77)),
  (24, .one (.sli .e103)),
  (25, .agg [(0, 1, false), (1, 1, false), (2, 1, false)] [.sli .e74, .sli .e77, .sli .e103]),
  (26, .agg [(0, 1, false), (1, 1, false), (2, 1, false)] [.sli .e74, .sli .e77, .sli .e103]),
  (27, .one (.fnc)),
  (28, .one (.fnc)),
  (29, .one (.sli .e81)),
  (30, .one (.sli .e83)),
  (31, .one (.sli .e106)),
  (32, .agg [(0, 1, false), (1, 1, false), (2, 1, false)] [.sli .e81, .sli .e83, .sli .e106]),
  (33, .agg [(0, 1, false), (1, 1, false), (2, 1, false)] [.sli .e81, .sli .e83, .sli .e106]),
  (34, .one (.fnc)),
  (35, .one (.fnc)),
  (36, .one (.fnc)),
  (37, .one (.sli .e9)),
  (38, .agg [(0, 1, false), (1, 1, false), (2, 1, false), (3, 1, false), (4, 1, false), (5, 1, false), (6, 1, false)] [.str, .str, .str, .sli .e9, .bool, .sli .e9, .int .i64]),
  (39, .agg [(0, 1, false), (1, 1, false), (2, 1, false), (3, 1, false), (4, 1, false), (5, 1, false), (6, 1, false)] [.str, .str, .str, .sli .e9, .bool, .sli .e9, .int .i64]),
  (40, .one (.fnc)),
  (41, .one (.fnc)),
  (42, .one (.fnc)),
  (43, .agg [(0, 1, false), (1, 1, false), (2, 1, false), (3, 1, false), (4, 1, false), (5, 1, false), (6, 1, false)] [.str, .str, .str, .sli .e9, .bool, .sli .e9, .int .i64]),
  (44, .one (.fnc)),
  (45, .one (.fnc)),
  (46, .one (.fnc)),
  (47, .one (.fnc)),
  (48, .one (.fnc)),
  (49, .one (.fnc)),
  (50, .one (.fnc)),
  (51, .one (.fnc)),
  (52, .one (.fnc)),
  (53, .one (.fnc)),
  (54, .one (.fnc)),
  (55, .one (.sli .e5)),
  (57, .one (.fnc)),
  (58, .one (.fnc)),
  (59, .one (.fnc)),
  (60, .one (.sli .e100)),
  (61, .one (.fnc)),
  (62, .one (.fnc)),
  (63, .one (.fnc)),
  (64, .one (.fnc)),
  (65, .one (.fnc)),
  (66, .one (.fnc)),
  (67, .one (.fnc)),
  (68, .one (.fnc)),
  (69, .one (.fnc)),
  (70, .one (.fnc)),
  (71, .one (.fnc)),
  (72, .one (.sli .e134)),
  (73, .agg [(0, 1, false), (1, 1, false)] [.str, .sli .e134]),
  (74, .agg [(0, 1, false), (1, 1, false)] [.str, .sli .e134]),
  (75, .one (.fnc)),
  (76, .agg [(0, 1, false), (1, 1, false), (2, 1, false), (3, 1, false), (4, 1, false), (5, 1, false)] [.str, .str, .str, .str, .str, .str]),
  (77, .agg [(0, 1, false), (1, 1, false), (2, 1, false), (3, 1, false), (4, 1, false), (5, 1, false)] [.str, .str, .str, .str, .str, .str]),
  (78, .one (.fnc)),
  (79, .one (.fnc)),
  (80, .agg [(0, 1, false), (1, 1, false)] [.str, .sli .e100]),
  (81, .agg [(0, 1, false), (1, 1, false)] [.str, .sli .e100]),
  (82, .one (.fnc)),
  (83, .agg [(0, 1, false), (1, 1, false), (2, 1, false), (3, 1, false), (4, 1, false), (5, 1, false)] [.str, .str, .str, .str, .str, .str]),
  (84, .one (.fnc)),
  (85, .one (.fnc)),
  (87, .one (.fnc)),
  (89, .one (.fnc)),
  (90, .one (.fnc)),
  (91, .one (.fnc)),
  (92, .one (.fnc)),
  (93, .one (.fnc)),
  (94, .one (.fnc)),
  (95, .one (.fnc)),
  (96, .one (.fnc)),
  (97, .one (.fnc)),
  (98, .one (.fnc)),
  (99, .agg [(0, 1, false), (1, 1, false), (2, 1, false), (3, 1, false), (4, 1, false), (5, 1, false), (6, 1, false), (7, 1, false), (8, 1, false), (9, 1, false), (10, 1, false)] [.str, .int .i64, .int .i64, .int .i64, .sli .e9, .str, .int .i64, .bool, .bool, .str, .str]),
  (100, .agg [(0, 1, false), (1, 1, false), (2, 1, false), (3, 1, false), (4, 1, false), (5, 1, false), (6, 1, false), (7, 1, false), (8, 1, false), (9, 1, false), (10, 1, false)] [.str, .int .i64, .int .i64, .int .i64, .sli .e9, .str, .int .i64, .bool, .bool, .str, .str]),
  (101, .one (.fnc)),
  (102, .agg [(0, 1, false), (1, 1, false)] [.str, .str]),
  (103, .agg [(0, 1, false), (1, 1, false)] [.str, .str]),
  (104, .one (.fnc)),
  (105, .one (.fnc)),
  (106, .agg [(0, 1, false), (1, 1, false)] [.str, .str]),
  (107, .one (.fnc)),
  (108, .one (.fnc)),
  (109, .one (.fnc)),
  (110, .one (.fnc)),
  (111, .one (.fnc)),
  (112, .one (.fnc)),
  (113, .one (.fnc)),
  (114, .one (.fnc)),
  (115, .one (.fnc)),
  (116, .one (.fnc)),
  (117, .one (.fnc)),
  (118, .one (.fnc)),
  (119, .one (.ptr)),
  (120, .one (.fnc)),
  (122, .one (.fnc)),
  (123, .one (.fnc)),
  (124, .one (.fnc)),
  (125, .one (.fnc)),
  (126, .one (.fnc)),
  (127, .one (.fnc)),
  (128, .one (.fnc)),
  (129, .one (.fnc)),
  (130, .one (.fnc)),
  (131, .one (.fnc)),
  (132, .one (.fnc)),
  (133, .one (.fnc)),
  (134, .agg [(0, 1, false), (1, 1, false), (2, 1, false), (3, 1, false), (4, 1, false), (5, 1, false), (6, 1, false), (7, 1, false), (8, 1, false), (9, 1, false), (10, 1, false)] [.str, .int .i64, .int .i64, .int .i64, .sli .e9, .str, .int .i64, .bool, .bool, .str, .str]),
  (135, .one (.fnc)),
  (136, .one (.nk .map)),
  (137, .one (.fnc)),
  (138, .agg [(0, 1, false), (1, 1, false)] [.sli .e5, .int .i64]),
  (139, .agg [(0, 1, false), (1, 1, false)] [.sli .e5, .int .i64]),
  (140, .one (.fnc)),
  (141, .one (.fnc)),
  (142, .one (.fnc)),
  (143, .one (.fnc)),
  (144, .one (.fnc)),
  (145, .one (.fnc)),
  (146, .one (.fnc)),
  (147, .one (.sli .e43)),
  (148, .one (.sli .e199)),
  (149, .one (.sli .e201)),
  (150, .one (.sli .e203)),
  (151, .agg [(0, 1, false), (1, 1, false), (2, 1, false), (3, 1, false), (4, 1, false), (5, 1, false), (6, 1, false)] [.int .i64, .int .i64, .int .i64, .sli .e43, .sli .e199, .sli .e201, .sli .e203]),
  (152, .agg [(0, 1, false), (1, 1, false), (2, 1, false), (3, 1, false), (4, 1, false), (5, 1, false), (6, 1, false)] [.int .i64, .int .i64, .int .i64, .sli .e43, .sli .e199, .sli .e201, .sli .e203]),
  (153, .one (.fnc)),
  (154, .one (.fnc)),
  (155, .one (.sli .e37)),
  (156, .one (.sli .e3)),
  (157, .one (.nk .ifc)),
  (158, .one (.nk .ifc)),
  (160, .one (.fnc)),
  (161, .one (.fnc)),
  (162, .one (.fnc)),
  (163, .one (.fnc)),
  (164, .one (.fnc)),
  (165, .one (.fnc)),
  (166, .one (.fnc)),
  (167, .one (.fnc)),
  (168, .one (.fnc)),
  (169, .one (.fnc)),
  (170, .one (.fnc)),
  (171, .agg [(0, 11, true)] [.str, .int .i64, .int .i64, .int .i64, .sli .e9, .str, .int .i64, .bool, .bool, .str, .str]),
  (172, .agg [(0, 11, true)] [.str, .int .i64, .int .i64, .int .i64, .sli .e9, .str, .int .i64, .bool, .bool, .str, .str]),
  (173, .one (.fnc)),
  (174, .agg [(0, 11, true)] [.str, .int .i64, .int .i64, .int .i64, .sli .e9, .str, .int .i64, .bool, .bool, .str, .str]),
  (175, .agg [(0, 11, true)] [.str, .int .i64, .int .i64, .int .i64, .sli .e9, .str, .int .i64, .bool, .bool, .str, .str]),
  (176, .agg [(0, 11, true)] [.str, .int .i64, .int .i64, .int .i64, .sli .e9, .str, .int .i64, .bool, .bool, .str, .str]),
  (177, .one (.nk .map)),
  (179, .one (.fnc)),
  (180, .agg [(0, 1, false), (1, 1, false), (2, 1, false), (3, 1, false)] [.ptr, .ptr, .ptr, .str]),
  (181, .agg [(0, 1, false), (1, 1, false), (2, 1, false), (3, 1, false)] [.ptr, .ptr, .ptr, .str]),
  (185, .one (.fnc)),
  (186, .one (.int .u32)),
  (187, .one (.int .u8)),
  (188, .one (.int .u8)),
  (189, .one (.fnc)),
  (190, .one (.ptr)),
  (191, .one (.int .i32)),
  (192, .one (.int .i32)),
  (193, .agg [(0, 1, false), (1, 1, false), (2, 1, false), (3, 1, false), (4, 1, false), (5, 1, false), (6, 1, false), (7, 1, false), (8, 1, false), (9, 1, false), (10, 1, false)] [.int .u64, .int .u64, .int .u32, .int .u8, .int .u8, .int .u8, .int .u8, .fnc, .ptr, .int .i32, .int .i32]),
  (194, .agg [(0, 1, false), (1, 1, false), (2, 1, false), (3, 1, false), (4, 1, false), (5, 1, false), (6, 1, false), (7, 1, false), (8, 1, false), (9, 1, false), (10, 1, false)] [.int .u64, .int .u64, .int .u32, .int .u8, .int .u8, .int .u8, .int .u8, .fnc, .ptr, .int .i32, .int .i32]),
  (195, .one (.fnc)),
  (196, .agg [(0, 1, false), (1, 1, false), (2, 1, false), (3, 1, false)] [.sli .e3, .str, .str, .str]),
  (197, .agg [(0, 1, false), (1, 1, false), (2, 1, false), (3, 1, false)] [.sli .e3, .str, .str, .str]),
  (198, .agg [(0, 1, false), (1, 1, false), (2, 1, false), (3, 4, true)] [.int .i64, .str, .str, .sli .e3, .str, .str, .str]),
  (199, .agg [(0, 1, false), (1, 1, false), (2, 1, false), (3, 4, true)] [.int .i64, .str, .str, .sli .e3, .str, .str, .str]),
  (200, .agg [(0, 1, false), (1, 1, false), (2, 1, false), (3, 1, false)] [.str, .str, .int .i64, .int .i64]),
  (201, .agg [(0, 1, false), (1, 1, false), (2, 1, false), (3, 1, false)] [.str, .str, .int .i64, .int .i64]),
  (202, .agg [(0, 1, false), (1, 1, false), (2, 1, false), (3, 1, false), (4, 1, false)] [.str, .str, .str, .int .i64, .int .i64]),
  (203, .agg [(0, 1, false), (1, 1, false), (2, 1, false), (3, 1, false), (4, 1, false)] [.str, .str, .str, .int .i64, .int .i64]),
  (205, .one (.fnc)),
  (207, .agg [(0, 1, false), (1, 1, false)] [.str, .str]),
  (208, .agg [(0, 1, false), (1, 1, false)] [.str, .str]),
  (209, .one (.fnc))]
theorem tf1 : TFact Go.Proofs.Try.prog KK 1 (.one (.fnc)) := tfact_fnc (by kernel_rfl) (by kernel_rfl) (by kernel_rfl)
theorem tf2 : TFact Go.Proofs.Try.prog KK 2 (.one (.int .i64)) := tfact_one (by kernel_rfl) (by kernel_rfl) (d := .int .i64) (by kernel_rfl) rfl
theorem tf3 : TFact Go.Proofs.Try.prog KK 3 (.one (.int .i64)) := tfact_one (by kernel_rfl) (by kernel_rfl) (d := .int .i64) (by kernel_rfl) rfl
theorem tf4 : TFact Go.Proofs.Try.prog KK 4 (.one (.bool)) := tfact_one (by kernel_rfl) (by kernel_rfl) (d := .bool) (by kernel_rfl) rfl
theorem tf5 : TFact Go.Proofs.Try.prog KK 5 (.one (.int .u8)) := tfact_one (by kernel_rfl) (by kernel_rfl) (d := .int .u8) (by kernel_rfl) rfl
theorem tf6 : TFact Go.Proofs.Try.prog KK 6 (.one (.int .u8)) := tfact_one (by kernel_rfl) (by kernel_rfl) (d := .int .u8) (by kernel_rfl) rfl
theorem tf7 : TFact Go.Proofs.Try.prog KK 7 (.agg [(0, 1, false), (1, 1, false), (2, 1, false), (3, 1, false)] [.int .i64, .int .i64, .bool, .int .u8]) := tfact_agg (by kernel_rfl) (by kernel_rfl) (by kernel_rfl)
theorem tf8 : TFact Go.Proofs.Try.prog KK 8 (.agg [(0, 1, false), (1, 1, false), (2, 1, false), (3, 1, false)] [.int .i64, .int .i64, .bool, .int .u8]) := tfact_agg (by kernel_rfl) (by kernel_rfl) (by kernel_rfl)
theorem tf9 : TFact Go.Proofs.Try.prog KK 9 (.one (.str)) := tfact_one (by kernel_rfl) (by kernel_rfl) (d := .string) (by kernel_rfl) rfl
theorem tf10 : TFact Go.Proofs.Try.prog KK 10 (.one (.str)) := tfact_one (by kernel_rfl) (by kernel_rfl) (d := .string) (by kernel_rfl) rfl
theorem tf11 : TFact Go.Proofs.Try.prog KK 11 (.one (.str)) := tfact_one (by kernel_rfl) (by kernel_rfl) (d := .string) (by kernel_rfl) rfl
theorem tf12 : TFact Go.Proofs.Try.prog KK 12 (.one (.int .u64)) := tfact_one (by kernel_rfl) (by kernel_rfl) (d := .int .u64) (by kernel_rfl) rfl
theorem tf13 : TFact Go.Proofs.Try.prog KK 13 (.agg [(0, 1, false), (1, 1, false)] [.str, .int .u64]) := tfact_agg (by kernel_rfl) (by kernel_rfl) (by kernel_rfl)
theorem tf14 : TFact Go.Proofs.Try.prog KK 14 (.agg [(0, 1, false), (1, 1, false)] [.str, .int .u64]) := tfact_agg (by kernel_rfl) (by kernel_rfl) (by kernel_rfl)
theorem tf15 : TFact Go.Proofs.Try.prog KK 15 (.one (.ptr)) := tfact_one (by kernel_rfl) (by kernel_rfl) (d := .pointer 181) (by kernel_rfl) ⟨_, rfl⟩
theorem tf16 : TFact Go.Proofs.Try.prog KK 16 (.one (.ptr)) := tfact_one (by kernel_rfl) (by kernel_rfl) (d := .pointer 184) (by kernel_rfl) ⟨_, rfl⟩
theorem tf17 : TFact Go.Proofs.Try.prog KK 17 (.one (.ptr)) := tfact_one (by kernel_rfl) (by kernel_rfl) (d := .pointer 194) (by kernel_rfl) ⟨_, rfl⟩
theorem tf18 : TFact Go.Proofs.Try.prog KK 18 (.agg [(0, 1, false)] [.ptr]) := tfact_agg (by kernel_rfl) (by kernel_rfl) (by kernel_rfl)
theorem tf19 : TFact Go.Proofs.Try.prog KK 19 (.agg [(0, 1, false)] [.ptr]) := tfact_agg (by kernel_rfl) (by kernel_rfl) (by kernel_rfl)
theorem tf20 : TFact Go.Proofs.Try.prog KK 20 (.one (.nk .ifc)) := tfact_ifc (by kernel_rfl) (by kernel_rfl) (by kernel_rfl)
theorem tf21 : TFact Go.Proofs.Try.prog KK 21 (.one (.int .i32)) := tfact_one (by kernel_rfl) (by kernel_rfl) (d := .int .i32) (by kernel_rfl) rfl
theorem tf22 : TFact Go.Proofs.Try.prog KK 22 (.one (.sli .e74)) := tfact_one (by kernel_rfl) (by kernel_rfl) (d := .slice 74) (by kernel_rfl) rfl
theorem tf23 : TFact Go.Proofs.Try.prog KK 23 (.one (.sli .e77)) := tfact_one (by kernel_rfl) (by kernel_rfl) (d := .slice 77) (by kernel_rfl) rfl
theorem tf24 : TFact Go.Proofs.Try.prog KK 24 (.one (.sli .e103)) := tfact_one (by kernel_rfl) (by kernel_rfl) (d := .slice 103) (by kernel_rfl) rfl
theorem tf25 : TFact Go.Proofs.Try.prog KK 25 (.agg [(0, 1, false), (1, 1, false), (2, 1, false)] [.sli .e74, .sli .e77, .sli .e103]) := tfact_agg (by kernel_rfl) (by kernel_rfl) (by kernel_rfl)
theorem tf26 : TFact Go.Proofs.Try.prog KK 26 (.agg [(0, 1, false), (1, 1, false), (2, 1, false)] [.sli .e74, .sli .e77, .sli .e103]) := tfact_agg (by kernel_rfl) (by kernel_rfl) (by kernel_rfl)
theorem tf27 : TFact Go.Proofs.Try.prog KK 27 (.one (.fnc)) := tfact_fnc (by kernel_rfl) (by kernel_rfl) (by kernel_rfl)
theorem tf28 : TFact Go.Proofs.Try.prog KK 28 (.one (.fnc)) := tfact_fnc (by kernel_rfl) (by kernel_rfl) (by kernel_rfl)
theorem tf29 : TFact Go.Proofs.Try.prog KK 29 (.one (.sli .e81)) := tfact_one (by kernel_rfl) (by kernel_rfl) (d := .slice 81) (by kernel_rfl) rfl
theorem tf30 : TFact Go.Proofs.Try.prog KK 30 (.one (.sli .e83)) := tfact_one (by kernel_rfl) (by kernel_rfl) (d := .slice 83) (by kernel_rfl) rfl
theorem tf31 : TFact Go.Proofs.Try.prog KK 31 (.one (.sli .e106)) := tfact_one (by kernel_rfl) (by kernel_rfl) (d := .slice 106) (by kernel_rfl) rfl
theorem tf32 : TFact Go.Proofs.Try.prog KK 32 (.agg [(0, 1, false), (1, 1, false), (2, 1, false)] [.sli .e81, .sli .e83, .sli .e106]) := tfact_agg (by kernel_rfl) (by kernel_rfl) (by kernel_rfl)
theorem tf33 : TFact Go.Proofs.Try.prog KK 33 (.agg [(0, 1, false), (1, 1, false), (2, 1, false)] [.sli .e81, .sli .e83, .sli .e106]) := tfact_agg (by kernel_rfl) (by kernel_rfl) (by kernel_rfl)
theorem tf34 : TFact Go.Proofs.Try.prog KK 34 (.one (.fnc)) := tfact_fnc (by kernel_rfl) (by kernel_rfl) (by kernel_rfl)
theorem tf35 : TFact Go.Proofs.Try.prog KK 35 (.one (.fnc)) := tfact_fnc (by kernel_rfl) (by kernel_rfl) (by kernel_rfl)
theorem tf36 : TFact Go.Proofs.Try.prog KK 36 (.one (.fnc)) := tfact_fnc (by kernel_rfl) (by kernel_rfl) (by kernel_rfl)
theorem tf37 : TFact Go.Proofs.Try.prog KK 37 (.one (.sli .e9)) := tfact_one (by kernel_rfl) (by kernel_rfl) (d := .slice 9) (by kernel_rfl) rfl
theorem tf38 : TFact Go.Proofs.Try.prog KK 38 (.agg [(0, 1, false), (1, 1, false), (2, 1, false), (3, 1, false), (4, 1, false), (5, 1, false), (6, 1, false)] [.str, .str, .str, .sli .e9, .bool, .sli .e9, .int .i64]) := tfact_agg (by kernel_rfl) (by kernel_rfl) (by kernel_rfl)
theorem tf39 : TFact Go.Proofs.Try.prog KK 39 (.agg [(0, 1, false), (1, 1, false), (2, 1, false), (3, 1, false), (4, 1, false), (5, 1, false), (6, 1, false)] [.str, .str, .str, .sli .e9, .bool, .sli .e9, .int .i64]) := tfact_agg (by kernel_rfl) (by kernel_rfl) (by kernel_rfl)
theorem tf40 : TFact Go.Proofs.Try.prog KK 40 (.one (.fnc)) := tfact_fnc (by kernel_rfl) (by kernel_rfl) (by kernel_rfl)
theorem tf41 : TFact Go.Proofs.Try.prog KK 41 (.one (.fnc)) := tfact_fnc (by kernel_rfl) (by kernel_rfl) (by kernel_rfl)
theorem tf42 : TFact Go.Proofs.Try.prog KK 42 (.one (.fnc)) := tfact_fnc (by kernel_rfl) (by kernel_rfl) (by kernel_rfl)
theorem tf43 : TFact Go.Proofs.Try.prog KK 43 (.agg [(0, 1, false), (1, 1, false), (2, 1, false), (3, 1, false), (4, 1, false), (5, 1, false), (6, 1, false)] [.str, .str, .str, .sli .e9, .bool, .sli .e9, .int .i64]) := tfact_agg (by kernel_rfl) (by kernel_rfl) (by kernel_rfl)
theorem tf44 : TFact Go.Proofs.Try.prog KK 44 (.one (.fnc)) := tfact_fnc (by kernel_rfl) (by kernel_rfl) (by kernel_rfl)
theorem tf45 : TFact Go.Proofs.Try.prog KK 45 (.one (.fnc)) := tfact_fnc (by kernel_rfl) (by kernel_rfl) (by kernel_rfl)
theorem tf46 : TFact Go.Proofs.Try.prog KK 46 (.one (.fnc)) := tfact_fnc (by kernel_rfl) (by kernel_rfl) (by kernel_rfl)
theorem tf47 : TFact Go.Proofs.Try.prog KK 47 (.one (.fnc)) := tfact_fnc (by kernel_rfl) (by kernel_rfl) (by kernel_rfl)
theorem tf48 : TFact Go.Proofs.Try.prog KK 48 (.one (.fnc)) := tfact_fnc (by kernel_rfl) (by kernel_rfl) (by kernel_rfl)
theorem tf49 : TFact Go.Proofs.Try.prog KK 49 (.one (.fnc)) := tfact_fnc (by kernel_rfl) (by kernel_rfl) (by kernel_rfl)
theorem tf50 : TFact Go.Proofs.Try.prog KK 50 (.one (.fnc)) := tfact_fnc (by kernel_rfl) (by kernel_rfl) (by kernel_rfl)
theorem tf51 : TFact Go.Proofs.Try.prog KK 51 (.one (.fnc)) := tfact_fnc (by kernel_rfl) (by kernel_rfl) (by kernel_rfl)
theorem tf52 : TFact Go.Proofs.Try.prog KK 52 (.one (.fnc)) := tfact_fnc (by kernel_rfl) (by kernel_rfl) (by kernel_rfl)
theorem tf53 : TFact Go.Proofs.Try.prog KK 53 (.one (.fnc)) := tfact_fnc (by kernel_rfl) (by kernel_rfl) (by kernel_rfl)
theorem tf54 : TFact Go.Proofs.Try.prog KK 54 (.one (.fnc)) := tfact_fnc (by kernel_rfl) (by kernel_rfl) (by kernel_rfl)
theorem tf55 : TFact Go.Proofs.Try.prog KK 55 (.one (.sli .e5)) := tfact_one (by kernel_rfl) (by kernel_rfl) (d := .slice 5) (by kernel_rfl) rfl
theorem tf57 : TFact Go.Proofs.Try.prog KK 57 (.one (.fnc)) := tfact_fnc (by kernel_rfl) (by kernel_rfl) (by kernel_rfl)
theorem tf58 : TFact Go.Proofs.Try.prog KK 58 (.one (.fnc)) := tfact_fnc (by kernel_rfl) (by kernel_rfl) (by kernel_rfl)
theorem tf59 : TFact Go.Proofs.Try.prog KK 59 (.one (.fnc)) := tfact_fnc (by kernel_rfl) (by kernel_rfl) (by kernel_rfl)
theorem tf60 : TFact Go.Proofs.Try.prog KK 60 (.one (.sli .e100)) := tfact_one (by kernel_rfl) (by kernel_rfl) (d := .slice 100) (by kernel_rfl) rfl
theorem tf61 : TFact Go.Proofs.Try.prog KK 61 (.one (.fnc)) := tfact_fnc (by kernel_rfl) (by kernel_rfl) (by kernel_rfl)
theorem tf62 : TFact Go.Proofs.Try.prog KK 62 (.one (.fnc)) := tfact_fnc (by kernel_rfl) (by kernel_rfl) (by kernel_rfl)
theorem tf63 : TFact Go.Proofs.Try.prog KK 63 (.one (.fnc)) := tfact_fnc (by kernel_rfl) (by kernel_rfl) (by kernel_rfl)
theorem tf64 : TFact Go.Proofs.Try.prog KK 64 (.one (.fnc)) := tfact_fnc (by kernel_rfl) (by kernel_rfl) (by kernel_rfl)
theorem tf65 : TFact Go.Proofs.Try.prog KK 65 (.one (.fnc)) := tfact_fnc (by kernel_rfl) (by kernel_rfl) (by kernel_rfl)
theorem tf66 : TFact Go.Proofs.Try.prog KK 66 (.one (.fnc)) := tfact_fnc (by kernel_rfl) (by kernel_rfl) (by kernel_rfl)
theorem tf67 : TFact Go.Proofs.Try.prog KK 67 (.one (.fnc)) := tfact_fnc (by kernel_rfl) (by kernel_rfl) (by kernel_rfl)
theorem tf68 : TFact Go.Proofs.Try.prog KK 68 (.one (.fnc)) := tfact_fnc (by kernel_rfl) (by kernel_rfl) (by kernel_rfl)
theorem tf69 : TFact Go.Proofs.Try.prog KK 69 (.one (.fnc)) := tfact_fnc (by kernel_rfl) (by kernel_rfl) (by kernel_rfl)
theorem tf70 : TFact Go.Proofs.Try.prog KK 70 (.one (.fnc)) := tfact_fnc (by kernel_rfl) (by kernel_rfl) (by kernel_rfl)
theorem tf71 : TFact Go.Proofs.Try.prog KK 71 (.one (.fnc)) := tfact_fnc (by kernel_rfl) (by kernel_rfl) (by kernel_rfl)
theorem tf72 : TFact Go.Proofs.Try.prog KK 72 (.one (.sli .e134)) := tfact_one (by kernel_rfl) (by kernel_rfl) (d := .slice 134) (by kernel_rfl) rfl
theorem tf73 : TFact Go.Proofs.Try.prog KK 73 (.agg [(0, 1, false), (1, 1, false)] [.str, .sli .e134]) := tfact_agg (by kernel_rfl) (by kernel_rfl) (by kernel_rfl)
theorem tf74 : TFact Go.Proofs.Try.prog KK 74 (.agg [(0, 1, false), (1, 1, false)] [.str, .sli .e134]) := tfact_agg (by kernel_rfl) (by kernel_rfl) (by kernel_rfl)
theorem tf75 : TFact Go.Proofs.Try.prog KK 75 (.one (.fnc)) := tfact_fnc (by kernel_rfl) (by kernel_rfl) (by kernel_rfl)
theorem tf76 : TFact Go.Proofs.Try.prog KK 76 (.agg [(0, 1, false), (1, 1, false), (2, 1, false), (3, 1, false), (4, 1, false), (5, 1, false)] [.str, .str, .str, .str, .str, .str]) := tfact_agg (by kernel_rfl) (by kernel_rfl) (by kernel_rfl)
theorem tf77 : TFact Go.Proofs.Try.prog KK 77 (.agg [(0, 1, false), (1, 1, false), (2, 1, false), (3, 1, false), (4, 1, false), (5, 1, false)] [.str, .str, .str, .str, .str, .str]) := tfact_agg (by kernel_rfl) (by kernel_rfl) (by kernel_rfl)
theorem tf78 : TFact Go.Proofs.Try.prog KK 78 (.one (.fnc)) := tfact_fnc (by kernel_rfl) (by kernel_rfl) (by kernel_rfl)
theorem tf79 : TFact Go.Proofs.Try.prog KK 79 (.one (.fnc)) := tfact_fnc (by kernel_rfl) (by kernel_rfl) (by kernel_rfl)
theorem tf80 : TFact Go.Proofs.Try.prog KK 80 (.agg [(0, 1, false), (1, 1, false)] [.str, .sli .e100]) := tfact_agg (by kernel_rfl) (by kernel_rfl) (by kernel_rfl)
theorem tf81 : TFact Go.Proofs.Try.prog KK 81 (.agg [(0, 1, false), (1, 1, false)] [.str, .sli .e100]) := tfact_agg (by kernel_rfl) (by kernel_rfl) (by kernel_rfl)
theorem tf82 : TFact Go.Proofs.Try.prog KK 82 (.one (.fnc)) := tfact_fnc (by kernel_rfl) (by kernel_rfl) (by kernel_rfl)
theorem tf83 : TFact Go.Proofs.Try.prog KK 83 (.agg [(0, 1, false), (1, 1, false), (2, 1, false), (3, 1, false), (4, 1, false), (5, 1, false)] [.str, .str, .str, .str, .str, .str]) := tfact_agg (by kernel_rfl) (by kernel_rfl) (by kernel_rfl)
theorem tf84 : TFact Go.Proofs.Try.prog KK 84 (.one (.fnc)) := tfact_fnc (by kernel_rfl) (by kernel_rfl) (by kernel_rfl)
theorem tf85 : TFact Go.Proofs.Try.prog KK 85 (.one (.fnc)) := tfact_fnc (by kernel_rfl) (by kernel_rfl) (by kernel_rfl)
theorem tf87 : TFact Go.Proofs.Try.prog KK 87 (.one (.fnc)) := tfact_fnc (by kernel_rfl) (by kernel_rfl) (by kernel_rfl)
theorem tf89 : TFact Go.Proofs.Try.prog KK 89 (.one (.fnc)) := tfact_fnc (by kernel_rfl) (by kernel_rfl) (by kernel_rfl)
theorem tf90 : TFact Go.Proofs.Try.prog KK 90 (.one (.fnc)) := tfact_fnc (by kernel_rfl) (by kernel_rfl) (by kernel_rfl)
theorem tf91 : TFact Go.Proofs.Try.prog KK 91 (.one (.fnc)) := tfact_fnc (by kernel_rfl) (by kernel_rfl) (by kernel_rfl)
theorem tf92 : TFact Go.Proofs.Try.prog KK 92 (.one (.fnc)) := tfact_fnc (by kernel_rfl) (by kernel_rfl) (by kernel_rfl)
theorem tf93 : TFact Go.Proofs.Try.prog KK 93 (.one (.fnc)) := tfact_fnc (by kernel_rfl) (by kernel_rfl) (by kernel_rfl)
theorem tf94 : TFact Go.Proofs.Try.prog KK 94 (.one (.fnc)) := tfact_fnc (by kernel_rfl) (by kernel_rfl) (by kernel_rfl)
theorem tf95 : TFact Go.Proofs.Try.prog KK 95 (.one (.fnc)) := tfact_fnc (by kernel_rfl) (by kernel_rfl) (by kernel_rfl)
theorem tf96 : TFact Go.Proofs.Try.prog KK 96 (.one (.fnc)) := tfact_fnc (by kernel_rfl) (by kernel_rfl) (by kernel_rfl)
theorem tf97 : TFact Go.Proofs.Try.prog KK 97 (.one (.fnc)) := tfact_fnc (by kernel_rfl) (by kernel_rfl) (by kernel_rfl)
theorem tf98 : TFact Go.Proofs.Try.prog KK 98 (.one (.fnc)) := tfact_fnc (by kernel_rfl) (by kernel_rfl) (by kernel_rfl)
theorem tf99 : TFact Go.Proofs.Try.prog KK 99 (.agg [(0, 1, false), (1, 1, false), (2, 1, false), (3, 1, false), (4, 1, false), (5, 1, false), (6, 1, false), (7, 1, false), (8, 1, false), (9, 1, false), (10, 1, false)] [.str, .int .i64, .int .i64, .int .i64, .sli .e9, .str, .int .i64, .bool, .bool, .str, .str]) := tfact_agg (by kernel_rfl) (by kernel_rfl) (by kernel_rfl)
theorem tf100 : TFact Go.Proofs.Try.prog KK 100 (.agg [(0, 1, false), (1, 1, false), (2, 1, false), (3, 1, false), (4, 1, false), (5, 1, false), (6, 1, false), (7, 1, false), (8, 1, false), (9, 1, false), (10, 1, false)] [.str, .int .i64, .int .i64, .int .i64, .sli .e9, .str, .int .i64, .bool, .bool, .str, .str]) := tfact_agg (by kernel_rfl) (by kernel_rfl) (by kernel_rfl)
theorem tf101 : TFact Go.Proofs.Try.prog KK 101 (.one (.fnc)) := tfact_fnc (by kernel_rfl) (by kernel_rfl) (by kernel_rfl)
theorem tf102 : TFact Go.Proofs.Try.prog KK 102 (.agg [(0, 1, false), (1, 1, false)] [.str, .str]) := tfact_agg (by kernel_rfl) (by kernel_rfl) (by kernel_rfl)
theorem tf103 : TFact Go.Proofs.Try.prog KK 103 (.agg [(0, 1, false), (1, 1, false)] [.str, .str]) := tfact_agg (by kernel_rfl) (by kernel_rfl) (by kernel_rfl)
theorem tf104 : TFact Go.Proofs.Try.prog KK 104 (.one (.fnc)) := tfact_fnc (by kernel_rfl) (by kernel_rfl) (by kernel_rfl)
theorem tf105 : TFact Go.Proofs.Try.prog KK 105 (.one (.fnc)) := tfact_fnc (by kernel_rfl) (by kernel_rfl) (by kernel_rfl)
theorem tf106 : TFact Go.Proofs.Try.prog KK 106 (.agg [(0, 1, false), (1, 1, false)] [.str, .str]) := tfact_agg (by kernel_rfl) (by kernel_rfl) (by kernel_rfl)
theorem tf107 : TFact Go.Proofs.Try.prog KK 107 (.one (.fnc)) := tfact_fnc (by kernel_rfl) (by kernel_rfl) (by kernel_rfl)
theorem tf108 : TFact Go.Proofs.Try.prog KK 108 (.one (.fnc)) := tfact_fnc (by kernel_rfl) (by kernel_rfl) (by kernel_rfl)
theorem tf109 : TFact Go.Proofs.Try.prog KK 109 (.one (.fnc)) := tfact_fnc (by kernel_rfl) (by kernel_rfl) (by kernel_rfl)
theorem tf110 : TFact Go.Proofs.Try.prog KK 110 (.one (.fnc)) := tfact_fnc (by kernel_rfl) (by kernel_rfl) (by kernel_rfl)
theorem tf111 : TFact Go.Proofs.Try.prog KK 111 (.one (.fnc)) := tfact_fnc (by kernel_rfl) (by kernel_rfl) (by kernel_rfl)
theorem tf112 : TFact Go.Proofs.Try.prog KK 112 (.one (.fnc)) := tfact_fnc (by kernel_rfl) (by kernel_rfl) (by kernel_rfl)
theorem tf113 : TFact Go.Proofs.Try.prog KK 113 (.one (.fnc)) := tfact_fnc (by kernel_rfl) (by kernel_rfl) (by kernel_rfl)
theorem tf114 : TFact Go.Proofs.Try.prog KK 114 (.one (.fnc)) := tfact_fnc (by kernel_rfl) (by kernel_rfl) (by kernel_rfl)
theorem tf115 : TFact Go.Proofs.Try.prog KK 115 (.one (.fnc)) := tfact_fnc (by kernel_rfl) (by kernel_rfl) (by kernel_rfl)
theorem tf116 : TFact Go.Proofs.Try.prog KK 116 (.one (.fnc)) := tfact_fnc (by kernel_rfl) (by kernel_rfl) (by kernel_rfl)
theorem tf117 : TFact Go.Proofs.Try.prog KK 117 (.one (.fnc)) := tfact_fnc (by kernel_rfl) (by kernel_rfl) (by kernel_rfl)
theorem tf118 : TFact Go.Proofs.Try.prog KK 118 (.one (.fnc)) := tfact_fnc (by kernel_rfl) (by kernel_rfl) (by kernel_rfl)
theorem tf119 : TFact Go.Proofs.Try.prog KK 119 (.one (.ptr)) := tfact_one (by kernel_rfl) (by kernel_rfl) (d := .pointer 139) (by kernel_rfl) ⟨_, rfl⟩
theorem tf120 : TFact Go.Proofs.Try.prog KK 120 (.one (.fnc)) := tfact_fnc (by kernel_rfl) (by kernel_rfl) (by kernel_rfl)
theorem tf122 : TFact Go.Proofs.Try.prog KK 122 (.one (.fnc)) := tfact_fnc (by kernel_rfl) (by kernel_rfl) (by kernel_rfl)
theorem tf123 : TFact Go.Proofs.Try.prog KK 123 (.one (.fnc)) := tfact_fnc (by kernel_rfl) (by kernel_rfl) (by kernel_rfl)
theorem tf124 : TFact Go.Proofs.Try.prog KK 124 (.one (.fnc)) := tfact_fnc (by kernel_rfl) (by kernel_rfl) (by kernel_rfl)
theorem tf125 : TFact Go.Proofs.Try.prog KK 125 (.one (.fnc)) := tfact_fnc (by kernel_rfl) (by kernel_rfl) (by kernel_rfl)
theorem tf126 : TFact Go.Proofs.Try.prog KK 126 (.one (.fnc)) := tfact_fnc (by kernel_rfl) (by kernel_rfl) (by kernel_rfl)
theorem tf127 : TFact Go.Proofs.Try.prog KK 127 (.one (.fnc)) := tfact_fnc (by kernel_rfl) (by kernel_rfl) (by kernel_rfl)
theorem tf128 : TFact Go.Proofs.Try.prog KK 128 (.one (.fnc)) := tfact_fnc (by kernel_rfl) (by kernel_rfl) (by kernel_rfl)
theorem tf129 : TFact Go.Proofs.Try.prog KK 129 (.one (.fnc)) := tfact_fnc (by kernel_rfl) (by kernel_rfl) (by kernel_rfl)
theorem tf130 : TFact Go.Proofs.Try.prog KK 130 (.one (.fnc)) := tfact_fnc (by kernel_rfl) (by kernel_rfl) (by kernel_rfl)
theorem tf131 : TFact Go.Proofs.Try.prog KK 131 (.one (.fnc)) := tfact_fnc (by kernel_rfl) (by kernel_rfl) (by kernel_rfl)
theorem tf132 : TFact Go.Proofs.Try.prog KK 132 (.one (.fnc)) := tfact_fnc (by kernel_rfl) (by kernel_rfl) (by kernel_rfl)
theorem tf133 : TFact Go.Proofs.Try.prog KK 133 (.one (.fnc)) := tfact_fnc (by kernel_rfl) (by kernel_rfl) (by kernel_rfl)
theorem tf134 : TFact Go.Proofs.Try.prog KK 134 (.agg [(0, 1, false), (1, 1, false), (2, 1, false), (3, 1, false), (4, 1, false), (5, 1, false), (6, 1, false), (7, 1, false), (8, 1, false), (9, 1, false), (10, 1, false)] [.str, .int .i64, .int .i64, .int .i64, .sli .e9, .str, .int .i64, .bool, .bool, .str, .str]) := tfact_agg (by kernel_rfl) (by kernel_rfl) (by kernel_rfl)
theorem tf135 : TFact Go.Proofs.Try.prog KK 135 (.one (.fnc)) := tfact_fnc (by kernel_rfl) (by kernel_rfl) (by kernel_rfl)
theorem tf136 : TFact Go.Proofs.Try.prog KK 136 (.one (.nk .map)) := tfact_map (by kernel_rfl) (by kernel_rfl) (by kernel_rfl)
theorem tf137 : TFact Go.Proofs.Try.prog KK 137 (.one (.fnc)) := tfact_fnc (by kernel_rfl) (by kernel_rfl) (by kernel_rfl)
theorem tf138 : TFact Go.Proofs.Try.prog KK 138 (.agg [(0, 1, false), (1, 1, false)] [.sli .e5, .int .i64]) := tfact_agg (by kernel_rfl) (by kernel_rfl) (by kernel_rfl)
theorem tf139 : TFact Go.Proofs.Try.prog KK 139 (.agg [(0, 1, false), (1, 1, false)] [.sli .e5, .int .i64]) := tfact_agg (by kernel_rfl) (by kernel_rfl) (by kernel_rfl)
theorem tf140 : TFact Go.Proofs.Try.prog KK 140 (.one (.fnc)) := tfact_fnc (by kernel_rfl) (by kernel_rfl) (by kernel_rfl)
theorem tf141 : TFact Go.Proofs.Try.prog KK 141 (.one (.fnc)) := tfact_fnc (by kernel_rfl) (by kernel_rfl) (by kernel_rfl)
theorem tf142 : TFact Go.Proofs.Try.prog KK 142 (.one (.fnc)) := tfact_fnc (by kernel_rfl) (by kernel_rfl) (by kernel_rfl)
theorem tf143 : TFact Go.Proofs.Try.prog KK 143 (.one (.fnc)) := tfact_fnc (by kernel_rfl) (by kernel_rfl) (by kernel_rfl)
theorem tf144 : TFact Go.Proofs.Try.prog KK 144 (.one (.fnc)) := tfact_fnc (by kernel_rfl) (by kernel_rfl) (by kernel_rfl)
theorem tf145 : TFact Go.Proofs.Try.prog KK 145 (.one (.fnc)) := tfact_fnc (by kernel_rfl) (by kernel_rfl) (by kernel_rfl)
theorem tf146 : TFact Go.Proofs.Try.prog KK 146 (.one (.fnc)) := tfact_fnc (by kernel_rfl) (by kernel_rfl) (by kernel_rfl)
theorem tf147 : TFact Go.Proofs.Try.prog KK 147 (.one (.sli .e43)) := tfact_one (by kernel_rfl) (by kernel_rfl) (d := .slice 43) (by kernel_rfl) rfl
theorem tf148 : TFact Go.Proofs.Try.prog KK 148 (.one (.sli .e199)) := tfact_one (by kernel_rfl) (by kernel_rfl) (d := .slice 199) (by kernel_rfl) rfl
theorem tf149 : TFact Go.Proofs.Try.prog KK 149 (.one (.sli .e201)) := tfact_one (by kernel_rfl) (by kernel_rfl) (d := .slice 201) (by kernel_rfl) rfl
theorem tf150 : TFact Go.Proofs.Try.prog KK 150 (.one (.sli .e203)) := tfact_one (by kernel_rfl) (by kernel_rfl) (d := .slice 203) (by kernel_rfl) rfl
theorem tf151 : TFact Go.Proofs.Try.prog KK 151 (.agg [(0, 1, false), (1, 1, false), (2, 1, false), (3, 1, false), (4, 1, false), (5, 1, false), (6, 1, false)] [.int .i64, .int .i64, .int .i64, .sli .e43, .sli .e199, .sli .e201, .sli .e203]) := tfact_agg (by kernel_rfl) (by kernel_rfl) (by kernel_rfl)
theorem tf152 : TFact Go.Proofs.Try.prog KK 152 (.agg [(0, 1, false), (1, 1, false), (2, 1, false), (3, 1, false), (4, 1, false), (5, 1, false), (6, 1, false)] [.int .i64, .int .i64, .int .i64, .sli .e43, .sli .e199, .sli .e201, .sli .e203]) := tfact_agg (by kernel_rfl) (by kernel_rfl) (by kernel_rfl)
theorem tf153 : TFact Go.Proofs.Try.prog KK 153 (.one (.fnc)) := tfact_fnc (by kernel_rfl) (by kernel_rfl) (by kernel_rfl)
theorem tf154 : TFact Go.Proofs.Try.prog KK 154 (.one (.fnc)) := tfact_fnc (by kernel_rfl) (by kernel_rfl) (by kernel_rfl)
theorem tf155 : TFact Go.Proofs.Try.prog KK 155 (.one (.sli .e37)) := tfact_one (by kernel_rfl) (by kernel_rfl) (d := .slice 37) (by kernel_rfl) rfl
theorem tf156 : TFact Go.Proofs.Try.prog KK 156 (.one (.sli .e3)) := tfact_one (by kernel_rfl) (by kernel_rfl) (d := .slice 3) (by kernel_rfl) rfl
theorem tf157 : TFact Go.Proofs.Try.prog KK 157 (.one (.nk .ifc)) := tfact_ifc (by kernel_rfl) (by kernel_rfl) (by kernel_rfl)
theorem tf158 : TFact Go.Proofs.Try.prog KK 158 (.one (.nk .ifc)) := tfact_ifc (by kernel_rfl) (by kernel_rfl) (by kernel_rfl)
theorem tf160 : TFact Go.Proofs.Try.prog KK 160 (.one (.fnc)) := tfact_fnc (by kernel_rfl) (by kernel_rfl) (by kernel_rfl)
theorem tf161 : TFact Go.Proofs.Try.prog KK 161 (.one (.fnc)) := tfact_fnc (by kernel_rfl) (by kernel_rfl) (by kernel_rfl)
theorem tf162 : TFact Go.Proofs.Try.prog KK 162 (.one (.fnc)) := tfact_fnc (by kernel_rfl) (by kernel_rfl) (by kernel_rfl)
theorem tf163 : TFact Go.Proofs.Try.prog KK 163 (.one (.fnc)) := tfact_fnc (by kernel_rfl) (by kernel_rfl) (by kernel_rfl)
theorem tf164 : TFact Go.Proofs.Try.prog KK 164 (.one (.fnc)) := tfact_fnc (by kernel_rfl) (by kernel_rfl) (by kernel_rfl)
theorem tf165 : TFact Go.Proofs.Try.prog KK 165 (.one (.fnc)) := tfact_fnc (by kernel_rfl) (by kernel_rfl) (by kernel_rfl)
theorem tf166 : TFact Go.Proofs.Try.prog KK 166 (.one (.fnc)) := tfact_fnc (by kernel_rfl) (by kernel_rfl) (by kernel_rfl)
theorem tf167 : TFact Go.Proofs.Try.prog KK 167 (.one (.fnc)) := tfact_fnc (by kernel_rfl) (by kernel_rfl) (by kernel_rfl)
theorem tf168 : TFact Go.Proofs.Try.prog KK 168 (.one (.fnc)) := tfact_fnc (by kernel_rfl) (by kernel_rfl) (by kernel_rfl)
theorem tf169 : TFact Go.Proofs.Try.prog KK 169 (.one (.fnc)) := tfact_fnc (by kernel_rfl) (by kernel_rfl) (by kernel_rfl)
theorem tf170 : TFact Go.Proofs.Try.prog KK 170 (.one (.fnc)) := tfact_fnc (by kernel_rfl) (by kernel_rfl) (by kernel_rfl)
theorem tf171 : TFact Go.Proofs.Try.prog KK 171 (.agg [(0, 11, true)] [.str, .int .i64, .int .i64, .int .i64, .sli .e9, .str, .int .i64, .bool, .bool, .str, .str]) := tfact_agg (by kernel_rfl) (by kernel_rfl) (by kernel_rfl)
theorem tf172 : TFact Go.Proofs.Try.prog KK 172 (.agg [(0, 11, true)] [.str, .int .i64, .int .i64, .int .i64, .sli .e9, .str, .int .i64, .bool, .bool, .str, .str]) := tfact_agg (by kernel_rfl) (by kernel_rfl) (by kernel_rfl)
theorem tf173 : TFact Go.Proofs.Try.prog KK 173 (.one (.fnc)) := tfact_fnc (by kernel_rfl) (by kernel_rfl) (by kernel_rfl)
theorem tf174 : TFact Go.Proofs.Try.prog KK 174 (.agg [(0, 11, true)] [.str, .int .i64, .int .i64, .int .i64, .sli .e9, .str, .int .i64, .bool, .bool, .str, .str]) := tfact_agg (by kernel_rfl) (by kernel_rfl) (by kernel_rfl)
theorem tf175 : TFact Go.Proofs.Try.prog KK 175 (.agg [(0, 11, true)] [.str, .int .i64, .int .i64, .int .i64, .sli .e9, .str, .int .i64, .bool, .bool, .str, .str]) := tfact_agg (by kernel_rfl) (by kernel_rfl) (by kernel_rfl)
theorem tf176 : TFact Go.Proofs.Try.prog KK 176 (.agg [(0, 11, true)] [.str, .int .i64, .int .i64, .int .i64, .sli .e9, .str, .int .i64, .bool, .bool, .str, .str]) := tfact_agg (by kernel_rfl) (by kernel_rfl) (by kernel_rfl)
theorem tf177 : TFact Go.Proofs.Try.prog KK 177 (.one (.nk .map)) := tfact_map (by kernel_rfl) (by kernel_rfl) (by kernel_rfl)
theorem tf179 : TFact Go.Proofs.Try.prog KK 179 (.one (.fnc)) := tfact_fnc (by kernel_rfl) (by kernel_rfl) (by kernel_rfl)
theorem tf180 : TFact Go.Proofs.Try.prog KK 180 (.agg [(0, 1, false), (1, 1, false), (2, 1, false), (3, 1, false)] [.ptr, .ptr, .ptr, .str]) := tfact_agg (by kernel_rfl) (by kernel_rfl) (by kernel_rfl)
theorem tf181 : TFact Go.Proofs.Try.prog KK 181 (.agg [(0, 1, false), (1, 1, false), (2, 1, false), (3, 1, false)] [.ptr, .ptr, .ptr, .str]) := tfact_agg (by kernel_rfl) (by kernel_rfl) (by kernel_rfl)
theorem tf185 : TFact Go.Proofs.Try.prog KK 185 (.one (.fnc)) := tfact_fnc (by kernel_rfl) (by kernel_rfl) (by kernel_rfl)
theorem tf186 : TFact Go.Proofs.Try.prog KK 186 (.one (.int .u32)) := tfact_one (by kernel_rfl) (by kernel_rfl) (d := .int .u32) (by kernel_rfl) rfl
theorem tf187 : TFact Go.Proofs.Try.prog KK 187 (.one (.int .u8)) := tfact_one (by kernel_rfl) (by kernel_rfl) (d := .int .u8) (by kernel_rfl) rfl
theorem tf188 : TFact Go.Proofs.Try.prog KK 188 (.one (.int .u8)) := tfact_one (by kernel_rfl) (by kernel_rfl) (d := .int .u8) (by kernel_rfl) rfl
theorem tf189 : TFact Go.Proofs.Try.prog KK 189 (.one (.fnc)) := tfact_fnc (by kernel_rfl) (by kernel_rfl) (by kernel_rfl)
theorem tf190 : TFact Go.Proofs.Try.prog KK 190 (.one (.ptr)) := tfact_one (by kernel_rfl) (by kernel_rfl) (d := .pointer 5) (by kernel_rfl) ⟨_, rfl⟩
theorem tf191 : TFact Go.Proofs.Try.prog KK 191 (.one (.int .i32)) := tfact_one (by kernel_rfl) (by kernel_rfl) (d := .int .i32) (by kernel_rfl) rfl
theorem tf192 : TFact Go.Proofs.Try.prog KK 192 (.one (.int .i32)) := tfact_one (by kernel_rfl) (by kernel_rfl) (d := .int .i32) (by kernel_rfl) rfl
theorem tf193 : TFact Go.Proofs.Try.prog KK 193 (.agg [(0, 1, false), (1, 1, false), (2, 1, false), (3, 1, false), (4, 1, false), (5, 1, false), (6, 1, false), (7, 1, false), (8, 1, false), (9, 1, false), (10, 1, false)] [.int .u64, .int .u64, .int .u32, .int .u8, .int .u8, .int .u8, .int .u8, .fnc, .ptr, .int .i32, .int .i32]) := tfact_agg (by kernel_rfl) (by kernel_rfl) (by kernel_rfl)
theorem tf194 : TFact Go.Proofs.Try.prog KK 194 (.agg [(0, 1, false), (1, 1, false), (2, 1, false), (3, 1, false), (4, 1, false), (5, 1, false), (6, 1, false), (7, 1, false), (8, 1, false), (9, 1, false), (10, 1, false)] [.int .u64, .int .u64, .int .u32, .int .u8, .int .u8, .int .u8, .int .u8, .fnc, .ptr, .int .i32, .int .i32]) := tfact_agg (by kernel_rfl) (by kernel_rfl) (by kernel_rfl)
theorem tf195 : TFact Go.Proofs.Try.prog KK 195 (.one (.fnc)) := tfact_fnc (by kernel_rfl) (by kernel_rfl) (by kernel_rfl)
theorem tf196 : TFact Go.Proofs.Try.prog KK 196 (.agg [(0, 1, false), (1, 1, false), (2, 1, false), (3, 1, false)] [.sli .e3, .str, .str, .str]) := tfact_agg (by kernel_rfl) (by kernel_rfl) (by kernel_rfl)
theorem tf197 : TFact Go.Proofs.Try.prog KK 197 (.agg [(0, 1, false), (1, 1, false), (2, 1, false), (3, 1, false)] [.sli .e3, .str, .str, .str]) := tfact_agg (by kernel_rfl) (by kernel_rfl) (by kernel_rfl)
theorem tf198 : TFact Go.Proofs.Try.prog KK 198 (.agg [(0, 1, false), (1, 1, false), (2, 1, false), (3, 4, true)] [.int .i64, .str, .str, .sli .e3, .str, .str, .str]) := tfact_agg (by kernel_rfl) (by kernel_rfl) (by kernel_rfl)
theorem tf199 : TFact Go.Proofs.Try.prog KK 199 (.agg [(0, 1, false), (1, 1, false), (2, 1, false), (3, 4, true)] [.int .i64, .str, .str, .sli .e3, .str, .str, .str]) := tfact_agg (by kernel_rfl) (by kernel_rfl) (by kernel_rfl)
theorem tf200 : TFact Go.Proofs.Try.prog KK 200 (.agg [(0, 1, false), (1, 1, false), (2, 1, false), (3, 1, false)] [.str, .str, .int .i64, .int .i64]) := tfact_agg (by kernel_rfl) (by kernel_rfl) (by kernel_rfl)
theorem tf201 : TFact Go.Proofs.Try.prog KK 201 (.agg [(0, 1, false), (1, 1, false), (2, 1, false), (3, 1, false)] [.str, .str, .int .i64, .int .i64]) := tfact_agg (by kernel_rfl) (by kernel_rfl) (by kernel_rfl)
theorem tf202 : TFact Go.Proofs.Try.prog KK 202 (.agg [(0, 1, false), (1, 1, false), (2, 1, false), (3, 1, false), (4, 1, false)] [.str, .str, .str, .int .i64, .int .i64]) := tfact_agg (by kernel_rfl) (by kernel_rfl) (by kernel_rfl)
theorem tf203 : TFact Go.Proofs.Try.prog KK 203 (.agg [(0, 1, false), (1, 1, false), (2, 1, false), (3, 1, false), (4, 1, false)] [.str, .str, .str, .int .i64, .int .i64]) := tfact_agg (by kernel_rfl) (by kernel_rfl) (by kernel_rfl)
theorem tf205 : TFact Go.Proofs.Try.prog KK 205 (.one (.fnc)) := tfact_fnc (by kernel_rfl) (by kernel_rfl) (by kernel_rfl)
theorem tf207 : TFact Go.Proofs.Try.prog KK 207 (.agg [(0, 1, false), (1, 1, false)] [.str, .str]) := tfact_agg (by kernel_rfl) (by kernel_rfl) (by kernel_rfl)
theorem tf208 : TFact Go.Proofs.Try.prog KK 208 (.agg [(0, 1, false), (1, 1, false)] [.str, .str]) := tfact_agg (by kernel_rfl) (by kernel_rfl) (by kernel_rfl)
theorem tf209 : TFact Go.Proofs.Try.prog KK 209 (.one (.fnc)) := tfact_fnc (by kernel_rfl) (by kernel_rfl) (by kernel_rfl)
set_option maxRecDepth 100000 in
theorem tks_ok : ∀ T k, lk tks T = some k → TFact Go.Proofs.Try.prog KK T k := tk_all (l := tks) ⟨tf1, tf2, tf3, tf4, tf5, tf6, tf7, tf8, tf9, tf10, tf11, tf12, tf13, tf14, tf15, tf16, tf17, tf18, tf19, tf20, tf21, tf22, tf23, tf24, tf25, tf26, tf27, tf28, tf29, tf30, tf31, tf32, tf33, tf34, tf35, tf36, tf37, tf38, tf39, tf40, tf41, tf42, tf43, tf44, tf45, tf46, tf47, tf48, tf49, tf50, tf51, tf52, tf53, tf54, tf55, tf57, tf58, tf59, tf60, tf61, tf62, tf63, tf64, tf65, tf66, tf67, tf68, tf69, tf70, tf71, tf72, tf73, tf74, tf75, tf76, tf77, tf78, tf79, tf80, tf81, tf82, tf83, tf84, tf85, tf87, tf89, tf90, tf91, tf92, tf93, tf94, tf95, tf96, tf97, tf98, tf99, tf100, tf101, tf102, tf103, tf104, tf105, tf106, tf107, tf108, tf109, tf110, tf111, tf112, tf113, tf114, tf115, tf116, tf117, tf118, tf119, tf120, tf122, tf123, tf124, tf125, tf126, tf127, tf128, tf129, tf130, tf131, tf132, tf133, tf134, tf135, tf136, tf137, tf138, tf139, tf140, tf141, tf142, tf143, tf144, tf145, tf146, tf147, tf148, tf149, tf150, tf151, tf152, tf153, tf154, tf155, tf156, tf157, tf158, tf160, tf161, tf162, tf163, tf164, tf165, tf166, tf167, tf168, tf169, tf170, tf171, tf172, tf173, tf174, tf175, tf176, tf177, tf179, tf180, tf181, tf185, tf186, tf187, tf188, tf189, tf190, tf191, tf192, tf193, tf194, tf195, tf196, tf197, tf198, tf199, tf200, tf201, tf202, tf203, tf205, tf207, tf208, tf209, trivial⟩
theorem els_ok : ∀ t, EFact Go.Proofs.Try.prog KK t := by
  intro t
  cases t
  · exact efact (z := .int .i64 0) (by kernel_rfl) (by show 0 < 8; decide) (by kernel_rfl) (by kernel_rfl)
  · exact efact (z := .int .u8 0) (by kernel_rfl) (by show 0 < 1; decide) (by kernel_rfl) (by kernel_rfl)
  · exact efact (z := .string ⟨#[]⟩) (by kernel_rfl) (by show 0 < 16; decide) (by kernel_rfl) (by kernel_rfl)
  · exact efact (z := .slice none 0 0) (by kernel_rfl) (by show 0 < 24; decide) (by kernel_rfl) (by kernel_rfl)
  · exact efact (z := .slice none 0 0) (by kernel_rfl) (by show 0 < 24; decide) (by kernel_rfl) (by kernel_rfl)
  · exact efact (z := .slice none 0 0) (by kernel_rfl) (by show 0 < 24; decide) (by kernel_rfl) (by kernel_rfl)
  · exact efact (z := .agg #[.string ⟨#[]⟩, .string ⟨#[]⟩, .string ⟨#[]⟩, .slice none 0 0, .bool false, .slice none 0 0, .int .i64 0]) (by kernel_rfl) (by show 0 < 112; decide) (by kernel_rfl) (by kernel_rfl)
  · exact efact (z := .slice none 0 0) (by kernel_rfl) (by show 0 < 24; decide) (by kernel_rfl) (by kernel_rfl)
  · exact efact (z := .agg #[.string ⟨#[]⟩, .slice none 0 0]) (by kernel_rfl) (by show 0 < 40; decide) (by kernel_rfl) (by kernel_rfl)
  · exact efact (z := .agg #[.string ⟨#[]⟩, .string ⟨#[]⟩, .string ⟨#[]⟩, .string ⟨#[]⟩, .string ⟨#[]⟩, .string ⟨#[]⟩]) (by kernel_rfl) (by show 0 < 96; decide) (by kernel_rfl) (by kernel_rfl)
  · exact efact (z := .agg #[.string ⟨#[]⟩, .slice none 0 0]) (by kernel_rfl) (by show 0 < 40; decide) (by kernel_rfl) (by kernel_rfl)
  · exact efact (z := .agg #[.string ⟨#[]⟩, .string ⟨#[]⟩, .string ⟨#[]⟩, .string ⟨#[]⟩, .string ⟨#[]⟩, .string ⟨#[]⟩]) (by kernel_rfl) (by show 0 < 96; decide) (by kernel_rfl) (by kernel_rfl)
  · exact efact (z := .agg #[.string ⟨#[]⟩, .int .i64 0, .int .i64 0, .int .i64 0, .slice none 0 0, .string ⟨#[]⟩, .int .i64 0, .bool false, .bool false, .string ⟨#[]⟩, .string ⟨#[]⟩]) (by kernel_rfl) (by show 0 < 128; decide) (by kernel_rfl) (by kernel_rfl)
  · exact efact (z := .agg #[.string ⟨#[]⟩, .string ⟨#[]⟩]) (by kernel_rfl) (by show 0 < 32; decide) (by kernel_rfl) (by kernel_rfl)
  · exact efact (z := .agg #[.string ⟨#[]⟩, .string ⟨#[]⟩]) (by kernel_rfl) (by show 0 < 32; decide) (by kernel_rfl) (by kernel_rfl)
  · exact efact (z := .agg #[.string ⟨#[]⟩, .int .i64 0, .int .i64 0, .int .i64 0, .slice none 0 0, .string ⟨#[]⟩, .int .i64 0, .bool false, .bool false, .string ⟨#[]⟩, .string ⟨#[]⟩]) (by kernel_rfl) (by show 0 < 128; decide) (by kernel_rfl) (by kernel_rfl)
  · exact efact (z := .nilFunc) (by kernel_rfl) (by show 0 < 8; decide) (by kernel_rfl) (by kernel_rfl)
  · exact efact (z := .agg #[.int .i64 0, .string ⟨#[]⟩, .string ⟨#[]⟩, .slice none 0 0, .string ⟨#[]⟩, .string ⟨#[]⟩, .string ⟨#[]⟩]) (by kernel_rfl) (by show 0 < 112; decide) (by kernel_rfl) (by kernel_rfl)
  · exact efact (z := .agg #[.string ⟨#[]⟩, .string ⟨#[]⟩, .int .i64 0, .int .i64 0]) (by kernel_rfl) (by show 0 < 48; decide) (by kernel_rfl) (by kernel_rfl)
  · exact efact (z := .agg #[.string ⟨#[]⟩, .string ⟨#[]⟩, .string ⟨#[]⟩, .int .i64 0, .int .i64 0]) (by kernel_rfl) (by show 0 < 64; decide) (by kernel_rfl) (by kernel_rfl)
def mps : List (Nat × MT Ty) := [(136, ⟨⟨false, false, false, false⟩, .e9, .e3⟩), (177, ⟨⟨false, false, false, true⟩, .e3, .e173⟩)]
theorem mf136 : MFact Go.Proofs.Try.prog KK 136 ⟨⟨false, false, false, false⟩, .e9, .e3⟩ := mfact_str (kid := 9) (eid := 3) (by kernel_rfl) (by kernel_rfl) (fun x => ⟨x, rfl⟩) rfl rfl rfl (by kernel_rfl) (fun _ _ => rfl)
theorem mf177 : MFact Go.Proofs.Try.prog KK 177 ⟨⟨false, false, false, true⟩, .e3, .e173⟩ := mfact_int (kid := 3) (eid := 173) (by kernel_rfl) (by kernel_rfl) (fun x => ⟨x, rfl⟩) rfl rfl rfl (by kernel_rfl) (fun _ _ => rfl)
theorem mps_ok : ∀ T m, lk mps T = some m → MFact Go.Proofs.Try.prog KK T m := mp_of (by
  intro x hx
  simp only [mps, List.mem_cons, List.not_mem_nil, or_false] at hx
  rcases hx with rfl | rfl
  · exact mf136
  · exact mf177)
def meths : List (Nat × String × Nat) := [(8, "Error", 137), (8, "RuntimeError", 138), (10, "Error", 139), (10, "RuntimeError", 140), (11, "Error", 141), (11, "RuntimeError", 142), (14, "Error", 143), (14, "RuntimeError", 144), (15, "Error", 145), (15, "RuntimeError", 146), (16, "Error", 147), (16, "RuntimeError", 148), (17, "Align", 149), (19, "Error", 150), (19, "RuntimeError", 151), (43, "loop.example/wharfdesk/impl.spot", 152), (43, "loop.example/wharfdesk/impl.twin", 52), (119, "loop.example/wharfdesk/spec.of", 119), (119, "loop.example/wharfdesk/spec.pick", 112), (152, "loop.example/wharfdesk/impl.grantsOk", 153), (172, "loop.example/wharfdesk/impl.clean", 154), (172, "loop.example/wharfdesk/impl.fits", 155), (172, "loop.example/wharfdesk/impl.sound", 156), (174, "loop.example/wharfdesk/impl.clean", 158), (174, "loop.example/wharfdesk/impl.fits", 159), (174, "loop.example/wharfdesk/impl.sound", 160), (175, "loop.example/wharfdesk/impl.clean", 161), (175, "loop.example/wharfdesk/impl.fits", 162), (175, "loop.example/wharfdesk/impl.sound", 163), (176, "loop.example/wharfdesk/impl.clean", 164), (176, "loop.example/wharfdesk/impl.fits", 165), (176, "loop.example/wharfdesk/impl.sound", 166), (188, "String", 167), (197, "loop.example/wharfdesk/impl.ok", 168), (199, "loop.example/wharfdesk/impl.twin", 169)]
theorem meths_ok : ∀ T name f, lkS meths T name = some f → ∀ v w, (method (Go.Proofs.Try.prog.types.size + Made.depth) T v name).run Go.Proofs.Try.prog w = .ok (f, v) w := meth_of (by kernel_rfl)
end Go.Proofs.Ytkiognopoigbhaa.Ab

/- The functions that the law calls, written plainly, and their contracts: each call answers what its plain function answers. No conditions. -/
set_option linter.unusedVariables false
namespace Go.Proofs.Ytkiognopoigbhaa.Ab
open Go Go.RowKit
def fuel : Nat := 4611686018427387904
def lkC {α : Type 1} : List (Nat × α) → Nat → Option α
  | [], _ => none
  | (m, v) :: r, n => cond (Nat.beq n m) (some v) (lkC r n)
def allR (P : Program) (K : Cd C) : List (Nat × Con C) → Prop
  | [] => True
  | (f, c) :: r => ConOk P K f c ∧ allR P K r
def allW (P : Program) (K : Cd C) : List (Nat × ConW C) → Prop
  | [] => True
  | (f, c) :: r => ConWOk P K f c ∧ allW P K r
theorem lkR_ok {P : Program} {K : Cd C} : ∀ {l : List (Nat × Con C)}, allR P K l → ∀ f c, lkC l f = some c → ConOk P K f c
  | [], _, f, c, h => by cases h
  | (m, v) :: r, ha, f, c, h => by
    simp only [lkC] at h
    cases hb : Nat.beq f m with
    | true => rw [hb] at h; cases h; have := Nat.eq_of_beq_eq_true hb; subst this; exact ha.1
    | false => rw [hb] at h; exact lkR_ok ha.2 f c h
theorem lkW_ok {P : Program} {K : Cd C} : ∀ {l : List (Nat × ConW C)}, allW P K l → ∀ f c, lkC l f = some c → ConWOk P K f c
  | [], _, f, c, h => by cases h
  | (m, v) :: r, ha, f, c, h => by
    simp only [lkC] at h
    cases hb : Nat.beq f m with
    | true => rw [hb] at h; cases h; have := Nat.eq_of_beq_eq_true hb; subst this; exact ha.1
    | false => rw [hb] at h; exact lkW_ok ha.2 f c h
theorem nameB {s t : String} (h : (s == t) = false) : s ≠ t := by simpa using h
/-! ### f46 loop.example/wharfdesk/laws.szStringS -/
noncomputable def X46 : Cx C := { K := KK, tk := lk tks, con := lkC [], conw := lkC [], inl := lkA [], hold := [], mp := lk mps, meth := lkS meths, off := 3014656 }
def F46 (n : Nat) : Cf := { N := n, keep := [0, 1, 4, 5, 11, 15, 26], live := lk [(0, [0, 1, 5])] }
def dec46 (rs : List (Bool × List (Lf C))) : Option (Int) := match rs with
  | [(false, [.int .i64 z0])] => some z0
  | _ => none
abbrev A46_0 : Type := List (C .e9) × Int × Int
def s46_0 : A46_0 → St C := fun (x0_0, x0_1, x0_2) => { env := [(0, .one (.row .e9 x0_0)), (1, .one (.int .i64 x0_1)), (5, .one (.int .i64 x0_2))], objs := [], base := 0 }
noncomputable def r46_0 (n : Nat)  (rec0 : A46_0 → Option (Int)) : A46_0 → Option (Int) := fun (x0_0, x0_1, x0_2) =>
      cond (decide (x0_2 < (x0_0.length : Int)))
      (cond (decide (0 ≤ x0_2)) (Option.bind x0_0[x0_2.toNat]? fun x1 => cond (decide ((IntKind.i64.wrap (x0_1 - (x1.size : Int))) < 0))
      (some ((-1)))
      (rec0 (x0_0, IntKind.i64.wrap (x0_1 - (x1.size : Int)), IntKind.i64.wrap (x0_2 + 1)))) none)
      (some (x0_1))
noncomputable def LP46_0 (n : Nat)  (x : A46_0) : Option (Int) := lpN (r46_0 n ) n x
noncomputable def MP46_0 (n : Nat)  (x : A46_0) : Option (Int) := iter (fun rec S => run X46 (F46 n) (codeAt (bodyOf Go.Proofs.Try.f46) [1, 1, 1, 0, 1, 0, 0]) 0 S (lopK rec (blkK 0 (seqK (run X46 (F46 n) (codeAt (bodyOf Go.Proofs.Try.f46) [1, 1, 1, 1]) 0) (kTop X46 Go.Proofs.Try.f46 dec46))))) [0, 1, 5] n (s46_0 x)
theorem m46_0 (n : Nat)  (x : A46_0) : MP46_0 n  x = LP46_0 n  x := by
  refine iter_eq s46_0 (r46_0 n ) (fun rec0 x => ?_) n x
  obtain ⟨x0_0, x0_1, x0_2⟩ := x
  kernel_rfl
noncomputable def G46n (n : Nat) (a0 : List (C .e9)) (a1 : Int) : Option (Int) :=
      cond (decide ((IntKind.i64.wrap (a1 - (a0.length : Int))) < 0))
      (some ((-1)))
      (LP46_0 n  (a0, IntKind.i64.wrap (a1 - (a0.length : Int)), 0))
theorem t46 (n : Nat) (a0 : List (C .e9)) (a1 : Int) : runFn X46 (F46 n) Go.Proofs.Try.f46 [.one (.row .e9 a0), .one (.int .i64 a1)] dec46 = G46n n a0 a1 := by
  have h : runFn X46 (F46 n) Go.Proofs.Try.f46 [.one (.row .e9 a0), .one (.int .i64 a1)] dec46 =
      cond (decide ((IntKind.i64.wrap (a1 - (a0.length : Int))) < 0))
      (some ((-1)))
      (MP46_0 n  (a0, IntKind.i64.wrap (a1 - (a0.length : Int)), 0)) := by kernel_rfl
  simp only [h, G46n, m46_0]
noncomputable def G46 (a0 : List (C .e9)) (a1 : Int) : Option (Int) := G46n fuel a0 a1
noncomputable def con46 : Con C := { R0 := Int, ret := fun r => [(false, [.int .i64 r])], g := fun vs => match vs with
  | [.one (.row .e9 y0), .one (.int .i64 y1)] => G46 y0 y1
  | _ => none }
theorem x46 : XOk Go.Proofs.Try.prog X46 := ⟨tks_ok, els_ok, mps_ok, meths_ok⟩
theorem q46 : Cons Go.Proofs.Try.prog X46 := ⟨lkR_ok (l := []) trivial, lkW_ok (l := []) trivial, lkI_ok (l := []) trivial⟩
theorem c46 : ConOk Go.Proofs.Try.prog KK 46 con46 := by
  refine con_dec x46 q46 (by kernel_rfl) (f := 46) (fn := Go.Proofs.Try.f46) (c := bodyOf Go.Proofs.Try.f46) (by kernel_rfl) (by kernel_rfl) (by kernel_rfl) (nameB (by kernel_rfl)) con46 dec46 (fun rs r0 h => ?_) (fun vs r0 h => ?_)
  · unfold dec46 at h
    split at h
    · cases h; rfl
    · cases h
  · simp only [con46] at h
    split at h
    · rename_i y0 y1
      exact ⟨Nat.le_of_ble_eq_true (by kernel_rfl), F46 fuel, (t46 fuel y0 y1).trans h⟩
    · cases h
/-! ### f107 loop.example/wharfdesk/laws.szGateField -/
noncomputable def X107 : Cx C := { K := KK, tk := lk tks, con := lkC [(46, con46)], conw := lkC [], inl := lkA [], hold := [], mp := lk mps, meth := lkS meths, off := 7012352 }
def F107 (n : Nat) : Cf := { N := n, keep := [0, 1, 2, 4, 11, 17, 24, 31, 38], live := lk [] }
def dec107 (rs : List (Bool × List (Lf C))) : Option (Int) := match rs with
  | [(false, [.int .i64 z0])] => some z0
  | _ => none
noncomputable def G107n (n : Nat) (a0 : VGateField) (a1 : Int) : Option (Int) :=
      cond (decide ((IntKind.i64.wrap (a1 - (a0.Name.size : Int))) < 0))
      (some ((-1)))
      (Option.bind (G46 a0.Words (IntKind.i64.wrap (a1 - (a0.Name.size : Int)))) fun r1 =>
      cond (decide (r1 < 0))
      (some ((-1)))
      (cond (decide ((IntKind.i64.wrap (r1 - (a0.To.size : Int))) < 0))
      (some ((-1)))
      (cond (decide ((IntKind.i64.wrap ((IntKind.i64.wrap (r1 - (a0.To.size : Int))) - (a0.Default.size : Int))) < 0))
      (some ((-1)))
      (cond (decide ((IntKind.i64.wrap ((IntKind.i64.wrap ((IntKind.i64.wrap (r1 - (a0.To.size : Int))) - (a0.Default.size : Int))) - (a0.Weighs.size : Int))) < 0))
      (some ((-1)))
      (some (IntKind.i64.wrap ((IntKind.i64.wrap ((IntKind.i64.wrap (r1 - (a0.To.size : Int))) - (a0.Default.size : Int))) - (a0.Weighs.size : Int))))))))
theorem t107 (n : Nat) (a0 : VGateField) (a1 : Int) : runFn X107 (F107 n) Go.Proofs.Try.f107 [.agg [.str a0.Name, .int .i64 a0.Kind, .int .i64 a0.Least, .int .i64 a0.Most, .row .e9 a0.Words, .str a0.To, .int .i64 a0.Role, .bool a0.Must, .bool a0.Fixed, .str a0.Default, .str a0.Weighs], .one (.int .i64 a1)] dec107 = G107n n a0 a1 := by
  kernel_rfl
noncomputable def G107 (a0 : VGateField) (a1 : Int) : Option (Int) := G107n fuel a0 a1
noncomputable def con107 : Con C := { R0 := Int, ret := fun r => [(false, [.int .i64 r])], g := fun vs => match vs with
  | [.agg [.str y0_0, .int .i64 y0_1, .int .i64 y0_2, .int .i64 y0_3, .row .e9 y0_4, .str y0_5, .int .i64 y0_6, .bool y0_7, .bool y0_8, .str y0_9, .str y0_10], .one (.int .i64 y1)] => G107 ⟨y0_0, y0_1, y0_2, y0_3, y0_4, y0_5, y0_6, y0_7, y0_8, y0_9, y0_10⟩ y1
  | _ => none }
theorem x107 : XOk Go.Proofs.Try.prog X107 := ⟨tks_ok, els_ok, mps_ok, meths_ok⟩
theorem q107 : Cons Go.Proofs.Try.prog X107 := ⟨lkR_ok (l := [(46, con46)]) ⟨c46, trivial⟩, lkW_ok (l := []) trivial, lkI_ok (l := []) trivial⟩
theorem c107 : ConOk Go.Proofs.Try.prog KK 107 con107 := by
  refine con_dec x107 q107 (by kernel_rfl) (f := 107) (fn := Go.Proofs.Try.f107) (c := bodyOf Go.Proofs.Try.f107) (by kernel_rfl) (by kernel_rfl) (by kernel_rfl) (nameB (by kernel_rfl)) con107 dec107 (fun rs r0 h => ?_) (fun vs r0 h => ?_)
  · unfold dec107 at h
    split at h
    · cases h; rfl
    · cases h
  · simp only [con107] at h
    split at h
    · rename_i y0_0 y0_1 y0_2 y0_3 y0_4 y0_5 y0_6 y0_7 y0_8 y0_9 y0_10 y1
      exact ⟨Nat.le_of_ble_eq_true (by kernel_rfl), F107 fuel, (t107 fuel ⟨y0_0, y0_1, y0_2, y0_3, y0_4, y0_5, y0_6, y0_7, y0_8, y0_9, y0_10⟩ y1).trans h⟩
    · cases h
/-! ### f81 loop.example/wharfdesk/laws.szGateFieldS -/
noncomputable def X81 : Cx C := { K := KK, tk := lk tks, con := lkC [(107, con107)], conw := lkC [], inl := lkA [], hold := [], mp := lk mps, meth := lkS meths, off := 5308416 }
def F81 (n : Nat) : Cf := { N := n, keep := [0, 1, 4, 5, 11, 15, 25], live := lk [(0, [0, 1, 5])] }
def dec81 (rs : List (Bool × List (Lf C))) : Option (Int) := match rs with
  | [(false, [.int .i64 z0])] => some z0
  | _ => none
abbrev A81_0 : Type := List (C .e134) × Int × Int
def s81_0 : A81_0 → St C := fun (x0_0, x0_1, x0_2) => { env := [(0, .one (.row .e134 x0_0)), (1, .one (.int .i64 x0_1)), (5, .one (.int .i64 x0_2))], objs := [], base := 0 }
noncomputable def r81_0 (n : Nat)  (rec0 : A81_0 → Option (Int)) : A81_0 → Option (Int) := fun (x0_0, x0_1, x0_2) =>
      cond (decide (x0_2 < (x0_0.length : Int)))
      (cond (decide (0 ≤ x0_2)) (Option.bind x0_0[x0_2.toNat]? fun x1 => Option.bind (G107 x1 x0_1) fun r2 =>
      cond (decide (r2 < 0))
      (some ((-1)))
      (rec0 (x0_0, r2, IntKind.i64.wrap (x0_2 + 1)))) none)
      (some (x0_1))
noncomputable def LP81_0 (n : Nat)  (x : A81_0) : Option (Int) := lpN (r81_0 n ) n x
noncomputable def MP81_0 (n : Nat)  (x : A81_0) : Option (Int) := iter (fun rec S => run X81 (F81 n) (codeAt (bodyOf Go.Proofs.Try.f81) [1, 1, 1, 0, 1, 0, 0]) 0 S (lopK rec (blkK 0 (seqK (run X81 (F81 n) (codeAt (bodyOf Go.Proofs.Try.f81) [1, 1, 1, 1]) 0) (kTop X81 Go.Proofs.Try.f81 dec81))))) [0, 1, 5] n (s81_0 x)
theorem m81_0 (n : Nat)  (x : A81_0) : MP81_0 n  x = LP81_0 n  x := by
  refine iter_eq s81_0 (r81_0 n ) (fun rec0 x => ?_) n x
  obtain ⟨x0_0, x0_1, x0_2⟩ := x
  kernel_rfl
noncomputable def G81n (n : Nat) (a0 : List (C .e134)) (a1 : Int) : Option (Int) :=
      cond (decide ((IntKind.i64.wrap (a1 - (a0.length : Int))) < 0))
      (some ((-1)))
      (LP81_0 n  (a0, IntKind.i64.wrap (a1 - (a0.length : Int)), 0))
theorem t81 (n : Nat) (a0 : List (C .e134)) (a1 : Int) : runFn X81 (F81 n) Go.Proofs.Try.f81 [.one (.row .e134 a0), .one (.int .i64 a1)] dec81 = G81n n a0 a1 := by
  have h : runFn X81 (F81 n) Go.Proofs.Try.f81 [.one (.row .e134 a0), .one (.int .i64 a1)] dec81 =
      cond (decide ((IntKind.i64.wrap (a1 - (a0.length : Int))) < 0))
      (some ((-1)))
      (MP81_0 n  (a0, IntKind.i64.wrap (a1 - (a0.length : Int)), 0)) := by kernel_rfl
  simp only [h, G81n, m81_0]
noncomputable def G81 (a0 : List (C .e134)) (a1 : Int) : Option (Int) := G81n fuel a0 a1
noncomputable def con81 : Con C := { R0 := Int, ret := fun r => [(false, [.int .i64 r])], g := fun vs => match vs with
  | [.one (.row .e134 y0), .one (.int .i64 y1)] => G81 y0 y1
  | _ => none }
theorem x81 : XOk Go.Proofs.Try.prog X81 := ⟨tks_ok, els_ok, mps_ok, meths_ok⟩
theorem q81 : Cons Go.Proofs.Try.prog X81 := ⟨lkR_ok (l := [(107, con107)]) ⟨c107, trivial⟩, lkW_ok (l := []) trivial, lkI_ok (l := []) trivial⟩
theorem c81 : ConOk Go.Proofs.Try.prog KK 81 con81 := by
  refine con_dec x81 q81 (by kernel_rfl) (f := 81) (fn := Go.Proofs.Try.f81) (c := bodyOf Go.Proofs.Try.f81) (by kernel_rfl) (by kernel_rfl) (by kernel_rfl) (nameB (by kernel_rfl)) con81 dec81 (fun rs r0 h => ?_) (fun vs r0 h => ?_)
  · unfold dec81 at h
    split at h
    · cases h; rfl
    · cases h
  · simp only [con81] at h
    split at h
    · rename_i y0 y1
      exact ⟨Nat.le_of_ble_eq_true (by kernel_rfl), F81 fuel, (t81 fuel y0 y1).trans h⟩
    · cases h
/-! ### f44 loop.example/wharfdesk/laws.szGateShape -/
noncomputable def X44 : Cx C := { K := KK, tk := lk tks, con := lkC [(81, con81)], conw := lkC [], inl := lkA [], hold := [], mp := lk mps, meth := lkS meths, off := 2883584 }
def F44 (n : Nat) : Cf := { N := n, keep := [0, 1, 2, 4, 11, 17], live := lk [] }
def dec44 (rs : List (Bool × List (Lf C))) : Option (Int) := match rs with
  | [(false, [.int .i64 z0])] => some z0
  | _ => none
noncomputable def G44n (n : Nat) (a0 : VGateShape) (a1 : Int) : Option (Int) :=
      cond (decide ((IntKind.i64.wrap (a1 - (a0.Kind.size : Int))) < 0))
      (some ((-1)))
      (Option.bind (G81 a0.Fields (IntKind.i64.wrap (a1 - (a0.Kind.size : Int)))) fun r1 =>
      cond (decide (r1 < 0))
      (some ((-1)))
      (some (r1)))
theorem t44 (n : Nat) (a0 : VGateShape) (a1 : Int) : runFn X44 (F44 n) Go.Proofs.Try.f44 [.agg [.str a0.Kind, .row .e134 a0.Fields], .one (.int .i64 a1)] dec44 = G44n n a0 a1 := by
  kernel_rfl
noncomputable def G44 (a0 : VGateShape) (a1 : Int) : Option (Int) := G44n fuel a0 a1
noncomputable def con44 : Con C := { R0 := Int, ret := fun r => [(false, [.int .i64 r])], g := fun vs => match vs with
  | [.agg [.str y0_0, .row .e134 y0_1], .one (.int .i64 y1)] => G44 ⟨y0_0, y0_1⟩ y1
  | _ => none }
theorem x44 : XOk Go.Proofs.Try.prog X44 := ⟨tks_ok, els_ok, mps_ok, meths_ok⟩
theorem q44 : Cons Go.Proofs.Try.prog X44 := ⟨lkR_ok (l := [(81, con81)]) ⟨c81, trivial⟩, lkW_ok (l := []) trivial, lkI_ok (l := []) trivial⟩
theorem c44 : ConOk Go.Proofs.Try.prog KK 44 con44 := by
  refine con_dec x44 q44 (by kernel_rfl) (f := 44) (fn := Go.Proofs.Try.f44) (c := bodyOf Go.Proofs.Try.f44) (by kernel_rfl) (by kernel_rfl) (by kernel_rfl) (nameB (by kernel_rfl)) con44 dec44 (fun rs r0 h => ?_) (fun vs r0 h => ?_)
  · unfold dec44 at h
    split at h
    · cases h; rfl
    · cases h
  · simp only [con44] at h
    split at h
    · rename_i y0_0 y0_1 y1
      exact ⟨Nat.le_of_ble_eq_true (by kernel_rfl), F44 fuel, (t44 fuel ⟨y0_0, y0_1⟩ y1).trans h⟩
    · cases h
/-! ### f12 loop.example/wharfdesk/laws.szGateShapeS -/
noncomputable def X12 : Cx C := { K := KK, tk := lk tks, con := lkC [(44, con44)], conw := lkC [], inl := lkA [], hold := [], mp := lk mps, meth := lkS meths, off := 786432 }
def F12 (n : Nat) : Cf := { N := n, keep := [0, 1, 4, 5, 11, 15, 25], live := lk [(0, [0, 1, 5])] }
def dec12 (rs : List (Bool × List (Lf C))) : Option (Int) := match rs with
  | [(false, [.int .i64 z0])] => some z0
  | _ => none
abbrev A12_0 : Type := List (C .e74) × Int × Int
def s12_0 : A12_0 → St C := fun (x0_0, x0_1, x0_2) => { env := [(0, .one (.row .e74 x0_0)), (1, .one (.int .i64 x0_1)), (5, .one (.int .i64 x0_2))], objs := [], base := 0 }
noncomputable def r12_0 (n : Nat)  (rec0 : A12_0 → Option (Int)) : A12_0 → Option (Int) := fun (x0_0, x0_1, x0_2) =>
      cond (decide (x0_2 < (x0_0.length : Int)))
      (cond (decide (0 ≤ x0_2)) (Option.bind x0_0[x0_2.toNat]? fun x1 => Option.bind (G44 x1 x0_1) fun r2 =>
      cond (decide (r2 < 0))
      (some ((-1)))
      (rec0 (x0_0, r2, IntKind.i64.wrap (x0_2 + 1)))) none)
      (some (x0_1))
noncomputable def LP12_0 (n : Nat)  (x : A12_0) : Option (Int) := lpN (r12_0 n ) n x
noncomputable def MP12_0 (n : Nat)  (x : A12_0) : Option (Int) := iter (fun rec S => run X12 (F12 n) (codeAt (bodyOf Go.Proofs.Try.f12) [1, 1, 1, 0, 1, 0, 0]) 0 S (lopK rec (blkK 0 (seqK (run X12 (F12 n) (codeAt (bodyOf Go.Proofs.Try.f12) [1, 1, 1, 1]) 0) (kTop X12 Go.Proofs.Try.f12 dec12))))) [0, 1, 5] n (s12_0 x)
theorem m12_0 (n : Nat)  (x : A12_0) : MP12_0 n  x = LP12_0 n  x := by
  refine iter_eq s12_0 (r12_0 n ) (fun rec0 x => ?_) n x
  obtain ⟨x0_0, x0_1, x0_2⟩ := x
  kernel_rfl
noncomputable def G12n (n : Nat) (a0 : List (C .e74)) (a1 : Int) : Option (Int) :=
      cond (decide ((IntKind.i64.wrap (a1 - (a0.length : Int))) < 0))
      (some ((-1)))
      (LP12_0 n  (a0, IntKind.i64.wrap (a1 - (a0.length : Int)), 0))
theorem t12 (n : Nat) (a0 : List (C .e74)) (a1 : Int) : runFn X12 (F12 n) Go.Proofs.Try.f12 [.one (.row .e74 a0), .one (.int .i64 a1)] dec12 = G12n n a0 a1 := by
  have h : runFn X12 (F12 n) Go.Proofs.Try.f12 [.one (.row .e74 a0), .one (.int .i64 a1)] dec12 =
      cond (decide ((IntKind.i64.wrap (a1 - (a0.length : Int))) < 0))
      (some ((-1)))
      (MP12_0 n  (a0, IntKind.i64.wrap (a1 - (a0.length : Int)), 0)) := by kernel_rfl
  simp only [h, G12n, m12_0]
noncomputable def G12 (a0 : List (C .e74)) (a1 : Int) : Option (Int) := G12n fuel a0 a1
noncomputable def con12 : Con C := { R0 := Int, ret := fun r => [(false, [.int .i64 r])], g := fun vs => match vs with
  | [.one (.row .e74 y0), .one (.int .i64 y1)] => G12 y0 y1
  | _ => none }
theorem x12 : XOk Go.Proofs.Try.prog X12 := ⟨tks_ok, els_ok, mps_ok, meths_ok⟩
theorem q12 : Cons Go.Proofs.Try.prog X12 := ⟨lkR_ok (l := [(44, con44)]) ⟨c44, trivial⟩, lkW_ok (l := []) trivial, lkI_ok (l := []) trivial⟩
theorem c12 : ConOk Go.Proofs.Try.prog KK 12 con12 := by
  refine con_dec x12 q12 (by kernel_rfl) (f := 12) (fn := Go.Proofs.Try.f12) (c := bodyOf Go.Proofs.Try.f12) (by kernel_rfl) (by kernel_rfl) (by kernel_rfl) (nameB (by kernel_rfl)) con12 dec12 (fun rs r0 h => ?_) (fun vs r0 h => ?_)
  · unfold dec12 at h
    split at h
    · cases h; rfl
    · cases h
  · simp only [con12] at h
    split at h
    · rename_i y0 y1
      exact ⟨Nat.le_of_ble_eq_true (by kernel_rfl), F12 fuel, (t12 fuel y0 y1).trans h⟩
    · cases h
/-! ### f45 loop.example/wharfdesk/laws.szGateMend -/
noncomputable def X45 : Cx C := { K := KK, tk := lk tks, con := lkC [], conw := lkC [], inl := lkA [], hold := [], mp := lk mps, meth := lkS meths, off := 2949120 }
def F45 (n : Nat) : Cf := { N := n, keep := [0, 1, 2, 4, 11, 18, 25, 32, 39, 46], live := lk [] }
def dec45 (rs : List (Bool × List (Lf C))) : Option (Int) := match rs with
  | [(false, [.int .i64 z0])] => some z0
  | _ => none
noncomputable def G45n (n : Nat) (a0 : VGateMend) (a1 : Int) : Option (Int) :=
      cond (decide ((IntKind.i64.wrap (a1 - (a0.Kind.size : Int))) < 0))
      (some ((-1)))
      (cond (decide ((IntKind.i64.wrap ((IntKind.i64.wrap (a1 - (a0.Kind.size : Int))) - (a0.Field.size : Int))) < 0))
      (some ((-1)))
      (cond (decide ((IntKind.i64.wrap ((IntKind.i64.wrap ((IntKind.i64.wrap (a1 - (a0.Kind.size : Int))) - (a0.Field.size : Int))) - (a0.When.size : Int))) < 0))
      (some ((-1)))
      (cond (decide ((IntKind.i64.wrap ((IntKind.i64.wrap ((IntKind.i64.wrap ((IntKind.i64.wrap (a1 - (a0.Kind.size : Int))) - (a0.Field.size : Int))) - (a0.When.size : Int))) - (a0.Is.size : Int))) < 0))
      (some ((-1)))
      (cond (decide ((IntKind.i64.wrap ((IntKind.i64.wrap ((IntKind.i64.wrap ((IntKind.i64.wrap ((IntKind.i64.wrap (a1 - (a0.Kind.size : Int))) - (a0.Field.size : Int))) - (a0.When.size : Int))) - (a0.Is.size : Int))) - (a0.Put.size : Int))) < 0))
      (some ((-1)))
      (cond (decide ((IntKind.i64.wrap ((IntKind.i64.wrap ((IntKind.i64.wrap ((IntKind.i64.wrap ((IntKind.i64.wrap ((IntKind.i64.wrap (a1 - (a0.Kind.size : Int))) - (a0.Field.size : Int))) - (a0.When.size : Int))) - (a0.Is.size : Int))) - (a0.Put.size : Int))) - (a0.From.size : Int))) < 0))
      (some ((-1)))
      (some (IntKind.i64.wrap ((IntKind.i64.wrap ((IntKind.i64.wrap ((IntKind.i64.wrap ((IntKind.i64.wrap ((IntKind.i64.wrap (a1 - (a0.Kind.size : Int))) - (a0.Field.size : Int))) - (a0.When.size : Int))) - (a0.Is.size : Int))) - (a0.Put.size : Int))) - (a0.From.size : Int)))))))))
theorem t45 (n : Nat) (a0 : VGateMend) (a1 : Int) : runFn X45 (F45 n) Go.Proofs.Try.f45 [.agg [.str a0.Kind, .str a0.Field, .str a0.When, .str a0.Is, .str a0.Put, .str a0.From], .one (.int .i64 a1)] dec45 = G45n n a0 a1 := by
  kernel_rfl
noncomputable def G45 (a0 : VGateMend) (a1 : Int) : Option (Int) := G45n fuel a0 a1
noncomputable def con45 : Con C := { R0 := Int, ret := fun r => [(false, [.int .i64 r])], g := fun vs => match vs with
  | [.agg [.str y0_0, .str y0_1, .str y0_2, .str y0_3, .str y0_4, .str y0_5], .one (.int .i64 y1)] => G45 ⟨y0_0, y0_1, y0_2, y0_3, y0_4, y0_5⟩ y1
  | _ => none }
theorem x45 : XOk Go.Proofs.Try.prog X45 := ⟨tks_ok, els_ok, mps_ok, meths_ok⟩
theorem q45 : Cons Go.Proofs.Try.prog X45 := ⟨lkR_ok (l := []) trivial, lkW_ok (l := []) trivial, lkI_ok (l := []) trivial⟩
theorem c45 : ConOk Go.Proofs.Try.prog KK 45 con45 := by
  refine con_dec x45 q45 (by kernel_rfl) (f := 45) (fn := Go.Proofs.Try.f45) (c := bodyOf Go.Proofs.Try.f45) (by kernel_rfl) (by kernel_rfl) (by kernel_rfl) (nameB (by kernel_rfl)) con45 dec45 (fun rs r0 h => ?_) (fun vs r0 h => ?_)
  · unfold dec45 at h
    split at h
    · cases h; rfl
    · cases h
  · simp only [con45] at h
    split at h
    · rename_i y0_0 y0_1 y0_2 y0_3 y0_4 y0_5 y1
      exact ⟨Nat.le_of_ble_eq_true (by kernel_rfl), F45 fuel, (t45 fuel ⟨y0_0, y0_1, y0_2, y0_3, y0_4, y0_5⟩ y1).trans h⟩
    · cases h
/-! ### f13 loop.example/wharfdesk/laws.szGateMendS -/
noncomputable def X13 : Cx C := { K := KK, tk := lk tks, con := lkC [(45, con45)], conw := lkC [], inl := lkA [], hold := [], mp := lk mps, meth := lkS meths, off := 851968 }
def F13 (n : Nat) : Cf := { N := n, keep := [0, 1, 4, 5, 11, 15, 25], live := lk [(0, [0, 1, 5])] }
def dec13 (rs : List (Bool × List (Lf C))) : Option (Int) := match rs with
  | [(false, [.int .i64 z0])] => some z0
  | _ => none
abbrev A13_0 : Type := List (C .e77) × Int × Int
def s13_0 : A13_0 → St C := fun (x0_0, x0_1, x0_2) => { env := [(0, .one (.row .e77 x0_0)), (1, .one (.int .i64 x0_1)), (5, .one (.int .i64 x0_2))], objs := [], base := 0 }
noncomputable def r13_0 (n : Nat)  (rec0 : A13_0 → Option (Int)) : A13_0 → Option (Int) := fun (x0_0, x0_1, x0_2) =>
      cond (decide (x0_2 < (x0_0.length : Int)))
      (cond (decide (0 ≤ x0_2)) (Option.bind x0_0[x0_2.toNat]? fun x1 => Option.bind (G45 x1 x0_1) fun r2 =>
      cond (decide (r2 < 0))
      (some ((-1)))
      (rec0 (x0_0, r2, IntKind.i64.wrap (x0_2 + 1)))) none)
      (some (x0_1))
noncomputable def LP13_0 (n : Nat)  (x : A13_0) : Option (Int) := lpN (r13_0 n ) n x
noncomputable def MP13_0 (n : Nat)  (x : A13_0) : Option (Int) := iter (fun rec S => run X13 (F13 n) (codeAt (bodyOf Go.Proofs.Try.f13) [1, 1, 1, 0, 1, 0, 0]) 0 S (lopK rec (blkK 0 (seqK (run X13 (F13 n) (codeAt (bodyOf Go.Proofs.Try.f13) [1, 1, 1, 1]) 0) (kTop X13 Go.Proofs.Try.f13 dec13))))) [0, 1, 5] n (s13_0 x)
theorem m13_0 (n : Nat)  (x : A13_0) : MP13_0 n  x = LP13_0 n  x := by
  refine iter_eq s13_0 (r13_0 n ) (fun rec0 x => ?_) n x
  obtain ⟨x0_0, x0_1, x0_2⟩ := x
  kernel_rfl
noncomputable def G13n (n : Nat) (a0 : List (C .e77)) (a1 : Int) : Option (Int) :=
      cond (decide ((IntKind.i64.wrap (a1 - (a0.length : Int))) < 0))
      (some ((-1)))
      (LP13_0 n  (a0, IntKind.i64.wrap (a1 - (a0.length : Int)), 0))
theorem t13 (n : Nat) (a0 : List (C .e77)) (a1 : Int) : runFn X13 (F13 n) Go.Proofs.Try.f13 [.one (.row .e77 a0), .one (.int .i64 a1)] dec13 = G13n n a0 a1 := by
  have h : runFn X13 (F13 n) Go.Proofs.Try.f13 [.one (.row .e77 a0), .one (.int .i64 a1)] dec13 =
      cond (decide ((IntKind.i64.wrap (a1 - (a0.length : Int))) < 0))
      (some ((-1)))
      (MP13_0 n  (a0, IntKind.i64.wrap (a1 - (a0.length : Int)), 0)) := by kernel_rfl
  simp only [h, G13n, m13_0]
noncomputable def G13 (a0 : List (C .e77)) (a1 : Int) : Option (Int) := G13n fuel a0 a1
noncomputable def con13 : Con C := { R0 := Int, ret := fun r => [(false, [.int .i64 r])], g := fun vs => match vs with
  | [.one (.row .e77 y0), .one (.int .i64 y1)] => G13 y0 y1
  | _ => none }
theorem x13 : XOk Go.Proofs.Try.prog X13 := ⟨tks_ok, els_ok, mps_ok, meths_ok⟩
theorem q13 : Cons Go.Proofs.Try.prog X13 := ⟨lkR_ok (l := [(45, con45)]) ⟨c45, trivial⟩, lkW_ok (l := []) trivial, lkI_ok (l := []) trivial⟩
theorem c13 : ConOk Go.Proofs.Try.prog KK 13 con13 := by
  refine con_dec x13 q13 (by kernel_rfl) (f := 13) (fn := Go.Proofs.Try.f13) (c := bodyOf Go.Proofs.Try.f13) (by kernel_rfl) (by kernel_rfl) (by kernel_rfl) (nameB (by kernel_rfl)) con13 dec13 (fun rs r0 h => ?_) (fun vs r0 h => ?_)
  · unfold dec13 at h
    split at h
    · cases h; rfl
    · cases h
  · simp only [con13] at h
    split at h
    · rename_i y0 y1
      exact ⟨Nat.le_of_ble_eq_true (by kernel_rfl), F13 fuel, (t13 fuel y0 y1).trans h⟩
    · cases h
/-! ### f14 loop.example/wharfdesk/laws.szGateObject -/
noncomputable def X14 : Cx C := { K := KK, tk := lk tks, con := lkC [(46, con46)], conw := lkC [], inl := lkA [], hold := [], mp := lk mps, meth := lkS meths, off := 917504 }
def F14 (n : Nat) : Cf := { N := n, keep := [0, 1, 2, 4, 11, 18, 25, 31, 37], live := lk [] }
def dec14 (rs : List (Bool × List (Lf C))) : Option (Int) := match rs with
  | [(false, [.int .i64 z0])] => some z0
  | _ => none
noncomputable def G14n (n : Nat) (a0 : VGateObject) (a1 : Int) : Option (Int) :=
      cond (decide ((IntKind.i64.wrap (a1 - (a0.Kind.size : Int))) < 0))
      (some ((-1)))
      (cond (decide ((IntKind.i64.wrap ((IntKind.i64.wrap (a1 - (a0.Kind.size : Int))) - (a0.Name.size : Int))) < 0))
      (some ((-1)))
      (cond (decide ((IntKind.i64.wrap ((IntKind.i64.wrap ((IntKind.i64.wrap (a1 - (a0.Kind.size : Int))) - (a0.Name.size : Int))) - (a0.Team.size : Int))) < 0))
      (some ((-1)))
      (Option.bind (G46 a0.Values (IntKind.i64.wrap ((IntKind.i64.wrap ((IntKind.i64.wrap (a1 - (a0.Kind.size : Int))) - (a0.Name.size : Int))) - (a0.Team.size : Int)))) fun r1 =>
      cond (decide (r1 < 0))
      (some ((-1)))
      (Option.bind (G46 a0.Holds r1) fun r2 =>
      cond (decide (r2 < 0))
      (some ((-1)))
      (some (r2))))))
theorem t14 (n : Nat) (a0 : VGateObject) (a1 : Int) : runFn X14 (F14 n) Go.Proofs.Try.f14 [.agg [.str a0.Kind, .str a0.Name, .str a0.Team, .row .e9 a0.Values, .bool a0.Ending, .row .e9 a0.Holds, .int .i64 a0.Version], .one (.int .i64 a1)] dec14 = G14n n a0 a1 := by
  kernel_rfl
noncomputable def G14 (a0 : VGateObject) (a1 : Int) : Option (Int) := G14n fuel a0 a1
noncomputable def con14 : Con C := { R0 := Int, ret := fun r => [(false, [.int .i64 r])], g := fun vs => match vs with
  | [.agg [.str y0_0, .str y0_1, .str y0_2, .row .e9 y0_3, .bool y0_4, .row .e9 y0_5, .int .i64 y0_6], .one (.int .i64 y1)] => G14 ⟨y0_0, y0_1, y0_2, y0_3, y0_4, y0_5, y0_6⟩ y1
  | _ => none }
theorem x14 : XOk Go.Proofs.Try.prog X14 := ⟨tks_ok, els_ok, mps_ok, meths_ok⟩
theorem q14 : Cons Go.Proofs.Try.prog X14 := ⟨lkR_ok (l := [(46, con46)]) ⟨c46, trivial⟩, lkW_ok (l := []) trivial, lkI_ok (l := []) trivial⟩
theorem c14 : ConOk Go.Proofs.Try.prog KK 14 con14 := by
  refine con_dec x14 q14 (by kernel_rfl) (f := 14) (fn := Go.Proofs.Try.f14) (c := bodyOf Go.Proofs.Try.f14) (by kernel_rfl) (by kernel_rfl) (by kernel_rfl) (nameB (by kernel_rfl)) con14 dec14 (fun rs r0 h => ?_) (fun vs r0 h => ?_)
  · unfold dec14 at h
    split at h
    · cases h; rfl
    · cases h
  · simp only [con14] at h
    split at h
    · rename_i y0_0 y0_1 y0_2 y0_3 y0_4 y0_5 y0_6 y1
      exact ⟨Nat.le_of_ble_eq_true (by kernel_rfl), F14 fuel, (t14 fuel ⟨y0_0, y0_1, y0_2, y0_3, y0_4, y0_5, y0_6⟩ y1).trans h⟩
    · cases h
/-! ### f104 loop.example/wharfdesk/spec.l1In -/
noncomputable def X104 : Cx C := { K := KK, tk := lk tks, con := lkC [], conw := lkC [], inl := lkA [], hold := [], mp := lk mps, meth := lkS meths, off := 6815744 }
def F104 (n : Nat) : Cf := { N := n, keep := [0, 1, 2, 6], live := lk [] }
def dec104 (rs : List (Bool × List (Lf C))) : Option (Bool) := match rs with
  | [(false, [.bool z0])] => some z0
  | _ => none
noncomputable def G104n (n : Nat) (a0 : Int) (a1 : Int) (a2 : Int) : Option (Bool) :=
      cond (decide (a0 ≥ a1))
      (some (decide (a0 ≤ a2)))
      (some (false))
theorem t104 (n : Nat) (a0 : Int) (a1 : Int) (a2 : Int) : runFn X104 (F104 n) Go.Proofs.Try.f104 [.one (.int .i64 a0), .one (.int .i64 a1), .one (.int .i64 a2)] dec104 = G104n n a0 a1 a2 := by
  kernel_rfl
noncomputable def G104 (a0 : Int) (a1 : Int) (a2 : Int) : Option (Bool) := G104n fuel a0 a1 a2
noncomputable def con104 : Con C := { R0 := Bool, ret := fun r => [(false, [.bool r])], g := fun vs => match vs with
  | [.one (.int .i64 y0), .one (.int .i64 y1), .one (.int .i64 y2)] => G104 y0 y1 y2
  | _ => none }
theorem x104 : XOk Go.Proofs.Try.prog X104 := ⟨tks_ok, els_ok, mps_ok, meths_ok⟩
theorem q104 : Cons Go.Proofs.Try.prog X104 := ⟨lkR_ok (l := []) trivial, lkW_ok (l := []) trivial, lkI_ok (l := []) trivial⟩
theorem c104 : ConOk Go.Proofs.Try.prog KK 104 con104 := by
  refine con_dec x104 q104 (by kernel_rfl) (f := 104) (fn := Go.Proofs.Try.f104) (c := bodyOf Go.Proofs.Try.f104) (by kernel_rfl) (by kernel_rfl) (by kernel_rfl) (nameB (by kernel_rfl)) con104 dec104 (fun rs r0 h => ?_) (fun vs r0 h => ?_)
  · unfold dec104 at h
    split at h
    · cases h; rfl
    · cases h
  · simp only [con104] at h
    split at h
    · rename_i y0 y1 y2
      exact ⟨Nat.le_of_ble_eq_true (by kernel_rfl), F104 fuel, (t104 fuel y0 y1 y2).trans h⟩
    · cases h
/-! ### f105 loop.example/wharfdesk/spec.l1Byte -/
noncomputable def X105 : Cx C := { K := KK, tk := lk tks, con := lkC [], conw := lkC [], inl := lkA [], hold := [], mp := lk mps, meth := lkS meths, off := 6881280 }
def F105 (n : Nat) : Cf := { N := n, keep := [0, 2], live := lk [] }
def dec105 (rs : List (Bool × List (Lf C))) : Option (Bool) := match rs with
  | [(false, [.bool z0])] => some z0
  | _ => none
noncomputable def G105n (n : Nat) (a0 : Int) : Option (Bool) :=
      cond (decide (a0 ≥ 97))
      (cond (decide (a0 ≤ 122))
      (some (true))
      (cond (decide (a0 ≥ 48))
      (cond (decide (a0 ≤ 57))
      (some (true))
      (some (a0 == 45)))
      (some (a0 == 45))))
      (cond (decide (a0 ≥ 48))
      (cond (decide (a0 ≤ 57))
      (some (true))
      (some (a0 == 45)))
      (some (a0 == 45)))
theorem t105 (n : Nat) (a0 : Int) : runFn X105 (F105 n) Go.Proofs.Try.f105 [.one (.int .u8 a0)] dec105 = G105n n a0 := by
  kernel_rfl
noncomputable def G105 (a0 : Int) : Option (Bool) := G105n fuel a0
noncomputable def con105 : Con C := { R0 := Bool, ret := fun r => [(false, [.bool r])], g := fun vs => match vs with
  | [.one (.int .u8 y0)] => G105 y0
  | _ => none }
theorem x105 : XOk Go.Proofs.Try.prog X105 := ⟨tks_ok, els_ok, mps_ok, meths_ok⟩
theorem q105 : Cons Go.Proofs.Try.prog X105 := ⟨lkR_ok (l := []) trivial, lkW_ok (l := []) trivial, lkI_ok (l := []) trivial⟩
theorem c105 : ConOk Go.Proofs.Try.prog KK 105 con105 := by
  refine con_dec x105 q105 (by kernel_rfl) (f := 105) (fn := Go.Proofs.Try.f105) (c := bodyOf Go.Proofs.Try.f105) (by kernel_rfl) (by kernel_rfl) (by kernel_rfl) (nameB (by kernel_rfl)) con105 dec105 (fun rs r0 h => ?_) (fun vs r0 h => ?_)
  · unfold dec105 at h
    split at h
    · cases h; rfl
    · cases h
  · simp only [con105] at h
    split at h
    · rename_i y0
      exact ⟨Nat.le_of_ble_eq_true (by kernel_rfl), F105 fuel, (t105 fuel y0).trans h⟩
    · cases h
/-! ### f74 loop.example/wharfdesk/spec.l1NameOk -/
noncomputable def X74 : Cx C := { K := KK, tk := lk tks, con := lkC [(104, con104), (105, con105)], conw := lkC [], inl := lkA [], hold := [], mp := lk mps, meth := lkS meths, off := 4849664 }
def F74 (n : Nat) : Cf := { N := n, keep := [0, 2, 3, 7, 11, 18], live := lk [(0, [0, 3])] }
def dec74 (rs : List (Bool × List (Lf C))) : Option (Bool) := match rs with
  | [(false, [.bool z0])] => some z0
  | _ => none
abbrev A74_0 : Type := ByteArray × Int
def s74_0 : A74_0 → St C := fun (x0_0, x0_1) => { env := [(0, .one (.str x0_0)), (3, .one (.int .i64 x0_1))], objs := [], base := 0 }
noncomputable def r74_0 (n : Nat)  (rec0 : A74_0 → Option (Bool)) : A74_0 → Option (Bool) := fun (x0_0, x0_1) =>
      cond (decide (x0_1 < (x0_0.size : Int)))
      (cond (decide (0 ≤ x0_1)) (cond (decide (x0_1 < (x0_0.size : Int))) (Option.bind (G105 (sbt x0_0 x0_1)) fun r2 =>
      cond (!r2)
      (some (false))
      (rec0 (x0_0, IntKind.i64.wrap (x0_1 + 1)))) none) none)
      (some (true))
noncomputable def LP74_0 (n : Nat)  (x : A74_0) : Option (Bool) := lpN (r74_0 n ) n x
noncomputable def MP74_0 (n : Nat)  (x : A74_0) : Option (Bool) := iter (fun rec S => run X74 (F74 n) (codeAt (bodyOf Go.Proofs.Try.f74) [1, 1, 0, 1, 0, 0]) 0 S (lopK rec (blkK 0 (seqK (run X74 (F74 n) (codeAt (bodyOf Go.Proofs.Try.f74) [1, 1, 1]) 0) (kTop X74 Go.Proofs.Try.f74 dec74))))) [0, 3] n (s74_0 x)
theorem m74_0 (n : Nat)  (x : A74_0) : MP74_0 n  x = LP74_0 n  x := by
  refine iter_eq s74_0 (r74_0 n ) (fun rec0 x => ?_) n x
  obtain ⟨x0_0, x0_1⟩ := x
  kernel_rfl
noncomputable def G74n (n : Nat) (a0 : ByteArray) : Option (Bool) :=
      Option.bind (G104 (a0.size : Int) 1 16) fun r1 =>
      cond (!r1)
      (some (false))
      (LP74_0 n  (a0, 0))
theorem t74 (n : Nat) (a0 : ByteArray) : runFn X74 (F74 n) Go.Proofs.Try.f74 [.one (.str a0)] dec74 = G74n n a0 := by
  have h : runFn X74 (F74 n) Go.Proofs.Try.f74 [.one (.str a0)] dec74 =
      Option.bind (G104 (a0.size : Int) 1 16) fun r1 =>
      cond (!r1)
      (some (false))
      (MP74_0 n  (a0, 0)) := by kernel_rfl
  simp only [h, G74n, m74_0]
noncomputable def G74 (a0 : ByteArray) : Option (Bool) := G74n fuel a0
noncomputable def con74 : Con C := { R0 := Bool, ret := fun r => [(false, [.bool r])], g := fun vs => match vs with
  | [.one (.str y0)] => G74 y0
  | _ => none }
theorem x74 : XOk Go.Proofs.Try.prog X74 := ⟨tks_ok, els_ok, mps_ok, meths_ok⟩
theorem q74 : Cons Go.Proofs.Try.prog X74 := ⟨lkR_ok (l := [(104, con104), (105, con105)]) ⟨c104, c105, trivial⟩, lkW_ok (l := []) trivial, lkI_ok (l := []) trivial⟩
theorem c74 : ConOk Go.Proofs.Try.prog KK 74 con74 := by
  refine con_dec x74 q74 (by kernel_rfl) (f := 74) (fn := Go.Proofs.Try.f74) (c := bodyOf Go.Proofs.Try.f74) (by kernel_rfl) (by kernel_rfl) (by kernel_rfl) (nameB (by kernel_rfl)) con74 dec74 (fun rs r0 h => ?_) (fun vs r0 h => ?_)
  · unfold dec74 at h
    split at h
    · cases h; rfl
    · cases h
  · simp only [con74] at h
    split at h
    · rename_i y0
      exact ⟨Nat.le_of_ble_eq_true (by kernel_rfl), F74 fuel, (t74 fuel y0).trans h⟩
    · cases h
/-! ### f83 loop.example/wharfdesk/spec.l1Shape -/
noncomputable def X83 : Cx C := { K := KK, tk := lk tks, con := lkC [], conw := lkC [], inl := lkA [], hold := [], mp := lk mps, meth := lkS meths, off := 5439488 }
def F83 (n : Nat) : Cf := { N := n, keep := [0, 1, 4, 5, 9, 18], live := lk [(0, [0, 1, 5])] }
def dec83 (rs : List (Bool × List (Lf C))) : Option (Int) := match rs with
  | [(false, [.int .i64 z0])] => some z0
  | _ => none
abbrev A83_0 : Type := List (C .e81) × ByteArray × Int
def s83_0 : A83_0 → St C := fun (x0_0, x0_1, x0_2) => { env := [(0, .one (.row .e81 x0_0)), (1, .one (.str x0_1)), (5, .one (.int .i64 x0_2))], objs := [], base := 0 }
noncomputable def r83_0 (n : Nat)  (rec0 : A83_0 → Option (Int)) : A83_0 → Option (Int) := fun (x0_0, x0_1, x0_2) =>
      cond (decide (x0_2 < (x0_0.length : Int)))
      (cond (decide (0 ≤ x0_2)) (Option.bind x0_0[x0_2.toNat]? fun x1 => cond (decide (x1.Kind = x0_1))
      (some (x0_2))
      (rec0 (x0_0, x0_1, IntKind.i64.wrap (x0_2 + 1)))) none)
      (some ((-1)))
noncomputable def LP83_0 (n : Nat)  (x : A83_0) : Option (Int) := lpN (r83_0 n ) n x
noncomputable def MP83_0 (n : Nat)  (x : A83_0) : Option (Int) := iter (fun rec S => run X83 (F83 n) (codeAt (bodyOf Go.Proofs.Try.f83) [1, 0, 1, 0, 0]) 0 S (lopK rec (blkK 0 (seqK (run X83 (F83 n) (codeAt (bodyOf Go.Proofs.Try.f83) [1, 1]) 0) (kTop X83 Go.Proofs.Try.f83 dec83))))) [0, 1, 5] n (s83_0 x)
theorem m83_0 (n : Nat)  (x : A83_0) : MP83_0 n  x = LP83_0 n  x := by
  refine iter_eq s83_0 (r83_0 n ) (fun rec0 x => ?_) n x
  obtain ⟨x0_0, x0_1, x0_2⟩ := x
  kernel_rfl
noncomputable def G83n (n : Nat) (a0 : List (C .e81)) (a1 : ByteArray) : Option (Int) :=
      LP83_0 n  (a0, a1, 0)
theorem t83 (n : Nat) (a0 : List (C .e81)) (a1 : ByteArray) : runFn X83 (F83 n) Go.Proofs.Try.f83 [.one (.row .e81 a0), .one (.str a1)] dec83 = G83n n a0 a1 := by
  have h : runFn X83 (F83 n) Go.Proofs.Try.f83 [.one (.row .e81 a0), .one (.str a1)] dec83 =
      MP83_0 n  (a0, a1, 0) := by kernel_rfl
  simp only [h, G83n, m83_0]
noncomputable def G83 (a0 : List (C .e81)) (a1 : ByteArray) : Option (Int) := G83n fuel a0 a1
noncomputable def con83 : Con C := { R0 := Int, ret := fun r => [(false, [.int .i64 r])], g := fun vs => match vs with
  | [.one (.row .e81 y0), .one (.str y1)] => G83 y0 y1
  | _ => none }
theorem x83 : XOk Go.Proofs.Try.prog X83 := ⟨tks_ok, els_ok, mps_ok, meths_ok⟩
theorem q83 : Cons Go.Proofs.Try.prog X83 := ⟨lkR_ok (l := []) trivial, lkW_ok (l := []) trivial, lkI_ok (l := []) trivial⟩
theorem c83 : ConOk Go.Proofs.Try.prog KK 83 con83 := by
  refine con_dec x83 q83 (by kernel_rfl) (f := 83) (fn := Go.Proofs.Try.f83) (c := bodyOf Go.Proofs.Try.f83) (by kernel_rfl) (by kernel_rfl) (by kernel_rfl) (nameB (by kernel_rfl)) con83 dec83 (fun rs r0 h => ?_) (fun vs r0 h => ?_)
  · unfold dec83 at h
    split at h
    · cases h; rfl
    · cases h
  · simp only [con83] at h
    split at h
    · rename_i y0 y1
      exact ⟨Nat.le_of_ble_eq_true (by kernel_rfl), F83 fuel, (t83 fuel y0 y1).trans h⟩
    · cases h
/-! ### f102 loop.example/wharfdesk/spec.l1Has -/
noncomputable def X102 : Cx C := { K := KK, tk := lk tks, con := lkC [], conw := lkC [], inl := lkA [], hold := [], mp := lk mps, meth := lkS meths, off := 6684672 }
def F102 (n : Nat) : Cf := { N := n, keep := [0, 1, 4, 5, 9, 17], live := lk [(0, [0, 1, 5])] }
def dec102 (rs : List (Bool × List (Lf C))) : Option (Bool) := match rs with
  | [(false, [.bool z0])] => some z0
  | _ => none
abbrev A102_0 : Type := List (C .e9) × ByteArray × Int
def s102_0 : A102_0 → St C := fun (x0_0, x0_1, x0_2) => { env := [(0, .one (.row .e9 x0_0)), (1, .one (.str x0_1)), (5, .one (.int .i64 x0_2))], objs := [], base := 0 }
noncomputable def r102_0 (n : Nat)  (rec0 : A102_0 → Option (Bool)) : A102_0 → Option (Bool) := fun (x0_0, x0_1, x0_2) =>
      cond (decide (x0_2 < (x0_0.length : Int)))
      (cond (decide (0 ≤ x0_2)) (Option.bind x0_0[x0_2.toNat]? fun x1 => cond (decide (x1 = x0_1))
      (some (true))
      (rec0 (x0_0, x0_1, IntKind.i64.wrap (x0_2 + 1)))) none)
      (some (false))
noncomputable def LP102_0 (n : Nat)  (x : A102_0) : Option (Bool) := lpN (r102_0 n ) n x
noncomputable def MP102_0 (n : Nat)  (x : A102_0) : Option (Bool) := iter (fun rec S => run X102 (F102 n) (codeAt (bodyOf Go.Proofs.Try.f102) [1, 0, 1, 0, 0]) 0 S (lopK rec (blkK 0 (seqK (run X102 (F102 n) (codeAt (bodyOf Go.Proofs.Try.f102) [1, 1]) 0) (kTop X102 Go.Proofs.Try.f102 dec102))))) [0, 1, 5] n (s102_0 x)
theorem m102_0 (n : Nat)  (x : A102_0) : MP102_0 n  x = LP102_0 n  x := by
  refine iter_eq s102_0 (r102_0 n ) (fun rec0 x => ?_) n x
  obtain ⟨x0_0, x0_1, x0_2⟩ := x
  kernel_rfl
noncomputable def G102n (n : Nat) (a0 : List (C .e9)) (a1 : ByteArray) : Option (Bool) :=
      LP102_0 n  (a0, a1, 0)
theorem t102 (n : Nat) (a0 : List (C .e9)) (a1 : ByteArray) : runFn X102 (F102 n) Go.Proofs.Try.f102 [.one (.row .e9 a0), .one (.str a1)] dec102 = G102n n a0 a1 := by
  have h : runFn X102 (F102 n) Go.Proofs.Try.f102 [.one (.row .e9 a0), .one (.str a1)] dec102 =
      MP102_0 n  (a0, a1, 0) := by kernel_rfl
  simp only [h, G102n, m102_0]
noncomputable def G102 (a0 : List (C .e9)) (a1 : ByteArray) : Option (Bool) := G102n fuel a0 a1
noncomputable def con102 : Con C := { R0 := Bool, ret := fun r => [(false, [.bool r])], g := fun vs => match vs with
  | [.one (.row .e9 y0), .one (.str y1)] => G102 y0 y1
  | _ => none }
theorem x102 : XOk Go.Proofs.Try.prog X102 := ⟨tks_ok, els_ok, mps_ok, meths_ok⟩
theorem q102 : Cons Go.Proofs.Try.prog X102 := ⟨lkR_ok (l := []) trivial, lkW_ok (l := []) trivial, lkI_ok (l := []) trivial⟩
theorem c102 : ConOk Go.Proofs.Try.prog KK 102 con102 := by
  refine con_dec x102 q102 (by kernel_rfl) (f := 102) (fn := Go.Proofs.Try.f102) (c := bodyOf Go.Proofs.Try.f102) (by kernel_rfl) (by kernel_rfl) (by kernel_rfl) (nameB (by kernel_rfl)) con102 dec102 (fun rs r0 h => ?_) (fun vs r0 h => ?_)
  · unfold dec102 at h
    split at h
    · cases h; rfl
    · cases h
  · simp only [con102] at h
    split at h
    · rename_i y0 y1
      exact ⟨Nat.le_of_ble_eq_true (by kernel_rfl), F102 fuel, (t102 fuel y0 y1).trans h⟩
    · cases h
/-! ### f123 loop.example/wharfdesk/spec.l1Number -/
noncomputable def X123 : Cx C := { K := KK, tk := lk tks, con := lkC [(104, con104)], conw := lkC [], inl := lkA [], hold := [], mp := lk mps, meth := lkS meths, off := 8060928 }
def F123 (n : Nat) : Cf := { N := n, keep := [0, 2, 3, 4, 18, 22, 34], live := lk [(0, [0, 3, 4])] }
def dec123 (rs : List (Bool × List (Lf C))) : Option (Int) := match rs with
  | [(false, [.int .i64 z0])] => some z0
  | _ => none
abbrev A123_0 : Type := ByteArray × Int × Int
def s123_0 : A123_0 → St C := fun (x0_0, x0_1, x0_2) => { env := [(0, .one (.str x0_0)), (3, .one (.int .i64 x0_1)), (4, .one (.int .i64 x0_2))], objs := [], base := 0 }
noncomputable def r123_0 (n : Nat)  (rec0 : A123_0 → Option (Int)) : A123_0 → Option (Int) := fun (x0_0, x0_1, x0_2) =>
      cond (decide (x0_2 < (x0_0.size : Int)))
      (cond (decide (0 ≤ x0_2)) (cond (decide (x0_2 < (x0_0.size : Int))) (cond (decide ((sbt x0_0 x0_2) < 48))
      (some ((-1)))
      (cond (decide (0 ≤ x0_2)) (cond (decide (x0_2 < (x0_0.size : Int))) (cond (decide ((sbt x0_0 x0_2) > 57))
      (some ((-1)))
      (cond (decide (0 ≤ x0_2)) (cond (decide (x0_2 < (x0_0.size : Int))) (rec0 (x0_0, IntKind.i64.wrap ((IntKind.i64.wrap ((IntKind.i64.wrap (x0_1 * 10)) + (IntKind.i64.wrap (sbt x0_0 x0_2)))) - 48), IntKind.i64.wrap (x0_2 + 1))) none) none)) none) none)) none) none)
      (some (x0_1))
noncomputable def LP123_0 (n : Nat)  (x : A123_0) : Option (Int) := lpN (r123_0 n ) n x
noncomputable def MP123_0 (n : Nat)  (x : A123_0) : Option (Int) := iter (fun rec S => run X123 (F123 n) (codeAt (bodyOf Go.Proofs.Try.f123) [1, 1, 1, 0, 1, 0, 0]) 0 S (lopK rec (blkK 0 (seqK (run X123 (F123 n) (codeAt (bodyOf Go.Proofs.Try.f123) [1, 1, 1, 1]) 0) (kTop X123 Go.Proofs.Try.f123 dec123))))) [0, 3, 4] n (s123_0 x)
theorem m123_0 (n : Nat)  (x : A123_0) : MP123_0 n  x = LP123_0 n  x := by
  refine iter_eq s123_0 (r123_0 n ) (fun rec0 x => ?_) n x
  obtain ⟨x0_0, x0_1, x0_2⟩ := x
  kernel_rfl
noncomputable def G123n (n : Nat) (a0 : ByteArray) : Option (Int) :=
      Option.bind (G104 (a0.size : Int) 1 7) fun r1 =>
      cond (!r1)
      (some ((-1)))
      (cond (decide ((a0.size : Int) > 1))
      (cond (decide (0 ≤ 0)) (cond (decide (0 < (a0.size : Int))) (cond ((sbt a0 0) == 48)
      (some ((-1)))
      (LP123_0 n  (a0, 0, 0))) none) none)
      (LP123_0 n  (a0, 0, 0)))
theorem t123 (n : Nat) (a0 : ByteArray) : runFn X123 (F123 n) Go.Proofs.Try.f123 [.one (.str a0)] dec123 = G123n n a0 := by
  have h : runFn X123 (F123 n) Go.Proofs.Try.f123 [.one (.str a0)] dec123 =
      Option.bind (G104 (a0.size : Int) 1 7) fun r1 =>
      cond (!r1)
      (some ((-1)))
      (cond (decide ((a0.size : Int) > 1))
      (cond (decide (0 ≤ 0)) (cond (decide (0 < (a0.size : Int))) (cond ((sbt a0 0) == 48)
      (some ((-1)))
      (MP123_0 n  (a0, 0, 0))) none) none)
      (MP123_0 n  (a0, 0, 0))) := by kernel_rfl
  simp only [h, G123n, m123_0]
noncomputable def G123 (a0 : ByteArray) : Option (Int) := G123n fuel a0
noncomputable def con123 : Con C := { R0 := Int, ret := fun r => [(false, [.int .i64 r])], g := fun vs => match vs with
  | [.one (.str y0)] => G123 y0
  | _ => none }
theorem x123 : XOk Go.Proofs.Try.prog X123 := ⟨tks_ok, els_ok, mps_ok, meths_ok⟩
theorem q123 : Cons Go.Proofs.Try.prog X123 := ⟨lkR_ok (l := [(104, con104)]) ⟨c104, trivial⟩, lkW_ok (l := []) trivial, lkI_ok (l := []) trivial⟩
theorem c123 : ConOk Go.Proofs.Try.prog KK 123 con123 := by
  refine con_dec x123 q123 (by kernel_rfl) (f := 123) (fn := Go.Proofs.Try.f123) (c := bodyOf Go.Proofs.Try.f123) (by kernel_rfl) (by kernel_rfl) (by kernel_rfl) (nameB (by kernel_rfl)) con123 dec123 (fun rs r0 h => ?_) (fun vs r0 h => ?_)
  · unfold dec123 at h
    split at h
    · cases h; rfl
    · cases h
  · simp only [con123] at h
    split at h
    · rename_i y0
      exact ⟨Nat.le_of_ble_eq_true (by kernel_rfl), F123 fuel, (t123 fuel y0).trans h⟩
    · cases h
/-! ### f101 loop.example/wharfdesk/spec.GateFits -/
noncomputable def X101 : Cx C := { K := KK, tk := lk tks, con := lkC [(74, con74), (102, con102), (104, con104), (123, con123)], conw := lkC [], inl := lkA [], hold := [], mp := lk mps, meth := lkS meths, off := 6619136 }
def F101 (n : Nat) : Cf := { N := n, keep := [0, 1, 2, 4, 5, 6, 8, 9, 23, 33, 38, 46, 58], live := lk [(1, [1, 2, 6])] }
def dec101 (rs : List (Bool × List (Lf C))) : Option (Bool) := match rs with
  | [(false, [.bool z0])] => some z0
  | _ => none
abbrev A101_0 : Type := ByteArray × Int × ByteArray × Int × Int × Int × List (C .e9) × ByteArray × Int × Bool × Bool × ByteArray × ByteArray
def s101_0 : A101_0 → St C := fun (x0_0, x0_1, x0_2, x0_3, x0_4, x0_5, x0_6, x0_7, x0_8, x0_9, x0_10, x0_11, x0_12) => { env := [(1, .one (.str x0_0)), (2, .one (.ptr 6619264 0)), (6, .one (.int .i64 x0_1))], objs := [(6619264, .box .mem [.str x0_2, .int .i64 x0_3, .int .i64 x0_4, .int .i64 x0_5, .row .e9 x0_6, .str x0_7, .int .i64 x0_8, .bool x0_9, .bool x0_10, .str x0_11, .str x0_12])], base := 0 }
noncomputable def r101_0 (n : Nat)  (rec0 : A101_0 → Option (Bool)) : A101_0 → Option (Bool) := fun (x0_0, x0_1, x0_2, x0_3, x0_4, x0_5, x0_6, x0_7, x0_8, x0_9, x0_10, x0_11, x0_12) =>
      cond (decide (x0_1 < (x0_0.size : Int)))
      (cond (decide (0 ≤ x0_1)) (cond (decide (x0_1 < (x0_0.size : Int))) (Option.bind (G104 (IntKind.i64.wrap (sbt x0_0 x0_1)) 33 126) fun r4 =>
      cond (!r4)
      (some (false))
      (rec0 (x0_0, IntKind.i64.wrap (x0_1 + 1), x0_2, x0_3, x0_4, x0_5, x0_6, x0_7, x0_8, x0_9, x0_10, x0_11, x0_12))) none) none)
      (cond (!decide (x0_0 = (⟨#[]⟩ : ByteArray)))
      (Option.bind (G104 (x0_0.size : Int) x0_4 x0_5) fun r5 =>
      some (r5))
      (some (false)))
noncomputable def LP101_0 (n : Nat)  (x : A101_0) : Option (Bool) := lpN (r101_0 n ) n x
noncomputable def MP101_0 (n : Nat)  (x : A101_0) : Option (Bool) := iter (fun rec S => run X101 (F101 n) (codeAt (bodyOf Go.Proofs.Try.f101) [1, 0, 1, 0, 1, 1, 1, 1, 1, 0, 0, 1, 0, 0]) 1 S (lopK rec (blkK 1 (seqK (run X101 (F101 n) (codeAt (bodyOf Go.Proofs.Try.f101) [1, 0, 1, 0, 1, 1, 1, 1, 1, 0, 1]) 0) (blkK 0 (seqK (run X101 (F101 n) (codeAt (bodyOf Go.Proofs.Try.f101) [1, 1]) 0) (kTop X101 Go.Proofs.Try.f101 dec101))))))) [1, 2, 6] n (s101_0 x)
theorem m101_0 (n : Nat)  (x : A101_0) : MP101_0 n  x = LP101_0 n  x := by
  refine iter_eq s101_0 (r101_0 n ) (fun rec0 x => ?_) n x
  obtain ⟨x0_0, x0_1, x0_2, x0_3, x0_4, x0_5, x0_6, x0_7, x0_8, x0_9, x0_10, x0_11, x0_12⟩ := x
  kernel_rfl
noncomputable def G101n (n : Nat) (a0 : VGateField) (a1 : ByteArray) : Option (Bool) :=
      cond (a0.Kind == 1)
      (Option.bind (G123 a1) fun r1 =>
      cond (decide (r1 ≥ 0))
      (Option.bind (G104 r1 a0.Least a0.Most) fun r2 =>
      some (r2))
      (some (false)))
      (cond (a0.Kind == 2)
      (cond (!decide (a1 = (⟨#[]⟩ : ByteArray)))
      (Option.bind (G102 a0.Words a1) fun r3 =>
      some (r3))
      (some (false)))
      (cond (a0.Kind == 3)
      (LP101_0 n  (a1, 0, a0.Name, a0.Kind, a0.Least, a0.Most, a0.Words, a0.To, a0.Role, a0.Must, a0.Fixed, a0.Default, a0.Weighs))
      (cond (a0.Kind == 4)
      (Option.bind (G74 a1) fun r6 =>
      some (r6))
      (some (false)))))
theorem t101 (n : Nat) (a0 : VGateField) (a1 : ByteArray) : runFn X101 (F101 n) Go.Proofs.Try.f101 [.agg [.str a0.Name, .int .i64 a0.Kind, .int .i64 a0.Least, .int .i64 a0.Most, .row .e9 a0.Words, .str a0.To, .int .i64 a0.Role, .bool a0.Must, .bool a0.Fixed, .str a0.Default, .str a0.Weighs], .one (.str a1)] dec101 = G101n n a0 a1 := by
  have h : runFn X101 (F101 n) Go.Proofs.Try.f101 [.agg [.str a0.Name, .int .i64 a0.Kind, .int .i64 a0.Least, .int .i64 a0.Most, .row .e9 a0.Words, .str a0.To, .int .i64 a0.Role, .bool a0.Must, .bool a0.Fixed, .str a0.Default, .str a0.Weighs], .one (.str a1)] dec101 =
      cond (a0.Kind == 1)
      (Option.bind (G123 a1) fun r1 =>
      cond (decide (r1 ≥ 0))
      (Option.bind (G104 r1 a0.Least a0.Most) fun r2 =>
      some (r2))
      (some (false)))
      (cond (a0.Kind == 2)
      (cond (!decide (a1 = (⟨#[]⟩ : ByteArray)))
      (Option.bind (G102 a0.Words a1) fun r3 =>
      some (r3))
      (some (false)))
      (cond (a0.Kind == 3)
      (MP101_0 n  (a1, 0, a0.Name, a0.Kind, a0.Least, a0.Most, a0.Words, a0.To, a0.Role, a0.Must, a0.Fixed, a0.Default, a0.Weighs))
      (cond (a0.Kind == 4)
      (Option.bind (G74 a1) fun r6 =>
      some (r6))
      (some (false))))) := by kernel_rfl
  simp only [h, G101n, m101_0]
noncomputable def G101 (a0 : VGateField) (a1 : ByteArray) : Option (Bool) := G101n fuel a0 a1
noncomputable def con101 : Con C := { R0 := Bool, ret := fun r => [(false, [.bool r])], g := fun vs => match vs with
  | [.agg [.str y0_0, .int .i64 y0_1, .int .i64 y0_2, .int .i64 y0_3, .row .e9 y0_4, .str y0_5, .int .i64 y0_6, .bool y0_7, .bool y0_8, .str y0_9, .str y0_10], .one (.str y1)] => G101 ⟨y0_0, y0_1, y0_2, y0_3, y0_4, y0_5, y0_6, y0_7, y0_8, y0_9, y0_10⟩ y1
  | _ => none }
theorem x101 : XOk Go.Proofs.Try.prog X101 := ⟨tks_ok, els_ok, mps_ok, meths_ok⟩
theorem q101 : Cons Go.Proofs.Try.prog X101 := ⟨lkR_ok (l := [(74, con74), (102, con102), (104, con104), (123, con123)]) ⟨c74, c102, c104, c123, trivial⟩, lkW_ok (l := []) trivial, lkI_ok (l := []) trivial⟩
theorem c101 : ConOk Go.Proofs.Try.prog KK 101 con101 := by
  refine con_dec x101 q101 (by kernel_rfl) (f := 101) (fn := Go.Proofs.Try.f101) (c := bodyOf Go.Proofs.Try.f101) (by kernel_rfl) (by kernel_rfl) (by kernel_rfl) (nameB (by kernel_rfl)) con101 dec101 (fun rs r0 h => ?_) (fun vs r0 h => ?_)
  · unfold dec101 at h
    split at h
    · cases h; rfl
    · cases h
  · simp only [con101] at h
    split at h
    · rename_i y0_0 y0_1 y0_2 y0_3 y0_4 y0_5 y0_6 y0_7 y0_8 y0_9 y0_10 y1
      exact ⟨Nat.le_of_ble_eq_true (by kernel_rfl), F101 fuel, (t101 fuel ⟨y0_0, y0_1, y0_2, y0_3, y0_4, y0_5, y0_6, y0_7, y0_8, y0_9, y0_10⟩ y1).trans h⟩
    · cases h
/-! ### f121 loop.example/wharfdesk/spec.l1Bare -/
noncomputable def X121 : Cx C := { K := KK, tk := lk tks, con := lkC [], conw := lkC [], inl := lkA [], hold := [], mp := lk mps, meth := lkS meths, off := 7929856 }
def F121 (n : Nat) : Cf := { N := n, keep := [0, 1, 2, 3, 33, 42], live := lk [] }
def dec121 (rs : List (Bool × List (Lf C))) : Option (Bool) := match rs with
  | [(false, [.bool z0])] => some z0
  | _ => none
noncomputable def G121n (n : Nat) (a0 : VGateField) : Option (Bool) :=
      cond (a0.Kind == 1)
      (cond (a0.Kind != 1)
      (cond (!decide (a0.Weighs = (⟨#[]⟩ : ByteArray)))
      (some (false))
      (cond (a0.Kind != 2)
      (cond (decide ((a0.Words.length : Int) > 0))
      (some (false))
      (cond (a0.Kind == 4)
      (some (true))
      (cond (decide (a0.To = (⟨#[]⟩ : ByteArray)))
      (some (a0.Role == 0))
      (some (false)))))
      (cond (a0.Kind == 4)
      (some (true))
      (cond (decide (a0.To = (⟨#[]⟩ : ByteArray)))
      (some (a0.Role == 0))
      (some (false))))))
      (cond (a0.Kind != 2)
      (cond (decide ((a0.Words.length : Int) > 0))
      (some (false))
      (cond (a0.Kind == 4)
      (some (true))
      (cond (decide (a0.To = (⟨#[]⟩ : ByteArray)))
      (some (a0.Role == 0))
      (some (false)))))
      (cond (a0.Kind == 4)
      (some (true))
      (cond (decide (a0.To = (⟨#[]⟩ : ByteArray)))
      (some (a0.Role == 0))
      (some (false))))))
      (cond (!(a0.Kind == 3))
      (cond (a0.Least != 0)
      (some (false))
      (cond (a0.Most != 0)
      (some (false))
      (cond (a0.Kind != 1)
      (cond (!decide (a0.Weighs = (⟨#[]⟩ : ByteArray)))
      (some (false))
      (cond (a0.Kind != 2)
      (cond (decide ((a0.Words.length : Int) > 0))
      (some (false))
      (cond (a0.Kind == 4)
      (some (true))
      (cond (decide (a0.To = (⟨#[]⟩ : ByteArray)))
      (some (a0.Role == 0))
      (some (false)))))
      (cond (a0.Kind == 4)
      (some (true))
      (cond (decide (a0.To = (⟨#[]⟩ : ByteArray)))
      (some (a0.Role == 0))
      (some (false))))))
      (cond (a0.Kind != 2)
      (cond (decide ((a0.Words.length : Int) > 0))
      (some (false))
      (cond (a0.Kind == 4)
      (some (true))
      (cond (decide (a0.To = (⟨#[]⟩ : ByteArray)))
      (some (a0.Role == 0))
      (some (false)))))
      (cond (a0.Kind == 4)
      (some (true))
      (cond (decide (a0.To = (⟨#[]⟩ : ByteArray)))
      (some (a0.Role == 0))
      (some (false))))))))
      (cond (a0.Kind != 1)
      (cond (!decide (a0.Weighs = (⟨#[]⟩ : ByteArray)))
      (some (false))
      (cond (a0.Kind != 2)
      (cond (decide ((a0.Words.length : Int) > 0))
      (some (false))
      (cond (a0.Kind == 4)
      (some (true))
      (cond (decide (a0.To = (⟨#[]⟩ : ByteArray)))
      (some (a0.Role == 0))
      (some (false)))))
      (cond (a0.Kind == 4)
      (some (true))
      (cond (decide (a0.To = (⟨#[]⟩ : ByteArray)))
      (some (a0.Role == 0))
      (some (false))))))
      (cond (a0.Kind != 2)
      (cond (decide ((a0.Words.length : Int) > 0))
      (some (false))
      (cond (a0.Kind == 4)
      (some (true))
      (cond (decide (a0.To = (⟨#[]⟩ : ByteArray)))
      (some (a0.Role == 0))
      (some (false)))))
      (cond (a0.Kind == 4)
      (some (true))
      (cond (decide (a0.To = (⟨#[]⟩ : ByteArray)))
      (some (a0.Role == 0))
      (some (false)))))))
theorem t121 (n : Nat) (a0 : VGateField) : runFn X121 (F121 n) Go.Proofs.Try.f121 [.agg [.str a0.Name, .int .i64 a0.Kind, .int .i64 a0.Least, .int .i64 a0.Most, .row .e9 a0.Words, .str a0.To, .int .i64 a0.Role, .bool a0.Must, .bool a0.Fixed, .str a0.Default, .str a0.Weighs]] dec121 = G121n n a0 := by
  kernel_rfl
noncomputable def G121 (a0 : VGateField) : Option (Bool) := G121n fuel a0
noncomputable def con121 : Con C := { R0 := Bool, ret := fun r => [(false, [.bool r])], g := fun vs => match vs with
  | [.agg [.str y0_0, .int .i64 y0_1, .int .i64 y0_2, .int .i64 y0_3, .row .e9 y0_4, .str y0_5, .int .i64 y0_6, .bool y0_7, .bool y0_8, .str y0_9, .str y0_10]] => G121 ⟨y0_0, y0_1, y0_2, y0_3, y0_4, y0_5, y0_6, y0_7, y0_8, y0_9, y0_10⟩
  | _ => none }
theorem x121 : XOk Go.Proofs.Try.prog X121 := ⟨tks_ok, els_ok, mps_ok, meths_ok⟩
theorem q121 : Cons Go.Proofs.Try.prog X121 := ⟨lkR_ok (l := []) trivial, lkW_ok (l := []) trivial, lkI_ok (l := []) trivial⟩
theorem c121 : ConOk Go.Proofs.Try.prog KK 121 con121 := by
  refine con_dec x121 q121 (by kernel_rfl) (f := 121) (fn := Go.Proofs.Try.f121) (c := bodyOf Go.Proofs.Try.f121) (by kernel_rfl) (by kernel_rfl) (by kernel_rfl) (nameB (by kernel_rfl)) con121 dec121 (fun rs r0 h => ?_) (fun vs r0 h => ?_)
  · unfold dec121 at h
    split at h
    · cases h; rfl
    · cases h
  · simp only [con121] at h
    split at h
    · rename_i y0_0 y0_1 y0_2 y0_3 y0_4 y0_5 y0_6 y0_7 y0_8 y0_9 y0_10
      exact ⟨Nat.le_of_ble_eq_true (by kernel_rfl), F121 fuel, (t121 fuel ⟨y0_0, y0_1, y0_2, y0_3, y0_4, y0_5, y0_6, y0_7, y0_8, y0_9, y0_10⟩).trans h⟩
    · cases h
/-! ### f122 loop.example/wharfdesk/spec.l1Ascending -/
noncomputable def X122 : Cx C := { K := KK, tk := lk tks, con := lkC [(74, con74)], conw := lkC [], inl := lkA [], hold := [], mp := lk mps, meth := lkS meths, off := 7995392 }
def F122 (n : Nat) : Cf := { N := n, keep := [0, 2, 3, 7, 31], live := lk [(0, [0, 3])] }
def dec122 (rs : List (Bool × List (Lf C))) : Option (Bool) := match rs with
  | [(false, [.bool z0])] => some z0
  | _ => none
abbrev A122_0 : Type := List (C .e9) × Int
def s122_0 : A122_0 → St C := fun (x0_0, x0_1) => { env := [(0, .one (.row .e9 x0_0)), (3, .one (.int .i64 x0_1))], objs := [], base := 0 }
noncomputable def r122_0 (n : Nat)  (rec0 : A122_0 → Option (Bool)) : A122_0 → Option (Bool) := fun (x0_0, x0_1) =>
      cond (decide (x0_1 < (x0_0.length : Int)))
      (cond (decide (0 ≤ x0_1)) (Option.bind x0_0[x0_1.toNat]? fun x1 => Option.bind (G74 x1) fun r2 =>
      cond (!r2)
      (some (false))
      (cond (decide (x0_1 > 0))
      (cond (decide (0 ≤ IntKind.i64.wrap (x0_1 - 1))) (Option.bind x0_0[(IntKind.i64.wrap (x0_1 - 1)).toNat]? fun x3 => cond (decide (0 ≤ x0_1)) (Option.bind x0_0[x0_1.toNat]? fun x4 => cond (!slt x3 x4)
      (some (false))
      (rec0 (x0_0, IntKind.i64.wrap (x0_1 + 1)))) none) none)
      (rec0 (x0_0, IntKind.i64.wrap (x0_1 + 1))))) none)
      (some (true))
noncomputable def LP122_0 (n : Nat)  (x : A122_0) : Option (Bool) := lpN (r122_0 n ) n x
noncomputable def MP122_0 (n : Nat)  (x : A122_0) : Option (Bool) := iter (fun rec S => run X122 (F122 n) (codeAt (bodyOf Go.Proofs.Try.f122) [1, 0, 1, 0, 0]) 0 S (lopK rec (blkK 0 (seqK (run X122 (F122 n) (codeAt (bodyOf Go.Proofs.Try.f122) [1, 1]) 0) (kTop X122 Go.Proofs.Try.f122 dec122))))) [0, 3] n (s122_0 x)
theorem m122_0 (n : Nat)  (x : A122_0) : MP122_0 n  x = LP122_0 n  x := by
  refine iter_eq s122_0 (r122_0 n ) (fun rec0 x => ?_) n x
  obtain ⟨x0_0, x0_1⟩ := x
  kernel_rfl
noncomputable def G122n (n : Nat) (a0 : List (C .e9)) : Option (Bool) :=
      LP122_0 n  (a0, 0)
theorem t122 (n : Nat) (a0 : List (C .e9)) : runFn X122 (F122 n) Go.Proofs.Try.f122 [.one (.row .e9 a0)] dec122 = G122n n a0 := by
  have h : runFn X122 (F122 n) Go.Proofs.Try.f122 [.one (.row .e9 a0)] dec122 =
      MP122_0 n  (a0, 0) := by kernel_rfl
  simp only [h, G122n, m122_0]
noncomputable def G122 (a0 : List (C .e9)) : Option (Bool) := G122n fuel a0
noncomputable def con122 : Con C := { R0 := Bool, ret := fun r => [(false, [.bool r])], g := fun vs => match vs with
  | [.one (.row .e9 y0)] => G122 y0
  | _ => none }
theorem x122 : XOk Go.Proofs.Try.prog X122 := ⟨tks_ok, els_ok, mps_ok, meths_ok⟩
theorem q122 : Cons Go.Proofs.Try.prog X122 := ⟨lkR_ok (l := [(74, con74)]) ⟨c74, trivial⟩, lkW_ok (l := []) trivial, lkI_ok (l := []) trivial⟩
theorem c122 : ConOk Go.Proofs.Try.prog KK 122 con122 := by
  refine con_dec x122 q122 (by kernel_rfl) (f := 122) (fn := Go.Proofs.Try.f122) (c := bodyOf Go.Proofs.Try.f122) (by kernel_rfl) (by kernel_rfl) (by kernel_rfl) (nameB (by kernel_rfl)) con122 dec122 (fun rs r0 h => ?_) (fun vs r0 h => ?_)
  · unfold dec122 at h
    split at h
    · cases h; rfl
    · cases h
  · simp only [con122] at h
    split at h
    · rename_i y0
      exact ⟨Nat.le_of_ble_eq_true (by kernel_rfl), F122 fuel, (t122 fuel y0).trans h⟩
    · cases h
/-! ### f99 loop.example/wharfdesk/spec.l1FieldOk -/
noncomputable def X99 : Cx C := { K := KK, tk := lk tks, con := lkC [(74, con74), (83, con83), (101, con101), (104, con104), (121, con121), (122, con122)], conw := lkC [], inl := lkA [], hold := [], mp := lk mps, meth := lkS meths, off := 6488064 }
def F99 (n : Nat) : Cf := { N := n, keep := [0, 1, 3, 4, 25, 27, 28, 55, 66, 83], live := lk [] }
def dec99 (rs : List (Bool × List (Lf C))) : Option (Bool) := match rs with
  | [(false, [.bool z0])] => some z0
  | _ => none
noncomputable def G99n (n : Nat) (a0 : List (C .e81)) (a1 : VGateField) : Option (Bool) :=
      Option.bind (G74 a1.Name) fun r1 =>
      cond (!r1)
      (some (false))
      (Option.bind (G121 a1) fun r2 =>
      cond (!r2)
      (some (false))
      (cond (!decide (a1.Default = (⟨#[]⟩ : ByteArray)))
      (Option.bind (G101 a1 a1.Default) fun r3 =>
      cond (!r3)
      (some (false))
      (cond (a1.Kind == 1)
      (cond (decide (a1.Least ≥ 0))
      (cond (decide (a1.Least ≤ a1.Most))
      (cond (decide (a1.Most ≤ 1000000))
      (cond (decide (a1.Weighs = (⟨#[]⟩ : ByteArray)))
      (some (true))
      (Option.bind (G74 a1.Weighs) fun r4 =>
      some (r4)))
      (some (false)))
      (some (false)))
      (some (false)))
      (cond (a1.Kind == 2)
      (Option.bind (G104 (a1.Words.length : Int) 1 6) fun r5 =>
      cond r5
      (Option.bind (G122 a1.Words) fun r6 =>
      some (r6))
      (some (false)))
      (cond (a1.Kind == 3)
      (cond (decide (a1.Least ≥ 1))
      (cond (decide (a1.Least ≤ a1.Most))
      (some (decide (a1.Most ≤ 40)))
      (some (false)))
      (some (false)))
      (cond (a1.Kind == 4)
      (Option.bind (G83 a0 a1.To) fun r7 =>
      cond (decide (r7 ≥ 0))
      (Option.bind (G104 a1.Role 1 3) fun r8 =>
      cond r8
      (cond (decide (a1.Default = (⟨#[]⟩ : ByteArray)))
      (cond (a1.Role != 2)
      (some (true))
      (some (!a1.Must)))
      (some (false)))
      (some (false)))
      (some (false)))
      (some (false)))))))
      (cond (a1.Kind == 1)
      (cond (decide (a1.Least ≥ 0))
      (cond (decide (a1.Least ≤ a1.Most))
      (cond (decide (a1.Most ≤ 1000000))
      (cond (decide (a1.Weighs = (⟨#[]⟩ : ByteArray)))
      (some (true))
      (Option.bind (G74 a1.Weighs) fun r9 =>
      some (r9)))
      (some (false)))
      (some (false)))
      (some (false)))
      (cond (a1.Kind == 2)
      (Option.bind (G104 (a1.Words.length : Int) 1 6) fun r10 =>
      cond r10
      (Option.bind (G122 a1.Words) fun r11 =>
      some (r11))
      (some (false)))
      (cond (a1.Kind == 3)
      (cond (decide (a1.Least ≥ 1))
      (cond (decide (a1.Least ≤ a1.Most))
      (some (decide (a1.Most ≤ 40)))
      (some (false)))
      (some (false)))
      (cond (a1.Kind == 4)
      (Option.bind (G83 a0 a1.To) fun r12 =>
      cond (decide (r12 ≥ 0))
      (Option.bind (G104 a1.Role 1 3) fun r13 =>
      cond r13
      (cond (decide (a1.Default = (⟨#[]⟩ : ByteArray)))
      (cond (a1.Role != 2)
      (some (true))
      (some (!a1.Must)))
      (some (false)))
      (some (false)))
      (some (false)))
      (some (false))))))))
theorem t99 (n : Nat) (a0 : List (C .e81)) (a1 : VGateField) : runFn X99 (F99 n) Go.Proofs.Try.f99 [.one (.row .e81 a0), .agg [.str a1.Name, .int .i64 a1.Kind, .int .i64 a1.Least, .int .i64 a1.Most, .row .e9 a1.Words, .str a1.To, .int .i64 a1.Role, .bool a1.Must, .bool a1.Fixed, .str a1.Default, .str a1.Weighs]] dec99 = G99n n a0 a1 := by
  kernel_rfl
noncomputable def G99 (a0 : List (C .e81)) (a1 : VGateField) : Option (Bool) := G99n fuel a0 a1
noncomputable def con99 : Con C := { R0 := Bool, ret := fun r => [(false, [.bool r])], g := fun vs => match vs with
  | [.one (.row .e81 y0), .agg [.str y1_0, .int .i64 y1_1, .int .i64 y1_2, .int .i64 y1_3, .row .e9 y1_4, .str y1_5, .int .i64 y1_6, .bool y1_7, .bool y1_8, .str y1_9, .str y1_10]] => G99 y0 ⟨y1_0, y1_1, y1_2, y1_3, y1_4, y1_5, y1_6, y1_7, y1_8, y1_9, y1_10⟩
  | _ => none }
theorem x99 : XOk Go.Proofs.Try.prog X99 := ⟨tks_ok, els_ok, mps_ok, meths_ok⟩
theorem q99 : Cons Go.Proofs.Try.prog X99 := ⟨lkR_ok (l := [(74, con74), (83, con83), (101, con101), (104, con104), (121, con121), (122, con122)]) ⟨c74, c83, c101, c104, c121, c122, trivial⟩, lkW_ok (l := []) trivial, lkI_ok (l := []) trivial⟩
theorem c99 : ConOk Go.Proofs.Try.prog KK 99 con99 := by
  refine con_dec x99 q99 (by kernel_rfl) (f := 99) (fn := Go.Proofs.Try.f99) (c := bodyOf Go.Proofs.Try.f99) (by kernel_rfl) (by kernel_rfl) (by kernel_rfl) (nameB (by kernel_rfl)) con99 dec99 (fun rs r0 h => ?_) (fun vs r0 h => ?_)
  · unfold dec99 at h
    split at h
    · cases h; rfl
    · cases h
  · simp only [con99] at h
    split at h
    · rename_i y0 y1_0 y1_1 y1_2 y1_3 y1_4 y1_5 y1_6 y1_7 y1_8 y1_9 y1_10
      exact ⟨Nat.le_of_ble_eq_true (by kernel_rfl), F99 fuel, (t99 fuel y0 ⟨y1_0, y1_1, y1_2, y1_3, y1_4, y1_5, y1_6, y1_7, y1_8, y1_9, y1_10⟩).trans h⟩
    · cases h
/-! ### f71 loop.example/wharfdesk/spec.GateShapesOk -/
noncomputable def X71 : Cx C := { K := KK, tk := lk tks, con := lkC [(74, con74), (99, con99)], conw := lkC [], inl := lkA [], hold := [], mp := lk mps, meth := lkS meths, off := 4653056 }
def F71 (n : Nat) : Cf := { N := n, keep := [0, 2, 3, 4, 5, 6, 9, 13, 44, 49, 59, 62, 77], live := lk [(0, [0, 3]), (2, [0, 3, 4, 5]), (4, [0, 3, 4, 5, 6])] }
def dec71 (rs : List (Bool × List (Lf C))) : Option (Bool) := match rs with
  | [(false, [.bool z0])] => some z0
  | _ => none
abbrev A71_2 : Type := List (C .e81) × Int × Int × Int × ByteArray × List (C .e100)
def s71_2 : A71_2 → St C := fun (x2_0, x2_1, x2_2, x2_3, x2_4, x2_5) => { env := [(0, .one (.row .e81 x2_0)), (3, .one (.int .i64 x2_1)), (4, .one (.ptr 4653312 0)), (5, .one (.int .i64 x2_2)), (6, .one (.int .i64 x2_3))], objs := [(4653312, .box .mem [.str x2_4, .row .e100 x2_5])], base := 0 }
abbrev A71_1 : Type := List (C .e81) × Int × Int × ByteArray × List (C .e100)
def s71_1 : A71_1 → St C := fun (x1_0, x1_1, x1_2, x1_3, x1_4) => { env := [(0, .one (.row .e81 x1_0)), (3, .one (.int .i64 x1_1)), (4, .one (.ptr 4653312 0)), (5, .one (.int .i64 x1_2))], objs := [(4653312, .box .mem [.str x1_3, .row .e100 x1_4])], base := 0 }
abbrev A71_0 : Type := List (C .e81) × Int
def s71_0 : A71_0 → St C := fun (x0_0, x0_1) => { env := [(0, .one (.row .e81 x0_0)), (3, .one (.int .i64 x0_1))], objs := [], base := 0 }
noncomputable def r71_2 (n : Nat) (rec0 : A71_0 → Option (Bool)) (rec1 : A71_1 → Option (Bool)) (rec2 : A71_2 → Option (Bool)) : A71_2 → Option (Bool) := fun (x2_0, x2_1, x2_2, x2_3, x2_4, x2_5) =>
      cond (decide (x2_3 < x2_2))
      (cond (decide (0 ≤ x2_3)) (Option.bind x2_5[x2_3.toNat]? fun x6 => cond (decide (0 ≤ x2_2)) (Option.bind x2_5[x2_2.toNat]? fun x7 => cond (decide (x6.Name = x7.Name))
      (some (false))
      (rec2 (x2_0, x2_1, x2_2, IntKind.i64.wrap (x2_3 + 1), x2_4, x2_5))) none) none)
      (rec1 (x2_0, x2_1, IntKind.i64.wrap (x2_2 + 1), x2_4, x2_5))
noncomputable def LP71_2 (n : Nat) (rec0 : A71_0 → Option (Bool)) (rec1 : A71_1 → Option (Bool)) (x : A71_2) : Option (Bool) := lpN (r71_2 n rec0 rec1) n x
noncomputable def MP71_2 (n : Nat) (rec0 : St C → Option (Bool)) (rec1 : St C → Option (Bool)) (x : A71_2) : Option (Bool) := iter (fun rec S => run X71 (F71 n) (codeAt (bodyOf Go.Proofs.Try.f71) [1, 1, 0, 1, 0, 0, 1, 0, 0, 1, 1, 1, 0, 0, 1, 0, 0, 1, 1, 0, 0]) 4 S (lopK rec (blkK 4 (blkK 3 (seqK (run X71 (F71 n) (codeAt (bodyOf Go.Proofs.Try.f71) [1, 1, 0, 1, 0, 0, 1, 0, 0, 1, 1, 1, 0, 0, 1, 1]) 2) (lopK (canThen [0, 3, 4, 5] rec1) (blkK 2 (blkK 1 (seqK (run X71 (F71 n) (codeAt (bodyOf Go.Proofs.Try.f71) [1, 1, 0, 1, 0, 0, 1, 1]) 0) (lopK (canThen [0, 3] rec0) (blkK 0 (seqK (run X71 (F71 n) (codeAt (bodyOf Go.Proofs.Try.f71) [1, 1, 1]) 0) (kTop X71 Go.Proofs.Try.f71 dec71))))))))))))) [0, 3, 4, 5, 6] n (s71_2 x)
theorem m71_2 (n : Nat) (rec0 : St C → Option (Bool)) (rec1 : St C → Option (Bool)) (x : A71_2) : MP71_2 n rec0 rec1 x = LP71_2 n (fun x => rec0 (s71_0 x)) (fun x => rec1 (s71_1 x)) x := by
  refine iter_eq s71_2 (r71_2 n (fun x => rec0 (s71_0 x)) (fun x => rec1 (s71_1 x))) (fun rec2 x => ?_) n x
  obtain ⟨x2_0, x2_1, x2_2, x2_3, x2_4, x2_5⟩ := x
  kernel_rfl
noncomputable def r71_1 (n : Nat) (rec0 : A71_0 → Option (Bool)) (rec1 : A71_1 → Option (Bool)) : A71_1 → Option (Bool) := fun (x1_0, x1_1, x1_2, x1_3, x1_4) =>
      cond (decide (x1_2 < (x1_4.length : Int)))
      (cond (decide (0 ≤ x1_2)) (Option.bind x1_4[x1_2.toNat]? fun x4 => Option.bind (G99 x1_0 x4) fun r5 =>
      cond (!r5)
      (some (false))
      (LP71_2 n rec0 rec1 (x1_0, x1_1, x1_2, 0, x1_3, x1_4))) none)
      (rec0 (x1_0, IntKind.i64.wrap (x1_1 + 1)))
noncomputable def LP71_1 (n : Nat) (rec0 : A71_0 → Option (Bool)) (x : A71_1) : Option (Bool) := lpN (r71_1 n rec0) n x
noncomputable def MP71_1 (n : Nat) (rec0 : St C → Option (Bool)) (x : A71_1) : Option (Bool) := iter (fun rec S => run X71 (F71 n) (codeAt (bodyOf Go.Proofs.Try.f71) [1, 1, 0, 1, 0, 0, 1, 0, 0, 1, 1, 1, 0, 0]) 2 S (lopK rec (blkK 2 (blkK 1 (seqK (run X71 (F71 n) (codeAt (bodyOf Go.Proofs.Try.f71) [1, 1, 0, 1, 0, 0, 1, 1]) 0) (lopK (canThen [0, 3] rec0) (blkK 0 (seqK (run X71 (F71 n) (codeAt (bodyOf Go.Proofs.Try.f71) [1, 1, 1]) 0) (kTop X71 Go.Proofs.Try.f71 dec71))))))))) [0, 3, 4, 5] n (s71_1 x)
theorem m71_1 (n : Nat) (rec0 : St C → Option (Bool)) (x : A71_1) : MP71_1 n rec0 x = LP71_1 n (fun x => rec0 (s71_0 x)) x := by
  refine iter_eq s71_1 (r71_1 n (fun x => rec0 (s71_0 x))) (fun rec1 x => ?_) n x
  obtain ⟨x1_0, x1_1, x1_2, x1_3, x1_4⟩ := x
  have h : run X71 (F71 n) (codeAt (bodyOf Go.Proofs.Try.f71) [1, 1, 0, 1, 0, 0, 1, 0, 0, 1, 1, 1, 0, 0]) 2 (s71_1 (x1_0, x1_1, x1_2, x1_3, x1_4)) (lopK (canThen [0, 3, 4, 5] rec1) (blkK 2 (blkK 1 (seqK (run X71 (F71 n) (codeAt (bodyOf Go.Proofs.Try.f71) [1, 1, 0, 1, 0, 0, 1, 1]) 0) (lopK (canThen [0, 3] rec0) (blkK 0 (seqK (run X71 (F71 n) (codeAt (bodyOf Go.Proofs.Try.f71) [1, 1, 1]) 0) (kTop X71 Go.Proofs.Try.f71 dec71)))))))) =
      cond (decide (x1_2 < (x1_4.length : Int)))
      (cond (decide (0 ≤ x1_2)) (Option.bind x1_4[x1_2.toNat]? fun x4 => Option.bind (G99 x1_0 x4) fun r5 =>
      cond (!r5)
      (some (false))
      (MP71_2 n rec0 rec1 (x1_0, x1_1, x1_2, 0, x1_3, x1_4))) none)
      ((fun x => rec0 (s71_0 x)) (x1_0, IntKind.i64.wrap (x1_1 + 1))) := by kernel_rfl
  simp only [m71_2] at h
  exact h
noncomputable def r71_0 (n : Nat)  (rec0 : A71_0 → Option (Bool)) : A71_0 → Option (Bool) := fun (x0_0, x0_1) =>
      cond (decide (x0_1 < (x0_0.length : Int)))
      (cond (decide (0 ≤ x0_1)) (Option.bind x0_0[x0_1.toNat]? fun x1 => Option.bind (G74 x1.Kind) fun r2 =>
      cond (!r2)
      (some (false))
      (cond (decide (x0_1 > 0))
      (cond (decide (0 ≤ IntKind.i64.wrap (x0_1 - 1))) (Option.bind x0_0[(IntKind.i64.wrap (x0_1 - 1)).toNat]? fun x3 => cond (!slt x3.Kind x1.Kind)
      (some (false))
      (cond (decide ((x1.Fields.length : Int) > 6))
      (some (false))
      (LP71_1 n rec0 (x0_0, x0_1, 0, x1.Kind, x1.Fields)))) none)
      (cond (decide ((x1.Fields.length : Int) > 6))
      (some (false))
      (LP71_1 n rec0 (x0_0, x0_1, 0, x1.Kind, x1.Fields))))) none)
      (some (true))
noncomputable def LP71_0 (n : Nat)  (x : A71_0) : Option (Bool) := lpN (r71_0 n ) n x
noncomputable def MP71_0 (n : Nat)  (x : A71_0) : Option (Bool) := iter (fun rec S => run X71 (F71 n) (codeAt (bodyOf Go.Proofs.Try.f71) [1, 1, 0, 1, 0, 0]) 0 S (lopK rec (blkK 0 (seqK (run X71 (F71 n) (codeAt (bodyOf Go.Proofs.Try.f71) [1, 1, 1]) 0) (kTop X71 Go.Proofs.Try.f71 dec71))))) [0, 3] n (s71_0 x)
theorem m71_0 (n : Nat)  (x : A71_0) : MP71_0 n  x = LP71_0 n  x := by
  refine iter_eq s71_0 (r71_0 n ) (fun rec0 x => ?_) n x
  obtain ⟨x0_0, x0_1⟩ := x
  have h : run X71 (F71 n) (codeAt (bodyOf Go.Proofs.Try.f71) [1, 1, 0, 1, 0, 0]) 0 (s71_0 (x0_0, x0_1)) (lopK (canThen [0, 3] rec0) (blkK 0 (seqK (run X71 (F71 n) (codeAt (bodyOf Go.Proofs.Try.f71) [1, 1, 1]) 0) (kTop X71 Go.Proofs.Try.f71 dec71)))) =
      cond (decide (x0_1 < (x0_0.length : Int)))
      (cond (decide (0 ≤ x0_1)) (Option.bind x0_0[x0_1.toNat]? fun x1 => Option.bind (G74 x1.Kind) fun r2 =>
      cond (!r2)
      (some (false))
      (cond (decide (x0_1 > 0))
      (cond (decide (0 ≤ IntKind.i64.wrap (x0_1 - 1))) (Option.bind x0_0[(IntKind.i64.wrap (x0_1 - 1)).toNat]? fun x3 => cond (!slt x3.Kind x1.Kind)
      (some (false))
      (cond (decide ((x1.Fields.length : Int) > 6))
      (some (false))
      (MP71_1 n rec0 (x0_0, x0_1, 0, x1.Kind, x1.Fields)))) none)
      (cond (decide ((x1.Fields.length : Int) > 6))
      (some (false))
      (MP71_1 n rec0 (x0_0, x0_1, 0, x1.Kind, x1.Fields))))) none)
      (some (true)) := by kernel_rfl
  simp only [m71_1] at h
  exact h
noncomputable def G71n (n : Nat) (a0 : List (C .e81)) : Option (Bool) :=
      cond (decide ((a0.length : Int) > 6))
      (some (false))
      (LP71_0 n  (a0, 0))
theorem t71 (n : Nat) (a0 : List (C .e81)) : runFn X71 (F71 n) Go.Proofs.Try.f71 [.one (.row .e81 a0)] dec71 = G71n n a0 := by
  have h : runFn X71 (F71 n) Go.Proofs.Try.f71 [.one (.row .e81 a0)] dec71 =
      cond (decide ((a0.length : Int) > 6))
      (some (false))
      (MP71_0 n  (a0, 0)) := by kernel_rfl
  simp only [h, G71n, m71_0]
noncomputable def G71 (a0 : List (C .e81)) : Option (Bool) := G71n fuel a0
noncomputable def con71 : Con C := { R0 := Bool, ret := fun r => [(false, [.bool r])], g := fun vs => match vs with
  | [.one (.row .e81 y0)] => G71 y0
  | _ => none }
theorem x71 : XOk Go.Proofs.Try.prog X71 := ⟨tks_ok, els_ok, mps_ok, meths_ok⟩
theorem q71 : Cons Go.Proofs.Try.prog X71 := ⟨lkR_ok (l := [(74, con74), (99, con99)]) ⟨c74, c99, trivial⟩, lkW_ok (l := []) trivial, lkI_ok (l := []) trivial⟩
theorem c71 : ConOk Go.Proofs.Try.prog KK 71 con71 := by
  refine con_dec x71 q71 (by kernel_rfl) (f := 71) (fn := Go.Proofs.Try.f71) (c := bodyOf Go.Proofs.Try.f71) (by kernel_rfl) (by kernel_rfl) (by kernel_rfl) (nameB (by kernel_rfl)) con71 dec71 (fun rs r0 h => ?_) (fun vs r0 h => ?_)
  · unfold dec71 at h
    split at h
    · cases h; rfl
    · cases h
  · simp only [con71] at h
    split at h
    · rename_i y0
      exact ⟨Nat.le_of_ble_eq_true (by kernel_rfl), F71 fuel, (t71 fuel y0).trans h⟩
    · cases h
/-! ### f85 loop.example/wharfdesk/spec.l3Field -/
noncomputable def X85 : Cx C := { K := KK, tk := lk tks, con := lkC [], conw := lkC [], inl := lkA [], hold := [], mp := lk mps, meth := lkS meths, off := 5570560 }
def F85 (n : Nat) : Cf := { N := n, keep := [0, 1, 4, 5, 9, 18], live := lk [(0, [0, 1, 5])] }
def dec85 (rs : List (Bool × List (Lf C))) : Option (Int) := match rs with
  | [(false, [.int .i64 z0])] => some z0
  | _ => none
abbrev A85_0 : Type := List (C .e100) × ByteArray × Int
def s85_0 : A85_0 → St C := fun (x0_0, x0_1, x0_2) => { env := [(0, .one (.row .e100 x0_0)), (1, .one (.str x0_1)), (5, .one (.int .i64 x0_2))], objs := [], base := 0 }
noncomputable def r85_0 (n : Nat)  (rec0 : A85_0 → Option (Int)) : A85_0 → Option (Int) := fun (x0_0, x0_1, x0_2) =>
      cond (decide (x0_2 < (x0_0.length : Int)))
      (cond (decide (0 ≤ x0_2)) (Option.bind x0_0[x0_2.toNat]? fun x1 => cond (decide (x1.Name = x0_1))
      (some (x0_2))
      (rec0 (x0_0, x0_1, IntKind.i64.wrap (x0_2 + 1)))) none)
      (some ((-1)))
noncomputable def LP85_0 (n : Nat)  (x : A85_0) : Option (Int) := lpN (r85_0 n ) n x
noncomputable def MP85_0 (n : Nat)  (x : A85_0) : Option (Int) := iter (fun rec S => run X85 (F85 n) (codeAt (bodyOf Go.Proofs.Try.f85) [1, 0, 1, 0, 0]) 0 S (lopK rec (blkK 0 (seqK (run X85 (F85 n) (codeAt (bodyOf Go.Proofs.Try.f85) [1, 1]) 0) (kTop X85 Go.Proofs.Try.f85 dec85))))) [0, 1, 5] n (s85_0 x)
theorem m85_0 (n : Nat)  (x : A85_0) : MP85_0 n  x = LP85_0 n  x := by
  refine iter_eq s85_0 (r85_0 n ) (fun rec0 x => ?_) n x
  obtain ⟨x0_0, x0_1, x0_2⟩ := x
  kernel_rfl
noncomputable def G85n (n : Nat) (a0 : List (C .e100)) (a1 : ByteArray) : Option (Int) :=
      LP85_0 n  (a0, a1, 0)
theorem t85 (n : Nat) (a0 : List (C .e100)) (a1 : ByteArray) : runFn X85 (F85 n) Go.Proofs.Try.f85 [.one (.row .e100 a0), .one (.str a1)] dec85 = G85n n a0 a1 := by
  have h : runFn X85 (F85 n) Go.Proofs.Try.f85 [.one (.row .e100 a0), .one (.str a1)] dec85 =
      MP85_0 n  (a0, a1, 0) := by kernel_rfl
  simp only [h, G85n, m85_0]
noncomputable def G85 (a0 : List (C .e100)) (a1 : ByteArray) : Option (Int) := G85n fuel a0 a1
noncomputable def con85 : Con C := { R0 := Int, ret := fun r => [(false, [.int .i64 r])], g := fun vs => match vs with
  | [.one (.row .e100 y0), .one (.str y1)] => G85 y0 y1
  | _ => none }
theorem x85 : XOk Go.Proofs.Try.prog X85 := ⟨tks_ok, els_ok, mps_ok, meths_ok⟩
theorem q85 : Cons Go.Proofs.Try.prog X85 := ⟨lkR_ok (l := []) trivial, lkW_ok (l := []) trivial, lkI_ok (l := []) trivial⟩
theorem c85 : ConOk Go.Proofs.Try.prog KK 85 con85 := by
  refine con_dec x85 q85 (by kernel_rfl) (f := 85) (fn := Go.Proofs.Try.f85) (c := bodyOf Go.Proofs.Try.f85) (by kernel_rfl) (by kernel_rfl) (by kernel_rfl) (nameB (by kernel_rfl)) con85 dec85 (fun rs r0 h => ?_) (fun vs r0 h => ?_)
  · unfold dec85 at h
    split at h
    · cases h; rfl
    · cases h
  · simp only [con85] at h
    split at h
    · rename_i y0 y1
      exact ⟨Nat.le_of_ble_eq_true (by kernel_rfl), F85 fuel, (t85 fuel y0 y1).trans h⟩
    · cases h
/-! ### f100 loop.example/wharfdesk/spec.l3Plain -/
noncomputable def X100 : Cx C := { K := KK, tk := lk tks, con := lkC [(85, con85)], conw := lkC [], inl := lkA [], hold := [], mp := lk mps, meth := lkS meths, off := 6553600 }
def F100 (n : Nat) : Cf := { N := n, keep := [0, 1, 4, 5], live := lk [] }
def dec100 (rs : List (Bool × List (Lf C))) : Option (Bool) := match rs with
  | [(false, [.bool z0])] => some z0
  | _ => none
noncomputable def G100n (n : Nat) (a0 : List (C .e100)) (a1 : ByteArray) : Option (Bool) :=
      Option.bind (G85 a0 a1) fun r1 =>
      cond (decide (r1 ≥ 0))
      (cond (decide (0 ≤ r1)) (Option.bind a0[r1.toNat]? fun x2 => some (x2.Kind != 4)) none)
      (some (false))
theorem t100 (n : Nat) (a0 : List (C .e100)) (a1 : ByteArray) : runFn X100 (F100 n) Go.Proofs.Try.f100 [.one (.row .e100 a0), .one (.str a1)] dec100 = G100n n a0 a1 := by
  kernel_rfl
noncomputable def G100 (a0 : List (C .e100)) (a1 : ByteArray) : Option (Bool) := G100n fuel a0 a1
noncomputable def con100 : Con C := { R0 := Bool, ret := fun r => [(false, [.bool r])], g := fun vs => match vs with
  | [.one (.row .e100 y0), .one (.str y1)] => G100 y0 y1
  | _ => none }
theorem x100 : XOk Go.Proofs.Try.prog X100 := ⟨tks_ok, els_ok, mps_ok, meths_ok⟩
theorem q100 : Cons Go.Proofs.Try.prog X100 := ⟨lkR_ok (l := [(85, con85)]) ⟨c85, trivial⟩, lkW_ok (l := []) trivial, lkI_ok (l := []) trivial⟩
theorem c100 : ConOk Go.Proofs.Try.prog KK 100 con100 := by
  refine con_dec x100 q100 (by kernel_rfl) (f := 100) (fn := Go.Proofs.Try.f100) (c := bodyOf Go.Proofs.Try.f100) (by kernel_rfl) (by kernel_rfl) (by kernel_rfl) (nameB (by kernel_rfl)) con100 dec100 (fun rs r0 h => ?_) (fun vs r0 h => ?_)
  · unfold dec100 at h
    split at h
    · cases h; rfl
    · cases h
  · simp only [con100] at h
    split at h
    · rename_i y0 y1
      exact ⟨Nat.le_of_ble_eq_true (by kernel_rfl), F100 fuel, (t100 fuel y0 y1).trans h⟩
    · cases h
/-! ### f72 loop.example/wharfdesk/spec.l3MendOk -/
noncomputable def X72 : Cx C := { K := KK, tk := lk tks, con := lkC [(83, con83), (85, con85), (100, con100), (101, con101)], conw := lkC [], inl := lkA [], hold := [], mp := lk mps, meth := lkS meths, off := 4718592 }
def F72 (n : Nat) : Cf := { N := n, keep := [0, 1, 3, 4, 5, 6, 12, 46, 77], live := lk [] }
def dec72 (rs : List (Bool × List (Lf C))) : Option (Bool) := match rs with
  | [(false, [.bool z0])] => some z0
  | _ => none
noncomputable def G72n (n : Nat) (a0 : List (C .e81)) (a1 : VGateMend) : Option (Bool) :=
      Option.bind (G83 a0 a1.Kind) fun r1 =>
      cond (decide (r1 < 0))
      (some (false))
      (cond (decide (0 ≤ r1)) (Option.bind a0[r1.toNat]? fun x2 => Option.bind (G100 x2.Fields a1.Field) fun r3 =>
      cond (!r3)
      (some (false))
      (cond (!decide (a1.When = (⟨#[]⟩ : ByteArray)))
      (Option.bind (G100 x2.Fields a1.When) fun r4 =>
      cond (!r4)
      (some (false))
      (cond (!decide (a1.From = (⟨#[]⟩ : ByteArray)))
      (Option.bind (G100 x2.Fields a1.From) fun r5 =>
      cond (!r5)
      (some (false))
      (cond (decide (a1.When = a1.Field))
      (some (false))
      (cond (decide (a1.From = a1.Field))
      (some (false))
      (cond (decide (a1.When = (⟨#[]⟩ : ByteArray)))
      (cond (!decide (a1.Is = (⟨#[]⟩ : ByteArray)))
      (some (false))
      (cond ((decide (a1.Put = (⟨#[]⟩ : ByteArray))) == (decide (a1.From = (⟨#[]⟩ : ByteArray))))
      (some (false))
      (cond (decide (a1.Put = (⟨#[]⟩ : ByteArray)))
      (some (true))
      (Option.bind (G85 x2.Fields a1.Field) fun r6 =>
      cond (decide (0 ≤ r6)) (Option.bind x2.Fields[r6.toNat]? fun x7 => Option.bind (G101 x7 a1.Put) fun r8 =>
      some (r8)) none))))
      (cond ((decide (a1.Put = (⟨#[]⟩ : ByteArray))) == (decide (a1.From = (⟨#[]⟩ : ByteArray))))
      (some (false))
      (cond (decide (a1.Put = (⟨#[]⟩ : ByteArray)))
      (some (true))
      (Option.bind (G85 x2.Fields a1.Field) fun r9 =>
      cond (decide (0 ≤ r9)) (Option.bind x2.Fields[r9.toNat]? fun x10 => Option.bind (G101 x10 a1.Put) fun r11 =>
      some (r11)) none)))))))
      (cond (decide (a1.When = a1.Field))
      (some (false))
      (cond (decide (a1.From = a1.Field))
      (some (false))
      (cond (decide (a1.When = (⟨#[]⟩ : ByteArray)))
      (cond (!decide (a1.Is = (⟨#[]⟩ : ByteArray)))
      (some (false))
      (cond ((decide (a1.Put = (⟨#[]⟩ : ByteArray))) == (decide (a1.From = (⟨#[]⟩ : ByteArray))))
      (some (false))
      (cond (decide (a1.Put = (⟨#[]⟩ : ByteArray)))
      (some (true))
      (Option.bind (G85 x2.Fields a1.Field) fun r12 =>
      cond (decide (0 ≤ r12)) (Option.bind x2.Fields[r12.toNat]? fun x13 => Option.bind (G101 x13 a1.Put) fun r14 =>
      some (r14)) none))))
      (cond ((decide (a1.Put = (⟨#[]⟩ : ByteArray))) == (decide (a1.From = (⟨#[]⟩ : ByteArray))))
      (some (false))
      (cond (decide (a1.Put = (⟨#[]⟩ : ByteArray)))
      (some (true))
      (Option.bind (G85 x2.Fields a1.Field) fun r15 =>
      cond (decide (0 ≤ r15)) (Option.bind x2.Fields[r15.toNat]? fun x16 => Option.bind (G101 x16 a1.Put) fun r17 =>
      some (r17)) none))))))))
      (cond (!decide (a1.From = (⟨#[]⟩ : ByteArray)))
      (Option.bind (G100 x2.Fields a1.From) fun r18 =>
      cond (!r18)
      (some (false))
      (cond (decide (a1.When = a1.Field))
      (some (false))
      (cond (decide (a1.From = a1.Field))
      (some (false))
      (cond (decide (a1.When = (⟨#[]⟩ : ByteArray)))
      (cond (!decide (a1.Is = (⟨#[]⟩ : ByteArray)))
      (some (false))
      (cond ((decide (a1.Put = (⟨#[]⟩ : ByteArray))) == (decide (a1.From = (⟨#[]⟩ : ByteArray))))
      (some (false))
      (cond (decide (a1.Put = (⟨#[]⟩ : ByteArray)))
      (some (true))
      (Option.bind (G85 x2.Fields a1.Field) fun r19 =>
      cond (decide (0 ≤ r19)) (Option.bind x2.Fields[r19.toNat]? fun x20 => Option.bind (G101 x20 a1.Put) fun r21 =>
      some (r21)) none))))
      (cond ((decide (a1.Put = (⟨#[]⟩ : ByteArray))) == (decide (a1.From = (⟨#[]⟩ : ByteArray))))
      (some (false))
      (cond (decide (a1.Put = (⟨#[]⟩ : ByteArray)))
      (some (true))
      (Option.bind (G85 x2.Fields a1.Field) fun r22 =>
      cond (decide (0 ≤ r22)) (Option.bind x2.Fields[r22.toNat]? fun x23 => Option.bind (G101 x23 a1.Put) fun r24 =>
      some (r24)) none)))))))
      (cond (decide (a1.When = a1.Field))
      (some (false))
      (cond (decide (a1.From = a1.Field))
      (some (false))
      (cond (decide (a1.When = (⟨#[]⟩ : ByteArray)))
      (cond (!decide (a1.Is = (⟨#[]⟩ : ByteArray)))
      (some (false))
      (cond ((decide (a1.Put = (⟨#[]⟩ : ByteArray))) == (decide (a1.From = (⟨#[]⟩ : ByteArray))))
      (some (false))
      (cond (decide (a1.Put = (⟨#[]⟩ : ByteArray)))
      (some (true))
      (Option.bind (G85 x2.Fields a1.Field) fun r25 =>
      cond (decide (0 ≤ r25)) (Option.bind x2.Fields[r25.toNat]? fun x26 => Option.bind (G101 x26 a1.Put) fun r27 =>
      some (r27)) none))))
      (cond ((decide (a1.Put = (⟨#[]⟩ : ByteArray))) == (decide (a1.From = (⟨#[]⟩ : ByteArray))))
      (some (false))
      (cond (decide (a1.Put = (⟨#[]⟩ : ByteArray)))
      (some (true))
      (Option.bind (G85 x2.Fields a1.Field) fun r28 =>
      cond (decide (0 ≤ r28)) (Option.bind x2.Fields[r28.toNat]? fun x29 => Option.bind (G101 x29 a1.Put) fun r30 =>
      some (r30)) none))))))))) none)
theorem t72 (n : Nat) (a0 : List (C .e81)) (a1 : VGateMend) : runFn X72 (F72 n) Go.Proofs.Try.f72 [.one (.row .e81 a0), .agg [.str a1.Kind, .str a1.Field, .str a1.When, .str a1.Is, .str a1.Put, .str a1.From]] dec72 = G72n n a0 a1 := by
  kernel_rfl
noncomputable def G72 (a0 : List (C .e81)) (a1 : VGateMend) : Option (Bool) := G72n fuel a0 a1
noncomputable def con72 : Con C := { R0 := Bool, ret := fun r => [(false, [.bool r])], g := fun vs => match vs with
  | [.one (.row .e81 y0), .agg [.str y1_0, .str y1_1, .str y1_2, .str y1_3, .str y1_4, .str y1_5]] => G72 y0 ⟨y1_0, y1_1, y1_2, y1_3, y1_4, y1_5⟩
  | _ => none }
theorem x72 : XOk Go.Proofs.Try.prog X72 := ⟨tks_ok, els_ok, mps_ok, meths_ok⟩
theorem q72 : Cons Go.Proofs.Try.prog X72 := ⟨lkR_ok (l := [(83, con83), (85, con85), (100, con100), (101, con101)]) ⟨c83, c85, c100, c101, trivial⟩, lkW_ok (l := []) trivial, lkI_ok (l := []) trivial⟩
theorem c72 : ConOk Go.Proofs.Try.prog KK 72 con72 := by
  refine con_dec x72 q72 (by kernel_rfl) (f := 72) (fn := Go.Proofs.Try.f72) (c := bodyOf Go.Proofs.Try.f72) (by kernel_rfl) (by kernel_rfl) (by kernel_rfl) (nameB (by kernel_rfl)) con72 dec72 (fun rs r0 h => ?_) (fun vs r0 h => ?_)
  · unfold dec72 at h
    split at h
    · cases h; rfl
    · cases h
  · simp only [con72] at h
    split at h
    · rename_i y0 y1_0 y1_1 y1_2 y1_3 y1_4 y1_5
      exact ⟨Nat.le_of_ble_eq_true (by kernel_rfl), F72 fuel, (t72 fuel y0 ⟨y1_0, y1_1, y1_2, y1_3, y1_4, y1_5⟩).trans h⟩
    · cases h
/-! ### f103 loop.example/wharfdesk/spec.l3Ready -/
noncomputable def X103 : Cx C := { K := KK, tk := lk tks, con := lkC [(102, con102)], conw := lkC [], inl := lkA [], hold := [], mp := lk mps, meth := lkS meths, off := 6750208 }
def F103 (n : Nat) : Cf := { N := n, keep := [0, 1, 2, 3, 8, 9, 10, 14, 54], live := lk [(0, [0, 1, 2, 3, 9])] }
def dec103 (rs : List (Bool × List (Lf C))) : Option (Bool) := match rs with
  | [(false, [.bool z0])] => some z0
  | _ => none
abbrev A103_0 : Type := List (C .e83) × ByteArray × ByteArray × List (C .e9) × Int
def s103_0 : A103_0 → St C := fun (x0_0, x0_1, x0_2, x0_3, x0_4) => { env := [(0, .one (.row .e83 x0_0)), (1, .one (.str x0_1)), (2, .one (.str x0_2)), (3, .one (.row .e9 x0_3)), (9, .one (.int .i64 x0_4))], objs := [], base := 0 }
noncomputable def r103_0 (n : Nat)  (rec0 : A103_0 → Option (Bool)) : A103_0 → Option (Bool) := fun (x0_0, x0_1, x0_2, x0_3, x0_4) =>
      cond (decide (x0_4 < (x0_0.length : Int)))
      (cond (decide (0 ≤ x0_4)) (Option.bind x0_0[x0_4.toNat]? fun x1 => cond (decide (x1.Kind = x0_1))
      (cond (decide (x1.Field = x0_2))
      (cond (!decide (x1.When = (⟨#[]⟩ : ByteArray)))
      (Option.bind (G102 x0_3 x1.When) fun r2 =>
      cond (!r2)
      (some (false))
      (cond (!decide (x1.From = (⟨#[]⟩ : ByteArray)))
      (Option.bind (G102 x0_3 x1.From) fun r3 =>
      cond (!r3)
      (some (false))
      (rec0 (x0_0, x0_1, x0_2, x0_3, IntKind.i64.wrap (x0_4 + 1))))
      (rec0 (x0_0, x0_1, x0_2, x0_3, IntKind.i64.wrap (x0_4 + 1)))))
      (cond (!decide (x1.From = (⟨#[]⟩ : ByteArray)))
      (Option.bind (G102 x0_3 x1.From) fun r4 =>
      cond (!r4)
      (some (false))
      (rec0 (x0_0, x0_1, x0_2, x0_3, IntKind.i64.wrap (x0_4 + 1))))
      (rec0 (x0_0, x0_1, x0_2, x0_3, IntKind.i64.wrap (x0_4 + 1)))))
      (rec0 (x0_0, x0_1, x0_2, x0_3, IntKind.i64.wrap (x0_4 + 1))))
      (rec0 (x0_0, x0_1, x0_2, x0_3, IntKind.i64.wrap (x0_4 + 1)))) none)
      (some (true))
noncomputable def LP103_0 (n : Nat)  (x : A103_0) : Option (Bool) := lpN (r103_0 n ) n x
noncomputable def MP103_0 (n : Nat)  (x : A103_0) : Option (Bool) := iter (fun rec S => run X103 (F103 n) (codeAt (bodyOf Go.Proofs.Try.f103) [1, 0, 1, 0, 0]) 0 S (lopK rec (blkK 0 (seqK (run X103 (F103 n) (codeAt (bodyOf Go.Proofs.Try.f103) [1, 1]) 0) (kTop X103 Go.Proofs.Try.f103 dec103))))) [0, 1, 2, 3, 9] n (s103_0 x)
theorem m103_0 (n : Nat)  (x : A103_0) : MP103_0 n  x = LP103_0 n  x := by
  refine iter_eq s103_0 (r103_0 n ) (fun rec0 x => ?_) n x
  obtain ⟨x0_0, x0_1, x0_2, x0_3, x0_4⟩ := x
  kernel_rfl
noncomputable def G103n (n : Nat) (a0 : List (C .e83)) (a1 : ByteArray) (a2 : ByteArray) (a3 : List (C .e9)) : Option (Bool) :=
      LP103_0 n  (a0, a1, a2, a3, 0)
theorem t103 (n : Nat) (a0 : List (C .e83)) (a1 : ByteArray) (a2 : ByteArray) (a3 : List (C .e9)) : runFn X103 (F103 n) Go.Proofs.Try.f103 [.one (.row .e83 a0), .one (.str a1), .one (.str a2), .one (.row .e9 a3)] dec103 = G103n n a0 a1 a2 a3 := by
  have h : runFn X103 (F103 n) Go.Proofs.Try.f103 [.one (.row .e83 a0), .one (.str a1), .one (.str a2), .one (.row .e9 a3)] dec103 =
      MP103_0 n  (a0, a1, a2, a3, 0) := by kernel_rfl
  simp only [h, G103n, m103_0]
noncomputable def G103 (a0 : List (C .e83)) (a1 : ByteArray) (a2 : ByteArray) (a3 : List (C .e9)) : Option (Bool) := G103n fuel a0 a1 a2 a3
noncomputable def con103 : Con C := { R0 := Bool, ret := fun r => [(false, [.bool r])], g := fun vs => match vs with
  | [.one (.row .e83 y0), .one (.str y1), .one (.str y2), .one (.row .e9 y3)] => G103 y0 y1 y2 y3
  | _ => none }
theorem x103 : XOk Go.Proofs.Try.prog X103 := ⟨tks_ok, els_ok, mps_ok, meths_ok⟩
theorem q103 : Cons Go.Proofs.Try.prog X103 := ⟨lkR_ok (l := [(102, con102)]) ⟨c102, trivial⟩, lkW_ok (l := []) trivial, lkI_ok (l := []) trivial⟩
theorem c103 : ConOk Go.Proofs.Try.prog KK 103 con103 := by
  refine con_dec x103 q103 (by kernel_rfl) (f := 103) (fn := Go.Proofs.Try.f103) (c := bodyOf Go.Proofs.Try.f103) (by kernel_rfl) (by kernel_rfl) (by kernel_rfl) (nameB (by kernel_rfl)) con103 dec103 (fun rs r0 h => ?_) (fun vs r0 h => ?_)
  · unfold dec103 at h
    split at h
    · cases h; rfl
    · cases h
  · simp only [con103] at h
    split at h
    · rename_i y0 y1 y2 y3
      exact ⟨Nat.le_of_ble_eq_true (by kernel_rfl), F103 fuel, (t103 fuel y0 y1 y2 y3).trans h⟩
    · cases h
/-! ### f73 loop.example/wharfdesk/spec.l3Row -/
noncomputable def X73 : Cx C := { K := KK, tk := lk tks, con := lkC [(102, con102), (103, con103)], conw := lkC [], inl := lkA [], hold := [], mp := lk mps, meth := lkS meths, off := 4784128 }
def F73 (n : Nat) : Cf := { N := n, keep := [0, 1, 2, 4, 5, 6, 7, 8, 14, 21, 41], live := lk [(0, [1, 2, 5, 6]), (2, [1, 2, 5, 6, 7])] }
def dec73 (rs : List (Bool × List (Lf C))) : Option (List (C .e9)) := match rs with
  | [(false, [.row .e9 z0])] => some z0
  | _ => none
abbrev A73_1 : Type := List (C .e83) × List (C .e9) × Int × Int × ByteArray × List (C .e100)
def s73_1 : A73_1 → St C := fun (x1_0, x1_1, x1_2, x1_3, x1_4, x1_5) => { env := [(1, .one (.row .e83 x1_0)), (2, .one (.ptr 4784256 0)), (5, .one (.ref 100005 [])), (6, .one (.int .i64 x1_2)), (7, .one (.int .i64 x1_3))], objs := [(100005, .row .e9 x1_1 false), (4784256, .box .mem [.str x1_4, .row .e100 x1_5])], base := 0 }
abbrev A73_0 : Type := List (C .e83) × List (C .e9) × Int × ByteArray × List (C .e100)
def s73_0 : A73_0 → St C := fun (x0_0, x0_1, x0_2, x0_3, x0_4) => { env := [(1, .one (.row .e83 x0_0)), (2, .one (.ptr 4784256 0)), (5, .one (.ref 100005 [])), (6, .one (.int .i64 x0_2))], objs := [(100005, .row .e9 x0_1 false), (4784256, .box .mem [.str x0_3, .row .e100 x0_4])], base := 0 }
noncomputable def r73_1 (n : Nat) (rec0 : A73_0 → Option (List (C .e9))) (rec1 : A73_1 → Option (List (C .e9))) : A73_1 → Option (List (C .e9)) := fun (x1_0, x1_1, x1_2, x1_3, x1_4, x1_5) =>
      cond (decide (x1_3 < (x1_5.length : Int)))
      (cond (decide (0 ≤ x1_3)) (Option.bind x1_5[x1_3.toNat]? fun x1 => Option.bind (G102 x1_1 x1.Name) fun r2 =>
      cond (!r2)
      (Option.bind (G103 x1_0 x1_4 x1.Name x1_1) fun r3 =>
      cond r3
      (cond (decide ((x1_1.length + (([x1.Name] : List (C .e9))).length) * 16 ≤ 140737488355328)) (rec0 (x1_0, x1_1 ++ (([x1.Name] : List (C .e9))), IntKind.i64.wrap (x1_2 + 1), x1_4, x1_5)) none)
      (rec1 (x1_0, x1_1, x1_2, IntKind.i64.wrap (x1_3 + 1), x1_4, x1_5)))
      (rec1 (x1_0, x1_1, x1_2, IntKind.i64.wrap (x1_3 + 1), x1_4, x1_5))) none)
      (rec0 (x1_0, x1_1, IntKind.i64.wrap (x1_2 + 1), x1_4, x1_5))
noncomputable def LP73_1 (n : Nat) (rec0 : A73_0 → Option (List (C .e9))) (x : A73_1) : Option (List (C .e9)) := lpN (r73_1 n rec0) n x
noncomputable def MP73_1 (n : Nat) (rec0 : St C → Option (List (C .e9))) (x : A73_1) : Option (List (C .e9)) := iter (fun rec S => run X73 (F73 n) (codeAt (bodyOf Go.Proofs.Try.f73) [1, 1, 0, 1, 0, 0, 1, 0, 0, 1, 0, 0]) 2 S (lopK rec (blkK 2 (blkK 1 (seqK (run X73 (F73 n) (codeAt (bodyOf Go.Proofs.Try.f73) [1, 1, 0, 1, 0, 0, 1, 1]) 0) (lopK (canThen [1, 2, 5, 6] rec0) (blkK 0 (seqK (run X73 (F73 n) (codeAt (bodyOf Go.Proofs.Try.f73) [1, 1, 1]) 0) (kTop X73 Go.Proofs.Try.f73 dec73))))))))) [1, 2, 5, 6, 7] n (s73_1 x)
theorem m73_1 (n : Nat) (rec0 : St C → Option (List (C .e9))) (x : A73_1) : MP73_1 n rec0 x = LP73_1 n (fun x => rec0 (s73_0 x)) x := by
  refine iter_eq s73_1 (r73_1 n (fun x => rec0 (s73_0 x))) (fun rec1 x => ?_) n x
  obtain ⟨x1_0, x1_1, x1_2, x1_3, x1_4, x1_5⟩ := x
  kernel_rfl
noncomputable def r73_0 (n : Nat)  (rec0 : A73_0 → Option (List (C .e9))) : A73_0 → Option (List (C .e9)) := fun (x0_0, x0_1, x0_2, x0_3, x0_4) =>
      cond (decide (x0_2 < (x0_4.length : Int)))
      (LP73_1 n rec0 (x0_0, x0_1, x0_2, 0, x0_3, x0_4))
      (some (x0_1))
noncomputable def LP73_0 (n : Nat)  (x : A73_0) : Option (List (C .e9)) := lpN (r73_0 n ) n x
noncomputable def MP73_0 (n : Nat)  (x : A73_0) : Option (List (C .e9)) := iter (fun rec S => run X73 (F73 n) (codeAt (bodyOf Go.Proofs.Try.f73) [1, 1, 0, 1, 0, 0]) 0 S (lopK rec (blkK 0 (seqK (run X73 (F73 n) (codeAt (bodyOf Go.Proofs.Try.f73) [1, 1, 1]) 0) (kTop X73 Go.Proofs.Try.f73 dec73))))) [1, 2, 5, 6] n (s73_0 x)
theorem m73_0 (n : Nat)  (x : A73_0) : MP73_0 n  x = LP73_0 n  x := by
  refine iter_eq s73_0 (r73_0 n ) (fun rec0 x => ?_) n x
  obtain ⟨x0_0, x0_1, x0_2, x0_3, x0_4⟩ := x
  have h : run X73 (F73 n) (codeAt (bodyOf Go.Proofs.Try.f73) [1, 1, 0, 1, 0, 0]) 0 (s73_0 (x0_0, x0_1, x0_2, x0_3, x0_4)) (lopK (canThen [1, 2, 5, 6] rec0) (blkK 0 (seqK (run X73 (F73 n) (codeAt (bodyOf Go.Proofs.Try.f73) [1, 1, 1]) 0) (kTop X73 Go.Proofs.Try.f73 dec73)))) =
      cond (decide (x0_2 < (x0_4.length : Int)))
      (MP73_1 n rec0 (x0_0, x0_1, x0_2, 0, x0_3, x0_4))
      (some (x0_1)) := by kernel_rfl
  simp only [m73_1] at h
  exact h
noncomputable def G73n (n : Nat) (a0 : VGateShape) (a1 : List (C .e83)) : Option (List (C .e9)) :=
      LP73_0 n  (a1, ([] : List (C .e9)), 0, a0.Kind, a0.Fields)
theorem t73 (n : Nat) (a0 : VGateShape) (a1 : List (C .e83)) : runFn X73 (F73 n) Go.Proofs.Try.f73 [.agg [.str a0.Kind, .row .e100 a0.Fields], .one (.row .e83 a1)] dec73 = G73n n a0 a1 := by
  have h : runFn X73 (F73 n) Go.Proofs.Try.f73 [.agg [.str a0.Kind, .row .e100 a0.Fields], .one (.row .e83 a1)] dec73 =
      MP73_0 n  (a1, ([] : List (C .e9)), 0, a0.Kind, a0.Fields) := by kernel_rfl
  simp only [h, G73n, m73_0]
noncomputable def G73 (a0 : VGateShape) (a1 : List (C .e83)) : Option (List (C .e9)) := G73n fuel a0 a1
noncomputable def con73 : Con C := { R0 := List (C .e9), ret := fun r => [(false, [.row .e9 r])], g := fun vs => match vs with
  | [.agg [.str y0_0, .row .e100 y0_1], .one (.row .e83 y1)] => G73 ⟨y0_0, y0_1⟩ y1
  | _ => none }
theorem x73 : XOk Go.Proofs.Try.prog X73 := ⟨tks_ok, els_ok, mps_ok, meths_ok⟩
theorem q73 : Cons Go.Proofs.Try.prog X73 := ⟨lkR_ok (l := [(102, con102), (103, con103)]) ⟨c102, c103, trivial⟩, lkW_ok (l := []) trivial, lkI_ok (l := []) trivial⟩
theorem c73 : ConOk Go.Proofs.Try.prog KK 73 con73 := by
  refine con_dec x73 q73 (by kernel_rfl) (f := 73) (fn := Go.Proofs.Try.f73) (c := bodyOf Go.Proofs.Try.f73) (by kernel_rfl) (by kernel_rfl) (by kernel_rfl) (nameB (by kernel_rfl)) con73 dec73 (fun rs r0 h => ?_) (fun vs r0 h => ?_)
  · unfold dec73 at h
    split at h
    · cases h; rfl
    · cases h
  · simp only [con73] at h
    split at h
    · rename_i y0_0 y0_1 y1
      exact ⟨Nat.le_of_ble_eq_true (by kernel_rfl), F73 fuel, (t73 fuel ⟨y0_0, y0_1⟩ y1).trans h⟩
    · cases h
/-! ### f39 loop.example/wharfdesk/spec.GateMendsOk -/
noncomputable def X39 : Cx C := { K := KK, tk := lk tks, con := lkC [(71, con71), (72, con72), (73, con73)], conw := lkC [], inl := lkA [], hold := [], mp := lk mps, meth := lkS meths, off := 2555904 }
def F39 (n : Nat) : Cf := { N := n, keep := [0, 1, 4, 5, 6, 14, 18, 27, 31, 47], live := lk [(0, [0, 1, 5]), (2, [0, 1, 6])] }
def dec39 (rs : List (Bool × List (Lf C))) : Option (Bool) := match rs with
  | [(false, [.bool z0])] => some z0
  | _ => none
abbrev A39_1 : Type := List (C .e81) × List (C .e83) × Int
def s39_1 : A39_1 → St C := fun (x1_0, x1_1, x1_2) => { env := [(0, .one (.row .e81 x1_0)), (1, .one (.row .e83 x1_1)), (6, .one (.int .i64 x1_2))], objs := [], base := 0 }
abbrev A39_0 : Type := List (C .e81) × List (C .e83) × Int
def s39_0 : A39_0 → St C := fun (x0_0, x0_1, x0_2) => { env := [(0, .one (.row .e81 x0_0)), (1, .one (.row .e83 x0_1)), (5, .one (.int .i64 x0_2))], objs := [], base := 0 }
noncomputable def r39_1 (n : Nat)  (rec1 : A39_1 → Option (Bool)) : A39_1 → Option (Bool) := fun (x1_0, x1_1, x1_2) =>
      cond (decide (x1_2 < (x1_0.length : Int)))
      (cond (decide (0 ≤ x1_2)) (Option.bind x1_0[x1_2.toNat]? fun x4 => Option.bind (G73 x4 x1_1) fun r5 =>
      cond (decide (0 ≤ x1_2)) (Option.bind x1_0[x1_2.toNat]? fun x6 => cond ((r5.length : Int) != (x6.Fields.length : Int))
      (some (false))
      (rec1 (x1_0, x1_1, IntKind.i64.wrap (x1_2 + 1)))) none) none)
      (some (true))
noncomputable def LP39_1 (n : Nat)  (x : A39_1) : Option (Bool) := lpN (r39_1 n ) n x
noncomputable def MP39_1 (n : Nat)  (x : A39_1) : Option (Bool) := iter (fun rec S => run X39 (F39 n) (codeAt (bodyOf Go.Proofs.Try.f39) [1, 1, 1, 0, 1, 0, 0]) 2 S (lopK rec (blkK 2 (seqK (run X39 (F39 n) (codeAt (bodyOf Go.Proofs.Try.f39) [1, 1, 1, 1]) 0) (kTop X39 Go.Proofs.Try.f39 dec39))))) [0, 1, 6] n (s39_1 x)
theorem m39_1 (n : Nat)  (x : A39_1) : MP39_1 n  x = LP39_1 n  x := by
  refine iter_eq s39_1 (r39_1 n ) (fun rec1 x => ?_) n x
  obtain ⟨x1_0, x1_1, x1_2⟩ := x
  kernel_rfl
noncomputable def r39_0 (n : Nat)  (rec0 : A39_0 → Option (Bool)) : A39_0 → Option (Bool) := fun (x0_0, x0_1, x0_2) =>
      cond (decide (x0_2 < (x0_1.length : Int)))
      (cond (decide (0 ≤ x0_2)) (Option.bind x0_1[x0_2.toNat]? fun x2 => Option.bind (G72 x0_0 x2) fun r3 =>
      cond (!r3)
      (some (false))
      (rec0 (x0_0, x0_1, IntKind.i64.wrap (x0_2 + 1)))) none)
      (LP39_1 n  (x0_0, x0_1, 0))
noncomputable def LP39_0 (n : Nat)  (x : A39_0) : Option (Bool) := lpN (r39_0 n ) n x
noncomputable def MP39_0 (n : Nat)  (x : A39_0) : Option (Bool) := iter (fun rec S => run X39 (F39 n) (codeAt (bodyOf Go.Proofs.Try.f39) [1, 1, 0, 1, 0, 0]) 0 S (lopK rec (blkK 0 (seqK (run X39 (F39 n) (codeAt (bodyOf Go.Proofs.Try.f39) [1, 1, 1]) 0) (kTop X39 Go.Proofs.Try.f39 dec39))))) [0, 1, 5] n (s39_0 x)
theorem m39_0 (n : Nat)  (x : A39_0) : MP39_0 n  x = LP39_0 n  x := by
  refine iter_eq s39_0 (r39_0 n ) (fun rec0 x => ?_) n x
  obtain ⟨x0_0, x0_1, x0_2⟩ := x
  have h : run X39 (F39 n) (codeAt (bodyOf Go.Proofs.Try.f39) [1, 1, 0, 1, 0, 0]) 0 (s39_0 (x0_0, x0_1, x0_2)) (lopK (canThen [0, 1, 5] rec0) (blkK 0 (seqK (run X39 (F39 n) (codeAt (bodyOf Go.Proofs.Try.f39) [1, 1, 1]) 0) (kTop X39 Go.Proofs.Try.f39 dec39)))) =
      cond (decide (x0_2 < (x0_1.length : Int)))
      (cond (decide (0 ≤ x0_2)) (Option.bind x0_1[x0_2.toNat]? fun x2 => Option.bind (G72 x0_0 x2) fun r3 =>
      cond (!r3)
      (some (false))
      ((fun x => rec0 (s39_0 x)) (x0_0, x0_1, IntKind.i64.wrap (x0_2 + 1)))) none)
      (MP39_1 n  (x0_0, x0_1, 0)) := by kernel_rfl
  simp only [m39_1] at h
  exact h
noncomputable def G39n (n : Nat) (a0 : List (C .e81)) (a1 : List (C .e83)) : Option (Bool) :=
      Option.bind (G71 a0) fun r1 =>
      cond (!r1)
      (some (false))
      (cond (decide ((a1.length : Int) > 12))
      (some (false))
      (LP39_0 n  (a0, a1, 0)))
theorem t39 (n : Nat) (a0 : List (C .e81)) (a1 : List (C .e83)) : runFn X39 (F39 n) Go.Proofs.Try.f39 [.one (.row .e81 a0), .one (.row .e83 a1)] dec39 = G39n n a0 a1 := by
  have h : runFn X39 (F39 n) Go.Proofs.Try.f39 [.one (.row .e81 a0), .one (.row .e83 a1)] dec39 =
      Option.bind (G71 a0) fun r1 =>
      cond (!r1)
      (some (false))
      (cond (decide ((a1.length : Int) > 12))
      (some (false))
      (MP39_0 n  (a0, a1, 0))) := by kernel_rfl
  simp only [h, G39n, m39_0]
noncomputable def G39 (a0 : List (C .e81)) (a1 : List (C .e83)) : Option (Bool) := G39n fuel a0 a1
noncomputable def con39 : Con C := { R0 := Bool, ret := fun r => [(false, [.bool r])], g := fun vs => match vs with
  | [.one (.row .e81 y0), .one (.row .e83 y1)] => G39 y0 y1
  | _ => none }
theorem x39 : XOk Go.Proofs.Try.prog X39 := ⟨tks_ok, els_ok, mps_ok, meths_ok⟩
theorem q39 : Cons Go.Proofs.Try.prog X39 := ⟨lkR_ok (l := [(71, con71), (72, con72), (73, con73)]) ⟨c71, c72, c73, trivial⟩, lkW_ok (l := []) trivial, lkI_ok (l := []) trivial⟩
theorem c39 : ConOk Go.Proofs.Try.prog KK 39 con39 := by
  refine con_dec x39 q39 (by kernel_rfl) (f := 39) (fn := Go.Proofs.Try.f39) (c := bodyOf Go.Proofs.Try.f39) (by kernel_rfl) (by kernel_rfl) (by kernel_rfl) (nameB (by kernel_rfl)) con39 dec39 (fun rs r0 h => ?_) (fun vs r0 h => ?_)
  · unfold dec39 at h
    split at h
    · cases h; rfl
    · cases h
  · simp only [con39] at h
    split at h
    · rename_i y0 y1
      exact ⟨Nat.le_of_ble_eq_true (by kernel_rfl), F39 fuel, (t39 fuel y0 y1).trans h⟩
    · cases h
/-! ### f47 loop.example/wharfdesk/spec.l2Copy -/
noncomputable def X47 : Cx C := { K := KK, tk := lk tks, con := lkC [], conw := lkC [], inl := lkA [], hold := [], mp := lk mps, meth := lkS meths, off := 3080192 }
def F47 (n : Nat) : Cf := { N := n, keep := [0, 1, 2], live := lk [] }
def dec47 (rs : List (Bool × List (Lf C))) : Option (VGateObject) := match rs with
  | [(true, [.str z0, .str z1, .str z2, .row .e9 z3, .bool z4, .row .e9 z5, .int .i64 z6])] => some ⟨z0, z1, z2, z3, z4, z5, z6⟩
  | _ => none
noncomputable def G47n (n : Nat) (a0 : VGateObject) : Option (VGateObject) :=
      cond (decide (((([] : List (C .e9))).length + a0.Values.length) * 16 ≤ 140737488355328)) (cond (decide (((([] : List (C .e9))).length + a0.Holds.length) * 16 ≤ 140737488355328)) (some ((⟨a0.Kind, a0.Name, a0.Team, (([] : List (C .e9))) ++ a0.Values, a0.Ending, (([] : List (C .e9))) ++ a0.Holds, a0.Version⟩ : VGateObject))) none) none
theorem t47 (n : Nat) (a0 : VGateObject) : runFn X47 (F47 n) Go.Proofs.Try.f47 [.agg [.str a0.Kind, .str a0.Name, .str a0.Team, .row .e9 a0.Values, .bool a0.Ending, .row .e9 a0.Holds, .int .i64 a0.Version]] dec47 = G47n n a0 := by
  kernel_rfl
noncomputable def G47 (a0 : VGateObject) : Option (VGateObject) := G47n fuel a0
noncomputable def con47 : Con C := { R0 := VGateObject, ret := fun r => [(true, [.str r.Kind, .str r.Name, .str r.Team, .row .e9 r.Values, .bool r.Ending, .row .e9 r.Holds, .int .i64 r.Version])], g := fun vs => match vs with
  | [.agg [.str y0_0, .str y0_1, .str y0_2, .row .e9 y0_3, .bool y0_4, .row .e9 y0_5, .int .i64 y0_6]] => G47 ⟨y0_0, y0_1, y0_2, y0_3, y0_4, y0_5, y0_6⟩
  | _ => none }
theorem x47 : XOk Go.Proofs.Try.prog X47 := ⟨tks_ok, els_ok, mps_ok, meths_ok⟩
theorem q47 : Cons Go.Proofs.Try.prog X47 := ⟨lkR_ok (l := []) trivial, lkW_ok (l := []) trivial, lkI_ok (l := []) trivial⟩
theorem c47 : ConOk Go.Proofs.Try.prog KK 47 con47 := by
  refine con_dec x47 q47 (by kernel_rfl) (f := 47) (fn := Go.Proofs.Try.f47) (c := bodyOf Go.Proofs.Try.f47) (by kernel_rfl) (by kernel_rfl) (by kernel_rfl) (nameB (by kernel_rfl)) con47 dec47 (fun rs r0 h => ?_) (fun vs r0 h => ?_)
  · unfold dec47 at h
    split at h
    · cases h; rfl
    · cases h
  · simp only [con47] at h
    split at h
    · rename_i y0_0 y0_1 y0_2 y0_3 y0_4 y0_5 y0_6
      exact ⟨Nat.le_of_ble_eq_true (by kernel_rfl), F47 fuel, (t47 fuel ⟨y0_0, y0_1, y0_2, y0_3, y0_4, y0_5, y0_6⟩).trans h⟩
    · cases h
/-! ### f82 loop.example/wharfdesk/spec.l2Fields, run in place -/
noncomputable def X82 : Cx C := { K := KK, tk := lk tks, con := lkC [(83, con83)], conw := lkC [], inl := lkA [], hold := [], mp := lk mps, meth := lkS meths, off := 5373952 }
def F82 (n : Nat) : Cf := { N := n, keep := [0, 1, 3, 4, 5, 6, 24], live := lk [] }
noncomputable def I82 (n : Nat) : Inl C := inlOf X82 (F82 n) Go.Proofs.Try.f82
theorem x82 : XOk Go.Proofs.Try.prog X82 := ⟨tks_ok, els_ok, mps_ok, meths_ok⟩
theorem q82 : Cons Go.Proofs.Try.prog X82 := ⟨lkR_ok (l := [(83, con83)]) ⟨c83, trivial⟩, lkW_ok (l := []) trivial, lkI_ok (l := []) trivial⟩
theorem i82 (n : Nat) : InlOk Go.Proofs.Try.prog KK 82 (I82 n) := inl_of x82 q82 (by kernel_rfl) (F82 n) (f := 82) (fn := Go.Proofs.Try.f82) (c := bodyOf Go.Proofs.Try.f82) (by kernel_rfl) (by kernel_rfl) (by kernel_rfl) (nameB (by kernel_rfl))
/-! ### f84 loop.example/wharfdesk/spec.l3Decided -/
noncomputable def X84 : Cx C := { K := KK, tk := lk tks, con := lkC [(85, con85)], conw := lkC [], inl := lkA [], hold := [], mp := lk mps, meth := lkS meths, off := 5505024 }
def F84 (n : Nat) : Cf := { N := n, keep := [0, 1, 2, 3, 6, 8, 9, 10, 11, 15, 50, 53, 65], live := lk [(0, [0, 1, 3, 6, 9])] }
def dec84 (rs : List (Bool × List (Lf C))) : Option (ByteArray) := match rs with
  | [(false, [.str z0])] => some z0
  | _ => none
abbrev A84_0 : Type := List (C .e100) × List (C .e83) × ByteArray × Int × ByteArray × ByteArray × ByteArray × List (C .e9) × Bool × List (C .e9) × Int
def s84_0 : A84_0 → St C := fun (x0_0, x0_1, x0_2, x0_3, x0_4, x0_5, x0_6, x0_7, x0_8, x0_9, x0_10) => { env := [(0, .one (.row .e100 x0_0)), (1, .one (.row .e83 x0_1)), (3, .one (.str x0_2)), (6, .one (.ptr 5505408 0)), (9, .one (.int .i64 x0_3))], objs := [(5505408, .box .mem [.str x0_4, .str x0_5, .str x0_6, .row .e9 x0_7, .bool x0_8, .row .e9 x0_9, .int .i64 x0_10])], base := 0 }
noncomputable def r84_0 (n : Nat)  (rec0 : A84_0 → Option (ByteArray)) : A84_0 → Option (ByteArray) := fun (x0_0, x0_1, x0_2, x0_3, x0_4, x0_5, x0_6, x0_7, x0_8, x0_9, x0_10) =>
      cond (decide (x0_3 < (x0_1.length : Int)))
      (cond (decide (0 ≤ x0_3)) (Option.bind x0_1[x0_3.toNat]? fun x1 => cond (!decide (x1.Kind = x0_4))
      (rec0 (x0_0, x0_1, x0_2, IntKind.i64.wrap (x0_3 + 1), x0_4, x0_5, x0_6, x0_7, x0_8, x0_9, x0_10))
      (cond (!decide (x1.Field = x0_2))
      (rec0 (x0_0, x0_1, x0_2, IntKind.i64.wrap (x0_3 + 1), x0_4, x0_5, x0_6, x0_7, x0_8, x0_9, x0_10))
      (cond (!decide (x1.When = (⟨#[]⟩ : ByteArray)))
      (Option.bind (G85 x0_0 x1.When) fun r2 =>
      cond (decide (0 ≤ r2)) (Option.bind x0_7[r2.toNat]? fun x3 => cond (!decide (x3 = x1.Is))
      (rec0 (x0_0, x0_1, x0_2, IntKind.i64.wrap (x0_3 + 1), x0_4, x0_5, x0_6, x0_7, x0_8, x0_9, x0_10))
      (cond (decide (x1.From = (⟨#[]⟩ : ByteArray)))
      (some (x1.Put))
      (Option.bind (G85 x0_0 x1.From) fun r4 =>
      cond (decide (0 ≤ r4)) (Option.bind x0_7[r4.toNat]? fun x5 => cond (!decide (x5 = (⟨#[]⟩ : ByteArray)))
      (some (x5))
      (rec0 (x0_0, x0_1, x0_2, IntKind.i64.wrap (x0_3 + 1), x0_4, x0_5, x0_6, x0_7, x0_8, x0_9, x0_10))) none))) none)
      (cond (decide (x1.From = (⟨#[]⟩ : ByteArray)))
      (some (x1.Put))
      (Option.bind (G85 x0_0 x1.From) fun r6 =>
      cond (decide (0 ≤ r6)) (Option.bind x0_7[r6.toNat]? fun x7 => cond (!decide (x7 = (⟨#[]⟩ : ByteArray)))
      (some (x7))
      (rec0 (x0_0, x0_1, x0_2, IntKind.i64.wrap (x0_3 + 1), x0_4, x0_5, x0_6, x0_7, x0_8, x0_9, x0_10))) none))))) none)
      (Option.bind (G85 x0_0 x0_2) fun r8 =>
      cond (decide (0 ≤ r8)) (Option.bind x0_7[r8.toNat]? fun x9 => some (x9)) none)
noncomputable def LP84_0 (n : Nat)  (x : A84_0) : Option (ByteArray) := lpN (r84_0 n ) n x
noncomputable def MP84_0 (n : Nat)  (x : A84_0) : Option (ByteArray) := iter (fun rec S => run X84 (F84 n) (codeAt (bodyOf Go.Proofs.Try.f84) [1, 0, 1, 0, 0]) 0 S (lopK rec (blkK 0 (seqK (run X84 (F84 n) (codeAt (bodyOf Go.Proofs.Try.f84) [1, 1]) 0) (kTop X84 Go.Proofs.Try.f84 dec84))))) [0, 1, 3, 6, 9] n (s84_0 x)
theorem m84_0 (n : Nat)  (x : A84_0) : MP84_0 n  x = LP84_0 n  x := by
  refine iter_eq s84_0 (r84_0 n ) (fun rec0 x => ?_) n x
  obtain ⟨x0_0, x0_1, x0_2, x0_3, x0_4, x0_5, x0_6, x0_7, x0_8, x0_9, x0_10⟩ := x
  kernel_rfl
noncomputable def G84n (n : Nat) (a0 : List (C .e100)) (a1 : List (C .e83)) (a2 : VGateObject) (a3 : ByteArray) : Option (ByteArray) :=
      LP84_0 n  (a0, a1, a3, 0, a2.Kind, a2.Name, a2.Team, a2.Values, a2.Ending, a2.Holds, a2.Version)
theorem t84 (n : Nat) (a0 : List (C .e100)) (a1 : List (C .e83)) (a2 : VGateObject) (a3 : ByteArray) : runFn X84 (F84 n) Go.Proofs.Try.f84 [.one (.row .e100 a0), .one (.row .e83 a1), .agg [.str a2.Kind, .str a2.Name, .str a2.Team, .row .e9 a2.Values, .bool a2.Ending, .row .e9 a2.Holds, .int .i64 a2.Version], .one (.str a3)] dec84 = G84n n a0 a1 a2 a3 := by
  have h : runFn X84 (F84 n) Go.Proofs.Try.f84 [.one (.row .e100 a0), .one (.row .e83 a1), .agg [.str a2.Kind, .str a2.Name, .str a2.Team, .row .e9 a2.Values, .bool a2.Ending, .row .e9 a2.Holds, .int .i64 a2.Version], .one (.str a3)] dec84 =
      MP84_0 n  (a0, a1, a3, 0, a2.Kind, a2.Name, a2.Team, a2.Values, a2.Ending, a2.Holds, a2.Version) := by kernel_rfl
  simp only [h, G84n, m84_0]
noncomputable def G84 (a0 : List (C .e100)) (a1 : List (C .e83)) (a2 : VGateObject) (a3 : ByteArray) : Option (ByteArray) := G84n fuel a0 a1 a2 a3
noncomputable def con84 : Con C := { R0 := ByteArray, ret := fun r => [(false, [.str r])], g := fun vs => match vs with
  | [.one (.row .e100 y0), .one (.row .e83 y1), .agg [.str y2_0, .str y2_1, .str y2_2, .row .e9 y2_3, .bool y2_4, .row .e9 y2_5, .int .i64 y2_6], .one (.str y3)] => G84 y0 y1 ⟨y2_0, y2_1, y2_2, y2_3, y2_4, y2_5, y2_6⟩ y3
  | _ => none }
theorem x84 : XOk Go.Proofs.Try.prog X84 := ⟨tks_ok, els_ok, mps_ok, meths_ok⟩
theorem q84 : Cons Go.Proofs.Try.prog X84 := ⟨lkR_ok (l := [(85, con85)]) ⟨c85, trivial⟩, lkW_ok (l := []) trivial, lkI_ok (l := []) trivial⟩
theorem c84 : ConOk Go.Proofs.Try.prog KK 84 con84 := by
  refine con_dec x84 q84 (by kernel_rfl) (f := 84) (fn := Go.Proofs.Try.f84) (c := bodyOf Go.Proofs.Try.f84) (by kernel_rfl) (by kernel_rfl) (by kernel_rfl) (nameB (by kernel_rfl)) con84 dec84 (fun rs r0 h => ?_) (fun vs r0 h => ?_)
  · unfold dec84 at h
    split at h
    · cases h; rfl
    · cases h
  · simp only [con84] at h
    split at h
    · rename_i y0 y1 y2_0 y2_1 y2_2 y2_3 y2_4 y2_5 y2_6 y3
      exact ⟨Nat.le_of_ble_eq_true (by kernel_rfl), F84 fuel, (t84 fuel y0 y1 ⟨y2_0, y2_1, y2_2, y2_3, y2_4, y2_5, y2_6⟩ y3).trans h⟩
    · cases h
/-! ### f48 loop.example/wharfdesk/spec.l3Mended -/
noncomputable def X48 (n : Nat) : Cx C := { K := KK, tk := lk tks, con := lkC [(47, con47), (73, con73), (83, con83), (84, con84), (85, con85)], conw := lkC [], inl := lkA [(82, I82 n)], hold := [0, 1, 5, 6, 7, 8, 9, 14, 17, 18, 19], mp := lk mps, meth := lkS meths, off := 3145728 }
def F48 (n : Nat) : Cf := { N := n, keep := [0, 1, 2, 5, 6, 7, 8, 9, 10, 11, 21, 35], live := lk [(0, [1, 6, 7, 8, 10, 11])] }
def dec48 (rs : List (Bool × List (Lf C))) : Option (VGateObject) := match rs with
  | [(true, [.str z0, .str z1, .str z2, .row .e9 z3, .bool z4, .row .e9 z5, .int .i64 z6])] => some ⟨z0, z1, z2, z3, z4, z5, z6⟩
  | _ => none
abbrev A48_0 : Type := List (C .e83) × List (C .e100) × List (C .e9) × Int × ByteArray × ByteArray × ByteArray × List (C .e9) × Bool × List (C .e9) × Int × ByteArray × ByteArray × ByteArray × List (C .e9) × Bool × List (C .e9) × Int
def s48_0 : A48_0 → St C := fun (x0_0, x0_1, x0_2, x0_3, x0_4, x0_5, x0_6, x0_7, x0_8, x0_9, x0_10, x0_11, x0_12, x0_13, x0_14, x0_15, x0_16, x0_17) => { env := [(1, .one (.row .e83 x0_0)), (6, .one (.ptr 3146112 0)), (7, .one (.ptr 3146176 0)), (8, .one (.row .e100 x0_1)), (10, .one (.ref 100010 [])), (11, .one (.int .i64 x0_3))], objs := [(100010, .row .e9 x0_2 false), (3146112, .box .mem [.str x0_4, .str x0_5, .str x0_6, .ref 315611203 [], .bool x0_8, .ref 315611205 [], .int .i64 x0_10]), (315611203, .row .e9 x0_7 false), (315611205, .row .e9 x0_9 false), (3146176, .box .mem [.str x0_11, .str x0_12, .str x0_13, .ref 315617603 [], .bool x0_15, .ref 315617605 [], .int .i64 x0_17]), (315617603, .row .e9 x0_14 false), (315617605, .row .e9 x0_16 false)], base := 0 }
noncomputable def r48_0 (n : Nat)  (rec0 : A48_0 → Option (VGateObject)) : A48_0 → Option (VGateObject) := fun (x0_0, x0_1, x0_2, x0_3, x0_4, x0_5, x0_6, x0_7, x0_8, x0_9, x0_10, x0_11, x0_12, x0_13, x0_14, x0_15, x0_16, x0_17) =>
      cond (decide (x0_3 < (x0_2.length : Int)))
      (cond (decide (0 ≤ x0_3)) (cond (decide (x0_3 < (x0_2.length : Int))) (Option.bind x0_2[x0_3.toNat]? fun x8 => Option.bind (G85 x0_1 x8) fun r9 =>
      cond (decide (0 ≤ x0_3)) (cond (decide (x0_3 < (x0_2.length : Int))) (Option.bind x0_2[x0_3.toNat]? fun x10 => Option.bind (G84 x0_1 x0_0 (⟨x0_11, x0_12, x0_13, x0_14, x0_15, x0_16, x0_17⟩ : VGateObject) x10) fun r11 =>
      cond (decide (0 ≤ r9)) (cond (decide (r9 < (x0_14.length : Int))) (Option.bind x0_14[r9.toNat]? fun x12 => rec0 (x0_0, x0_1, x0_2, IntKind.i64.wrap (x0_3 + 1), x0_4, x0_5, x0_6, x0_7, x0_8, x0_9, x0_10, x0_11, x0_12, x0_13, x0_14.set r9.toNat r11, x0_15, x0_16, x0_17)) none) none) none) none) none) none)
      (some ((⟨x0_11, x0_12, x0_13, x0_14, x0_15, x0_16, x0_17⟩ : VGateObject)))
noncomputable def LP48_0 (n : Nat)  (x : A48_0) : Option (VGateObject) := lpN (r48_0 n ) n x
noncomputable def MP48_0 (n : Nat)  (x : A48_0) : Option (VGateObject) := iter (fun rec S => run (X48 n) (F48 n) (codeAt (bodyOf Go.Proofs.Try.f48) [1, 1, 1, 1, 1, 0, 1, 0, 0]) 0 S (lopK rec (blkK 0 (seqK (run (X48 n) (F48 n) (codeAt (bodyOf Go.Proofs.Try.f48) [1, 1, 1, 1, 1, 1]) 0) (kTop (X48 n) Go.Proofs.Try.f48 dec48))))) [1, 6, 7, 8, 10, 11] n (s48_0 x)
theorem m48_0 (n : Nat)  (x : A48_0) : MP48_0 n  x = LP48_0 n  x := by
  refine iter_eq s48_0 (r48_0 n ) (fun rec0 x => ?_) n x
  obtain ⟨x0_0, x0_1, x0_2, x0_3, x0_4, x0_5, x0_6, x0_7, x0_8, x0_9, x0_10, x0_11, x0_12, x0_13, x0_14, x0_15, x0_16, x0_17⟩ := x
  kernel_rfl
noncomputable def G48n (n : Nat) (a0 : List (C .e81)) (a1 : List (C .e83)) (a2 : VGateObject) : Option (VGateObject) :=
      Option.bind (G47 a2) fun r1 =>
      Option.bind (G83 a0 a2.Kind) fun r2 =>
      cond (decide (r2 < 0))
      (some (r1))
      (cond (decide (0 ≤ r2)) (Option.bind a0[r2.toNat]? fun x3 => cond ((x3.Fields.length : Int) != (a2.Values.length : Int))
      (some (r1))
      (cond (decide (0 ≤ r2)) (Option.bind a0[r2.toNat]? fun x4 => Option.bind (G83 a0 a2.Kind) fun r5 =>
      cond (decide (0 ≤ r5)) (Option.bind a0[r5.toNat]? fun x6 => Option.bind (G73 x6 a1) fun r7 =>
      LP48_0 n  (a1, x4.Fields, r7, 0, (⟨#[]⟩ : ByteArray), (⟨#[]⟩ : ByteArray), (⟨#[]⟩ : ByteArray), ([] : List (C .e9)), false, ([] : List (C .e9)), 0, r1.Kind, r1.Name, r1.Team, r1.Values, r1.Ending, r1.Holds, r1.Version)) none) none)) none)
theorem t48 (n : Nat) (a0 : List (C .e81)) (a1 : List (C .e83)) (a2 : VGateObject) : runFn (X48 n) (F48 n) Go.Proofs.Try.f48 [.one (.row .e81 a0), .one (.row .e83 a1), .agg [.str a2.Kind, .str a2.Name, .str a2.Team, .row .e9 a2.Values, .bool a2.Ending, .row .e9 a2.Holds, .int .i64 a2.Version]] dec48 = G48n n a0 a1 a2 := by
  have h : runFn (X48 n) (F48 n) Go.Proofs.Try.f48 [.one (.row .e81 a0), .one (.row .e83 a1), .agg [.str a2.Kind, .str a2.Name, .str a2.Team, .row .e9 a2.Values, .bool a2.Ending, .row .e9 a2.Holds, .int .i64 a2.Version]] dec48 =
      Option.bind (G47 a2) fun r1 =>
      Option.bind (G83 a0 a2.Kind) fun r2 =>
      cond (decide (r2 < 0))
      (some (r1))
      (cond (decide (0 ≤ r2)) (Option.bind a0[r2.toNat]? fun x3 => cond ((x3.Fields.length : Int) != (a2.Values.length : Int))
      (some (r1))
      (cond (decide (0 ≤ r2)) (Option.bind a0[r2.toNat]? fun x4 => Option.bind (G83 a0 a2.Kind) fun r5 =>
      cond (decide (0 ≤ r5)) (Option.bind a0[r5.toNat]? fun x6 => Option.bind (G73 x6 a1) fun r7 =>
      MP48_0 n  (a1, x4.Fields, r7, 0, (⟨#[]⟩ : ByteArray), (⟨#[]⟩ : ByteArray), (⟨#[]⟩ : ByteArray), ([] : List (C .e9)), false, ([] : List (C .e9)), 0, r1.Kind, r1.Name, r1.Team, r1.Values, r1.Ending, r1.Holds, r1.Version)) none) none)) none) := by kernel_rfl
  simp only [h, G48n, m48_0]
noncomputable def G48 (a0 : List (C .e81)) (a1 : List (C .e83)) (a2 : VGateObject) : Option (VGateObject) := G48n fuel a0 a1 a2
noncomputable def con48 : Con C := { R0 := VGateObject, ret := fun r => [(true, [.str r.Kind, .str r.Name, .str r.Team, .row .e9 r.Values, .bool r.Ending, .row .e9 r.Holds, .int .i64 r.Version])], g := fun vs => match vs with
  | [.one (.row .e81 y0), .one (.row .e83 y1), .agg [.str y2_0, .str y2_1, .str y2_2, .row .e9 y2_3, .bool y2_4, .row .e9 y2_5, .int .i64 y2_6]] => G48 y0 y1 ⟨y2_0, y2_1, y2_2, y2_3, y2_4, y2_5, y2_6⟩
  | _ => none }
theorem x48 (n : Nat) : XOk Go.Proofs.Try.prog (X48 n) := ⟨tks_ok, els_ok, mps_ok, meths_ok⟩
theorem q48 (n : Nat) : Cons Go.Proofs.Try.prog (X48 n) := ⟨lkR_ok (l := [(47, con47), (73, con73), (83, con83), (84, con84), (85, con85)]) ⟨c47, c73, c83, c84, c85, trivial⟩, lkW_ok (l := []) trivial, lkI_ok (l := [(82, I82 n)]) ⟨i82 n, trivial⟩⟩
theorem c48 : ConOk Go.Proofs.Try.prog KK 48 con48 := by
  refine con_dec (x48 fuel) (q48 fuel) (by kernel_rfl) (f := 48) (fn := Go.Proofs.Try.f48) (c := bodyOf Go.Proofs.Try.f48) (by kernel_rfl) (by kernel_rfl) (by kernel_rfl) (nameB (by kernel_rfl)) con48 dec48 (fun rs r0 h => ?_) (fun vs r0 h => ?_)
  · unfold dec48 at h
    split at h
    · cases h; rfl
    · cases h
  · simp only [con48] at h
    split at h
    · rename_i y0 y1 y2_0 y2_1 y2_2 y2_3 y2_4 y2_5 y2_6
      exact ⟨Nat.le_of_ble_eq_true (by kernel_rfl), F48 fuel, (t48 fuel y0 y1 ⟨y2_0, y2_1, y2_2, y2_3, y2_4, y2_5, y2_6⟩).trans h⟩
    · cases h
/-! ### f15 loop.example/wharfdesk/spec.GateMended -/
noncomputable def X15 : Cx C := { K := KK, tk := lk tks, con := lkC [(39, con39), (47, con47), (48, con48)], conw := lkC [], inl := lkA [], hold := [], mp := lk mps, meth := lkS meths, off := 983040 }
def F15 (n : Nat) : Cf := { N := n, keep := [0, 1, 2, 5, 6, 10], live := lk [] }
def dec15 (rs : List (Bool × List (Lf C))) : Option (VGateObject) := match rs with
  | [(true, [.str z0, .str z1, .str z2, .row .e9 z3, .bool z4, .row .e9 z5, .int .i64 z6])] => some ⟨z0, z1, z2, z3, z4, z5, z6⟩
  | _ => none
noncomputable def G15n (n : Nat) (a0 : List (C .e81)) (a1 : List (C .e83)) (a2 : VGateObject) : Option (VGateObject) :=
      Option.bind (G39 a0 a1) fun r1 =>
      cond (!r1)
      (Option.bind (G47 a2) fun r2 =>
      some (r2))
      (Option.bind (G48 a0 a1 a2) fun r3 =>
      some (r3))
theorem t15 (n : Nat) (a0 : List (C .e81)) (a1 : List (C .e83)) (a2 : VGateObject) : runFn X15 (F15 n) Go.Proofs.Try.f15 [.one (.row .e81 a0), .one (.row .e83 a1), .agg [.str a2.Kind, .str a2.Name, .str a2.Team, .row .e9 a2.Values, .bool a2.Ending, .row .e9 a2.Holds, .int .i64 a2.Version]] dec15 = G15n n a0 a1 a2 := by
  kernel_rfl
noncomputable def G15 (a0 : List (C .e81)) (a1 : List (C .e83)) (a2 : VGateObject) : Option (VGateObject) := G15n fuel a0 a1 a2
noncomputable def con15 : Con C := { R0 := VGateObject, ret := fun r => [(true, [.str r.Kind, .str r.Name, .str r.Team, .row .e9 r.Values, .bool r.Ending, .row .e9 r.Holds, .int .i64 r.Version])], g := fun vs => match vs with
  | [.one (.row .e81 y0), .one (.row .e83 y1), .agg [.str y2_0, .str y2_1, .str y2_2, .row .e9 y2_3, .bool y2_4, .row .e9 y2_5, .int .i64 y2_6]] => G15 y0 y1 ⟨y2_0, y2_1, y2_2, y2_3, y2_4, y2_5, y2_6⟩
  | _ => none }
theorem x15 : XOk Go.Proofs.Try.prog X15 := ⟨tks_ok, els_ok, mps_ok, meths_ok⟩
theorem q15 : Cons Go.Proofs.Try.prog X15 := ⟨lkR_ok (l := [(39, con39), (47, con47), (48, con48)]) ⟨c39, c47, c48, trivial⟩, lkW_ok (l := []) trivial, lkI_ok (l := []) trivial⟩
theorem c15 : ConOk Go.Proofs.Try.prog KK 15 con15 := by
  refine con_dec x15 q15 (by kernel_rfl) (f := 15) (fn := Go.Proofs.Try.f15) (c := bodyOf Go.Proofs.Try.f15) (by kernel_rfl) (by kernel_rfl) (by kernel_rfl) (nameB (by kernel_rfl)) con15 dec15 (fun rs r0 h => ?_) (fun vs r0 h => ?_)
  · unfold dec15 at h
    split at h
    · cases h; rfl
    · cases h
  · simp only [con15] at h
    split at h
    · rename_i y0 y1 y2_0 y2_1 y2_2 y2_3 y2_4 y2_5 y2_6
      exact ⟨Nat.le_of_ble_eq_true (by kernel_rfl), F15 fuel, (t15 fuel y0 y1 ⟨y2_0, y2_1, y2_2, y2_3, y2_4, y2_5, y2_6⟩).trans h⟩
    · cases h
/-! ### f91 loop.example/wharfdesk/spec.l2Fill -/
noncomputable def X91 (n : Nat) : Cx C := { K := KK, tk := lk tks, con := lkC [(47, con47)], conw := lkC [], inl := lkA [(82, I82 n)], hold := [4, 5, 6, 7, 11, 14, 15, 16], mp := lk mps, meth := lkS meths, off := 5963776 }
def F91 (n : Nat) : Cf := { N := n, keep := [0, 1, 3, 4, 5, 6, 7, 8, 18, 23, 31], live := lk [(0, [4, 5, 6, 8])] }
def dec91 (rs : List (Bool × List (Lf C))) : Option (VGateObject) := match rs with
  | [(true, [.str z0, .str z1, .str z2, .row .e9 z3, .bool z4, .row .e9 z5, .int .i64 z6])] => some ⟨z0, z1, z2, z3, z4, z5, z6⟩
  | _ => none
abbrev A91_0 : Type := List (C .e100) × Int × ByteArray × ByteArray × ByteArray × List (C .e9) × Bool × List (C .e9) × Int × ByteArray × ByteArray × ByteArray × List (C .e9) × Bool × List (C .e9) × Int
def s91_0 : A91_0 → St C := fun (x0_0, x0_1, x0_2, x0_3, x0_4, x0_5, x0_6, x0_7, x0_8, x0_9, x0_10, x0_11, x0_12, x0_13, x0_14, x0_15) => { env := [(4, .one (.ptr 5964032 0)), (5, .one (.ptr 5964096 0)), (6, .one (.row .e100 x0_0)), (8, .one (.int .i64 x0_1))], objs := [(5964032, .box .mem [.str x0_2, .str x0_3, .str x0_4, .ref 597403203 [], .bool x0_6, .ref 597403205 [], .int .i64 x0_8]), (597403203, .row .e9 x0_5 false), (597403205, .row .e9 x0_7 false), (5964096, .box .mem [.str x0_9, .str x0_10, .str x0_11, .ref 597409603 [], .bool x0_13, .ref 597409605 [], .int .i64 x0_15]), (597409603, .row .e9 x0_12 false), (597409605, .row .e9 x0_14 false)], base := 0 }
noncomputable def r91_0 (n : Nat)  (rec0 : A91_0 → Option (VGateObject)) : A91_0 → Option (VGateObject) := fun (x0_0, x0_1, x0_2, x0_3, x0_4, x0_5, x0_6, x0_7, x0_8, x0_9, x0_10, x0_11, x0_12, x0_13, x0_14, x0_15) =>
      cond (decide (x0_1 < (x0_0.length : Int)))
      (cond (decide (0 ≤ x0_1)) (cond (decide (x0_1 < (x0_12.length : Int))) (Option.bind x0_12[x0_1.toNat]? fun x5 => cond (decide (x5 = (⟨#[]⟩ : ByteArray)))
      (cond (decide (0 ≤ x0_1)) (Option.bind x0_0[x0_1.toNat]? fun x6 => cond (decide (0 ≤ x0_1)) (cond (decide (x0_1 < (x0_12.length : Int))) (Option.bind x0_12[x0_1.toNat]? fun x7 => rec0 (x0_0, IntKind.i64.wrap (x0_1 + 1), x0_2, x0_3, x0_4, x0_5, x0_6, x0_7, x0_8, x0_9, x0_10, x0_11, x0_12.set x0_1.toNat x6.Default, x0_13, x0_14, x0_15)) none) none) none)
      (rec0 (x0_0, IntKind.i64.wrap (x0_1 + 1), x0_2, x0_3, x0_4, x0_5, x0_6, x0_7, x0_8, x0_9, x0_10, x0_11, x0_12, x0_13, x0_14, x0_15))) none) none)
      (some ((⟨x0_9, x0_10, x0_11, x0_12, x0_13, x0_14, x0_15⟩ : VGateObject)))
noncomputable def LP91_0 (n : Nat)  (x : A91_0) : Option (VGateObject) := lpN (r91_0 n ) n x
noncomputable def MP91_0 (n : Nat)  (x : A91_0) : Option (VGateObject) := iter (fun rec S => run (X91 n) (F91 n) (codeAt (bodyOf Go.Proofs.Try.f91) [1, 1, 1, 1, 0, 1, 0, 0]) 0 S (lopK rec (blkK 0 (seqK (run (X91 n) (F91 n) (codeAt (bodyOf Go.Proofs.Try.f91) [1, 1, 1, 1, 1]) 0) (kTop (X91 n) Go.Proofs.Try.f91 dec91))))) [4, 5, 6, 8] n (s91_0 x)
theorem m91_0 (n : Nat)  (x : A91_0) : MP91_0 n  x = LP91_0 n  x := by
  refine iter_eq s91_0 (r91_0 n ) (fun rec0 x => ?_) n x
  obtain ⟨x0_0, x0_1, x0_2, x0_3, x0_4, x0_5, x0_6, x0_7, x0_8, x0_9, x0_10, x0_11, x0_12, x0_13, x0_14, x0_15⟩ := x
  kernel_rfl
noncomputable def G91n (n : Nat) (a0 : List (C .e81)) (a1 : VGateObject) : Option (VGateObject) :=
      Option.bind (G47 a1) fun r1 =>
      Option.bind (G83 a0 a1.Kind) fun r2 =>
      cond (decide (r2 < 0))
      (some (r1))
      (cond (decide (0 ≤ r2)) (Option.bind a0[r2.toNat]? fun x3 => cond ((x3.Fields.length : Int) != (a1.Values.length : Int))
      (some (r1))
      (cond (decide (0 ≤ r2)) (Option.bind a0[r2.toNat]? fun x4 => LP91_0 n  (x4.Fields, 0, (⟨#[]⟩ : ByteArray), (⟨#[]⟩ : ByteArray), (⟨#[]⟩ : ByteArray), ([] : List (C .e9)), false, ([] : List (C .e9)), 0, r1.Kind, r1.Name, r1.Team, r1.Values, r1.Ending, r1.Holds, r1.Version)) none)) none)
theorem t91 (n : Nat) (a0 : List (C .e81)) (a1 : VGateObject) : runFn (X91 n) (F91 n) Go.Proofs.Try.f91 [.one (.row .e81 a0), .agg [.str a1.Kind, .str a1.Name, .str a1.Team, .row .e9 a1.Values, .bool a1.Ending, .row .e9 a1.Holds, .int .i64 a1.Version]] dec91 = G91n n a0 a1 := by
  have h : runFn (X91 n) (F91 n) Go.Proofs.Try.f91 [.one (.row .e81 a0), .agg [.str a1.Kind, .str a1.Name, .str a1.Team, .row .e9 a1.Values, .bool a1.Ending, .row .e9 a1.Holds, .int .i64 a1.Version]] dec91 =
      Option.bind (G47 a1) fun r1 =>
      Option.bind (G83 a0 a1.Kind) fun r2 =>
      cond (decide (r2 < 0))
      (some (r1))
      (cond (decide (0 ≤ r2)) (Option.bind a0[r2.toNat]? fun x3 => cond ((x3.Fields.length : Int) != (a1.Values.length : Int))
      (some (r1))
      (cond (decide (0 ≤ r2)) (Option.bind a0[r2.toNat]? fun x4 => MP91_0 n  (x4.Fields, 0, (⟨#[]⟩ : ByteArray), (⟨#[]⟩ : ByteArray), (⟨#[]⟩ : ByteArray), ([] : List (C .e9)), false, ([] : List (C .e9)), 0, r1.Kind, r1.Name, r1.Team, r1.Values, r1.Ending, r1.Holds, r1.Version)) none)) none) := by kernel_rfl
  simp only [h, G91n, m91_0]
noncomputable def G91 (a0 : List (C .e81)) (a1 : VGateObject) : Option (VGateObject) := G91n fuel a0 a1
noncomputable def con91 : Con C := { R0 := VGateObject, ret := fun r => [(true, [.str r.Kind, .str r.Name, .str r.Team, .row .e9 r.Values, .bool r.Ending, .row .e9 r.Holds, .int .i64 r.Version])], g := fun vs => match vs with
  | [.one (.row .e81 y0), .agg [.str y1_0, .str y1_1, .str y1_2, .row .e9 y1_3, .bool y1_4, .row .e9 y1_5, .int .i64 y1_6]] => G91 y0 ⟨y1_0, y1_1, y1_2, y1_3, y1_4, y1_5, y1_6⟩
  | _ => none }
theorem x91 (n : Nat) : XOk Go.Proofs.Try.prog (X91 n) := ⟨tks_ok, els_ok, mps_ok, meths_ok⟩
theorem q91 (n : Nat) : Cons Go.Proofs.Try.prog (X91 n) := ⟨lkR_ok (l := [(47, con47)]) ⟨c47, trivial⟩, lkW_ok (l := []) trivial, lkI_ok (l := [(82, I82 n)]) ⟨i82 n, trivial⟩⟩
theorem c91 : ConOk Go.Proofs.Try.prog KK 91 con91 := by
  refine con_dec (x91 fuel) (q91 fuel) (by kernel_rfl) (f := 91) (fn := Go.Proofs.Try.f91) (c := bodyOf Go.Proofs.Try.f91) (by kernel_rfl) (by kernel_rfl) (by kernel_rfl) (nameB (by kernel_rfl)) con91 dec91 (fun rs r0 h => ?_) (fun vs r0 h => ?_)
  · unfold dec91 at h
    split at h
    · cases h; rfl
    · cases h
  · simp only [con91] at h
    split at h
    · rename_i y0 y1_0 y1_1 y1_2 y1_3 y1_4 y1_5 y1_6
      exact ⟨Nat.le_of_ble_eq_true (by kernel_rfl), F91 fuel, (t91 fuel y0 ⟨y1_0, y1_1, y1_2, y1_3, y1_4, y1_5, y1_6⟩).trans h⟩
    · cases h
/-! ### f65 loop.example/wharfdesk/spec.l3Shaped -/
noncomputable def X65 : Cx C := { K := KK, tk := lk tks, con := lkC [(48, con48), (91, con91)], conw := lkC [], inl := lkA [], hold := [], mp := lk mps, meth := lkS meths, off := 4259840 }
def F65 (n : Nat) : Cf := { N := n, keep := [0, 1, 2, 5, 6], live := lk [] }
def dec65 (rs : List (Bool × List (Lf C))) : Option (VGateObject) := match rs with
  | [(true, [.str z0, .str z1, .str z2, .row .e9 z3, .bool z4, .row .e9 z5, .int .i64 z6])] => some ⟨z0, z1, z2, z3, z4, z5, z6⟩
  | _ => none
noncomputable def G65n (n : Nat) (a0 : List (C .e81)) (a1 : List (C .e83)) (a2 : VGateObject) : Option (VGateObject) :=
      Option.bind (G91 a0 a2) fun r1 =>
      Option.bind (G48 a0 a1 r1) fun r2 =>
      some (r2)
theorem t65 (n : Nat) (a0 : List (C .e81)) (a1 : List (C .e83)) (a2 : VGateObject) : runFn X65 (F65 n) Go.Proofs.Try.f65 [.one (.row .e81 a0), .one (.row .e83 a1), .agg [.str a2.Kind, .str a2.Name, .str a2.Team, .row .e9 a2.Values, .bool a2.Ending, .row .e9 a2.Holds, .int .i64 a2.Version]] dec65 = G65n n a0 a1 a2 := by
  kernel_rfl
noncomputable def G65 (a0 : List (C .e81)) (a1 : List (C .e83)) (a2 : VGateObject) : Option (VGateObject) := G65n fuel a0 a1 a2
noncomputable def con65 : Con C := { R0 := VGateObject, ret := fun r => [(true, [.str r.Kind, .str r.Name, .str r.Team, .row .e9 r.Values, .bool r.Ending, .row .e9 r.Holds, .int .i64 r.Version])], g := fun vs => match vs with
  | [.one (.row .e81 y0), .one (.row .e83 y1), .agg [.str y2_0, .str y2_1, .str y2_2, .row .e9 y2_3, .bool y2_4, .row .e9 y2_5, .int .i64 y2_6]] => G65 y0 y1 ⟨y2_0, y2_1, y2_2, y2_3, y2_4, y2_5, y2_6⟩
  | _ => none }
theorem x65 : XOk Go.Proofs.Try.prog X65 := ⟨tks_ok, els_ok, mps_ok, meths_ok⟩
theorem q65 : Cons Go.Proofs.Try.prog X65 := ⟨lkR_ok (l := [(48, con48), (91, con91)]) ⟨c48, c91, trivial⟩, lkW_ok (l := []) trivial, lkI_ok (l := []) trivial⟩
theorem c65 : ConOk Go.Proofs.Try.prog KK 65 con65 := by
  refine con_dec x65 q65 (by kernel_rfl) (f := 65) (fn := Go.Proofs.Try.f65) (c := bodyOf Go.Proofs.Try.f65) (by kernel_rfl) (by kernel_rfl) (by kernel_rfl) (nameB (by kernel_rfl)) con65 dec65 (fun rs r0 h => ?_) (fun vs r0 h => ?_)
  · unfold dec65 at h
    split at h
    · cases h; rfl
    · cases h
  · simp only [con65] at h
    split at h
    · rename_i y0 y1 y2_0 y2_1 y2_2 y2_3 y2_4 y2_5 y2_6
      exact ⟨Nat.le_of_ble_eq_true (by kernel_rfl), F65 fuel, (t65 fuel y0 y1 ⟨y2_0, y2_1, y2_2, y2_3, y2_4, y2_5, y2_6⟩).trans h⟩
    · cases h
/-! ### f27 loop.example/wharfdesk/spec.GateShaped -/
noncomputable def X27 : Cx C := { K := KK, tk := lk tks, con := lkC [(39, con39), (47, con47), (65, con65)], conw := lkC [], inl := lkA [], hold := [], mp := lk mps, meth := lkS meths, off := 1769472 }
def F27 (n : Nat) : Cf := { N := n, keep := [0, 1, 2, 5, 6, 10], live := lk [] }
def dec27 (rs : List (Bool × List (Lf C))) : Option (VGateObject) := match rs with
  | [(true, [.str z0, .str z1, .str z2, .row .e9 z3, .bool z4, .row .e9 z5, .int .i64 z6])] => some ⟨z0, z1, z2, z3, z4, z5, z6⟩
  | _ => none
noncomputable def G27n (n : Nat) (a0 : List (C .e81)) (a1 : List (C .e83)) (a2 : VGateObject) : Option (VGateObject) :=
      Option.bind (G39 a0 a1) fun r1 =>
      cond (!r1)
      (Option.bind (G47 a2) fun r2 =>
      some (r2))
      (Option.bind (G65 a0 a1 a2) fun r3 =>
      some (r3))
theorem t27 (n : Nat) (a0 : List (C .e81)) (a1 : List (C .e83)) (a2 : VGateObject) : runFn X27 (F27 n) Go.Proofs.Try.f27 [.one (.row .e81 a0), .one (.row .e83 a1), .agg [.str a2.Kind, .str a2.Name, .str a2.Team, .row .e9 a2.Values, .bool a2.Ending, .row .e9 a2.Holds, .int .i64 a2.Version]] dec27 = G27n n a0 a1 a2 := by
  kernel_rfl
noncomputable def G27 (a0 : List (C .e81)) (a1 : List (C .e83)) (a2 : VGateObject) : Option (VGateObject) := G27n fuel a0 a1 a2
noncomputable def con27 : Con C := { R0 := VGateObject, ret := fun r => [(true, [.str r.Kind, .str r.Name, .str r.Team, .row .e9 r.Values, .bool r.Ending, .row .e9 r.Holds, .int .i64 r.Version])], g := fun vs => match vs with
  | [.one (.row .e81 y0), .one (.row .e83 y1), .agg [.str y2_0, .str y2_1, .str y2_2, .row .e9 y2_3, .bool y2_4, .row .e9 y2_5, .int .i64 y2_6]] => G27 y0 y1 ⟨y2_0, y2_1, y2_2, y2_3, y2_4, y2_5, y2_6⟩
  | _ => none }
theorem x27 : XOk Go.Proofs.Try.prog X27 := ⟨tks_ok, els_ok, mps_ok, meths_ok⟩
theorem q27 : Cons Go.Proofs.Try.prog X27 := ⟨lkR_ok (l := [(39, con39), (47, con47), (65, con65)]) ⟨c39, c47, c65, trivial⟩, lkW_ok (l := []) trivial, lkI_ok (l := []) trivial⟩
theorem c27 : ConOk Go.Proofs.Try.prog KK 27 con27 := by
  refine con_dec x27 q27 (by kernel_rfl) (f := 27) (fn := Go.Proofs.Try.f27) (c := bodyOf Go.Proofs.Try.f27) (by kernel_rfl) (by kernel_rfl) (by kernel_rfl) (nameB (by kernel_rfl)) con27 dec27 (fun rs r0 h => ?_) (fun vs r0 h => ?_)
  · unfold dec27 at h
    split at h
    · cases h; rfl
    · cases h
  · simp only [con27] at h
    split at h
    · rename_i y0 y1 y2_0 y2_1 y2_2 y2_3 y2_4 y2_5 y2_6
      exact ⟨Nat.le_of_ble_eq_true (by kernel_rfl), F27 fuel, (t27 fuel y0 y1 ⟨y2_0, y2_1, y2_2, y2_3, y2_4, y2_5, y2_6⟩).trans h⟩
    · cases h
/-! ### f51 loop.example/wharfdesk/laws.toStringS -/
noncomputable def X51 : Cx C := { K := KK, tk := lk tks, con := lkC [], conw := lkC [], inl := lkA [], hold := [], mp := lk mps, meth := lkS meths, off := 3342336 }
def F51 (n : Nat) : Cf := { N := n, keep := [0, 2, 3, 4, 11], live := lk [(0, [0, 3, 4])] }
def dec51 (rs : List (Bool × List (Lf C))) : Option (List (C .e9)) := match rs with
  | [(false, [.row .e9 z0])] => some z0
  | _ => none
abbrev A51_0 : Type := List (C .e9) × List (C .e9) × Int
def s51_0 : A51_0 → St C := fun (x0_0, x0_1, x0_2) => { env := [(0, .one (.row .e9 x0_0)), (3, .one (.ref 100003 [])), (4, .one (.int .i64 x0_2))], objs := [(100003, .row .e9 x0_1 false)], base := 0 }
noncomputable def r51_0 (n : Nat)  (rec0 : A51_0 → Option (List (C .e9))) : A51_0 → Option (List (C .e9)) := fun (x0_0, x0_1, x0_2) =>
      cond (decide (x0_2 < (x0_0.length : Int)))
      (cond (decide (0 ≤ x0_2)) (Option.bind x0_0[x0_2.toNat]? fun x1 => cond (decide (0 ≤ x0_2)) (cond (decide (x0_2 < (x0_1.length : Int))) (Option.bind x0_1[x0_2.toNat]? fun x2 => rec0 (x0_0, x0_1.set x0_2.toNat x1, IntKind.i64.wrap (x0_2 + 1))) none) none) none)
      (some (x0_1))
noncomputable def LP51_0 (n : Nat)  (x : A51_0) : Option (List (C .e9)) := lpN (r51_0 n ) n x
noncomputable def MP51_0 (n : Nat)  (x : A51_0) : Option (List (C .e9)) := iter (fun rec S => run X51 (F51 n) (codeAt (bodyOf Go.Proofs.Try.f51) [1, 1, 0, 1, 0, 0]) 0 S (lopK rec (blkK 0 (seqK (run X51 (F51 n) (codeAt (bodyOf Go.Proofs.Try.f51) [1, 1, 1]) 0) (kTop X51 Go.Proofs.Try.f51 dec51))))) [0, 3, 4] n (s51_0 x)
theorem m51_0 (n : Nat)  (x : A51_0) : MP51_0 n  x = LP51_0 n  x := by
  refine iter_eq s51_0 (r51_0 n ) (fun rec0 x => ?_) n x
  obtain ⟨x0_0, x0_1, x0_2⟩ := x
  kernel_rfl
noncomputable def G51n (n : Nat) (a0 : List (C .e9)) : Option (List (C .e9)) :=
      cond (decide ((a0.length : Int) = (a0.length : Int))) (cond (decide (0 ≤ (a0.length : Int))) (cond (decide ((a0.length : Int) * 16 ≤ 140737488355328)) (LP51_0 n  (a0, List.replicate (a0.length : Int).toNat (⟨#[]⟩ : C .e9), 0)) none) none) none
theorem t51 (n : Nat) (a0 : List (C .e9)) : runFn X51 (F51 n) Go.Proofs.Try.f51 [.one (.row .e9 a0)] dec51 = G51n n a0 := by
  have h : runFn X51 (F51 n) Go.Proofs.Try.f51 [.one (.row .e9 a0)] dec51 =
      cond (decide ((a0.length : Int) = (a0.length : Int))) (cond (decide (0 ≤ (a0.length : Int))) (cond (decide ((a0.length : Int) * 16 ≤ 140737488355328)) (MP51_0 n  (a0, List.replicate (a0.length : Int).toNat (⟨#[]⟩ : C .e9), 0)) none) none) none := by kernel_rfl
  simp only [h, G51n, m51_0]
noncomputable def G51 (a0 : List (C .e9)) : Option (List (C .e9)) := G51n fuel a0
noncomputable def con51 : Con C := { R0 := List (C .e9), ret := fun r => [(false, [.row .e9 r])], g := fun vs => match vs with
  | [.one (.row .e9 y0)] => G51 y0
  | _ => none }
theorem x51 : XOk Go.Proofs.Try.prog X51 := ⟨tks_ok, els_ok, mps_ok, meths_ok⟩
theorem q51 : Cons Go.Proofs.Try.prog X51 := ⟨lkR_ok (l := []) trivial, lkW_ok (l := []) trivial, lkI_ok (l := []) trivial⟩
theorem c51 : ConOk Go.Proofs.Try.prog KK 51 con51 := by
  refine con_dec x51 q51 (by kernel_rfl) (f := 51) (fn := Go.Proofs.Try.f51) (c := bodyOf Go.Proofs.Try.f51) (by kernel_rfl) (by kernel_rfl) (by kernel_rfl) (nameB (by kernel_rfl)) con51 dec51 (fun rs r0 h => ?_) (fun vs r0 h => ?_)
  · unfold dec51 at h
    split at h
    · cases h; rfl
    · cases h
  · simp only [con51] at h
    split at h
    · rename_i y0
      exact ⟨Nat.le_of_ble_eq_true (by kernel_rfl), F51 fuel, (t51 fuel y0).trans h⟩
    · cases h
/-! ### f108 loop.example/wharfdesk/laws.toGateField -/
noncomputable def X108 : Cx C := { K := KK, tk := lk tks, con := lkC [(51, con51)], conw := lkC [], inl := lkA [], hold := [], mp := lk mps, meth := lkS meths, off := 7077888 }
def F108 (n : Nat) : Cf := { N := n, keep := [0, 1, 2, 3], live := lk [] }
def dec108 (rs : List (Bool × List (Lf C))) : Option (VGateField) := match rs with
  | [(true, [.str z0, .int .i64 z1, .int .i64 z2, .int .i64 z3, .row .e9 z4, .str z5, .int .i64 z6, .bool z7, .bool z8, .str z9, .str z10])] => some ⟨z0, z1, z2, z3, z4, z5, z6, z7, z8, z9, z10⟩
  | _ => none
noncomputable def G108n (n : Nat) (a0 : VGateField) : Option (VGateField) :=
      Option.bind (G51 a0.Words) fun r1 =>
      some ((⟨a0.Name, a0.Kind, a0.Least, a0.Most, r1, a0.To, a0.Role, a0.Must, a0.Fixed, a0.Default, a0.Weighs⟩ : VGateField))
theorem t108 (n : Nat) (a0 : VGateField) : runFn X108 (F108 n) Go.Proofs.Try.f108 [.agg [.str a0.Name, .int .i64 a0.Kind, .int .i64 a0.Least, .int .i64 a0.Most, .row .e9 a0.Words, .str a0.To, .int .i64 a0.Role, .bool a0.Must, .bool a0.Fixed, .str a0.Default, .str a0.Weighs]] dec108 = G108n n a0 := by
  kernel_rfl
noncomputable def G108 (a0 : VGateField) : Option (VGateField) := G108n fuel a0
noncomputable def con108 : Con C := { R0 := VGateField, ret := fun r => [(true, [.str r.Name, .int .i64 r.Kind, .int .i64 r.Least, .int .i64 r.Most, .row .e9 r.Words, .str r.To, .int .i64 r.Role, .bool r.Must, .bool r.Fixed, .str r.Default, .str r.Weighs])], g := fun vs => match vs with
  | [.agg [.str y0_0, .int .i64 y0_1, .int .i64 y0_2, .int .i64 y0_3, .row .e9 y0_4, .str y0_5, .int .i64 y0_6, .bool y0_7, .bool y0_8, .str y0_9, .str y0_10]] => G108 ⟨y0_0, y0_1, y0_2, y0_3, y0_4, y0_5, y0_6, y0_7, y0_8, y0_9, y0_10⟩
  | _ => none }
theorem x108 : XOk Go.Proofs.Try.prog X108 := ⟨tks_ok, els_ok, mps_ok, meths_ok⟩
theorem q108 : Cons Go.Proofs.Try.prog X108 := ⟨lkR_ok (l := [(51, con51)]) ⟨c51, trivial⟩, lkW_ok (l := []) trivial, lkI_ok (l := []) trivial⟩
theorem c108 : ConOk Go.Proofs.Try.prog KK 108 con108 := by
  refine con_dec x108 q108 (by kernel_rfl) (f := 108) (fn := Go.Proofs.Try.f108) (c := bodyOf Go.Proofs.Try.f108) (by kernel_rfl) (by kernel_rfl) (by kernel_rfl) (nameB (by kernel_rfl)) con108 dec108 (fun rs r0 h => ?_) (fun vs r0 h => ?_)
  · unfold dec108 at h
    split at h
    · cases h; rfl
    · cases h
  · simp only [con108] at h
    split at h
    · rename_i y0_0 y0_1 y0_2 y0_3 y0_4 y0_5 y0_6 y0_7 y0_8 y0_9 y0_10
      exact ⟨Nat.le_of_ble_eq_true (by kernel_rfl), F108 fuel, (t108 fuel ⟨y0_0, y0_1, y0_2, y0_3, y0_4, y0_5, y0_6, y0_7, y0_8, y0_9, y0_10⟩).trans h⟩
    · cases h
/-! ### f86 loop.example/wharfdesk/laws.toGateFieldS -/
noncomputable def X86 : Cx C := { K := KK, tk := lk tks, con := lkC [(108, con108)], conw := lkC [], inl := lkA [], hold := [], mp := lk mps, meth := lkS meths, off := 5636096 }
def F86 (n : Nat) : Cf := { N := n, keep := [0, 2, 3, 4, 11], live := lk [(0, [0, 3, 4])] }
def dec86 (rs : List (Bool × List (Lf C))) : Option (List (C .e100)) := match rs with
  | [(false, [.row .e100 z0])] => some z0
  | _ => none
abbrev A86_0 : Type := List (C .e134) × List (C .e100) × Int
def s86_0 : A86_0 → St C := fun (x0_0, x0_1, x0_2) => { env := [(0, .one (.row .e134 x0_0)), (3, .one (.ref 100003 [])), (4, .one (.int .i64 x0_2))], objs := [(100003, .row .e100 x0_1 false)], base := 0 }
noncomputable def r86_0 (n : Nat)  (rec0 : A86_0 → Option (List (C .e100))) : A86_0 → Option (List (C .e100)) := fun (x0_0, x0_1, x0_2) =>
      cond (decide (x0_2 < (x0_0.length : Int)))
      (cond (decide (0 ≤ x0_2)) (Option.bind x0_0[x0_2.toNat]? fun x1 => Option.bind (G108 x1) fun r2 =>
      cond (decide (0 ≤ x0_2)) (cond (decide (x0_2 < (x0_1.length : Int))) (Option.bind x0_1[x0_2.toNat]? fun x3 => rec0 (x0_0, x0_1.set x0_2.toNat r2, IntKind.i64.wrap (x0_2 + 1))) none) none) none)
      (some (x0_1))
noncomputable def LP86_0 (n : Nat)  (x : A86_0) : Option (List (C .e100)) := lpN (r86_0 n ) n x
noncomputable def MP86_0 (n : Nat)  (x : A86_0) : Option (List (C .e100)) := iter (fun rec S => run X86 (F86 n) (codeAt (bodyOf Go.Proofs.Try.f86) [1, 1, 0, 1, 0, 0]) 0 S (lopK rec (blkK 0 (seqK (run X86 (F86 n) (codeAt (bodyOf Go.Proofs.Try.f86) [1, 1, 1]) 0) (kTop X86 Go.Proofs.Try.f86 dec86))))) [0, 3, 4] n (s86_0 x)
theorem m86_0 (n : Nat)  (x : A86_0) : MP86_0 n  x = LP86_0 n  x := by
  refine iter_eq s86_0 (r86_0 n ) (fun rec0 x => ?_) n x
  obtain ⟨x0_0, x0_1, x0_2⟩ := x
  kernel_rfl
noncomputable def G86n (n : Nat) (a0 : List (C .e134)) : Option (List (C .e100)) :=
      cond (decide ((a0.length : Int) = (a0.length : Int))) (cond (decide (0 ≤ (a0.length : Int))) (cond (decide ((a0.length : Int) * 128 ≤ 140737488355328)) (LP86_0 n  (a0, List.replicate (a0.length : Int).toNat (⟨⟨#[]⟩, 0, 0, 0, [], ⟨#[]⟩, 0, false, false, ⟨#[]⟩, ⟨#[]⟩⟩ : C .e100), 0)) none) none) none
theorem t86 (n : Nat) (a0 : List (C .e134)) : runFn X86 (F86 n) Go.Proofs.Try.f86 [.one (.row .e134 a0)] dec86 = G86n n a0 := by
  have h : runFn X86 (F86 n) Go.Proofs.Try.f86 [.one (.row .e134 a0)] dec86 =
      cond (decide ((a0.length : Int) = (a0.length : Int))) (cond (decide (0 ≤ (a0.length : Int))) (cond (decide ((a0.length : Int) * 128 ≤ 140737488355328)) (MP86_0 n  (a0, List.replicate (a0.length : Int).toNat (⟨⟨#[]⟩, 0, 0, 0, [], ⟨#[]⟩, 0, false, false, ⟨#[]⟩, ⟨#[]⟩⟩ : C .e100), 0)) none) none) none := by kernel_rfl
  simp only [h, G86n, m86_0]
noncomputable def G86 (a0 : List (C .e134)) : Option (List (C .e100)) := G86n fuel a0
noncomputable def con86 : Con C := { R0 := List (C .e100), ret := fun r => [(false, [.row .e100 r])], g := fun vs => match vs with
  | [.one (.row .e134 y0)] => G86 y0
  | _ => none }
theorem x86 : XOk Go.Proofs.Try.prog X86 := ⟨tks_ok, els_ok, mps_ok, meths_ok⟩
theorem q86 : Cons Go.Proofs.Try.prog X86 := ⟨lkR_ok (l := [(108, con108)]) ⟨c108, trivial⟩, lkW_ok (l := []) trivial, lkI_ok (l := []) trivial⟩
theorem c86 : ConOk Go.Proofs.Try.prog KK 86 con86 := by
  refine con_dec x86 q86 (by kernel_rfl) (f := 86) (fn := Go.Proofs.Try.f86) (c := bodyOf Go.Proofs.Try.f86) (by kernel_rfl) (by kernel_rfl) (by kernel_rfl) (nameB (by kernel_rfl)) con86 dec86 (fun rs r0 h => ?_) (fun vs r0 h => ?_)
  · unfold dec86 at h
    split at h
    · cases h; rfl
    · cases h
  · simp only [con86] at h
    split at h
    · rename_i y0
      exact ⟨Nat.le_of_ble_eq_true (by kernel_rfl), F86 fuel, (t86 fuel y0).trans h⟩
    · cases h
/-! ### f49 loop.example/wharfdesk/laws.toGateShape -/
noncomputable def X49 : Cx C := { K := KK, tk := lk tks, con := lkC [(86, con86)], conw := lkC [], inl := lkA [], hold := [], mp := lk mps, meth := lkS meths, off := 3211264 }
def F49 (n : Nat) : Cf := { N := n, keep := [0, 1, 2, 3], live := lk [] }
def dec49 (rs : List (Bool × List (Lf C))) : Option (VGateShape) := match rs with
  | [(true, [.str z0, .row .e100 z1])] => some ⟨z0, z1⟩
  | _ => none
noncomputable def G49n (n : Nat) (a0 : VGateShape) : Option (VGateShape) :=
      Option.bind (G86 a0.Fields) fun r1 =>
      some ((⟨a0.Kind, r1⟩ : VGateShape))
theorem t49 (n : Nat) (a0 : VGateShape) : runFn X49 (F49 n) Go.Proofs.Try.f49 [.agg [.str a0.Kind, .row .e134 a0.Fields]] dec49 = G49n n a0 := by
  kernel_rfl
noncomputable def G49 (a0 : VGateShape) : Option (VGateShape) := G49n fuel a0
noncomputable def con49 : Con C := { R0 := VGateShape, ret := fun r => [(true, [.str r.Kind, .row .e100 r.Fields])], g := fun vs => match vs with
  | [.agg [.str y0_0, .row .e134 y0_1]] => G49 ⟨y0_0, y0_1⟩
  | _ => none }
theorem x49 : XOk Go.Proofs.Try.prog X49 := ⟨tks_ok, els_ok, mps_ok, meths_ok⟩
theorem q49 : Cons Go.Proofs.Try.prog X49 := ⟨lkR_ok (l := [(86, con86)]) ⟨c86, trivial⟩, lkW_ok (l := []) trivial, lkI_ok (l := []) trivial⟩
theorem c49 : ConOk Go.Proofs.Try.prog KK 49 con49 := by
  refine con_dec x49 q49 (by kernel_rfl) (f := 49) (fn := Go.Proofs.Try.f49) (c := bodyOf Go.Proofs.Try.f49) (by kernel_rfl) (by kernel_rfl) (by kernel_rfl) (nameB (by kernel_rfl)) con49 dec49 (fun rs r0 h => ?_) (fun vs r0 h => ?_)
  · unfold dec49 at h
    split at h
    · cases h; rfl
    · cases h
  · simp only [con49] at h
    split at h
    · rename_i y0_0 y0_1
      exact ⟨Nat.le_of_ble_eq_true (by kernel_rfl), F49 fuel, (t49 fuel ⟨y0_0, y0_1⟩).trans h⟩
    · cases h
/-! ### f16 loop.example/wharfdesk/laws.toGateShapeS -/
noncomputable def X16 : Cx C := { K := KK, tk := lk tks, con := lkC [(49, con49)], conw := lkC [], inl := lkA [], hold := [], mp := lk mps, meth := lkS meths, off := 1048576 }
def F16 (n : Nat) : Cf := { N := n, keep := [0, 2, 3, 4, 11], live := lk [(0, [0, 3, 4])] }
def dec16 (rs : List (Bool × List (Lf C))) : Option (List (C .e81)) := match rs with
  | [(false, [.row .e81 z0])] => some z0
  | _ => none
abbrev A16_0 : Type := List (C .e74) × List (C .e81) × Int
def s16_0 : A16_0 → St C := fun (x0_0, x0_1, x0_2) => { env := [(0, .one (.row .e74 x0_0)), (3, .one (.ref 100003 [])), (4, .one (.int .i64 x0_2))], objs := [(100003, .row .e81 x0_1 false)], base := 0 }
noncomputable def r16_0 (n : Nat)  (rec0 : A16_0 → Option (List (C .e81))) : A16_0 → Option (List (C .e81)) := fun (x0_0, x0_1, x0_2) =>
      cond (decide (x0_2 < (x0_0.length : Int)))
      (cond (decide (0 ≤ x0_2)) (Option.bind x0_0[x0_2.toNat]? fun x1 => Option.bind (G49 x1) fun r2 =>
      cond (decide (0 ≤ x0_2)) (cond (decide (x0_2 < (x0_1.length : Int))) (Option.bind x0_1[x0_2.toNat]? fun x3 => rec0 (x0_0, x0_1.set x0_2.toNat r2, IntKind.i64.wrap (x0_2 + 1))) none) none) none)
      (some (x0_1))
noncomputable def LP16_0 (n : Nat)  (x : A16_0) : Option (List (C .e81)) := lpN (r16_0 n ) n x
noncomputable def MP16_0 (n : Nat)  (x : A16_0) : Option (List (C .e81)) := iter (fun rec S => run X16 (F16 n) (codeAt (bodyOf Go.Proofs.Try.f16) [1, 1, 0, 1, 0, 0]) 0 S (lopK rec (blkK 0 (seqK (run X16 (F16 n) (codeAt (bodyOf Go.Proofs.Try.f16) [1, 1, 1]) 0) (kTop X16 Go.Proofs.Try.f16 dec16))))) [0, 3, 4] n (s16_0 x)
theorem m16_0 (n : Nat)  (x : A16_0) : MP16_0 n  x = LP16_0 n  x := by
  refine iter_eq s16_0 (r16_0 n ) (fun rec0 x => ?_) n x
  obtain ⟨x0_0, x0_1, x0_2⟩ := x
  kernel_rfl
noncomputable def G16n (n : Nat) (a0 : List (C .e74)) : Option (List (C .e81)) :=
      cond (decide ((a0.length : Int) = (a0.length : Int))) (cond (decide (0 ≤ (a0.length : Int))) (cond (decide ((a0.length : Int) * 40 ≤ 140737488355328)) (LP16_0 n  (a0, List.replicate (a0.length : Int).toNat (⟨⟨#[]⟩, []⟩ : C .e81), 0)) none) none) none
theorem t16 (n : Nat) (a0 : List (C .e74)) : runFn X16 (F16 n) Go.Proofs.Try.f16 [.one (.row .e74 a0)] dec16 = G16n n a0 := by
  have h : runFn X16 (F16 n) Go.Proofs.Try.f16 [.one (.row .e74 a0)] dec16 =
      cond (decide ((a0.length : Int) = (a0.length : Int))) (cond (decide (0 ≤ (a0.length : Int))) (cond (decide ((a0.length : Int) * 40 ≤ 140737488355328)) (MP16_0 n  (a0, List.replicate (a0.length : Int).toNat (⟨⟨#[]⟩, []⟩ : C .e81), 0)) none) none) none := by kernel_rfl
  simp only [h, G16n, m16_0]
noncomputable def G16 (a0 : List (C .e74)) : Option (List (C .e81)) := G16n fuel a0
noncomputable def con16 : Con C := { R0 := List (C .e81), ret := fun r => [(false, [.row .e81 r])], g := fun vs => match vs with
  | [.one (.row .e74 y0)] => G16 y0
  | _ => none }
theorem x16 : XOk Go.Proofs.Try.prog X16 := ⟨tks_ok, els_ok, mps_ok, meths_ok⟩
theorem q16 : Cons Go.Proofs.Try.prog X16 := ⟨lkR_ok (l := [(49, con49)]) ⟨c49, trivial⟩, lkW_ok (l := []) trivial, lkI_ok (l := []) trivial⟩
theorem c16 : ConOk Go.Proofs.Try.prog KK 16 con16 := by
  refine con_dec x16 q16 (by kernel_rfl) (f := 16) (fn := Go.Proofs.Try.f16) (c := bodyOf Go.Proofs.Try.f16) (by kernel_rfl) (by kernel_rfl) (by kernel_rfl) (nameB (by kernel_rfl)) con16 dec16 (fun rs r0 h => ?_) (fun vs r0 h => ?_)
  · unfold dec16 at h
    split at h
    · cases h; rfl
    · cases h
  · simp only [con16] at h
    split at h
    · rename_i y0
      exact ⟨Nat.le_of_ble_eq_true (by kernel_rfl), F16 fuel, (t16 fuel y0).trans h⟩
    · cases h
/-! ### f50 loop.example/wharfdesk/laws.toGateMend -/
noncomputable def X50 : Cx C := { K := KK, tk := lk tks, con := lkC [], conw := lkC [], inl := lkA [], hold := [], mp := lk mps, meth := lkS meths, off := 3276800 }
def F50 (n : Nat) : Cf := { N := n, keep := [0, 1, 2, 3], live := lk [] }
def dec50 (rs : List (Bool × List (Lf C))) : Option (VGateMend) := match rs with
  | [(true, [.str z0, .str z1, .str z2, .str z3, .str z4, .str z5])] => some ⟨z0, z1, z2, z3, z4, z5⟩
  | _ => none
noncomputable def G50n (n : Nat) (a0 : VGateMend) : Option (VGateMend) :=
      some (a0)
theorem t50 (n : Nat) (a0 : VGateMend) : runFn X50 (F50 n) Go.Proofs.Try.f50 [.agg [.str a0.Kind, .str a0.Field, .str a0.When, .str a0.Is, .str a0.Put, .str a0.From]] dec50 = G50n n a0 := by
  kernel_rfl
noncomputable def G50 (a0 : VGateMend) : Option (VGateMend) := G50n fuel a0
noncomputable def con50 : Con C := { R0 := VGateMend, ret := fun r => [(true, [.str r.Kind, .str r.Field, .str r.When, .str r.Is, .str r.Put, .str r.From])], g := fun vs => match vs with
  | [.agg [.str y0_0, .str y0_1, .str y0_2, .str y0_3, .str y0_4, .str y0_5]] => G50 ⟨y0_0, y0_1, y0_2, y0_3, y0_4, y0_5⟩
  | _ => none }
theorem x50 : XOk Go.Proofs.Try.prog X50 := ⟨tks_ok, els_ok, mps_ok, meths_ok⟩
theorem q50 : Cons Go.Proofs.Try.prog X50 := ⟨lkR_ok (l := []) trivial, lkW_ok (l := []) trivial, lkI_ok (l := []) trivial⟩
theorem c50 : ConOk Go.Proofs.Try.prog KK 50 con50 := by
  refine con_dec x50 q50 (by kernel_rfl) (f := 50) (fn := Go.Proofs.Try.f50) (c := bodyOf Go.Proofs.Try.f50) (by kernel_rfl) (by kernel_rfl) (by kernel_rfl) (nameB (by kernel_rfl)) con50 dec50 (fun rs r0 h => ?_) (fun vs r0 h => ?_)
  · unfold dec50 at h
    split at h
    · cases h; rfl
    · cases h
  · simp only [con50] at h
    split at h
    · rename_i y0_0 y0_1 y0_2 y0_3 y0_4 y0_5
      exact ⟨Nat.le_of_ble_eq_true (by kernel_rfl), F50 fuel, (t50 fuel ⟨y0_0, y0_1, y0_2, y0_3, y0_4, y0_5⟩).trans h⟩
    · cases h
/-! ### f17 loop.example/wharfdesk/laws.toGateMendS -/
noncomputable def X17 : Cx C := { K := KK, tk := lk tks, con := lkC [(50, con50)], conw := lkC [], inl := lkA [], hold := [], mp := lk mps, meth := lkS meths, off := 1114112 }
def F17 (n : Nat) : Cf := { N := n, keep := [0, 2, 3, 4, 11], live := lk [(0, [0, 3, 4])] }
def dec17 (rs : List (Bool × List (Lf C))) : Option (List (C .e83)) := match rs with
  | [(false, [.row .e83 z0])] => some z0
  | _ => none
abbrev A17_0 : Type := List (C .e77) × List (C .e83) × Int
def s17_0 : A17_0 → St C := fun (x0_0, x0_1, x0_2) => { env := [(0, .one (.row .e77 x0_0)), (3, .one (.ref 100003 [])), (4, .one (.int .i64 x0_2))], objs := [(100003, .row .e83 x0_1 false)], base := 0 }
noncomputable def r17_0 (n : Nat)  (rec0 : A17_0 → Option (List (C .e83))) : A17_0 → Option (List (C .e83)) := fun (x0_0, x0_1, x0_2) =>
      cond (decide (x0_2 < (x0_0.length : Int)))
      (cond (decide (0 ≤ x0_2)) (Option.bind x0_0[x0_2.toNat]? fun x1 => Option.bind (G50 x1) fun r2 =>
      cond (decide (0 ≤ x0_2)) (cond (decide (x0_2 < (x0_1.length : Int))) (Option.bind x0_1[x0_2.toNat]? fun x3 => rec0 (x0_0, x0_1.set x0_2.toNat r2, IntKind.i64.wrap (x0_2 + 1))) none) none) none)
      (some (x0_1))
noncomputable def LP17_0 (n : Nat)  (x : A17_0) : Option (List (C .e83)) := lpN (r17_0 n ) n x
noncomputable def MP17_0 (n : Nat)  (x : A17_0) : Option (List (C .e83)) := iter (fun rec S => run X17 (F17 n) (codeAt (bodyOf Go.Proofs.Try.f17) [1, 1, 0, 1, 0, 0]) 0 S (lopK rec (blkK 0 (seqK (run X17 (F17 n) (codeAt (bodyOf Go.Proofs.Try.f17) [1, 1, 1]) 0) (kTop X17 Go.Proofs.Try.f17 dec17))))) [0, 3, 4] n (s17_0 x)
theorem m17_0 (n : Nat)  (x : A17_0) : MP17_0 n  x = LP17_0 n  x := by
  refine iter_eq s17_0 (r17_0 n ) (fun rec0 x => ?_) n x
  obtain ⟨x0_0, x0_1, x0_2⟩ := x
  kernel_rfl
noncomputable def G17n (n : Nat) (a0 : List (C .e77)) : Option (List (C .e83)) :=
      cond (decide ((a0.length : Int) = (a0.length : Int))) (cond (decide (0 ≤ (a0.length : Int))) (cond (decide ((a0.length : Int) * 96 ≤ 140737488355328)) (LP17_0 n  (a0, List.replicate (a0.length : Int).toNat (⟨⟨#[]⟩, ⟨#[]⟩, ⟨#[]⟩, ⟨#[]⟩, ⟨#[]⟩, ⟨#[]⟩⟩ : C .e83), 0)) none) none) none
theorem t17 (n : Nat) (a0 : List (C .e77)) : runFn X17 (F17 n) Go.Proofs.Try.f17 [.one (.row .e77 a0)] dec17 = G17n n a0 := by
  have h : runFn X17 (F17 n) Go.Proofs.Try.f17 [.one (.row .e77 a0)] dec17 =
      cond (decide ((a0.length : Int) = (a0.length : Int))) (cond (decide (0 ≤ (a0.length : Int))) (cond (decide ((a0.length : Int) * 96 ≤ 140737488355328)) (MP17_0 n  (a0, List.replicate (a0.length : Int).toNat (⟨⟨#[]⟩, ⟨#[]⟩, ⟨#[]⟩, ⟨#[]⟩, ⟨#[]⟩, ⟨#[]⟩⟩ : C .e83), 0)) none) none) none := by kernel_rfl
  simp only [h, G17n, m17_0]
noncomputable def G17 (a0 : List (C .e77)) : Option (List (C .e83)) := G17n fuel a0
noncomputable def con17 : Con C := { R0 := List (C .e83), ret := fun r => [(false, [.row .e83 r])], g := fun vs => match vs with
  | [.one (.row .e77 y0)] => G17 y0
  | _ => none }
theorem x17 : XOk Go.Proofs.Try.prog X17 := ⟨tks_ok, els_ok, mps_ok, meths_ok⟩
theorem q17 : Cons Go.Proofs.Try.prog X17 := ⟨lkR_ok (l := [(50, con50)]) ⟨c50, trivial⟩, lkW_ok (l := []) trivial, lkI_ok (l := []) trivial⟩
theorem c17 : ConOk Go.Proofs.Try.prog KK 17 con17 := by
  refine con_dec x17 q17 (by kernel_rfl) (f := 17) (fn := Go.Proofs.Try.f17) (c := bodyOf Go.Proofs.Try.f17) (by kernel_rfl) (by kernel_rfl) (by kernel_rfl) (nameB (by kernel_rfl)) con17 dec17 (fun rs r0 h => ?_) (fun vs r0 h => ?_)
  · unfold dec17 at h
    split at h
    · cases h; rfl
    · cases h
  · simp only [con17] at h
    split at h
    · rename_i y0
      exact ⟨Nat.le_of_ble_eq_true (by kernel_rfl), F17 fuel, (t17 fuel y0).trans h⟩
    · cases h
/-! ### f18 loop.example/wharfdesk/laws.toGateObject -/
noncomputable def X18 : Cx C := { K := KK, tk := lk tks, con := lkC [(51, con51)], conw := lkC [], inl := lkA [], hold := [], mp := lk mps, meth := lkS meths, off := 1179648 }
def F18 (n : Nat) : Cf := { N := n, keep := [0, 1, 2, 3], live := lk [] }
def dec18 (rs : List (Bool × List (Lf C))) : Option (VGateObject) := match rs with
  | [(true, [.str z0, .str z1, .str z2, .row .e9 z3, .bool z4, .row .e9 z5, .int .i64 z6])] => some ⟨z0, z1, z2, z3, z4, z5, z6⟩
  | _ => none
noncomputable def G18n (n : Nat) (a0 : VGateObject) : Option (VGateObject) :=
      Option.bind (G51 a0.Values) fun r1 =>
      Option.bind (G51 a0.Holds) fun r2 =>
      some ((⟨a0.Kind, a0.Name, a0.Team, r1, a0.Ending, r2, a0.Version⟩ : VGateObject))
theorem t18 (n : Nat) (a0 : VGateObject) : runFn X18 (F18 n) Go.Proofs.Try.f18 [.agg [.str a0.Kind, .str a0.Name, .str a0.Team, .row .e9 a0.Values, .bool a0.Ending, .row .e9 a0.Holds, .int .i64 a0.Version]] dec18 = G18n n a0 := by
  kernel_rfl
noncomputable def G18 (a0 : VGateObject) : Option (VGateObject) := G18n fuel a0
noncomputable def con18 : Con C := { R0 := VGateObject, ret := fun r => [(true, [.str r.Kind, .str r.Name, .str r.Team, .row .e9 r.Values, .bool r.Ending, .row .e9 r.Holds, .int .i64 r.Version])], g := fun vs => match vs with
  | [.agg [.str y0_0, .str y0_1, .str y0_2, .row .e9 y0_3, .bool y0_4, .row .e9 y0_5, .int .i64 y0_6]] => G18 ⟨y0_0, y0_1, y0_2, y0_3, y0_4, y0_5, y0_6⟩
  | _ => none }
theorem x18 : XOk Go.Proofs.Try.prog X18 := ⟨tks_ok, els_ok, mps_ok, meths_ok⟩
theorem q18 : Cons Go.Proofs.Try.prog X18 := ⟨lkR_ok (l := [(51, con51)]) ⟨c51, trivial⟩, lkW_ok (l := []) trivial, lkI_ok (l := []) trivial⟩
theorem c18 : ConOk Go.Proofs.Try.prog KK 18 con18 := by
  refine con_dec x18 q18 (by kernel_rfl) (f := 18) (fn := Go.Proofs.Try.f18) (c := bodyOf Go.Proofs.Try.f18) (by kernel_rfl) (by kernel_rfl) (by kernel_rfl) (nameB (by kernel_rfl)) con18 dec18 (fun rs r0 h => ?_) (fun vs r0 h => ?_)
  · unfold dec18 at h
    split at h
    · cases h; rfl
    · cases h
  · simp only [con18] at h
    split at h
    · rename_i y0_0 y0_1 y0_2 y0_3 y0_4 y0_5 y0_6
      exact ⟨Nat.le_of_ble_eq_true (by kernel_rfl), F18 fuel, (t18 fuel ⟨y0_0, y0_1, y0_2, y0_3, y0_4, y0_5, y0_6⟩).trans h⟩
    · cases h
/-! ### f124 loop.example/wharfdesk/impl.nameByte -/
noncomputable def X124 : Cx C := { K := KK, tk := lk tks, con := lkC [], conw := lkC [], inl := lkA [], hold := [], mp := lk mps, meth := lkS meths, off := 8126464 }
def F124 (n : Nat) : Cf := { N := n, keep := [0, 2], live := lk [] }
def dec124 (rs : List (Bool × List (Lf C))) : Option (Bool) := match rs with
  | [(false, [.bool z0])] => some z0
  | _ => none
noncomputable def G124n (n : Nat) (a0 : Int) : Option (Bool) :=
      cond (decide (a0 ≥ 97))
      (cond (decide (a0 ≤ 122))
      (some (true))
      (cond (decide (a0 ≥ 48))
      (cond (decide (a0 ≤ 57))
      (some (true))
      (some (a0 == 45)))
      (some (a0 == 45))))
      (cond (decide (a0 ≥ 48))
      (cond (decide (a0 ≤ 57))
      (some (true))
      (some (a0 == 45)))
      (some (a0 == 45)))
theorem t124 (n : Nat) (a0 : Int) : runFn X124 (F124 n) Go.Proofs.Try.f124 [.one (.int .u8 a0)] dec124 = G124n n a0 := by
  kernel_rfl
noncomputable def G124 (a0 : Int) : Option (Bool) := G124n fuel a0
noncomputable def con124 : Con C := { R0 := Bool, ret := fun r => [(false, [.bool r])], g := fun vs => match vs with
  | [.one (.int .u8 y0)] => G124 y0
  | _ => none }
theorem x124 : XOk Go.Proofs.Try.prog X124 := ⟨tks_ok, els_ok, mps_ok, meths_ok⟩
theorem q124 : Cons Go.Proofs.Try.prog X124 := ⟨lkR_ok (l := []) trivial, lkW_ok (l := []) trivial, lkI_ok (l := []) trivial⟩
theorem c124 : ConOk Go.Proofs.Try.prog KK 124 con124 := by
  refine con_dec x124 q124 (by kernel_rfl) (f := 124) (fn := Go.Proofs.Try.f124) (c := bodyOf Go.Proofs.Try.f124) (by kernel_rfl) (by kernel_rfl) (by kernel_rfl) (nameB (by kernel_rfl)) con124 dec124 (fun rs r0 h => ?_) (fun vs r0 h => ?_)
  · unfold dec124 at h
    split at h
    · cases h; rfl
    · cases h
  · simp only [con124] at h
    split at h
    · rename_i y0
      exact ⟨Nat.le_of_ble_eq_true (by kernel_rfl), F124 fuel, (t124 fuel y0).trans h⟩
    · cases h
/-! ### f106 loop.example/wharfdesk/impl.nameBytes -/
noncomputable def X106 : Cx C := { K := KK, tk := lk tks, con := lkC [(124, con124)], conw := lkC [], inl := lkA [], hold := [], mp := lk mps, meth := lkS meths, off := 6946816 }
def F106 (n : Nat) : Cf := { N := n, keep := [0, 2, 3, 5, 6, 7, 13], live := lk [(0, [0, 5, 6])] }
def dec106 (rs : List (Bool × List (Lf C))) : Option (Bool) := match rs with
  | [(false, [.bool z0])] => some z0
  | _ => none
abbrev A106_0 : Type := ByteArray × Int × Int
def s106_0 : A106_0 → St C := fun (x0_0, x0_1, x0_2) => { env := [(0, .one (.str x0_0)), (5, .one (.int .i64 x0_1)), (6, .one (.int .i64 x0_2))], objs := [], base := 0 }
noncomputable def r106_0 (n : Nat)  (rec0 : A106_0 → Option (Bool)) : A106_0 → Option (Bool) := fun (x0_0, x0_1, x0_2) =>
      cond (decide (x0_2 < x0_1))
      (cond (decide (0 ≤ x0_2)) (cond (decide (x0_2 < (x0_0.size : Int))) (Option.bind (G124 (sbt x0_0 x0_2)) fun r1 =>
      cond (!r1)
      (some (false))
      (rec0 (x0_0, x0_1, IntKind.i64.wrap (x0_2 + 1)))) none) none)
      (some (true))
noncomputable def LP106_0 (n : Nat)  (x : A106_0) : Option (Bool) := lpN (r106_0 n ) n x
noncomputable def MP106_0 (n : Nat)  (x : A106_0) : Option (Bool) := iter (fun rec S => run X106 (F106 n) (codeAt (bodyOf Go.Proofs.Try.f106) [1, 0, 1, 0, 0]) 0 S (lopK rec (blkK 0 (seqK (run X106 (F106 n) (codeAt (bodyOf Go.Proofs.Try.f106) [1, 1]) 0) (kTop X106 Go.Proofs.Try.f106 dec106))))) [0, 5, 6] n (s106_0 x)
theorem m106_0 (n : Nat)  (x : A106_0) : MP106_0 n  x = LP106_0 n  x := by
  refine iter_eq s106_0 (r106_0 n ) (fun rec0 x => ?_) n x
  obtain ⟨x0_0, x0_1, x0_2⟩ := x
  kernel_rfl
noncomputable def G106n (n : Nat) (a0 : ByteArray) : Option (Bool) :=
      LP106_0 n  (a0, (a0.size : Int), 0)
theorem t106 (n : Nat) (a0 : ByteArray) : runFn X106 (F106 n) Go.Proofs.Try.f106 [.one (.str a0)] dec106 = G106n n a0 := by
  have h : runFn X106 (F106 n) Go.Proofs.Try.f106 [.one (.str a0)] dec106 =
      MP106_0 n  (a0, (a0.size : Int), 0) := by kernel_rfl
  simp only [h, G106n, m106_0]
noncomputable def G106 (a0 : ByteArray) : Option (Bool) := G106n fuel a0
noncomputable def con106 : Con C := { R0 := Bool, ret := fun r => [(false, [.bool r])], g := fun vs => match vs with
  | [.one (.str y0)] => G106 y0
  | _ => none }
theorem x106 : XOk Go.Proofs.Try.prog X106 := ⟨tks_ok, els_ok, mps_ok, meths_ok⟩
theorem q106 : Cons Go.Proofs.Try.prog X106 := ⟨lkR_ok (l := [(124, con124)]) ⟨c124, trivial⟩, lkW_ok (l := []) trivial, lkI_ok (l := []) trivial⟩
theorem c106 : ConOk Go.Proofs.Try.prog KK 106 con106 := by
  refine con_dec x106 q106 (by kernel_rfl) (f := 106) (fn := Go.Proofs.Try.f106) (c := bodyOf Go.Proofs.Try.f106) (by kernel_rfl) (by kernel_rfl) (by kernel_rfl) (nameB (by kernel_rfl)) con106 dec106 (fun rs r0 h => ?_) (fun vs r0 h => ?_)
  · unfold dec106 at h
    split at h
    · cases h; rfl
    · cases h
  · simp only [con106] at h
    split at h
    · rename_i y0
      exact ⟨Nat.le_of_ble_eq_true (by kernel_rfl), F106 fuel, (t106 fuel y0).trans h⟩
    · cases h
/-! ### f78 loop.example/wharfdesk/impl.isName -/
noncomputable def X78 : Cx C := { K := KK, tk := lk tks, con := lkC [(106, con106)], conw := lkC [], inl := lkA [], hold := [], mp := lk mps, meth := lkS meths, off := 5111808 }
def F78 (n : Nat) : Cf := { N := n, keep := [0, 2], live := lk [] }
def dec78 (rs : List (Bool × List (Lf C))) : Option (Bool) := match rs with
  | [(false, [.bool z0])] => some z0
  | _ => none
noncomputable def G78n (n : Nat) (a0 : ByteArray) : Option (Bool) :=
      cond (decide ((a0.size : Int) ≥ 1))
      (cond (decide ((a0.size : Int) ≤ 16))
      (Option.bind (G106 a0) fun r1 =>
      some (r1))
      (some (false)))
      (some (false))
theorem t78 (n : Nat) (a0 : ByteArray) : runFn X78 (F78 n) Go.Proofs.Try.f78 [.one (.str a0)] dec78 = G78n n a0 := by
  kernel_rfl
noncomputable def G78 (a0 : ByteArray) : Option (Bool) := G78n fuel a0
noncomputable def con78 : Con C := { R0 := Bool, ret := fun r => [(false, [.bool r])], g := fun vs => match vs with
  | [.one (.str y0)] => G78 y0
  | _ => none }
theorem x78 : XOk Go.Proofs.Try.prog X78 := ⟨tks_ok, els_ok, mps_ok, meths_ok⟩
theorem q78 : Cons Go.Proofs.Try.prog X78 := ⟨lkR_ok (l := [(106, con106)]) ⟨c106, trivial⟩, lkW_ok (l := []) trivial, lkI_ok (l := []) trivial⟩
theorem c78 : ConOk Go.Proofs.Try.prog KK 78 con78 := by
  refine con_dec x78 q78 (by kernel_rfl) (f := 78) (fn := Go.Proofs.Try.f78) (c := bodyOf Go.Proofs.Try.f78) (by kernel_rfl) (by kernel_rfl) (by kernel_rfl) (nameB (by kernel_rfl)) con78 dec78 (fun rs r0 h => ?_) (fun vs r0 h => ?_)
  · unfold dec78 at h
    split at h
    · cases h; rfl
    · cases h
  · simp only [con78] at h
    split at h
    · rename_i y0
      exact ⟨Nat.le_of_ble_eq_true (by kernel_rfl), F78 fuel, (t78 fuel y0).trans h⟩
    · cases h
/-! ### f157 loop.example/wharfdesk/impl.decimal -/
noncomputable def X157 : Cx C := { K := KK, tk := lk tks, con := lkC [], conw := lkC [], inl := lkA [], hold := [], mp := lk mps, meth := lkS meths, off := 10289152 }
def F157 (n : Nat) : Cf := { N := n, keep := [0, 2, 3, 4, 5, 23, 25, 26, 27, 38], live := lk [(0, [0, 4, 25, 26])] }
def dec157 (rs : List (Bool × List (Lf C))) : Option (Int × Bool) := match rs with
  | [(false, [.int .i64 z0]), (false, [.bool z1])] => some (z0, z1)
  | _ => none
abbrev A157_0 : Type := ByteArray × Int × Int × Int
def s157_0 : A157_0 → St C := fun (x0_0, x0_1, x0_2, x0_3) => { env := [(0, .one (.str x0_0)), (4, .one (.int .i64 x0_1)), (25, .one (.int .i64 x0_2)), (26, .one (.int .i64 x0_3))], objs := [], base := 0 }
noncomputable def r157_0 (n : Nat)  (rec0 : A157_0 → Option (Int × Bool)) : A157_0 → Option (Int × Bool) := fun (x0_0, x0_1, x0_2, x0_3) =>
      cond (decide (x0_3 < x0_2))
      (cond (decide (0 ≤ x0_3)) (cond (decide (x0_3 < (x0_0.size : Int))) (cond (decide ((sbt x0_0 x0_3) < 48))
      (some (0, false))
      (cond (decide (0 ≤ x0_3)) (cond (decide (x0_3 < (x0_0.size : Int))) (cond (decide ((sbt x0_0 x0_3) > 57))
      (some (0, false))
      (cond (decide (0 ≤ x0_3)) (cond (decide (x0_3 < (x0_0.size : Int))) (rec0 (x0_0, IntKind.i64.wrap ((IntKind.i64.wrap (x0_1 * 10)) + (IntKind.i64.wrap (IntKind.u8.wrap ((sbt x0_0 x0_3) - 48)))), x0_2, IntKind.i64.wrap (x0_3 + 1))) none) none)) none) none)) none) none)
      (some (x0_1, true))
noncomputable def LP157_0 (n : Nat)  (x : A157_0) : Option (Int × Bool) := lpN (r157_0 n ) n x
noncomputable def MP157_0 (n : Nat)  (x : A157_0) : Option (Int × Bool) := iter (fun rec S => run X157 (F157 n) (codeAt (bodyOf Go.Proofs.Try.f157) [1, 1, 1, 0, 1, 0, 0]) 0 S (lopK rec (blkK 0 (seqK (run X157 (F157 n) (codeAt (bodyOf Go.Proofs.Try.f157) [1, 1, 1, 1]) 0) (kTop X157 Go.Proofs.Try.f157 dec157))))) [0, 4, 25, 26] n (s157_0 x)
theorem m157_0 (n : Nat)  (x : A157_0) : MP157_0 n  x = LP157_0 n  x := by
  refine iter_eq s157_0 (r157_0 n ) (fun rec0 x => ?_) n x
  obtain ⟨x0_0, x0_1, x0_2, x0_3⟩ := x
  kernel_rfl
noncomputable def G157n (n : Nat) (a0 : ByteArray) : Option (Int × Bool) :=
      cond (decide ((a0.size : Int) < 1))
      (some (0, false))
      (cond (decide ((a0.size : Int) > 7))
      (some (0, false))
      (cond (decide (0 ≤ 0)) (cond (decide (0 < (a0.size : Int))) (cond ((sbt a0 0) == 48)
      (cond (decide ((a0.size : Int) > 1))
      (some (0, false))
      (LP157_0 n  (a0, 0, (a0.size : Int), 0)))
      (LP157_0 n  (a0, 0, (a0.size : Int), 0))) none) none))
theorem t157 (n : Nat) (a0 : ByteArray) : runFn X157 (F157 n) Go.Proofs.Try.f157 [.one (.str a0)] dec157 = G157n n a0 := by
  have h : runFn X157 (F157 n) Go.Proofs.Try.f157 [.one (.str a0)] dec157 =
      cond (decide ((a0.size : Int) < 1))
      (some (0, false))
      (cond (decide ((a0.size : Int) > 7))
      (some (0, false))
      (cond (decide (0 ≤ 0)) (cond (decide (0 < (a0.size : Int))) (cond ((sbt a0 0) == 48)
      (cond (decide ((a0.size : Int) > 1))
      (some (0, false))
      (MP157_0 n  (a0, 0, (a0.size : Int), 0)))
      (MP157_0 n  (a0, 0, (a0.size : Int), 0))) none) none)) := by kernel_rfl
  simp only [h, G157n, m157_0]
noncomputable def G157 (a0 : ByteArray) : Option (Int × Bool) := G157n fuel a0
noncomputable def con157 : Con C := { R0 := Int × Bool, ret := fun r => [(false, [.int .i64 r.1]), (false, [.bool r.2])], g := fun vs => match vs with
  | [.one (.str y0)] => G157 y0
  | _ => none }
theorem x157 : XOk Go.Proofs.Try.prog X157 := ⟨tks_ok, els_ok, mps_ok, meths_ok⟩
theorem q157 : Cons Go.Proofs.Try.prog X157 := ⟨lkR_ok (l := []) trivial, lkW_ok (l := []) trivial, lkI_ok (l := []) trivial⟩
theorem c157 : ConOk Go.Proofs.Try.prog KK 157 con157 := by
  refine con_dec x157 q157 (by kernel_rfl) (f := 157) (fn := Go.Proofs.Try.f157) (c := bodyOf Go.Proofs.Try.f157) (by kernel_rfl) (by kernel_rfl) (by kernel_rfl) (nameB (by kernel_rfl)) con157 dec157 (fun rs r0 h => ?_) (fun vs r0 h => ?_)
  · unfold dec157 at h
    split at h
    · cases h; rfl
    · cases h
  · simp only [con157] at h
    split at h
    · rename_i y0
      exact ⟨Nat.le_of_ble_eq_true (by kernel_rfl), F157 fuel, (t157 fuel y0).trans h⟩
    · cases h
/-! ### f95 loop.example/wharfdesk/impl.ascendingNames -/
noncomputable def X95 : Cx C := { K := KK, tk := lk tks, con := lkC [(78, con78)], conw := lkC [], inl := lkA [], hold := [], mp := lk mps, meth := lkS meths, off := 6225920 }
def F95 (n : Nat) : Cf := { N := n, keep := [0, 2, 3, 4, 5, 6, 7, 8, 27], live := lk [(0, [0, 5, 6, 7])] }
def dec95 (rs : List (Bool × List (Lf C))) : Option (Bool) := match rs with
  | [(false, [.bool z0])] => some z0
  | _ => none
abbrev A95_0 : Type := List (C .e9) × List (C .e9) × Int × Int
def s95_0 : A95_0 → St C := fun (x0_0, x0_1, x0_2, x0_3) => { env := [(0, .one (.row .e9 x0_0)), (5, .one (.row .e9 x0_1)), (6, .one (.int .i64 x0_2)), (7, .one (.int .i64 x0_3))], objs := [], base := 0 }
noncomputable def r95_0 (n : Nat)  (rec0 : A95_0 → Option (Bool)) : A95_0 → Option (Bool) := fun (x0_0, x0_1, x0_2, x0_3) =>
      cond (decide (x0_3 < x0_2))
      (cond (decide (0 ≤ x0_3)) (Option.bind x0_1[x0_3.toNat]? fun x1 => Option.bind (G78 x1) fun r2 =>
      cond (!r2)
      (some (false))
      (cond (decide (x0_3 > 0))
      (cond (decide (0 ≤ IntKind.i64.wrap (x0_3 - 1))) (Option.bind x0_0[(IntKind.i64.wrap (x0_3 - 1)).toNat]? fun x3 => cond (!slt x3 x1)
      (some (false))
      (rec0 (x0_0, x0_1, x0_2, IntKind.i64.wrap (x0_3 + 1)))) none)
      (rec0 (x0_0, x0_1, x0_2, IntKind.i64.wrap (x0_3 + 1))))) none)
      (some (true))
noncomputable def LP95_0 (n : Nat)  (x : A95_0) : Option (Bool) := lpN (r95_0 n ) n x
noncomputable def MP95_0 (n : Nat)  (x : A95_0) : Option (Bool) := iter (fun rec S => run X95 (F95 n) (codeAt (bodyOf Go.Proofs.Try.f95) [1, 0, 1, 0, 0]) 0 S (lopK rec (blkK 0 (seqK (run X95 (F95 n) (codeAt (bodyOf Go.Proofs.Try.f95) [1, 1]) 0) (kTop X95 Go.Proofs.Try.f95 dec95))))) [0, 5, 6, 7] n (s95_0 x)
theorem m95_0 (n : Nat)  (x : A95_0) : MP95_0 n  x = LP95_0 n  x := by
  refine iter_eq s95_0 (r95_0 n ) (fun rec0 x => ?_) n x
  obtain ⟨x0_0, x0_1, x0_2, x0_3⟩ := x
  kernel_rfl
noncomputable def G95n (n : Nat) (a0 : List (C .e9)) : Option (Bool) :=
      LP95_0 n  (a0, a0, (a0.length : Int), 0)
theorem t95 (n : Nat) (a0 : List (C .e9)) : runFn X95 (F95 n) Go.Proofs.Try.f95 [.one (.row .e9 a0)] dec95 = G95n n a0 := by
  have h : runFn X95 (F95 n) Go.Proofs.Try.f95 [.one (.row .e9 a0)] dec95 =
      MP95_0 n  (a0, a0, (a0.length : Int), 0) := by kernel_rfl
  simp only [h, G95n, m95_0]
noncomputable def G95 (a0 : List (C .e9)) : Option (Bool) := G95n fuel a0
noncomputable def con95 : Con C := { R0 := Bool, ret := fun r => [(false, [.bool r])], g := fun vs => match vs with
  | [.one (.row .e9 y0)] => G95 y0
  | _ => none }
theorem x95 : XOk Go.Proofs.Try.prog X95 := ⟨tks_ok, els_ok, mps_ok, meths_ok⟩
theorem q95 : Cons Go.Proofs.Try.prog X95 := ⟨lkR_ok (l := [(78, con78)]) ⟨c78, trivial⟩, lkW_ok (l := []) trivial, lkI_ok (l := []) trivial⟩
theorem c95 : ConOk Go.Proofs.Try.prog KK 95 con95 := by
  refine con_dec x95 q95 (by kernel_rfl) (f := 95) (fn := Go.Proofs.Try.f95) (c := bodyOf Go.Proofs.Try.f95) (by kernel_rfl) (by kernel_rfl) (by kernel_rfl) (nameB (by kernel_rfl)) con95 dec95 (fun rs r0 h => ?_) (fun vs r0 h => ?_)
  · unfold dec95 at h
    split at h
    · cases h; rfl
    · cases h
  · simp only [con95] at h
    split at h
    · rename_i y0
      exact ⟨Nat.le_of_ble_eq_true (by kernel_rfl), F95 fuel, (t95 fuel y0).trans h⟩
    · cases h
/-! ### f154 (loop.example/wharfdesk/impl.numberField).clean -/
noncomputable def X154 : Cx C := { K := KK, tk := lk tks, con := lkC [], conw := lkC [], inl := lkA [], hold := [], mp := lk mps, meth := lkS meths, off := 10092544 }
def F154 (n : Nat) : Cf := { N := n, keep := [0, 1, 2], live := lk [] }
def dec154 (rs : List (Bool × List (Lf C))) : Option (Bool) := match rs with
  | [(false, [.bool z0])] => some z0
  | _ => none
noncomputable def G154n (n : Nat) (a0 : VnumberField) : Option (Bool) :=
      cond ((a0.GateField_Words.length : Int) == 0)
      (cond (decide (a0.GateField_To = (⟨#[]⟩ : ByteArray)))
      (some (a0.GateField_Role == 0))
      (some (false)))
      (some (false))
theorem t154 (n : Nat) (a0 : VnumberField) : runFn X154 (F154 n) Go.Proofs.Try.f154 [.agg [.str a0.GateField_Name, .int .i64 a0.GateField_Kind, .int .i64 a0.GateField_Least, .int .i64 a0.GateField_Most, .row .e9 a0.GateField_Words, .str a0.GateField_To, .int .i64 a0.GateField_Role, .bool a0.GateField_Must, .bool a0.GateField_Fixed, .str a0.GateField_Default, .str a0.GateField_Weighs]] dec154 = G154n n a0 := by
  kernel_rfl
noncomputable def G154 (a0 : VnumberField) : Option (Bool) := G154n fuel a0
noncomputable def con154 : Con C := { R0 := Bool, ret := fun r => [(false, [.bool r])], g := fun vs => match vs with
  | [.agg [.str y0_0, .int .i64 y0_1, .int .i64 y0_2, .int .i64 y0_3, .row .e9 y0_4, .str y0_5, .int .i64 y0_6, .bool y0_7, .bool y0_8, .str y0_9, .str y0_10]] => G154 ⟨y0_0, y0_1, y0_2, y0_3, y0_4, y0_5, y0_6, y0_7, y0_8, y0_9, y0_10⟩
  | _ => none }
theorem x154 : XOk Go.Proofs.Try.prog X154 := ⟨tks_ok, els_ok, mps_ok, meths_ok⟩
theorem q154 : Cons Go.Proofs.Try.prog X154 := ⟨lkR_ok (l := []) trivial, lkW_ok (l := []) trivial, lkI_ok (l := []) trivial⟩
theorem c154 : ConOk Go.Proofs.Try.prog KK 154 con154 := by
  refine con_dec x154 q154 (by kernel_rfl) (f := 154) (fn := Go.Proofs.Try.f154) (c := bodyOf Go.Proofs.Try.f154) (by kernel_rfl) (by kernel_rfl) (by kernel_rfl) (nameB (by kernel_rfl)) con154 dec154 (fun rs r0 h => ?_) (fun vs r0 h => ?_)
  · unfold dec154 at h
    split at h
    · cases h; rfl
    · cases h
  · simp only [con154] at h
    split at h
    · rename_i y0_0 y0_1 y0_2 y0_3 y0_4 y0_5 y0_6 y0_7 y0_8 y0_9 y0_10
      exact ⟨Nat.le_of_ble_eq_true (by kernel_rfl), F154 fuel, (t154 fuel ⟨y0_0, y0_1, y0_2, y0_3, y0_4, y0_5, y0_6, y0_7, y0_8, y0_9, y0_10⟩).trans h⟩
    · cases h
/-! ### f155 (loop.example/wharfdesk/impl.numberField).fits -/
noncomputable def X155 : Cx C := { K := KK, tk := lk tks, con := lkC [(157, con157)], conw := lkC [], inl := lkA [], hold := [], mp := lk mps, meth := lkS meths, off := 10158080 }
def F155 (n : Nat) : Cf := { N := n, keep := [0, 1, 2, 4, 5, 6], live := lk [] }
def dec155 (rs : List (Bool × List (Lf C))) : Option (Bool) := match rs with
  | [(false, [.bool z0])] => some z0
  | _ => none
noncomputable def G155n (n : Nat) (a0 : VnumberField) (a1 : ByteArray) : Option (Bool) :=
      Option.bind (G157 a1) fun r1 =>
      cond r1.2
      (cond (decide (r1.1 ≥ a0.GateField_Least))
      (some (decide (r1.1 ≤ a0.GateField_Most)))
      (some (false)))
      (some (false))
theorem t155 (n : Nat) (a0 : VnumberField) (a1 : ByteArray) : runFn X155 (F155 n) Go.Proofs.Try.f155 [.agg [.str a0.GateField_Name, .int .i64 a0.GateField_Kind, .int .i64 a0.GateField_Least, .int .i64 a0.GateField_Most, .row .e9 a0.GateField_Words, .str a0.GateField_To, .int .i64 a0.GateField_Role, .bool a0.GateField_Must, .bool a0.GateField_Fixed, .str a0.GateField_Default, .str a0.GateField_Weighs], .one (.str a1)] dec155 = G155n n a0 a1 := by
  kernel_rfl
noncomputable def G155 (a0 : VnumberField) (a1 : ByteArray) : Option (Bool) := G155n fuel a0 a1
noncomputable def con155 : Con C := { R0 := Bool, ret := fun r => [(false, [.bool r])], g := fun vs => match vs with
  | [.agg [.str y0_0, .int .i64 y0_1, .int .i64 y0_2, .int .i64 y0_3, .row .e9 y0_4, .str y0_5, .int .i64 y0_6, .bool y0_7, .bool y0_8, .str y0_9, .str y0_10], .one (.str y1)] => G155 ⟨y0_0, y0_1, y0_2, y0_3, y0_4, y0_5, y0_6, y0_7, y0_8, y0_9, y0_10⟩ y1
  | _ => none }
theorem x155 : XOk Go.Proofs.Try.prog X155 := ⟨tks_ok, els_ok, mps_ok, meths_ok⟩
theorem q155 : Cons Go.Proofs.Try.prog X155 := ⟨lkR_ok (l := [(157, con157)]) ⟨c157, trivial⟩, lkW_ok (l := []) trivial, lkI_ok (l := []) trivial⟩
theorem c155 : ConOk Go.Proofs.Try.prog KK 155 con155 := by
  refine con_dec x155 q155 (by kernel_rfl) (f := 155) (fn := Go.Proofs.Try.f155) (c := bodyOf Go.Proofs.Try.f155) (by kernel_rfl) (by kernel_rfl) (by kernel_rfl) (nameB (by kernel_rfl)) con155 dec155 (fun rs r0 h => ?_) (fun vs r0 h => ?_)
  · unfold dec155 at h
    split at h
    · cases h; rfl
    · cases h
  · simp only [con155] at h
    split at h
    · rename_i y0_0 y0_1 y0_2 y0_3 y0_4 y0_5 y0_6 y0_7 y0_8 y0_9 y0_10 y1
      exact ⟨Nat.le_of_ble_eq_true (by kernel_rfl), F155 fuel, (t155 fuel ⟨y0_0, y0_1, y0_2, y0_3, y0_4, y0_5, y0_6, y0_7, y0_8, y0_9, y0_10⟩ y1).trans h⟩
    · cases h
/-! ### f156 (loop.example/wharfdesk/impl.numberField).sound -/
noncomputable def X156 : Cx C := { K := KK, tk := lk tks, con := lkC [(78, con78)], conw := lkC [], inl := lkA [], hold := [], mp := lk mps, meth := lkS meths, off := 10223616 }
def F156 (n : Nat) : Cf := { N := n, keep := [0, 2, 4], live := lk [] }
def dec156 (rs : List (Bool × List (Lf C))) : Option (Bool) := match rs with
  | [(false, [.bool z0])] => some z0
  | _ => none
noncomputable def G156n (n : Nat) (a0 : VnumberField) (a1 : List (C .e9)) : Option (Bool) :=
      cond (decide (a0.GateField_Least ≥ 0))
      (cond (decide (a0.GateField_Least ≤ a0.GateField_Most))
      (cond (decide (a0.GateField_Most ≤ 1000000))
      (cond (decide (a0.GateField_Weighs = (⟨#[]⟩ : ByteArray)))
      (some (true))
      (Option.bind (G78 a0.GateField_Weighs) fun r1 =>
      some (r1)))
      (some (false)))
      (some (false)))
      (some (false))
theorem t156 (n : Nat) (a0 : VnumberField) (a1 : List (C .e9)) : runFn X156 (F156 n) Go.Proofs.Try.f156 [.agg [.str a0.GateField_Name, .int .i64 a0.GateField_Kind, .int .i64 a0.GateField_Least, .int .i64 a0.GateField_Most, .row .e9 a0.GateField_Words, .str a0.GateField_To, .int .i64 a0.GateField_Role, .bool a0.GateField_Must, .bool a0.GateField_Fixed, .str a0.GateField_Default, .str a0.GateField_Weighs], .one (.row .e9 a1)] dec156 = G156n n a0 a1 := by
  kernel_rfl
noncomputable def G156 (a0 : VnumberField) (a1 : List (C .e9)) : Option (Bool) := G156n fuel a0 a1
noncomputable def con156 : Con C := { R0 := Bool, ret := fun r => [(false, [.bool r])], g := fun vs => match vs with
  | [.agg [.str y0_0, .int .i64 y0_1, .int .i64 y0_2, .int .i64 y0_3, .row .e9 y0_4, .str y0_5, .int .i64 y0_6, .bool y0_7, .bool y0_8, .str y0_9, .str y0_10], .one (.row .e9 y1)] => G156 ⟨y0_0, y0_1, y0_2, y0_3, y0_4, y0_5, y0_6, y0_7, y0_8, y0_9, y0_10⟩ y1
  | _ => none }
theorem x156 : XOk Go.Proofs.Try.prog X156 := ⟨tks_ok, els_ok, mps_ok, meths_ok⟩
theorem q156 : Cons Go.Proofs.Try.prog X156 := ⟨lkR_ok (l := [(78, con78)]) ⟨c78, trivial⟩, lkW_ok (l := []) trivial, lkI_ok (l := []) trivial⟩
theorem c156 : ConOk Go.Proofs.Try.prog KK 156 con156 := by
  refine con_dec x156 q156 (by kernel_rfl) (f := 156) (fn := Go.Proofs.Try.f156) (c := bodyOf Go.Proofs.Try.f156) (by kernel_rfl) (by kernel_rfl) (by kernel_rfl) (nameB (by kernel_rfl)) con156 dec156 (fun rs r0 h => ?_) (fun vs r0 h => ?_)
  · unfold dec156 at h
    split at h
    · cases h; rfl
    · cases h
  · simp only [con156] at h
    split at h
    · rename_i y0_0 y0_1 y0_2 y0_3 y0_4 y0_5 y0_6 y0_7 y0_8 y0_9 y0_10 y1
      exact ⟨Nat.le_of_ble_eq_true (by kernel_rfl), F156 fuel, (t156 fuel ⟨y0_0, y0_1, y0_2, y0_3, y0_4, y0_5, y0_6, y0_7, y0_8, y0_9, y0_10⟩ y1).trans h⟩
    · cases h
/-! ### f158 (loop.example/wharfdesk/impl.wordField).clean -/
noncomputable def X158 : Cx C := { K := KK, tk := lk tks, con := lkC [], conw := lkC [], inl := lkA [], hold := [], mp := lk mps, meth := lkS meths, off := 10354688 }
def F158 (n : Nat) : Cf := { N := n, keep := [0, 1, 2], live := lk [] }
def dec158 (rs : List (Bool × List (Lf C))) : Option (Bool) := match rs with
  | [(false, [.bool z0])] => some z0
  | _ => none
noncomputable def G158n (n : Nat) (a0 : VwordField) : Option (Bool) :=
      cond (a0.GateField_Least == 0)
      (cond (a0.GateField_Most == 0)
      (cond (decide (a0.GateField_To = (⟨#[]⟩ : ByteArray)))
      (cond (a0.GateField_Role == 0)
      (some (decide (a0.GateField_Weighs = (⟨#[]⟩ : ByteArray))))
      (some (false)))
      (some (false)))
      (some (false)))
      (some (false))
theorem t158 (n : Nat) (a0 : VwordField) : runFn X158 (F158 n) Go.Proofs.Try.f158 [.agg [.str a0.GateField_Name, .int .i64 a0.GateField_Kind, .int .i64 a0.GateField_Least, .int .i64 a0.GateField_Most, .row .e9 a0.GateField_Words, .str a0.GateField_To, .int .i64 a0.GateField_Role, .bool a0.GateField_Must, .bool a0.GateField_Fixed, .str a0.GateField_Default, .str a0.GateField_Weighs]] dec158 = G158n n a0 := by
  kernel_rfl
noncomputable def G158 (a0 : VwordField) : Option (Bool) := G158n fuel a0
noncomputable def con158 : Con C := { R0 := Bool, ret := fun r => [(false, [.bool r])], g := fun vs => match vs with
  | [.agg [.str y0_0, .int .i64 y0_1, .int .i64 y0_2, .int .i64 y0_3, .row .e9 y0_4, .str y0_5, .int .i64 y0_6, .bool y0_7, .bool y0_8, .str y0_9, .str y0_10]] => G158 ⟨y0_0, y0_1, y0_2, y0_3, y0_4, y0_5, y0_6, y0_7, y0_8, y0_9, y0_10⟩
  | _ => none }
theorem x158 : XOk Go.Proofs.Try.prog X158 := ⟨tks_ok, els_ok, mps_ok, meths_ok⟩
theorem q158 : Cons Go.Proofs.Try.prog X158 := ⟨lkR_ok (l := []) trivial, lkW_ok (l := []) trivial, lkI_ok (l := []) trivial⟩
theorem c158 : ConOk Go.Proofs.Try.prog KK 158 con158 := by
  refine con_dec x158 q158 (by kernel_rfl) (f := 158) (fn := Go.Proofs.Try.f158) (c := bodyOf Go.Proofs.Try.f158) (by kernel_rfl) (by kernel_rfl) (by kernel_rfl) (nameB (by kernel_rfl)) con158 dec158 (fun rs r0 h => ?_) (fun vs r0 h => ?_)
  · unfold dec158 at h
    split at h
    · cases h; rfl
    · cases h
  · simp only [con158] at h
    split at h
    · rename_i y0_0 y0_1 y0_2 y0_3 y0_4 y0_5 y0_6 y0_7 y0_8 y0_9 y0_10
      exact ⟨Nat.le_of_ble_eq_true (by kernel_rfl), F158 fuel, (t158 fuel ⟨y0_0, y0_1, y0_2, y0_3, y0_4, y0_5, y0_6, y0_7, y0_8, y0_9, y0_10⟩).trans h⟩
    · cases h
/-! ### f159 (loop.example/wharfdesk/impl.wordField).fits -/
noncomputable def X159 : Cx C := { K := KK, tk := lk tks, con := lkC [], conw := lkC [], inl := lkA [], hold := [], mp := lk mps, meth := lkS meths, off := 10420224 }
def F159 (n : Nat) : Cf := { N := n, keep := [0, 1, 2, 4, 6, 9, 10, 11, 12, 17], live := lk [(0, [1, 9, 10, 11])] }
def dec159 (rs : List (Bool × List (Lf C))) : Option (Bool) := match rs with
  | [(false, [.bool z0])] => some z0
  | _ => none
abbrev A159_0 : Type := ByteArray × List (C .e9) × Int × Int
def s159_0 : A159_0 → St C := fun (x0_0, x0_1, x0_2, x0_3) => { env := [(1, .one (.str x0_0)), (9, .one (.row .e9 x0_1)), (10, .one (.int .i64 x0_2)), (11, .one (.int .i64 x0_3))], objs := [], base := 0 }
noncomputable def r159_0 (n : Nat)  (rec0 : A159_0 → Option (Bool)) : A159_0 → Option (Bool) := fun (x0_0, x0_1, x0_2, x0_3) =>
      cond (decide (x0_3 < x0_2))
      (cond (decide (0 ≤ x0_3)) (Option.bind x0_1[x0_3.toNat]? fun x1 => cond (decide (x1 = x0_0))
      (some (true))
      (rec0 (x0_0, x0_1, x0_2, IntKind.i64.wrap (x0_3 + 1)))) none)
      (some (false))
noncomputable def LP159_0 (n : Nat)  (x : A159_0) : Option (Bool) := lpN (r159_0 n ) n x
noncomputable def MP159_0 (n : Nat)  (x : A159_0) : Option (Bool) := iter (fun rec S => run X159 (F159 n) (codeAt (bodyOf Go.Proofs.Try.f159) [1, 0, 1, 0, 0]) 0 S (lopK rec (blkK 0 (seqK (run X159 (F159 n) (codeAt (bodyOf Go.Proofs.Try.f159) [1, 1]) 0) (kTop X159 Go.Proofs.Try.f159 dec159))))) [1, 9, 10, 11] n (s159_0 x)
theorem m159_0 (n : Nat)  (x : A159_0) : MP159_0 n  x = LP159_0 n  x := by
  refine iter_eq s159_0 (r159_0 n ) (fun rec0 x => ?_) n x
  obtain ⟨x0_0, x0_1, x0_2, x0_3⟩ := x
  kernel_rfl
noncomputable def G159n (n : Nat) (a0 : VwordField) (a1 : ByteArray) : Option (Bool) :=
      LP159_0 n  (a1, a0.GateField_Words, (a0.GateField_Words.length : Int), 0)
theorem t159 (n : Nat) (a0 : VwordField) (a1 : ByteArray) : runFn X159 (F159 n) Go.Proofs.Try.f159 [.agg [.str a0.GateField_Name, .int .i64 a0.GateField_Kind, .int .i64 a0.GateField_Least, .int .i64 a0.GateField_Most, .row .e9 a0.GateField_Words, .str a0.GateField_To, .int .i64 a0.GateField_Role, .bool a0.GateField_Must, .bool a0.GateField_Fixed, .str a0.GateField_Default, .str a0.GateField_Weighs], .one (.str a1)] dec159 = G159n n a0 a1 := by
  have h : runFn X159 (F159 n) Go.Proofs.Try.f159 [.agg [.str a0.GateField_Name, .int .i64 a0.GateField_Kind, .int .i64 a0.GateField_Least, .int .i64 a0.GateField_Most, .row .e9 a0.GateField_Words, .str a0.GateField_To, .int .i64 a0.GateField_Role, .bool a0.GateField_Must, .bool a0.GateField_Fixed, .str a0.GateField_Default, .str a0.GateField_Weighs], .one (.str a1)] dec159 =
      MP159_0 n  (a1, a0.GateField_Words, (a0.GateField_Words.length : Int), 0) := by kernel_rfl
  simp only [h, G159n, m159_0]
noncomputable def G159 (a0 : VwordField) (a1 : ByteArray) : Option (Bool) := G159n fuel a0 a1
noncomputable def con159 : Con C := { R0 := Bool, ret := fun r => [(false, [.bool r])], g := fun vs => match vs with
  | [.agg [.str y0_0, .int .i64 y0_1, .int .i64 y0_2, .int .i64 y0_3, .row .e9 y0_4, .str y0_5, .int .i64 y0_6, .bool y0_7, .bool y0_8, .str y0_9, .str y0_10], .one (.str y1)] => G159 ⟨y0_0, y0_1, y0_2, y0_3, y0_4, y0_5, y0_6, y0_7, y0_8, y0_9, y0_10⟩ y1
  | _ => none }
theorem x159 : XOk Go.Proofs.Try.prog X159 := ⟨tks_ok, els_ok, mps_ok, meths_ok⟩
theorem q159 : Cons Go.Proofs.Try.prog X159 := ⟨lkR_ok (l := []) trivial, lkW_ok (l := []) trivial, lkI_ok (l := []) trivial⟩
theorem c159 : ConOk Go.Proofs.Try.prog KK 159 con159 := by
  refine con_dec x159 q159 (by kernel_rfl) (f := 159) (fn := Go.Proofs.Try.f159) (c := bodyOf Go.Proofs.Try.f159) (by kernel_rfl) (by kernel_rfl) (by kernel_rfl) (nameB (by kernel_rfl)) con159 dec159 (fun rs r0 h => ?_) (fun vs r0 h => ?_)
  · unfold dec159 at h
    split at h
    · cases h; rfl
    · cases h
  · simp only [con159] at h
    split at h
    · rename_i y0_0 y0_1 y0_2 y0_3 y0_4 y0_5 y0_6 y0_7 y0_8 y0_9 y0_10 y1
      exact ⟨Nat.le_of_ble_eq_true (by kernel_rfl), F159 fuel, (t159 fuel ⟨y0_0, y0_1, y0_2, y0_3, y0_4, y0_5, y0_6, y0_7, y0_8, y0_9, y0_10⟩ y1).trans h⟩
    · cases h
/-! ### f160 (loop.example/wharfdesk/impl.wordField).sound -/
noncomputable def X160 : Cx C := { K := KK, tk := lk tks, con := lkC [(95, con95)], conw := lkC [], inl := lkA [], hold := [], mp := lk mps, meth := lkS meths, off := 10485760 }
def F160 (n : Nat) : Cf := { N := n, keep := [0, 2, 4], live := lk [] }
def dec160 (rs : List (Bool × List (Lf C))) : Option (Bool) := match rs with
  | [(false, [.bool z0])] => some z0
  | _ => none
noncomputable def G160n (n : Nat) (a0 : VwordField) (a1 : List (C .e9)) : Option (Bool) :=
      cond (decide ((a0.GateField_Words.length : Int) ≥ 1))
      (cond (decide ((a0.GateField_Words.length : Int) ≤ 6))
      (Option.bind (G95 a0.GateField_Words) fun r1 =>
      some (r1))
      (some (false)))
      (some (false))
theorem t160 (n : Nat) (a0 : VwordField) (a1 : List (C .e9)) : runFn X160 (F160 n) Go.Proofs.Try.f160 [.agg [.str a0.GateField_Name, .int .i64 a0.GateField_Kind, .int .i64 a0.GateField_Least, .int .i64 a0.GateField_Most, .row .e9 a0.GateField_Words, .str a0.GateField_To, .int .i64 a0.GateField_Role, .bool a0.GateField_Must, .bool a0.GateField_Fixed, .str a0.GateField_Default, .str a0.GateField_Weighs], .one (.row .e9 a1)] dec160 = G160n n a0 a1 := by
  kernel_rfl
noncomputable def G160 (a0 : VwordField) (a1 : List (C .e9)) : Option (Bool) := G160n fuel a0 a1
noncomputable def con160 : Con C := { R0 := Bool, ret := fun r => [(false, [.bool r])], g := fun vs => match vs with
  | [.agg [.str y0_0, .int .i64 y0_1, .int .i64 y0_2, .int .i64 y0_3, .row .e9 y0_4, .str y0_5, .int .i64 y0_6, .bool y0_7, .bool y0_8, .str y0_9, .str y0_10], .one (.row .e9 y1)] => G160 ⟨y0_0, y0_1, y0_2, y0_3, y0_4, y0_5, y0_6, y0_7, y0_8, y0_9, y0_10⟩ y1
  | _ => none }
theorem x160 : XOk Go.Proofs.Try.prog X160 := ⟨tks_ok, els_ok, mps_ok, meths_ok⟩
theorem q160 : Cons Go.Proofs.Try.prog X160 := ⟨lkR_ok (l := [(95, con95)]) ⟨c95, trivial⟩, lkW_ok (l := []) trivial, lkI_ok (l := []) trivial⟩
theorem c160 : ConOk Go.Proofs.Try.prog KK 160 con160 := by
  refine con_dec x160 q160 (by kernel_rfl) (f := 160) (fn := Go.Proofs.Try.f160) (c := bodyOf Go.Proofs.Try.f160) (by kernel_rfl) (by kernel_rfl) (by kernel_rfl) (nameB (by kernel_rfl)) con160 dec160 (fun rs r0 h => ?_) (fun vs r0 h => ?_)
  · unfold dec160 at h
    split at h
    · cases h; rfl
    · cases h
  · simp only [con160] at h
    split at h
    · rename_i y0_0 y0_1 y0_2 y0_3 y0_4 y0_5 y0_6 y0_7 y0_8 y0_9 y0_10 y1
      exact ⟨Nat.le_of_ble_eq_true (by kernel_rfl), F160 fuel, (t160 fuel ⟨y0_0, y0_1, y0_2, y0_3, y0_4, y0_5, y0_6, y0_7, y0_8, y0_9, y0_10⟩ y1).trans h⟩
    · cases h
/-! ### f161 (loop.example/wharfdesk/impl.textField).clean -/
noncomputable def X161 : Cx C := { K := KK, tk := lk tks, con := lkC [], conw := lkC [], inl := lkA [], hold := [], mp := lk mps, meth := lkS meths, off := 10551296 }
def F161 (n : Nat) : Cf := { N := n, keep := [0, 1, 2], live := lk [] }
def dec161 (rs : List (Bool × List (Lf C))) : Option (Bool) := match rs with
  | [(false, [.bool z0])] => some z0
  | _ => none
noncomputable def G161n (n : Nat) (a0 : VtextField) : Option (Bool) :=
      cond ((a0.GateField_Words.length : Int) == 0)
      (cond (decide (a0.GateField_To = (⟨#[]⟩ : ByteArray)))
      (cond (a0.GateField_Role == 0)
      (some (decide (a0.GateField_Weighs = (⟨#[]⟩ : ByteArray))))
      (some (false)))
      (some (false)))
      (some (false))
theorem t161 (n : Nat) (a0 : VtextField) : runFn X161 (F161 n) Go.Proofs.Try.f161 [.agg [.str a0.GateField_Name, .int .i64 a0.GateField_Kind, .int .i64 a0.GateField_Least, .int .i64 a0.GateField_Most, .row .e9 a0.GateField_Words, .str a0.GateField_To, .int .i64 a0.GateField_Role, .bool a0.GateField_Must, .bool a0.GateField_Fixed, .str a0.GateField_Default, .str a0.GateField_Weighs]] dec161 = G161n n a0 := by
  kernel_rfl
noncomputable def G161 (a0 : VtextField) : Option (Bool) := G161n fuel a0
noncomputable def con161 : Con C := { R0 := Bool, ret := fun r => [(false, [.bool r])], g := fun vs => match vs with
  | [.agg [.str y0_0, .int .i64 y0_1, .int .i64 y0_2, .int .i64 y0_3, .row .e9 y0_4, .str y0_5, .int .i64 y0_6, .bool y0_7, .bool y0_8, .str y0_9, .str y0_10]] => G161 ⟨y0_0, y0_1, y0_2, y0_3, y0_4, y0_5, y0_6, y0_7, y0_8, y0_9, y0_10⟩
  | _ => none }
theorem x161 : XOk Go.Proofs.Try.prog X161 := ⟨tks_ok, els_ok, mps_ok, meths_ok⟩
theorem q161 : Cons Go.Proofs.Try.prog X161 := ⟨lkR_ok (l := []) trivial, lkW_ok (l := []) trivial, lkI_ok (l := []) trivial⟩
theorem c161 : ConOk Go.Proofs.Try.prog KK 161 con161 := by
  refine con_dec x161 q161 (by kernel_rfl) (f := 161) (fn := Go.Proofs.Try.f161) (c := bodyOf Go.Proofs.Try.f161) (by kernel_rfl) (by kernel_rfl) (by kernel_rfl) (nameB (by kernel_rfl)) con161 dec161 (fun rs r0 h => ?_) (fun vs r0 h => ?_)
  · unfold dec161 at h
    split at h
    · cases h; rfl
    · cases h
  · simp only [con161] at h
    split at h
    · rename_i y0_0 y0_1 y0_2 y0_3 y0_4 y0_5 y0_6 y0_7 y0_8 y0_9 y0_10
      exact ⟨Nat.le_of_ble_eq_true (by kernel_rfl), F161 fuel, (t161 fuel ⟨y0_0, y0_1, y0_2, y0_3, y0_4, y0_5, y0_6, y0_7, y0_8, y0_9, y0_10⟩).trans h⟩
    · cases h
/-! ### f162 (loop.example/wharfdesk/impl.textField).fits -/
noncomputable def X162 : Cx C := { K := KK, tk := lk tks, con := lkC [], conw := lkC [], inl := lkA [], hold := [], mp := lk mps, meth := lkS meths, off := 10616832 }
def F162 (n : Nat) : Cf := { N := n, keep := [0, 1, 2, 4, 5, 19, 21, 22, 23, 34], live := lk [(0, [1, 21, 22])] }
def dec162 (rs : List (Bool × List (Lf C))) : Option (Bool) := match rs with
  | [(false, [.bool z0])] => some z0
  | _ => none
abbrev A162_0 : Type := ByteArray × Int × Int
def s162_0 : A162_0 → St C := fun (x0_0, x0_1, x0_2) => { env := [(1, .one (.str x0_0)), (21, .one (.int .i64 x0_1)), (22, .one (.int .i64 x0_2))], objs := [], base := 0 }
noncomputable def r162_0 (n : Nat)  (rec0 : A162_0 → Option (Bool)) : A162_0 → Option (Bool) := fun (x0_0, x0_1, x0_2) =>
      cond (decide (x0_2 < x0_1))
      (cond (decide (0 ≤ x0_2)) (cond (decide (x0_2 < (x0_0.size : Int))) (cond (decide ((sbt x0_0 x0_2) < 33))
      (some (false))
      (cond (decide (0 ≤ x0_2)) (cond (decide (x0_2 < (x0_0.size : Int))) (cond (decide ((sbt x0_0 x0_2) > 126))
      (some (false))
      (rec0 (x0_0, x0_1, IntKind.i64.wrap (x0_2 + 1)))) none) none)) none) none)
      (some (true))
noncomputable def LP162_0 (n : Nat)  (x : A162_0) : Option (Bool) := lpN (r162_0 n ) n x
noncomputable def MP162_0 (n : Nat)  (x : A162_0) : Option (Bool) := iter (fun rec S => run X162 (F162 n) (codeAt (bodyOf Go.Proofs.Try.f162) [1, 1, 0, 1, 0, 0]) 0 S (lopK rec (blkK 0 (seqK (run X162 (F162 n) (codeAt (bodyOf Go.Proofs.Try.f162) [1, 1, 1]) 0) (kTop X162 Go.Proofs.Try.f162 dec162))))) [1, 21, 22] n (s162_0 x)
theorem m162_0 (n : Nat)  (x : A162_0) : MP162_0 n  x = LP162_0 n  x := by
  refine iter_eq s162_0 (r162_0 n ) (fun rec0 x => ?_) n x
  obtain ⟨x0_0, x0_1, x0_2⟩ := x
  kernel_rfl
noncomputable def G162n (n : Nat) (a0 : VtextField) (a1 : ByteArray) : Option (Bool) :=
      cond (decide ((a1.size : Int) < a0.GateField_Least))
      (some (false))
      (cond (decide ((a1.size : Int) > a0.GateField_Most))
      (some (false))
      (LP162_0 n  (a1, (a1.size : Int), 0)))
theorem t162 (n : Nat) (a0 : VtextField) (a1 : ByteArray) : runFn X162 (F162 n) Go.Proofs.Try.f162 [.agg [.str a0.GateField_Name, .int .i64 a0.GateField_Kind, .int .i64 a0.GateField_Least, .int .i64 a0.GateField_Most, .row .e9 a0.GateField_Words, .str a0.GateField_To, .int .i64 a0.GateField_Role, .bool a0.GateField_Must, .bool a0.GateField_Fixed, .str a0.GateField_Default, .str a0.GateField_Weighs], .one (.str a1)] dec162 = G162n n a0 a1 := by
  have h : runFn X162 (F162 n) Go.Proofs.Try.f162 [.agg [.str a0.GateField_Name, .int .i64 a0.GateField_Kind, .int .i64 a0.GateField_Least, .int .i64 a0.GateField_Most, .row .e9 a0.GateField_Words, .str a0.GateField_To, .int .i64 a0.GateField_Role, .bool a0.GateField_Must, .bool a0.GateField_Fixed, .str a0.GateField_Default, .str a0.GateField_Weighs], .one (.str a1)] dec162 =
      cond (decide ((a1.size : Int) < a0.GateField_Least))
      (some (false))
      (cond (decide ((a1.size : Int) > a0.GateField_Most))
      (some (false))
      (MP162_0 n  (a1, (a1.size : Int), 0))) := by kernel_rfl
  simp only [h, G162n, m162_0]
noncomputable def G162 (a0 : VtextField) (a1 : ByteArray) : Option (Bool) := G162n fuel a0 a1
noncomputable def con162 : Con C := { R0 := Bool, ret := fun r => [(false, [.bool r])], g := fun vs => match vs with
  | [.agg [.str y0_0, .int .i64 y0_1, .int .i64 y0_2, .int .i64 y0_3, .row .e9 y0_4, .str y0_5, .int .i64 y0_6, .bool y0_7, .bool y0_8, .str y0_9, .str y0_10], .one (.str y1)] => G162 ⟨y0_0, y0_1, y0_2, y0_3, y0_4, y0_5, y0_6, y0_7, y0_8, y0_9, y0_10⟩ y1
  | _ => none }
theorem x162 : XOk Go.Proofs.Try.prog X162 := ⟨tks_ok, els_ok, mps_ok, meths_ok⟩
theorem q162 : Cons Go.Proofs.Try.prog X162 := ⟨lkR_ok (l := []) trivial, lkW_ok (l := []) trivial, lkI_ok (l := []) trivial⟩
theorem c162 : ConOk Go.Proofs.Try.prog KK 162 con162 := by
  refine con_dec x162 q162 (by kernel_rfl) (f := 162) (fn := Go.Proofs.Try.f162) (c := bodyOf Go.Proofs.Try.f162) (by kernel_rfl) (by kernel_rfl) (by kernel_rfl) (nameB (by kernel_rfl)) con162 dec162 (fun rs r0 h => ?_) (fun vs r0 h => ?_)
  · unfold dec162 at h
    split at h
    · cases h; rfl
    · cases h
  · simp only [con162] at h
    split at h
    · rename_i y0_0 y0_1 y0_2 y0_3 y0_4 y0_5 y0_6 y0_7 y0_8 y0_9 y0_10 y1
      exact ⟨Nat.le_of_ble_eq_true (by kernel_rfl), F162 fuel, (t162 fuel ⟨y0_0, y0_1, y0_2, y0_3, y0_4, y0_5, y0_6, y0_7, y0_8, y0_9, y0_10⟩ y1).trans h⟩
    · cases h
/-! ### f163 (loop.example/wharfdesk/impl.textField).sound -/
noncomputable def X163 : Cx C := { K := KK, tk := lk tks, con := lkC [], conw := lkC [], inl := lkA [], hold := [], mp := lk mps, meth := lkS meths, off := 10682368 }
def F163 (n : Nat) : Cf := { N := n, keep := [0, 2, 4], live := lk [] }
def dec163 (rs : List (Bool × List (Lf C))) : Option (Bool) := match rs with
  | [(false, [.bool z0])] => some z0
  | _ => none
noncomputable def G163n (n : Nat) (a0 : VtextField) (a1 : List (C .e9)) : Option (Bool) :=
      cond (decide (a0.GateField_Least ≥ 1))
      (cond (decide (a0.GateField_Least ≤ a0.GateField_Most))
      (some (decide (a0.GateField_Most ≤ 40)))
      (some (false)))
      (some (false))
theorem t163 (n : Nat) (a0 : VtextField) (a1 : List (C .e9)) : runFn X163 (F163 n) Go.Proofs.Try.f163 [.agg [.str a0.GateField_Name, .int .i64 a0.GateField_Kind, .int .i64 a0.GateField_Least, .int .i64 a0.GateField_Most, .row .e9 a0.GateField_Words, .str a0.GateField_To, .int .i64 a0.GateField_Role, .bool a0.GateField_Must, .bool a0.GateField_Fixed, .str a0.GateField_Default, .str a0.GateField_Weighs], .one (.row .e9 a1)] dec163 = G163n n a0 a1 := by
  kernel_rfl
noncomputable def G163 (a0 : VtextField) (a1 : List (C .e9)) : Option (Bool) := G163n fuel a0 a1
noncomputable def con163 : Con C := { R0 := Bool, ret := fun r => [(false, [.bool r])], g := fun vs => match vs with
  | [.agg [.str y0_0, .int .i64 y0_1, .int .i64 y0_2, .int .i64 y0_3, .row .e9 y0_4, .str y0_5, .int .i64 y0_6, .bool y0_7, .bool y0_8, .str y0_9, .str y0_10], .one (.row .e9 y1)] => G163 ⟨y0_0, y0_1, y0_2, y0_3, y0_4, y0_5, y0_6, y0_7, y0_8, y0_9, y0_10⟩ y1
  | _ => none }
theorem x163 : XOk Go.Proofs.Try.prog X163 := ⟨tks_ok, els_ok, mps_ok, meths_ok⟩
theorem q163 : Cons Go.Proofs.Try.prog X163 := ⟨lkR_ok (l := []) trivial, lkW_ok (l := []) trivial, lkI_ok (l := []) trivial⟩
theorem c163 : ConOk Go.Proofs.Try.prog KK 163 con163 := by
  refine con_dec x163 q163 (by kernel_rfl) (f := 163) (fn := Go.Proofs.Try.f163) (c := bodyOf Go.Proofs.Try.f163) (by kernel_rfl) (by kernel_rfl) (by kernel_rfl) (nameB (by kernel_rfl)) con163 dec163 (fun rs r0 h => ?_) (fun vs r0 h => ?_)
  · unfold dec163 at h
    split at h
    · cases h; rfl
    · cases h
  · simp only [con163] at h
    split at h
    · rename_i y0_0 y0_1 y0_2 y0_3 y0_4 y0_5 y0_6 y0_7 y0_8 y0_9 y0_10 y1
      exact ⟨Nat.le_of_ble_eq_true (by kernel_rfl), F163 fuel, (t163 fuel ⟨y0_0, y0_1, y0_2, y0_3, y0_4, y0_5, y0_6, y0_7, y0_8, y0_9, y0_10⟩ y1).trans h⟩
    · cases h
/-! ### f164 (loop.example/wharfdesk/impl.linkField).clean -/
noncomputable def X164 : Cx C := { K := KK, tk := lk tks, con := lkC [], conw := lkC [], inl := lkA [], hold := [], mp := lk mps, meth := lkS meths, off := 10747904 }
def F164 (n : Nat) : Cf := { N := n, keep := [0, 1, 2], live := lk [] }
def dec164 (rs : List (Bool × List (Lf C))) : Option (Bool) := match rs with
  | [(false, [.bool z0])] => some z0
  | _ => none
noncomputable def G164n (n : Nat) (a0 : VlinkField) : Option (Bool) :=
      cond (a0.GateField_Least == 0)
      (cond (a0.GateField_Most == 0)
      (cond ((a0.GateField_Words.length : Int) == 0)
      (some (decide (a0.GateField_Weighs = (⟨#[]⟩ : ByteArray))))
      (some (false)))
      (some (false)))
      (some (false))
theorem t164 (n : Nat) (a0 : VlinkField) : runFn X164 (F164 n) Go.Proofs.Try.f164 [.agg [.str a0.GateField_Name, .int .i64 a0.GateField_Kind, .int .i64 a0.GateField_Least, .int .i64 a0.GateField_Most, .row .e9 a0.GateField_Words, .str a0.GateField_To, .int .i64 a0.GateField_Role, .bool a0.GateField_Must, .bool a0.GateField_Fixed, .str a0.GateField_Default, .str a0.GateField_Weighs]] dec164 = G164n n a0 := by
  kernel_rfl
noncomputable def G164 (a0 : VlinkField) : Option (Bool) := G164n fuel a0
noncomputable def con164 : Con C := { R0 := Bool, ret := fun r => [(false, [.bool r])], g := fun vs => match vs with
  | [.agg [.str y0_0, .int .i64 y0_1, .int .i64 y0_2, .int .i64 y0_3, .row .e9 y0_4, .str y0_5, .int .i64 y0_6, .bool y0_7, .bool y0_8, .str y0_9, .str y0_10]] => G164 ⟨y0_0, y0_1, y0_2, y0_3, y0_4, y0_5, y0_6, y0_7, y0_8, y0_9, y0_10⟩
  | _ => none }
theorem x164 : XOk Go.Proofs.Try.prog X164 := ⟨tks_ok, els_ok, mps_ok, meths_ok⟩
theorem q164 : Cons Go.Proofs.Try.prog X164 := ⟨lkR_ok (l := []) trivial, lkW_ok (l := []) trivial, lkI_ok (l := []) trivial⟩
theorem c164 : ConOk Go.Proofs.Try.prog KK 164 con164 := by
  refine con_dec x164 q164 (by kernel_rfl) (f := 164) (fn := Go.Proofs.Try.f164) (c := bodyOf Go.Proofs.Try.f164) (by kernel_rfl) (by kernel_rfl) (by kernel_rfl) (nameB (by kernel_rfl)) con164 dec164 (fun rs r0 h => ?_) (fun vs r0 h => ?_)
  · unfold dec164 at h
    split at h
    · cases h; rfl
    · cases h
  · simp only [con164] at h
    split at h
    · rename_i y0_0 y0_1 y0_2 y0_3 y0_4 y0_5 y0_6 y0_7 y0_8 y0_9 y0_10
      exact ⟨Nat.le_of_ble_eq_true (by kernel_rfl), F164 fuel, (t164 fuel ⟨y0_0, y0_1, y0_2, y0_3, y0_4, y0_5, y0_6, y0_7, y0_8, y0_9, y0_10⟩).trans h⟩
    · cases h

end Go.Proofs.Ytkiognopoigbhaa.Ab

