/- A codec, printed by codec.py: structures, cells, the table of types and its facts. -/
import Derived.Test.YtjodpeldfebhfaaGreatP3
import Derived.Test.YtjodpeldfebhfaaGreatProg
import Derived.KernelRfl
set_option linter.unusedVariables false
set_option linter.unusedSimpArgs false
namespace Go.Proofs.YtjodpeldfebhfaaGreat.Ab
open Go Go.RowKit
inductive Ty where
  | e3
  | e9
  | e26
  | e30
  | e32
  | e36
  | e37
  | e40
  | e42
  | e44
  | e51
  | e56
  | e85
  | e90
  | e93
  | e96
  | e103
  | e105
  | e110
  | e112
  | e127
  | e144
  | e146
  | e166
  | e167
  | e168
  | e169
  | e170
  | e208
  deriving DecidableEq
structure VGateField where
  Name : ByteArray
  Kind : Int
  Least : Int
  Most : Int
  Words : List ByteArray
  To : ByteArray
  Role : Int
  Must : Bool
  Fixed : Bool
  Default : ByteArray
  Weighs : ByteArray
structure VGateShape where
  Kind : ByteArray
  Fields : List VGateField
structure VGateMend where
  Kind : ByteArray
  Field : ByteArray
  When : ByteArray
  Is : ByteArray
  Put : ByteArray
  From : ByteArray
structure VGateTeam where
  Name : ByteArray
  Over : ByteArray
structure VGateLaw where
  Shapes : List VGateShape
  Mends : List VGateMend
  Teams : List VGateTeam
structure VGateRule where
  Verbs : List Int
  Kind : ByteArray
  Team : ByteArray
  Prefix : ByteArray
structure VGateAsk where
  Who : ByteArray
  Verb : Int
  Kind : ByteArray
  Name : ByteArray
  Team : ByteArray
  Values : List ByteArray
  Holds : List ByteArray
  Seen : Int
  Hold : ByteArray
  To : ByteArray
  Rule_Verbs : List Int
  Rule_Kind : ByteArray
  Rule_Team : ByteArray
  Rule_Prefix : ByteArray
  Number : Int
structure VGateWant where
  Kind : ByteArray
  Name : ByteArray
  Version : Int
structure VGateSlip where
  Door : ByteArray
  Ask_Who : ByteArray
  Ask_Verb : Int
  Ask_Kind : ByteArray
  Ask_Name : ByteArray
  Ask_Team : ByteArray
  Ask_Values : List ByteArray
  Ask_Holds : List ByteArray
  Ask_Seen : Int
  Ask_Hold : ByteArray
  Ask_To : ByteArray
  Ask_Rule_Verbs : List Int
  Ask_Rule_Kind : ByteArray
  Ask_Rule_Team : ByteArray
  Ask_Rule_Prefix : ByteArray
  Ask_Number : Int
  Given : Int
  Wants : List VGateWant
structure VnumberField where
  GateField_Name : ByteArray
  GateField_Kind : Int
  GateField_Least : Int
  GateField_Most : Int
  GateField_Words : List ByteArray
  GateField_To : ByteArray
  GateField_Role : Int
  GateField_Must : Bool
  GateField_Fixed : Bool
  GateField_Default : ByteArray
  GateField_Weighs : ByteArray
structure VwordField where
  GateField_Name : ByteArray
  GateField_Kind : Int
  GateField_Least : Int
  GateField_Most : Int
  GateField_Words : List ByteArray
  GateField_To : ByteArray
  GateField_Role : Int
  GateField_Must : Bool
  GateField_Fixed : Bool
  GateField_Default : ByteArray
  GateField_Weighs : ByteArray
structure VtextField where
  GateField_Name : ByteArray
  GateField_Kind : Int
  GateField_Least : Int
  GateField_Most : Int
  GateField_Words : List ByteArray
  GateField_To : ByteArray
  GateField_Role : Int
  GateField_Must : Bool
  GateField_Fixed : Bool
  GateField_Default : ByteArray
  GateField_Weighs : ByteArray
structure VlinkField where
  GateField_Name : ByteArray
  GateField_Kind : Int
  GateField_Least : Int
  GateField_Most : Int
  GateField_Words : List ByteArray
  GateField_To : ByteArray
  GateField_Role : Int
  GateField_Must : Bool
  GateField_Fixed : Bool
  GateField_Default : ByteArray
  GateField_Weighs : ByteArray
structure VGateObject where
  Kind : ByteArray
  Name : ByteArray
  Team : ByteArray
  Values : List ByteArray
  Ending : Bool
  Holds : List ByteArray
  Version : Int
structure VboundsError where
  x : Int
  y : Int
  signed : Bool
  code : Int
structure VerrorAddressString where
  msg : ByteArray
  addr : Int
abbrev C : Ty → Type
  | .e3 => Int
  | .e9 => ByteArray
  | .e26 => VGateLaw
  | .e30 => VGateRule
  | .e32 => VGateAsk
  | .e36 => List VGateShape
  | .e37 => List VGateMend
  | .e40 => VGateLaw
  | .e42 => VGateRule
  | .e44 => VGateAsk
  | .e51 => VGateSlip
  | .e56 => VGateSlip
  | .e85 => VGateWant
  | .e90 => VGateShape
  | .e93 => VGateMend
  | .e96 => VGateTeam
  | .e103 => List VGateField
  | .e105 => VGateShape
  | .e110 => VGateMend
  | .e112 => VGateTeam
  | .e127 => VGateWant
  | .e144 => VGateField
  | .e146 => VGateField
  | .e166 => VnumberField
  | .e167 => Option Nat
  | .e168 => VwordField
  | .e169 => VtextField
  | .e170 => VlinkField
  | .e208 => VGateObject
def enc : (t : Ty) → C t → List (Lf C)
  | .e3, x => [.int .i64 x]
  | .e9, x => [.str x]
  | .e26, x => [.row .e90 x.Shapes, .row .e93 x.Mends, .row .e96 x.Teams]
  | .e30, x => [.row .e3 x.Verbs, .str x.Kind, .str x.Team, .str x.Prefix]
  | .e32, x => [.str x.Who, .int .i64 x.Verb, .str x.Kind, .str x.Name, .str x.Team, .row .e9 x.Values, .row .e9 x.Holds, .int .i64 x.Seen, .str x.Hold, .str x.To, .row .e3 x.Rule_Verbs, .str x.Rule_Kind, .str x.Rule_Team, .str x.Rule_Prefix, .int .i64 x.Number]
  | .e36, x => [.row .e105 x]
  | .e37, x => [.row .e110 x]
  | .e40, x => [.row .e105 x.Shapes, .row .e110 x.Mends, .row .e112 x.Teams]
  | .e42, x => [.row .e3 x.Verbs, .str x.Kind, .str x.Team, .str x.Prefix]
  | .e44, x => [.str x.Who, .int .i64 x.Verb, .str x.Kind, .str x.Name, .str x.Team, .row .e9 x.Values, .row .e9 x.Holds, .int .i64 x.Seen, .str x.Hold, .str x.To, .row .e3 x.Rule_Verbs, .str x.Rule_Kind, .str x.Rule_Team, .str x.Rule_Prefix, .int .i64 x.Number]
  | .e51, x => [.str x.Door, .str x.Ask_Who, .int .i64 x.Ask_Verb, .str x.Ask_Kind, .str x.Ask_Name, .str x.Ask_Team, .row .e9 x.Ask_Values, .row .e9 x.Ask_Holds, .int .i64 x.Ask_Seen, .str x.Ask_Hold, .str x.Ask_To, .row .e3 x.Ask_Rule_Verbs, .str x.Ask_Rule_Kind, .str x.Ask_Rule_Team, .str x.Ask_Rule_Prefix, .int .i64 x.Ask_Number, .int .i64 x.Given, .row .e127 x.Wants]
  | .e56, x => [.str x.Door, .str x.Ask_Who, .int .i64 x.Ask_Verb, .str x.Ask_Kind, .str x.Ask_Name, .str x.Ask_Team, .row .e9 x.Ask_Values, .row .e9 x.Ask_Holds, .int .i64 x.Ask_Seen, .str x.Ask_Hold, .str x.Ask_To, .row .e3 x.Ask_Rule_Verbs, .str x.Ask_Rule_Kind, .str x.Ask_Rule_Team, .str x.Ask_Rule_Prefix, .int .i64 x.Ask_Number, .int .i64 x.Given, .row .e85 x.Wants]
  | .e85, x => [.str x.Kind, .str x.Name, .int .i64 x.Version]
  | .e90, x => [.str x.Kind, .row .e144 x.Fields]
  | .e93, x => [.str x.Kind, .str x.Field, .str x.When, .str x.Is, .str x.Put, .str x.From]
  | .e96, x => [.str x.Name, .str x.Over]
  | .e103, x => [.row .e146 x]
  | .e105, x => [.str x.Kind, .row .e146 x.Fields]
  | .e110, x => [.str x.Kind, .str x.Field, .str x.When, .str x.Is, .str x.Put, .str x.From]
  | .e112, x => [.str x.Name, .str x.Over]
  | .e127, x => [.str x.Kind, .str x.Name, .int .i64 x.Version]
  | .e144, x => [.str x.Name, .int .i64 x.Kind, .int .i64 x.Least, .int .i64 x.Most, .row .e9 x.Words, .str x.To, .int .i64 x.Role, .bool x.Must, .bool x.Fixed, .str x.Default, .str x.Weighs]
  | .e146, x => [.str x.Name, .int .i64 x.Kind, .int .i64 x.Least, .int .i64 x.Most, .row .e9 x.Words, .str x.To, .int .i64 x.Role, .bool x.Must, .bool x.Fixed, .str x.Default, .str x.Weighs]
  | .e166, x => [.str x.GateField_Name, .int .i64 x.GateField_Kind, .int .i64 x.GateField_Least, .int .i64 x.GateField_Most, .row .e9 x.GateField_Words, .str x.GateField_To, .int .i64 x.GateField_Role, .bool x.GateField_Must, .bool x.GateField_Fixed, .str x.GateField_Default, .str x.GateField_Weighs]
  | .e167, x => [.fnc x]
  | .e168, x => [.str x.GateField_Name, .int .i64 x.GateField_Kind, .int .i64 x.GateField_Least, .int .i64 x.GateField_Most, .row .e9 x.GateField_Words, .str x.GateField_To, .int .i64 x.GateField_Role, .bool x.GateField_Must, .bool x.GateField_Fixed, .str x.GateField_Default, .str x.GateField_Weighs]
  | .e169, x => [.str x.GateField_Name, .int .i64 x.GateField_Kind, .int .i64 x.GateField_Least, .int .i64 x.GateField_Most, .row .e9 x.GateField_Words, .str x.GateField_To, .int .i64 x.GateField_Role, .bool x.GateField_Must, .bool x.GateField_Fixed, .str x.GateField_Default, .str x.GateField_Weighs]
  | .e170, x => [.str x.GateField_Name, .int .i64 x.GateField_Kind, .int .i64 x.GateField_Least, .int .i64 x.GateField_Most, .row .e9 x.GateField_Words, .str x.GateField_To, .int .i64 x.GateField_Role, .bool x.GateField_Must, .bool x.GateField_Fixed, .str x.GateField_Default, .str x.GateField_Weighs]
  | .e208, x => [.str x.Kind, .str x.Name, .str x.Team, .row .e9 x.Values, .bool x.Ending, .row .e9 x.Holds, .int .i64 x.Version]
def d3 (cs : List (Lf C)) : Option (C .e3) := match cs with
  | [.int .i64 x] => some x
  | _ => none
theorem d3_ok (cs : List (Lf C)) (x : C .e3) (h : d3 cs = some x) : enc .e3 x = cs := by
  unfold d3 at h
  split at h
  · cases h; rfl
  · cases h
def d9 (cs : List (Lf C)) : Option (C .e9) := match cs with
  | [.str x] => some x
  | _ => none
theorem d9_ok (cs : List (Lf C)) (x : C .e9) (h : d9 cs = some x) : enc .e9 x = cs := by
  unfold d9 at h
  split at h
  · cases h; rfl
  · cases h
def d26 (cs : List (Lf C)) : Option (C .e26) := match cs with
  | [.row .e90 x0, .row .e93 x1, .row .e96 x2] => some ⟨x0, x1, x2⟩
  | _ => none
theorem d26_ok (cs : List (Lf C)) (x : C .e26) (h : d26 cs = some x) : enc .e26 x = cs := by
  unfold d26 at h
  split at h
  · cases h; rfl
  · cases h
def d30 (cs : List (Lf C)) : Option (C .e30) := match cs with
  | [.row .e3 x0, .str x1, .str x2, .str x3] => some ⟨x0, x1, x2, x3⟩
  | _ => none
theorem d30_ok (cs : List (Lf C)) (x : C .e30) (h : d30 cs = some x) : enc .e30 x = cs := by
  unfold d30 at h
  split at h
  · cases h; rfl
  · cases h
def d32 (cs : List (Lf C)) : Option (C .e32) := match cs with
  | [.str x0, .int .i64 x1, .str x2, .str x3, .str x4, .row .e9 x5, .row .e9 x6, .int .i64 x7, .str x8, .str x9, .row .e3 x10, .str x11, .str x12, .str x13, .int .i64 x14] => some ⟨x0, x1, x2, x3, x4, x5, x6, x7, x8, x9, x10, x11, x12, x13, x14⟩
  | _ => none
theorem d32_ok (cs : List (Lf C)) (x : C .e32) (h : d32 cs = some x) : enc .e32 x = cs := by
  unfold d32 at h
  split at h
  · cases h; rfl
  · cases h
def d36 (cs : List (Lf C)) : Option (C .e36) := match cs with
  | [.row .e105 x] => some x
  | _ => none
theorem d36_ok (cs : List (Lf C)) (x : C .e36) (h : d36 cs = some x) : enc .e36 x = cs := by
  unfold d36 at h
  split at h
  · cases h; rfl
  · cases h
def d37 (cs : List (Lf C)) : Option (C .e37) := match cs with
  | [.row .e110 x] => some x
  | _ => none
theorem d37_ok (cs : List (Lf C)) (x : C .e37) (h : d37 cs = some x) : enc .e37 x = cs := by
  unfold d37 at h
  split at h
  · cases h; rfl
  · cases h
def d40 (cs : List (Lf C)) : Option (C .e40) := match cs with
  | [.row .e105 x0, .row .e110 x1, .row .e112 x2] => some ⟨x0, x1, x2⟩
  | _ => none
theorem d40_ok (cs : List (Lf C)) (x : C .e40) (h : d40 cs = some x) : enc .e40 x = cs := by
  unfold d40 at h
  split at h
  · cases h; rfl
  · cases h
def d42 (cs : List (Lf C)) : Option (C .e42) := match cs with
  | [.row .e3 x0, .str x1, .str x2, .str x3] => some ⟨x0, x1, x2, x3⟩
  | _ => none
theorem d42_ok (cs : List (Lf C)) (x : C .e42) (h : d42 cs = some x) : enc .e42 x = cs := by
  unfold d42 at h
  split at h
  · cases h; rfl
  · cases h
def d44 (cs : List (Lf C)) : Option (C .e44) := match cs with
  | [.str x0, .int .i64 x1, .str x2, .str x3, .str x4, .row .e9 x5, .row .e9 x6, .int .i64 x7, .str x8, .str x9, .row .e3 x10, .str x11, .str x12, .str x13, .int .i64 x14] => some ⟨x0, x1, x2, x3, x4, x5, x6, x7, x8, x9, x10, x11, x12, x13, x14⟩
  | _ => none
theorem d44_ok (cs : List (Lf C)) (x : C .e44) (h : d44 cs = some x) : enc .e44 x = cs := by
  unfold d44 at h
  split at h
  · cases h; rfl
  · cases h
def d51 (cs : List (Lf C)) : Option (C .e51) := match cs with
  | [.str x0, .str x1, .int .i64 x2, .str x3, .str x4, .str x5, .row .e9 x6, .row .e9 x7, .int .i64 x8, .str x9, .str x10, .row .e3 x11, .str x12, .str x13, .str x14, .int .i64 x15, .int .i64 x16, .row .e127 x17] => some ⟨x0, x1, x2, x3, x4, x5, x6, x7, x8, x9, x10, x11, x12, x13, x14, x15, x16, x17⟩
  | _ => none
theorem d51_ok (cs : List (Lf C)) (x : C .e51) (h : d51 cs = some x) : enc .e51 x = cs := by
  unfold d51 at h
  split at h
  · cases h; rfl
  · cases h
def d56 (cs : List (Lf C)) : Option (C .e56) := match cs with
  | [.str x0, .str x1, .int .i64 x2, .str x3, .str x4, .str x5, .row .e9 x6, .row .e9 x7, .int .i64 x8, .str x9, .str x10, .row .e3 x11, .str x12, .str x13, .str x14, .int .i64 x15, .int .i64 x16, .row .e85 x17] => some ⟨x0, x1, x2, x3, x4, x5, x6, x7, x8, x9, x10, x11, x12, x13, x14, x15, x16, x17⟩
  | _ => none
theorem d56_ok (cs : List (Lf C)) (x : C .e56) (h : d56 cs = some x) : enc .e56 x = cs := by
  unfold d56 at h
  split at h
  · cases h; rfl
  · cases h
def d85 (cs : List (Lf C)) : Option (C .e85) := match cs with
  | [.str x0, .str x1, .int .i64 x2] => some ⟨x0, x1, x2⟩
  | _ => none
theorem d85_ok (cs : List (Lf C)) (x : C .e85) (h : d85 cs = some x) : enc .e85 x = cs := by
  unfold d85 at h
  split at h
  · cases h; rfl
  · cases h
def d90 (cs : List (Lf C)) : Option (C .e90) := match cs with
  | [.str x0, .row .e144 x1] => some ⟨x0, x1⟩
  | _ => none
theorem d90_ok (cs : List (Lf C)) (x : C .e90) (h : d90 cs = some x) : enc .e90 x = cs := by
  unfold d90 at h
  split at h
  · cases h; rfl
  · cases h
def d93 (cs : List (Lf C)) : Option (C .e93) := match cs with
  | [.str x0, .str x1, .str x2, .str x3, .str x4, .str x5] => some ⟨x0, x1, x2, x3, x4, x5⟩
  | _ => none
theorem d93_ok (cs : List (Lf C)) (x : C .e93) (h : d93 cs = some x) : enc .e93 x = cs := by
  unfold d93 at h
  split at h
  · cases h; rfl
  · cases h
def d96 (cs : List (Lf C)) : Option (C .e96) := match cs with
  | [.str x0, .str x1] => some ⟨x0, x1⟩
  | _ => none
theorem d96_ok (cs : List (Lf C)) (x : C .e96) (h : d96 cs = some x) : enc .e96 x = cs := by
  unfold d96 at h
  split at h
  · cases h; rfl
  · cases h
def d103 (cs : List (Lf C)) : Option (C .e103) := match cs with
  | [.row .e146 x] => some x
  | _ => none
theorem d103_ok (cs : List (Lf C)) (x : C .e103) (h : d103 cs = some x) : enc .e103 x = cs := by
  unfold d103 at h
  split at h
  · cases h; rfl
  · cases h
def d105 (cs : List (Lf C)) : Option (C .e105) := match cs with
  | [.str x0, .row .e146 x1] => some ⟨x0, x1⟩
  | _ => none
theorem d105_ok (cs : List (Lf C)) (x : C .e105) (h : d105 cs = some x) : enc .e105 x = cs := by
  unfold d105 at h
  split at h
  · cases h; rfl
  · cases h
def d110 (cs : List (Lf C)) : Option (C .e110) := match cs with
  | [.str x0, .str x1, .str x2, .str x3, .str x4, .str x5] => some ⟨x0, x1, x2, x3, x4, x5⟩
  | _ => none
theorem d110_ok (cs : List (Lf C)) (x : C .e110) (h : d110 cs = some x) : enc .e110 x = cs := by
  unfold d110 at h
  split at h
  · cases h; rfl
  · cases h
def d112 (cs : List (Lf C)) : Option (C .e112) := match cs with
  | [.str x0, .str x1] => some ⟨x0, x1⟩
  | _ => none
theorem d112_ok (cs : List (Lf C)) (x : C .e112) (h : d112 cs = some x) : enc .e112 x = cs := by
  unfold d112 at h
  split at h
  · cases h; rfl
  · cases h
def d127 (cs : List (Lf C)) : Option (C .e127) := match cs with
  | [.str x0, .str x1, .int .i64 x2] => some ⟨x0, x1, x2⟩
  | _ => none
theorem d127_ok (cs : List (Lf C)) (x : C .e127) (h : d127 cs = some x) : enc .e127 x = cs := by
  unfold d127 at h
  split at h
  · cases h; rfl
  · cases h
def d144 (cs : List (Lf C)) : Option (C .e144) := match cs with
  | [.str x0, .int .i64 x1, .int .i64 x2, .int .i64 x3, .row .e9 x4, .str x5, .int .i64 x6, .bool x7, .bool x8, .str x9, .str x10] => some ⟨x0, x1, x2, x3, x4, x5, x6, x7, x8, x9, x10⟩
  | _ => none
theorem d144_ok (cs : List (Lf C)) (x : C .e144) (h : d144 cs = some x) : enc .e144 x = cs := by
  unfold d144 at h
  split at h
  · cases h; rfl
  · cases h
def d146 (cs : List (Lf C)) : Option (C .e146) := match cs with
  | [.str x0, .int .i64 x1, .int .i64 x2, .int .i64 x3, .row .e9 x4, .str x5, .int .i64 x6, .bool x7, .bool x8, .str x9, .str x10] => some ⟨x0, x1, x2, x3, x4, x5, x6, x7, x8, x9, x10⟩
  | _ => none
theorem d146_ok (cs : List (Lf C)) (x : C .e146) (h : d146 cs = some x) : enc .e146 x = cs := by
  unfold d146 at h
  split at h
  · cases h; rfl
  · cases h
def d166 (cs : List (Lf C)) : Option (C .e166) := match cs with
  | [.str x0, .int .i64 x1, .int .i64 x2, .int .i64 x3, .row .e9 x4, .str x5, .int .i64 x6, .bool x7, .bool x8, .str x9, .str x10] => some ⟨x0, x1, x2, x3, x4, x5, x6, x7, x8, x9, x10⟩
  | _ => none
theorem d166_ok (cs : List (Lf C)) (x : C .e166) (h : d166 cs = some x) : enc .e166 x = cs := by
  unfold d166 at h
  split at h
  · cases h; rfl
  · cases h
def d167 (cs : List (Lf C)) : Option (C .e167) := match cs with
  | [.fnc x] => some x
  | _ => none
theorem d167_ok (cs : List (Lf C)) (x : C .e167) (h : d167 cs = some x) : enc .e167 x = cs := by
  unfold d167 at h
  split at h
  · cases h; rfl
  · cases h
def d168 (cs : List (Lf C)) : Option (C .e168) := match cs with
  | [.str x0, .int .i64 x1, .int .i64 x2, .int .i64 x3, .row .e9 x4, .str x5, .int .i64 x6, .bool x7, .bool x8, .str x9, .str x10] => some ⟨x0, x1, x2, x3, x4, x5, x6, x7, x8, x9, x10⟩
  | _ => none
theorem d168_ok (cs : List (Lf C)) (x : C .e168) (h : d168 cs = some x) : enc .e168 x = cs := by
  unfold d168 at h
  split at h
  · cases h; rfl
  · cases h
def d169 (cs : List (Lf C)) : Option (C .e169) := match cs with
  | [.str x0, .int .i64 x1, .int .i64 x2, .int .i64 x3, .row .e9 x4, .str x5, .int .i64 x6, .bool x7, .bool x8, .str x9, .str x10] => some ⟨x0, x1, x2, x3, x4, x5, x6, x7, x8, x9, x10⟩
  | _ => none
theorem d169_ok (cs : List (Lf C)) (x : C .e169) (h : d169 cs = some x) : enc .e169 x = cs := by
  unfold d169 at h
  split at h
  · cases h; rfl
  · cases h
def d170 (cs : List (Lf C)) : Option (C .e170) := match cs with
  | [.str x0, .int .i64 x1, .int .i64 x2, .int .i64 x3, .row .e9 x4, .str x5, .int .i64 x6, .bool x7, .bool x8, .str x9, .str x10] => some ⟨x0, x1, x2, x3, x4, x5, x6, x7, x8, x9, x10⟩
  | _ => none
theorem d170_ok (cs : List (Lf C)) (x : C .e170) (h : d170 cs = some x) : enc .e170 x = cs := by
  unfold d170 at h
  split at h
  · cases h; rfl
  · cases h
def d208 (cs : List (Lf C)) : Option (C .e208) := match cs with
  | [.str x0, .str x1, .str x2, .row .e9 x3, .bool x4, .row .e9 x5, .int .i64 x6] => some ⟨x0, x1, x2, x3, x4, x5, x6⟩
  | _ => none
theorem d208_ok (cs : List (Lf C)) (x : C .e208) (h : d208 cs = some x) : enc .e208 x = cs := by
  unfold d208 at h
  split at h
  · cases h; rfl
  · cases h
def dec (t : Ty) : List (Lf C) → Option (C t) := match t with
  | .e3 => d3
  | .e9 => d9
  | .e26 => d26
  | .e30 => d30
  | .e32 => d32
  | .e36 => d36
  | .e37 => d37
  | .e40 => d40
  | .e42 => d42
  | .e44 => d44
  | .e51 => d51
  | .e56 => d56
  | .e85 => d85
  | .e90 => d90
  | .e93 => d93
  | .e96 => d96
  | .e103 => d103
  | .e105 => d105
  | .e110 => d110
  | .e112 => d112
  | .e127 => d127
  | .e144 => d144
  | .e146 => d146
  | .e166 => d166
  | .e167 => d167
  | .e168 => d168
  | .e169 => d169
  | .e170 => d170
  | .e208 => d208
noncomputable def KK : Cd C where
  enc := enc
  dec := dec
  sz := fun t => match t with
    | .e3 => 1
    | .e9 => 1
    | .e26 => 3
    | .e30 => 4
    | .e32 => 15
    | .e36 => 1
    | .e37 => 1
    | .e40 => 3
    | .e42 => 4
    | .e44 => 15
    | .e51 => 18
    | .e56 => 18
    | .e85 => 3
    | .e90 => 2
    | .e93 => 6
    | .e96 => 2
    | .e103 => 1
    | .e105 => 2
    | .e110 => 6
    | .e112 => 2
    | .e127 => 3
    | .e144 => 11
    | .e146 => 11
    | .e166 => 11
    | .e167 => 1
    | .e168 => 11
    | .e169 => 11
    | .e170 => 11
    | .e208 => 7
  tid := fun t => match t with
    | .e3 => 3
    | .e9 => 9
    | .e26 => 26
    | .e30 => 30
    | .e32 => 32
    | .e36 => 36
    | .e37 => 37
    | .e40 => 40
    | .e42 => 42
    | .e44 => 44
    | .e51 => 51
    | .e56 => 56
    | .e85 => 85
    | .e90 => 90
    | .e93 => 93
    | .e96 => 96
    | .e103 => 103
    | .e105 => 105
    | .e110 => 110
    | .e112 => 112
    | .e127 => 127
    | .e144 => 144
    | .e146 => 146
    | .e166 => 166
    | .e167 => 167
    | .e168 => 168
    | .e169 => 169
    | .e170 => 170
    | .e208 => 208
  bytes := fun t => match t with
    | .e3 => 8
    | .e9 => 16
    | .e26 => 72
    | .e30 => 72
    | .e32 => 240
    | .e36 => 24
    | .e37 => 24
    | .e40 => 72
    | .e42 => 72
    | .e44 => 240
    | .e51 => 288
    | .e56 => 288
    | .e85 => 40
    | .e90 => 40
    | .e93 => 96
    | .e96 => 32
    | .e103 => 24
    | .e105 => 40
    | .e110 => 96
    | .e112 => 32
    | .e127 => 40
    | .e144 => 128
    | .e146 => 128
    | .e166 => 128
    | .e167 => 8
    | .e168 => 128
    | .e169 => 128
    | .e170 => 128
    | .e208 => 112
  zero := fun t => match t with
    | .e3 => (0 : Int)
    | .e9 => (⟨#[]⟩ : ByteArray)
    | .e26 => (⟨[], [], []⟩ : VGateLaw)
    | .e30 => (⟨[], ⟨#[]⟩, ⟨#[]⟩, ⟨#[]⟩⟩ : VGateRule)
    | .e32 => (⟨⟨#[]⟩, 0, ⟨#[]⟩, ⟨#[]⟩, ⟨#[]⟩, [], [], 0, ⟨#[]⟩, ⟨#[]⟩, [], ⟨#[]⟩, ⟨#[]⟩, ⟨#[]⟩, 0⟩ : VGateAsk)
    | .e36 => ([] : List VGateShape)
    | .e37 => ([] : List VGateMend)
    | .e40 => (⟨[], [], []⟩ : VGateLaw)
    | .e42 => (⟨[], ⟨#[]⟩, ⟨#[]⟩, ⟨#[]⟩⟩ : VGateRule)
    | .e44 => (⟨⟨#[]⟩, 0, ⟨#[]⟩, ⟨#[]⟩, ⟨#[]⟩, [], [], 0, ⟨#[]⟩, ⟨#[]⟩, [], ⟨#[]⟩, ⟨#[]⟩, ⟨#[]⟩, 0⟩ : VGateAsk)
    | .e51 => (⟨⟨#[]⟩, ⟨#[]⟩, 0, ⟨#[]⟩, ⟨#[]⟩, ⟨#[]⟩, [], [], 0, ⟨#[]⟩, ⟨#[]⟩, [], ⟨#[]⟩, ⟨#[]⟩, ⟨#[]⟩, 0, 0, []⟩ : VGateSlip)
    | .e56 => (⟨⟨#[]⟩, ⟨#[]⟩, 0, ⟨#[]⟩, ⟨#[]⟩, ⟨#[]⟩, [], [], 0, ⟨#[]⟩, ⟨#[]⟩, [], ⟨#[]⟩, ⟨#[]⟩, ⟨#[]⟩, 0, 0, []⟩ : VGateSlip)
    | .e85 => (⟨⟨#[]⟩, ⟨#[]⟩, 0⟩ : VGateWant)
    | .e90 => (⟨⟨#[]⟩, []⟩ : VGateShape)
    | .e93 => (⟨⟨#[]⟩, ⟨#[]⟩, ⟨#[]⟩, ⟨#[]⟩, ⟨#[]⟩, ⟨#[]⟩⟩ : VGateMend)
    | .e96 => (⟨⟨#[]⟩, ⟨#[]⟩⟩ : VGateTeam)
    | .e103 => ([] : List VGateField)
    | .e105 => (⟨⟨#[]⟩, []⟩ : VGateShape)
    | .e110 => (⟨⟨#[]⟩, ⟨#[]⟩, ⟨#[]⟩, ⟨#[]⟩, ⟨#[]⟩, ⟨#[]⟩⟩ : VGateMend)
    | .e112 => (⟨⟨#[]⟩, ⟨#[]⟩⟩ : VGateTeam)
    | .e127 => (⟨⟨#[]⟩, ⟨#[]⟩, 0⟩ : VGateWant)
    | .e144 => (⟨⟨#[]⟩, 0, 0, 0, [], ⟨#[]⟩, 0, false, false, ⟨#[]⟩, ⟨#[]⟩⟩ : VGateField)
    | .e146 => (⟨⟨#[]⟩, 0, 0, 0, [], ⟨#[]⟩, 0, false, false, ⟨#[]⟩, ⟨#[]⟩⟩ : VGateField)
    | .e166 => (⟨⟨#[]⟩, 0, 0, 0, [], ⟨#[]⟩, 0, false, false, ⟨#[]⟩, ⟨#[]⟩⟩ : VnumberField)
    | .e167 => (none : Option Nat)
    | .e168 => (⟨⟨#[]⟩, 0, 0, 0, [], ⟨#[]⟩, 0, false, false, ⟨#[]⟩, ⟨#[]⟩⟩ : VwordField)
    | .e169 => (⟨⟨#[]⟩, 0, 0, 0, [], ⟨#[]⟩, 0, false, false, ⟨#[]⟩, ⟨#[]⟩⟩ : VtextField)
    | .e170 => (⟨⟨#[]⟩, 0, 0, 0, [], ⟨#[]⟩, 0, false, false, ⟨#[]⟩, ⟨#[]⟩⟩ : VlinkField)
    | .e208 => (⟨⟨#[]⟩, ⟨#[]⟩, ⟨#[]⟩, [], false, [], 0⟩ : VGateObject)
  pos := fun t => by cases t <;> decide
  enc_len := fun t x => by cases t <;> rfl
  enc_dec := fun t cs x h => by
    cases t
    · exact d3_ok cs x h
    · exact d9_ok cs x h
    · exact d26_ok cs x h
    · exact d30_ok cs x h
    · exact d32_ok cs x h
    · exact d36_ok cs x h
    · exact d37_ok cs x h
    · exact d40_ok cs x h
    · exact d42_ok cs x h
    · exact d44_ok cs x h
    · exact d51_ok cs x h
    · exact d56_ok cs x h
    · exact d85_ok cs x h
    · exact d90_ok cs x h
    · exact d93_ok cs x h
    · exact d96_ok cs x h
    · exact d103_ok cs x h
    · exact d105_ok cs x h
    · exact d110_ok cs x h
    · exact d112_ok cs x h
    · exact d127_ok cs x h
    · exact d144_ok cs x h
    · exact d146_ok cs x h
    · exact d166_ok cs x h
    · exact d167_ok cs x h
    · exact d168_ok cs x h
    · exact d169_ok cs x h
    · exact d170_ok cs x h
    · exact d208_ok cs x h
  enc_plain := fun t x l h => by
    cases t <;> simp only [enc, List.mem_cons, List.not_mem_nil, or_false] at h <;> (first | (subst h; rfl) | (rcases h with rfl <;> rfl) | (repeat (rcases h with rfl | h; · rfl)) <;> (subst h; rfl))
  flat := fun t => match t with
    | .e3 => true
    | .e9 => true
    | .e26 => false
    | .e30 => false
    | .e32 => false
    | .e36 => false
    | .e37 => false
    | .e40 => false
    | .e42 => false
    | .e44 => false
    | .e51 => false
    | .e56 => false
    | .e85 => true
    | .e90 => false
    | .e93 => true
    | .e96 => true
    | .e103 => false
    | .e105 => false
    | .e110 => true
    | .e112 => true
    | .e127 => true
    | .e144 => false
    | .e146 => false
    | .e166 => false
    | .e167 => true
    | .e168 => false
    | .e169 => false
    | .e170 => false
    | .e208 => false
  byte := fun t => match t with
    | .e3 => false
    | .e9 => false
    | .e26 => false
    | .e30 => false
    | .e32 => false
    | .e36 => false
    | .e37 => false
    | .e40 => false
    | .e42 => false
    | .e44 => false
    | .e51 => false
    | .e56 => false
    | .e85 => false
    | .e90 => false
    | .e93 => false
    | .e96 => false
    | .e103 => false
    | .e105 => false
    | .e110 => false
    | .e112 => false
    | .e127 => false
    | .e144 => false
    | .e146 => false
    | .e166 => false
    | .e167 => false
    | .e168 => false
    | .e169 => false
    | .e170 => false
    | .e208 => false
  enc_byte := fun t ht x => by cases t <;> first | (cases ht; done) | exact ⟨_, rfl⟩
  enc_flat := fun t ht x t' ys h => by cases t <;> first | (cases ht; done) | (simp [enc] at h)
def tks : List (Nat × TK Ty) := [
  (1, .one (.fnc)),
  (2, .one (.int .i64)),
  (3, .one (.int .i64)),
  (4, .one (.bool)),
  (5, .one (.int .u8)),
  (6, .one (.int .u8)),
  (7, .agg [(0, 1, false), (1, 1, false), (2, 1, false), (3, 1, false)] [.int .i64, .int .i64, .bool, .int .u8]),
  (8, .agg [(0, 1, false), (1, 1, false), (2, 1, false), (3, 1, false)] [.int .i64, .int .i64, .bool, .int .u8]),
  (9, .one (.str)),
  (10, .one (.str)),
  (11, .one (.str)),
  (12, .one (.int .u64)),
  (13, .agg [(0, 1, false), (1, 1, false)] [.str, .int .u64]),
  (14, .agg [(0, 1, false), (1, 1, false)] [.str, .int .u64]),
  (15, .one (.ptr)),
  (16, .one (.ptr)),
  (17, .one (.ptr)),
  (18, .agg [(0, 1, false)] [.ptr]),
  (19, .agg [(0, 1, false)] [.ptr]),
  (20, .one (.nk .ifc)),
  (21, .one (.int .i32)),
  (22, .one (.sli .e90)),
  (23, .one (.sli .e93)),
  (24, .one (.sli .e96)),
  (25, .agg [(0, 1, false), (1, 1, false), (2, 1, false)] [.sli .e90, .sli .e93, .sli .e96]),
  (26, .agg [(0, 1, false), (1, 1, false), (2, 1, false)] [.sli .e90, .sli .e93, .sli .e96]),
  (27, .one (.sli .e9)),
  (28, .one (.sli .e3)),
  (29, .agg [(0, 1, false), (1, 1, false), (2, 1, false), (3, 1, false)] [.sli .e3, .str, .str, .str]),
  (30, .agg [(0, 1, false), (1, 1, false), (2, 1, false), (3, 1, false)] [.sli .e3, .str, .str, .str]),
  (31, .agg [(0, 1, false), (1, 1, false), (2, 1, false), (3, 1, false), (4, 1, false), (5, 1, false), (6, 1, false), (7, 1, false), (8, 1, false), (9, 1, false), (10, 4, true), (14, 1, false)] [.str, .int .i64, .str, .str, .str, .sli .e9, .sli .e9, .int .i64, .str, .str, .sli .e3, .str, .str, .str, .int .i64]),
  (32, .agg [(0, 1, false), (1, 1, false), (2, 1, false), (3, 1, false), (4, 1, false), (5, 1, false), (6, 1, false), (7, 1, false), (8, 1, false), (9, 1, false), (10, 4, true), (14, 1, false)] [.str, .int .i64, .str, .str, .str, .sli .e9, .sli .e9, .int .i64, .str, .str, .sli .e3, .str, .str, .str, .int .i64]),
  (33, .one (.fnc)),
  (34, .one (.fnc)),
  (35, .one (.fnc)),
  (36, .one (.sli .e105)),
  (37, .one (.sli .e110)),
  (38, .one (.sli .e112)),
  (39, .agg [(0, 1, false), (1, 1, false), (2, 1, false)] [.sli .e105, .sli .e110, .sli .e112]),
  (40, .agg [(0, 1, false), (1, 1, false), (2, 1, false)] [.sli .e105, .sli .e110, .sli .e112]),
  (41, .one (.fnc)),
  (42, .agg [(0, 1, false), (1, 1, false), (2, 1, false), (3, 1, false)] [.sli .e3, .str, .str, .str]),
  (43, .agg [(0, 1, false), (1, 1, false), (2, 1, false), (3, 1, false), (4, 1, false), (5, 1, false), (6, 1, false), (7, 1, false), (8, 1, false), (9, 1, false), (10, 4, true), (14, 1, false)] [.str, .int .i64, .str, .str, .str, .sli .e9, .sli .e9, .int .i64, .str, .str, .sli .e3, .str, .str, .str, .int .i64]),
  (44, .agg [(0, 1, false), (1, 1, false), (2, 1, false), (3, 1, false), (4, 1, false), (5, 1, false), (6, 1, false), (7, 1, false), (8, 1, false), (9, 1, false), (10, 4, true), (14, 1, false)] [.str, .int .i64, .str, .str, .str, .sli .e9, .sli .e9, .int .i64, .str, .str, .sli .e3, .str, .str, .str, .int .i64]),
  (45, .one (.fnc)),
  (46, .one (.fnc)),
  (47, .one (.fnc)),
  (48, .one (.fnc)),
  (49, .one (.sli .e127)),
  (50, .agg [(0, 1, false), (1, 15, true), (16, 1, false), (17, 1, false)] [.str, .str, .int .i64, .str, .str, .str, .sli .e9, .sli .e9, .int .i64, .str, .str, .sli .e3, .str, .str, .str, .int .i64, .int .i64, .sli .e127]),
  (51, .agg [(0, 1, false), (1, 15, true), (16, 1, false), (17, 1, false)] [.str, .str, .int .i64, .str, .str, .str, .sli .e9, .sli .e9, .int .i64, .str, .str, .sli .e3, .str, .str, .str, .int .i64, .int .i64, .sli .e127]),
  (52, .one (.fnc)),
  (53, .one (.fnc)),
  (54, .one (.sli .e85)),
  (55, .agg [(0, 1, false), (1, 15, true), (16, 1, false), (17, 1, false)] [.str, .str, .int .i64, .str, .str, .str, .sli .e9, .sli .e9, .int .i64, .str, .str, .sli .e3, .str, .str, .str, .int .i64, .int .i64, .sli .e85]),
  (56, .agg [(0, 1, false), (1, 15, true), (16, 1, false), (17, 1, false)] [.str, .str, .int .i64, .str, .str, .str, .sli .e9, .sli .e9, .int .i64, .str, .str, .sli .e3, .str, .str, .str, .int .i64, .int .i64, .sli .e85]),
  (57, .one (.fnc)),
  (58, .one (.fnc)),
  (59, .one (.fnc)),
  (60, .one (.fnc)),
  (61, .one (.fnc)),
  (62, .one (.fnc)),
  (63, .one (.fnc)),
  (64, .one (.fnc)),
  (65, .one (.fnc)),
  (66, .one (.fnc)),
  (67, .one (.fnc)),
  (68, .one (.fnc)),
  (69, .one (.fnc)),
  (70, .one (.fnc)),
  (71, .one (.fnc)),
  (72, .one (.nk .ifc)),
  (73, .one (.nk .ifc)),
  (74, .arr 7 1 false [.nk .ifc, .nk .ifc, .nk .ifc, .nk .ifc, .nk .ifc, .nk .ifc, .nk .ifc]),
  (75, .one (.fnc)),
  (76, .one (.fnc)),
  (77, .one (.fnc)),
  (78, .one (.fnc)),
  (79, .one (.fnc)),
  (80, .one (.fnc)),
  (81, .one (.fnc)),
  (82, .one (.fnc)),
  (83, .one (.fnc)),
  (84, .agg [(0, 1, false), (1, 1, false), (2, 1, false)] [.str, .str, .int .i64]),
  (85, .agg [(0, 1, false), (1, 1, false), (2, 1, false)] [.str, .str, .int .i64]),
  (86, .one (.fnc)),
  (87, .one (.fnc)),
  (88, .one (.sli .e144)),
  (89, .agg [(0, 1, false), (1, 1, false)] [.str, .sli .e144]),
  (90, .agg [(0, 1, false), (1, 1, false)] [.str, .sli .e144]),
  (91, .one (.fnc)),
  (92, .agg [(0, 1, false), (1, 1, false), (2, 1, false), (3, 1, false), (4, 1, false), (5, 1, false)] [.str, .str, .str, .str, .str, .str]),
  (93, .agg [(0, 1, false), (1, 1, false), (2, 1, false), (3, 1, false), (4, 1, false), (5, 1, false)] [.str, .str, .str, .str, .str, .str]),
  (94, .one (.fnc)),
  (95, .agg [(0, 1, false), (1, 1, false)] [.str, .str]),
  (96, .agg [(0, 1, false), (1, 1, false)] [.str, .str]),
  (97, .one (.fnc)),
  (98, .one (.fnc)),
  (99, .one (.fnc)),
  (100, .one (.fnc)),
  (101, .one (.fnc)),
  (102, .one (.fnc)),
  (103, .one (.sli .e146)),
  (104, .agg [(0, 1, false), (1, 1, false)] [.str, .sli .e146]),
  (105, .agg [(0, 1, false), (1, 1, false)] [.str, .sli .e146]),
  (106, .one (.fnc)),
  (107, .one (.fnc)),
  (108, .one (.fnc)),
  (109, .one (.fnc)),
  (110, .agg [(0, 1, false), (1, 1, false), (2, 1, false), (3, 1, false), (4, 1, false), (5, 1, false)] [.str, .str, .str, .str, .str, .str]),
  (111, .one (.fnc)),
  (112, .agg [(0, 1, false), (1, 1, false)] [.str, .str]),
  (113, .one (.fnc)),
  (114, .one (.fnc)),
  (116, .agg [] []),
  (117, .agg [] []),
  (118, .agg [] []),
  (119, .agg [] []),
  (120, .agg [] []),
  (121, .agg [] []),
  (122, .one (.fnc)),
  (123, .one (.fnc)),
  (125, .one (.fnc)),
  (126, .one (.fnc)),
  (127, .agg [(0, 1, false), (1, 1, false), (2, 1, false)] [.str, .str, .int .i64]),
  (128, .one (.fnc)),
  (129, .one (.fnc)),
  (130, .one (.fnc)),
  (131, .one (.fnc)),
  (132, .one (.fnc)),
  (134, .one (.fnc)),
  (137, .one (.fnc)),
  (140, .one (.fnc)),
  (143, .agg [(0, 1, false), (1, 1, false), (2, 1, false), (3, 1, false), (4, 1, false), (5, 1, false), (6, 1, false), (7, 1, false), (8, 1, false), (9, 1, false), (10, 1, false)] [.str, .int .i64, .int .i64, .int .i64, .sli .e9, .str, .int .i64, .bool, .bool, .str, .str]),
  (144, .agg [(0, 1, false), (1, 1, false), (2, 1, false), (3, 1, false), (4, 1, false), (5, 1, false), (6, 1, false), (7, 1, false), (8, 1, false), (9, 1, false), (10, 1, false)] [.str, .int .i64, .int .i64, .int .i64, .sli .e9, .str, .int .i64, .bool, .bool, .str, .str]),
  (146, .agg [(0, 1, false), (1, 1, false), (2, 1, false), (3, 1, false), (4, 1, false), (5, 1, false), (6, 1, false), (7, 1, false), (8, 1, false), (9, 1, false), (10, 1, false)] [.str, .int .i64, .int .i64, .int .i64, .sli .e9, .str, .int .i64, .bool, .bool, .str, .str]),
  (151, .one (.fnc)),
  (155, .one (.fnc)),
  (159, .one (.nk .map)),
  (161, .one (.nk .ifc)),
  (163, .one (.fnc)),
  (166, .agg [(0, 11, true)] [.str, .int .i64, .int .i64, .int .i64, .sli .e9, .str, .int .i64, .bool, .bool, .str, .str]),
  (167, .one (.fnc)),
  (168, .agg [(0, 11, true)] [.str, .int .i64, .int .i64, .int .i64, .sli .e9, .str, .int .i64, .bool, .bool, .str, .str]),
  (169, .agg [(0, 11, true)] [.str, .int .i64, .int .i64, .int .i64, .sli .e9, .str, .int .i64, .bool, .bool, .str, .str]),
  (170, .agg [(0, 11, true)] [.str, .int .i64, .int .i64, .int .i64, .sli .e9, .str, .int .i64, .bool, .bool, .str, .str]),
  (171, .one (.nk .map)),
  (184, .one (.ptr)),
  (208, .agg [(0, 1, false), (1, 1, false), (2, 1, false), (3, 1, false), (4, 1, false), (5, 1, false), (6, 1, false)] [.str, .str, .str, .sli .e9, .bool, .sli .e9, .int .i64])]
theorem tf1 : TFact Go.Proofs.Tryz.prog KK 1 (.one (.fnc)) := tfact_fnc (by kernel_rfl) (by kernel_rfl) (by kernel_rfl)
theorem tf2 : TFact Go.Proofs.Tryz.prog KK 2 (.one (.int .i64)) := tfact_one (by kernel_rfl) (by kernel_rfl) (d := .int .i64) (by kernel_rfl) rfl
theorem tf3 : TFact Go.Proofs.Tryz.prog KK 3 (.one (.int .i64)) := tfact_one (by kernel_rfl) (by kernel_rfl) (d := .int .i64) (by kernel_rfl) rfl
theorem tf4 : TFact Go.Proofs.Tryz.prog KK 4 (.one (.bool)) := tfact_one (by kernel_rfl) (by kernel_rfl) (d := .bool) (by kernel_rfl) rfl
theorem tf5 : TFact Go.Proofs.Tryz.prog KK 5 (.one (.int .u8)) := tfact_one (by kernel_rfl) (by kernel_rfl) (d := .int .u8) (by kernel_rfl) rfl
theorem tf6 : TFact Go.Proofs.Tryz.prog KK 6 (.one (.int .u8)) := tfact_one (by kernel_rfl) (by kernel_rfl) (d := .int .u8) (by kernel_rfl) rfl
theorem tf7 : TFact Go.Proofs.Tryz.prog KK 7 (.agg [(0, 1, false), (1, 1, false), (2, 1, false), (3, 1, false)] [.int .i64, .int .i64, .bool, .int .u8]) := tfact_agg (by kernel_rfl) (by kernel_rfl) (by kernel_rfl)
theorem tf8 : TFact Go.Proofs.Tryz.prog KK 8 (.agg [(0, 1, false), (1, 1, false), (2, 1, false), (3, 1, false)] [.int .i64, .int .i64, .bool, .int .u8]) := tfact_agg (by kernel_rfl) (by kernel_rfl) (by kernel_rfl)
theorem tf9 : TFact Go.Proofs.Tryz.prog KK 9 (.one (.str)) := tfact_one (by kernel_rfl) (by kernel_rfl) (d := .string) (by kernel_rfl) rfl
theorem tf10 : TFact Go.Proofs.Tryz.prog KK 10 (.one (.str)) := tfact_one (by kernel_rfl) (by kernel_rfl) (d := .string) (by kernel_rfl) rfl
theorem tf11 : TFact Go.Proofs.Tryz.prog KK 11 (.one (.str)) := tfact_one (by kernel_rfl) (by kernel_rfl) (d := .string) (by kernel_rfl) rfl
theorem tf12 : TFact Go.Proofs.Tryz.prog KK 12 (.one (.int .u64)) := tfact_one (by kernel_rfl) (by kernel_rfl) (d := .int .u64) (by kernel_rfl) rfl
theorem tf13 : TFact Go.Proofs.Tryz.prog KK 13 (.agg [(0, 1, false), (1, 1, false)] [.str, .int .u64]) := tfact_agg (by kernel_rfl) (by kernel_rfl) (by kernel_rfl)
theorem tf14 : TFact Go.Proofs.Tryz.prog KK 14 (.agg [(0, 1, false), (1, 1, false)] [.str, .int .u64]) := tfact_agg (by kernel_rfl) (by kernel_rfl) (by kernel_rfl)
theorem tf15 : TFact Go.Proofs.Tryz.prog KK 15 (.one (.ptr)) := tfact_one (by kernel_rfl) (by kernel_rfl) (d := .pointer 175) (by kernel_rfl) ⟨_, rfl⟩
theorem tf16 : TFact Go.Proofs.Tryz.prog KK 16 (.one (.ptr)) := tfact_one (by kernel_rfl) (by kernel_rfl) (d := .pointer 178) (by kernel_rfl) ⟨_, rfl⟩
theorem tf17 : TFact Go.Proofs.Tryz.prog KK 17 (.one (.ptr)) := tfact_one (by kernel_rfl) (by kernel_rfl) (d := .pointer 188) (by kernel_rfl) ⟨_, rfl⟩
theorem tf18 : TFact Go.Proofs.Tryz.prog KK 18 (.agg [(0, 1, false)] [.ptr]) := tfact_agg (by kernel_rfl) (by kernel_rfl) (by kernel_rfl)
theorem tf19 : TFact Go.Proofs.Tryz.prog KK 19 (.agg [(0, 1, false)] [.ptr]) := tfact_agg (by kernel_rfl) (by kernel_rfl) (by kernel_rfl)
theorem tf20 : TFact Go.Proofs.Tryz.prog KK 20 (.one (.nk .ifc)) := tfact_ifc (by kernel_rfl) (by kernel_rfl) (by kernel_rfl)
theorem tf21 : TFact Go.Proofs.Tryz.prog KK 21 (.one (.int .i32)) := tfact_one (by kernel_rfl) (by kernel_rfl) (d := .int .i32) (by kernel_rfl) rfl
theorem tf22 : TFact Go.Proofs.Tryz.prog KK 22 (.one (.sli .e90)) := tfact_one (by kernel_rfl) (by kernel_rfl) (d := .slice 90) (by kernel_rfl) rfl
theorem tf23 : TFact Go.Proofs.Tryz.prog KK 23 (.one (.sli .e93)) := tfact_one (by kernel_rfl) (by kernel_rfl) (d := .slice 93) (by kernel_rfl) rfl
theorem tf24 : TFact Go.Proofs.Tryz.prog KK 24 (.one (.sli .e96)) := tfact_one (by kernel_rfl) (by kernel_rfl) (d := .slice 96) (by kernel_rfl) rfl
theorem tf25 : TFact Go.Proofs.Tryz.prog KK 25 (.agg [(0, 1, false), (1, 1, false), (2, 1, false)] [.sli .e90, .sli .e93, .sli .e96]) := tfact_agg (by kernel_rfl) (by kernel_rfl) (by kernel_rfl)
theorem tf26 : TFact Go.Proofs.Tryz.prog KK 26 (.agg [(0, 1, false), (1, 1, false), (2, 1, false)] [.sli .e90, .sli .e93, .sli .e96]) := tfact_agg (by kernel_rfl) (by kernel_rfl) (by kernel_rfl)
theorem tf27 : TFact Go.Proofs.Tryz.prog KK 27 (.one (.sli .e9)) := tfact_one (by kernel_rfl) (by kernel_rfl) (d := .slice 9) (by kernel_rfl) rfl
theorem tf28 : TFact Go.Proofs.Tryz.prog KK 28 (.one (.sli .e3)) := tfact_one (by kernel_rfl) (by kernel_rfl) (d := .slice 3) (by kernel_rfl) rfl
theorem tf29 : TFact Go.Proofs.Tryz.prog KK 29 (.agg [(0, 1, false), (1, 1, false), (2, 1, false), (3, 1, false)] [.sli .e3, .str, .str, .str]) := tfact_agg (by kernel_rfl) (by kernel_rfl) (by kernel_rfl)
theorem tf30 : TFact Go.Proofs.Tryz.prog KK 30 (.agg [(0, 1, false), (1, 1, false), (2, 1, false), (3, 1, false)] [.sli .e3, .str, .str, .str]) := tfact_agg (by kernel_rfl) (by kernel_rfl) (by kernel_rfl)
theorem tf31 : TFact Go.Proofs.Tryz.prog KK 31 (.agg [(0, 1, false), (1, 1, false), (2, 1, false), (3, 1, false), (4, 1, false), (5, 1, false), (6, 1, false), (7, 1, false), (8, 1, false), (9, 1, false), (10, 4, true), (14, 1, false)] [.str, .int .i64, .str, .str, .str, .sli .e9, .sli .e9, .int .i64, .str, .str, .sli .e3, .str, .str, .str, .int .i64]) := tfact_agg (by kernel_rfl) (by kernel_rfl) (by kernel_rfl)
theorem tf32 : TFact Go.Proofs.Tryz.prog KK 32 (.agg [(0, 1, false), (1, 1, false), (2, 1, false), (3, 1, false), (4, 1, false), (5, 1, false), (6, 1, false), (7, 1, false), (8, 1, false), (9, 1, false), (10, 4, true), (14, 1, false)] [.str, .int .i64, .str, .str, .str, .sli .e9, .sli .e9, .int .i64, .str, .str, .sli .e3, .str, .str, .str, .int .i64]) := tfact_agg (by kernel_rfl) (by kernel_rfl) (by kernel_rfl)
theorem tf33 : TFact Go.Proofs.Tryz.prog KK 33 (.one (.fnc)) := tfact_fnc (by kernel_rfl) (by kernel_rfl) (by kernel_rfl)
theorem tf34 : TFact Go.Proofs.Tryz.prog KK 34 (.one (.fnc)) := tfact_fnc (by kernel_rfl) (by kernel_rfl) (by kernel_rfl)
theorem tf35 : TFact Go.Proofs.Tryz.prog KK 35 (.one (.fnc)) := tfact_fnc (by kernel_rfl) (by kernel_rfl) (by kernel_rfl)
theorem tf36 : TFact Go.Proofs.Tryz.prog KK 36 (.one (.sli .e105)) := tfact_one (by kernel_rfl) (by kernel_rfl) (d := .slice 105) (by kernel_rfl) rfl
theorem tf37 : TFact Go.Proofs.Tryz.prog KK 37 (.one (.sli .e110)) := tfact_one (by kernel_rfl) (by kernel_rfl) (d := .slice 110) (by kernel_rfl) rfl
theorem tf38 : TFact Go.Proofs.Tryz.prog KK 38 (.one (.sli .e112)) := tfact_one (by kernel_rfl) (by kernel_rfl) (d := .slice 112) (by kernel_rfl) rfl
theorem tf39 : TFact Go.Proofs.Tryz.prog KK 39 (.agg [(0, 1, false), (1, 1, false), (2, 1, false)] [.sli .e105, .sli .e110, .sli .e112]) := tfact_agg (by kernel_rfl) (by kernel_rfl) (by kernel_rfl)
theorem tf40 : TFact Go.Proofs.Tryz.prog KK 40 (.agg [(0, 1, false), (1, 1, false), (2, 1, false)] [.sli .e105, .sli .e110, .sli .e112]) := tfact_agg (by kernel_rfl) (by kernel_rfl) (by kernel_rfl)
theorem tf41 : TFact Go.Proofs.Tryz.prog KK 41 (.one (.fnc)) := tfact_fnc (by kernel_rfl) (by kernel_rfl) (by kernel_rfl)
theorem tf42 : TFact Go.Proofs.Tryz.prog KK 42 (.agg [(0, 1, false), (1, 1, false), (2, 1, false), (3, 1, false)] [.sli .e3, .str, .str, .str]) := tfact_agg (by kernel_rfl) (by kernel_rfl) (by kernel_rfl)
theorem tf43 : TFact Go.Proofs.Tryz.prog KK 43 (.agg [(0, 1, false), (1, 1, false), (2, 1, false), (3, 1, false), (4, 1, false), (5, 1, false), (6, 1, false), (7, 1, false), (8, 1, false), (9, 1, false), (10, 4, true), (14, 1, false)] [.str, .int .i64, .str, .str, .str, .sli .e9, .sli .e9, .int .i64, .str, .str, .sli .e3, .str, .str, .str, .int .i64]) := tfact_agg (by kernel_rfl) (by kernel_rfl) (by kernel_rfl)
theorem tf44 : TFact Go.Proofs.Tryz.prog KK 44 (.agg [(0, 1, false), (1, 1, false), (2, 1, false), (3, 1, false), (4, 1, false), (5, 1, false), (6, 1, false), (7, 1, false), (8, 1, false), (9, 1, false), (10, 4, true), (14, 1, false)] [.str, .int .i64, .str, .str, .str, .sli .e9, .sli .e9, .int .i64, .str, .str, .sli .e3, .str, .str, .str, .int .i64]) := tfact_agg (by kernel_rfl) (by kernel_rfl) (by kernel_rfl)
theorem tf45 : TFact Go.Proofs.Tryz.prog KK 45 (.one (.fnc)) := tfact_fnc (by kernel_rfl) (by kernel_rfl) (by kernel_rfl)
theorem tf46 : TFact Go.Proofs.Tryz.prog KK 46 (.one (.fnc)) := tfact_fnc (by kernel_rfl) (by kernel_rfl) (by kernel_rfl)
theorem tf47 : TFact Go.Proofs.Tryz.prog KK 47 (.one (.fnc)) := tfact_fnc (by kernel_rfl) (by kernel_rfl) (by kernel_rfl)
theorem tf48 : TFact Go.Proofs.Tryz.prog KK 48 (.one (.fnc)) := tfact_fnc (by kernel_rfl) (by kernel_rfl) (by kernel_rfl)
theorem tf49 : TFact Go.Proofs.Tryz.prog KK 49 (.one (.sli .e127)) := tfact_one (by kernel_rfl) (by kernel_rfl) (d := .slice 127) (by kernel_rfl) rfl
theorem tf50 : TFact Go.Proofs.Tryz.prog KK 50 (.agg [(0, 1, false), (1, 15, true), (16, 1, false), (17, 1, false)] [.str, .str, .int .i64, .str, .str, .str, .sli .e9, .sli .e9, .int .i64, .str, .str, .sli .e3, .str, .str, .str, .int .i64, .int .i64, .sli .e127]) := tfact_agg (by kernel_rfl) (by kernel_rfl) (by kernel_rfl)
theorem tf51 : TFact Go.Proofs.Tryz.prog KK 51 (.agg [(0, 1, false), (1, 15, true), (16, 1, false), (17, 1, false)] [.str, .str, .int .i64, .str, .str, .str, .sli .e9, .sli .e9, .int .i64, .str, .str, .sli .e3, .str, .str, .str, .int .i64, .int .i64, .sli .e127]) := tfact_agg (by kernel_rfl) (by kernel_rfl) (by kernel_rfl)
theorem tf52 : TFact Go.Proofs.Tryz.prog KK 52 (.one (.fnc)) := tfact_fnc (by kernel_rfl) (by kernel_rfl) (by kernel_rfl)
theorem tf53 : TFact Go.Proofs.Tryz.prog KK 53 (.one (.fnc)) := tfact_fnc (by kernel_rfl) (by kernel_rfl) (by kernel_rfl)
theorem tf54 : TFact Go.Proofs.Tryz.prog KK 54 (.one (.sli .e85)) := tfact_one (by kernel_rfl) (by kernel_rfl) (d := .slice 85) (by kernel_rfl) rfl
theorem tf55 : TFact Go.Proofs.Tryz.prog KK 55 (.agg [(0, 1, false), (1, 15, true), (16, 1, false), (17, 1, false)] [.str, .str, .int .i64, .str, .str, .str, .sli .e9, .sli .e9, .int .i64, .str, .str, .sli .e3, .str, .str, .str, .int .i64, .int .i64, .sli .e85]) := tfact_agg (by kernel_rfl) (by kernel_rfl) (by kernel_rfl)
theorem tf56 : TFact Go.Proofs.Tryz.prog KK 56 (.agg [(0, 1, false), (1, 15, true), (16, 1, false), (17, 1, false)] [.str, .str, .int .i64, .str, .str, .str, .sli .e9, .sli .e9, .int .i64, .str, .str, .sli .e3, .str, .str, .str, .int .i64, .int .i64, .sli .e85]) := tfact_agg (by kernel_rfl) (by kernel_rfl) (by kernel_rfl)
theorem tf57 : TFact Go.Proofs.Tryz.prog KK 57 (.one (.fnc)) := tfact_fnc (by kernel_rfl) (by kernel_rfl) (by kernel_rfl)
theorem tf58 : TFact Go.Proofs.Tryz.prog KK 58 (.one (.fnc)) := tfact_fnc (by kernel_rfl) (by kernel_rfl) (by kernel_rfl)
theorem tf59 : TFact Go.Proofs.Tryz.prog KK 59 (.one (.fnc)) := tfact_fnc (by kernel_rfl) (by kernel_rfl) (by kernel_rfl)
theorem tf60 : TFact Go.Proofs.Tryz.prog KK 60 (.one (.fnc)) := tfact_fnc (by kernel_rfl) (by kernel_rfl) (by kernel_rfl)
theorem tf61 : TFact Go.Proofs.Tryz.prog KK 61 (.one (.fnc)) := tfact_fnc (by kernel_rfl) (by kernel_rfl) (by kernel_rfl)
theorem tf62 : TFact Go.Proofs.Tryz.prog KK 62 (.one (.fnc)) := tfact_fnc (by kernel_rfl) (by kernel_rfl) (by kernel_rfl)
theorem tf63 : TFact Go.Proofs.Tryz.prog KK 63 (.one (.fnc)) := tfact_fnc (by kernel_rfl) (by kernel_rfl) (by kernel_rfl)
theorem tf64 : TFact Go.Proofs.Tryz.prog KK 64 (.one (.fnc)) := tfact_fnc (by kernel_rfl) (by kernel_rfl) (by kernel_rfl)
theorem tf65 : TFact Go.Proofs.Tryz.prog KK 65 (.one (.fnc)) := tfact_fnc (by kernel_rfl) (by kernel_rfl) (by kernel_rfl)
theorem tf66 : TFact Go.Proofs.Tryz.prog KK 66 (.one (.fnc)) := tfact_fnc (by kernel_rfl) (by kernel_rfl) (by kernel_rfl)
theorem tf67 : TFact Go.Proofs.Tryz.prog KK 67 (.one (.fnc)) := tfact_fnc (by kernel_rfl) (by kernel_rfl) (by kernel_rfl)
theorem tf68 : TFact Go.Proofs.Tryz.prog KK 68 (.one (.fnc)) := tfact_fnc (by kernel_rfl) (by kernel_rfl) (by kernel_rfl)
theorem tf69 : TFact Go.Proofs.Tryz.prog KK 69 (.one (.fnc)) := tfact_fnc (by kernel_rfl) (by kernel_rfl) (by kernel_rfl)
theorem tf70 : TFact Go.Proofs.Tryz.prog KK 70 (.one (.fnc)) := tfact_fnc (by kernel_rfl) (by kernel_rfl) (by kernel_rfl)
theorem tf71 : TFact Go.Proofs.Tryz.prog KK 71 (.one (.fnc)) := tfact_fnc (by kernel_rfl) (by kernel_rfl) (by kernel_rfl)
theorem tf72 : TFact Go.Proofs.Tryz.prog KK 72 (.one (.nk .ifc)) := tfact_ifc (by kernel_rfl) (by kernel_rfl) (by kernel_rfl)
theorem tf73 : TFact Go.Proofs.Tryz.prog KK 73 (.one (.nk .ifc)) := tfact_ifc (by kernel_rfl) (by kernel_rfl) (by kernel_rfl)
theorem tf74 : TFact Go.Proofs.Tryz.prog KK 74 (.arr 7 1 false [.nk .ifc, .nk .ifc, .nk .ifc, .nk .ifc, .nk .ifc, .nk .ifc, .nk .ifc]) := tfact_arr (e := 73) (by kernel_rfl) (by kernel_rfl) (by kernel_rfl) (by kernel_rfl) (by kernel_rfl) (by kernel_rfl)
theorem tf75 : TFact Go.Proofs.Tryz.prog KK 75 (.one (.fnc)) := tfact_fnc (by kernel_rfl) (by kernel_rfl) (by kernel_rfl)
theorem tf76 : TFact Go.Proofs.Tryz.prog KK 76 (.one (.fnc)) := tfact_fnc (by kernel_rfl) (by kernel_rfl) (by kernel_rfl)
theorem tf77 : TFact Go.Proofs.Tryz.prog KK 77 (.one (.fnc)) := tfact_fnc (by kernel_rfl) (by kernel_rfl) (by kernel_rfl)
theorem tf78 : TFact Go.Proofs.Tryz.prog KK 78 (.one (.fnc)) := tfact_fnc (by kernel_rfl) (by kernel_rfl) (by kernel_rfl)
theorem tf79 : TFact Go.Proofs.Tryz.prog KK 79 (.one (.fnc)) := tfact_fnc (by kernel_rfl) (by kernel_rfl) (by kernel_rfl)
theorem tf80 : TFact Go.Proofs.Tryz.prog KK 80 (.one (.fnc)) := tfact_fnc (by kernel_rfl) (by kernel_rfl) (by kernel_rfl)
theorem tf81 : TFact Go.Proofs.Tryz.prog KK 81 (.one (.fnc)) := tfact_fnc (by kernel_rfl) (by kernel_rfl) (by kernel_rfl)
theorem tf82 : TFact Go.Proofs.Tryz.prog KK 82 (.one (.fnc)) := tfact_fnc (by kernel_rfl) (by kernel_rfl) (by kernel_rfl)
theorem tf83 : TFact Go.Proofs.Tryz.prog KK 83 (.one (.fnc)) := tfact_fnc (by kernel_rfl) (by kernel_rfl) (by kernel_rfl)
theorem tf84 : TFact Go.Proofs.Tryz.prog KK 84 (.agg [(0, 1, false), (1, 1, false), (2, 1, false)] [.str, .str, .int .i64]) := tfact_agg (by kernel_rfl) (by kernel_rfl) (by kernel_rfl)
theorem tf85 : TFact Go.Proofs.Tryz.prog KK 85 (.agg [(0, 1, false), (1, 1, false), (2, 1, false)] [.str, .str, .int .i64]) := tfact_agg (by kernel_rfl) (by kernel_rfl) (by kernel_rfl)
theorem tf86 : TFact Go.Proofs.Tryz.prog KK 86 (.one (.fnc)) := tfact_fnc (by kernel_rfl) (by kernel_rfl) (by kernel_rfl)
theorem tf87 : TFact Go.Proofs.Tryz.prog KK 87 (.one (.fnc)) := tfact_fnc (by kernel_rfl) (by kernel_rfl) (by kernel_rfl)
theorem tf88 : TFact Go.Proofs.Tryz.prog KK 88 (.one (.sli .e144)) := tfact_one (by kernel_rfl) (by kernel_rfl) (d := .slice 144) (by kernel_rfl) rfl
theorem tf89 : TFact Go.Proofs.Tryz.prog KK 89 (.agg [(0, 1, false), (1, 1, false)] [.str, .sli .e144]) := tfact_agg (by kernel_rfl) (by kernel_rfl) (by kernel_rfl)
theorem tf90 : TFact Go.Proofs.Tryz.prog KK 90 (.agg [(0, 1, false), (1, 1, false)] [.str, .sli .e144]) := tfact_agg (by kernel_rfl) (by kernel_rfl) (by kernel_rfl)
theorem tf91 : TFact Go.Proofs.Tryz.prog KK 91 (.one (.fnc)) := tfact_fnc (by kernel_rfl) (by kernel_rfl) (by kernel_rfl)
theorem tf92 : TFact Go.Proofs.Tryz.prog KK 92 (.agg [(0, 1, false), (1, 1, false), (2, 1, false), (3, 1, false), (4, 1, false), (5, 1, false)] [.str, .str, .str, .str, .str, .str]) := tfact_agg (by kernel_rfl) (by kernel_rfl) (by kernel_rfl)
theorem tf93 : TFact Go.Proofs.Tryz.prog KK 93 (.agg [(0, 1, false), (1, 1, false), (2, 1, false), (3, 1, false), (4, 1, false), (5, 1, false)] [.str, .str, .str, .str, .str, .str]) := tfact_agg (by kernel_rfl) (by kernel_rfl) (by kernel_rfl)
theorem tf94 : TFact Go.Proofs.Tryz.prog KK 94 (.one (.fnc)) := tfact_fnc (by kernel_rfl) (by kernel_rfl) (by kernel_rfl)
theorem tf95 : TFact Go.Proofs.Tryz.prog KK 95 (.agg [(0, 1, false), (1, 1, false)] [.str, .str]) := tfact_agg (by kernel_rfl) (by kernel_rfl) (by kernel_rfl)
theorem tf96 : TFact Go.Proofs.Tryz.prog KK 96 (.agg [(0, 1, false), (1, 1, false)] [.str, .str]) := tfact_agg (by kernel_rfl) (by kernel_rfl) (by kernel_rfl)
theorem tf97 : TFact Go.Proofs.Tryz.prog KK 97 (.one (.fnc)) := tfact_fnc (by kernel_rfl) (by kernel_rfl) (by kernel_rfl)
theorem tf98 : TFact Go.Proofs.Tryz.prog KK 98 (.one (.fnc)) := tfact_fnc (by kernel_rfl) (by kernel_rfl) (by kernel_rfl)
theorem tf99 : TFact Go.Proofs.Tryz.prog KK 99 (.one (.fnc)) := tfact_fnc (by kernel_rfl) (by kernel_rfl) (by kernel_rfl)
theorem tf100 : TFact Go.Proofs.Tryz.prog KK 100 (.one (.fnc)) := tfact_fnc (by kernel_rfl) (by kernel_rfl) (by kernel_rfl)
theorem tf101 : TFact Go.Proofs.Tryz.prog KK 101 (.one (.fnc)) := tfact_fnc (by kernel_rfl) (by kernel_rfl) (by kernel_rfl)
theorem tf102 : TFact Go.Proofs.Tryz.prog KK 102 (.one (.fnc)) := tfact_fnc (by kernel_rfl) (by kernel_rfl) (by kernel_rfl)
theorem tf103 : TFact Go.Proofs.Tryz.prog KK 103 (.one (.sli .e146)) := tfact_one (by kernel_rfl) (by kernel_rfl) (d := .slice 146) (by kernel_rfl) rfl
theorem tf104 : TFact Go.Proofs.Tryz.prog KK 104 (.agg [(0, 1, false), (1, 1, false)] [.str, .sli .e146]) := tfact_agg (by kernel_rfl) (by kernel_rfl) (by kernel_rfl)
theorem tf105 : TFact Go.Proofs.Tryz.prog KK 105 (.agg [(0, 1, false), (1, 1, false)] [.str, .sli .e146]) := tfact_agg (by kernel_rfl) (by kernel_rfl) (by kernel_rfl)
theorem tf106 : TFact Go.Proofs.Tryz.prog KK 106 (.one (.fnc)) := tfact_fnc (by kernel_rfl) (by kernel_rfl) (by kernel_rfl)
theorem tf107 : TFact Go.Proofs.Tryz.prog KK 107 (.one (.fnc)) := tfact_fnc (by kernel_rfl) (by kernel_rfl) (by kernel_rfl)
theorem tf108 : TFact Go.Proofs.Tryz.prog KK 108 (.one (.fnc)) := tfact_fnc (by kernel_rfl) (by kernel_rfl) (by kernel_rfl)
theorem tf109 : TFact Go.Proofs.Tryz.prog KK 109 (.one (.fnc)) := tfact_fnc (by kernel_rfl) (by kernel_rfl) (by kernel_rfl)
theorem tf110 : TFact Go.Proofs.Tryz.prog KK 110 (.agg [(0, 1, false), (1, 1, false), (2, 1, false), (3, 1, false), (4, 1, false), (5, 1, false)] [.str, .str, .str, .str, .str, .str]) := tfact_agg (by kernel_rfl) (by kernel_rfl) (by kernel_rfl)
theorem tf111 : TFact Go.Proofs.Tryz.prog KK 111 (.one (.fnc)) := tfact_fnc (by kernel_rfl) (by kernel_rfl) (by kernel_rfl)
theorem tf112 : TFact Go.Proofs.Tryz.prog KK 112 (.agg [(0, 1, false), (1, 1, false)] [.str, .str]) := tfact_agg (by kernel_rfl) (by kernel_rfl) (by kernel_rfl)
theorem tf113 : TFact Go.Proofs.Tryz.prog KK 113 (.one (.fnc)) := tfact_fnc (by kernel_rfl) (by kernel_rfl) (by kernel_rfl)
theorem tf114 : TFact Go.Proofs.Tryz.prog KK 114 (.one (.fnc)) := tfact_fnc (by kernel_rfl) (by kernel_rfl) (by kernel_rfl)
theorem tf116 : TFact Go.Proofs.Tryz.prog KK 116 (.agg [] []) := tfact_agg (by kernel_rfl) (by kernel_rfl) (by kernel_rfl)
theorem tf117 : TFact Go.Proofs.Tryz.prog KK 117 (.agg [] []) := tfact_agg (by kernel_rfl) (by kernel_rfl) (by kernel_rfl)
theorem tf118 : TFact Go.Proofs.Tryz.prog KK 118 (.agg [] []) := tfact_agg (by kernel_rfl) (by kernel_rfl) (by kernel_rfl)
theorem tf119 : TFact Go.Proofs.Tryz.prog KK 119 (.agg [] []) := tfact_agg (by kernel_rfl) (by kernel_rfl) (by kernel_rfl)
theorem tf120 : TFact Go.Proofs.Tryz.prog KK 120 (.agg [] []) := tfact_agg (by kernel_rfl) (by kernel_rfl) (by kernel_rfl)
theorem tf121 : TFact Go.Proofs.Tryz.prog KK 121 (.agg [] []) := tfact_agg (by kernel_rfl) (by kernel_rfl) (by kernel_rfl)
theorem tf122 : TFact Go.Proofs.Tryz.prog KK 122 (.one (.fnc)) := tfact_fnc (by kernel_rfl) (by kernel_rfl) (by kernel_rfl)
theorem tf123 : TFact Go.Proofs.Tryz.prog KK 123 (.one (.fnc)) := tfact_fnc (by kernel_rfl) (by kernel_rfl) (by kernel_rfl)
theorem tf125 : TFact Go.Proofs.Tryz.prog KK 125 (.one (.fnc)) := tfact_fnc (by kernel_rfl) (by kernel_rfl) (by kernel_rfl)
theorem tf126 : TFact Go.Proofs.Tryz.prog KK 126 (.one (.fnc)) := tfact_fnc (by kernel_rfl) (by kernel_rfl) (by kernel_rfl)
theorem tf127 : TFact Go.Proofs.Tryz.prog KK 127 (.agg [(0, 1, false), (1, 1, false), (2, 1, false)] [.str, .str, .int .i64]) := tfact_agg (by kernel_rfl) (by kernel_rfl) (by kernel_rfl)
theorem tf128 : TFact Go.Proofs.Tryz.prog KK 128 (.one (.fnc)) := tfact_fnc (by kernel_rfl) (by kernel_rfl) (by kernel_rfl)
theorem tf129 : TFact Go.Proofs.Tryz.prog KK 129 (.one (.fnc)) := tfact_fnc (by kernel_rfl) (by kernel_rfl) (by kernel_rfl)
theorem tf130 : TFact Go.Proofs.Tryz.prog KK 130 (.one (.fnc)) := tfact_fnc (by kernel_rfl) (by kernel_rfl) (by kernel_rfl)
theorem tf131 : TFact Go.Proofs.Tryz.prog KK 131 (.one (.fnc)) := tfact_fnc (by kernel_rfl) (by kernel_rfl) (by kernel_rfl)
theorem tf132 : TFact Go.Proofs.Tryz.prog KK 132 (.one (.fnc)) := tfact_fnc (by kernel_rfl) (by kernel_rfl) (by kernel_rfl)
theorem tf134 : TFact Go.Proofs.Tryz.prog KK 134 (.one (.fnc)) := tfact_fnc (by kernel_rfl) (by kernel_rfl) (by kernel_rfl)
theorem tf137 : TFact Go.Proofs.Tryz.prog KK 137 (.one (.fnc)) := tfact_fnc (by kernel_rfl) (by kernel_rfl) (by kernel_rfl)
theorem tf140 : TFact Go.Proofs.Tryz.prog KK 140 (.one (.fnc)) := tfact_fnc (by kernel_rfl) (by kernel_rfl) (by kernel_rfl)
theorem tf143 : TFact Go.Proofs.Tryz.prog KK 143 (.agg [(0, 1, false), (1, 1, false), (2, 1, false), (3, 1, false), (4, 1, false), (5, 1, false), (6, 1, false), (7, 1, false), (8, 1, false), (9, 1, false), (10, 1, false)] [.str, .int .i64, .int .i64, .int .i64, .sli .e9, .str, .int .i64, .bool, .bool, .str, .str]) := tfact_agg (by kernel_rfl) (by kernel_rfl) (by kernel_rfl)
theorem tf144 : TFact Go.Proofs.Tryz.prog KK 144 (.agg [(0, 1, false), (1, 1, false), (2, 1, false), (3, 1, false), (4, 1, false), (5, 1, false), (6, 1, false), (7, 1, false), (8, 1, false), (9, 1, false), (10, 1, false)] [.str, .int .i64, .int .i64, .int .i64, .sli .e9, .str, .int .i64, .bool, .bool, .str, .str]) := tfact_agg (by kernel_rfl) (by kernel_rfl) (by kernel_rfl)
theorem tf146 : TFact Go.Proofs.Tryz.prog KK 146 (.agg [(0, 1, false), (1, 1, false), (2, 1, false), (3, 1, false), (4, 1, false), (5, 1, false), (6, 1, false), (7, 1, false), (8, 1, false), (9, 1, false), (10, 1, false)] [.str, .int .i64, .int .i64, .int .i64, .sli .e9, .str, .int .i64, .bool, .bool, .str, .str]) := tfact_agg (by kernel_rfl) (by kernel_rfl) (by kernel_rfl)
theorem tf151 : TFact Go.Proofs.Tryz.prog KK 151 (.one (.fnc)) := tfact_fnc (by kernel_rfl) (by kernel_rfl) (by kernel_rfl)
theorem tf155 : TFact Go.Proofs.Tryz.prog KK 155 (.one (.fnc)) := tfact_fnc (by kernel_rfl) (by kernel_rfl) (by kernel_rfl)
theorem tf159 : TFact Go.Proofs.Tryz.prog KK 159 (.one (.nk .map)) := tfact_map (by kernel_rfl) (by kernel_rfl) (by kernel_rfl)
theorem tf161 : TFact Go.Proofs.Tryz.prog KK 161 (.one (.nk .ifc)) := tfact_ifc (by kernel_rfl) (by kernel_rfl) (by kernel_rfl)
theorem tf163 : TFact Go.Proofs.Tryz.prog KK 163 (.one (.fnc)) := tfact_fnc (by kernel_rfl) (by kernel_rfl) (by kernel_rfl)
theorem tf166 : TFact Go.Proofs.Tryz.prog KK 166 (.agg [(0, 11, true)] [.str, .int .i64, .int .i64, .int .i64, .sli .e9, .str, .int .i64, .bool, .bool, .str, .str]) := tfact_agg (by kernel_rfl) (by kernel_rfl) (by kernel_rfl)
theorem tf167 : TFact Go.Proofs.Tryz.prog KK 167 (.one (.fnc)) := tfact_fnc (by kernel_rfl) (by kernel_rfl) (by kernel_rfl)
theorem tf168 : TFact Go.Proofs.Tryz.prog KK 168 (.agg [(0, 11, true)] [.str, .int .i64, .int .i64, .int .i64, .sli .e9, .str, .int .i64, .bool, .bool, .str, .str]) := tfact_agg (by kernel_rfl) (by kernel_rfl) (by kernel_rfl)
theorem tf169 : TFact Go.Proofs.Tryz.prog KK 169 (.agg [(0, 11, true)] [.str, .int .i64, .int .i64, .int .i64, .sli .e9, .str, .int .i64, .bool, .bool, .str, .str]) := tfact_agg (by kernel_rfl) (by kernel_rfl) (by kernel_rfl)
theorem tf170 : TFact Go.Proofs.Tryz.prog KK 170 (.agg [(0, 11, true)] [.str, .int .i64, .int .i64, .int .i64, .sli .e9, .str, .int .i64, .bool, .bool, .str, .str]) := tfact_agg (by kernel_rfl) (by kernel_rfl) (by kernel_rfl)
theorem tf171 : TFact Go.Proofs.Tryz.prog KK 171 (.one (.nk .map)) := tfact_map (by kernel_rfl) (by kernel_rfl) (by kernel_rfl)
theorem tf184 : TFact Go.Proofs.Tryz.prog KK 184 (.one (.ptr)) := tfact_one (by kernel_rfl) (by kernel_rfl) (d := .pointer 5) (by kernel_rfl) ⟨_, rfl⟩
theorem tf208 : TFact Go.Proofs.Tryz.prog KK 208 (.agg [(0, 1, false), (1, 1, false), (2, 1, false), (3, 1, false), (4, 1, false), (5, 1, false), (6, 1, false)] [.str, .str, .str, .sli .e9, .bool, .sli .e9, .int .i64]) := tfact_agg (by kernel_rfl) (by kernel_rfl) (by kernel_rfl)
set_option maxRecDepth 100000 in
theorem tks_ok : ∀ T k, lk tks T = some k → TFact Go.Proofs.Tryz.prog KK T k := tk_all (l := tks) ⟨tf1, tf2, tf3, tf4, tf5, tf6, tf7, tf8, tf9, tf10, tf11, tf12, tf13, tf14, tf15, tf16, tf17, tf18, tf19, tf20, tf21, tf22, tf23, tf24, tf25, tf26, tf27, tf28, tf29, tf30, tf31, tf32, tf33, tf34, tf35, tf36, tf37, tf38, tf39, tf40, tf41, tf42, tf43, tf44, tf45, tf46, tf47, tf48, tf49, tf50, tf51, tf52, tf53, tf54, tf55, tf56, tf57, tf58, tf59, tf60, tf61, tf62, tf63, tf64, tf65, tf66, tf67, tf68, tf69, tf70, tf71, tf72, tf73, tf74, tf75, tf76, tf77, tf78, tf79, tf80, tf81, tf82, tf83, tf84, tf85, tf86, tf87, tf88, tf89, tf90, tf91, tf92, tf93, tf94, tf95, tf96, tf97, tf98, tf99, tf100, tf101, tf102, tf103, tf104, tf105, tf106, tf107, tf108, tf109, tf110, tf111, tf112, tf113, tf114, tf116, tf117, tf118, tf119, tf120, tf121, tf122, tf123, tf125, tf126, tf127, tf128, tf129, tf130, tf131, tf132, tf134, tf137, tf140, tf143, tf144, tf146, tf151, tf155, tf159, tf161, tf163, tf166, tf167, tf168, tf169, tf170, tf171, tf184, tf208, trivial⟩
theorem els_ok : ∀ t, EFact Go.Proofs.Tryz.prog KK t := by
  intro t
  cases t
  · exact efact (z := .int .i64 0) (by kernel_rfl) (by show 0 < 8; decide) (by kernel_rfl) (by kernel_rfl)
  · exact efact (z := .string ⟨#[]⟩) (by kernel_rfl) (by show 0 < 16; decide) (by kernel_rfl) (by kernel_rfl)
  · exact efact (z := .agg #[.slice none 0 0, .slice none 0 0, .slice none 0 0]) (by kernel_rfl) (by show 0 < 72; decide) (by kernel_rfl) (by kernel_rfl)
  · exact efact (z := .agg #[.slice none 0 0, .string ⟨#[]⟩, .string ⟨#[]⟩, .string ⟨#[]⟩]) (by kernel_rfl) (by show 0 < 72; decide) (by kernel_rfl) (by kernel_rfl)
  · exact efact (z := .agg #[.string ⟨#[]⟩, .int .i64 0, .string ⟨#[]⟩, .string ⟨#[]⟩, .string ⟨#[]⟩, .slice none 0 0, .slice none 0 0, .int .i64 0, .string ⟨#[]⟩, .string ⟨#[]⟩, .slice none 0 0, .string ⟨#[]⟩, .string ⟨#[]⟩, .string ⟨#[]⟩, .int .i64 0]) (by kernel_rfl) (by show 0 < 240; decide) (by kernel_rfl) (by kernel_rfl)
  · exact efact (z := .slice none 0 0) (by kernel_rfl) (by show 0 < 24; decide) (by kernel_rfl) (by kernel_rfl)
  · exact efact (z := .slice none 0 0) (by kernel_rfl) (by show 0 < 24; decide) (by kernel_rfl) (by kernel_rfl)
  · exact efact (z := .agg #[.slice none 0 0, .slice none 0 0, .slice none 0 0]) (by kernel_rfl) (by show 0 < 72; decide) (by kernel_rfl) (by kernel_rfl)
  · exact efact (z := .agg #[.slice none 0 0, .string ⟨#[]⟩, .string ⟨#[]⟩, .string ⟨#[]⟩]) (by kernel_rfl) (by show 0 < 72; decide) (by kernel_rfl) (by kernel_rfl)
  · exact efact (z := .agg #[.string ⟨#[]⟩, .int .i64 0, .string ⟨#[]⟩, .string ⟨#[]⟩, .string ⟨#[]⟩, .slice none 0 0, .slice none 0 0, .int .i64 0, .string ⟨#[]⟩, .string ⟨#[]⟩, .slice none 0 0, .string ⟨#[]⟩, .string ⟨#[]⟩, .string ⟨#[]⟩, .int .i64 0]) (by kernel_rfl) (by show 0 < 240; decide) (by kernel_rfl) (by kernel_rfl)
  · exact efact (z := .agg #[.string ⟨#[]⟩, .string ⟨#[]⟩, .int .i64 0, .string ⟨#[]⟩, .string ⟨#[]⟩, .string ⟨#[]⟩, .slice none 0 0, .slice none 0 0, .int .i64 0, .string ⟨#[]⟩, .string ⟨#[]⟩, .slice none 0 0, .string ⟨#[]⟩, .string ⟨#[]⟩, .string ⟨#[]⟩, .int .i64 0, .int .i64 0, .slice none 0 0]) (by kernel_rfl) (by show 0 < 288; decide) (by kernel_rfl) (by kernel_rfl)
  · exact efact (z := .agg #[.string ⟨#[]⟩, .string ⟨#[]⟩, .int .i64 0, .string ⟨#[]⟩, .string ⟨#[]⟩, .string ⟨#[]⟩, .slice none 0 0, .slice none 0 0, .int .i64 0, .string ⟨#[]⟩, .string ⟨#[]⟩, .slice none 0 0, .string ⟨#[]⟩, .string ⟨#[]⟩, .string ⟨#[]⟩, .int .i64 0, .int .i64 0, .slice none 0 0]) (by kernel_rfl) (by show 0 < 288; decide) (by kernel_rfl) (by kernel_rfl)
  · exact efact (z := .agg #[.string ⟨#[]⟩, .string ⟨#[]⟩, .int .i64 0]) (by kernel_rfl) (by show 0 < 40; decide) (by kernel_rfl) (by kernel_rfl)
  · exact efact (z := .agg #[.string ⟨#[]⟩, .slice none 0 0]) (by kernel_rfl) (by show 0 < 40; decide) (by kernel_rfl) (by kernel_rfl)
  · exact efact (z := .agg #[.string ⟨#[]⟩, .string ⟨#[]⟩, .string ⟨#[]⟩, .string ⟨#[]⟩, .string ⟨#[]⟩, .string ⟨#[]⟩]) (by kernel_rfl) (by show 0 < 96; decide) (by kernel_rfl) (by kernel_rfl)
  · exact efact (z := .agg #[.string ⟨#[]⟩, .string ⟨#[]⟩]) (by kernel_rfl) (by show 0 < 32; decide) (by kernel_rfl) (by kernel_rfl)
  · exact efact (z := .slice none 0 0) (by kernel_rfl) (by show 0 < 24; decide) (by kernel_rfl) (by kernel_rfl)
  · exact efact (z := .agg #[.string ⟨#[]⟩, .slice none 0 0]) (by kernel_rfl) (by show 0 < 40; decide) (by kernel_rfl) (by kernel_rfl)
  · exact efact (z := .agg #[.string ⟨#[]⟩, .string ⟨#[]⟩, .string ⟨#[]⟩, .string ⟨#[]⟩, .string ⟨#[]⟩, .string ⟨#[]⟩]) (by kernel_rfl) (by show 0 < 96; decide) (by kernel_rfl) (by kernel_rfl)
  · exact efact (z := .agg #[.string ⟨#[]⟩, .string ⟨#[]⟩]) (by kernel_rfl) (by show 0 < 32; decide) (by kernel_rfl) (by kernel_rfl)
  · exact efact (z := .agg #[.string ⟨#[]⟩, .string ⟨#[]⟩, .int .i64 0]) (by kernel_rfl) (by show 0 < 40; decide) (by kernel_rfl) (by kernel_rfl)
  · exact efact (z := .agg #[.string ⟨#[]⟩, .int .i64 0, .int .i64 0, .int .i64 0, .slice none 0 0, .string ⟨#[]⟩, .int .i64 0, .bool false, .bool false, .string ⟨#[]⟩, .string ⟨#[]⟩]) (by kernel_rfl) (by show 0 < 128; decide) (by kernel_rfl) (by kernel_rfl)
  · exact efact (z := .agg #[.string ⟨#[]⟩, .int .i64 0, .int .i64 0, .int .i64 0, .slice none 0 0, .string ⟨#[]⟩, .int .i64 0, .bool false, .bool false, .string ⟨#[]⟩, .string ⟨#[]⟩]) (by kernel_rfl) (by show 0 < 128; decide) (by kernel_rfl) (by kernel_rfl)
  · exact efact (z := .agg #[.string ⟨#[]⟩, .int .i64 0, .int .i64 0, .int .i64 0, .slice none 0 0, .string ⟨#[]⟩, .int .i64 0, .bool false, .bool false, .string ⟨#[]⟩, .string ⟨#[]⟩]) (by kernel_rfl) (by show 0 < 128; decide) (by kernel_rfl) (by kernel_rfl)
  · exact efact (z := .nilFunc) (by kernel_rfl) (by show 0 < 8; decide) (by kernel_rfl) (by kernel_rfl)
  · exact efact (z := .agg #[.string ⟨#[]⟩, .int .i64 0, .int .i64 0, .int .i64 0, .slice none 0 0, .string ⟨#[]⟩, .int .i64 0, .bool false, .bool false, .string ⟨#[]⟩, .string ⟨#[]⟩]) (by kernel_rfl) (by show 0 < 128; decide) (by kernel_rfl) (by kernel_rfl)
  · exact efact (z := .agg #[.string ⟨#[]⟩, .int .i64 0, .int .i64 0, .int .i64 0, .slice none 0 0, .string ⟨#[]⟩, .int .i64 0, .bool false, .bool false, .string ⟨#[]⟩, .string ⟨#[]⟩]) (by kernel_rfl) (by show 0 < 128; decide) (by kernel_rfl) (by kernel_rfl)
  · exact efact (z := .agg #[.string ⟨#[]⟩, .int .i64 0, .int .i64 0, .int .i64 0, .slice none 0 0, .string ⟨#[]⟩, .int .i64 0, .bool false, .bool false, .string ⟨#[]⟩, .string ⟨#[]⟩]) (by kernel_rfl) (by show 0 < 128; decide) (by kernel_rfl) (by kernel_rfl)
  · exact efact (z := .agg #[.string ⟨#[]⟩, .string ⟨#[]⟩, .string ⟨#[]⟩, .slice none 0 0, .bool false, .slice none 0 0, .int .i64 0]) (by kernel_rfl) (by show 0 < 112; decide) (by kernel_rfl) (by kernel_rfl)
def mps : List (Nat × MT Ty) := [(159, ⟨⟨false, false, false, false⟩, .e9, .e3⟩), (171, ⟨⟨false, false, false, true⟩, .e3, .e167⟩)]
theorem mf159 : MFact Go.Proofs.Tryz.prog KK 159 ⟨⟨false, false, false, false⟩, .e9, .e3⟩ := mfact_str (kid := 9) (eid := 3) (by kernel_rfl) (by kernel_rfl) (fun x => ⟨x, rfl⟩) rfl rfl rfl (by kernel_rfl) (fun _ _ => rfl)
theorem mf171 : MFact Go.Proofs.Tryz.prog KK 171 ⟨⟨false, false, false, true⟩, .e3, .e167⟩ := mfact_int (kid := 3) (eid := 167) (by kernel_rfl) (by kernel_rfl) (fun x => ⟨x, rfl⟩) rfl rfl rfl (by kernel_rfl) (fun _ _ => rfl)
theorem mps_ok : ∀ T m, lk mps T = some m → MFact Go.Proofs.Tryz.prog KK T m := mp_of (by
  intro x hx
  simp only [mps, List.mem_cons, List.not_mem_nil, or_false] at hx
  rcases hx with rfl | rfl
  · exact mf159
  · exact mf171)
def meths : List (Nat × String × Nat) := [(8, "Error", 110), (8, "RuntimeError", 111), (10, "Error", 112), (10, "RuntimeError", 113), (11, "Error", 114), (11, "RuntimeError", 115), (14, "Error", 116), (14, "RuntimeError", 117), (15, "Error", 118), (15, "RuntimeError", 119), (16, "Error", 120), (16, "RuntimeError", 121), (17, "Align", 122), (17, "Elem", 183), (17, "Kind", 184), (17, "Size", 185), (19, "Error", 123), (19, "RuntimeError", 124), (42, "loop.example/wharfdesk/impl.ok", 125), (44, "loop.example/wharfdesk/impl.twin", 126), (56, "loop.example/wharfdesk/impl.twin", 127), (116, "loop.example/wharfdesk/impl.do", 128), (116, "loop.example/wharfdesk/impl.form", 129), (116, "loop.example/wharfdesk/impl.only", 130), (117, "loop.example/wharfdesk/impl.do", 133), (117, "loop.example/wharfdesk/impl.form", 134), (117, "loop.example/wharfdesk/impl.only", 135), (118, "loop.example/wharfdesk/impl.do", 136), (118, "loop.example/wharfdesk/impl.form", 137), (118, "loop.example/wharfdesk/impl.only", 138), (119, "loop.example/wharfdesk/impl.do", 139), (119, "loop.example/wharfdesk/impl.form", 140), (119, "loop.example/wharfdesk/impl.only", 141), (120, "loop.example/wharfdesk/impl.do", 142), (120, "loop.example/wharfdesk/impl.form", 143), (120, "loop.example/wharfdesk/impl.only", 144), (121, "loop.example/wharfdesk/impl.do", 145), (121, "loop.example/wharfdesk/impl.form", 146), (121, "loop.example/wharfdesk/impl.only", 147), (166, "loop.example/wharfdesk/impl.clean", 148), (166, "loop.example/wharfdesk/impl.fits", 149), (166, "loop.example/wharfdesk/impl.sound", 150), (168, "loop.example/wharfdesk/impl.clean", 152), (168, "loop.example/wharfdesk/impl.fits", 153), (168, "loop.example/wharfdesk/impl.sound", 154), (169, "loop.example/wharfdesk/impl.clean", 155), (169, "loop.example/wharfdesk/impl.fits", 156), (169, "loop.example/wharfdesk/impl.sound", 157), (170, "loop.example/wharfdesk/impl.clean", 158), (170, "loop.example/wharfdesk/impl.fits", 159), (170, "loop.example/wharfdesk/impl.sound", 160), (208, "loop.example/wharfdesk/impl.spot", 179)]
theorem meths_ok : ∀ T name f, lkS meths T name = some f → ∀ v w, (method (Go.Proofs.Tryz.prog.types.size + Made.depth) T v name).run Go.Proofs.Tryz.prog w = .ok (f, v) w := meth_of (by kernel_rfl)
end Go.Proofs.YtjodpeldfebhfaaGreat.Ab

/- The functions that the law calls, written plainly, and their contracts: each call answers what its plain function answers. No conditions. -/
set_option linter.unusedVariables false
namespace Go.Proofs.YtjodpeldfebhfaaGreat.Ab
open Go Go.RowKit
def fuel : Nat := 4611686018427387904
def lkC {α : Type 1} : List (Nat × α) → Nat → Option α
  | [], _ => none
  | (m, v) :: r, n => cond (Nat.beq n m) (some v) (lkC r n)
def allR (P : Program) (K : Cd C) : List (Nat × Con C) → Prop
  | [] => True
  | (f, c) :: r => ConOk P K f c ∧ allR P K r
def allW (P : Program) (K : Cd C) : List (Nat × ConW C) → Prop
  | [] => True
  | (f, c) :: r => ConWOk P K f c ∧ allW P K r
theorem lkR_ok {P : Program} {K : Cd C} : ∀ {l : List (Nat × Con C)}, allR P K l → ∀ f c, lkC l f = some c → ConOk P K f c
  | [], _, f, c, h => by cases h
  | (m, v) :: r, ha, f, c, h => by
    simp only [lkC] at h
    cases hb : Nat.beq f m with
    | true => rw [hb] at h; cases h; have := Nat.eq_of_beq_eq_true hb; subst this; exact ha.1
    | false => rw [hb] at h; exact lkR_ok ha.2 f c h
theorem lkW_ok {P : Program} {K : Cd C} : ∀ {l : List (Nat × ConW C)}, allW P K l → ∀ f c, lkC l f = some c → ConWOk P K f c
  | [], _, f, c, h => by cases h
  | (m, v) :: r, ha, f, c, h => by
    simp only [lkC] at h
    cases hb : Nat.beq f m with
    | true => rw [hb] at h; cases h; have := Nat.eq_of_beq_eq_true hb; subst this; exact ha.1
    | false => rw [hb] at h; exact lkW_ok ha.2 f c h
theorem nameB {s t : String} (h : (s == t) = false) : s ≠ t := by simpa using h
noncomputable def mkX (c : List (Nat × Con C)) (w : List (Nat × ConW C)) (i : List (Nat × Inl C)) (h : List Nat) (o : Nat) : Cx C := { K := KK, tk := lk tks, con := lkC c, conw := lkC w, inl := lkA i, hold := h, mp := lk mps, meth := lkS meths, off := o }
theorem mkX_ok {c w i h o} : XOk Tryz.prog (mkX c w i h o) := ⟨tks_ok, els_ok, mps_ok, meths_ok⟩
theorem mkQ {c w i h o} (hc : allR Tryz.prog KK c) (hw : allW Tryz.prog KK w) (hi : allI Tryz.prog KK i) : Cons Tryz.prog (mkX c w i h o) := ⟨lkR_ok hc, lkW_ok hw, lkI_ok hi⟩
theorem mix_ok : Tryz.prog.follows .mixedOrders = true := by kernel_rfl
theorem cO {c w i h o} (hC : Cons Tryz.prog (mkX c w i h o)) {f : Nat} {fn : Func} (hf : Tryz.prog.funcs[f]? = some fn) (hb : fn.body = some (bodyOf fn)) (hB : codeB fn.ntmps (bodyOf fn) = true) (hname : (fn.name == "runtime.NumGoroutine") = false) {ps rs : List (PK Ty)} {G : Fun C ps (Option (Args C rs))} (F : Cf) (hn : Nat.ble ps.length fn.ntmps = true)
    (t : Hold (PK.enS KK) ps G fun vs r => runFn (mkX c w i h o) F fn vs (deR KK rs) = r) : ConOk Tryz.prog KK f (mkC KK ps rs G) := mkC_ok (X := mkX c w i h o) mkX_ok hC mix_ok hf hb hB hname F hn t
theorem wO {c w i h o} (hC : Cons Tryz.prog (mkX c w i h o)) {f : Nat} {fn : Func} (hf : Tryz.prog.funcs[f]? = some fn) (hb : fn.body = some (bodyOf fn)) (hB : codeB fn.ntmps (bodyOf fn) = true) (hname : (fn.name == "runtime.NumGoroutine") = false) {ps : List (PK Ty)} {os : List Ty} {rs : List (PK Ty)} {G : Fun C ps (Option (ArgsW C os rs))} (F : Cf) (hn : Nat.ble ps.length fn.ntmps = true)
    (t : ∀ kp kh hd, Hold (PK.enL KK) ps G fun vs r => runFnW ((mkX c w i h o).gh kp kh hd) F fn vs (deW KK os rs) = r) : ConWOk Tryz.prog KK f (mkW KK ps os rs G) := mkW_ok (X := mkX c w i h o) mkX_ok hC mix_ok hf hb hB hname F hn t
theorem iO {c w i h o} (hC : Cons Tryz.prog (mkX c w i h o)) (F : Cf) {f : Nat} {fn : Func} (hf : Tryz.prog.funcs[f]? = some fn) (hb : fn.body = some (bodyOf fn)) (hB : codeB fn.ntmps (bodyOf fn) = true) (hname : (fn.name == "runtime.NumGoroutine") = false) : InlOk Tryz.prog KK f (inlOf (mkX c w i h o) F fn) := inl_of (X := mkX c w i h o) mkX_ok hC mix_ok F hf hb hB (by simpa using hname)
/-! ### f21 loop.example/wharfdesk/laws.szStringS -/
noncomputable def X21 : Cx C := mkX [] [] [] [] 1376256
def F21 (n : Nat) : Cf := { N := n, keep := [0, 1, 4, 5, 11, 15, 26], live := lk [(0, [0, 1, 5])] }
noncomputable abbrev dec21 := deR KK [.int .i64]
abbrev A21_0 : Type := List (C .e9) × Int × Int
def s21_0  : A21_0 → St C := fun (x0_0, x0_1, x0_2) => { env := [(0, .one (.row .e9 x0_0)), (1, .one (.int .i64 x0_1)), (5, .one (.int .i64 x0_2))], objs := [], base := 0 }
noncomputable def r21_0 (n : Nat)   (rec0 : A21_0 → Option (Int)) : A21_0 → Option (Int) := fun (x0_0, x0_1, x0_2) =>
 cond (decide (x0_2 < (x0_0.length : Int)))
 (cond (decide (0 ≤ x0_2)) (Option.bind x0_0[x0_2.toNat]? fun e1 => cond (decide ((IntKind.i64.wrap (x0_1 - (e1.size : Int))) < 0))
 (some ((-1)))
 (rec0 ((x0_0, IntKind.i64.wrap (x0_1 - (e1.size : Int)), IntKind.i64.wrap (x0_2 + 1))))) none)
 (some (x0_1))
noncomputable def LP21_0 (n : Nat)   (x : A21_0) : Option (Int) := lpN (r21_0 n  ) n x
noncomputable def MP21_0 (n : Nat)   (x : A21_0) : Option (Int) := iter (fun rec S => run X21 (F21 n) (codeAt (bodyOf Tryz.f21) [1, 1, 1, 0, 1, 0, 0]) 0 S (lopK rec (blkK 0 (seqK (run X21 (F21 n) (codeAt (bodyOf Tryz.f21) [1, 1, 1, 1]) 0) (kTop X21 Tryz.f21 dec21))))) [0, 1, 5] n (s21_0  x)
theorem m21_0 (n : Nat)   (x : A21_0) : MP21_0 n   x = LP21_0 n   x := by
  refine iter_eq (s21_0 ) (r21_0 n  ) (fun rec0 x => ?_) n x
  obtain ⟨x0_0, x0_1, x0_2⟩ := x
  kernel_rfl
noncomputable def G21n (n : Nat) (a0 : List (C .e9)) (a1 : Int) : Option (Int) :=
 cond (decide ((IntKind.i64.wrap (a1 - (a0.length : Int))) < 0))
 (some ((-1)))
 (LP21_0 n    ((a0, IntKind.i64.wrap (a1 - (a0.length : Int)), 0)))
theorem t21 (n : Nat) (a0 : List (C .e9)) (a1 : Int) : runFn X21 (F21 n) Tryz.f21 [.one (.row .e9 a0), .one (.int .i64 a1)] dec21 = G21n n a0 a1 := by
  refine Eq.trans (b :=
   cond (decide ((IntKind.i64.wrap (a1 - (a0.length : Int))) < 0))
   (some ((-1)))
   (MP21_0 n    ((a0, IntKind.i64.wrap (a1 - (a0.length : Int)), 0)))) (by kernel_rfl) ?_
  simp only [G21n, m21_0]
noncomputable def G21 (a0 : List (C .e9)) (a1 : Int) : Option (Int) := G21n fuel a0 a1
noncomputable def con21 : Con C := mkC KK [.row .e9, .int .i64] [.int .i64] G21
theorem c21 : ConOk Tryz.prog KK 21 con21 := cO (mkQ trivial trivial trivial : Cons Tryz.prog X21) (fn := Tryz.f21) (by kernel_rfl) (by kernel_rfl) (by kernel_rfl) (by kernel_rfl) (F21 fuel) (by kernel_rfl) (fun a0 a1 => t21 fuel a0 a1)
/-! ### f86 loop.example/wharfdesk/laws.szGateField -/
noncomputable def X86 : Cx C := mkX [(21, con21)] [] [] [] 5636096
def F86 (n : Nat) : Cf := { N := n, keep := [0, 1, 2, 4, 11, 17, 24, 31, 38], live := lk [] }
noncomputable abbrev dec86 := deR KK [.int .i64]
noncomputable def G86n (n : Nat) (a0 : VGateField) (a1 : Int) : Option (Int) :=
 cond (decide ((IntKind.i64.wrap (a1 - (a0.Name.size : Int))) < 0))
 (some ((-1)))
 (Option.bind (G21 a0.Words (IntKind.i64.wrap (a1 - (a0.Name.size : Int)))) fun r1 =>
 cond (decide (r1 < 0))
 (some ((-1)))
 (cond (decide ((IntKind.i64.wrap (r1 - (a0.To.size : Int))) < 0))
 (some ((-1)))
 (cond (decide ((IntKind.i64.wrap ((IntKind.i64.wrap (r1 - (a0.To.size : Int))) - (a0.Default.size : Int))) < 0))
 (some ((-1)))
 (cond (decide ((IntKind.i64.wrap ((IntKind.i64.wrap ((IntKind.i64.wrap (r1 - (a0.To.size : Int))) - (a0.Default.size : Int))) - (a0.Weighs.size : Int))) < 0))
 (some ((-1)))
 (some (IntKind.i64.wrap ((IntKind.i64.wrap ((IntKind.i64.wrap (r1 - (a0.To.size : Int))) - (a0.Default.size : Int))) - (a0.Weighs.size : Int))))))))
theorem t86 (n : Nat) (a0 : VGateField) (a1 : Int) : runFn X86 (F86 n) Tryz.f86 [.agg [.str a0.Name, .int .i64 a0.Kind, .int .i64 a0.Least, .int .i64 a0.Most, .row .e9 a0.Words, .str a0.To, .int .i64 a0.Role, .bool a0.Must, .bool a0.Fixed, .str a0.Default, .str a0.Weighs], .one (.int .i64 a1)] dec86 = G86n n a0 a1 := by
  kernel_rfl
noncomputable def G86 (a0 : VGateField) (a1 : Int) : Option (Int) := G86n fuel a0 a1
noncomputable def con86 : Con C := mkC KK [.el .e144, .int .i64] [.int .i64] G86
theorem c86 : ConOk Tryz.prog KK 86 con86 := cO (mkQ ⟨c21, trivial⟩ trivial trivial : Cons Tryz.prog X86) (fn := Tryz.f86) (by kernel_rfl) (by kernel_rfl) (by kernel_rfl) (by kernel_rfl) (F86 fuel) (by kernel_rfl) (fun a0 a1 => t86 fuel a0 a1)
/-! ### f72 loop.example/wharfdesk/laws.szGateFieldS -/
noncomputable def X72 : Cx C := mkX [(86, con86)] [] [] [] 4718592
def F72 (n : Nat) : Cf := { N := n, keep := [0, 1, 4, 5, 11, 15, 25], live := lk [(0, [0, 1, 5])] }
noncomputable abbrev dec72 := deR KK [.int .i64]
abbrev A72_0 : Type := List (C .e144) × Int × Int
def s72_0  : A72_0 → St C := fun (x0_0, x0_1, x0_2) => { env := [(0, .one (.row .e144 x0_0)), (1, .one (.int .i64 x0_1)), (5, .one (.int .i64 x0_2))], objs := [], base := 0 }
noncomputable def r72_0 (n : Nat)   (rec0 : A72_0 → Option (Int)) : A72_0 → Option (Int) := fun (x0_0, x0_1, x0_2) =>
 cond (decide (x0_2 < (x0_0.length : Int)))
 (cond (decide (0 ≤ x0_2)) (Option.bind x0_0[x0_2.toNat]? fun e1 => Option.bind (G86 e1 x0_1) fun r2 =>
 cond (decide (r2 < 0))
 (some ((-1)))
 (rec0 ((x0_0, r2, IntKind.i64.wrap (x0_2 + 1))))) none)
 (some (x0_1))
noncomputable def LP72_0 (n : Nat)   (x : A72_0) : Option (Int) := lpN (r72_0 n  ) n x
noncomputable def MP72_0 (n : Nat)   (x : A72_0) : Option (Int) := iter (fun rec S => run X72 (F72 n) (codeAt (bodyOf Tryz.f72) [1, 1, 1, 0, 1, 0, 0]) 0 S (lopK rec (blkK 0 (seqK (run X72 (F72 n) (codeAt (bodyOf Tryz.f72) [1, 1, 1, 1]) 0) (kTop X72 Tryz.f72 dec72))))) [0, 1, 5] n (s72_0  x)
theorem m72_0 (n : Nat)   (x : A72_0) : MP72_0 n   x = LP72_0 n   x := by
  refine iter_eq (s72_0 ) (r72_0 n  ) (fun rec0 x => ?_) n x
  obtain ⟨x0_0, x0_1, x0_2⟩ := x
  kernel_rfl
noncomputable def G72n (n : Nat) (a0 : List (C .e144)) (a1 : Int) : Option (Int) :=
 cond (decide ((IntKind.i64.wrap (a1 - (a0.length : Int))) < 0))
 (some ((-1)))
 (LP72_0 n    ((a0, IntKind.i64.wrap (a1 - (a0.length : Int)), 0)))
theorem t72 (n : Nat) (a0 : List (C .e144)) (a1 : Int) : runFn X72 (F72 n) Tryz.f72 [.one (.row .e144 a0), .one (.int .i64 a1)] dec72 = G72n n a0 a1 := by
  refine Eq.trans (b :=
   cond (decide ((IntKind.i64.wrap (a1 - (a0.length : Int))) < 0))
   (some ((-1)))
   (MP72_0 n    ((a0, IntKind.i64.wrap (a1 - (a0.length : Int)), 0)))) (by kernel_rfl) ?_
  simp only [G72n, m72_0]
noncomputable def G72 (a0 : List (C .e144)) (a1 : Int) : Option (Int) := G72n fuel a0 a1
noncomputable def con72 : Con C := mkC KK [.row .e144, .int .i64] [.int .i64] G72
theorem c72 : ConOk Tryz.prog KK 72 con72 := cO (mkQ ⟨c86, trivial⟩ trivial trivial : Cons Tryz.prog X72) (fn := Tryz.f72) (by kernel_rfl) (by kernel_rfl) (by kernel_rfl) (by kernel_rfl) (F72 fuel) (by kernel_rfl) (fun a0 a1 => t72 fuel a0 a1)
/-! ### f44 loop.example/wharfdesk/laws.szGateShape -/
noncomputable def X44 : Cx C := mkX [(72, con72)] [] [] [] 2883584
def F44 (n : Nat) : Cf := { N := n, keep := [0, 1, 2, 4, 11, 17], live := lk [] }
noncomputable abbrev dec44 := deR KK [.int .i64]
noncomputable def G44n (n : Nat) (a0 : VGateShape) (a1 : Int) : Option (Int) :=
 cond (decide ((IntKind.i64.wrap (a1 - (a0.Kind.size : Int))) < 0))
 (some ((-1)))
 (Option.bind (G72 a0.Fields (IntKind.i64.wrap (a1 - (a0.Kind.size : Int)))) fun r1 =>
 cond (decide (r1 < 0))
 (some ((-1)))
 (some (r1)))
theorem t44 (n : Nat) (a0 : VGateShape) (a1 : Int) : runFn X44 (F44 n) Tryz.f44 [.agg [.str a0.Kind, .row .e144 a0.Fields], .one (.int .i64 a1)] dec44 = G44n n a0 a1 := by
  kernel_rfl
noncomputable def G44 (a0 : VGateShape) (a1 : Int) : Option (Int) := G44n fuel a0 a1
noncomputable def con44 : Con C := mkC KK [.el .e90, .int .i64] [.int .i64] G44
theorem c44 : ConOk Tryz.prog KK 44 con44 := cO (mkQ ⟨c72, trivial⟩ trivial trivial : Cons Tryz.prog X44) (fn := Tryz.f44) (by kernel_rfl) (by kernel_rfl) (by kernel_rfl) (by kernel_rfl) (F44 fuel) (by kernel_rfl) (fun a0 a1 => t44 fuel a0 a1)
/-! ### f18 loop.example/wharfdesk/laws.szGateShapeS -/
noncomputable def X18 : Cx C := mkX [(44, con44)] [] [] [] 1179648
def F18 (n : Nat) : Cf := { N := n, keep := [0, 1, 4, 5, 11, 15, 25], live := lk [(0, [0, 1, 5])] }
noncomputable abbrev dec18 := deR KK [.int .i64]
abbrev A18_0 : Type := List (C .e90) × Int × Int
def s18_0  : A18_0 → St C := fun (x0_0, x0_1, x0_2) => { env := [(0, .one (.row .e90 x0_0)), (1, .one (.int .i64 x0_1)), (5, .one (.int .i64 x0_2))], objs := [], base := 0 }
noncomputable def r18_0 (n : Nat)   (rec0 : A18_0 → Option (Int)) : A18_0 → Option (Int) := fun (x0_0, x0_1, x0_2) =>
 cond (decide (x0_2 < (x0_0.length : Int)))
 (cond (decide (0 ≤ x0_2)) (Option.bind x0_0[x0_2.toNat]? fun e1 => Option.bind (G44 e1 x0_1) fun r2 =>
 cond (decide (r2 < 0))
 (some ((-1)))
 (rec0 ((x0_0, r2, IntKind.i64.wrap (x0_2 + 1))))) none)
 (some (x0_1))
noncomputable def LP18_0 (n : Nat)   (x : A18_0) : Option (Int) := lpN (r18_0 n  ) n x
noncomputable def MP18_0 (n : Nat)   (x : A18_0) : Option (Int) := iter (fun rec S => run X18 (F18 n) (codeAt (bodyOf Tryz.f18) [1, 1, 1, 0, 1, 0, 0]) 0 S (lopK rec (blkK 0 (seqK (run X18 (F18 n) (codeAt (bodyOf Tryz.f18) [1, 1, 1, 1]) 0) (kTop X18 Tryz.f18 dec18))))) [0, 1, 5] n (s18_0  x)
theorem m18_0 (n : Nat)   (x : A18_0) : MP18_0 n   x = LP18_0 n   x := by
  refine iter_eq (s18_0 ) (r18_0 n  ) (fun rec0 x => ?_) n x
  obtain ⟨x0_0, x0_1, x0_2⟩ := x
  kernel_rfl
noncomputable def G18n (n : Nat) (a0 : List (C .e90)) (a1 : Int) : Option (Int) :=
 cond (decide ((IntKind.i64.wrap (a1 - (a0.length : Int))) < 0))
 (some ((-1)))
 (LP18_0 n    ((a0, IntKind.i64.wrap (a1 - (a0.length : Int)), 0)))
theorem t18 (n : Nat) (a0 : List (C .e90)) (a1 : Int) : runFn X18 (F18 n) Tryz.f18 [.one (.row .e90 a0), .one (.int .i64 a1)] dec18 = G18n n a0 a1 := by
  refine Eq.trans (b :=
   cond (decide ((IntKind.i64.wrap (a1 - (a0.length : Int))) < 0))
   (some ((-1)))
   (MP18_0 n    ((a0, IntKind.i64.wrap (a1 - (a0.length : Int)), 0)))) (by kernel_rfl) ?_
  simp only [G18n, m18_0]
noncomputable def G18 (a0 : List (C .e90)) (a1 : Int) : Option (Int) := G18n fuel a0 a1
noncomputable def con18 : Con C := mkC KK [.row .e90, .int .i64] [.int .i64] G18
theorem c18 : ConOk Tryz.prog KK 18 con18 := cO (mkQ ⟨c44, trivial⟩ trivial trivial : Cons Tryz.prog X18) (fn := Tryz.f18) (by kernel_rfl) (by kernel_rfl) (by kernel_rfl) (by kernel_rfl) (F18 fuel) (by kernel_rfl) (fun a0 a1 => t18 fuel a0 a1)
/-! ### f45 loop.example/wharfdesk/laws.szGateMend -/
noncomputable def X45 : Cx C := mkX [] [] [] [] 2949120
def F45 (n : Nat) : Cf := { N := n, keep := [0, 1, 2, 4, 11, 18, 25, 32, 39, 46], live := lk [] }
noncomputable abbrev dec45 := deR KK [.int .i64]
noncomputable def G45n (n : Nat) (a0 : VGateMend) (a1 : Int) : Option (Int) :=
 cond (decide ((IntKind.i64.wrap (a1 - (a0.Kind.size : Int))) < 0))
 (some ((-1)))
 (cond (decide ((IntKind.i64.wrap ((IntKind.i64.wrap (a1 - (a0.Kind.size : Int))) - (a0.Field.size : Int))) < 0))
 (some ((-1)))
 (cond (decide ((IntKind.i64.wrap ((IntKind.i64.wrap ((IntKind.i64.wrap (a1 - (a0.Kind.size : Int))) - (a0.Field.size : Int))) - (a0.When.size : Int))) < 0))
 (some ((-1)))
 (cond (decide ((IntKind.i64.wrap ((IntKind.i64.wrap ((IntKind.i64.wrap ((IntKind.i64.wrap (a1 - (a0.Kind.size : Int))) - (a0.Field.size : Int))) - (a0.When.size : Int))) - (a0.Is.size : Int))) < 0))
 (some ((-1)))
 (cond (decide ((IntKind.i64.wrap ((IntKind.i64.wrap ((IntKind.i64.wrap ((IntKind.i64.wrap ((IntKind.i64.wrap (a1 - (a0.Kind.size : Int))) - (a0.Field.size : Int))) - (a0.When.size : Int))) - (a0.Is.size : Int))) - (a0.Put.size : Int))) < 0))
 (some ((-1)))
 (cond (decide ((IntKind.i64.wrap ((IntKind.i64.wrap ((IntKind.i64.wrap ((IntKind.i64.wrap ((IntKind.i64.wrap ((IntKind.i64.wrap (a1 - (a0.Kind.size : Int))) - (a0.Field.size : Int))) - (a0.When.size : Int))) - (a0.Is.size : Int))) - (a0.Put.size : Int))) - (a0.From.size : Int))) < 0))
 (some ((-1)))
 (some (IntKind.i64.wrap ((IntKind.i64.wrap ((IntKind.i64.wrap ((IntKind.i64.wrap ((IntKind.i64.wrap ((IntKind.i64.wrap (a1 - (a0.Kind.size : Int))) - (a0.Field.size : Int))) - (a0.When.size : Int))) - (a0.Is.size : Int))) - (a0.Put.size : Int))) - (a0.From.size : Int)))))))))
theorem t45 (n : Nat) (a0 : VGateMend) (a1 : Int) : runFn X45 (F45 n) Tryz.f45 [.agg [.str a0.Kind, .str a0.Field, .str a0.When, .str a0.Is, .str a0.Put, .str a0.From], .one (.int .i64 a1)] dec45 = G45n n a0 a1 := by
  kernel_rfl
noncomputable def G45 (a0 : VGateMend) (a1 : Int) : Option (Int) := G45n fuel a0 a1
noncomputable def con45 : Con C := mkC KK [.el .e93, .int .i64] [.int .i64] G45
theorem c45 : ConOk Tryz.prog KK 45 con45 := cO (mkQ trivial trivial trivial : Cons Tryz.prog X45) (fn := Tryz.f45) (by kernel_rfl) (by kernel_rfl) (by kernel_rfl) (by kernel_rfl) (F45 fuel) (by kernel_rfl) (fun a0 a1 => t45 fuel a0 a1)
/-! ### f19 loop.example/wharfdesk/laws.szGateMendS -/
noncomputable def X19 : Cx C := mkX [(45, con45)] [] [] [] 1245184
def F19 (n : Nat) : Cf := { N := n, keep := [0, 1, 4, 5, 11, 15, 25], live := lk [(0, [0, 1, 5])] }
noncomputable abbrev dec19 := deR KK [.int .i64]
abbrev A19_0 : Type := List (C .e93) × Int × Int
def s19_0  : A19_0 → St C := fun (x0_0, x0_1, x0_2) => { env := [(0, .one (.row .e93 x0_0)), (1, .one (.int .i64 x0_1)), (5, .one (.int .i64 x0_2))], objs := [], base := 0 }
noncomputable def r19_0 (n : Nat)   (rec0 : A19_0 → Option (Int)) : A19_0 → Option (Int) := fun (x0_0, x0_1, x0_2) =>
 cond (decide (x0_2 < (x0_0.length : Int)))
 (cond (decide (0 ≤ x0_2)) (Option.bind x0_0[x0_2.toNat]? fun e1 => Option.bind (G45 e1 x0_1) fun r2 =>
 cond (decide (r2 < 0))
 (some ((-1)))
 (rec0 ((x0_0, r2, IntKind.i64.wrap (x0_2 + 1))))) none)
 (some (x0_1))
noncomputable def LP19_0 (n : Nat)   (x : A19_0) : Option (Int) := lpN (r19_0 n  ) n x
noncomputable def MP19_0 (n : Nat)   (x : A19_0) : Option (Int) := iter (fun rec S => run X19 (F19 n) (codeAt (bodyOf Tryz.f19) [1, 1, 1, 0, 1, 0, 0]) 0 S (lopK rec (blkK 0 (seqK (run X19 (F19 n) (codeAt (bodyOf Tryz.f19) [1, 1, 1, 1]) 0) (kTop X19 Tryz.f19 dec19))))) [0, 1, 5] n (s19_0  x)
theorem m19_0 (n : Nat)   (x : A19_0) : MP19_0 n   x = LP19_0 n   x := by
  refine iter_eq (s19_0 ) (r19_0 n  ) (fun rec0 x => ?_) n x
  obtain ⟨x0_0, x0_1, x0_2⟩ := x
  kernel_rfl
noncomputable def G19n (n : Nat) (a0 : List (C .e93)) (a1 : Int) : Option (Int) :=
 cond (decide ((IntKind.i64.wrap (a1 - (a0.length : Int))) < 0))
 (some ((-1)))
 (LP19_0 n    ((a0, IntKind.i64.wrap (a1 - (a0.length : Int)), 0)))
theorem t19 (n : Nat) (a0 : List (C .e93)) (a1 : Int) : runFn X19 (F19 n) Tryz.f19 [.one (.row .e93 a0), .one (.int .i64 a1)] dec19 = G19n n a0 a1 := by
  refine Eq.trans (b :=
   cond (decide ((IntKind.i64.wrap (a1 - (a0.length : Int))) < 0))
   (some ((-1)))
   (MP19_0 n    ((a0, IntKind.i64.wrap (a1 - (a0.length : Int)), 0)))) (by kernel_rfl) ?_
  simp only [G19n, m19_0]
noncomputable def G19 (a0 : List (C .e93)) (a1 : Int) : Option (Int) := G19n fuel a0 a1
noncomputable def con19 : Con C := mkC KK [.row .e93, .int .i64] [.int .i64] G19
theorem c19 : ConOk Tryz.prog KK 19 con19 := cO (mkQ ⟨c45, trivial⟩ trivial trivial : Cons Tryz.prog X19) (fn := Tryz.f19) (by kernel_rfl) (by kernel_rfl) (by kernel_rfl) (by kernel_rfl) (F19 fuel) (by kernel_rfl) (fun a0 a1 => t19 fuel a0 a1)
/-! ### f46 loop.example/wharfdesk/laws.szGateTeam -/
noncomputable def X46 : Cx C := mkX [] [] [] [] 3014656
def F46 (n : Nat) : Cf := { N := n, keep := [0, 1, 2, 4, 11, 18], live := lk [] }
noncomputable abbrev dec46 := deR KK [.int .i64]
noncomputable def G46n (n : Nat) (a0 : VGateTeam) (a1 : Int) : Option (Int) :=
 cond (decide ((IntKind.i64.wrap (a1 - (a0.Name.size : Int))) < 0))
 (some ((-1)))
 (cond (decide ((IntKind.i64.wrap ((IntKind.i64.wrap (a1 - (a0.Name.size : Int))) - (a0.Over.size : Int))) < 0))
 (some ((-1)))
 (some (IntKind.i64.wrap ((IntKind.i64.wrap (a1 - (a0.Name.size : Int))) - (a0.Over.size : Int)))))
theorem t46 (n : Nat) (a0 : VGateTeam) (a1 : Int) : runFn X46 (F46 n) Tryz.f46 [.agg [.str a0.Name, .str a0.Over], .one (.int .i64 a1)] dec46 = G46n n a0 a1 := by
  kernel_rfl
noncomputable def G46 (a0 : VGateTeam) (a1 : Int) : Option (Int) := G46n fuel a0 a1
noncomputable def con46 : Con C := mkC KK [.el .e96, .int .i64] [.int .i64] G46
theorem c46 : ConOk Tryz.prog KK 46 con46 := cO (mkQ trivial trivial trivial : Cons Tryz.prog X46) (fn := Tryz.f46) (by kernel_rfl) (by kernel_rfl) (by kernel_rfl) (by kernel_rfl) (F46 fuel) (by kernel_rfl) (fun a0 a1 => t46 fuel a0 a1)
/-! ### f20 loop.example/wharfdesk/laws.szGateTeamS -/
noncomputable def X20 : Cx C := mkX [(46, con46)] [] [] [] 1310720
def F20 (n : Nat) : Cf := { N := n, keep := [0, 1, 4, 5, 11, 15, 25], live := lk [(0, [0, 1, 5])] }
noncomputable abbrev dec20 := deR KK [.int .i64]
abbrev A20_0 : Type := List (C .e96) × Int × Int
def s20_0  : A20_0 → St C := fun (x0_0, x0_1, x0_2) => { env := [(0, .one (.row .e96 x0_0)), (1, .one (.int .i64 x0_1)), (5, .one (.int .i64 x0_2))], objs := [], base := 0 }
noncomputable def r20_0 (n : Nat)   (rec0 : A20_0 → Option (Int)) : A20_0 → Option (Int) := fun (x0_0, x0_1, x0_2) =>
 cond (decide (x0_2 < (x0_0.length : Int)))
 (cond (decide (0 ≤ x0_2)) (Option.bind x0_0[x0_2.toNat]? fun e1 => Option.bind (G46 e1 x0_1) fun r2 =>
 cond (decide (r2 < 0))
 (some ((-1)))
 (rec0 ((x0_0, r2, IntKind.i64.wrap (x0_2 + 1))))) none)
 (some (x0_1))
noncomputable def LP20_0 (n : Nat)   (x : A20_0) : Option (Int) := lpN (r20_0 n  ) n x
noncomputable def MP20_0 (n : Nat)   (x : A20_0) : Option (Int) := iter (fun rec S => run X20 (F20 n) (codeAt (bodyOf Tryz.f20) [1, 1, 1, 0, 1, 0, 0]) 0 S (lopK rec (blkK 0 (seqK (run X20 (F20 n) (codeAt (bodyOf Tryz.f20) [1, 1, 1, 1]) 0) (kTop X20 Tryz.f20 dec20))))) [0, 1, 5] n (s20_0  x)
theorem m20_0 (n : Nat)   (x : A20_0) : MP20_0 n   x = LP20_0 n   x := by
  refine iter_eq (s20_0 ) (r20_0 n  ) (fun rec0 x => ?_) n x
  obtain ⟨x0_0, x0_1, x0_2⟩ := x
  kernel_rfl
noncomputable def G20n (n : Nat) (a0 : List (C .e96)) (a1 : Int) : Option (Int) :=
 cond (decide ((IntKind.i64.wrap (a1 - (a0.length : Int))) < 0))
 (some ((-1)))
 (LP20_0 n    ((a0, IntKind.i64.wrap (a1 - (a0.length : Int)), 0)))
theorem t20 (n : Nat) (a0 : List (C .e96)) (a1 : Int) : runFn X20 (F20 n) Tryz.f20 [.one (.row .e96 a0), .one (.int .i64 a1)] dec20 = G20n n a0 a1 := by
  refine Eq.trans (b :=
   cond (decide ((IntKind.i64.wrap (a1 - (a0.length : Int))) < 0))
   (some ((-1)))
   (MP20_0 n    ((a0, IntKind.i64.wrap (a1 - (a0.length : Int)), 0)))) (by kernel_rfl) ?_
  simp only [G20n, m20_0]
noncomputable def G20 (a0 : List (C .e96)) (a1 : Int) : Option (Int) := G20n fuel a0 a1
noncomputable def con20 : Con C := mkC KK [.row .e96, .int .i64] [.int .i64] G20
theorem c20 : ConOk Tryz.prog KK 20 con20 := cO (mkQ ⟨c46, trivial⟩ trivial trivial : Cons Tryz.prog X20) (fn := Tryz.f20) (by kernel_rfl) (by kernel_rfl) (by kernel_rfl) (by kernel_rfl) (F20 fuel) (by kernel_rfl) (fun a0 a1 => t20 fuel a0 a1)
/-! ### f5 loop.example/wharfdesk/laws.szGateLaw -/
noncomputable def X5 : Cx C := mkX [(18, con18), (19, con19), (20, con20)] [] [] [] 327680
def F5 (n : Nat) : Cf := { N := n, keep := [0, 1, 2, 4, 10, 16, 22], live := lk [] }
noncomputable abbrev dec5 := deR KK [.int .i64]
noncomputable def G5n (n : Nat) (a0 : VGateLaw) (a1 : Int) : Option (Int) :=
 Option.bind (G18 a0.Shapes a1) fun r1 =>
 cond (decide (r1 < 0))
 (some ((-1)))
 (Option.bind (G19 a0.Mends r1) fun r2 =>
 cond (decide (r2 < 0))
 (some ((-1)))
 (Option.bind (G20 a0.Teams r2) fun r3 =>
 cond (decide (r3 < 0))
 (some ((-1)))
 (some (r3))))
theorem t5 (n : Nat) (a0 : VGateLaw) (a1 : Int) : runFn X5 (F5 n) Tryz.f5 [.agg [.row .e90 a0.Shapes, .row .e93 a0.Mends, .row .e96 a0.Teams], .one (.int .i64 a1)] dec5 = G5n n a0 a1 := by
  kernel_rfl
noncomputable def G5 (a0 : VGateLaw) (a1 : Int) : Option (Int) := G5n fuel a0 a1
noncomputable def con5 : Con C := mkC KK [.el .e26, .int .i64] [.int .i64] G5
theorem c5 : ConOk Tryz.prog KK 5 con5 := cO (mkQ ⟨c18, c19, c20, trivial⟩ trivial trivial : Cons Tryz.prog X5) (fn := Tryz.f5) (by kernel_rfl) (by kernel_rfl) (by kernel_rfl) (by kernel_rfl) (F5 fuel) (by kernel_rfl) (fun a0 a1 => t5 fuel a0 a1)
/-! ### f51 loop.example/wharfdesk/spec.l1In -/
noncomputable def X51 : Cx C := mkX [] [] [] [] 3342336
def F51 (n : Nat) : Cf := { N := n, keep := [0, 1, 2, 6], live := lk [] }
noncomputable abbrev dec51 := deR KK [.bool]
noncomputable def G51n (n : Nat) (a0 : Int) (a1 : Int) (a2 : Int) : Option (Bool) :=
 cond (decide (a0 ≥ a1))
 (some (decide (a0 ≤ a2)))
 (some (false))
theorem t51 (n : Nat) (a0 : Int) (a1 : Int) (a2 : Int) : runFn X51 (F51 n) Tryz.f51 [.one (.int .i64 a0), .one (.int .i64 a1), .one (.int .i64 a2)] dec51 = G51n n a0 a1 a2 := by
  kernel_rfl
noncomputable def G51 (a0 : Int) (a1 : Int) (a2 : Int) : Option (Bool) := G51n fuel a0 a1 a2
noncomputable def con51 : Con C := mkC KK [.int .i64, .int .i64, .int .i64] [.bool] G51
theorem c51 : ConOk Tryz.prog KK 51 con51 := cO (mkQ trivial trivial trivial : Cons Tryz.prog X51) (fn := Tryz.f51) (by kernel_rfl) (by kernel_rfl) (by kernel_rfl) (by kernel_rfl) (F51 fuel) (by kernel_rfl) (fun a0 a1 a2 => t51 fuel a0 a1 a2)
/-! ### f77 loop.example/wharfdesk/spec.l1Byte -/
noncomputable def X77 : Cx C := mkX [] [] [] [] 5046272
def F77 (n : Nat) : Cf := { N := n, keep := [0, 2], live := lk [] }
noncomputable abbrev dec77 := deR KK [.bool]
noncomputable def G77n (n : Nat) (a0 : Int) : Option (Bool) :=
 cond (decide (a0 ≥ 97))
 (cond (decide (a0 ≤ 122))
 (some (true))
 (cond (decide (a0 ≥ 48))
 (cond (decide (a0 ≤ 57))
 (some (true))
 (some (a0 == 45)))
 (some (a0 == 45))))
 (cond (decide (a0 ≥ 48))
 (cond (decide (a0 ≤ 57))
 (some (true))
 (some (a0 == 45)))
 (some (a0 == 45)))
theorem t77 (n : Nat) (a0 : Int) : runFn X77 (F77 n) Tryz.f77 [.one (.int .u8 a0)] dec77 = G77n n a0 := by
  kernel_rfl
noncomputable def G77 (a0 : Int) : Option (Bool) := G77n fuel a0
noncomputable def con77 : Con C := mkC KK [.int .u8] [.bool] G77
theorem c77 : ConOk Tryz.prog KK 77 con77 := cO (mkQ trivial trivial trivial : Cons Tryz.prog X77) (fn := Tryz.f77) (by kernel_rfl) (by kernel_rfl) (by kernel_rfl) (by kernel_rfl) (F77 fuel) (by kernel_rfl) (fun a0 => t77 fuel a0)
/-! ### f50 loop.example/wharfdesk/spec.l1NameOk -/
noncomputable def X50 : Cx C := mkX [(51, con51), (77, con77)] [] [] [] 3276800
def F50 (n : Nat) : Cf := { N := n, keep := [0, 2, 3, 7, 11, 18], live := lk [(0, [0, 3])] }
noncomputable abbrev dec50 := deR KK [.bool]
abbrev A50_0 : Type := ByteArray × Int
def s50_0  : A50_0 → St C := fun (x0_0, x0_1) => { env := [(0, .one (.str x0_0)), (3, .one (.int .i64 x0_1))], objs := [], base := 0 }
noncomputable def r50_0 (n : Nat)   (rec0 : A50_0 → Option (Bool)) : A50_0 → Option (Bool) := fun (x0_0, x0_1) =>
 cond (decide (x0_1 < (x0_0.size : Int)))
 (cond (decide (0 ≤ x0_1)) (cond (decide (x0_1 < (x0_0.size : Int))) (Option.bind (G77 (sbt x0_0 x0_1)) fun r2 =>
 cond (!r2)
 (some (false))
 (rec0 ((x0_0, IntKind.i64.wrap (x0_1 + 1))))) none) none)
 (some (true))
noncomputable def LP50_0 (n : Nat)   (x : A50_0) : Option (Bool) := lpN (r50_0 n  ) n x
noncomputable def MP50_0 (n : Nat)   (x : A50_0) : Option (Bool) := iter (fun rec S => run X50 (F50 n) (codeAt (bodyOf Tryz.f50) [1, 1, 0, 1, 0, 0]) 0 S (lopK rec (blkK 0 (seqK (run X50 (F50 n) (codeAt (bodyOf Tryz.f50) [1, 1, 1]) 0) (kTop X50 Tryz.f50 dec50))))) [0, 3] n (s50_0  x)
theorem m50_0 (n : Nat)   (x : A50_0) : MP50_0 n   x = LP50_0 n   x := by
  refine iter_eq (s50_0 ) (r50_0 n  ) (fun rec0 x => ?_) n x
  obtain ⟨x0_0, x0_1⟩ := x
  kernel_rfl
noncomputable def G50n (n : Nat) (a0 : ByteArray) : Option (Bool) :=
 Option.bind (G51 (a0.size : Int) 1 16) fun r1 =>
 cond (!r1)
 (some (false))
 (LP50_0 n    (a0, 0))
theorem t50 (n : Nat) (a0 : ByteArray) : runFn X50 (F50 n) Tryz.f50 [.one (.str a0)] dec50 = G50n n a0 := by
  refine Eq.trans (b :=
   Option.bind (G51 (a0.size : Int) 1 16) fun r1 =>
   cond (!r1)
   (some (false))
   (MP50_0 n    (a0, 0))) (by kernel_rfl) ?_
  simp only [G50n, m50_0]
noncomputable def G50 (a0 : ByteArray) : Option (Bool) := G50n fuel a0
noncomputable def con50 : Con C := mkC KK [.str] [.bool] G50
theorem c50 : ConOk Tryz.prog KK 50 con50 := cO (mkQ ⟨c51, c77, trivial⟩ trivial trivial : Cons Tryz.prog X50) (fn := Tryz.f50) (by kernel_rfl) (by kernel_rfl) (by kernel_rfl) (by kernel_rfl) (F50 fuel) (by kernel_rfl) (fun a0 => t50 fuel a0)
/-! ### f54 loop.example/wharfdesk/spec.l1Shape -/
noncomputable def X54 : Cx C := mkX [] [] [] [] 3538944
def F54 (n : Nat) : Cf := { N := n, keep := [0, 1, 4, 5, 9, 18], live := lk [(0, [0, 1, 5])] }
noncomputable abbrev dec54 := deR KK [.int .i64]
abbrev A54_0 : Type := List (C .e105) × ByteArray × Int
def s54_0  : A54_0 → St C := fun (x0_0, x0_1, x0_2) => { env := [(0, .one (.row .e105 x0_0)), (1, .one (.str x0_1)), (5, .one (.int .i64 x0_2))], objs := [], base := 0 }
noncomputable def r54_0 (n : Nat)   (rec0 : A54_0 → Option (Int)) : A54_0 → Option (Int) := fun (x0_0, x0_1, x0_2) =>
 cond (decide (x0_2 < (x0_0.length : Int)))
 (cond (decide (0 ≤ x0_2)) (Option.bind x0_0[x0_2.toNat]? fun e1 => cond (decide (e1.Kind = x0_1))
 (some (x0_2))
 (rec0 ((x0_0, x0_1, IntKind.i64.wrap (x0_2 + 1))))) none)
 (some ((-1)))
noncomputable def LP54_0 (n : Nat)   (x : A54_0) : Option (Int) := lpN (r54_0 n  ) n x
noncomputable def MP54_0 (n : Nat)   (x : A54_0) : Option (Int) := iter (fun rec S => run X54 (F54 n) (codeAt (bodyOf Tryz.f54) [1, 0, 1, 0, 0]) 0 S (lopK rec (blkK 0 (seqK (run X54 (F54 n) (codeAt (bodyOf Tryz.f54) [1, 1]) 0) (kTop X54 Tryz.f54 dec54))))) [0, 1, 5] n (s54_0  x)
theorem m54_0 (n : Nat)   (x : A54_0) : MP54_0 n   x = LP54_0 n   x := by
  refine iter_eq (s54_0 ) (r54_0 n  ) (fun rec0 x => ?_) n x
  obtain ⟨x0_0, x0_1, x0_2⟩ := x
  kernel_rfl
noncomputable def G54n (n : Nat) (a0 : List (C .e105)) (a1 : ByteArray) : Option (Int) :=
 LP54_0 n    (a0, a1, 0)
theorem t54 (n : Nat) (a0 : List (C .e105)) (a1 : ByteArray) : runFn X54 (F54 n) Tryz.f54 [.one (.row .e105 a0), .one (.str a1)] dec54 = G54n n a0 a1 := by
  refine Eq.trans (b :=
   MP54_0 n    (a0, a1, 0)) (by kernel_rfl) ?_
  simp only [G54n, m54_0]
noncomputable def G54 (a0 : List (C .e105)) (a1 : ByteArray) : Option (Int) := G54n fuel a0 a1
noncomputable def con54 : Con C := mkC KK [.row .e105, .str] [.int .i64] G54
theorem c54 : ConOk Tryz.prog KK 54 con54 := cO (mkQ trivial trivial trivial : Cons Tryz.prog X54) (fn := Tryz.f54) (by kernel_rfl) (by kernel_rfl) (by kernel_rfl) (by kernel_rfl) (F54 fuel) (by kernel_rfl) (fun a0 a1 => t54 fuel a0 a1)
/-! ### f91 loop.example/wharfdesk/spec.l1Has -/
noncomputable def X91 : Cx C := mkX [] [] [] [] 5963776
def F91 (n : Nat) : Cf := { N := n, keep := [0, 1, 4, 5, 9, 17], live := lk [(0, [0, 1, 5])] }
noncomputable abbrev dec91 := deR KK [.bool]
abbrev A91_0 : Type := List (C .e9) × ByteArray × Int
def s91_0  : A91_0 → St C := fun (x0_0, x0_1, x0_2) => { env := [(0, .one (.row .e9 x0_0)), (1, .one (.str x0_1)), (5, .one (.int .i64 x0_2))], objs := [], base := 0 }
noncomputable def r91_0 (n : Nat)   (rec0 : A91_0 → Option (Bool)) : A91_0 → Option (Bool) := fun (x0_0, x0_1, x0_2) =>
 cond (decide (x0_2 < (x0_0.length : Int)))
 (cond (decide (0 ≤ x0_2)) (Option.bind x0_0[x0_2.toNat]? fun e1 => cond (decide (e1 = x0_1))
 (some (true))
 (rec0 ((x0_0, x0_1, IntKind.i64.wrap (x0_2 + 1))))) none)
 (some (false))
noncomputable def LP91_0 (n : Nat)   (x : A91_0) : Option (Bool) := lpN (r91_0 n  ) n x
noncomputable def MP91_0 (n : Nat)   (x : A91_0) : Option (Bool) := iter (fun rec S => run X91 (F91 n) (codeAt (bodyOf Tryz.f91) [1, 0, 1, 0, 0]) 0 S (lopK rec (blkK 0 (seqK (run X91 (F91 n) (codeAt (bodyOf Tryz.f91) [1, 1]) 0) (kTop X91 Tryz.f91 dec91))))) [0, 1, 5] n (s91_0  x)
theorem m91_0 (n : Nat)   (x : A91_0) : MP91_0 n   x = LP91_0 n   x := by
  refine iter_eq (s91_0 ) (r91_0 n  ) (fun rec0 x => ?_) n x
  obtain ⟨x0_0, x0_1, x0_2⟩ := x
  kernel_rfl
noncomputable def G91n (n : Nat) (a0 : List (C .e9)) (a1 : ByteArray) : Option (Bool) :=
 LP91_0 n    (a0, a1, 0)
theorem t91 (n : Nat) (a0 : List (C .e9)) (a1 : ByteArray) : runFn X91 (F91 n) Tryz.f91 [.one (.row .e9 a0), .one (.str a1)] dec91 = G91n n a0 a1 := by
  refine Eq.trans (b :=
   MP91_0 n    (a0, a1, 0)) (by kernel_rfl) ?_
  simp only [G91n, m91_0]
noncomputable def G91 (a0 : List (C .e9)) (a1 : ByteArray) : Option (Bool) := G91n fuel a0 a1
noncomputable def con91 : Con C := mkC KK [.row .e9, .str] [.bool] G91
theorem c91 : ConOk Tryz.prog KK 91 con91 := cO (mkQ trivial trivial trivial : Cons Tryz.prog X91) (fn := Tryz.f91) (by kernel_rfl) (by kernel_rfl) (by kernel_rfl) (by kernel_rfl) (F91 fuel) (by kernel_rfl) (fun a0 a1 => t91 fuel a0 a1)
/-! ### f103 loop.example/wharfdesk/spec.l1Number -/
noncomputable def X103 : Cx C := mkX [(51, con51)] [] [] [] 6750208
def F103 (n : Nat) : Cf := { N := n, keep := [0, 2, 3, 4, 18, 22, 34], live := lk [(0, [0, 3, 4])] }
noncomputable abbrev dec103 := deR KK [.int .i64]
abbrev A103_0 : Type := ByteArray × Int × Int
def s103_0  : A103_0 → St C := fun (x0_0, x0_1, x0_2) => { env := [(0, .one (.str x0_0)), (3, .one (.int .i64 x0_1)), (4, .one (.int .i64 x0_2))], objs := [], base := 0 }
noncomputable def r103_0 (n : Nat)   (rec0 : A103_0 → Option (Int)) : A103_0 → Option (Int) := fun (x0_0, x0_1, x0_2) =>
 cond (decide (x0_2 < (x0_0.size : Int)))
 (cond (decide (0 ≤ x0_2)) (cond (decide (x0_2 < (x0_0.size : Int))) (cond (decide ((sbt x0_0 x0_2) < 48))
 (some ((-1)))
 (cond (decide (0 ≤ x0_2)) (cond (decide (x0_2 < (x0_0.size : Int))) (cond (decide ((sbt x0_0 x0_2) > 57))
 (some ((-1)))
 (cond (decide (0 ≤ x0_2)) (cond (decide (x0_2 < (x0_0.size : Int))) (rec0 ((x0_0, IntKind.i64.wrap ((IntKind.i64.wrap ((IntKind.i64.wrap (x0_1 * 10)) + (IntKind.i64.wrap (sbt x0_0 x0_2)))) - 48), IntKind.i64.wrap (x0_2 + 1)))) none) none)) none) none)) none) none)
 (some (x0_1))
noncomputable def LP103_0 (n : Nat)   (x : A103_0) : Option (Int) := lpN (r103_0 n  ) n x
noncomputable def MP103_0 (n : Nat)   (x : A103_0) : Option (Int) := iter (fun rec S => run X103 (F103 n) (codeAt (bodyOf Tryz.f103) [1, 1, 1, 0, 1, 0, 0]) 0 S (lopK rec (blkK 0 (seqK (run X103 (F103 n) (codeAt (bodyOf Tryz.f103) [1, 1, 1, 1]) 0) (kTop X103 Tryz.f103 dec103))))) [0, 3, 4] n (s103_0  x)
theorem m103_0 (n : Nat)   (x : A103_0) : MP103_0 n   x = LP103_0 n   x := by
  refine iter_eq (s103_0 ) (r103_0 n  ) (fun rec0 x => ?_) n x
  obtain ⟨x0_0, x0_1, x0_2⟩ := x
  kernel_rfl
noncomputable def G103n (n : Nat) (a0 : ByteArray) : Option (Int) :=
 Option.bind (G51 (a0.size : Int) 1 7) fun r1 =>
 cond (!r1)
 (some ((-1)))
 (cond (decide ((a0.size : Int) > 1))
 (cond (decide (0 ≤ 0)) (cond (decide (0 < (a0.size : Int))) (cond ((sbt a0 0) == 48)
 (some ((-1)))
 (LP103_0 n    (a0, 0, 0))) none) none)
 (LP103_0 n    (a0, 0, 0)))
theorem t103 (n : Nat) (a0 : ByteArray) : runFn X103 (F103 n) Tryz.f103 [.one (.str a0)] dec103 = G103n n a0 := by
  refine Eq.trans (b :=
   Option.bind (G51 (a0.size : Int) 1 7) fun r1 =>
   cond (!r1)
   (some ((-1)))
   (cond (decide ((a0.size : Int) > 1))
   (cond (decide (0 ≤ 0)) (cond (decide (0 < (a0.size : Int))) (cond ((sbt a0 0) == 48)
   (some ((-1)))
   (MP103_0 n    (a0, 0, 0))) none) none)
   (MP103_0 n    (a0, 0, 0)))) (by kernel_rfl) ?_
  simp only [G103n, m103_0]
noncomputable def G103 (a0 : ByteArray) : Option (Int) := G103n fuel a0
noncomputable def con103 : Con C := mkC KK [.str] [.int .i64] G103
theorem c103 : ConOk Tryz.prog KK 103 con103 := cO (mkQ ⟨c51, trivial⟩ trivial trivial : Cons Tryz.prog X103) (fn := Tryz.f103) (by kernel_rfl) (by kernel_rfl) (by kernel_rfl) (by kernel_rfl) (F103 fuel) (by kernel_rfl) (fun a0 => t103 fuel a0)
/-! ### f89 loop.example/wharfdesk/spec.GateFits -/
noncomputable def X89 : Cx C := mkX [(50, con50), (51, con51), (91, con91), (103, con103)] [] [] [] 5832704
def F89 (n : Nat) : Cf := { N := n, keep := [0, 1, 2, 4, 5, 6, 8, 9, 23, 33, 38, 46, 58], live := lk [(1, [1, 2, 6])] }
noncomputable abbrev dec89 := deR KK [.bool]
abbrev A89_0 : Type := ByteArray × Int × ByteArray × Int × Int × Int × List (C .e9) × ByteArray × Int × Bool × Bool × ByteArray × ByteArray
def s89_0  : A89_0 → St C := fun (x0_0, x0_1, x0_2, x0_3, x0_4, x0_5, x0_6, x0_7, x0_8, x0_9, x0_10, x0_11, x0_12) => { env := [(1, .one (.str x0_0)), (2, .one (.ptr 5832832 0)), (6, .one (.int .i64 x0_1))], objs := [(5832832, .box .mem [.str x0_2, .int .i64 x0_3, .int .i64 x0_4, .int .i64 x0_5, .row .e9 x0_6, .str x0_7, .int .i64 x0_8, .bool x0_9, .bool x0_10, .str x0_11, .str x0_12])], base := 0 }
noncomputable def r89_0 (n : Nat)   (rec0 : A89_0 → Option (Bool)) : A89_0 → Option (Bool) := fun (x0_0, x0_1, x0_2, x0_3, x0_4, x0_5, x0_6, x0_7, x0_8, x0_9, x0_10, x0_11, x0_12) =>
 cond (decide (x0_1 < (x0_0.size : Int)))
 (cond (decide (0 ≤ x0_1)) (cond (decide (x0_1 < (x0_0.size : Int))) (Option.bind (G51 (IntKind.i64.wrap (sbt x0_0 x0_1)) 33 126) fun r4 =>
 cond (!r4)
 (some (false))
 (rec0 ((x0_0, IntKind.i64.wrap (x0_1 + 1), x0_2, x0_3, x0_4, x0_5, x0_6, x0_7, x0_8, x0_9, x0_10, x0_11, x0_12)))) none) none)
 (cond (!decide (x0_0 = (⟨#[]⟩ : ByteArray)))
 (Option.bind (G51 (x0_0.size : Int) x0_4 x0_5) fun r5 =>
 some (r5))
 (some (false)))
noncomputable def LP89_0 (n : Nat)   (x : A89_0) : Option (Bool) := lpN (r89_0 n  ) n x
noncomputable def MP89_0 (n : Nat)   (x : A89_0) : Option (Bool) := iter (fun rec S => run X89 (F89 n) (codeAt (bodyOf Tryz.f89) [1, 0, 1, 0, 1, 1, 1, 1, 1, 0, 0, 1, 0, 0]) 1 S (lopK rec (blkK 1 (seqK (run X89 (F89 n) (codeAt (bodyOf Tryz.f89) [1, 0, 1, 0, 1, 1, 1, 1, 1, 0, 1]) 0) (blkK 0 (seqK (run X89 (F89 n) (codeAt (bodyOf Tryz.f89) [1, 1]) 0) (kTop X89 Tryz.f89 dec89))))))) [1, 2, 6] n (s89_0  x)
theorem m89_0 (n : Nat)   (x : A89_0) : MP89_0 n   x = LP89_0 n   x := by
  refine iter_eq (s89_0 ) (r89_0 n  ) (fun rec0 x => ?_) n x
  obtain ⟨x0_0, x0_1, x0_2, x0_3, x0_4, x0_5, x0_6, x0_7, x0_8, x0_9, x0_10, x0_11, x0_12⟩ := x
  kernel_rfl
noncomputable def G89n (n : Nat) (a0 : VGateField) (a1 : ByteArray) : Option (Bool) :=
 cond (a0.Kind == 1)
 (Option.bind (G103 a1) fun r1 =>
 cond (decide (r1 ≥ 0))
 (Option.bind (G51 r1 a0.Least a0.Most) fun r2 =>
 some (r2))
 (some (false)))
 (cond (a0.Kind == 2)
 (cond (!decide (a1 = (⟨#[]⟩ : ByteArray)))
 (Option.bind (G91 a0.Words a1) fun r3 =>
 some (r3))
 (some (false)))
 (cond (a0.Kind == 3)
 (LP89_0 n    (a1, 0, a0.Name, a0.Kind, a0.Least, a0.Most, a0.Words, a0.To, a0.Role, a0.Must, a0.Fixed, a0.Default, a0.Weighs))
 (cond (a0.Kind == 4)
 (Option.bind (G50 a1) fun r6 =>
 some (r6))
 (some (false)))))
theorem t89 (n : Nat) (a0 : VGateField) (a1 : ByteArray) : runFn X89 (F89 n) Tryz.f89 [.agg [.str a0.Name, .int .i64 a0.Kind, .int .i64 a0.Least, .int .i64 a0.Most, .row .e9 a0.Words, .str a0.To, .int .i64 a0.Role, .bool a0.Must, .bool a0.Fixed, .str a0.Default, .str a0.Weighs], .one (.str a1)] dec89 = G89n n a0 a1 := by
  refine Eq.trans (b :=
   cond (a0.Kind == 1)
   (Option.bind (G103 a1) fun r1 =>
   cond (decide (r1 ≥ 0))
   (Option.bind (G51 r1 a0.Least a0.Most) fun r2 =>
   some (r2))
   (some (false)))
   (cond (a0.Kind == 2)
   (cond (!decide (a1 = (⟨#[]⟩ : ByteArray)))
   (Option.bind (G91 a0.Words a1) fun r3 =>
   some (r3))
   (some (false)))
   (cond (a0.Kind == 3)
   (MP89_0 n    (a1, 0, a0.Name, a0.Kind, a0.Least, a0.Most, a0.Words, a0.To, a0.Role, a0.Must, a0.Fixed, a0.Default, a0.Weighs))
   (cond (a0.Kind == 4)
   (Option.bind (G50 a1) fun r6 =>
   some (r6))
   (some (false)))))) (by kernel_rfl) ?_
  simp only [G89n, m89_0]
noncomputable def G89 (a0 : VGateField) (a1 : ByteArray) : Option (Bool) := G89n fuel a0 a1
noncomputable def con89 : Con C := mkC KK [.el .e146, .str] [.bool] G89
theorem c89 : ConOk Tryz.prog KK 89 con89 := cO (mkQ ⟨c50, c51, c91, c103, trivial⟩ trivial trivial : Cons Tryz.prog X89) (fn := Tryz.f89) (by kernel_rfl) (by kernel_rfl) (by kernel_rfl) (by kernel_rfl) (F89 fuel) (by kernel_rfl) (fun a0 a1 => t89 fuel a0 a1)
/-! ### f102 loop.example/wharfdesk/spec.l1Bare -/
noncomputable def X102 : Cx C := mkX [] [] [] [] 6684672
def F102 (n : Nat) : Cf := { N := n, keep := [0, 1, 2, 3, 33, 42], live := lk [] }
noncomputable abbrev dec102 := deR KK [.bool]
noncomputable def G102n (n : Nat) (a0 : VGateField) : Option (Bool) :=
 cond (a0.Kind == 1)
 (cond (a0.Kind != 1)
 (cond (!decide (a0.Weighs = (⟨#[]⟩ : ByteArray)))
 (some (false))
 (cond (a0.Kind != 2)
 (cond (decide ((a0.Words.length : Int) > 0))
 (some (false))
 (cond (a0.Kind == 4)
 (some (true))
 (cond (decide (a0.To = (⟨#[]⟩ : ByteArray)))
 (some (a0.Role == 0))
 (some (false)))))
 (cond (a0.Kind == 4)
 (some (true))
 (cond (decide (a0.To = (⟨#[]⟩ : ByteArray)))
 (some (a0.Role == 0))
 (some (false))))))
 (cond (a0.Kind != 2)
 (cond (decide ((a0.Words.length : Int) > 0))
 (some (false))
 (cond (a0.Kind == 4)
 (some (true))
 (cond (decide (a0.To = (⟨#[]⟩ : ByteArray)))
 (some (a0.Role == 0))
 (some (false)))))
 (cond (a0.Kind == 4)
 (some (true))
 (cond (decide (a0.To = (⟨#[]⟩ : ByteArray)))
 (some (a0.Role == 0))
 (some (false))))))
 (cond (!(a0.Kind == 3))
 (cond (a0.Least != 0)
 (some (false))
 (cond (a0.Most != 0)
 (some (false))
 (cond (a0.Kind != 1)
 (cond (!decide (a0.Weighs = (⟨#[]⟩ : ByteArray)))
 (some (false))
 (cond (a0.Kind != 2)
 (cond (decide ((a0.Words.length : Int) > 0))
 (some (false))
 (cond (a0.Kind == 4)
 (some (true))
 (cond (decide (a0.To = (⟨#[]⟩ : ByteArray)))
 (some (a0.Role == 0))
 (some (false)))))
 (cond (a0.Kind == 4)
 (some (true))
 (cond (decide (a0.To = (⟨#[]⟩ : ByteArray)))
 (some (a0.Role == 0))
 (some (false))))))
 (cond (a0.Kind != 2)
 (cond (decide ((a0.Words.length : Int) > 0))
 (some (false))
 (cond (a0.Kind == 4)
 (some (true))
 (cond (decide (a0.To = (⟨#[]⟩ : ByteArray)))
 (some (a0.Role == 0))
 (some (false)))))
 (cond (a0.Kind == 4)
 (some (true))
 (cond (decide (a0.To = (⟨#[]⟩ : ByteArray)))
 (some (a0.Role == 0))
 (some (false))))))))
 (cond (a0.Kind != 1)
 (cond (!decide (a0.Weighs = (⟨#[]⟩ : ByteArray)))
 (some (false))
 (cond (a0.Kind != 2)
 (cond (decide ((a0.Words.length : Int) > 0))
 (some (false))
 (cond (a0.Kind == 4)
 (some (true))
 (cond (decide (a0.To = (⟨#[]⟩ : ByteArray)))
 (some (a0.Role == 0))
 (some (false)))))
 (cond (a0.Kind == 4)
 (some (true))
 (cond (decide (a0.To = (⟨#[]⟩ : ByteArray)))
 (some (a0.Role == 0))
 (some (false))))))
 (cond (a0.Kind != 2)
 (cond (decide ((a0.Words.length : Int) > 0))
 (some (false))
 (cond (a0.Kind == 4)
 (some (true))
 (cond (decide (a0.To = (⟨#[]⟩ : ByteArray)))
 (some (a0.Role == 0))
 (some (false)))))
 (cond (a0.Kind == 4)
 (some (true))
 (cond (decide (a0.To = (⟨#[]⟩ : ByteArray)))
 (some (a0.Role == 0))
 (some (false)))))))
theorem t102 (n : Nat) (a0 : VGateField) : runFn X102 (F102 n) Tryz.f102 [.agg [.str a0.Name, .int .i64 a0.Kind, .int .i64 a0.Least, .int .i64 a0.Most, .row .e9 a0.Words, .str a0.To, .int .i64 a0.Role, .bool a0.Must, .bool a0.Fixed, .str a0.Default, .str a0.Weighs]] dec102 = G102n n a0 := by
  kernel_rfl
noncomputable def G102 (a0 : VGateField) : Option (Bool) := G102n fuel a0
noncomputable def con102 : Con C := mkC KK [.el .e146] [.bool] G102
theorem c102 : ConOk Tryz.prog KK 102 con102 := cO (mkQ trivial trivial trivial : Cons Tryz.prog X102) (fn := Tryz.f102) (by kernel_rfl) (by kernel_rfl) (by kernel_rfl) (by kernel_rfl) (F102 fuel) (by kernel_rfl) (fun a0 => t102 fuel a0)
/-! ### f56 loop.example/wharfdesk/spec.l1Ascending -/
noncomputable def X56 : Cx C := mkX [(50, con50)] [] [] [] 3670016
def F56 (n : Nat) : Cf := { N := n, keep := [0, 2, 3, 7, 31], live := lk [(0, [0, 3])] }
noncomputable abbrev dec56 := deR KK [.bool]
abbrev A56_0 : Type := List (C .e9) × Int
def s56_0  : A56_0 → St C := fun (x0_0, x0_1) => { env := [(0, .one (.row .e9 x0_0)), (3, .one (.int .i64 x0_1))], objs := [], base := 0 }
noncomputable def r56_0 (n : Nat)   (rec0 : A56_0 → Option (Bool)) : A56_0 → Option (Bool) := fun (x0_0, x0_1) =>
 cond (decide (x0_1 < (x0_0.length : Int)))
 (cond (decide (0 ≤ x0_1)) (Option.bind x0_0[x0_1.toNat]? fun e1 => Option.bind (G50 e1) fun r2 =>
 cond (!r2)
 (some (false))
 (cond (decide (x0_1 > 0))
 (cond (decide (0 ≤ IntKind.i64.wrap (x0_1 - 1))) (Option.bind x0_0[(IntKind.i64.wrap (x0_1 - 1)).toNat]? fun e3 => cond (decide (0 ≤ x0_1)) (Option.bind x0_0[x0_1.toNat]? fun e4 => cond (!slt e3 e4)
 (some (false))
 (rec0 ((x0_0, IntKind.i64.wrap (x0_1 + 1))))) none) none)
 (rec0 ((x0_0, IntKind.i64.wrap (x0_1 + 1)))))) none)
 (some (true))
noncomputable def LP56_0 (n : Nat)   (x : A56_0) : Option (Bool) := lpN (r56_0 n  ) n x
noncomputable def MP56_0 (n : Nat)   (x : A56_0) : Option (Bool) := iter (fun rec S => run X56 (F56 n) (codeAt (bodyOf Tryz.f56) [1, 0, 1, 0, 0]) 0 S (lopK rec (blkK 0 (seqK (run X56 (F56 n) (codeAt (bodyOf Tryz.f56) [1, 1]) 0) (kTop X56 Tryz.f56 dec56))))) [0, 3] n (s56_0  x)
theorem m56_0 (n : Nat)   (x : A56_0) : MP56_0 n   x = LP56_0 n   x := by
  refine iter_eq (s56_0 ) (r56_0 n  ) (fun rec0 x => ?_) n x
  obtain ⟨x0_0, x0_1⟩ := x
  kernel_rfl
noncomputable def G56n (n : Nat) (a0 : List (C .e9)) : Option (Bool) :=
 LP56_0 n    (a0, 0)
theorem t56 (n : Nat) (a0 : List (C .e9)) : runFn X56 (F56 n) Tryz.f56 [.one (.row .e9 a0)] dec56 = G56n n a0 := by
  refine Eq.trans (b :=
   MP56_0 n    (a0, 0)) (by kernel_rfl) ?_
  simp only [G56n, m56_0]
noncomputable def G56 (a0 : List (C .e9)) : Option (Bool) := G56n fuel a0
noncomputable def con56 : Con C := mkC KK [.row .e9] [.bool] G56
theorem c56 : ConOk Tryz.prog KK 56 con56 := cO (mkQ ⟨c50, trivial⟩ trivial trivial : Cons Tryz.prog X56) (fn := Tryz.f56) (by kernel_rfl) (by kernel_rfl) (by kernel_rfl) (by kernel_rfl) (F56 fuel) (by kernel_rfl) (fun a0 => t56 fuel a0)
/-! ### f87 loop.example/wharfdesk/spec.l1FieldOk -/
noncomputable def X87 : Cx C := mkX [(50, con50), (51, con51), (54, con54), (56, con56), (89, con89), (102, con102)] [] [] [] 5701632
def F87 (n : Nat) : Cf := { N := n, keep := [0, 1, 3, 4, 25, 27, 28, 55, 66, 83], live := lk [] }
noncomputable abbrev dec87 := deR KK [.bool]
noncomputable def G87n (n : Nat) (a0 : List (C .e105)) (a1 : VGateField) : Option (Bool) :=
 Option.bind (G50 a1.Name) fun r1 =>
 cond (!r1)
 (some (false))
 (Option.bind (G102 a1) fun r2 =>
 cond (!r2)
 (some (false))
 (cond (!decide (a1.Default = (⟨#[]⟩ : ByteArray)))
 (Option.bind (G89 a1 a1.Default) fun r3 =>
 cond (!r3)
 (some (false))
 (cond (a1.Kind == 1)
 (cond (decide (a1.Least ≥ 0))
 (cond (decide (a1.Least ≤ a1.Most))
 (cond (decide (a1.Most ≤ 1000000))
 (cond (decide (a1.Weighs = (⟨#[]⟩ : ByteArray)))
 (some (true))
 (Option.bind (G50 a1.Weighs) fun r4 =>
 some (r4)))
 (some (false)))
 (some (false)))
 (some (false)))
 (cond (a1.Kind == 2)
 (Option.bind (G51 (a1.Words.length : Int) 1 6) fun r5 =>
 cond r5
 (Option.bind (G56 a1.Words) fun r6 =>
 some (r6))
 (some (false)))
 (cond (a1.Kind == 3)
 (cond (decide (a1.Least ≥ 1))
 (cond (decide (a1.Least ≤ a1.Most))
 (some (decide (a1.Most ≤ 40)))
 (some (false)))
 (some (false)))
 (cond (a1.Kind == 4)
 (Option.bind (G54 a0 a1.To) fun r7 =>
 cond (decide (r7 ≥ 0))
 (Option.bind (G51 a1.Role 1 3) fun r8 =>
 cond r8
 (cond (decide (a1.Default = (⟨#[]⟩ : ByteArray)))
 (cond (a1.Role != 2)
 (some (true))
 (some (!a1.Must)))
 (some (false)))
 (some (false)))
 (some (false)))
 (some (false)))))))
 (cond (a1.Kind == 1)
 (cond (decide (a1.Least ≥ 0))
 (cond (decide (a1.Least ≤ a1.Most))
 (cond (decide (a1.Most ≤ 1000000))
 (cond (decide (a1.Weighs = (⟨#[]⟩ : ByteArray)))
 (some (true))
 (Option.bind (G50 a1.Weighs) fun r9 =>
 some (r9)))
 (some (false)))
 (some (false)))
 (some (false)))
 (cond (a1.Kind == 2)
 (Option.bind (G51 (a1.Words.length : Int) 1 6) fun r10 =>
 cond r10
 (Option.bind (G56 a1.Words) fun r11 =>
 some (r11))
 (some (false)))
 (cond (a1.Kind == 3)
 (cond (decide (a1.Least ≥ 1))
 (cond (decide (a1.Least ≤ a1.Most))
 (some (decide (a1.Most ≤ 40)))
 (some (false)))
 (some (false)))
 (cond (a1.Kind == 4)
 (Option.bind (G54 a0 a1.To) fun r12 =>
 cond (decide (r12 ≥ 0))
 (Option.bind (G51 a1.Role 1 3) fun r13 =>
 cond r13
 (cond (decide (a1.Default = (⟨#[]⟩ : ByteArray)))
 (cond (a1.Role != 2)
 (some (true))
 (some (!a1.Must)))
 (some (false)))
 (some (false)))
 (some (false)))
 (some (false))))))))
theorem t87 (n : Nat) (a0 : List (C .e105)) (a1 : VGateField) : runFn X87 (F87 n) Tryz.f87 [.one (.row .e105 a0), .agg [.str a1.Name, .int .i64 a1.Kind, .int .i64 a1.Least, .int .i64 a1.Most, .row .e9 a1.Words, .str a1.To, .int .i64 a1.Role, .bool a1.Must, .bool a1.Fixed, .str a1.Default, .str a1.Weighs]] dec87 = G87n n a0 a1 := by
  kernel_rfl
noncomputable def G87 (a0 : List (C .e105)) (a1 : VGateField) : Option (Bool) := G87n fuel a0 a1
noncomputable def con87 : Con C := mkC KK [.row .e105, .el .e146] [.bool] G87
theorem c87 : ConOk Tryz.prog KK 87 con87 := cO (mkQ ⟨c50, c51, c54, c56, c89, c102, trivial⟩ trivial trivial : Cons Tryz.prog X87) (fn := Tryz.f87) (by kernel_rfl) (by kernel_rfl) (by kernel_rfl) (by kernel_rfl) (F87 fuel) (by kernel_rfl) (fun a0 a1 => t87 fuel a0 a1)
/-! ### f73 loop.example/wharfdesk/spec.GateShapesOk -/
noncomputable def X73 : Cx C := mkX [(50, con50), (87, con87)] [] [] [] 4784128
def F73 (n : Nat) : Cf := { N := n, keep := [0, 2, 3, 4, 5, 6, 9, 13, 44, 49, 59, 62, 77], live := lk [(0, [0, 3]), (2, [0, 3, 4, 5]), (4, [0, 3, 4, 5, 6])] }
noncomputable abbrev dec73 := deR KK [.bool]
abbrev A73_2 : Type := List (C .e105) × Int × Int × Int × ByteArray × List (C .e146)
def s73_2  : A73_2 → St C := fun (x2_0, x2_1, x2_2, x2_3, x2_4, x2_5) => { env := [(0, .one (.row .e105 x2_0)), (3, .one (.int .i64 x2_1)), (4, .one (.ptr 4784384 0)), (5, .one (.int .i64 x2_2)), (6, .one (.int .i64 x2_3))], objs := [(4784384, .box .mem [.str x2_4, .row .e146 x2_5])], base := 0 }
abbrev A73_1 : Type := List (C .e105) × Int × Int × ByteArray × List (C .e146)
def s73_1  : A73_1 → St C := fun (x1_0, x1_1, x1_2, x1_3, x1_4) => { env := [(0, .one (.row .e105 x1_0)), (3, .one (.int .i64 x1_1)), (4, .one (.ptr 4784384 0)), (5, .one (.int .i64 x1_2))], objs := [(4784384, .box .mem [.str x1_3, .row .e146 x1_4])], base := 0 }
abbrev A73_0 : Type := List (C .e105) × Int
def s73_0  : A73_0 → St C := fun (x0_0, x0_1) => { env := [(0, .one (.row .e105 x0_0)), (3, .one (.int .i64 x0_1))], objs := [], base := 0 }
noncomputable def r73_2 (n : Nat) (rec0 : A73_0 → Option (Bool)) (rec1 : A73_1 → Option (Bool))  (rec2 : A73_2 → Option (Bool)) : A73_2 → Option (Bool) := fun (x2_0, x2_1, x2_2, x2_3, x2_4, x2_5) =>
 cond (decide (x2_3 < x2_2))
 (cond (decide (0 ≤ x2_3)) (Option.bind x2_5[x2_3.toNat]? fun e6 => cond (decide (0 ≤ x2_2)) (Option.bind x2_5[x2_2.toNat]? fun e7 => cond (decide (e6.Name = e7.Name))
 (some (false))
 (rec2 ((x2_0, x2_1, x2_2, IntKind.i64.wrap (x2_3 + 1), x2_4, x2_5)))) none) none)
 (rec1 ((x2_0, x2_1, IntKind.i64.wrap (x2_2 + 1), x2_4, x2_5)))
noncomputable def LP73_2 (n : Nat) (rec0 : A73_0 → Option (Bool)) (rec1 : A73_1 → Option (Bool))  (x : A73_2) : Option (Bool) := lpN (r73_2 n rec0 rec1 ) n x
noncomputable def MP73_2 (n : Nat) (rec0 : St C → Option (Bool)) (rec1 : St C → Option (Bool))  (x : A73_2) : Option (Bool) := iter (fun rec S => run X73 (F73 n) (codeAt (bodyOf Tryz.f73) [1, 1, 0, 1, 0, 0, 1, 0, 0, 1, 1, 1, 0, 0, 1, 0, 0, 1, 1, 0, 0]) 4 S (lopK rec (blkK 4 (blkK 3 (seqK (run X73 (F73 n) (codeAt (bodyOf Tryz.f73) [1, 1, 0, 1, 0, 0, 1, 0, 0, 1, 1, 1, 0, 0, 1, 1]) 2) (lopK (canThen [0, 3, 4, 5] rec1) (blkK 2 (blkK 1 (seqK (run X73 (F73 n) (codeAt (bodyOf Tryz.f73) [1, 1, 0, 1, 0, 0, 1, 1]) 0) (lopK (canThen [0, 3] rec0) (blkK 0 (seqK (run X73 (F73 n) (codeAt (bodyOf Tryz.f73) [1, 1, 1]) 0) (kTop X73 Tryz.f73 dec73))))))))))))) [0, 3, 4, 5, 6] n (s73_2  x)
theorem m73_2 (n : Nat) (rec0 : St C → Option (Bool)) (rec1 : St C → Option (Bool))  (x : A73_2) : MP73_2 n rec0 rec1  x = LP73_2 n (fun x => rec0 (s73_0  x)) (fun x => rec1 (s73_1  x))  x := by
  refine iter_eq (s73_2 ) (r73_2 n (fun x => rec0 (s73_0  x)) (fun x => rec1 (s73_1  x)) ) (fun rec2 x => ?_) n x
  obtain ⟨x2_0, x2_1, x2_2, x2_3, x2_4, x2_5⟩ := x
  kernel_rfl
noncomputable def r73_1 (n : Nat) (rec0 : A73_0 → Option (Bool))  (rec1 : A73_1 → Option (Bool)) : A73_1 → Option (Bool) := fun (x1_0, x1_1, x1_2, x1_3, x1_4) =>
 cond (decide (x1_2 < (x1_4.length : Int)))
 (cond (decide (0 ≤ x1_2)) (Option.bind x1_4[x1_2.toNat]? fun e4 => Option.bind (G87 x1_0 e4) fun r5 =>
 cond (!r5)
 (some (false))
 (LP73_2 n  rec0 rec1  (x1_0, x1_1, x1_2, 0, x1_3, x1_4))) none)
 (rec0 ((x1_0, IntKind.i64.wrap (x1_1 + 1))))
noncomputable def LP73_1 (n : Nat) (rec0 : A73_0 → Option (Bool))  (x : A73_1) : Option (Bool) := lpN (r73_1 n rec0 ) n x
noncomputable def MP73_1 (n : Nat) (rec0 : St C → Option (Bool))  (x : A73_1) : Option (Bool) := iter (fun rec S => run X73 (F73 n) (codeAt (bodyOf Tryz.f73) [1, 1, 0, 1, 0, 0, 1, 0, 0, 1, 1, 1, 0, 0]) 2 S (lopK rec (blkK 2 (blkK 1 (seqK (run X73 (F73 n) (codeAt (bodyOf Tryz.f73) [1, 1, 0, 1, 0, 0, 1, 1]) 0) (lopK (canThen [0, 3] rec0) (blkK 0 (seqK (run X73 (F73 n) (codeAt (bodyOf Tryz.f73) [1, 1, 1]) 0) (kTop X73 Tryz.f73 dec73))))))))) [0, 3, 4, 5] n (s73_1  x)
theorem m73_1 (n : Nat) (rec0 : St C → Option (Bool))  (x : A73_1) : MP73_1 n rec0  x = LP73_1 n (fun x => rec0 (s73_0  x))  x := by
  refine iter_eq (s73_1 ) (r73_1 n (fun x => rec0 (s73_0  x)) ) (fun rec1 x => ?_) n x
  obtain ⟨x1_0, x1_1, x1_2, x1_3, x1_4⟩ := x
  have h : run X73 (F73 n) (codeAt (bodyOf Tryz.f73) [1, 1, 0, 1, 0, 0, 1, 0, 0, 1, 1, 1, 0, 0]) 2 (s73_1  (x1_0, x1_1, x1_2, x1_3, x1_4)) (lopK (canThen [0, 3, 4, 5] rec1) (blkK 2 (blkK 1 (seqK (run X73 (F73 n) (codeAt (bodyOf Tryz.f73) [1, 1, 0, 1, 0, 0, 1, 1]) 0) (lopK (canThen [0, 3] rec0) (blkK 0 (seqK (run X73 (F73 n) (codeAt (bodyOf Tryz.f73) [1, 1, 1]) 0) (kTop X73 Tryz.f73 dec73)))))))) =
   cond (decide (x1_2 < (x1_4.length : Int)))
   (cond (decide (0 ≤ x1_2)) (Option.bind x1_4[x1_2.toNat]? fun e4 => Option.bind (G87 x1_0 e4) fun r5 =>
   cond (!r5)
   (some (false))
   (MP73_2 n  rec0 rec1  (x1_0, x1_1, x1_2, 0, x1_3, x1_4))) none)
   ((fun x => rec0 (s73_0  x)) ((x1_0, IntKind.i64.wrap (x1_1 + 1)))) := by kernel_rfl
  simp only [m73_2] at h
  exact h
noncomputable def r73_0 (n : Nat)   (rec0 : A73_0 → Option (Bool)) : A73_0 → Option (Bool) := fun (x0_0, x0_1) =>
 cond (decide (x0_1 < (x0_0.length : Int)))
 (cond (decide (0 ≤ x0_1)) (Option.bind x0_0[x0_1.toNat]? fun e1 => Option.bind (G50 e1.Kind) fun r2 =>
 cond (!r2)
 (some (false))
 (cond (decide (x0_1 > 0))
 (cond (decide (0 ≤ IntKind.i64.wrap (x0_1 - 1))) (Option.bind x0_0[(IntKind.i64.wrap (x0_1 - 1)).toNat]? fun e3 => cond (!slt e3.Kind e1.Kind)
 (some (false))
 (cond (decide ((e1.Fields.length : Int) > 6))
 (some (false))
 (LP73_1 n  rec0  (x0_0, x0_1, 0, e1.Kind, e1.Fields)))) none)
 (cond (decide ((e1.Fields.length : Int) > 6))
 (some (false))
 (LP73_1 n  rec0  (x0_0, x0_1, 0, e1.Kind, e1.Fields))))) none)
 (some (true))
noncomputable def LP73_0 (n : Nat)   (x : A73_0) : Option (Bool) := lpN (r73_0 n  ) n x
noncomputable def MP73_0 (n : Nat)   (x : A73_0) : Option (Bool) := iter (fun rec S => run X73 (F73 n) (codeAt (bodyOf Tryz.f73) [1, 1, 0, 1, 0, 0]) 0 S (lopK rec (blkK 0 (seqK (run X73 (F73 n) (codeAt (bodyOf Tryz.f73) [1, 1, 1]) 0) (kTop X73 Tryz.f73 dec73))))) [0, 3] n (s73_0  x)
theorem m73_0 (n : Nat)   (x : A73_0) : MP73_0 n   x = LP73_0 n   x := by
  refine iter_eq (s73_0 ) (r73_0 n  ) (fun rec0 x => ?_) n x
  obtain ⟨x0_0, x0_1⟩ := x
  have h : run X73 (F73 n) (codeAt (bodyOf Tryz.f73) [1, 1, 0, 1, 0, 0]) 0 (s73_0  (x0_0, x0_1)) (lopK (canThen [0, 3] rec0) (blkK 0 (seqK (run X73 (F73 n) (codeAt (bodyOf Tryz.f73) [1, 1, 1]) 0) (kTop X73 Tryz.f73 dec73)))) =
   cond (decide (x0_1 < (x0_0.length : Int)))
   (cond (decide (0 ≤ x0_1)) (Option.bind x0_0[x0_1.toNat]? fun e1 => Option.bind (G50 e1.Kind) fun r2 =>
   cond (!r2)
   (some (false))
   (cond (decide (x0_1 > 0))
   (cond (decide (0 ≤ IntKind.i64.wrap (x0_1 - 1))) (Option.bind x0_0[(IntKind.i64.wrap (x0_1 - 1)).toNat]? fun e3 => cond (!slt e3.Kind e1.Kind)
   (some (false))
   (cond (decide ((e1.Fields.length : Int) > 6))
   (some (false))
   (MP73_1 n  rec0  (x0_0, x0_1, 0, e1.Kind, e1.Fields)))) none)
   (cond (decide ((e1.Fields.length : Int) > 6))
   (some (false))
   (MP73_1 n  rec0  (x0_0, x0_1, 0, e1.Kind, e1.Fields))))) none)
   (some (true)) := by kernel_rfl
  simp only [m73_1] at h
  exact h
noncomputable def G73n (n : Nat) (a0 : List (C .e105)) : Option (Bool) :=
 cond (decide ((a0.length : Int) > 6))
 (some (false))
 (LP73_0 n    (a0, 0))
theorem t73 (n : Nat) (a0 : List (C .e105)) : runFn X73 (F73 n) Tryz.f73 [.one (.row .e105 a0)] dec73 = G73n n a0 := by
  refine Eq.trans (b :=
   cond (decide ((a0.length : Int) > 6))
   (some (false))
   (MP73_0 n    (a0, 0))) (by kernel_rfl) ?_
  simp only [G73n, m73_0]
noncomputable def G73 (a0 : List (C .e105)) : Option (Bool) := G73n fuel a0
noncomputable def con73 : Con C := mkC KK [.row .e105] [.bool] G73
theorem c73 : ConOk Tryz.prog KK 73 con73 := cO (mkQ ⟨c50, c87, trivial⟩ trivial trivial : Cons Tryz.prog X73) (fn := Tryz.f73) (by kernel_rfl) (by kernel_rfl) (by kernel_rfl) (by kernel_rfl) (F73 fuel) (by kernel_rfl) (fun a0 => t73 fuel a0)
/-! ### f90 loop.example/wharfdesk/spec.l3Field -/
noncomputable def X90 : Cx C := mkX [] [] [] [] 5898240
def F90 (n : Nat) : Cf := { N := n, keep := [0, 1, 4, 5, 9, 18], live := lk [(0, [0, 1, 5])] }
noncomputable abbrev dec90 := deR KK [.int .i64]
abbrev A90_0 : Type := List (C .e146) × ByteArray × Int
def s90_0  : A90_0 → St C := fun (x0_0, x0_1, x0_2) => { env := [(0, .one (.row .e146 x0_0)), (1, .one (.str x0_1)), (5, .one (.int .i64 x0_2))], objs := [], base := 0 }
noncomputable def r90_0 (n : Nat)   (rec0 : A90_0 → Option (Int)) : A90_0 → Option (Int) := fun (x0_0, x0_1, x0_2) =>
 cond (decide (x0_2 < (x0_0.length : Int)))
 (cond (decide (0 ≤ x0_2)) (Option.bind x0_0[x0_2.toNat]? fun e1 => cond (decide (e1.Name = x0_1))
 (some (x0_2))
 (rec0 ((x0_0, x0_1, IntKind.i64.wrap (x0_2 + 1))))) none)
 (some ((-1)))
noncomputable def LP90_0 (n : Nat)   (x : A90_0) : Option (Int) := lpN (r90_0 n  ) n x
noncomputable def MP90_0 (n : Nat)   (x : A90_0) : Option (Int) := iter (fun rec S => run X90 (F90 n) (codeAt (bodyOf Tryz.f90) [1, 0, 1, 0, 0]) 0 S (lopK rec (blkK 0 (seqK (run X90 (F90 n) (codeAt (bodyOf Tryz.f90) [1, 1]) 0) (kTop X90 Tryz.f90 dec90))))) [0, 1, 5] n (s90_0  x)
theorem m90_0 (n : Nat)   (x : A90_0) : MP90_0 n   x = LP90_0 n   x := by
  refine iter_eq (s90_0 ) (r90_0 n  ) (fun rec0 x => ?_) n x
  obtain ⟨x0_0, x0_1, x0_2⟩ := x
  kernel_rfl
noncomputable def G90n (n : Nat) (a0 : List (C .e146)) (a1 : ByteArray) : Option (Int) :=
 LP90_0 n    (a0, a1, 0)
theorem t90 (n : Nat) (a0 : List (C .e146)) (a1 : ByteArray) : runFn X90 (F90 n) Tryz.f90 [.one (.row .e146 a0), .one (.str a1)] dec90 = G90n n a0 a1 := by
  refine Eq.trans (b :=
   MP90_0 n    (a0, a1, 0)) (by kernel_rfl) ?_
  simp only [G90n, m90_0]
noncomputable def G90 (a0 : List (C .e146)) (a1 : ByteArray) : Option (Int) := G90n fuel a0 a1
noncomputable def con90 : Con C := mkC KK [.row .e146, .str] [.int .i64] G90
theorem c90 : ConOk Tryz.prog KK 90 con90 := cO (mkQ trivial trivial trivial : Cons Tryz.prog X90) (fn := Tryz.f90) (by kernel_rfl) (by kernel_rfl) (by kernel_rfl) (by kernel_rfl) (F90 fuel) (by kernel_rfl) (fun a0 a1 => t90 fuel a0 a1)
/-! ### f88 loop.example/wharfdesk/spec.l3Plain -/
noncomputable def X88 : Cx C := mkX [(90, con90)] [] [] [] 5767168
def F88 (n : Nat) : Cf := { N := n, keep := [0, 1, 4, 5], live := lk [] }
noncomputable abbrev dec88 := deR KK [.bool]
noncomputable def G88n (n : Nat) (a0 : List (C .e146)) (a1 : ByteArray) : Option (Bool) :=
 Option.bind (G90 a0 a1) fun r1 =>
 cond (decide (r1 ≥ 0))
 (cond (decide (0 ≤ r1)) (Option.bind a0[r1.toNat]? fun e2 => some (e2.Kind != 4)) none)
 (some (false))
theorem t88 (n : Nat) (a0 : List (C .e146)) (a1 : ByteArray) : runFn X88 (F88 n) Tryz.f88 [.one (.row .e146 a0), .one (.str a1)] dec88 = G88n n a0 a1 := by
  kernel_rfl
noncomputable def G88 (a0 : List (C .e146)) (a1 : ByteArray) : Option (Bool) := G88n fuel a0 a1
noncomputable def con88 : Con C := mkC KK [.row .e146, .str] [.bool] G88
theorem c88 : ConOk Tryz.prog KK 88 con88 := cO (mkQ ⟨c90, trivial⟩ trivial trivial : Cons Tryz.prog X88) (fn := Tryz.f88) (by kernel_rfl) (by kernel_rfl) (by kernel_rfl) (by kernel_rfl) (F88 fuel) (by kernel_rfl) (fun a0 a1 => t88 fuel a0 a1)
/-! ### f74 loop.example/wharfdesk/spec.l3MendOk -/
noncomputable def X74 : Cx C := mkX [(54, con54), (88, con88), (89, con89), (90, con90)] [] [] [] 4849664
def F74 (n : Nat) : Cf := { N := n, keep := [0, 1, 3, 4, 5, 6, 12, 46, 77], live := lk [] }
noncomputable abbrev dec74 := deR KK [.bool]
noncomputable def G74n (n : Nat) (a0 : List (C .e105)) (a1 : VGateMend) : Option (Bool) :=
 Option.bind (G54 a0 a1.Kind) fun r1 =>
 cond (decide (r1 < 0))
 (some (false))
 (cond (decide (0 ≤ r1)) (Option.bind a0[r1.toNat]? fun e2 => Option.bind (G88 e2.Fields a1.Field) fun r3 =>
 cond (!r3)
 (some (false))
 (cond (!decide (a1.When = (⟨#[]⟩ : ByteArray)))
 (Option.bind (G88 e2.Fields a1.When) fun r4 =>
 cond (!r4)
 (some (false))
 (cond (!decide (a1.From = (⟨#[]⟩ : ByteArray)))
 (Option.bind (G88 e2.Fields a1.From) fun r5 =>
 cond (!r5)
 (some (false))
 (cond (decide (a1.When = a1.Field))
 (some (false))
 (cond (decide (a1.From = a1.Field))
 (some (false))
 (cond (decide (a1.When = (⟨#[]⟩ : ByteArray)))
 (cond (!decide (a1.Is = (⟨#[]⟩ : ByteArray)))
 (some (false))
 (cond ((decide (a1.Put = (⟨#[]⟩ : ByteArray))) == (decide (a1.From = (⟨#[]⟩ : ByteArray))))
 (some (false))
 (cond (decide (a1.Put = (⟨#[]⟩ : ByteArray)))
 (some (true))
 (Option.bind (G90 e2.Fields a1.Field) fun r6 =>
 cond (decide (0 ≤ r6)) (Option.bind e2.Fields[r6.toNat]? fun e7 => Option.bind (G89 e7 a1.Put) fun r8 =>
 some (r8)) none))))
 (cond ((decide (a1.Put = (⟨#[]⟩ : ByteArray))) == (decide (a1.From = (⟨#[]⟩ : ByteArray))))
 (some (false))
 (cond (decide (a1.Put = (⟨#[]⟩ : ByteArray)))
 (some (true))
 (Option.bind (G90 e2.Fields a1.Field) fun r9 =>
 cond (decide (0 ≤ r9)) (Option.bind e2.Fields[r9.toNat]? fun e10 => Option.bind (G89 e10 a1.Put) fun r11 =>
 some (r11)) none)))))))
 (cond (decide (a1.When = a1.Field))
 (some (false))
 (cond (decide (a1.From = a1.Field))
 (some (false))
 (cond (decide (a1.When = (⟨#[]⟩ : ByteArray)))
 (cond (!decide (a1.Is = (⟨#[]⟩ : ByteArray)))
 (some (false))
 (cond ((decide (a1.Put = (⟨#[]⟩ : ByteArray))) == (decide (a1.From = (⟨#[]⟩ : ByteArray))))
 (some (false))
 (cond (decide (a1.Put = (⟨#[]⟩ : ByteArray)))
 (some (true))
 (Option.bind (G90 e2.Fields a1.Field) fun r12 =>
 cond (decide (0 ≤ r12)) (Option.bind e2.Fields[r12.toNat]? fun e13 => Option.bind (G89 e13 a1.Put) fun r14 =>
 some (r14)) none))))
 (cond ((decide (a1.Put = (⟨#[]⟩ : ByteArray))) == (decide (a1.From = (⟨#[]⟩ : ByteArray))))
 (some (false))
 (cond (decide (a1.Put = (⟨#[]⟩ : ByteArray)))
 (some (true))
 (Option.bind (G90 e2.Fields a1.Field) fun r15 =>
 cond (decide (0 ≤ r15)) (Option.bind e2.Fields[r15.toNat]? fun e16 => Option.bind (G89 e16 a1.Put) fun r17 =>
 some (r17)) none))))))))
 (cond (!decide (a1.From = (⟨#[]⟩ : ByteArray)))
 (Option.bind (G88 e2.Fields a1.From) fun r18 =>
 cond (!r18)
 (some (false))
 (cond (decide (a1.When = a1.Field))
 (some (false))
 (cond (decide (a1.From = a1.Field))
 (some (false))
 (cond (decide (a1.When = (⟨#[]⟩ : ByteArray)))
 (cond (!decide (a1.Is = (⟨#[]⟩ : ByteArray)))
 (some (false))
 (cond ((decide (a1.Put = (⟨#[]⟩ : ByteArray))) == (decide (a1.From = (⟨#[]⟩ : ByteArray))))
 (some (false))
 (cond (decide (a1.Put = (⟨#[]⟩ : ByteArray)))
 (some (true))
 (Option.bind (G90 e2.Fields a1.Field) fun r19 =>
 cond (decide (0 ≤ r19)) (Option.bind e2.Fields[r19.toNat]? fun e20 => Option.bind (G89 e20 a1.Put) fun r21 =>
 some (r21)) none))))
 (cond ((decide (a1.Put = (⟨#[]⟩ : ByteArray))) == (decide (a1.From = (⟨#[]⟩ : ByteArray))))
 (some (false))
 (cond (decide (a1.Put = (⟨#[]⟩ : ByteArray)))
 (some (true))
 (Option.bind (G90 e2.Fields a1.Field) fun r22 =>
 cond (decide (0 ≤ r22)) (Option.bind e2.Fields[r22.toNat]? fun e23 => Option.bind (G89 e23 a1.Put) fun r24 =>
 some (r24)) none)))))))
 (cond (decide (a1.When = a1.Field))
 (some (false))
 (cond (decide (a1.From = a1.Field))
 (some (false))
 (cond (decide (a1.When = (⟨#[]⟩ : ByteArray)))
 (cond (!decide (a1.Is = (⟨#[]⟩ : ByteArray)))
 (some (false))
 (cond ((decide (a1.Put = (⟨#[]⟩ : ByteArray))) == (decide (a1.From = (⟨#[]⟩ : ByteArray))))
 (some (false))
 (cond (decide (a1.Put = (⟨#[]⟩ : ByteArray)))
 (some (true))
 (Option.bind (G90 e2.Fields a1.Field) fun r25 =>
 cond (decide (0 ≤ r25)) (Option.bind e2.Fields[r25.toNat]? fun e26 => Option.bind (G89 e26 a1.Put) fun r27 =>
 some (r27)) none))))
 (cond ((decide (a1.Put = (⟨#[]⟩ : ByteArray))) == (decide (a1.From = (⟨#[]⟩ : ByteArray))))
 (some (false))
 (cond (decide (a1.Put = (⟨#[]⟩ : ByteArray)))
 (some (true))
 (Option.bind (G90 e2.Fields a1.Field) fun r28 =>
 cond (decide (0 ≤ r28)) (Option.bind e2.Fields[r28.toNat]? fun e29 => Option.bind (G89 e29 a1.Put) fun r30 =>
 some (r30)) none))))))))) none)
theorem t74 (n : Nat) (a0 : List (C .e105)) (a1 : VGateMend) : runFn X74 (F74 n) Tryz.f74 [.one (.row .e105 a0), .agg [.str a1.Kind, .str a1.Field, .str a1.When, .str a1.Is, .str a1.Put, .str a1.From]] dec74 = G74n n a0 a1 := by
  kernel_rfl
noncomputable def G74 (a0 : List (C .e105)) (a1 : VGateMend) : Option (Bool) := G74n fuel a0 a1
noncomputable def con74 : Con C := mkC KK [.row .e105, .el .e110] [.bool] G74
theorem c74 : ConOk Tryz.prog KK 74 con74 := cO (mkQ ⟨c54, c88, c89, c90, trivial⟩ trivial trivial : Cons Tryz.prog X74) (fn := Tryz.f74) (by kernel_rfl) (by kernel_rfl) (by kernel_rfl) (by kernel_rfl) (F74 fuel) (by kernel_rfl) (fun a0 a1 => t74 fuel a0 a1)
/-! ### f92 loop.example/wharfdesk/spec.l3Ready -/
noncomputable def X92 : Cx C := mkX [(91, con91)] [] [] [] 6029312
def F92 (n : Nat) : Cf := { N := n, keep := [0, 1, 2, 3, 8, 9, 10, 14, 54], live := lk [(0, [0, 1, 2, 3, 9])] }
noncomputable abbrev dec92 := deR KK [.bool]
abbrev A92_0 : Type := List (C .e110) × ByteArray × ByteArray × List (C .e9) × Int
def s92_0  : A92_0 → St C := fun (x0_0, x0_1, x0_2, x0_3, x0_4) => { env := [(0, .one (.row .e110 x0_0)), (1, .one (.str x0_1)), (2, .one (.str x0_2)), (3, .one (.row .e9 x0_3)), (9, .one (.int .i64 x0_4))], objs := [], base := 0 }
noncomputable def r92_0 (n : Nat)   (rec0 : A92_0 → Option (Bool)) : A92_0 → Option (Bool) := fun (x0_0, x0_1, x0_2, x0_3, x0_4) =>
 cond (decide (x0_4 < (x0_0.length : Int)))
 (cond (decide (0 ≤ x0_4)) (Option.bind x0_0[x0_4.toNat]? fun e1 => cond (decide (e1.Kind = x0_1))
 (cond (decide (e1.Field = x0_2))
 (cond (!decide (e1.When = (⟨#[]⟩ : ByteArray)))
 (Option.bind (G91 x0_3 e1.When) fun r2 =>
 cond (!r2)
 (some (false))
 (cond (!decide (e1.From = (⟨#[]⟩ : ByteArray)))
 (Option.bind (G91 x0_3 e1.From) fun r3 =>
 cond (!r3)
 (some (false))
 (rec0 ((x0_0, x0_1, x0_2, x0_3, IntKind.i64.wrap (x0_4 + 1)))))
 (rec0 ((x0_0, x0_1, x0_2, x0_3, IntKind.i64.wrap (x0_4 + 1))))))
 (cond (!decide (e1.From = (⟨#[]⟩ : ByteArray)))
 (Option.bind (G91 x0_3 e1.From) fun r4 =>
 cond (!r4)
 (some (false))
 (rec0 ((x0_0, x0_1, x0_2, x0_3, IntKind.i64.wrap (x0_4 + 1)))))
 (rec0 ((x0_0, x0_1, x0_2, x0_3, IntKind.i64.wrap (x0_4 + 1))))))
 (rec0 ((x0_0, x0_1, x0_2, x0_3, IntKind.i64.wrap (x0_4 + 1)))))
 (rec0 ((x0_0, x0_1, x0_2, x0_3, IntKind.i64.wrap (x0_4 + 1))))) none)
 (some (true))
noncomputable def LP92_0 (n : Nat)   (x : A92_0) : Option (Bool) := lpN (r92_0 n  ) n x
noncomputable def MP92_0 (n : Nat)   (x : A92_0) : Option (Bool) := iter (fun rec S => run X92 (F92 n) (codeAt (bodyOf Tryz.f92) [1, 0, 1, 0, 0]) 0 S (lopK rec (blkK 0 (seqK (run X92 (F92 n) (codeAt (bodyOf Tryz.f92) [1, 1]) 0) (kTop X92 Tryz.f92 dec92))))) [0, 1, 2, 3, 9] n (s92_0  x)
theorem m92_0 (n : Nat)   (x : A92_0) : MP92_0 n   x = LP92_0 n   x := by
  refine iter_eq (s92_0 ) (r92_0 n  ) (fun rec0 x => ?_) n x
  obtain ⟨x0_0, x0_1, x0_2, x0_3, x0_4⟩ := x
  kernel_rfl
noncomputable def G92n (n : Nat) (a0 : List (C .e110)) (a1 : ByteArray) (a2 : ByteArray) (a3 : List (C .e9)) : Option (Bool) :=
 LP92_0 n    (a0, a1, a2, a3, 0)
theorem t92 (n : Nat) (a0 : List (C .e110)) (a1 : ByteArray) (a2 : ByteArray) (a3 : List (C .e9)) : runFn X92 (F92 n) Tryz.f92 [.one (.row .e110 a0), .one (.str a1), .one (.str a2), .one (.row .e9 a3)] dec92 = G92n n a0 a1 a2 a3 := by
  refine Eq.trans (b :=
   MP92_0 n    (a0, a1, a2, a3, 0)) (by kernel_rfl) ?_
  simp only [G92n, m92_0]
noncomputable def G92 (a0 : List (C .e110)) (a1 : ByteArray) (a2 : ByteArray) (a3 : List (C .e9)) : Option (Bool) := G92n fuel a0 a1 a2 a3
noncomputable def con92 : Con C := mkC KK [.row .e110, .str, .str, .row .e9] [.bool] G92
theorem c92 : ConOk Tryz.prog KK 92 con92 := cO (mkQ ⟨c91, trivial⟩ trivial trivial : Cons Tryz.prog X92) (fn := Tryz.f92) (by kernel_rfl) (by kernel_rfl) (by kernel_rfl) (by kernel_rfl) (F92 fuel) (by kernel_rfl) (fun a0 a1 a2 a3 => t92 fuel a0 a1 a2 a3)
/-! ### f75 loop.example/wharfdesk/spec.l3Row -/
noncomputable def X75 : Cx C := mkX [(91, con91), (92, con92)] [] [] [] 4915200
def F75 (n : Nat) : Cf := { N := n, keep := [0, 1, 2, 4, 5, 6, 7, 8, 14, 21, 41], live := lk [(0, [1, 2, 5, 6]), (2, [1, 2, 5, 6, 7])] }
noncomputable abbrev dec75 := deR KK [.row .e9]
abbrev A75_1 : Type := List (C .e110) × List (C .e9) × Int × Int × ByteArray × List (C .e146)
def s75_1  : A75_1 → St C := fun (x1_0, x1_1, x1_2, x1_3, x1_4, x1_5) => { env := [(1, .one (.row .e110 x1_0)), (2, .one (.ptr 4915328 0)), (5, .one (.ref 100005 [])), (6, .one (.int .i64 x1_2)), (7, .one (.int .i64 x1_3))], objs := [(100005, .row .e9 x1_1 false), (4915328, .box .mem [.str x1_4, .row .e146 x1_5])], base := 0 }
abbrev A75_0 : Type := List (C .e110) × List (C .e9) × Int × ByteArray × List (C .e146)
def s75_0  : A75_0 → St C := fun (x0_0, x0_1, x0_2, x0_3, x0_4) => { env := [(1, .one (.row .e110 x0_0)), (2, .one (.ptr 4915328 0)), (5, .one (.ref 100005 [])), (6, .one (.int .i64 x0_2))], objs := [(100005, .row .e9 x0_1 false), (4915328, .box .mem [.str x0_3, .row .e146 x0_4])], base := 0 }
noncomputable def r75_1 (n : Nat) (rec0 : A75_0 → Option (List (C .e9)))  (rec1 : A75_1 → Option (List (C .e9))) : A75_1 → Option (List (C .e9)) := fun (x1_0, x1_1, x1_2, x1_3, x1_4, x1_5) =>
 cond (decide (x1_3 < (x1_5.length : Int)))
 (cond (decide (0 ≤ x1_3)) (Option.bind x1_5[x1_3.toNat]? fun e1 => Option.bind (G91 x1_1 e1.Name) fun r2 =>
 cond (!r2)
 (Option.bind (G92 x1_0 x1_4 e1.Name x1_1) fun r3 =>
 cond r3
 (cond (decide ((x1_1.length + (([e1.Name] : List (C .e9))).length) * 16 ≤ 140737488355328)) (rec0 ((x1_0, x1_1 ++ (([e1.Name] : List (C .e9))), IntKind.i64.wrap (x1_2 + 1), x1_4, x1_5))) none)
 (rec1 ((x1_0, x1_1, x1_2, IntKind.i64.wrap (x1_3 + 1), x1_4, x1_5))))
 (rec1 ((x1_0, x1_1, x1_2, IntKind.i64.wrap (x1_3 + 1), x1_4, x1_5)))) none)
 (rec0 ((x1_0, x1_1, IntKind.i64.wrap (x1_2 + 1), x1_4, x1_5)))
noncomputable def LP75_1 (n : Nat) (rec0 : A75_0 → Option (List (C .e9)))  (x : A75_1) : Option (List (C .e9)) := lpN (r75_1 n rec0 ) n x
noncomputable def MP75_1 (n : Nat) (rec0 : St C → Option (List (C .e9)))  (x : A75_1) : Option (List (C .e9)) := iter (fun rec S => run X75 (F75 n) (codeAt (bodyOf Tryz.f75) [1, 1, 0, 1, 0, 0, 1, 0, 0, 1, 0, 0]) 2 S (lopK rec (blkK 2 (blkK 1 (seqK (run X75 (F75 n) (codeAt (bodyOf Tryz.f75) [1, 1, 0, 1, 0, 0, 1, 1]) 0) (lopK (canThen [1, 2, 5, 6] rec0) (blkK 0 (seqK (run X75 (F75 n) (codeAt (bodyOf Tryz.f75) [1, 1, 1]) 0) (kTop X75 Tryz.f75 dec75))))))))) [1, 2, 5, 6, 7] n (s75_1  x)
theorem m75_1 (n : Nat) (rec0 : St C → Option (List (C .e9)))  (x : A75_1) : MP75_1 n rec0  x = LP75_1 n (fun x => rec0 (s75_0  x))  x := by
  refine iter_eq (s75_1 ) (r75_1 n (fun x => rec0 (s75_0  x)) ) (fun rec1 x => ?_) n x
  obtain ⟨x1_0, x1_1, x1_2, x1_3, x1_4, x1_5⟩ := x
  kernel_rfl
noncomputable def r75_0 (n : Nat)   (rec0 : A75_0 → Option (List (C .e9))) : A75_0 → Option (List (C .e9)) := fun (x0_0, x0_1, x0_2, x0_3, x0_4) =>
 cond (decide (x0_2 < (x0_4.length : Int)))
 (LP75_1 n  rec0  (x0_0, x0_1, x0_2, 0, x0_3, x0_4))
 (some (x0_1))
noncomputable def LP75_0 (n : Nat)   (x : A75_0) : Option (List (C .e9)) := lpN (r75_0 n  ) n x
noncomputable def MP75_0 (n : Nat)   (x : A75_0) : Option (List (C .e9)) := iter (fun rec S => run X75 (F75 n) (codeAt (bodyOf Tryz.f75) [1, 1, 0, 1, 0, 0]) 0 S (lopK rec (blkK 0 (seqK (run X75 (F75 n) (codeAt (bodyOf Tryz.f75) [1, 1, 1]) 0) (kTop X75 Tryz.f75 dec75))))) [1, 2, 5, 6] n (s75_0  x)
theorem m75_0 (n : Nat)   (x : A75_0) : MP75_0 n   x = LP75_0 n   x := by
  refine iter_eq (s75_0 ) (r75_0 n  ) (fun rec0 x => ?_) n x
  obtain ⟨x0_0, x0_1, x0_2, x0_3, x0_4⟩ := x
  have h : run X75 (F75 n) (codeAt (bodyOf Tryz.f75) [1, 1, 0, 1, 0, 0]) 0 (s75_0  (x0_0, x0_1, x0_2, x0_3, x0_4)) (lopK (canThen [1, 2, 5, 6] rec0) (blkK 0 (seqK (run X75 (F75 n) (codeAt (bodyOf Tryz.f75) [1, 1, 1]) 0) (kTop X75 Tryz.f75 dec75)))) =
   cond (decide (x0_2 < (x0_4.length : Int)))
   (MP75_1 n  rec0  (x0_0, x0_1, x0_2, 0, x0_3, x0_4))
   (some (x0_1)) := by kernel_rfl
  simp only [m75_1] at h
  exact h
noncomputable def G75n (n : Nat) (a0 : VGateShape) (a1 : List (C .e110)) : Option (List (C .e9)) :=
 LP75_0 n    ((a1, ([] : List (C .e9)), 0, a0.Kind, a0.Fields))
theorem t75 (n : Nat) (a0 : VGateShape) (a1 : List (C .e110)) : runFn X75 (F75 n) Tryz.f75 [.agg [.str a0.Kind, .row .e146 a0.Fields], .one (.row .e110 a1)] dec75 = G75n n a0 a1 := by
  refine Eq.trans (b :=
   MP75_0 n    ((a1, ([] : List (C .e9)), 0, a0.Kind, a0.Fields))) (by kernel_rfl) ?_
  simp only [G75n, m75_0]
noncomputable def G75 (a0 : VGateShape) (a1 : List (C .e110)) : Option (List (C .e9)) := G75n fuel a0 a1
noncomputable def con75 : Con C := mkC KK [.el .e105, .row .e110] [.row .e9] G75
theorem c75 : ConOk Tryz.prog KK 75 con75 := cO (mkQ ⟨c91, c92, trivial⟩ trivial trivial : Cons Tryz.prog X75) (fn := Tryz.f75) (by kernel_rfl) (by kernel_rfl) (by kernel_rfl) (by kernel_rfl) (F75 fuel) (by kernel_rfl) (fun a0 a1 => t75 fuel a0 a1)
/-! ### f48 loop.example/wharfdesk/spec.GateMendsOk -/
noncomputable def X48 : Cx C := mkX [(73, con73), (74, con74), (75, con75)] [] [] [] 3145728
def F48 (n : Nat) : Cf := { N := n, keep := [0, 1, 4, 5, 6, 14, 18, 27, 31, 47], live := lk [(0, [0, 1, 5]), (2, [0, 1, 6])] }
noncomputable abbrev dec48 := deR KK [.bool]
abbrev A48_1 : Type := List (C .e105) × List (C .e110) × Int
def s48_1  : A48_1 → St C := fun (x1_0, x1_1, x1_2) => { env := [(0, .one (.row .e105 x1_0)), (1, .one (.row .e110 x1_1)), (6, .one (.int .i64 x1_2))], objs := [], base := 0 }
abbrev A48_0 : Type := List (C .e105) × List (C .e110) × Int
def s48_0  : A48_0 → St C := fun (x0_0, x0_1, x0_2) => { env := [(0, .one (.row .e105 x0_0)), (1, .one (.row .e110 x0_1)), (5, .one (.int .i64 x0_2))], objs := [], base := 0 }
noncomputable def r48_1 (n : Nat)   (rec1 : A48_1 → Option (Bool)) : A48_1 → Option (Bool) := fun (x1_0, x1_1, x1_2) =>
 cond (decide (x1_2 < (x1_0.length : Int)))
 (cond (decide (0 ≤ x1_2)) (Option.bind x1_0[x1_2.toNat]? fun e4 => Option.bind (G75 e4 x1_1) fun r5 =>
 cond (decide (0 ≤ x1_2)) (Option.bind x1_0[x1_2.toNat]? fun e6 => cond ((r5.length : Int) != (e6.Fields.length : Int))
 (some (false))
 (rec1 ((x1_0, x1_1, IntKind.i64.wrap (x1_2 + 1))))) none) none)
 (some (true))
noncomputable def LP48_1 (n : Nat)   (x : A48_1) : Option (Bool) := lpN (r48_1 n  ) n x
noncomputable def MP48_1 (n : Nat)   (x : A48_1) : Option (Bool) := iter (fun rec S => run X48 (F48 n) (codeAt (bodyOf Tryz.f48) [1, 1, 1, 0, 1, 0, 0]) 2 S (lopK rec (blkK 2 (seqK (run X48 (F48 n) (codeAt (bodyOf Tryz.f48) [1, 1, 1, 1]) 0) (kTop X48 Tryz.f48 dec48))))) [0, 1, 6] n (s48_1  x)
theorem m48_1 (n : Nat)   (x : A48_1) : MP48_1 n   x = LP48_1 n   x := by
  refine iter_eq (s48_1 ) (r48_1 n  ) (fun rec1 x => ?_) n x
  obtain ⟨x1_0, x1_1, x1_2⟩ := x
  kernel_rfl
noncomputable def r48_0 (n : Nat)   (rec0 : A48_0 → Option (Bool)) : A48_0 → Option (Bool) := fun (x0_0, x0_1, x0_2) =>
 cond (decide (x0_2 < (x0_1.length : Int)))
 (cond (decide (0 ≤ x0_2)) (Option.bind x0_1[x0_2.toNat]? fun e2 => Option.bind (G74 x0_0 e2) fun r3 =>
 cond (!r3)
 (some (false))
 (rec0 ((x0_0, x0_1, IntKind.i64.wrap (x0_2 + 1))))) none)
 (LP48_1 n    (x0_0, x0_1, 0))
noncomputable def LP48_0 (n : Nat)   (x : A48_0) : Option (Bool) := lpN (r48_0 n  ) n x
noncomputable def MP48_0 (n : Nat)   (x : A48_0) : Option (Bool) := iter (fun rec S => run X48 (F48 n) (codeAt (bodyOf Tryz.f48) [1, 1, 0, 1, 0, 0]) 0 S (lopK rec (blkK 0 (seqK (run X48 (F48 n) (codeAt (bodyOf Tryz.f48) [1, 1, 1]) 0) (kTop X48 Tryz.f48 dec48))))) [0, 1, 5] n (s48_0  x)
theorem m48_0 (n : Nat)   (x : A48_0) : MP48_0 n   x = LP48_0 n   x := by
  refine iter_eq (s48_0 ) (r48_0 n  ) (fun rec0 x => ?_) n x
  obtain ⟨x0_0, x0_1, x0_2⟩ := x
  have h : run X48 (F48 n) (codeAt (bodyOf Tryz.f48) [1, 1, 0, 1, 0, 0]) 0 (s48_0  (x0_0, x0_1, x0_2)) (lopK (canThen [0, 1, 5] rec0) (blkK 0 (seqK (run X48 (F48 n) (codeAt (bodyOf Tryz.f48) [1, 1, 1]) 0) (kTop X48 Tryz.f48 dec48)))) =
   cond (decide (x0_2 < (x0_1.length : Int)))
   (cond (decide (0 ≤ x0_2)) (Option.bind x0_1[x0_2.toNat]? fun e2 => Option.bind (G74 x0_0 e2) fun r3 =>
   cond (!r3)
   (some (false))
   ((fun x => rec0 (s48_0  x)) ((x0_0, x0_1, IntKind.i64.wrap (x0_2 + 1))))) none)
   (MP48_1 n    (x0_0, x0_1, 0)) := by kernel_rfl
  simp only [m48_1] at h
  exact h
noncomputable def G48n (n : Nat) (a0 : List (C .e105)) (a1 : List (C .e110)) : Option (Bool) :=
 Option.bind (G73 a0) fun r1 =>
 cond (!r1)
 (some (false))
 (cond (decide ((a1.length : Int) > 12))
 (some (false))
 (LP48_0 n    (a0, a1, 0)))
theorem t48 (n : Nat) (a0 : List (C .e105)) (a1 : List (C .e110)) : runFn X48 (F48 n) Tryz.f48 [.one (.row .e105 a0), .one (.row .e110 a1)] dec48 = G48n n a0 a1 := by
  refine Eq.trans (b :=
   Option.bind (G73 a0) fun r1 =>
   cond (!r1)
   (some (false))
   (cond (decide ((a1.length : Int) > 12))
   (some (false))
   (MP48_0 n    (a0, a1, 0)))) (by kernel_rfl) ?_
  simp only [G48n, m48_0]
noncomputable def G48 (a0 : List (C .e105)) (a1 : List (C .e110)) : Option (Bool) := G48n fuel a0 a1
noncomputable def con48 : Con C := mkC KK [.row .e105, .row .e110] [.bool] G48
theorem c48 : ConOk Tryz.prog KK 48 con48 := cO (mkQ ⟨c73, c74, c75, trivial⟩ trivial trivial : Cons Tryz.prog X48) (fn := Tryz.f48) (by kernel_rfl) (by kernel_rfl) (by kernel_rfl) (by kernel_rfl) (F48 fuel) (by kernel_rfl) (fun a0 a1 => t48 fuel a0 a1)
/-! ### f55 loop.example/wharfdesk/spec.l4Team -/
noncomputable def X55 : Cx C := mkX [] [] [] [] 3604480
def F55 (n : Nat) : Cf := { N := n, keep := [0, 1, 4, 5, 9, 18], live := lk [(0, [0, 1, 5])] }
noncomputable abbrev dec55 := deR KK [.bool]
abbrev A55_0 : Type := List (C .e112) × ByteArray × Int
def s55_0  : A55_0 → St C := fun (x0_0, x0_1, x0_2) => { env := [(0, .one (.row .e112 x0_0)), (1, .one (.str x0_1)), (5, .one (.int .i64 x0_2))], objs := [], base := 0 }
noncomputable def r55_0 (n : Nat)   (rec0 : A55_0 → Option (Bool)) : A55_0 → Option (Bool) := fun (x0_0, x0_1, x0_2) =>
 cond (decide (x0_2 < (x0_0.length : Int)))
 (cond (decide (0 ≤ x0_2)) (Option.bind x0_0[x0_2.toNat]? fun e1 => cond (decide (e1.Name = x0_1))
 (some (true))
 (rec0 ((x0_0, x0_1, IntKind.i64.wrap (x0_2 + 1))))) none)
 (some (false))
noncomputable def LP55_0 (n : Nat)   (x : A55_0) : Option (Bool) := lpN (r55_0 n  ) n x
noncomputable def MP55_0 (n : Nat)   (x : A55_0) : Option (Bool) := iter (fun rec S => run X55 (F55 n) (codeAt (bodyOf Tryz.f55) [1, 0, 1, 0, 0]) 0 S (lopK rec (blkK 0 (seqK (run X55 (F55 n) (codeAt (bodyOf Tryz.f55) [1, 1]) 0) (kTop X55 Tryz.f55 dec55))))) [0, 1, 5] n (s55_0  x)
theorem m55_0 (n : Nat)   (x : A55_0) : MP55_0 n   x = LP55_0 n   x := by
  refine iter_eq (s55_0 ) (r55_0 n  ) (fun rec0 x => ?_) n x
  obtain ⟨x0_0, x0_1, x0_2⟩ := x
  kernel_rfl
noncomputable def G55n (n : Nat) (a0 : List (C .e112)) (a1 : ByteArray) : Option (Bool) :=
 LP55_0 n    (a0, a1, 0)
theorem t55 (n : Nat) (a0 : List (C .e112)) (a1 : ByteArray) : runFn X55 (F55 n) Tryz.f55 [.one (.row .e112 a0), .one (.str a1)] dec55 = G55n n a0 a1 := by
  refine Eq.trans (b :=
   MP55_0 n    (a0, a1, 0)) (by kernel_rfl) ?_
  simp only [G55n, m55_0]
noncomputable def G55 (a0 : List (C .e112)) (a1 : ByteArray) : Option (Bool) := G55n fuel a0 a1
noncomputable def con55 : Con C := mkC KK [.row .e112, .str] [.bool] G55
theorem c55 : ConOk Tryz.prog KK 55 con55 := cO (mkQ trivial trivial trivial : Cons Tryz.prog X55) (fn := Tryz.f55) (by kernel_rfl) (by kernel_rfl) (by kernel_rfl) (by kernel_rfl) (F55 fuel) (by kernel_rfl) (fun a0 a1 => t55 fuel a0 a1)
/-! ### f76 loop.example/wharfdesk/spec.l4Over -/
noncomputable def X76 : Cx C := mkX [] [] [] [] 4980736
def F76 (n : Nat) : Cf := { N := n, keep := [0, 1, 4, 5, 9, 18], live := lk [(0, [0, 1, 5])] }
noncomputable abbrev dec76 := deR KK [.str]
abbrev A76_0 : Type := List (C .e112) × ByteArray × Int
def s76_0  : A76_0 → St C := fun (x0_0, x0_1, x0_2) => { env := [(0, .one (.row .e112 x0_0)), (1, .one (.str x0_1)), (5, .one (.int .i64 x0_2))], objs := [], base := 0 }
noncomputable def r76_0 (n : Nat)   (rec0 : A76_0 → Option (ByteArray)) : A76_0 → Option (ByteArray) := fun (x0_0, x0_1, x0_2) =>
 cond (decide (x0_2 < (x0_0.length : Int)))
 (cond (decide (0 ≤ x0_2)) (Option.bind x0_0[x0_2.toNat]? fun e1 => cond (decide (e1.Name = x0_1))
 (cond (decide (0 ≤ x0_2)) (Option.bind x0_0[x0_2.toNat]? fun e2 => some (e2.Over)) none)
 (rec0 ((x0_0, x0_1, IntKind.i64.wrap (x0_2 + 1))))) none)
 (some ((⟨#[]⟩ : ByteArray)))
noncomputable def LP76_0 (n : Nat)   (x : A76_0) : Option (ByteArray) := lpN (r76_0 n  ) n x
noncomputable def MP76_0 (n : Nat)   (x : A76_0) : Option (ByteArray) := iter (fun rec S => run X76 (F76 n) (codeAt (bodyOf Tryz.f76) [1, 0, 1, 0, 0]) 0 S (lopK rec (blkK 0 (seqK (run X76 (F76 n) (codeAt (bodyOf Tryz.f76) [1, 1]) 0) (kTop X76 Tryz.f76 dec76))))) [0, 1, 5] n (s76_0  x)
theorem m76_0 (n : Nat)   (x : A76_0) : MP76_0 n   x = LP76_0 n   x := by
  refine iter_eq (s76_0 ) (r76_0 n  ) (fun rec0 x => ?_) n x
  obtain ⟨x0_0, x0_1, x0_2⟩ := x
  kernel_rfl
noncomputable def G76n (n : Nat) (a0 : List (C .e112)) (a1 : ByteArray) : Option (ByteArray) :=
 LP76_0 n    (a0, a1, 0)
theorem t76 (n : Nat) (a0 : List (C .e112)) (a1 : ByteArray) : runFn X76 (F76 n) Tryz.f76 [.one (.row .e112 a0), .one (.str a1)] dec76 = G76n n a0 a1 := by
  refine Eq.trans (b :=
   MP76_0 n    (a0, a1, 0)) (by kernel_rfl) ?_
  simp only [G76n, m76_0]
noncomputable def G76 (a0 : List (C .e112)) (a1 : ByteArray) : Option (ByteArray) := G76n fuel a0 a1
noncomputable def con76 : Con C := mkC KK [.row .e112, .str] [.str] G76
theorem c76 : ConOk Tryz.prog KK 76 con76 := cO (mkQ trivial trivial trivial : Cons Tryz.prog X76) (fn := Tryz.f76) (by kernel_rfl) (by kernel_rfl) (by kernel_rfl) (by kernel_rfl) (F76 fuel) (by kernel_rfl) (fun a0 a1 => t76 fuel a0 a1)
/-! ### f49 loop.example/wharfdesk/spec.GateTeamsOk -/
noncomputable def X49 : Cx C := mkX [(50, con50), (55, con55), (76, con76)] [] [] [] 3211264
def F49 (n : Nat) : Cf := { N := n, keep := [0, 2, 3, 4, 5, 6, 9, 13, 50, 58, 65], live := lk [(0, [0, 3]), (2, [0, 3, 5, 6])] }
noncomputable abbrev dec49 := deR KK [.bool]
abbrev A49_1 : Type := List (C .e112) × Int × ByteArray × Int
def s49_1  : A49_1 → St C := fun (x1_0, x1_1, x1_2, x1_3) => { env := [(0, .one (.row .e112 x1_0)), (3, .one (.int .i64 x1_1)), (5, .one (.str x1_2)), (6, .one (.int .i64 x1_3))], objs := [], base := 0 }
abbrev A49_0 : Type := List (C .e112) × Int
def s49_0  : A49_0 → St C := fun (x0_0, x0_1) => { env := [(0, .one (.row .e112 x0_0)), (3, .one (.int .i64 x0_1))], objs := [], base := 0 }
noncomputable def r49_1 (n : Nat) (rec0 : A49_0 → Option (Bool))  (rec1 : A49_1 → Option (Bool)) : A49_1 → Option (Bool) := fun (x1_0, x1_1, x1_2, x1_3) =>
 cond (decide (x1_3 ≤ 4))
 (cond (!decide (x1_2 = (⟨#[]⟩ : ByteArray)))
 (Option.bind (G76 x1_0 x1_2) fun r5 =>
 rec1 ((x1_0, x1_1, r5, IntKind.i64.wrap (x1_3 + 1))))
 (cond (!decide (x1_2 = (⟨#[]⟩ : ByteArray)))
 (some (false))
 (rec0 ((x1_0, IntKind.i64.wrap (x1_1 + 1))))))
 (cond (!decide (x1_2 = (⟨#[]⟩ : ByteArray)))
 (some (false))
 (rec0 ((x1_0, IntKind.i64.wrap (x1_1 + 1)))))
noncomputable def LP49_1 (n : Nat) (rec0 : A49_0 → Option (Bool))  (x : A49_1) : Option (Bool) := lpN (r49_1 n rec0 ) n x
noncomputable def MP49_1 (n : Nat) (rec0 : St C → Option (Bool))  (x : A49_1) : Option (Bool) := iter (fun rec S => run X49 (F49 n) (codeAt (bodyOf Tryz.f49) [1, 1, 0, 1, 0, 0, 1, 0, 0, 1, 1, 1, 0, 1, 0, 0]) 2 S (lopK rec (blkK 2 (seqK (run X49 (F49 n) (codeAt (bodyOf Tryz.f49) [1, 1, 0, 1, 0, 0, 1, 0, 0, 1, 1, 1, 1]) 1) (blkK 1 (seqK (run X49 (F49 n) (codeAt (bodyOf Tryz.f49) [1, 1, 0, 1, 0, 0, 1, 1]) 0) (lopK (canThen [0, 3] rec0) (blkK 0 (seqK (run X49 (F49 n) (codeAt (bodyOf Tryz.f49) [1, 1, 1]) 0) (kTop X49 Tryz.f49 dec49)))))))))) [0, 3, 5, 6] n (s49_1  x)
theorem m49_1 (n : Nat) (rec0 : St C → Option (Bool))  (x : A49_1) : MP49_1 n rec0  x = LP49_1 n (fun x => rec0 (s49_0  x))  x := by
  refine iter_eq (s49_1 ) (r49_1 n (fun x => rec0 (s49_0  x)) ) (fun rec1 x => ?_) n x
  obtain ⟨x1_0, x1_1, x1_2, x1_3⟩ := x
  kernel_rfl
noncomputable def r49_0 (n : Nat)   (rec0 : A49_0 → Option (Bool)) : A49_0 → Option (Bool) := fun (x0_0, x0_1) =>
 cond (decide (x0_1 < (x0_0.length : Int)))
 (cond (decide (0 ≤ x0_1)) (Option.bind x0_0[x0_1.toNat]? fun e1 => Option.bind (G50 e1.Name) fun r2 =>
 cond (!r2)
 (some (false))
 (cond (decide (x0_1 > 0))
 (cond (decide (0 ≤ IntKind.i64.wrap (x0_1 - 1))) (Option.bind x0_0[(IntKind.i64.wrap (x0_1 - 1)).toNat]? fun e3 => cond (!slt e3.Name e1.Name)
 (some (false))
 (cond (!decide (e1.Over = (⟨#[]⟩ : ByteArray)))
 (Option.bind (G55 x0_0 e1.Over) fun r4 =>
 cond (!r4)
 (some (false))
 (LP49_1 n  rec0  (x0_0, x0_1, e1.Name, 0)))
 (LP49_1 n  rec0  (x0_0, x0_1, e1.Name, 0)))) none)
 (cond (!decide (e1.Over = (⟨#[]⟩ : ByteArray)))
 (Option.bind (G55 x0_0 e1.Over) fun r6 =>
 cond (!r6)
 (some (false))
 (LP49_1 n  rec0  (x0_0, x0_1, e1.Name, 0)))
 (LP49_1 n  rec0  (x0_0, x0_1, e1.Name, 0))))) none)
 (some (true))
noncomputable def LP49_0 (n : Nat)   (x : A49_0) : Option (Bool) := lpN (r49_0 n  ) n x
noncomputable def MP49_0 (n : Nat)   (x : A49_0) : Option (Bool) := iter (fun rec S => run X49 (F49 n) (codeAt (bodyOf Tryz.f49) [1, 1, 0, 1, 0, 0]) 0 S (lopK rec (blkK 0 (seqK (run X49 (F49 n) (codeAt (bodyOf Tryz.f49) [1, 1, 1]) 0) (kTop X49 Tryz.f49 dec49))))) [0, 3] n (s49_0  x)
theorem m49_0 (n : Nat)   (x : A49_0) : MP49_0 n   x = LP49_0 n   x := by
  refine iter_eq (s49_0 ) (r49_0 n  ) (fun rec0 x => ?_) n x
  obtain ⟨x0_0, x0_1⟩ := x
  have h : run X49 (F49 n) (codeAt (bodyOf Tryz.f49) [1, 1, 0, 1, 0, 0]) 0 (s49_0  (x0_0, x0_1)) (lopK (canThen [0, 3] rec0) (blkK 0 (seqK (run X49 (F49 n) (codeAt (bodyOf Tryz.f49) [1, 1, 1]) 0) (kTop X49 Tryz.f49 dec49)))) =
   cond (decide (x0_1 < (x0_0.length : Int)))
   (cond (decide (0 ≤ x0_1)) (Option.bind x0_0[x0_1.toNat]? fun e1 => Option.bind (G50 e1.Name) fun r2 =>
   cond (!r2)
   (some (false))
   (cond (decide (x0_1 > 0))
   (cond (decide (0 ≤ IntKind.i64.wrap (x0_1 - 1))) (Option.bind x0_0[(IntKind.i64.wrap (x0_1 - 1)).toNat]? fun e3 => cond (!slt e3.Name e1.Name)
   (some (false))
   (cond (!decide (e1.Over = (⟨#[]⟩ : ByteArray)))
   (Option.bind (G55 x0_0 e1.Over) fun r4 =>
   cond (!r4)
   (some (false))
   (MP49_1 n  rec0  (x0_0, x0_1, e1.Name, 0)))
   (MP49_1 n  rec0  (x0_0, x0_1, e1.Name, 0)))) none)
   (cond (!decide (e1.Over = (⟨#[]⟩ : ByteArray)))
   (Option.bind (G55 x0_0 e1.Over) fun r6 =>
   cond (!r6)
   (some (false))
   (MP49_1 n  rec0  (x0_0, x0_1, e1.Name, 0)))
   (MP49_1 n  rec0  (x0_0, x0_1, e1.Name, 0))))) none)
   (some (true)) := by kernel_rfl
  simp only [m49_1] at h
  exact h
noncomputable def G49n (n : Nat) (a0 : List (C .e112)) : Option (Bool) :=
 cond (decide ((a0.length : Int) > 12))
 (some (false))
 (LP49_0 n    (a0, 0))
theorem t49 (n : Nat) (a0 : List (C .e112)) : runFn X49 (F49 n) Tryz.f49 [.one (.row .e112 a0)] dec49 = G49n n a0 := by
  refine Eq.trans (b :=
   cond (decide ((a0.length : Int) > 12))
   (some (false))
   (MP49_0 n    (a0, 0))) (by kernel_rfl) ?_
  simp only [G49n, m49_0]
noncomputable def G49 (a0 : List (C .e112)) : Option (Bool) := G49n fuel a0
noncomputable def con49 : Con C := mkC KK [.row .e112] [.bool] G49
theorem c49 : ConOk Tryz.prog KK 49 con49 := cO (mkQ ⟨c50, c55, c76, trivial⟩ trivial trivial : Cons Tryz.prog X49) (fn := Tryz.f49) (by kernel_rfl) (by kernel_rfl) (by kernel_rfl) (by kernel_rfl) (F49 fuel) (by kernel_rfl) (fun a0 => t49 fuel a0)
/-! ### f23 loop.example/wharfdesk/spec.GateLawOk -/
noncomputable def X23 : Cx C := mkX [(48, con48), (49, con49)] [] [] [] 1507328
def F23 (n : Nat) : Cf := { N := n, keep := [0, 1, 2], live := lk [] }
noncomputable abbrev dec23 := deR KK [.bool]
noncomputable def G23n (n : Nat) (a0 : VGateLaw) : Option (Bool) :=
 Option.bind (G48 a0.Shapes a0.Mends) fun r1 =>
 cond r1
 (Option.bind (G49 a0.Teams) fun r2 =>
 some (r2))
 (some (false))
theorem t23 (n : Nat) (a0 : VGateLaw) : runFn X23 (F23 n) Tryz.f23 [.agg [.row .e105 a0.Shapes, .row .e110 a0.Mends, .row .e112 a0.Teams]] dec23 = G23n n a0 := by
  kernel_rfl
noncomputable def G23 (a0 : VGateLaw) : Option (Bool) := G23n fuel a0
noncomputable def con23 : Con C := mkC KK [.el .e40] [.bool] G23
theorem c23 : ConOk Tryz.prog KK 23 con23 := cO (mkQ ⟨c48, c49, trivial⟩ trivial trivial : Cons Tryz.prog X23) (fn := Tryz.f23) (by kernel_rfl) (by kernel_rfl) (by kernel_rfl) (by kernel_rfl) (F23 fuel) (by kernel_rfl) (fun a0 => t23 fuel a0)
/-! ### f28 loop.example/wharfdesk/laws.toStringS -/
noncomputable def X28 : Cx C := mkX [] [] [] [] 1835008
def F28 (n : Nat) : Cf := { N := n, keep := [0, 2, 3, 4, 11], live := lk [(0, [0, 3, 4])] }
noncomputable abbrev dec28 := deR KK [.row .e9]
abbrev A28_0 : Type := List (C .e9) × List (C .e9) × Int
def s28_0  : A28_0 → St C := fun (x0_0, x0_1, x0_2) => { env := [(0, .one (.row .e9 x0_0)), (3, .one (.ref 100003 [])), (4, .one (.int .i64 x0_2))], objs := [(100003, .row .e9 x0_1 false)], base := 0 }
noncomputable def r28_0 (n : Nat)   (rec0 : A28_0 → Option (List (C .e9))) : A28_0 → Option (List (C .e9)) := fun (x0_0, x0_1, x0_2) =>
 cond (decide (x0_2 < (x0_0.length : Int)))
 (cond (decide (0 ≤ x0_2)) (Option.bind x0_0[x0_2.toNat]? fun e1 => cond (decide (0 ≤ x0_2)) (cond (decide (x0_2 < (x0_1.length : Int))) (Option.bind x0_1[x0_2.toNat]? fun e2 => rec0 ((x0_0, x0_1.set x0_2.toNat e1, IntKind.i64.wrap (x0_2 + 1)))) none) none) none)
 (some (x0_1))
noncomputable def LP28_0 (n : Nat)   (x : A28_0) : Option (List (C .e9)) := lpN (r28_0 n  ) n x
noncomputable def MP28_0 (n : Nat)   (x : A28_0) : Option (List (C .e9)) := iter (fun rec S => run X28 (F28 n) (codeAt (bodyOf Tryz.f28) [1, 1, 0, 1, 0, 0]) 0 S (lopK rec (blkK 0 (seqK (run X28 (F28 n) (codeAt (bodyOf Tryz.f28) [1, 1, 1]) 0) (kTop X28 Tryz.f28 dec28))))) [0, 3, 4] n (s28_0  x)
theorem m28_0 (n : Nat)   (x : A28_0) : MP28_0 n   x = LP28_0 n   x := by
  refine iter_eq (s28_0 ) (r28_0 n  ) (fun rec0 x => ?_) n x
  obtain ⟨x0_0, x0_1, x0_2⟩ := x
  kernel_rfl
noncomputable def G28n (n : Nat) (a0 : List (C .e9)) : Option (List (C .e9)) :=
 cond (decide ((a0.length : Int) = (a0.length : Int))) (cond (decide (0 ≤ (a0.length : Int))) (cond (decide ((a0.length : Int) * 16 ≤ 140737488355328)) (LP28_0 n    ((a0, List.replicate (a0.length : Int).toNat (⟨#[]⟩ : C .e9), 0))) none) none) none
theorem t28 (n : Nat) (a0 : List (C .e9)) : runFn X28 (F28 n) Tryz.f28 [.one (.row .e9 a0)] dec28 = G28n n a0 := by
  refine Eq.trans (b :=
   cond (decide ((a0.length : Int) = (a0.length : Int))) (cond (decide (0 ≤ (a0.length : Int))) (cond (decide ((a0.length : Int) * 16 ≤ 140737488355328)) (MP28_0 n    ((a0, List.replicate (a0.length : Int).toNat (⟨#[]⟩ : C .e9), 0))) none) none) none) (by kernel_rfl) ?_
  simp only [G28n, m28_0]
noncomputable def G28 (a0 : List (C .e9)) : Option (List (C .e9)) := G28n fuel a0
noncomputable def con28 : Con C := mkC KK [.row .e9] [.row .e9] G28
theorem c28 : ConOk Tryz.prog KK 28 con28 := cO (mkQ trivial trivial trivial : Cons Tryz.prog X28) (fn := Tryz.f28) (by kernel_rfl) (by kernel_rfl) (by kernel_rfl) (by kernel_rfl) (F28 fuel) (by kernel_rfl) (fun a0 => t28 fuel a0)
/-! ### f93 loop.example/wharfdesk/laws.toGateField -/
noncomputable def X93 : Cx C := mkX [(28, con28)] [] [] [] 6094848
def F93 (n : Nat) : Cf := { N := n, keep := [0, 1, 2, 3], live := lk [] }
noncomputable abbrev dec93 := deR KK [.el .e146]
noncomputable def G93n (n : Nat) (a0 : VGateField) : Option (VGateField) :=
 Option.bind (G28 a0.Words) fun r1 =>
 some ((⟨a0.Name, a0.Kind, a0.Least, a0.Most, r1, a0.To, a0.Role, a0.Must, a0.Fixed, a0.Default, a0.Weighs⟩ : VGateField))
theorem t93 (n : Nat) (a0 : VGateField) : runFn X93 (F93 n) Tryz.f93 [.agg [.str a0.Name, .int .i64 a0.Kind, .int .i64 a0.Least, .int .i64 a0.Most, .row .e9 a0.Words, .str a0.To, .int .i64 a0.Role, .bool a0.Must, .bool a0.Fixed, .str a0.Default, .str a0.Weighs]] dec93 = G93n n a0 := by
  kernel_rfl
noncomputable def G93 (a0 : VGateField) : Option (VGateField) := G93n fuel a0
noncomputable def con93 : Con C := mkC KK [.el .e144] [.el .e146] G93
theorem c93 : ConOk Tryz.prog KK 93 con93 := cO (mkQ ⟨c28, trivial⟩ trivial trivial : Cons Tryz.prog X93) (fn := Tryz.f93) (by kernel_rfl) (by kernel_rfl) (by kernel_rfl) (by kernel_rfl) (F93 fuel) (by kernel_rfl) (fun a0 => t93 fuel a0)
/-! ### f78 loop.example/wharfdesk/laws.toGateFieldS -/
noncomputable def X78 : Cx C := mkX [(93, con93)] [] [] [] 5111808
def F78 (n : Nat) : Cf := { N := n, keep := [0, 2, 3, 4, 11], live := lk [(0, [0, 3, 4])] }
noncomputable abbrev dec78 := deR KK [.row .e146]
abbrev A78_0 : Type := List (C .e144) × List (C .e146) × Int
def s78_0  : A78_0 → St C := fun (x0_0, x0_1, x0_2) => { env := [(0, .one (.row .e144 x0_0)), (3, .one (.ref 100003 [])), (4, .one (.int .i64 x0_2))], objs := [(100003, .row .e146 x0_1 false)], base := 0 }
noncomputable def r78_0 (n : Nat)   (rec0 : A78_0 → Option (List (C .e146))) : A78_0 → Option (List (C .e146)) := fun (x0_0, x0_1, x0_2) =>
 cond (decide (x0_2 < (x0_0.length : Int)))
 (cond (decide (0 ≤ x0_2)) (Option.bind x0_0[x0_2.toNat]? fun e1 => Option.bind (G93 e1) fun r2 =>
 cond (decide (0 ≤ x0_2)) (cond (decide (x0_2 < (x0_1.length : Int))) (Option.bind x0_1[x0_2.toNat]? fun e3 => rec0 ((x0_0, x0_1.set x0_2.toNat r2, IntKind.i64.wrap (x0_2 + 1)))) none) none) none)
 (some (x0_1))
noncomputable def LP78_0 (n : Nat)   (x : A78_0) : Option (List (C .e146)) := lpN (r78_0 n  ) n x
noncomputable def MP78_0 (n : Nat)   (x : A78_0) : Option (List (C .e146)) := iter (fun rec S => run X78 (F78 n) (codeAt (bodyOf Tryz.f78) [1, 1, 0, 1, 0, 0]) 0 S (lopK rec (blkK 0 (seqK (run X78 (F78 n) (codeAt (bodyOf Tryz.f78) [1, 1, 1]) 0) (kTop X78 Tryz.f78 dec78))))) [0, 3, 4] n (s78_0  x)
theorem m78_0 (n : Nat)   (x : A78_0) : MP78_0 n   x = LP78_0 n   x := by
  refine iter_eq (s78_0 ) (r78_0 n  ) (fun rec0 x => ?_) n x
  obtain ⟨x0_0, x0_1, x0_2⟩ := x
  kernel_rfl
noncomputable def G78n (n : Nat) (a0 : List (C .e144)) : Option (List (C .e146)) :=
 cond (decide ((a0.length : Int) = (a0.length : Int))) (cond (decide (0 ≤ (a0.length : Int))) (cond (decide ((a0.length : Int) * 128 ≤ 140737488355328)) (LP78_0 n    ((a0, List.replicate (a0.length : Int).toNat (⟨⟨#[]⟩, 0, 0, 0, [], ⟨#[]⟩, 0, false, false, ⟨#[]⟩, ⟨#[]⟩⟩ : C .e146), 0))) none) none) none
theorem t78 (n : Nat) (a0 : List (C .e144)) : runFn X78 (F78 n) Tryz.f78 [.one (.row .e144 a0)] dec78 = G78n n a0 := by
  refine Eq.trans (b :=
   cond (decide ((a0.length : Int) = (a0.length : Int))) (cond (decide (0 ≤ (a0.length : Int))) (cond (decide ((a0.length : Int) * 128 ≤ 140737488355328)) (MP78_0 n    ((a0, List.replicate (a0.length : Int).toNat (⟨⟨#[]⟩, 0, 0, 0, [], ⟨#[]⟩, 0, false, false, ⟨#[]⟩, ⟨#[]⟩⟩ : C .e146), 0))) none) none) none) (by kernel_rfl) ?_
  simp only [G78n, m78_0]
noncomputable def G78 (a0 : List (C .e144)) : Option (List (C .e146)) := G78n fuel a0
noncomputable def con78 : Con C := mkC KK [.row .e144] [.row .e146] G78
theorem c78 : ConOk Tryz.prog KK 78 con78 := cO (mkQ ⟨c93, trivial⟩ trivial trivial : Cons Tryz.prog X78) (fn := Tryz.f78) (by kernel_rfl) (by kernel_rfl) (by kernel_rfl) (by kernel_rfl) (F78 fuel) (by kernel_rfl) (fun a0 => t78 fuel a0)
/-! ### f58 loop.example/wharfdesk/laws.toGateShape -/
noncomputable def X58 : Cx C := mkX [(78, con78)] [] [] [] 3801088
def F58 (n : Nat) : Cf := { N := n, keep := [0, 1, 2, 3], live := lk [] }
noncomputable abbrev dec58 := deR KK [.el .e105]
noncomputable def G58n (n : Nat) (a0 : VGateShape) : Option (VGateShape) :=
 Option.bind (G78 a0.Fields) fun r1 =>
 some ((⟨a0.Kind, r1⟩ : VGateShape))
theorem t58 (n : Nat) (a0 : VGateShape) : runFn X58 (F58 n) Tryz.f58 [.agg [.str a0.Kind, .row .e144 a0.Fields]] dec58 = G58n n a0 := by
  kernel_rfl
noncomputable def G58 (a0 : VGateShape) : Option (VGateShape) := G58n fuel a0
noncomputable def con58 : Con C := mkC KK [.el .e90] [.el .e105] G58
theorem c58 : ConOk Tryz.prog KK 58 con58 := cO (mkQ ⟨c78, trivial⟩ trivial trivial : Cons Tryz.prog X58) (fn := Tryz.f58) (by kernel_rfl) (by kernel_rfl) (by kernel_rfl) (by kernel_rfl) (F58 fuel) (by kernel_rfl) (fun a0 => t58 fuel a0)
/-! ### f25 loop.example/wharfdesk/laws.toGateShapeS -/
noncomputable def X25 : Cx C := mkX [(58, con58)] [] [] [] 1638400
def F25 (n : Nat) : Cf := { N := n, keep := [0, 2, 3, 4, 11], live := lk [(0, [0, 3, 4])] }
noncomputable abbrev dec25 := deR KK [.row .e105]
abbrev A25_0 : Type := List (C .e90) × List (C .e105) × Int
def s25_0  : A25_0 → St C := fun (x0_0, x0_1, x0_2) => { env := [(0, .one (.row .e90 x0_0)), (3, .one (.ref 100003 [])), (4, .one (.int .i64 x0_2))], objs := [(100003, .row .e105 x0_1 false)], base := 0 }
noncomputable def r25_0 (n : Nat)   (rec0 : A25_0 → Option (List (C .e105))) : A25_0 → Option (List (C .e105)) := fun (x0_0, x0_1, x0_2) =>
 cond (decide (x0_2 < (x0_0.length : Int)))
 (cond (decide (0 ≤ x0_2)) (Option.bind x0_0[x0_2.toNat]? fun e1 => Option.bind (G58 e1) fun r2 =>
 cond (decide (0 ≤ x0_2)) (cond (decide (x0_2 < (x0_1.length : Int))) (Option.bind x0_1[x0_2.toNat]? fun e3 => rec0 ((x0_0, x0_1.set x0_2.toNat r2, IntKind.i64.wrap (x0_2 + 1)))) none) none) none)
 (some (x0_1))
noncomputable def LP25_0 (n : Nat)   (x : A25_0) : Option (List (C .e105)) := lpN (r25_0 n  ) n x
noncomputable def MP25_0 (n : Nat)   (x : A25_0) : Option (List (C .e105)) := iter (fun rec S => run X25 (F25 n) (codeAt (bodyOf Tryz.f25) [1, 1, 0, 1, 0, 0]) 0 S (lopK rec (blkK 0 (seqK (run X25 (F25 n) (codeAt (bodyOf Tryz.f25) [1, 1, 1]) 0) (kTop X25 Tryz.f25 dec25))))) [0, 3, 4] n (s25_0  x)
theorem m25_0 (n : Nat)   (x : A25_0) : MP25_0 n   x = LP25_0 n   x := by
  refine iter_eq (s25_0 ) (r25_0 n  ) (fun rec0 x => ?_) n x
  obtain ⟨x0_0, x0_1, x0_2⟩ := x
  kernel_rfl
noncomputable def G25n (n : Nat) (a0 : List (C .e90)) : Option (List (C .e105)) :=
 cond (decide ((a0.length : Int) = (a0.length : Int))) (cond (decide (0 ≤ (a0.length : Int))) (cond (decide ((a0.length : Int) * 40 ≤ 140737488355328)) (LP25_0 n    ((a0, List.replicate (a0.length : Int).toNat (⟨⟨#[]⟩, []⟩ : C .e105), 0))) none) none) none
theorem t25 (n : Nat) (a0 : List (C .e90)) : runFn X25 (F25 n) Tryz.f25 [.one (.row .e90 a0)] dec25 = G25n n a0 := by
  refine Eq.trans (b :=
   cond (decide ((a0.length : Int) = (a0.length : Int))) (cond (decide (0 ≤ (a0.length : Int))) (cond (decide ((a0.length : Int) * 40 ≤ 140737488355328)) (MP25_0 n    ((a0, List.replicate (a0.length : Int).toNat (⟨⟨#[]⟩, []⟩ : C .e105), 0))) none) none) none) (by kernel_rfl) ?_
  simp only [G25n, m25_0]
noncomputable def G25 (a0 : List (C .e90)) : Option (List (C .e105)) := G25n fuel a0
noncomputable def con25 : Con C := mkC KK [.row .e90] [.row .e105] G25
theorem c25 : ConOk Tryz.prog KK 25 con25 := cO (mkQ ⟨c58, trivial⟩ trivial trivial : Cons Tryz.prog X25) (fn := Tryz.f25) (by kernel_rfl) (by kernel_rfl) (by kernel_rfl) (by kernel_rfl) (F25 fuel) (by kernel_rfl) (fun a0 => t25 fuel a0)
/-! ### f59 loop.example/wharfdesk/laws.toGateMend -/
noncomputable def X59 : Cx C := mkX [] [] [] [] 3866624
def F59 (n : Nat) : Cf := { N := n, keep := [0, 1, 2, 3], live := lk [] }
noncomputable abbrev dec59 := deR KK [.el .e110]
noncomputable def G59n (n : Nat) (a0 : VGateMend) : Option (VGateMend) :=
 some (a0)
theorem t59 (n : Nat) (a0 : VGateMend) : runFn X59 (F59 n) Tryz.f59 [.agg [.str a0.Kind, .str a0.Field, .str a0.When, .str a0.Is, .str a0.Put, .str a0.From]] dec59 = G59n n a0 := by
  kernel_rfl
noncomputable def G59 (a0 : VGateMend) : Option (VGateMend) := G59n fuel a0
noncomputable def con59 : Con C := mkC KK [.el .e93] [.el .e110] G59
theorem c59 : ConOk Tryz.prog KK 59 con59 := cO (mkQ trivial trivial trivial : Cons Tryz.prog X59) (fn := Tryz.f59) (by kernel_rfl) (by kernel_rfl) (by kernel_rfl) (by kernel_rfl) (F59 fuel) (by kernel_rfl) (fun a0 => t59 fuel a0)
/-! ### f26 loop.example/wharfdesk/laws.toGateMendS -/
noncomputable def X26 : Cx C := mkX [(59, con59)] [] [] [] 1703936
def F26 (n : Nat) : Cf := { N := n, keep := [0, 2, 3, 4, 11], live := lk [(0, [0, 3, 4])] }
noncomputable abbrev dec26 := deR KK [.row .e110]
abbrev A26_0 : Type := List (C .e93) × List (C .e110) × Int
def s26_0  : A26_0 → St C := fun (x0_0, x0_1, x0_2) => { env := [(0, .one (.row .e93 x0_0)), (3, .one (.ref 100003 [])), (4, .one (.int .i64 x0_2))], objs := [(100003, .row .e110 x0_1 false)], base := 0 }
noncomputable def r26_0 (n : Nat)   (rec0 : A26_0 → Option (List (C .e110))) : A26_0 → Option (List (C .e110)) := fun (x0_0, x0_1, x0_2) =>
 cond (decide (x0_2 < (x0_0.length : Int)))
 (cond (decide (0 ≤ x0_2)) (Option.bind x0_0[x0_2.toNat]? fun e1 => Option.bind (G59 e1) fun r2 =>
 cond (decide (0 ≤ x0_2)) (cond (decide (x0_2 < (x0_1.length : Int))) (Option.bind x0_1[x0_2.toNat]? fun e3 => rec0 ((x0_0, x0_1.set x0_2.toNat r2, IntKind.i64.wrap (x0_2 + 1)))) none) none) none)
 (some (x0_1))
noncomputable def LP26_0 (n : Nat)   (x : A26_0) : Option (List (C .e110)) := lpN (r26_0 n  ) n x
noncomputable def MP26_0 (n : Nat)   (x : A26_0) : Option (List (C .e110)) := iter (fun rec S => run X26 (F26 n) (codeAt (bodyOf Tryz.f26) [1, 1, 0, 1, 0, 0]) 0 S (lopK rec (blkK 0 (seqK (run X26 (F26 n) (codeAt (bodyOf Tryz.f26) [1, 1, 1]) 0) (kTop X26 Tryz.f26 dec26))))) [0, 3, 4] n (s26_0  x)
theorem m26_0 (n : Nat)   (x : A26_0) : MP26_0 n   x = LP26_0 n   x := by
  refine iter_eq (s26_0 ) (r26_0 n  ) (fun rec0 x => ?_) n x
  obtain ⟨x0_0, x0_1, x0_2⟩ := x
  kernel_rfl
noncomputable def G26n (n : Nat) (a0 : List (C .e93)) : Option (List (C .e110)) :=
 cond (decide ((a0.length : Int) = (a0.length : Int))) (cond (decide (0 ≤ (a0.length : Int))) (cond (decide ((a0.length : Int) * 96 ≤ 140737488355328)) (LP26_0 n    ((a0, List.replicate (a0.length : Int).toNat (⟨⟨#[]⟩, ⟨#[]⟩, ⟨#[]⟩, ⟨#[]⟩, ⟨#[]⟩, ⟨#[]⟩⟩ : C .e110), 0))) none) none) none
theorem t26 (n : Nat) (a0 : List (C .e93)) : runFn X26 (F26 n) Tryz.f26 [.one (.row .e93 a0)] dec26 = G26n n a0 := by
  refine Eq.trans (b :=
   cond (decide ((a0.length : Int) = (a0.length : Int))) (cond (decide (0 ≤ (a0.length : Int))) (cond (decide ((a0.length : Int) * 96 ≤ 140737488355328)) (MP26_0 n    ((a0, List.replicate (a0.length : Int).toNat (⟨⟨#[]⟩, ⟨#[]⟩, ⟨#[]⟩, ⟨#[]⟩, ⟨#[]⟩, ⟨#[]⟩⟩ : C .e110), 0))) none) none) none) (by kernel_rfl) ?_
  simp only [G26n, m26_0]
noncomputable def G26 (a0 : List (C .e93)) : Option (List (C .e110)) := G26n fuel a0
noncomputable def con26 : Con C := mkC KK [.row .e93] [.row .e110] G26
theorem c26 : ConOk Tryz.prog KK 26 con26 := cO (mkQ ⟨c59, trivial⟩ trivial trivial : Cons Tryz.prog X26) (fn := Tryz.f26) (by kernel_rfl) (by kernel_rfl) (by kernel_rfl) (by kernel_rfl) (F26 fuel) (by kernel_rfl) (fun a0 => t26 fuel a0)
/-! ### f60 loop.example/wharfdesk/laws.toGateTeam -/
noncomputable def X60 : Cx C := mkX [] [] [] [] 3932160
def F60 (n : Nat) : Cf := { N := n, keep := [0, 1, 2, 3], live := lk [] }
noncomputable abbrev dec60 := deR KK [.el .e112]
noncomputable def G60n (n : Nat) (a0 : VGateTeam) : Option (VGateTeam) :=
 some (a0)
theorem t60 (n : Nat) (a0 : VGateTeam) : runFn X60 (F60 n) Tryz.f60 [.agg [.str a0.Name, .str a0.Over]] dec60 = G60n n a0 := by
  kernel_rfl
noncomputable def G60 (a0 : VGateTeam) : Option (VGateTeam) := G60n fuel a0
noncomputable def con60 : Con C := mkC KK [.el .e96] [.el .e112] G60
theorem c60 : ConOk Tryz.prog KK 60 con60 := cO (mkQ trivial trivial trivial : Cons Tryz.prog X60) (fn := Tryz.f60) (by kernel_rfl) (by kernel_rfl) (by kernel_rfl) (by kernel_rfl) (F60 fuel) (by kernel_rfl) (fun a0 => t60 fuel a0)
/-! ### f27 loop.example/wharfdesk/laws.toGateTeamS -/
noncomputable def X27 : Cx C := mkX [(60, con60)] [] [] [] 1769472
def F27 (n : Nat) : Cf := { N := n, keep := [0, 2, 3, 4, 11], live := lk [(0, [0, 3, 4])] }
noncomputable abbrev dec27 := deR KK [.row .e112]
abbrev A27_0 : Type := List (C .e96) × List (C .e112) × Int
def s27_0  : A27_0 → St C := fun (x0_0, x0_1, x0_2) => { env := [(0, .one (.row .e96 x0_0)), (3, .one (.ref 100003 [])), (4, .one (.int .i64 x0_2))], objs := [(100003, .row .e112 x0_1 false)], base := 0 }
noncomputable def r27_0 (n : Nat)   (rec0 : A27_0 → Option (List (C .e112))) : A27_0 → Option (List (C .e112)) := fun (x0_0, x0_1, x0_2) =>
 cond (decide (x0_2 < (x0_0.length : Int)))
 (cond (decide (0 ≤ x0_2)) (Option.bind x0_0[x0_2.toNat]? fun e1 => Option.bind (G60 e1) fun r2 =>
 cond (decide (0 ≤ x0_2)) (cond (decide (x0_2 < (x0_1.length : Int))) (Option.bind x0_1[x0_2.toNat]? fun e3 => rec0 ((x0_0, x0_1.set x0_2.toNat r2, IntKind.i64.wrap (x0_2 + 1)))) none) none) none)
 (some (x0_1))
noncomputable def LP27_0 (n : Nat)   (x : A27_0) : Option (List (C .e112)) := lpN (r27_0 n  ) n x
noncomputable def MP27_0 (n : Nat)   (x : A27_0) : Option (List (C .e112)) := iter (fun rec S => run X27 (F27 n) (codeAt (bodyOf Tryz.f27) [1, 1, 0, 1, 0, 0]) 0 S (lopK rec (blkK 0 (seqK (run X27 (F27 n) (codeAt (bodyOf Tryz.f27) [1, 1, 1]) 0) (kTop X27 Tryz.f27 dec27))))) [0, 3, 4] n (s27_0  x)
theorem m27_0 (n : Nat)   (x : A27_0) : MP27_0 n   x = LP27_0 n   x := by
  refine iter_eq (s27_0 ) (r27_0 n  ) (fun rec0 x => ?_) n x
  obtain ⟨x0_0, x0_1, x0_2⟩ := x
  kernel_rfl
noncomputable def G27n (n : Nat) (a0 : List (C .e96)) : Option (List (C .e112)) :=
 cond (decide ((a0.length : Int) = (a0.length : Int))) (cond (decide (0 ≤ (a0.length : Int))) (cond (decide ((a0.length : Int) * 32 ≤ 140737488355328)) (LP27_0 n    ((a0, List.replicate (a0.length : Int).toNat (⟨⟨#[]⟩, ⟨#[]⟩⟩ : C .e112), 0))) none) none) none
theorem t27 (n : Nat) (a0 : List (C .e96)) : runFn X27 (F27 n) Tryz.f27 [.one (.row .e96 a0)] dec27 = G27n n a0 := by
  refine Eq.trans (b :=
   cond (decide ((a0.length : Int) = (a0.length : Int))) (cond (decide (0 ≤ (a0.length : Int))) (cond (decide ((a0.length : Int) * 32 ≤ 140737488355328)) (MP27_0 n    ((a0, List.replicate (a0.length : Int).toNat (⟨⟨#[]⟩, ⟨#[]⟩⟩ : C .e112), 0))) none) none) none) (by kernel_rfl) ?_
  simp only [G27n, m27_0]
noncomputable def G27 (a0 : List (C .e96)) : Option (List (C .e112)) := G27n fuel a0
noncomputable def con27 : Con C := mkC KK [.row .e96] [.row .e112] G27
theorem c27 : ConOk Tryz.prog KK 27 con27 := cO (mkQ ⟨c60, trivial⟩ trivial trivial : Cons Tryz.prog X27) (fn := Tryz.f27) (by kernel_rfl) (by kernel_rfl) (by kernel_rfl) (by kernel_rfl) (F27 fuel) (by kernel_rfl) (fun a0 => t27 fuel a0)
/-! ### f8 loop.example/wharfdesk/laws.toGateLaw -/
noncomputable def X8 : Cx C := mkX [(25, con25), (26, con26), (27, con27)] [] [] [] 524288
def F8 (n : Nat) : Cf := { N := n, keep := [0, 1, 2, 3], live := lk [] }
noncomputable abbrev dec8 := deR KK [.el .e40]
noncomputable def G8n (n : Nat) (a0 : VGateLaw) : Option (VGateLaw) :=
 Option.bind (G25 a0.Shapes) fun r1 =>
 Option.bind (G26 a0.Mends) fun r2 =>
 Option.bind (G27 a0.Teams) fun r3 =>
 some ((⟨r1, r2, r3⟩ : VGateLaw))
theorem t8 (n : Nat) (a0 : VGateLaw) : runFn X8 (F8 n) Tryz.f8 [.agg [.row .e90 a0.Shapes, .row .e93 a0.Mends, .row .e96 a0.Teams]] dec8 = G8n n a0 := by
  kernel_rfl
noncomputable def G8 (a0 : VGateLaw) : Option (VGateLaw) := G8n fuel a0
noncomputable def con8 : Con C := mkC KK [.el .e26] [.el .e40] G8
theorem c8 : ConOk Tryz.prog KK 8 con8 := cO (mkQ ⟨c25, c26, c27, trivial⟩ trivial trivial : Cons Tryz.prog X8) (fn := Tryz.f8) (by kernel_rfl) (by kernel_rfl) (by kernel_rfl) (by kernel_rfl) (F8 fuel) (by kernel_rfl) (fun a0 => t8 fuel a0)
/-! ### f84 loop.example/wharfdesk/impl.nameByte -/
noncomputable def X84 : Cx C := mkX [] [] [] [] 5505024
def F84 (n : Nat) : Cf := { N := n, keep := [0, 2], live := lk [] }
noncomputable abbrev dec84 := deR KK [.bool]
noncomputable def G84n (n : Nat) (a0 : Int) : Option (Bool) :=
 cond (decide (a0 ≥ 97))
 (cond (decide (a0 ≤ 122))
 (some (true))
 (cond (decide (a0 ≥ 48))
 (cond (decide (a0 ≤ 57))
 (some (true))
 (some (a0 == 45)))
 (some (a0 == 45))))
 (cond (decide (a0 ≥ 48))
 (cond (decide (a0 ≤ 57))
 (some (true))
 (some (a0 == 45)))
 (some (a0 == 45)))
theorem t84 (n : Nat) (a0 : Int) : runFn X84 (F84 n) Tryz.f84 [.one (.int .u8 a0)] dec84 = G84n n a0 := by
  kernel_rfl
noncomputable def G84 (a0 : Int) : Option (Bool) := G84n fuel a0
noncomputable def con84 : Con C := mkC KK [.int .u8] [.bool] G84
theorem c84 : ConOk Tryz.prog KK 84 con84 := cO (mkQ trivial trivial trivial : Cons Tryz.prog X84) (fn := Tryz.f84) (by kernel_rfl) (by kernel_rfl) (by kernel_rfl) (by kernel_rfl) (F84 fuel) (by kernel_rfl) (fun a0 => t84 fuel a0)
/-! ### f64 loop.example/wharfdesk/impl.nameBytes -/
noncomputable def X64 : Cx C := mkX [(84, con84)] [] [] [] 4194304
def F64 (n : Nat) : Cf := { N := n, keep := [0, 2, 3, 5, 6, 7, 13], live := lk [(0, [0, 5, 6])] }
noncomputable abbrev dec64 := deR KK [.bool]
abbrev A64_0 : Type := ByteArray × Int × Int
def s64_0  : A64_0 → St C := fun (x0_0, x0_1, x0_2) => { env := [(0, .one (.str x0_0)), (5, .one (.int .i64 x0_1)), (6, .one (.int .i64 x0_2))], objs := [], base := 0 }
noncomputable def r64_0 (n : Nat)   (rec0 : A64_0 → Option (Bool)) : A64_0 → Option (Bool) := fun (x0_0, x0_1, x0_2) =>
 cond (decide (x0_2 < x0_1))
 (cond (decide (0 ≤ x0_2)) (cond (decide (x0_2 < (x0_0.size : Int))) (Option.bind (G84 (sbt x0_0 x0_2)) fun r1 =>
 cond (!r1)
 (some (false))
 (rec0 ((x0_0, x0_1, IntKind.i64.wrap (x0_2 + 1))))) none) none)
 (some (true))
noncomputable def LP64_0 (n : Nat)   (x : A64_0) : Option (Bool) := lpN (r64_0 n  ) n x
noncomputable def MP64_0 (n : Nat)   (x : A64_0) : Option (Bool) := iter (fun rec S => run X64 (F64 n) (codeAt (bodyOf Tryz.f64) [1, 0, 1, 0, 0]) 0 S (lopK rec (blkK 0 (seqK (run X64 (F64 n) (codeAt (bodyOf Tryz.f64) [1, 1]) 0) (kTop X64 Tryz.f64 dec64))))) [0, 5, 6] n (s64_0  x)
theorem m64_0 (n : Nat)   (x : A64_0) : MP64_0 n   x = LP64_0 n   x := by
  refine iter_eq (s64_0 ) (r64_0 n  ) (fun rec0 x => ?_) n x
  obtain ⟨x0_0, x0_1, x0_2⟩ := x
  kernel_rfl
noncomputable def G64n (n : Nat) (a0 : ByteArray) : Option (Bool) :=
 LP64_0 n    ((a0, (a0.size : Int), 0))
theorem t64 (n : Nat) (a0 : ByteArray) : runFn X64 (F64 n) Tryz.f64 [.one (.str a0)] dec64 = G64n n a0 := by
  refine Eq.trans (b :=
   MP64_0 n    ((a0, (a0.size : Int), 0))) (by kernel_rfl) ?_
  simp only [G64n, m64_0]
noncomputable def G64 (a0 : ByteArray) : Option (Bool) := G64n fuel a0
noncomputable def con64 : Con C := mkC KK [.str] [.bool] G64
theorem c64 : ConOk Tryz.prog KK 64 con64 := cO (mkQ ⟨c84, trivial⟩ trivial trivial : Cons Tryz.prog X64) (fn := Tryz.f64) (by kernel_rfl) (by kernel_rfl) (by kernel_rfl) (by kernel_rfl) (F64 fuel) (by kernel_rfl) (fun a0 => t64 fuel a0)
/-! ### f31 loop.example/wharfdesk/impl.isName -/
noncomputable def X31 : Cx C := mkX [(64, con64)] [] [] [] 2031616
def F31 (n : Nat) : Cf := { N := n, keep := [0, 2], live := lk [] }
noncomputable abbrev dec31 := deR KK [.bool]
noncomputable def G31n (n : Nat) (a0 : ByteArray) : Option (Bool) :=
 cond (decide ((a0.size : Int) ≥ 1))
 (cond (decide ((a0.size : Int) ≤ 16))
 (Option.bind (G64 a0) fun r1 =>
 some (r1))
 (some (false)))
 (some (false))
theorem t31 (n : Nat) (a0 : ByteArray) : runFn X31 (F31 n) Tryz.f31 [.one (.str a0)] dec31 = G31n n a0 := by
  kernel_rfl
noncomputable def G31 (a0 : ByteArray) : Option (Bool) := G31n fuel a0
noncomputable def con31 : Con C := mkC KK [.str] [.bool] G31
theorem c31 : ConOk Tryz.prog KK 31 con31 := cO (mkQ ⟨c64, trivial⟩ trivial trivial : Cons Tryz.prog X31) (fn := Tryz.f31) (by kernel_rfl) (by kernel_rfl) (by kernel_rfl) (by kernel_rfl) (F31 fuel) (by kernel_rfl) (fun a0 => t31 fuel a0)
/-! ### f151 loop.example/wharfdesk/impl.decimal -/
noncomputable def X151 : Cx C := mkX [] [] [] [] 9895936
def F151 (n : Nat) : Cf := { N := n, keep := [0, 2, 3, 4, 5, 23, 25, 26, 27, 38], live := lk [(0, [0, 4, 25, 26])] }
noncomputable abbrev dec151 := deR KK [.int .i64, .bool]
abbrev A151_0 : Type := ByteArray × Int × Int × Int
def s151_0  : A151_0 → St C := fun (x0_0, x0_1, x0_2, x0_3) => { env := [(0, .one (.str x0_0)), (4, .one (.int .i64 x0_1)), (25, .one (.int .i64 x0_2)), (26, .one (.int .i64 x0_3))], objs := [], base := 0 }
noncomputable def r151_0 (n : Nat)   (rec0 : A151_0 → Option (Int × Bool)) : A151_0 → Option (Int × Bool) := fun (x0_0, x0_1, x0_2, x0_3) =>
 cond (decide (x0_3 < x0_2))
 (cond (decide (0 ≤ x0_3)) (cond (decide (x0_3 < (x0_0.size : Int))) (cond (decide ((sbt x0_0 x0_3) < 48))
 (some (0, false))
 (cond (decide (0 ≤ x0_3)) (cond (decide (x0_3 < (x0_0.size : Int))) (cond (decide ((sbt x0_0 x0_3) > 57))
 (some (0, false))
 (cond (decide (0 ≤ x0_3)) (cond (decide (x0_3 < (x0_0.size : Int))) (rec0 ((x0_0, IntKind.i64.wrap ((IntKind.i64.wrap (x0_1 * 10)) + (IntKind.i64.wrap (IntKind.u8.wrap ((sbt x0_0 x0_3) - 48)))), x0_2, IntKind.i64.wrap (x0_3 + 1)))) none) none)) none) none)) none) none)
 (some (x0_1, true))
noncomputable def LP151_0 (n : Nat)   (x : A151_0) : Option (Int × Bool) := lpN (r151_0 n  ) n x
noncomputable def MP151_0 (n : Nat)   (x : A151_0) : Option (Int × Bool) := iter (fun rec S => run X151 (F151 n) (codeAt (bodyOf Tryz.f151) [1, 1, 1, 0, 1, 0, 0]) 0 S (lopK rec (blkK 0 (seqK (run X151 (F151 n) (codeAt (bodyOf Tryz.f151) [1, 1, 1, 1]) 0) (kTop X151 Tryz.f151 dec151))))) [0, 4, 25, 26] n (s151_0  x)
theorem m151_0 (n : Nat)   (x : A151_0) : MP151_0 n   x = LP151_0 n   x := by
  refine iter_eq (s151_0 ) (r151_0 n  ) (fun rec0 x => ?_) n x
  obtain ⟨x0_0, x0_1, x0_2, x0_3⟩ := x
  kernel_rfl
noncomputable def G151n (n : Nat) (a0 : ByteArray) : Option (Int × Bool) :=
 cond (decide ((a0.size : Int) < 1))
 (some (0, false))
 (cond (decide ((a0.size : Int) > 7))
 (some (0, false))
 (cond (decide (0 ≤ 0)) (cond (decide (0 < (a0.size : Int))) (cond ((sbt a0 0) == 48)
 (cond (decide ((a0.size : Int) > 1))
 (some (0, false))
 (LP151_0 n    ((a0, 0, (a0.size : Int), 0))))
 (LP151_0 n    ((a0, 0, (a0.size : Int), 0)))) none) none))
theorem t151 (n : Nat) (a0 : ByteArray) : runFn X151 (F151 n) Tryz.f151 [.one (.str a0)] dec151 = G151n n a0 := by
  refine Eq.trans (b :=
   cond (decide ((a0.size : Int) < 1))
   (some (0, false))
   (cond (decide ((a0.size : Int) > 7))
   (some (0, false))
   (cond (decide (0 ≤ 0)) (cond (decide (0 < (a0.size : Int))) (cond ((sbt a0 0) == 48)
   (cond (decide ((a0.size : Int) > 1))
   (some (0, false))
   (MP151_0 n    ((a0, 0, (a0.size : Int), 0))))
   (MP151_0 n    ((a0, 0, (a0.size : Int), 0)))) none) none))) (by kernel_rfl) ?_
  simp only [G151n, m151_0]
noncomputable def G151 (a0 : ByteArray) : Option (Int × Bool) := G151n fuel a0
noncomputable def con151 : Con C := mkC KK [.str] [.int .i64, .bool] G151
theorem c151 : ConOk Tryz.prog KK 151 con151 := cO (mkQ trivial trivial trivial : Cons Tryz.prog X151) (fn := Tryz.f151) (by kernel_rfl) (by kernel_rfl) (by kernel_rfl) (by kernel_rfl) (F151 fuel) (by kernel_rfl) (fun a0 => t151 fuel a0)
/-! ### f94 loop.example/wharfdesk/impl.ascendingNames -/
noncomputable def X94 : Cx C := mkX [(31, con31)] [] [] [] 6160384
def F94 (n : Nat) : Cf := { N := n, keep := [0, 2, 3, 4, 5, 6, 7, 8, 27], live := lk [(0, [0, 5, 6, 7])] }
noncomputable abbrev dec94 := deR KK [.bool]
abbrev A94_0 : Type := List (C .e9) × List (C .e9) × Int × Int
def s94_0  : A94_0 → St C := fun (x0_0, x0_1, x0_2, x0_3) => { env := [(0, .one (.row .e9 x0_0)), (5, .one (.row .e9 x0_1)), (6, .one (.int .i64 x0_2)), (7, .one (.int .i64 x0_3))], objs := [], base := 0 }
noncomputable def r94_0 (n : Nat)   (rec0 : A94_0 → Option (Bool)) : A94_0 → Option (Bool) := fun (x0_0, x0_1, x0_2, x0_3) =>
 cond (decide (x0_3 < x0_2))
 (cond (decide (0 ≤ x0_3)) (Option.bind x0_1[x0_3.toNat]? fun e1 => Option.bind (G31 e1) fun r2 =>
 cond (!r2)
 (some (false))
 (cond (decide (x0_3 > 0))
 (cond (decide (0 ≤ IntKind.i64.wrap (x0_3 - 1))) (Option.bind x0_0[(IntKind.i64.wrap (x0_3 - 1)).toNat]? fun e3 => cond (!slt e3 e1)
 (some (false))
 (rec0 ((x0_0, x0_1, x0_2, IntKind.i64.wrap (x0_3 + 1))))) none)
 (rec0 ((x0_0, x0_1, x0_2, IntKind.i64.wrap (x0_3 + 1)))))) none)
 (some (true))
noncomputable def LP94_0 (n : Nat)   (x : A94_0) : Option (Bool) := lpN (r94_0 n  ) n x
noncomputable def MP94_0 (n : Nat)   (x : A94_0) : Option (Bool) := iter (fun rec S => run X94 (F94 n) (codeAt (bodyOf Tryz.f94) [1, 0, 1, 0, 0]) 0 S (lopK rec (blkK 0 (seqK (run X94 (F94 n) (codeAt (bodyOf Tryz.f94) [1, 1]) 0) (kTop X94 Tryz.f94 dec94))))) [0, 5, 6, 7] n (s94_0  x)
theorem m94_0 (n : Nat)   (x : A94_0) : MP94_0 n   x = LP94_0 n   x := by
  refine iter_eq (s94_0 ) (r94_0 n  ) (fun rec0 x => ?_) n x
  obtain ⟨x0_0, x0_1, x0_2, x0_3⟩ := x
  kernel_rfl
noncomputable def G94n (n : Nat) (a0 : List (C .e9)) : Option (Bool) :=
 LP94_0 n    ((a0, a0, (a0.length : Int), 0))
theorem t94 (n : Nat) (a0 : List (C .e9)) : runFn X94 (F94 n) Tryz.f94 [.one (.row .e9 a0)] dec94 = G94n n a0 := by
  refine Eq.trans (b :=
   MP94_0 n    ((a0, a0, (a0.length : Int), 0))) (by kernel_rfl) ?_
  simp only [G94n, m94_0]
noncomputable def G94 (a0 : List (C .e9)) : Option (Bool) := G94n fuel a0
noncomputable def con94 : Con C := mkC KK [.row .e9] [.bool] G94
theorem c94 : ConOk Tryz.prog KK 94 con94 := cO (mkQ ⟨c31, trivial⟩ trivial trivial : Cons Tryz.prog X94) (fn := Tryz.f94) (by kernel_rfl) (by kernel_rfl) (by kernel_rfl) (by kernel_rfl) (F94 fuel) (by kernel_rfl) (fun a0 => t94 fuel a0)
/-! ### f148 (loop.example/wharfdesk/impl.numberField).clean -/
noncomputable def X148 : Cx C := mkX [] [] [] [] 9699328
def F148 (n : Nat) : Cf := { N := n, keep := [0, 1, 2], live := lk [] }
noncomputable abbrev dec148 := deR KK [.bool]
noncomputable def G148n (n : Nat) (a0 : VnumberField) : Option (Bool) :=
 cond ((a0.GateField_Words.length : Int) == 0)
 (cond (decide (a0.GateField_To = (⟨#[]⟩ : ByteArray)))
 (some (a0.GateField_Role == 0))
 (some (false)))
 (some (false))
theorem t148 (n : Nat) (a0 : VnumberField) : runFn X148 (F148 n) Tryz.f148 [.agg [.str a0.GateField_Name, .int .i64 a0.GateField_Kind, .int .i64 a0.GateField_Least, .int .i64 a0.GateField_Most, .row .e9 a0.GateField_Words, .str a0.GateField_To, .int .i64 a0.GateField_Role, .bool a0.GateField_Must, .bool a0.GateField_Fixed, .str a0.GateField_Default, .str a0.GateField_Weighs]] dec148 = G148n n a0 := by
  kernel_rfl
noncomputable def G148 (a0 : VnumberField) : Option (Bool) := G148n fuel a0
noncomputable def con148 : Con C := mkC KK [.el .e166] [.bool] G148
theorem c148 : ConOk Tryz.prog KK 148 con148 := cO (mkQ trivial trivial trivial : Cons Tryz.prog X148) (fn := Tryz.f148) (by kernel_rfl) (by kernel_rfl) (by kernel_rfl) (by kernel_rfl) (F148 fuel) (by kernel_rfl) (fun a0 => t148 fuel a0)
/-! ### f149 (loop.example/wharfdesk/impl.numberField).fits -/
noncomputable def X149 : Cx C := mkX [(151, con151)] [] [] [] 9764864
def F149 (n : Nat) : Cf := { N := n, keep := [0, 1, 2, 4, 5, 6], live := lk [] }
noncomputable abbrev dec149 := deR KK [.bool]
noncomputable def G149n (n : Nat) (a0 : VnumberField) (a1 : ByteArray) : Option (Bool) :=
 Option.bind (G151 a1) fun r1 =>
 cond r1.2
 (cond (decide (r1.1 ≥ a0.GateField_Least))
 (some (decide (r1.1 ≤ a0.GateField_Most)))
 (some (false)))
 (some (false))
theorem t149 (n : Nat) (a0 : VnumberField) (a1 : ByteArray) : runFn X149 (F149 n) Tryz.f149 [.agg [.str a0.GateField_Name, .int .i64 a0.GateField_Kind, .int .i64 a0.GateField_Least, .int .i64 a0.GateField_Most, .row .e9 a0.GateField_Words, .str a0.GateField_To, .int .i64 a0.GateField_Role, .bool a0.GateField_Must, .bool a0.GateField_Fixed, .str a0.GateField_Default, .str a0.GateField_Weighs], .one (.str a1)] dec149 = G149n n a0 a1 := by
  kernel_rfl
noncomputable def G149 (a0 : VnumberField) (a1 : ByteArray) : Option (Bool) := G149n fuel a0 a1
noncomputable def con149 : Con C := mkC KK [.el .e166, .str] [.bool] G149
theorem c149 : ConOk Tryz.prog KK 149 con149 := cO (mkQ ⟨c151, trivial⟩ trivial trivial : Cons Tryz.prog X149) (fn := Tryz.f149) (by kernel_rfl) (by kernel_rfl) (by kernel_rfl) (by kernel_rfl) (F149 fuel) (by kernel_rfl) (fun a0 a1 => t149 fuel a0 a1)
/-! ### f150 (loop.example/wharfdesk/impl.numberField).sound -/
noncomputable def X150 : Cx C := mkX [(31, con31)] [] [] [] 9830400
def F150 (n : Nat) : Cf := { N := n, keep := [0, 2, 4], live := lk [] }
noncomputable abbrev dec150 := deR KK [.bool]
noncomputable def G150n (n : Nat) (a0 : VnumberField) (a1 : List (C .e9)) : Option (Bool) :=
 cond (decide (a0.GateField_Least ≥ 0))
 (cond (decide (a0.GateField_Least ≤ a0.GateField_Most))
 (cond (decide (a0.GateField_Most ≤ 1000000))
 (cond (decide (a0.GateField_Weighs = (⟨#[]⟩ : ByteArray)))
 (some (true))
 (Option.bind (G31 a0.GateField_Weighs) fun r1 =>
 some (r1)))
 (some (false)))
 (some (false)))
 (some (false))
theorem t150 (n : Nat) (a0 : VnumberField) (a1 : List (C .e9)) : runFn X150 (F150 n) Tryz.f150 [.agg [.str a0.GateField_Name, .int .i64 a0.GateField_Kind, .int .i64 a0.GateField_Least, .int .i64 a0.GateField_Most, .row .e9 a0.GateField_Words, .str a0.GateField_To, .int .i64 a0.GateField_Role, .bool a0.GateField_Must, .bool a0.GateField_Fixed, .str a0.GateField_Default, .str a0.GateField_Weighs], .one (.row .e9 a1)] dec150 = G150n n a0 a1 := by
  kernel_rfl
noncomputable def G150 (a0 : VnumberField) (a1 : List (C .e9)) : Option (Bool) := G150n fuel a0 a1
noncomputable def con150 : Con C := mkC KK [.el .e166, .row .e9] [.bool] G150
theorem c150 : ConOk Tryz.prog KK 150 con150 := cO (mkQ ⟨c31, trivial⟩ trivial trivial : Cons Tryz.prog X150) (fn := Tryz.f150) (by kernel_rfl) (by kernel_rfl) (by kernel_rfl) (by kernel_rfl) (F150 fuel) (by kernel_rfl) (fun a0 a1 => t150 fuel a0 a1)
/-! ### f152 (loop.example/wharfdesk/impl.wordField).clean -/
noncomputable def X152 : Cx C := mkX [] [] [] [] 9961472
def F152 (n : Nat) : Cf := { N := n, keep := [0, 1, 2], live := lk [] }
noncomputable abbrev dec152 := deR KK [.bool]
noncomputable def G152n (n : Nat) (a0 : VwordField) : Option (Bool) :=
 cond (a0.GateField_Least == 0)
 (cond (a0.GateField_Most == 0)
 (cond (decide (a0.GateField_To = (⟨#[]⟩ : ByteArray)))
 (cond (a0.GateField_Role == 0)
 (some (decide (a0.GateField_Weighs = (⟨#[]⟩ : ByteArray))))
 (some (false)))
 (some (false)))
 (some (false)))
 (some (false))
theorem t152 (n : Nat) (a0 : VwordField) : runFn X152 (F152 n) Tryz.f152 [.agg [.str a0.GateField_Name, .int .i64 a0.GateField_Kind, .int .i64 a0.GateField_Least, .int .i64 a0.GateField_Most, .row .e9 a0.GateField_Words, .str a0.GateField_To, .int .i64 a0.GateField_Role, .bool a0.GateField_Must, .bool a0.GateField_Fixed, .str a0.GateField_Default, .str a0.GateField_Weighs]] dec152 = G152n n a0 := by
  kernel_rfl
noncomputable def G152 (a0 : VwordField) : Option (Bool) := G152n fuel a0
noncomputable def con152 : Con C := mkC KK [.el .e168] [.bool] G152
theorem c152 : ConOk Tryz.prog KK 152 con152 := cO (mkQ trivial trivial trivial : Cons Tryz.prog X152) (fn := Tryz.f152) (by kernel_rfl) (by kernel_rfl) (by kernel_rfl) (by kernel_rfl) (F152 fuel) (by kernel_rfl) (fun a0 => t152 fuel a0)
/-! ### f153 (loop.example/wharfdesk/impl.wordField).fits -/
noncomputable def X153 : Cx C := mkX [] [] [] [] 10027008
def F153 (n : Nat) : Cf := { N := n, keep := [0, 1, 2, 4, 6, 9, 10, 11, 12, 17], live := lk [(0, [1, 9, 10, 11])] }
noncomputable abbrev dec153 := deR KK [.bool]
abbrev A153_0 : Type := ByteArray × List (C .e9) × Int × Int
def s153_0  : A153_0 → St C := fun (x0_0, x0_1, x0_2, x0_3) => { env := [(1, .one (.str x0_0)), (9, .one (.row .e9 x0_1)), (10, .one (.int .i64 x0_2)), (11, .one (.int .i64 x0_3))], objs := [], base := 0 }
noncomputable def r153_0 (n : Nat)   (rec0 : A153_0 → Option (Bool)) : A153_0 → Option (Bool) := fun (x0_0, x0_1, x0_2, x0_3) =>
 cond (decide (x0_3 < x0_2))
 (cond (decide (0 ≤ x0_3)) (Option.bind x0_1[x0_3.toNat]? fun e1 => cond (decide (e1 = x0_0))
 (some (true))
 (rec0 ((x0_0, x0_1, x0_2, IntKind.i64.wrap (x0_3 + 1))))) none)
 (some (false))
noncomputable def LP153_0 (n : Nat)   (x : A153_0) : Option (Bool) := lpN (r153_0 n  ) n x
noncomputable def MP153_0 (n : Nat)   (x : A153_0) : Option (Bool) := iter (fun rec S => run X153 (F153 n) (codeAt (bodyOf Tryz.f153) [1, 0, 1, 0, 0]) 0 S (lopK rec (blkK 0 (seqK (run X153 (F153 n) (codeAt (bodyOf Tryz.f153) [1, 1]) 0) (kTop X153 Tryz.f153 dec153))))) [1, 9, 10, 11] n (s153_0  x)
theorem m153_0 (n : Nat)   (x : A153_0) : MP153_0 n   x = LP153_0 n   x := by
  refine iter_eq (s153_0 ) (r153_0 n  ) (fun rec0 x => ?_) n x
  obtain ⟨x0_0, x0_1, x0_2, x0_3⟩ := x
  kernel_rfl
noncomputable def G153n (n : Nat) (a0 : VwordField) (a1 : ByteArray) : Option (Bool) :=
 LP153_0 n    ((a1, a0.GateField_Words, (a0.GateField_Words.length : Int), 0))
theorem t153 (n : Nat) (a0 : VwordField) (a1 : ByteArray) : runFn X153 (F153 n) Tryz.f153 [.agg [.str a0.GateField_Name, .int .i64 a0.GateField_Kind, .int .i64 a0.GateField_Least, .int .i64 a0.GateField_Most, .row .e9 a0.GateField_Words, .str a0.GateField_To, .int .i64 a0.GateField_Role, .bool a0.GateField_Must, .bool a0.GateField_Fixed, .str a0.GateField_Default, .str a0.GateField_Weighs], .one (.str a1)] dec153 = G153n n a0 a1 := by
  refine Eq.trans (b :=
   MP153_0 n    ((a1, a0.GateField_Words, (a0.GateField_Words.length : Int), 0))) (by kernel_rfl) ?_
  simp only [G153n, m153_0]
noncomputable def G153 (a0 : VwordField) (a1 : ByteArray) : Option (Bool) := G153n fuel a0 a1
noncomputable def con153 : Con C := mkC KK [.el .e168, .str] [.bool] G153
theorem c153 : ConOk Tryz.prog KK 153 con153 := cO (mkQ trivial trivial trivial : Cons Tryz.prog X153) (fn := Tryz.f153) (by kernel_rfl) (by kernel_rfl) (by kernel_rfl) (by kernel_rfl) (F153 fuel) (by kernel_rfl) (fun a0 a1 => t153 fuel a0 a1)
/-! ### f154 (loop.example/wharfdesk/impl.wordField).sound -/
noncomputable def X154 : Cx C := mkX [(94, con94)] [] [] [] 10092544
def F154 (n : Nat) : Cf := { N := n, keep := [0, 2, 4], live := lk [] }
noncomputable abbrev dec154 := deR KK [.bool]
noncomputable def G154n (n : Nat) (a0 : VwordField) (a1 : List (C .e9)) : Option (Bool) :=
 cond (decide ((a0.GateField_Words.length : Int) ≥ 1))
 (cond (decide ((a0.GateField_Words.length : Int) ≤ 6))
 (Option.bind (G94 a0.GateField_Words) fun r1 =>
 some (r1))
 (some (false)))
 (some (false))
theorem t154 (n : Nat) (a0 : VwordField) (a1 : List (C .e9)) : runFn X154 (F154 n) Tryz.f154 [.agg [.str a0.GateField_Name, .int .i64 a0.GateField_Kind, .int .i64 a0.GateField_Least, .int .i64 a0.GateField_Most, .row .e9 a0.GateField_Words, .str a0.GateField_To, .int .i64 a0.GateField_Role, .bool a0.GateField_Must, .bool a0.GateField_Fixed, .str a0.GateField_Default, .str a0.GateField_Weighs], .one (.row .e9 a1)] dec154 = G154n n a0 a1 := by
  kernel_rfl
noncomputable def G154 (a0 : VwordField) (a1 : List (C .e9)) : Option (Bool) := G154n fuel a0 a1
noncomputable def con154 : Con C := mkC KK [.el .e168, .row .e9] [.bool] G154
theorem c154 : ConOk Tryz.prog KK 154 con154 := cO (mkQ ⟨c94, trivial⟩ trivial trivial : Cons Tryz.prog X154) (fn := Tryz.f154) (by kernel_rfl) (by kernel_rfl) (by kernel_rfl) (by kernel_rfl) (F154 fuel) (by kernel_rfl) (fun a0 a1 => t154 fuel a0 a1)
/-! ### f155 (loop.example/wharfdesk/impl.textField).clean -/
noncomputable def X155 : Cx C := mkX [] [] [] [] 10158080
def F155 (n : Nat) : Cf := { N := n, keep := [0, 1, 2], live := lk [] }
noncomputable abbrev dec155 := deR KK [.bool]
noncomputable def G155n (n : Nat) (a0 : VtextField) : Option (Bool) :=
 cond ((a0.GateField_Words.length : Int) == 0)
 (cond (decide (a0.GateField_To = (⟨#[]⟩ : ByteArray)))
 (cond (a0.GateField_Role == 0)
 (some (decide (a0.GateField_Weighs = (⟨#[]⟩ : ByteArray))))
 (some (false)))
 (some (false)))
 (some (false))
theorem t155 (n : Nat) (a0 : VtextField) : runFn X155 (F155 n) Tryz.f155 [.agg [.str a0.GateField_Name, .int .i64 a0.GateField_Kind, .int .i64 a0.GateField_Least, .int .i64 a0.GateField_Most, .row .e9 a0.GateField_Words, .str a0.GateField_To, .int .i64 a0.GateField_Role, .bool a0.GateField_Must, .bool a0.GateField_Fixed, .str a0.GateField_Default, .str a0.GateField_Weighs]] dec155 = G155n n a0 := by
  kernel_rfl
noncomputable def G155 (a0 : VtextField) : Option (Bool) := G155n fuel a0
noncomputable def con155 : Con C := mkC KK [.el .e169] [.bool] G155
theorem c155 : ConOk Tryz.prog KK 155 con155 := cO (mkQ trivial trivial trivial : Cons Tryz.prog X155) (fn := Tryz.f155) (by kernel_rfl) (by kernel_rfl) (by kernel_rfl) (by kernel_rfl) (F155 fuel) (by kernel_rfl) (fun a0 => t155 fuel a0)
/-! ### f156 (loop.example/wharfdesk/impl.textField).fits -/
noncomputable def X156 : Cx C := mkX [] [] [] [] 10223616
def F156 (n : Nat) : Cf := { N := n, keep := [0, 1, 2, 4, 5, 19, 21, 22, 23, 34], live := lk [(0, [1, 21, 22])] }
noncomputable abbrev dec156 := deR KK [.bool]
abbrev A156_0 : Type := ByteArray × Int × Int
def s156_0  : A156_0 → St C := fun (x0_0, x0_1, x0_2) => { env := [(1, .one (.str x0_0)), (21, .one (.int .i64 x0_1)), (22, .one (.int .i64 x0_2))], objs := [], base := 0 }
noncomputable def r156_0 (n : Nat)   (rec0 : A156_0 → Option (Bool)) : A156_0 → Option (Bool) := fun (x0_0, x0_1, x0_2) =>
 cond (decide (x0_2 < x0_1))
 (cond (decide (0 ≤ x0_2)) (cond (decide (x0_2 < (x0_0.size : Int))) (cond (decide ((sbt x0_0 x0_2) < 33))
 (some (false))
 (cond (decide (0 ≤ x0_2)) (cond (decide (x0_2 < (x0_0.size : Int))) (cond (decide ((sbt x0_0 x0_2) > 126))
 (some (false))
 (rec0 ((x0_0, x0_1, IntKind.i64.wrap (x0_2 + 1))))) none) none)) none) none)
 (some (true))
noncomputable def LP156_0 (n : Nat)   (x : A156_0) : Option (Bool) := lpN (r156_0 n  ) n x
noncomputable def MP156_0 (n : Nat)   (x : A156_0) : Option (Bool) := iter (fun rec S => run X156 (F156 n) (codeAt (bodyOf Tryz.f156) [1, 1, 0, 1, 0, 0]) 0 S (lopK rec (blkK 0 (seqK (run X156 (F156 n) (codeAt (bodyOf Tryz.f156) [1, 1, 1]) 0) (kTop X156 Tryz.f156 dec156))))) [1, 21, 22] n (s156_0  x)
theorem m156_0 (n : Nat)   (x : A156_0) : MP156_0 n   x = LP156_0 n   x := by
  refine iter_eq (s156_0 ) (r156_0 n  ) (fun rec0 x => ?_) n x
  obtain ⟨x0_0, x0_1, x0_2⟩ := x
  kernel_rfl
noncomputable def G156n (n : Nat) (a0 : VtextField) (a1 : ByteArray) : Option (Bool) :=
 cond (decide ((a1.size : Int) < a0.GateField_Least))
 (some (false))
 (cond (decide ((a1.size : Int) > a0.GateField_Most))
 (some (false))
 (LP156_0 n    ((a1, (a1.size : Int), 0))))
theorem t156 (n : Nat) (a0 : VtextField) (a1 : ByteArray) : runFn X156 (F156 n) Tryz.f156 [.agg [.str a0.GateField_Name, .int .i64 a0.GateField_Kind, .int .i64 a0.GateField_Least, .int .i64 a0.GateField_Most, .row .e9 a0.GateField_Words, .str a0.GateField_To, .int .i64 a0.GateField_Role, .bool a0.GateField_Must, .bool a0.GateField_Fixed, .str a0.GateField_Default, .str a0.GateField_Weighs], .one (.str a1)] dec156 = G156n n a0 a1 := by
  refine Eq.trans (b :=
   cond (decide ((a1.size : Int) < a0.GateField_Least))
   (some (false))
   (cond (decide ((a1.size : Int) > a0.GateField_Most))
   (some (false))
   (MP156_0 n    ((a1, (a1.size : Int), 0))))) (by kernel_rfl) ?_
  simp only [G156n, m156_0]
noncomputable def G156 (a0 : VtextField) (a1 : ByteArray) : Option (Bool) := G156n fuel a0 a1
noncomputable def con156 : Con C := mkC KK [.el .e169, .str] [.bool] G156
theorem c156 : ConOk Tryz.prog KK 156 con156 := cO (mkQ trivial trivial trivial : Cons Tryz.prog X156) (fn := Tryz.f156) (by kernel_rfl) (by kernel_rfl) (by kernel_rfl) (by kernel_rfl) (F156 fuel) (by kernel_rfl) (fun a0 a1 => t156 fuel a0 a1)
/-! ### f157 (loop.example/wharfdesk/impl.textField).sound -/
noncomputable def X157 : Cx C := mkX [] [] [] [] 10289152
def F157 (n : Nat) : Cf := { N := n, keep := [0, 2, 4], live := lk [] }
noncomputable abbrev dec157 := deR KK [.bool]
noncomputable def G157n (n : Nat) (a0 : VtextField) (a1 : List (C .e9)) : Option (Bool) :=
 cond (decide (a0.GateField_Least ≥ 1))
 (cond (decide (a0.GateField_Least ≤ a0.GateField_Most))
 (some (decide (a0.GateField_Most ≤ 40)))
 (some (false)))
 (some (false))
theorem t157 (n : Nat) (a0 : VtextField) (a1 : List (C .e9)) : runFn X157 (F157 n) Tryz.f157 [.agg [.str a0.GateField_Name, .int .i64 a0.GateField_Kind, .int .i64 a0.GateField_Least, .int .i64 a0.GateField_Most, .row .e9 a0.GateField_Words, .str a0.GateField_To, .int .i64 a0.GateField_Role, .bool a0.GateField_Must, .bool a0.GateField_Fixed, .str a0.GateField_Default, .str a0.GateField_Weighs], .one (.row .e9 a1)] dec157 = G157n n a0 a1 := by
  kernel_rfl
noncomputable def G157 (a0 : VtextField) (a1 : List (C .e9)) : Option (Bool) := G157n fuel a0 a1
noncomputable def con157 : Con C := mkC KK [.el .e169, .row .e9] [.bool] G157
theorem c157 : ConOk Tryz.prog KK 157 con157 := cO (mkQ trivial trivial trivial : Cons Tryz.prog X157) (fn := Tryz.f157) (by kernel_rfl) (by kernel_rfl) (by kernel_rfl) (by kernel_rfl) (F157 fuel) (by kernel_rfl) (fun a0 a1 => t157 fuel a0 a1)
/-! ### f158 (loop.example/wharfdesk/impl.linkField).clean -/
noncomputable def X158 : Cx C := mkX [] [] [] [] 10354688
def F158 (n : Nat) : Cf := { N := n, keep := [0, 1, 2], live := lk [] }
noncomputable abbrev dec158 := deR KK [.bool]
noncomputable def G158n (n : Nat) (a0 : VlinkField) : Option (Bool) :=
 cond (a0.GateField_Least == 0)
 (cond (a0.GateField_Most == 0)
 (cond ((a0.GateField_Words.length : Int) == 0)
 (some (decide (a0.GateField_Weighs = (⟨#[]⟩ : ByteArray))))
 (some (false)))
 (some (false)))
 (some (false))
theorem t158 (n : Nat) (a0 : VlinkField) : runFn X158 (F158 n) Tryz.f158 [.agg [.str a0.GateField_Name, .int .i64 a0.GateField_Kind, .int .i64 a0.GateField_Least, .int .i64 a0.GateField_Most, .row .e9 a0.GateField_Words, .str a0.GateField_To, .int .i64 a0.GateField_Role, .bool a0.GateField_Must, .bool a0.GateField_Fixed, .str a0.GateField_Default, .str a0.GateField_Weighs]] dec158 = G158n n a0 := by
  kernel_rfl
noncomputable def G158 (a0 : VlinkField) : Option (Bool) := G158n fuel a0
noncomputable def con158 : Con C := mkC KK [.el .e170] [.bool] G158
theorem c158 : ConOk Tryz.prog KK 158 con158 := cO (mkQ trivial trivial trivial : Cons Tryz.prog X158) (fn := Tryz.f158) (by kernel_rfl) (by kernel_rfl) (by kernel_rfl) (by kernel_rfl) (F158 fuel) (by kernel_rfl) (fun a0 => t158 fuel a0)
/-! ### f159 (loop.example/wharfdesk/impl.linkField).fits -/
noncomputable def X159 : Cx C := mkX [(31, con31)] [] [] [] 10420224
def F159 (n : Nat) : Cf := { N := n, keep := [0, 1, 4], live := lk [] }
noncomputable abbrev dec159 := deR KK [.bool]
noncomputable def G159n (n : Nat) (a0 : VlinkField) (a1 : ByteArray) : Option (Bool) :=
 Option.bind (G31 a1) fun r1 =>
 some (r1)
theorem t159 (n : Nat) (a0 : VlinkField) (a1 : ByteArray) : runFn X159 (F159 n) Tryz.f159 [.agg [.str a0.GateField_Name, .int .i64 a0.GateField_Kind, .int .i64 a0.GateField_Least, .int .i64 a0.GateField_Most, .row .e9 a0.GateField_Words, .str a0.GateField_To, .int .i64 a0.GateField_Role, .bool a0.GateField_Must, .bool a0.GateField_Fixed, .str a0.GateField_Default, .str a0.GateField_Weighs], .one (.str a1)] dec159 = G159n n a0 a1 := by
  kernel_rfl
noncomputable def G159 (a0 : VlinkField) (a1 : ByteArray) : Option (Bool) := G159n fuel a0 a1
noncomputable def con159 : Con C := mkC KK [.el .e170, .str] [.bool] G159
theorem c159 : ConOk Tryz.prog KK 159 con159 := cO (mkQ ⟨c31, trivial⟩ trivial trivial : Cons Tryz.prog X159) (fn := Tryz.f159) (by kernel_rfl) (by kernel_rfl) (by kernel_rfl) (by kernel_rfl) (F159 fuel) (by kernel_rfl) (fun a0 a1 => t159 fuel a0 a1)
/-! ### f160 (loop.example/wharfdesk/impl.linkField).sound -/
noncomputable def X160 : Cx C := mkX [] [] [] [] 10485760
def F160 (n : Nat) : Cf := { N := n, keep := [0, 1, 2, 4, 5, 7, 8, 9, 10, 11], live := lk [(0, [2, 5, 8, 9, 10])] }
noncomputable abbrev dec160 := deR KK [.bool]
abbrev A160_0 : Type := Bool × List (C .e9) × Int × Int × ByteArray × Int × Int × Int × List (C .e9) × ByteArray × Int × Bool × Bool × ByteArray × ByteArray
def s160_0  : A160_0 → St C := fun (x0_0, x0_1, x0_2, x0_3, x0_4, x0_5, x0_6, x0_7, x0_8, x0_9, x0_10, x0_11, x0_12, x0_13, x0_14) => { env := [(2, .one (.ptr 10485888 0)), (5, .one (.bool x0_0)), (8, .one (.row .e9 x0_1)), (9, .one (.int .i64 x0_2)), (10, .one (.int .i64 x0_3))], objs := [(10485888, .box .mem [.str x0_4, .int .i64 x0_5, .int .i64 x0_6, .int .i64 x0_7, .row .e9 x0_8, .str x0_9, .int .i64 x0_10, .bool x0_11, .bool x0_12, .str x0_13, .str x0_14])], base := 0 }
noncomputable def r160_0 (n : Nat)   (rec0 : A160_0 → Option (Bool)) : A160_0 → Option (Bool) := fun (x0_0, x0_1, x0_2, x0_3, x0_4, x0_5, x0_6, x0_7, x0_8, x0_9, x0_10, x0_11, x0_12, x0_13, x0_14) =>
 cond (decide (x0_3 < x0_2))
 (cond (decide (0 ≤ x0_3)) (Option.bind x0_1[x0_3.toNat]? fun e1 => cond x0_0
 (rec0 ((true, x0_1, x0_2, IntKind.i64.wrap (x0_3 + 1), x0_4, x0_5, x0_6, x0_7, x0_8, x0_9, x0_10, x0_11, x0_12, x0_13, x0_14)))
 (rec0 ((decide (e1 = x0_9), x0_1, x0_2, IntKind.i64.wrap (x0_3 + 1), x0_4, x0_5, x0_6, x0_7, x0_8, x0_9, x0_10, x0_11, x0_12, x0_13, x0_14)))) none)
 (cond x0_0
 (cond (decide (x0_10 ≥ 1))
 (cond (decide (x0_10 ≤ 3))
 (cond (decide (x0_13 = (⟨#[]⟩ : ByteArray)))
 (cond (x0_10 == 2)
 (some (!x0_11))
 (some (true)))
 (some (false)))
 (some (false)))
 (some (false)))
 (some (false)))
noncomputable def LP160_0 (n : Nat)   (x : A160_0) : Option (Bool) := lpN (r160_0 n  ) n x
noncomputable def MP160_0 (n : Nat)   (x : A160_0) : Option (Bool) := iter (fun rec S => run X160 (F160 n) (codeAt (bodyOf Tryz.f160) [1, 1, 0, 1, 0, 0]) 0 S (lopK rec (blkK 0 (seqK (run X160 (F160 n) (codeAt (bodyOf Tryz.f160) [1, 1, 1]) 0) (kTop X160 Tryz.f160 dec160))))) [2, 5, 8, 9, 10] n (s160_0  x)
theorem m160_0 (n : Nat)   (x : A160_0) : MP160_0 n   x = LP160_0 n   x := by
  refine iter_eq (s160_0 ) (r160_0 n  ) (fun rec0 x => ?_) n x
  obtain ⟨x0_0, x0_1, x0_2, x0_3, x0_4, x0_5, x0_6, x0_7, x0_8, x0_9, x0_10, x0_11, x0_12, x0_13, x0_14⟩ := x
  kernel_rfl
noncomputable def G160n (n : Nat) (a0 : VlinkField) (a1 : List (C .e9)) : Option (Bool) :=
 LP160_0 n    ((false, a1, (a1.length : Int), 0, a0.GateField_Name, a0.GateField_Kind, a0.GateField_Least, a0.GateField_Most, a0.GateField_Words, a0.GateField_To, a0.GateField_Role, a0.GateField_Must, a0.GateField_Fixed, a0.GateField_Default, a0.GateField_Weighs))
theorem t160 (n : Nat) (a0 : VlinkField) (a1 : List (C .e9)) : runFn X160 (F160 n) Tryz.f160 [.agg [.str a0.GateField_Name, .int .i64 a0.GateField_Kind, .int .i64 a0.GateField_Least, .int .i64 a0.GateField_Most, .row .e9 a0.GateField_Words, .str a0.GateField_To, .int .i64 a0.GateField_Role, .bool a0.GateField_Must, .bool a0.GateField_Fixed, .str a0.GateField_Default, .str a0.GateField_Weighs], .one (.row .e9 a1)] dec160 = G160n n a0 a1 := by
  refine Eq.trans (b :=
   MP160_0 n    ((false, a1, (a1.length : Int), 0, a0.GateField_Name, a0.GateField_Kind, a0.GateField_Least, a0.GateField_Most, a0.GateField_Words, a0.GateField_To, a0.GateField_Role, a0.GateField_Must, a0.GateField_Fixed, a0.GateField_Default, a0.GateField_Weighs))) (by kernel_rfl) ?_
  simp only [G160n, m160_0]
noncomputable def G160 (a0 : VlinkField) (a1 : List (C .e9)) : Option (Bool) := G160n fuel a0 a1
noncomputable def con160 : Con C := mkC KK [.el .e170, .row .e9] [.bool] G160
theorem c160 : ConOk Tryz.prog KK 160 con160 := cO (mkQ trivial trivial trivial : Cons Tryz.prog X160) (fn := Tryz.f160) (by kernel_rfl) (by kernel_rfl) (by kernel_rfl) (by kernel_rfl) (F160 fuel) (by kernel_rfl) (fun a0 a1 => t160 fuel a0 a1)
/-! ### f106 loop.example/wharfdesk/impl.sortOf$1, run in place -/
noncomputable def X106 : Cx C := mkX [] [] [] [] 6946816
def F106 (n : Nat) : Cf := { N := n, keep := [0, 1, 2], live := lk [] }
noncomputable def I106 (n : Nat) : Inl C := inlOf X106 (F106 n) Tryz.f106
theorem i106 (n : Nat) : InlOk Tryz.prog KK 106 (I106 n) := iO (mkQ trivial trivial trivial : Cons Tryz.prog X106) (F106 n) (fn := Tryz.f106) (by kernel_rfl) (by kernel_rfl) (by kernel_rfl) (by kernel_rfl)
/-! ### f107 loop.example/wharfdesk/impl.sortOf$2, run in place -/
noncomputable def X107 : Cx C := mkX [] [] [] [] 7012352
def F107 (n : Nat) : Cf := { N := n, keep := [0, 1, 2], live := lk [] }
noncomputable def I107 (n : Nat) : Inl C := inlOf X107 (F107 n) Tryz.f107
theorem i107 (n : Nat) : InlOk Tryz.prog KK 107 (I107 n) := iO (mkQ trivial trivial trivial : Cons Tryz.prog X107) (F107 n) (fn := Tryz.f107) (by kernel_rfl) (by kernel_rfl) (by kernel_rfl) (by kernel_rfl)
/-! ### f108 loop.example/wharfdesk/impl.sortOf$3, run in place -/
noncomputable def X108 : Cx C := mkX [] [] [] [] 7077888
def F108 (n : Nat) : Cf := { N := n, keep := [0, 1, 2], live := lk [] }
noncomputable def I108 (n : Nat) : Inl C := inlOf X108 (F108 n) Tryz.f108
theorem i108 (n : Nat) : InlOk Tryz.prog KK 108 (I108 n) := iO (mkQ trivial trivial trivial : Cons Tryz.prog X108) (F108 n) (fn := Tryz.f108) (by kernel_rfl) (by kernel_rfl) (by kernel_rfl) (by kernel_rfl)
/-! ### f109 loop.example/wharfdesk/impl.sortOf$4, run in place -/
noncomputable def X109 : Cx C := mkX [] [] [] [] 7143424
def F109 (n : Nat) : Cf := { N := n, keep := [0, 1, 2], live := lk [] }
noncomputable def I109 (n : Nat) : Inl C := inlOf X109 (F109 n) Tryz.f109
theorem i109 (n : Nat) : InlOk Tryz.prog KK 109 (I109 n) := iO (mkQ trivial trivial trivial : Cons Tryz.prog X109) (F109 n) (fn := Tryz.f109) (by kernel_rfl) (by kernel_rfl) (by kernel_rfl) (by kernel_rfl)
/-! ### f104 loop.example/wharfdesk/impl.sortOf, run in place -/
noncomputable def X104 (n : Nat) : Cx C := mkX [] [] [(106, I106 n), (107, I107 n), (108, I108 n), (109, I109 n)] [1, 2, 3, 4, 7, 8, 20] 6815744
def F104 (n : Nat) : Cf := { N := n, keep := [0, 1, 2, 3, 4, 5, 6, 17], live := lk [] }
noncomputable def I104 (n : Nat) : Inl C := inlOf (X104 n) (F104 n) Tryz.f104
theorem i104 (n : Nat) : InlOk Tryz.prog KK 104 (I104 n) := iO (mkQ trivial trivial ⟨i106 _, i107 _, i108 _, i109 _, trivial⟩ : Cons Tryz.prog (X104 n)) (F104 n) (fn := Tryz.f104) (by kernel_rfl) (by kernel_rfl) (by kernel_rfl) (by kernel_rfl)
/-! ### f98 loop.example/wharfdesk/impl.GateFits -/
noncomputable def X98 (n : Nat) : Cx C := mkX [(149, con149), (153, con153), (156, con156), (159, con159)] [] [(104, I104 n)] [1, 4, 5, 6, 7, 9, 10, 11, 17, 20, 21] 6422528
def F98 (n : Nat) : Cf := { N := n, keep := [0, 1, 2, 4, 5, 6], live := lk [] }
noncomputable abbrev dec98 := deR KK [.bool]
noncomputable def G98n (n : Nat) (a0 : VGateField) (a1 : ByteArray) : Option (Bool) :=
 cond (decide (1 = a0.Kind))
 (cond (!decide (a1 = (⟨#[]⟩ : ByteArray)))
 (Option.bind (G149 (⟨a0.Name, a0.Kind, a0.Least, a0.Most, a0.Words, a0.To, a0.Role, a0.Must, a0.Fixed, a0.Default, a0.Weighs⟩ : VnumberField) a1) fun r1 =>
 some (r1))
 (some (false)))
 (cond (decide (2 = a0.Kind))
 (cond (!decide (a1 = (⟨#[]⟩ : ByteArray)))
 (Option.bind (G153 (⟨a0.Name, a0.Kind, a0.Least, a0.Most, a0.Words, a0.To, a0.Role, a0.Must, a0.Fixed, a0.Default, a0.Weighs⟩ : VwordField) a1) fun r2 =>
 some (r2))
 (some (false)))
 (cond (decide (3 = a0.Kind))
 (cond (!decide (a1 = (⟨#[]⟩ : ByteArray)))
 (Option.bind (G156 (⟨a0.Name, a0.Kind, a0.Least, a0.Most, a0.Words, a0.To, a0.Role, a0.Must, a0.Fixed, a0.Default, a0.Weighs⟩ : VtextField) a1) fun r3 =>
 some (r3))
 (some (false)))
 (cond (decide (4 = a0.Kind))
 (cond (!decide (a1 = (⟨#[]⟩ : ByteArray)))
 (Option.bind (G159 (⟨a0.Name, a0.Kind, a0.Least, a0.Most, a0.Words, a0.To, a0.Role, a0.Must, a0.Fixed, a0.Default, a0.Weighs⟩ : VlinkField) a1) fun r4 =>
 some (r4))
 (some (false)))
 (some (false)))))
theorem t98 (n : Nat) (a0 : VGateField) (a1 : ByteArray) : runFn (X98 n) (F98 n) Tryz.f98 [.agg [.str a0.Name, .int .i64 a0.Kind, .int .i64 a0.Least, .int .i64 a0.Most, .row .e9 a0.Words, .str a0.To, .int .i64 a0.Role, .bool a0.Must, .bool a0.Fixed, .str a0.Default, .str a0.Weighs], .one (.str a1)] dec98 = G98n n a0 a1 := by
  kernel_rfl
noncomputable def G98 (a0 : VGateField) (a1 : ByteArray) : Option (Bool) := G98n fuel a0 a1
noncomputable def con98 : Con C := mkC KK [.el .e146, .str] [.bool] G98
theorem c98 : ConOk Tryz.prog KK 98 con98 := cO (mkQ ⟨c149, c153, c156, c159, trivial⟩ trivial ⟨i104 _, trivial⟩ : Cons Tryz.prog (X98 fuel)) (fn := Tryz.f98) (by kernel_rfl) (by kernel_rfl) (by kernel_rfl) (by kernel_rfl) (F98 fuel) (by kernel_rfl) (fun a0 a1 => t98 fuel a0 a1)
/-! ### f80 loop.example/wharfdesk/impl.shapeOf -/
noncomputable def X80 : Cx C := mkX [] [] [] [] 5242880
def F80 (n : Nat) : Cf := { N := n, keep := [0, 1, 4, 5, 6, 7, 8, 9, 10, 17], live := lk [(0, [1, 7, 8, 9])] }
noncomputable abbrev dec80 := deR KK [.int .i64]
abbrev A80_0 : Type := ByteArray × List (C .e105) × Int × Int
def s80_0  : A80_0 → St C := fun (x0_0, x0_1, x0_2, x0_3) => { env := [(1, .one (.str x0_0)), (7, .one (.row .e105 x0_1)), (8, .one (.int .i64 x0_2)), (9, .one (.int .i64 x0_3))], objs := [], base := 0 }
noncomputable def r80_0 (n : Nat)   (rec0 : A80_0 → Option (Int)) : A80_0 → Option (Int) := fun (x0_0, x0_1, x0_2, x0_3) =>
 cond (decide (x0_3 < x0_2))
 (cond (decide (0 ≤ x0_3)) (Option.bind x0_1[x0_3.toNat]? fun e1 => cond (decide (e1.Kind = x0_0))
 (some (x0_3))
 (rec0 ((x0_0, x0_1, x0_2, IntKind.i64.wrap (x0_3 + 1))))) none)
 (some ((-1)))
noncomputable def LP80_0 (n : Nat)   (x : A80_0) : Option (Int) := lpN (r80_0 n  ) n x
noncomputable def MP80_0 (n : Nat)   (x : A80_0) : Option (Int) := iter (fun rec S => run X80 (F80 n) (codeAt (bodyOf Tryz.f80) [1, 0, 1, 0, 0]) 0 S (lopK rec (blkK 0 (seqK (run X80 (F80 n) (codeAt (bodyOf Tryz.f80) [1, 1]) 0) (kTop X80 Tryz.f80 dec80))))) [1, 7, 8, 9] n (s80_0  x)
theorem m80_0 (n : Nat)   (x : A80_0) : MP80_0 n   x = LP80_0 n   x := by
  refine iter_eq (s80_0 ) (r80_0 n  ) (fun rec0 x => ?_) n x
  obtain ⟨x0_0, x0_1, x0_2, x0_3⟩ := x
  kernel_rfl
noncomputable def G80n (n : Nat) (a0 : List (C .e105)) (a1 : ByteArray) : Option (Int) :=
 LP80_0 n    ((a1, a0, (a0.length : Int), 0))
theorem t80 (n : Nat) (a0 : List (C .e105)) (a1 : ByteArray) : runFn X80 (F80 n) Tryz.f80 [.one (.row .e105 a0), .one (.str a1)] dec80 = G80n n a0 a1 := by
  refine Eq.trans (b :=
   MP80_0 n    ((a1, a0, (a0.length : Int), 0))) (by kernel_rfl) ?_
  simp only [G80n, m80_0]
noncomputable def G80 (a0 : List (C .e105)) (a1 : ByteArray) : Option (Int) := G80n fuel a0 a1
noncomputable def con80 : Con C := mkC KK [.row .e105, .str] [.int .i64] G80
theorem c80 : ConOk Tryz.prog KK 80 con80 := cO (mkQ trivial trivial trivial : Cons Tryz.prog X80) (fn := Tryz.f80) (by kernel_rfl) (by kernel_rfl) (by kernel_rfl) (by kernel_rfl) (F80 fuel) (by kernel_rfl) (fun a0 a1 => t80 fuel a0 a1)

end Go.Proofs.YtjodpeldfebhfaaGreat.Ab

