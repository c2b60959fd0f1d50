/- A codec, printed by codec.py: structures, cells, the table of types and its facts. -/
import Derived.Test.YtpdindhlnehfcaaAb27
import Derived.Test.YtpdindhlnehfcaaProg
import Derived.KernelRfl
set_option linter.unusedVariables false
set_option linter.unusedSimpArgs false
namespace Go.Proofs.Ytpdindhlnehfcaa.Ab
open Go Go.RowKit
inductive Ty where
  | e3
  | e5
  | e9
  | e67
  | e73
  | e77
  | e82
  | e85
  | e115
  | e118
  | e121
  | e124
  | e127
  deriving DecidableEq
structure VGateTeam where
  Name : ByteArray
  Over : ByteArray
structure VGateGrant where
  Number : Int
  To : ByteArray
  By : ByteArray
  Rule_Verbs : List Int
  Rule_Kind : ByteArray
  Rule_Team : ByteArray
  Rule_Prefix : ByteArray
structure VGateObject where
  Kind : ByteArray
  Name : ByteArray
  Team : ByteArray
  Values : List ByteArray
  Ending : Bool
  Holds : List ByteArray
  Version : Int
structure VGateLedger where
  Team : ByteArray
  Resource : ByteArray
  Most : Int
  Free : Int
structure VGatePurse where
  Door : ByteArray
  Team : ByteArray
  Resource : ByteArray
  Amount : Int
  Until : Int
structure VStewService where
  Name : ByteArray
  Version : Int
  Gone : Bool
  Image : Int
  Want : Int
  Down : Int
  Over : Int
  Next : Int
  Per : Int
  Least : Int
  Most : Int
  Load : Int
  Cool : Int
structure VStewCopy where
  Service : ByteArray
  Number : Int
  Version : Int
  Image : Int
  State : Int
  Ending : Bool
  Berth : ByteArray
structure VStewBerth where
  Name : ByteArray
  Drain : Bool
structure VboundsError where
  x : Int
  y : Int
  signed : Bool
  code : Int
structure VerrorAddressString where
  msg : ByteArray
  addr : Int
structure VHallHouse where
  Teams : List VGateTeam
  Grants : List VGateGrant
structure VGateBook where
  Now : Int
  Tick : Int
  Given : Int
  Objects : List VGateObject
  Grants : List VGateGrant
  Ledgers : List VGateLedger
  Purses : List VGatePurse
structure VStewBook where
  Now : Int
  Services : List VStewService
  Copies : List VStewCopy
  Berths : List VStewBerth
structure VHallBook where
  Gate_Now : Int
  Gate_Tick : Int
  Gate_Given : Int
  Gate_Objects : List VGateObject
  Gate_Grants : List VGateGrant
  Gate_Ledgers : List VGateLedger
  Gate_Purses : List VGatePurse
  Stew_Now : Int
  Stew_Services : List VStewService
  Stew_Copies : List VStewCopy
  Stew_Berths : List VStewBerth
structure VGateRule where
  Verbs : List Int
  Kind : ByteArray
  Team : ByteArray
  Prefix : ByteArray
structure Vspot where
  kind : ByteArray
  name : ByteArray
abbrev C : Ty → Type
  | .e3 => Int
  | .e5 => Int
  | .e9 => ByteArray
  | .e67 => VGateTeam
  | .e73 => VGateGrant
  | .e77 => VGateGrant
  | .e82 => VGateObject
  | .e85 => VGateTeam
  | .e115 => VGateLedger
  | .e118 => VGatePurse
  | .e121 => VStewService
  | .e124 => VStewCopy
  | .e127 => VStewBerth
def enc : (t : Ty) → C t → List (Lf C)
  | .e3, x => [.int .i64 x]
  | .e5, x => [.int .u8 x]
  | .e9, x => [.str x]
  | .e67, x => [.str x.Name, .str x.Over]
  | .e73, x => [.int .i64 x.Number, .str x.To, .str x.By, .row .e3 x.Rule_Verbs, .str x.Rule_Kind, .str x.Rule_Team, .str x.Rule_Prefix]
  | .e77, x => [.int .i64 x.Number, .str x.To, .str x.By, .row .e3 x.Rule_Verbs, .str x.Rule_Kind, .str x.Rule_Team, .str x.Rule_Prefix]
  | .e82, x => [.str x.Kind, .str x.Name, .str x.Team, .row .e9 x.Values, .bool x.Ending, .row .e9 x.Holds, .int .i64 x.Version]
  | .e85, x => [.str x.Name, .str x.Over]
  | .e115, x => [.str x.Team, .str x.Resource, .int .i64 x.Most, .int .i64 x.Free]
  | .e118, x => [.str x.Door, .str x.Team, .str x.Resource, .int .i64 x.Amount, .int .i64 x.Until]
  | .e121, x => [.str x.Name, .int .i64 x.Version, .bool x.Gone, .int .i64 x.Image, .int .i64 x.Want, .int .i64 x.Down, .int .i64 x.Over, .int .i64 x.Next, .int .i64 x.Per, .int .i64 x.Least, .int .i64 x.Most, .int .i64 x.Load, .int .i64 x.Cool]
  | .e124, x => [.str x.Service, .int .i64 x.Number, .int .i64 x.Version, .int .i64 x.Image, .int .i64 x.State, .bool x.Ending, .str x.Berth]
  | .e127, x => [.str x.Name, .bool x.Drain]
def d3 (cs : List (Lf C)) : Option (C .e3) := match cs with
  | [.int .i64 x] => some x
  | _ => none
theorem d3_ok (cs : List (Lf C)) (x : C .e3) (h : d3 cs = some x) : enc .e3 x = cs := by
  unfold d3 at h
  split at h
  · cases h; rfl
  · cases h
def d5 (cs : List (Lf C)) : Option (C .e5) := match cs with
  | [.int .u8 x] => some x
  | _ => none
theorem d5_ok (cs : List (Lf C)) (x : C .e5) (h : d5 cs = some x) : enc .e5 x = cs := by
  unfold d5 at h
  split at h
  · cases h; rfl
  · cases h
def d9 (cs : List (Lf C)) : Option (C .e9) := match cs with
  | [.str x] => some x
  | _ => none
theorem d9_ok (cs : List (Lf C)) (x : C .e9) (h : d9 cs = some x) : enc .e9 x = cs := by
  unfold d9 at h
  split at h
  · cases h; rfl
  · cases h
def d67 (cs : List (Lf C)) : Option (C .e67) := match cs with
  | [.str x0, .str x1] => some ⟨x0, x1⟩
  | _ => none
theorem d67_ok (cs : List (Lf C)) (x : C .e67) (h : d67 cs = some x) : enc .e67 x = cs := by
  unfold d67 at h
  split at h
  · cases h; rfl
  · cases h
def d73 (cs : List (Lf C)) : Option (C .e73) := match cs with
  | [.int .i64 x0, .str x1, .str x2, .row .e3 x3, .str x4, .str x5, .str x6] => some ⟨x0, x1, x2, x3, x4, x5, x6⟩
  | _ => none
theorem d73_ok (cs : List (Lf C)) (x : C .e73) (h : d73 cs = some x) : enc .e73 x = cs := by
  unfold d73 at h
  split at h
  · cases h; rfl
  · cases h
def d77 (cs : List (Lf C)) : Option (C .e77) := match cs with
  | [.int .i64 x0, .str x1, .str x2, .row .e3 x3, .str x4, .str x5, .str x6] => some ⟨x0, x1, x2, x3, x4, x5, x6⟩
  | _ => none
theorem d77_ok (cs : List (Lf C)) (x : C .e77) (h : d77 cs = some x) : enc .e77 x = cs := by
  unfold d77 at h
  split at h
  · cases h; rfl
  · cases h
def d82 (cs : List (Lf C)) : Option (C .e82) := match cs with
  | [.str x0, .str x1, .str x2, .row .e9 x3, .bool x4, .row .e9 x5, .int .i64 x6] => some ⟨x0, x1, x2, x3, x4, x5, x6⟩
  | _ => none
theorem d82_ok (cs : List (Lf C)) (x : C .e82) (h : d82 cs = some x) : enc .e82 x = cs := by
  unfold d82 at h
  split at h
  · cases h; rfl
  · cases h
def d85 (cs : List (Lf C)) : Option (C .e85) := match cs with
  | [.str x0, .str x1] => some ⟨x0, x1⟩
  | _ => none
theorem d85_ok (cs : List (Lf C)) (x : C .e85) (h : d85 cs = some x) : enc .e85 x = cs := by
  unfold d85 at h
  split at h
  · cases h; rfl
  · cases h
def d115 (cs : List (Lf C)) : Option (C .e115) := match cs with
  | [.str x0, .str x1, .int .i64 x2, .int .i64 x3] => some ⟨x0, x1, x2, x3⟩
  | _ => none
theorem d115_ok (cs : List (Lf C)) (x : C .e115) (h : d115 cs = some x) : enc .e115 x = cs := by
  unfold d115 at h
  split at h
  · cases h; rfl
  · cases h
def d118 (cs : List (Lf C)) : Option (C .e118) := match cs with
  | [.str x0, .str x1, .str x2, .int .i64 x3, .int .i64 x4] => some ⟨x0, x1, x2, x3, x4⟩
  | _ => none
theorem d118_ok (cs : List (Lf C)) (x : C .e118) (h : d118 cs = some x) : enc .e118 x = cs := by
  unfold d118 at h
  split at h
  · cases h; rfl
  · cases h
def d121 (cs : List (Lf C)) : Option (C .e121) := match cs with
  | [.str x0, .int .i64 x1, .bool x2, .int .i64 x3, .int .i64 x4, .int .i64 x5, .int .i64 x6, .int .i64 x7, .int .i64 x8, .int .i64 x9, .int .i64 x10, .int .i64 x11, .int .i64 x12] => some ⟨x0, x1, x2, x3, x4, x5, x6, x7, x8, x9, x10, x11, x12⟩
  | _ => none
theorem d121_ok (cs : List (Lf C)) (x : C .e121) (h : d121 cs = some x) : enc .e121 x = cs := by
  unfold d121 at h
  split at h
  · cases h; rfl
  · cases h
def d124 (cs : List (Lf C)) : Option (C .e124) := match cs with
  | [.str x0, .int .i64 x1, .int .i64 x2, .int .i64 x3, .int .i64 x4, .bool x5, .str x6] => some ⟨x0, x1, x2, x3, x4, x5, x6⟩
  | _ => none
theorem d124_ok (cs : List (Lf C)) (x : C .e124) (h : d124 cs = some x) : enc .e124 x = cs := by
  unfold d124 at h
  split at h
  · cases h; rfl
  · cases h
def d127 (cs : List (Lf C)) : Option (C .e127) := match cs with
  | [.str x0, .bool x1] => some ⟨x0, x1⟩
  | _ => none
theorem d127_ok (cs : List (Lf C)) (x : C .e127) (h : d127 cs = some x) : enc .e127 x = cs := by
  unfold d127 at h
  split at h
  · cases h; rfl
  · cases h
def dec (t : Ty) : List (Lf C) → Option (C t) := match t with
  | .e3 => d3
  | .e5 => d5
  | .e9 => d9
  | .e67 => d67
  | .e73 => d73
  | .e77 => d77
  | .e82 => d82
  | .e85 => d85
  | .e115 => d115
  | .e118 => d118
  | .e121 => d121
  | .e124 => d124
  | .e127 => d127
noncomputable def KK : Cd C where
  enc := enc
  dec := dec
  sz := fun t => match t with
    | .e3 => 1
    | .e5 => 1
    | .e9 => 1
    | .e67 => 2
    | .e73 => 7
    | .e77 => 7
    | .e82 => 7
    | .e85 => 2
    | .e115 => 4
    | .e118 => 5
    | .e121 => 13
    | .e124 => 7
    | .e127 => 2
  tid := fun t => match t with
    | .e3 => 3
    | .e5 => 5
    | .e9 => 9
    | .e67 => 67
    | .e73 => 73
    | .e77 => 77
    | .e82 => 82
    | .e85 => 85
    | .e115 => 115
    | .e118 => 118
    | .e121 => 121
    | .e124 => 124
    | .e127 => 127
  bytes := fun t => match t with
    | .e3 => 8
    | .e5 => 1
    | .e9 => 16
    | .e67 => 32
    | .e73 => 112
    | .e77 => 112
    | .e82 => 112
    | .e85 => 32
    | .e115 => 48
    | .e118 => 64
    | .e121 => 112
    | .e124 => 72
    | .e127 => 24
  zero := fun t => match t with
    | .e3 => (0 : Int)
    | .e5 => (0 : Int)
    | .e9 => (⟨#[]⟩ : ByteArray)
    | .e67 => (⟨⟨#[]⟩, ⟨#[]⟩⟩ : VGateTeam)
    | .e73 => (⟨0, ⟨#[]⟩, ⟨#[]⟩, [], ⟨#[]⟩, ⟨#[]⟩, ⟨#[]⟩⟩ : VGateGrant)
    | .e77 => (⟨0, ⟨#[]⟩, ⟨#[]⟩, [], ⟨#[]⟩, ⟨#[]⟩, ⟨#[]⟩⟩ : VGateGrant)
    | .e82 => (⟨⟨#[]⟩, ⟨#[]⟩, ⟨#[]⟩, [], false, [], 0⟩ : VGateObject)
    | .e85 => (⟨⟨#[]⟩, ⟨#[]⟩⟩ : VGateTeam)
    | .e115 => (⟨⟨#[]⟩, ⟨#[]⟩, 0, 0⟩ : VGateLedger)
    | .e118 => (⟨⟨#[]⟩, ⟨#[]⟩, ⟨#[]⟩, 0, 0⟩ : VGatePurse)
    | .e121 => (⟨⟨#[]⟩, 0, false, 0, 0, 0, 0, 0, 0, 0, 0, 0, 0⟩ : VStewService)
    | .e124 => (⟨⟨#[]⟩, 0, 0, 0, 0, false, ⟨#[]⟩⟩ : VStewCopy)
    | .e127 => (⟨⟨#[]⟩, false⟩ : VStewBerth)
  pos := fun t => by cases t <;> decide
  enc_len := fun t x => by cases t <;> rfl
  enc_dec := fun t cs x h => by
    cases t
    · exact d3_ok cs x h
    · exact d5_ok cs x h
    · exact d9_ok cs x h
    · exact d67_ok cs x h
    · exact d73_ok cs x h
    · exact d77_ok cs x h
    · exact d82_ok cs x h
    · exact d85_ok cs x h
    · exact d115_ok cs x h
    · exact d118_ok cs x h
    · exact d121_ok cs x h
    · exact d124_ok cs x h
    · exact d127_ok cs x h
  enc_plain := fun t x l h => by
    cases t <;> simp only [enc, List.mem_cons, List.not_mem_nil, or_false] at h <;> (first | (subst h; rfl) | (rcases h with rfl <;> rfl) | (repeat (rcases h with rfl | h; · rfl)) <;> (subst h; rfl))
  flat := fun t => match t with
    | .e3 => true
    | .e5 => true
    | .e9 => true
    | .e67 => true
    | .e73 => false
    | .e77 => false
    | .e82 => false
    | .e85 => true
    | .e115 => true
    | .e118 => true
    | .e121 => true
    | .e124 => true
    | .e127 => true
  byte := fun t => match t with
    | .e3 => false
    | .e5 => true
    | .e9 => false
    | .e67 => false
    | .e73 => false
    | .e77 => false
    | .e82 => false
    | .e85 => false
    | .e115 => false
    | .e118 => false
    | .e121 => false
    | .e124 => false
    | .e127 => false
  enc_byte := fun t ht x => by cases t <;> first | (cases ht; done) | exact ⟨_, rfl⟩
  enc_flat := fun t ht x t' ys h => by cases t <;> first | (cases ht; done) | (simp [enc] at h)
def tks : List (Nat × TK Ty) := [
  (2, .one (.int .i64)),
  (3, .one (.int .i64)),
  (4, .one (.bool)),
  (5, .one (.int .u8)),
  (6, .one (.int .u8)),
  (7, .agg [(0, 1, false), (1, 1, false), (2, 1, false), (3, 1, false)] [.int .i64, .int .i64, .bool, .int .u8]),
  (8, .agg [(0, 1, false), (1, 1, false), (2, 1, false), (3, 1, false)] [.int .i64, .int .i64, .bool, .int .u8]),
  (9, .one (.str)),
  (10, .one (.str)),
  (11, .one (.str)),
  (12, .one (.int .u64)),
  (13, .agg [(0, 1, false), (1, 1, false)] [.str, .int .u64]),
  (14, .agg [(0, 1, false), (1, 1, false)] [.str, .int .u64]),
  (15, .one (.ptr)),
  (16, .one (.ptr)),
  (17, .one (.ptr)),
  (18, .agg [(0, 1, false)] [.ptr]),
  (19, .agg [(0, 1, false)] [.ptr]),
  (21, .one (.int .i32)),
  (22, .one (.sli .e67)),
  (23, .one (.sli .e73)),
  (24, .agg [(0, 1, false), (1, 1, false)] [.sli .e67, .sli .e73]),
  (25, .agg [(0, 1, false), (1, 1, false)] [.sli .e67, .sli .e73]),
  (27, .one (.sli .e82)),
  (28, .one (.sli .e77)),
  (29, .one (.sli .e115)),
  (30, .one (.sli .e118)),
  (31, .agg [(0, 1, false), (1, 1, false), (2, 1, false), (3, 1, false), (4, 1, false), (5, 1, false), (6, 1, false)] [.int .i64, .int .i64, .int .i64, .sli .e82, .sli .e77, .sli .e115, .sli .e118]),
  (32, .agg [(0, 1, false), (1, 1, false), (2, 1, false), (3, 1, false), (4, 1, false), (5, 1, false), (6, 1, false)] [.int .i64, .int .i64, .int .i64, .sli .e82, .sli .e77, .sli .e115, .sli .e118]),
  (33, .one (.sli .e121)),
  (34, .one (.sli .e124)),
  (35, .one (.sli .e127)),
  (36, .agg [(0, 1, false), (1, 1, false), (2, 1, false), (3, 1, false)] [.int .i64, .sli .e121, .sli .e124, .sli .e127]),
  (37, .agg [(0, 1, false), (1, 1, false), (2, 1, false), (3, 1, false)] [.int .i64, .sli .e121, .sli .e124, .sli .e127]),
  (38, .agg [(0, 7, true), (7, 4, true)] [.int .i64, .int .i64, .int .i64, .sli .e82, .sli .e77, .sli .e115, .sli .e118, .int .i64, .sli .e121, .sli .e124, .sli .e127]),
  (39, .agg [(0, 7, true), (7, 4, true)] [.int .i64, .int .i64, .int .i64, .sli .e82, .sli .e77, .sli .e115, .sli .e118, .int .i64, .sli .e121, .sli .e124, .sli .e127]),
  (41, .one (.sli .e85)),
  (42, .agg [(0, 1, false), (1, 1, false)] [.sli .e85, .sli .e77]),
  (43, .agg [(0, 1, false), (1, 1, false)] [.sli .e85, .sli .e77]),
  (66, .agg [(0, 1, false), (1, 1, false)] [.str, .str]),
  (67, .agg [(0, 1, false), (1, 1, false)] [.str, .str]),
  (69, .one (.sli .e3)),
  (70, .agg [(0, 1, false), (1, 1, false), (2, 1, false), (3, 1, false)] [.sli .e3, .str, .str, .str]),
  (71, .agg [(0, 1, false), (1, 1, false), (2, 1, false), (3, 1, false)] [.sli .e3, .str, .str, .str]),
  (72, .agg [(0, 1, false), (1, 1, false), (2, 1, false), (3, 4, true)] [.int .i64, .str, .str, .sli .e3, .str, .str, .str]),
  (73, .agg [(0, 1, false), (1, 1, false), (2, 1, false), (3, 4, true)] [.int .i64, .str, .str, .sli .e3, .str, .str, .str]),
  (75, .agg [(0, 1, false), (1, 1, false), (2, 1, false), (3, 1, false)] [.sli .e3, .str, .str, .str]),
  (76, .agg [(0, 1, false), (1, 1, false), (2, 1, false), (3, 4, true)] [.int .i64, .str, .str, .sli .e3, .str, .str, .str]),
  (77, .agg [(0, 1, false), (1, 1, false), (2, 1, false), (3, 4, true)] [.int .i64, .str, .str, .sli .e3, .str, .str, .str]),
  (80, .one (.sli .e9)),
  (81, .agg [(0, 1, false), (1, 1, false), (2, 1, false), (3, 1, false), (4, 1, false), (5, 1, false), (6, 1, false)] [.str, .str, .str, .sli .e9, .bool, .sli .e9, .int .i64]),
  (82, .agg [(0, 1, false), (1, 1, false), (2, 1, false), (3, 1, false), (4, 1, false), (5, 1, false), (6, 1, false)] [.str, .str, .str, .sli .e9, .bool, .sli .e9, .int .i64]),
  (85, .agg [(0, 1, false), (1, 1, false)] [.str, .str]),
  (114, .agg [(0, 1, false), (1, 1, false), (2, 1, false), (3, 1, false)] [.str, .str, .int .i64, .int .i64]),
  (115, .agg [(0, 1, false), (1, 1, false), (2, 1, false), (3, 1, false)] [.str, .str, .int .i64, .int .i64]),
  (117, .agg [(0, 1, false), (1, 1, false), (2, 1, false), (3, 1, false), (4, 1, false)] [.str, .str, .str, .int .i64, .int .i64]),
  (118, .agg [(0, 1, false), (1, 1, false), (2, 1, false), (3, 1, false), (4, 1, false)] [.str, .str, .str, .int .i64, .int .i64]),
  (120, .agg [(0, 1, false), (1, 1, false), (2, 1, false), (3, 1, false), (4, 1, false), (5, 1, false), (6, 1, false), (7, 1, false), (8, 1, false), (9, 1, false), (10, 1, false), (11, 1, false), (12, 1, false)] [.str, .int .i64, .bool, .int .i64, .int .i64, .int .i64, .int .i64, .int .i64, .int .i64, .int .i64, .int .i64, .int .i64, .int .i64]),
  (121, .agg [(0, 1, false), (1, 1, false), (2, 1, false), (3, 1, false), (4, 1, false), (5, 1, false), (6, 1, false), (7, 1, false), (8, 1, false), (9, 1, false), (10, 1, false), (11, 1, false), (12, 1, false)] [.str, .int .i64, .bool, .int .i64, .int .i64, .int .i64, .int .i64, .int .i64, .int .i64, .int .i64, .int .i64, .int .i64, .int .i64]),
  (123, .agg [(0, 1, false), (1, 1, false), (2, 1, false), (3, 1, false), (4, 1, false), (5, 1, false), (6, 1, false)] [.str, .int .i64, .int .i64, .int .i64, .int .i64, .bool, .str]),
  (124, .agg [(0, 1, false), (1, 1, false), (2, 1, false), (3, 1, false), (4, 1, false), (5, 1, false), (6, 1, false)] [.str, .int .i64, .int .i64, .int .i64, .int .i64, .bool, .str]),
  (126, .agg [(0, 1, false), (1, 1, false)] [.str, .bool]),
  (127, .agg [(0, 1, false), (1, 1, false)] [.str, .bool]),
  (129, .one (.sli .e5)),
  (134, .agg [(0, 1, false), (1, 1, false), (2, 1, false), (3, 1, false)] [.ptr, .ptr, .ptr, .str]),
  (135, .agg [(0, 1, false), (1, 1, false), (2, 1, false), (3, 1, false)] [.ptr, .ptr, .ptr, .str]),
  (140, .one (.int .u32)),
  (141, .one (.int .u8)),
  (142, .one (.int .u8)),
  (144, .one (.ptr)),
  (145, .one (.int .i32)),
  (146, .one (.int .i32)),
  (153, .agg [(0, 1, false), (1, 1, false)] [.str, .str]),
  (154, .agg [(0, 1, false), (1, 1, false)] [.str, .str])]
theorem tf2 : TFact Go.Proofs.Try.prog KK 2 (.one (.int .i64)) := tfact_one (by kernel_rfl) (by kernel_rfl) (d := .int .i64) (by kernel_rfl) rfl
theorem tf3 : TFact Go.Proofs.Try.prog KK 3 (.one (.int .i64)) := tfact_one (by kernel_rfl) (by kernel_rfl) (d := .int .i64) (by kernel_rfl) rfl
theorem tf4 : TFact Go.Proofs.Try.prog KK 4 (.one (.bool)) := tfact_one (by kernel_rfl) (by kernel_rfl) (d := .bool) (by kernel_rfl) rfl
theorem tf5 : TFact Go.Proofs.Try.prog KK 5 (.one (.int .u8)) := tfact_one (by kernel_rfl) (by kernel_rfl) (d := .int .u8) (by kernel_rfl) rfl
theorem tf6 : TFact Go.Proofs.Try.prog KK 6 (.one (.int .u8)) := tfact_one (by kernel_rfl) (by kernel_rfl) (d := .int .u8) (by kernel_rfl) rfl
theorem tf7 : TFact Go.Proofs.Try.prog KK 7 (.agg [(0, 1, false), (1, 1, false), (2, 1, false), (3, 1, false)] [.int .i64, .int .i64, .bool, .int .u8]) := tfact_agg (by kernel_rfl) (by kernel_rfl) (by kernel_rfl)
theorem tf8 : TFact Go.Proofs.Try.prog KK 8 (.agg [(0, 1, false), (1, 1, false), (2, 1, false), (3, 1, false)] [.int .i64, .int .i64, .bool, .int .u8]) := tfact_agg (by kernel_rfl) (by kernel_rfl) (by kernel_rfl)
theorem tf9 : TFact Go.Proofs.Try.prog KK 9 (.one (.str)) := tfact_one (by kernel_rfl) (by kernel_rfl) (d := .string) (by kernel_rfl) rfl
theorem tf10 : TFact Go.Proofs.Try.prog KK 10 (.one (.str)) := tfact_one (by kernel_rfl) (by kernel_rfl) (d := .string) (by kernel_rfl) rfl
theorem tf11 : TFact Go.Proofs.Try.prog KK 11 (.one (.str)) := tfact_one (by kernel_rfl) (by kernel_rfl) (d := .string) (by kernel_rfl) rfl
theorem tf12 : TFact Go.Proofs.Try.prog KK 12 (.one (.int .u64)) := tfact_one (by kernel_rfl) (by kernel_rfl) (d := .int .u64) (by kernel_rfl) rfl
theorem tf13 : TFact Go.Proofs.Try.prog KK 13 (.agg [(0, 1, false), (1, 1, false)] [.str, .int .u64]) := tfact_agg (by kernel_rfl) (by kernel_rfl) (by kernel_rfl)
theorem tf14 : TFact Go.Proofs.Try.prog KK 14 (.agg [(0, 1, false), (1, 1, false)] [.str, .int .u64]) := tfact_agg (by kernel_rfl) (by kernel_rfl) (by kernel_rfl)
theorem tf15 : TFact Go.Proofs.Try.prog KK 15 (.one (.ptr)) := tfact_one (by kernel_rfl) (by kernel_rfl) (d := .pointer 135) (by kernel_rfl) ⟨_, rfl⟩
theorem tf16 : TFact Go.Proofs.Try.prog KK 16 (.one (.ptr)) := tfact_one (by kernel_rfl) (by kernel_rfl) (d := .pointer 138) (by kernel_rfl) ⟨_, rfl⟩
theorem tf17 : TFact Go.Proofs.Try.prog KK 17 (.one (.ptr)) := tfact_one (by kernel_rfl) (by kernel_rfl) (d := .pointer 148) (by kernel_rfl) ⟨_, rfl⟩
theorem tf18 : TFact Go.Proofs.Try.prog KK 18 (.agg [(0, 1, false)] [.ptr]) := tfact_agg (by kernel_rfl) (by kernel_rfl) (by kernel_rfl)
theorem tf19 : TFact Go.Proofs.Try.prog KK 19 (.agg [(0, 1, false)] [.ptr]) := tfact_agg (by kernel_rfl) (by kernel_rfl) (by kernel_rfl)
theorem tf21 : TFact Go.Proofs.Try.prog KK 21 (.one (.int .i32)) := tfact_one (by kernel_rfl) (by kernel_rfl) (d := .int .i32) (by kernel_rfl) rfl
theorem tf22 : TFact Go.Proofs.Try.prog KK 22 (.one (.sli .e67)) := tfact_one (by kernel_rfl) (by kernel_rfl) (d := .slice 67) (by kernel_rfl) rfl
theorem tf23 : TFact Go.Proofs.Try.prog KK 23 (.one (.sli .e73)) := tfact_one (by kernel_rfl) (by kernel_rfl) (d := .slice 73) (by kernel_rfl) rfl
theorem tf24 : TFact Go.Proofs.Try.prog KK 24 (.agg [(0, 1, false), (1, 1, false)] [.sli .e67, .sli .e73]) := tfact_agg (by kernel_rfl) (by kernel_rfl) (by kernel_rfl)
theorem tf25 : TFact Go.Proofs.Try.prog KK 25 (.agg [(0, 1, false), (1, 1, false)] [.sli .e67, .sli .e73]) := tfact_agg (by kernel_rfl) (by kernel_rfl) (by kernel_rfl)
theorem tf27 : TFact Go.Proofs.Try.prog KK 27 (.one (.sli .e82)) := tfact_one (by kernel_rfl) (by kernel_rfl) (d := .slice 82) (by kernel_rfl) rfl
theorem tf28 : TFact Go.Proofs.Try.prog KK 28 (.one (.sli .e77)) := tfact_one (by kernel_rfl) (by kernel_rfl) (d := .slice 77) (by kernel_rfl) rfl
theorem tf29 : TFact Go.Proofs.Try.prog KK 29 (.one (.sli .e115)) := tfact_one (by kernel_rfl) (by kernel_rfl) (d := .slice 115) (by kernel_rfl) rfl
theorem tf30 : TFact Go.Proofs.Try.prog KK 30 (.one (.sli .e118)) := tfact_one (by kernel_rfl) (by kernel_rfl) (d := .slice 118) (by kernel_rfl) rfl
theorem tf31 : TFact Go.Proofs.Try.prog KK 31 (.agg [(0, 1, false), (1, 1, false), (2, 1, false), (3, 1, false), (4, 1, false), (5, 1, false), (6, 1, false)] [.int .i64, .int .i64, .int .i64, .sli .e82, .sli .e77, .sli .e115, .sli .e118]) := tfact_agg (by kernel_rfl) (by kernel_rfl) (by kernel_rfl)
theorem tf32 : TFact Go.Proofs.Try.prog KK 32 (.agg [(0, 1, false), (1, 1, false), (2, 1, false), (3, 1, false), (4, 1, false), (5, 1, false), (6, 1, false)] [.int .i64, .int .i64, .int .i64, .sli .e82, .sli .e77, .sli .e115, .sli .e118]) := tfact_agg (by kernel_rfl) (by kernel_rfl) (by kernel_rfl)
theorem tf33 : TFact Go.Proofs.Try.prog KK 33 (.one (.sli .e121)) := tfact_one (by kernel_rfl) (by kernel_rfl) (d := .slice 121) (by kernel_rfl) rfl
theorem tf34 : TFact Go.Proofs.Try.prog KK 34 (.one (.sli .e124)) := tfact_one (by kernel_rfl) (by kernel_rfl) (d := .slice 124) (by kernel_rfl) rfl
theorem tf35 : TFact Go.Proofs.Try.prog KK 35 (.one (.sli .e127)) := tfact_one (by kernel_rfl) (by kernel_rfl) (d := .slice 127) (by kernel_rfl) rfl
theorem tf36 : TFact Go.Proofs.Try.prog KK 36 (.agg [(0, 1, false), (1, 1, false), (2, 1, false), (3, 1, false)] [.int .i64, .sli .e121, .sli .e124, .sli .e127]) := tfact_agg (by kernel_rfl) (by kernel_rfl) (by kernel_rfl)
theorem tf37 : TFact Go.Proofs.Try.prog KK 37 (.agg [(0, 1, false), (1, 1, false), (2, 1, false), (3, 1, false)] [.int .i64, .sli .e121, .sli .e124, .sli .e127]) := tfact_agg (by kernel_rfl) (by kernel_rfl) (by kernel_rfl)
theorem tf38 : TFact Go.Proofs.Try.prog KK 38 (.agg [(0, 7, true), (7, 4, true)] [.int .i64, .int .i64, .int .i64, .sli .e82, .sli .e77, .sli .e115, .sli .e118, .int .i64, .sli .e121, .sli .e124, .sli .e127]) := tfact_agg (by kernel_rfl) (by kernel_rfl) (by kernel_rfl)
theorem tf39 : TFact Go.Proofs.Try.prog KK 39 (.agg [(0, 7, true), (7, 4, true)] [.int .i64, .int .i64, .int .i64, .sli .e82, .sli .e77, .sli .e115, .sli .e118, .int .i64, .sli .e121, .sli .e124, .sli .e127]) := tfact_agg (by kernel_rfl) (by kernel_rfl) (by kernel_rfl)
theorem tf41 : TFact Go.Proofs.Try.prog KK 41 (.one (.sli .e85)) := tfact_one (by kernel_rfl) (by kernel_rfl) (d := .slice 85) (by kernel_rfl) rfl
theorem tf42 : TFact Go.Proofs.Try.prog KK 42 (.agg [(0, 1, false), (1, 1, false)] [.sli .e85, .sli .e77]) := tfact_agg (by kernel_rfl) (by kernel_rfl) (by kernel_rfl)
theorem tf43 : TFact Go.Proofs.Try.prog KK 43 (.agg [(0, 1, false), (1, 1, false)] [.sli .e85, .sli .e77]) := tfact_agg (by kernel_rfl) (by kernel_rfl) (by kernel_rfl)
theorem tf66 : TFact Go.Proofs.Try.prog KK 66 (.agg [(0, 1, false), (1, 1, false)] [.str, .str]) := tfact_agg (by kernel_rfl) (by kernel_rfl) (by kernel_rfl)
theorem tf67 : TFact Go.Proofs.Try.prog KK 67 (.agg [(0, 1, false), (1, 1, false)] [.str, .str]) := tfact_agg (by kernel_rfl) (by kernel_rfl) (by kernel_rfl)
theorem tf69 : TFact Go.Proofs.Try.prog KK 69 (.one (.sli .e3)) := tfact_one (by kernel_rfl) (by kernel_rfl) (d := .slice 3) (by kernel_rfl) rfl
theorem tf70 : TFact Go.Proofs.Try.prog KK 70 (.agg [(0, 1, false), (1, 1, false), (2, 1, false), (3, 1, false)] [.sli .e3, .str, .str, .str]) := tfact_agg (by kernel_rfl) (by kernel_rfl) (by kernel_rfl)
theorem tf71 : TFact Go.Proofs.Try.prog KK 71 (.agg [(0, 1, false), (1, 1, false), (2, 1, false), (3, 1, false)] [.sli .e3, .str, .str, .str]) := tfact_agg (by kernel_rfl) (by kernel_rfl) (by kernel_rfl)
theorem tf72 : TFact Go.Proofs.Try.prog KK 72 (.agg [(0, 1, false), (1, 1, false), (2, 1, false), (3, 4, true)] [.int .i64, .str, .str, .sli .e3, .str, .str, .str]) := tfact_agg (by kernel_rfl) (by kernel_rfl) (by kernel_rfl)
theorem tf73 : TFact Go.Proofs.Try.prog KK 73 (.agg [(0, 1, false), (1, 1, false), (2, 1, false), (3, 4, true)] [.int .i64, .str, .str, .sli .e3, .str, .str, .str]) := tfact_agg (by kernel_rfl) (by kernel_rfl) (by kernel_rfl)
theorem tf75 : TFact Go.Proofs.Try.prog KK 75 (.agg [(0, 1, false), (1, 1, false), (2, 1, false), (3, 1, false)] [.sli .e3, .str, .str, .str]) := tfact_agg (by kernel_rfl) (by kernel_rfl) (by kernel_rfl)
theorem tf76 : TFact Go.Proofs.Try.prog KK 76 (.agg [(0, 1, false), (1, 1, false), (2, 1, false), (3, 4, true)] [.int .i64, .str, .str, .sli .e3, .str, .str, .str]) := tfact_agg (by kernel_rfl) (by kernel_rfl) (by kernel_rfl)
theorem tf77 : TFact Go.Proofs.Try.prog KK 77 (.agg [(0, 1, false), (1, 1, false), (2, 1, false), (3, 4, true)] [.int .i64, .str, .str, .sli .e3, .str, .str, .str]) := tfact_agg (by kernel_rfl) (by kernel_rfl) (by kernel_rfl)
theorem tf80 : TFact Go.Proofs.Try.prog KK 80 (.one (.sli .e9)) := tfact_one (by kernel_rfl) (by kernel_rfl) (d := .slice 9) (by kernel_rfl) rfl
theorem tf81 : TFact Go.Proofs.Try.prog KK 81 (.agg [(0, 1, false), (1, 1, false), (2, 1, false), (3, 1, false), (4, 1, false), (5, 1, false), (6, 1, false)] [.str, .str, .str, .sli .e9, .bool, .sli .e9, .int .i64]) := tfact_agg (by kernel_rfl) (by kernel_rfl) (by kernel_rfl)
theorem tf82 : TFact Go.Proofs.Try.prog KK 82 (.agg [(0, 1, false), (1, 1, false), (2, 1, false), (3, 1, false), (4, 1, false), (5, 1, false), (6, 1, false)] [.str, .str, .str, .sli .e9, .bool, .sli .e9, .int .i64]) := tfact_agg (by kernel_rfl) (by kernel_rfl) (by kernel_rfl)
theorem tf85 : TFact Go.Proofs.Try.prog KK 85 (.agg [(0, 1, false), (1, 1, false)] [.str, .str]) := tfact_agg (by kernel_rfl) (by kernel_rfl) (by kernel_rfl)
theorem tf114 : TFact Go.Proofs.Try.prog KK 114 (.agg [(0, 1, false), (1, 1, false), (2, 1, false), (3, 1, false)] [.str, .str, .int .i64, .int .i64]) := tfact_agg (by kernel_rfl) (by kernel_rfl) (by kernel_rfl)
theorem tf115 : TFact Go.Proofs.Try.prog KK 115 (.agg [(0, 1, false), (1, 1, false), (2, 1, false), (3, 1, false)] [.str, .str, .int .i64, .int .i64]) := tfact_agg (by kernel_rfl) (by kernel_rfl) (by kernel_rfl)
theorem tf117 : TFact Go.Proofs.Try.prog KK 117 (.agg [(0, 1, false), (1, 1, false), (2, 1, false), (3, 1, false), (4, 1, false)] [.str, .str, .str, .int .i64, .int .i64]) := tfact_agg (by kernel_rfl) (by kernel_rfl) (by kernel_rfl)
theorem tf118 : TFact Go.Proofs.Try.prog KK 118 (.agg [(0, 1, false), (1, 1, false), (2, 1, false), (3, 1, false), (4, 1, false)] [.str, .str, .str, .int .i64, .int .i64]) := tfact_agg (by kernel_rfl) (by kernel_rfl) (by kernel_rfl)
theorem tf120 : TFact Go.Proofs.Try.prog KK 120 (.agg [(0, 1, false), (1, 1, false), (2, 1, false), (3, 1, false), (4, 1, false), (5, 1, false), (6, 1, false), (7, 1, false), (8, 1, false), (9, 1, false), (10, 1, false), (11, 1, false), (12, 1, false)] [.str, .int .i64, .bool, .int .i64, .int .i64, .int .i64, .int .i64, .int .i64, .int .i64, .int .i64, .int .i64, .int .i64, .int .i64]) := tfact_agg (by kernel_rfl) (by kernel_rfl) (by kernel_rfl)
theorem tf121 : TFact Go.Proofs.Try.prog KK 121 (.agg [(0, 1, false), (1, 1, false), (2, 1, false), (3, 1, false), (4, 1, false), (5, 1, false), (6, 1, false), (7, 1, false), (8, 1, false), (9, 1, false), (10, 1, false), (11, 1, false), (12, 1, false)] [.str, .int .i64, .bool, .int .i64, .int .i64, .int .i64, .int .i64, .int .i64, .int .i64, .int .i64, .int .i64, .int .i64, .int .i64]) := tfact_agg (by kernel_rfl) (by kernel_rfl) (by kernel_rfl)
theorem tf123 : TFact Go.Proofs.Try.prog KK 123 (.agg [(0, 1, false), (1, 1, false), (2, 1, false), (3, 1, false), (4, 1, false), (5, 1, false), (6, 1, false)] [.str, .int .i64, .int .i64, .int .i64, .int .i64, .bool, .str]) := tfact_agg (by kernel_rfl) (by kernel_rfl) (by kernel_rfl)
theorem tf124 : TFact Go.Proofs.Try.prog KK 124 (.agg [(0, 1, false), (1, 1, false), (2, 1, false), (3, 1, false), (4, 1, false), (5, 1, false), (6, 1, false)] [.str, .int .i64, .int .i64, .int .i64, .int .i64, .bool, .str]) := tfact_agg (by kernel_rfl) (by kernel_rfl) (by kernel_rfl)
theorem tf126 : TFact Go.Proofs.Try.prog KK 126 (.agg [(0, 1, false), (1, 1, false)] [.str, .bool]) := tfact_agg (by kernel_rfl) (by kernel_rfl) (by kernel_rfl)
theorem tf127 : TFact Go.Proofs.Try.prog KK 127 (.agg [(0, 1, false), (1, 1, false)] [.str, .bool]) := tfact_agg (by kernel_rfl) (by kernel_rfl) (by kernel_rfl)
theorem tf129 : TFact Go.Proofs.Try.prog KK 129 (.one (.sli .e5)) := tfact_one (by kernel_rfl) (by kernel_rfl) (d := .slice 5) (by kernel_rfl) rfl
theorem tf134 : TFact Go.Proofs.Try.prog KK 134 (.agg [(0, 1, false), (1, 1, false), (2, 1, false), (3, 1, false)] [.ptr, .ptr, .ptr, .str]) := tfact_agg (by kernel_rfl) (by kernel_rfl) (by kernel_rfl)
theorem tf135 : TFact Go.Proofs.Try.prog KK 135 (.agg [(0, 1, false), (1, 1, false), (2, 1, false), (3, 1, false)] [.ptr, .ptr, .ptr, .str]) := tfact_agg (by kernel_rfl) (by kernel_rfl) (by kernel_rfl)
theorem tf140 : TFact Go.Proofs.Try.prog KK 140 (.one (.int .u32)) := tfact_one (by kernel_rfl) (by kernel_rfl) (d := .int .u32) (by kernel_rfl) rfl
theorem tf141 : TFact Go.Proofs.Try.prog KK 141 (.one (.int .u8)) := tfact_one (by kernel_rfl) (by kernel_rfl) (d := .int .u8) (by kernel_rfl) rfl
theorem tf142 : TFact Go.Proofs.Try.prog KK 142 (.one (.int .u8)) := tfact_one (by kernel_rfl) (by kernel_rfl) (d := .int .u8) (by kernel_rfl) rfl
theorem tf144 : TFact Go.Proofs.Try.prog KK 144 (.one (.ptr)) := tfact_one (by kernel_rfl) (by kernel_rfl) (d := .pointer 5) (by kernel_rfl) ⟨_, rfl⟩
theorem tf145 : TFact Go.Proofs.Try.prog KK 145 (.one (.int .i32)) := tfact_one (by kernel_rfl) (by kernel_rfl) (d := .int .i32) (by kernel_rfl) rfl
theorem tf146 : TFact Go.Proofs.Try.prog KK 146 (.one (.int .i32)) := tfact_one (by kernel_rfl) (by kernel_rfl) (d := .int .i32) (by kernel_rfl) rfl
theorem tf153 : TFact Go.Proofs.Try.prog KK 153 (.agg [(0, 1, false), (1, 1, false)] [.str, .str]) := tfact_agg (by kernel_rfl) (by kernel_rfl) (by kernel_rfl)
theorem tf154 : TFact Go.Proofs.Try.prog KK 154 (.agg [(0, 1, false), (1, 1, false)] [.str, .str]) := tfact_agg (by kernel_rfl) (by kernel_rfl) (by kernel_rfl)
theorem tks_ok : ∀ T k, lk tks T = some k → TFact Go.Proofs.Try.prog KK T k := tk_of (by
  intro x hx
  simp only [tks, List.mem_cons, List.not_mem_nil, or_false] at hx
  rcases hx with rfl | rfl | rfl | rfl | rfl | rfl | rfl | rfl | rfl | rfl | rfl | rfl | rfl | rfl | rfl | rfl | rfl | rfl | rfl | rfl | rfl | rfl | rfl | rfl | rfl | rfl | rfl | rfl | rfl | rfl | rfl | rfl | rfl | rfl | rfl | rfl | rfl | rfl | rfl | rfl | rfl | rfl | rfl | rfl | rfl | rfl | rfl | rfl | rfl | rfl | rfl | rfl | rfl | rfl | rfl | rfl | rfl | rfl | rfl | rfl | rfl | rfl | rfl | rfl | rfl | rfl | rfl | rfl | rfl | rfl | rfl | rfl | rfl | rfl
  · exact tf2
  · exact tf3
  · exact tf4
  · exact tf5
  · exact tf6
  · exact tf7
  · exact tf8
  · exact tf9
  · exact tf10
  · exact tf11
  · exact tf12
  · exact tf13
  · exact tf14
  · exact tf15
  · exact tf16
  · exact tf17
  · exact tf18
  · exact tf19
  · exact tf21
  · exact tf22
  · exact tf23
  · exact tf24
  · exact tf25
  · exact tf27
  · exact tf28
  · exact tf29
  · exact tf30
  · exact tf31
  · exact tf32
  · exact tf33
  · exact tf34
  · exact tf35
  · exact tf36
  · exact tf37
  · exact tf38
  · exact tf39
  · exact tf41
  · exact tf42
  · exact tf43
  · exact tf66
  · exact tf67
  · exact tf69
  · exact tf70
  · exact tf71
  · exact tf72
  · exact tf73
  · exact tf75
  · exact tf76
  · exact tf77
  · exact tf80
  · exact tf81
  · exact tf82
  · exact tf85
  · exact tf114
  · exact tf115
  · exact tf117
  · exact tf118
  · exact tf120
  · exact tf121
  · exact tf123
  · exact tf124
  · exact tf126
  · exact tf127
  · exact tf129
  · exact tf134
  · exact tf135
  · exact tf140
  · exact tf141
  · exact tf142
  · exact tf144
  · exact tf145
  · exact tf146
  · exact tf153
  · exact tf154)
theorem els_ok : ∀ t, EFact Go.Proofs.Try.prog KK t := by
  intro t
  cases t
  · exact efact (z := .int .i64 0) (by kernel_rfl) (by show 0 < 8; decide) (by kernel_rfl) (by kernel_rfl)
  · exact efact (z := .int .u8 0) (by kernel_rfl) (by show 0 < 1; decide) (by kernel_rfl) (by kernel_rfl)
  · exact efact (z := .string ⟨#[]⟩) (by kernel_rfl) (by show 0 < 16; decide) (by kernel_rfl) (by kernel_rfl)
  · exact efact (z := .agg #[.string ⟨#[]⟩, .string ⟨#[]⟩]) (by kernel_rfl) (by show 0 < 32; decide) (by kernel_rfl) (by kernel_rfl)
  · exact efact (z := .agg #[.int .i64 0, .string ⟨#[]⟩, .string ⟨#[]⟩, .slice none 0 0, .string ⟨#[]⟩, .string ⟨#[]⟩, .string ⟨#[]⟩]) (by kernel_rfl) (by show 0 < 112; decide) (by kernel_rfl) (by kernel_rfl)
  · exact efact (z := .agg #[.int .i64 0, .string ⟨#[]⟩, .string ⟨#[]⟩, .slice none 0 0, .string ⟨#[]⟩, .string ⟨#[]⟩, .string ⟨#[]⟩]) (by kernel_rfl) (by show 0 < 112; decide) (by kernel_rfl) (by kernel_rfl)
  · exact efact (z := .agg #[.string ⟨#[]⟩, .string ⟨#[]⟩, .string ⟨#[]⟩, .slice none 0 0, .bool false, .slice none 0 0, .int .i64 0]) (by kernel_rfl) (by show 0 < 112; decide) (by kernel_rfl) (by kernel_rfl)
  · exact efact (z := .agg #[.string ⟨#[]⟩, .string ⟨#[]⟩]) (by kernel_rfl) (by show 0 < 32; decide) (by kernel_rfl) (by kernel_rfl)
  · exact efact (z := .agg #[.string ⟨#[]⟩, .string ⟨#[]⟩, .int .i64 0, .int .i64 0]) (by kernel_rfl) (by show 0 < 48; decide) (by kernel_rfl) (by kernel_rfl)
  · exact efact (z := .agg #[.string ⟨#[]⟩, .string ⟨#[]⟩, .string ⟨#[]⟩, .int .i64 0, .int .i64 0]) (by kernel_rfl) (by show 0 < 64; decide) (by kernel_rfl) (by kernel_rfl)
  · exact efact (z := .agg #[.string ⟨#[]⟩, .int .i64 0, .bool false, .int .i64 0, .int .i64 0, .int .i64 0, .int .i64 0, .int .i64 0, .int .i64 0, .int .i64 0, .int .i64 0, .int .i64 0, .int .i64 0]) (by kernel_rfl) (by show 0 < 112; decide) (by kernel_rfl) (by kernel_rfl)
  · exact efact (z := .agg #[.string ⟨#[]⟩, .int .i64 0, .int .i64 0, .int .i64 0, .int .i64 0, .bool false, .string ⟨#[]⟩]) (by kernel_rfl) (by show 0 < 72; decide) (by kernel_rfl) (by kernel_rfl)
  · exact efact (z := .agg #[.string ⟨#[]⟩, .bool false]) (by kernel_rfl) (by show 0 < 24; decide) (by kernel_rfl) (by kernel_rfl)
end Go.Proofs.Ytpdindhlnehfcaa.Ab
