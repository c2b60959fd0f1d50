/- A codec, printed by codec.py: structures, cells, the table of types and its facts. -/
import Derived.Test.YtgpopgfidphheaaAb27
import Derived.Test.YtgpopgfidphheaaProg
import Derived.KernelRfl
set_option linter.unusedVariables false
set_option linter.unusedSimpArgs false
namespace Go.Proofs.Ytgpopgfidphheaa.Ab
open Go Go.RowKit
inductive Ty where
  | e3
  | e5
  | e9
  | e64
  | e70
  | e74
  | e84
  | e86
  | e98
  | e116
  | e119
  | e132
  | e134
  deriving DecidableEq
structure VGateTeam where
  Name : ByteArray
  Over : ByteArray
structure VGateGrant where
  Number : Int
  To : ByteArray
  By : ByteArray
  Rule_Verbs : List Int
  Rule_Kind : ByteArray
  Rule_Team : ByteArray
  Rule_Prefix : ByteArray
structure VRecSlot where
  Ballot : Int
  Text : ByteArray
structure VRecMessage where
  Kind : Int
  From : Int
  To : Int
  Ballot : Int
  Index : Int
  Known : Int
  Text : ByteArray
  Slots : List VRecSlot
structure VRecAck where
  Index : Int
  From : List Int
structure VRecorder where
  Number : Int
  Of : Int
  Up : Bool
  Safe_Promise : Int
  Safe_Known : Int
  Safe_Slots : List VRecSlot
  Disk_Promise : Int
  Disk_Known : Int
  Disk_Slots : List VRecSlot
  Held : List VRecMessage
  Wishes : List ByteArray
  Lead : Bool
  Trying : Bool
  Ballot : Int
  Yes : List Int
  Best : List VRecSlot
  Acks : List VRecAck
  Heard : Int
structure VHallAsked where
  Text : ByteArray
  From : Int
  To : Int
  Said_Code : Int
  Said_Place : Int
  Said_Version : Int
structure VRecFix where
  Index : Int
  Text : ByteArray
structure VboundsError where
  x : Int
  y : Int
  signed : Bool
  code : Int
structure VerrorAddressString where
  msg : ByteArray
  addr : Int
structure VHallHouse where
  Teams : List VGateTeam
  Grants : List VGateGrant
structure VRecWorld where
  Recorders : List VRecorder
  Flight : List VRecMessage
  Fixed : List VRecFix
structure VHallWorld where
  House_Teams : List VGateTeam
  House_Grants : List VGateGrant
  Rec_Recorders : List VRecorder
  Rec_Flight : List VRecMessage
  Rec_Fixed : List VRecFix
  Now : Int
  Asked : List VHallAsked
structure VGateRule where
  Verbs : List Int
  Kind : ByteArray
  Team : ByteArray
  Prefix : ByteArray
structure VRecDisk where
  Promise : Int
  Known : Int
  Slots : List VRecSlot
structure VGateSaid where
  Code : Int
  Place : Int
  Version : Int
abbrev C : Ty → Type
  | .e3 => Int
  | .e5 => Int
  | .e9 => ByteArray
  | .e64 => VGateTeam
  | .e70 => VGateGrant
  | .e74 => VGateGrant
  | .e84 => VRecorder
  | .e86 => VGateTeam
  | .e98 => VHallAsked
  | .e116 => VRecMessage
  | .e119 => VRecFix
  | .e132 => VRecSlot
  | .e134 => VRecAck
def enc : (t : Ty) → C t → List (Lf C)
  | .e3, x => [.int .i64 x]
  | .e5, x => [.int .u8 x]
  | .e9, x => [.str x]
  | .e64, x => [.str x.Name, .str x.Over]
  | .e70, x => [.int .i64 x.Number, .str x.To, .str x.By, .row .e3 x.Rule_Verbs, .str x.Rule_Kind, .str x.Rule_Team, .str x.Rule_Prefix]
  | .e74, x => [.int .i64 x.Number, .str x.To, .str x.By, .row .e3 x.Rule_Verbs, .str x.Rule_Kind, .str x.Rule_Team, .str x.Rule_Prefix]
  | .e84, x => [.int .i64 x.Number, .int .i64 x.Of, .bool x.Up, .int .i64 x.Safe_Promise, .int .i64 x.Safe_Known, .row .e132 x.Safe_Slots, .int .i64 x.Disk_Promise, .int .i64 x.Disk_Known, .row .e132 x.Disk_Slots, .row .e116 x.Held, .row .e9 x.Wishes, .bool x.Lead, .bool x.Trying, .int .i64 x.Ballot, .row .e3 x.Yes, .row .e132 x.Best, .row .e134 x.Acks, .int .i64 x.Heard]
  | .e86, x => [.str x.Name, .str x.Over]
  | .e98, x => [.str x.Text, .int .i64 x.From, .int .i64 x.To, .int .i64 x.Said_Code, .int .i64 x.Said_Place, .int .i64 x.Said_Version]
  | .e116, x => [.int .i64 x.Kind, .int .i64 x.From, .int .i64 x.To, .int .i64 x.Ballot, .int .i64 x.Index, .int .i64 x.Known, .str x.Text, .row .e132 x.Slots]
  | .e119, x => [.int .i64 x.Index, .str x.Text]
  | .e132, x => [.int .i64 x.Ballot, .str x.Text]
  | .e134, x => [.int .i64 x.Index, .row .e3 x.From]
def d3 (cs : List (Lf C)) : Option (C .e3) := match cs with
  | [.int .i64 x] => some x
  | _ => none
theorem d3_ok (cs : List (Lf C)) (x : C .e3) (h : d3 cs = some x) : enc .e3 x = cs := by
  unfold d3 at h
  split at h
  · cases h; rfl
  · cases h
def d5 (cs : List (Lf C)) : Option (C .e5) := match cs with
  | [.int .u8 x] => some x
  | _ => none
theorem d5_ok (cs : List (Lf C)) (x : C .e5) (h : d5 cs = some x) : enc .e5 x = cs := by
  unfold d5 at h
  split at h
  · cases h; rfl
  · cases h
def d9 (cs : List (Lf C)) : Option (C .e9) := match cs with
  | [.str x] => some x
  | _ => none
theorem d9_ok (cs : List (Lf C)) (x : C .e9) (h : d9 cs = some x) : enc .e9 x = cs := by
  unfold d9 at h
  split at h
  · cases h; rfl
  · cases h
def d64 (cs : List (Lf C)) : Option (C .e64) := match cs with
  | [.str x0, .str x1] => some ⟨x0, x1⟩
  | _ => none
theorem d64_ok (cs : List (Lf C)) (x : C .e64) (h : d64 cs = some x) : enc .e64 x = cs := by
  unfold d64 at h
  split at h
  · cases h; rfl
  · cases h
def d70 (cs : List (Lf C)) : Option (C .e70) := match cs with
  | [.int .i64 x0, .str x1, .str x2, .row .e3 x3, .str x4, .str x5, .str x6] => some ⟨x0, x1, x2, x3, x4, x5, x6⟩
  | _ => none
theorem d70_ok (cs : List (Lf C)) (x : C .e70) (h : d70 cs = some x) : enc .e70 x = cs := by
  unfold d70 at h
  split at h
  · cases h; rfl
  · cases h
def d74 (cs : List (Lf C)) : Option (C .e74) := match cs with
  | [.int .i64 x0, .str x1, .str x2, .row .e3 x3, .str x4, .str x5, .str x6] => some ⟨x0, x1, x2, x3, x4, x5, x6⟩
  | _ => none
theorem d74_ok (cs : List (Lf C)) (x : C .e74) (h : d74 cs = some x) : enc .e74 x = cs := by
  unfold d74 at h
  split at h
  · cases h; rfl
  · cases h
def d84 (cs : List (Lf C)) : Option (C .e84) := match cs with
  | [.int .i64 x0, .int .i64 x1, .bool x2, .int .i64 x3, .int .i64 x4, .row .e132 x5, .int .i64 x6, .int .i64 x7, .row .e132 x8, .row .e116 x9, .row .e9 x10, .bool x11, .bool x12, .int .i64 x13, .row .e3 x14, .row .e132 x15, .row .e134 x16, .int .i64 x17] => some ⟨x0, x1, x2, x3, x4, x5, x6, x7, x8, x9, x10, x11, x12, x13, x14, x15, x16, x17⟩
  | _ => none
theorem d84_ok (cs : List (Lf C)) (x : C .e84) (h : d84 cs = some x) : enc .e84 x = cs := by
  unfold d84 at h
  split at h
  · cases h; rfl
  · cases h
def d86 (cs : List (Lf C)) : Option (C .e86) := match cs with
  | [.str x0, .str x1] => some ⟨x0, x1⟩
  | _ => none
theorem d86_ok (cs : List (Lf C)) (x : C .e86) (h : d86 cs = some x) : enc .e86 x = cs := by
  unfold d86 at h
  split at h
  · cases h; rfl
  · cases h
def d98 (cs : List (Lf C)) : Option (C .e98) := match cs with
  | [.str x0, .int .i64 x1, .int .i64 x2, .int .i64 x3, .int .i64 x4, .int .i64 x5] => some ⟨x0, x1, x2, x3, x4, x5⟩
  | _ => none
theorem d98_ok (cs : List (Lf C)) (x : C .e98) (h : d98 cs = some x) : enc .e98 x = cs := by
  unfold d98 at h
  split at h
  · cases h; rfl
  · cases h
def d116 (cs : List (Lf C)) : Option (C .e116) := match cs with
  | [.int .i64 x0, .int .i64 x1, .int .i64 x2, .int .i64 x3, .int .i64 x4, .int .i64 x5, .str x6, .row .e132 x7] => some ⟨x0, x1, x2, x3, x4, x5, x6, x7⟩
  | _ => none
theorem d116_ok (cs : List (Lf C)) (x : C .e116) (h : d116 cs = some x) : enc .e116 x = cs := by
  unfold d116 at h
  split at h
  · cases h; rfl
  · cases h
def d119 (cs : List (Lf C)) : Option (C .e119) := match cs with
  | [.int .i64 x0, .str x1] => some ⟨x0, x1⟩
  | _ => none
theorem d119_ok (cs : List (Lf C)) (x : C .e119) (h : d119 cs = some x) : enc .e119 x = cs := by
  unfold d119 at h
  split at h
  · cases h; rfl
  · cases h
def d132 (cs : List (Lf C)) : Option (C .e132) := match cs with
  | [.int .i64 x0, .str x1] => some ⟨x0, x1⟩
  | _ => none
theorem d132_ok (cs : List (Lf C)) (x : C .e132) (h : d132 cs = some x) : enc .e132 x = cs := by
  unfold d132 at h
  split at h
  · cases h; rfl
  · cases h
def d134 (cs : List (Lf C)) : Option (C .e134) := match cs with
  | [.int .i64 x0, .row .e3 x1] => some ⟨x0, x1⟩
  | _ => none
theorem d134_ok (cs : List (Lf C)) (x : C .e134) (h : d134 cs = some x) : enc .e134 x = cs := by
  unfold d134 at h
  split at h
  · cases h; rfl
  · cases h
def dec (t : Ty) : List (Lf C) → Option (C t) := match t with
  | .e3 => d3
  | .e5 => d5
  | .e9 => d9
  | .e64 => d64
  | .e70 => d70
  | .e74 => d74
  | .e84 => d84
  | .e86 => d86
  | .e98 => d98
  | .e116 => d116
  | .e119 => d119
  | .e132 => d132
  | .e134 => d134
noncomputable def KK : Cd C where
  enc := enc
  dec := dec
  sz := fun t => match t with
    | .e3 => 1
    | .e5 => 1
    | .e9 => 1
    | .e64 => 2
    | .e70 => 7
    | .e74 => 7
    | .e84 => 18
    | .e86 => 2
    | .e98 => 6
    | .e116 => 8
    | .e119 => 2
    | .e132 => 2
    | .e134 => 2
  tid := fun t => match t with
    | .e3 => 3
    | .e5 => 5
    | .e9 => 9
    | .e64 => 64
    | .e70 => 70
    | .e74 => 74
    | .e84 => 84
    | .e86 => 86
    | .e98 => 98
    | .e116 => 116
    | .e119 => 119
    | .e132 => 132
    | .e134 => 134
  bytes := fun t => match t with
    | .e3 => 8
    | .e5 => 1
    | .e9 => 16
    | .e64 => 32
    | .e70 => 112
    | .e74 => 112
    | .e84 => 248
    | .e86 => 32
    | .e98 => 56
    | .e116 => 88
    | .e119 => 24
    | .e132 => 24
    | .e134 => 32
  zero := fun t => match t with
    | .e3 => (0 : Int)
    | .e5 => (0 : Int)
    | .e9 => (⟨#[]⟩ : ByteArray)
    | .e64 => (⟨⟨#[]⟩, ⟨#[]⟩⟩ : VGateTeam)
    | .e70 => (⟨0, ⟨#[]⟩, ⟨#[]⟩, [], ⟨#[]⟩, ⟨#[]⟩, ⟨#[]⟩⟩ : VGateGrant)
    | .e74 => (⟨0, ⟨#[]⟩, ⟨#[]⟩, [], ⟨#[]⟩, ⟨#[]⟩, ⟨#[]⟩⟩ : VGateGrant)
    | .e84 => (⟨0, 0, false, 0, 0, [], 0, 0, [], [], [], false, false, 0, [], [], [], 0⟩ : VRecorder)
    | .e86 => (⟨⟨#[]⟩, ⟨#[]⟩⟩ : VGateTeam)
    | .e98 => (⟨⟨#[]⟩, 0, 0, 0, 0, 0⟩ : VHallAsked)
    | .e116 => (⟨0, 0, 0, 0, 0, 0, ⟨#[]⟩, []⟩ : VRecMessage)
    | .e119 => (⟨0, ⟨#[]⟩⟩ : VRecFix)
    | .e132 => (⟨0, ⟨#[]⟩⟩ : VRecSlot)
    | .e134 => (⟨0, []⟩ : VRecAck)
  pos := fun t => by cases t <;> decide
  enc_len := fun t x => by cases t <;> rfl
  enc_dec := fun t cs x h => by
    cases t
    · exact d3_ok cs x h
    · exact d5_ok cs x h
    · exact d9_ok cs x h
    · exact d64_ok cs x h
    · exact d70_ok cs x h
    · exact d74_ok cs x h
    · exact d84_ok cs x h
    · exact d86_ok cs x h
    · exact d98_ok cs x h
    · exact d116_ok cs x h
    · exact d119_ok cs x h
    · exact d132_ok cs x h
    · exact d134_ok cs x h
  enc_plain := fun t x l h => by
    cases t <;> simp only [enc, List.mem_cons, List.not_mem_nil, or_false] at h <;> (first | (subst h; rfl) | (rcases h with rfl <;> rfl) | (repeat (rcases h with rfl | h; · rfl)) <;> (subst h; rfl))
  flat := fun t => match t with
    | .e3 => true
    | .e5 => true
    | .e9 => true
    | .e64 => true
    | .e70 => false
    | .e74 => false
    | .e84 => false
    | .e86 => true
    | .e98 => true
    | .e116 => false
    | .e119 => true
    | .e132 => true
    | .e134 => false
  byte := fun t => match t with
    | .e3 => false
    | .e5 => true
    | .e9 => false
    | .e64 => false
    | .e70 => false
    | .e74 => false
    | .e84 => false
    | .e86 => false
    | .e98 => false
    | .e116 => false
    | .e119 => false
    | .e132 => false
    | .e134 => false
  enc_byte := fun t ht x => by cases t <;> first | (cases ht; done) | exact ⟨_, rfl⟩
  enc_flat := fun t ht x t' ys h => by cases t <;> first | (cases ht; done) | (simp [enc] at h)
def tks : List (Nat × TK Ty) := [
  (2, .one (.int .i64)),
  (3, .one (.int .i64)),
  (4, .one (.bool)),
  (5, .one (.int .u8)),
  (6, .one (.int .u8)),
  (7, .agg [(0, 1, false), (1, 1, false), (2, 1, false), (3, 1, false)] [.int .i64, .int .i64, .bool, .int .u8]),
  (8, .agg [(0, 1, false), (1, 1, false), (2, 1, false), (3, 1, false)] [.int .i64, .int .i64, .bool, .int .u8]),
  (9, .one (.str)),
  (10, .one (.str)),
  (11, .one (.str)),
  (12, .one (.int .u64)),
  (13, .agg [(0, 1, false), (1, 1, false)] [.str, .int .u64]),
  (14, .agg [(0, 1, false), (1, 1, false)] [.str, .int .u64]),
  (15, .one (.ptr)),
  (16, .one (.ptr)),
  (17, .one (.ptr)),
  (18, .agg [(0, 1, false)] [.ptr]),
  (19, .agg [(0, 1, false)] [.ptr]),
  (21, .one (.int .i32)),
  (22, .one (.sli .e64)),
  (23, .one (.sli .e70)),
  (24, .agg [(0, 1, false), (1, 1, false)] [.sli .e64, .sli .e70]),
  (25, .agg [(0, 1, false), (1, 1, false)] [.sli .e64, .sli .e70]),
  (27, .one (.sli .e86)),
  (28, .one (.sli .e74)),
  (29, .agg [(0, 1, false), (1, 1, false)] [.sli .e86, .sli .e74]),
  (30, .agg [(0, 1, false), (1, 1, false)] [.sli .e86, .sli .e74]),
  (31, .one (.sli .e84)),
  (32, .one (.sli .e116)),
  (33, .one (.sli .e119)),
  (34, .agg [(0, 1, false), (1, 1, false), (2, 1, false)] [.sli .e84, .sli .e116, .sli .e119]),
  (35, .agg [(0, 1, false), (1, 1, false), (2, 1, false)] [.sli .e84, .sli .e116, .sli .e119]),
  (36, .one (.sli .e98)),
  (37, .agg [(0, 2, true), (2, 3, true), (5, 1, false), (6, 1, false)] [.sli .e86, .sli .e74, .sli .e84, .sli .e116, .sli .e119, .int .i64, .sli .e98]),
  (38, .agg [(0, 2, true), (2, 3, true), (5, 1, false), (6, 1, false)] [.sli .e86, .sli .e74, .sli .e84, .sli .e116, .sli .e119, .int .i64, .sli .e98]),
  (63, .agg [(0, 1, false), (1, 1, false)] [.str, .str]),
  (64, .agg [(0, 1, false), (1, 1, false)] [.str, .str]),
  (66, .one (.sli .e3)),
  (67, .agg [(0, 1, false), (1, 1, false), (2, 1, false), (3, 1, false)] [.sli .e3, .str, .str, .str]),
  (68, .agg [(0, 1, false), (1, 1, false), (2, 1, false), (3, 1, false)] [.sli .e3, .str, .str, .str]),
  (69, .agg [(0, 1, false), (1, 1, false), (2, 1, false), (3, 4, true)] [.int .i64, .str, .str, .sli .e3, .str, .str, .str]),
  (70, .agg [(0, 1, false), (1, 1, false), (2, 1, false), (3, 4, true)] [.int .i64, .str, .str, .sli .e3, .str, .str, .str]),
  (72, .agg [(0, 1, false), (1, 1, false), (2, 1, false), (3, 1, false)] [.sli .e3, .str, .str, .str]),
  (73, .agg [(0, 1, false), (1, 1, false), (2, 1, false), (3, 4, true)] [.int .i64, .str, .str, .sli .e3, .str, .str, .str]),
  (74, .agg [(0, 1, false), (1, 1, false), (2, 1, false), (3, 4, true)] [.int .i64, .str, .str, .sli .e3, .str, .str, .str]),
  (78, .one (.sli .e132)),
  (79, .agg [(0, 1, false), (1, 1, false), (2, 1, false)] [.int .i64, .int .i64, .sli .e132]),
  (80, .agg [(0, 1, false), (1, 1, false), (2, 1, false)] [.int .i64, .int .i64, .sli .e132]),
  (81, .one (.sli .e9)),
  (82, .one (.sli .e134)),
  (83, .agg [(0, 1, false), (1, 1, false), (2, 1, false), (3, 3, true), (6, 3, true), (9, 1, false), (10, 1, false), (11, 1, false), (12, 1, false), (13, 1, false), (14, 1, false), (15, 1, false), (16, 1, false), (17, 1, false)] [.int .i64, .int .i64, .bool, .int .i64, .int .i64, .sli .e132, .int .i64, .int .i64, .sli .e132, .sli .e116, .sli .e9, .bool, .bool, .int .i64, .sli .e3, .sli .e132, .sli .e134, .int .i64]),
  (84, .agg [(0, 1, false), (1, 1, false), (2, 1, false), (3, 3, true), (6, 3, true), (9, 1, false), (10, 1, false), (11, 1, false), (12, 1, false), (13, 1, false), (14, 1, false), (15, 1, false), (16, 1, false), (17, 1, false)] [.int .i64, .int .i64, .bool, .int .i64, .int .i64, .sli .e132, .int .i64, .int .i64, .sli .e132, .sli .e116, .sli .e9, .bool, .bool, .int .i64, .sli .e3, .sli .e132, .sli .e134, .int .i64]),
  (86, .agg [(0, 1, false), (1, 1, false)] [.str, .str]),
  (95, .agg [(0, 1, false), (1, 1, false), (2, 1, false)] [.int .i64, .int .i64, .int .i64]),
  (96, .agg [(0, 1, false), (1, 1, false), (2, 1, false)] [.int .i64, .int .i64, .int .i64]),
  (97, .agg [(0, 1, false), (1, 1, false), (2, 1, false), (3, 3, true)] [.str, .int .i64, .int .i64, .int .i64, .int .i64, .int .i64]),
  (98, .agg [(0, 1, false), (1, 1, false), (2, 1, false), (3, 3, true)] [.str, .int .i64, .int .i64, .int .i64, .int .i64, .int .i64]),
  (115, .agg [(0, 1, false), (1, 1, false), (2, 1, false), (3, 1, false), (4, 1, false), (5, 1, false), (6, 1, false), (7, 1, false)] [.int .i64, .int .i64, .int .i64, .int .i64, .int .i64, .int .i64, .str, .sli .e132]),
  (116, .agg [(0, 1, false), (1, 1, false), (2, 1, false), (3, 1, false), (4, 1, false), (5, 1, false), (6, 1, false), (7, 1, false)] [.int .i64, .int .i64, .int .i64, .int .i64, .int .i64, .int .i64, .str, .sli .e132]),
  (118, .agg [(0, 1, false), (1, 1, false)] [.int .i64, .str]),
  (119, .agg [(0, 1, false), (1, 1, false)] [.int .i64, .str]),
  (122, .one (.sli .e5)),
  (131, .agg [(0, 1, false), (1, 1, false)] [.int .i64, .str]),
  (132, .agg [(0, 1, false), (1, 1, false)] [.int .i64, .str]),
  (133, .agg [(0, 1, false), (1, 1, false)] [.int .i64, .sli .e3]),
  (134, .agg [(0, 1, false), (1, 1, false)] [.int .i64, .sli .e3]),
  (138, .agg [(0, 1, false), (1, 1, false), (2, 1, false), (3, 1, false)] [.ptr, .ptr, .ptr, .str]),
  (139, .agg [(0, 1, false), (1, 1, false), (2, 1, false), (3, 1, false)] [.ptr, .ptr, .ptr, .str]),
  (144, .one (.int .u32)),
  (145, .one (.int .u8)),
  (146, .one (.int .u8)),
  (148, .one (.ptr)),
  (149, .one (.int .i32)),
  (150, .one (.int .i32))]
theorem tf2 : TFact Go.Proofs.Try.prog KK 2 (.one (.int .i64)) := tfact_one (by kernel_rfl) (by kernel_rfl) (d := .int .i64) (by kernel_rfl) rfl
theorem tf3 : TFact Go.Proofs.Try.prog KK 3 (.one (.int .i64)) := tfact_one (by kernel_rfl) (by kernel_rfl) (d := .int .i64) (by kernel_rfl) rfl
theorem tf4 : TFact Go.Proofs.Try.prog KK 4 (.one (.bool)) := tfact_one (by kernel_rfl) (by kernel_rfl) (d := .bool) (by kernel_rfl) rfl
theorem tf5 : TFact Go.Proofs.Try.prog KK 5 (.one (.int .u8)) := tfact_one (by kernel_rfl) (by kernel_rfl) (d := .int .u8) (by kernel_rfl) rfl
theorem tf6 : TFact Go.Proofs.Try.prog KK 6 (.one (.int .u8)) := tfact_one (by kernel_rfl) (by kernel_rfl) (d := .int .u8) (by kernel_rfl) rfl
theorem tf7 : TFact Go.Proofs.Try.prog KK 7 (.agg [(0, 1, false), (1, 1, false), (2, 1, false), (3, 1, false)] [.int .i64, .int .i64, .bool, .int .u8]) := tfact_agg (by kernel_rfl) (by kernel_rfl) (by kernel_rfl)
theorem tf8 : TFact Go.Proofs.Try.prog KK 8 (.agg [(0, 1, false), (1, 1, false), (2, 1, false), (3, 1, false)] [.int .i64, .int .i64, .bool, .int .u8]) := tfact_agg (by kernel_rfl) (by kernel_rfl) (by kernel_rfl)
theorem tf9 : TFact Go.Proofs.Try.prog KK 9 (.one (.str)) := tfact_one (by kernel_rfl) (by kernel_rfl) (d := .string) (by kernel_rfl) rfl
theorem tf10 : TFact Go.Proofs.Try.prog KK 10 (.one (.str)) := tfact_one (by kernel_rfl) (by kernel_rfl) (d := .string) (by kernel_rfl) rfl
theorem tf11 : TFact Go.Proofs.Try.prog KK 11 (.one (.str)) := tfact_one (by kernel_rfl) (by kernel_rfl) (d := .string) (by kernel_rfl) rfl
theorem tf12 : TFact Go.Proofs.Try.prog KK 12 (.one (.int .u64)) := tfact_one (by kernel_rfl) (by kernel_rfl) (d := .int .u64) (by kernel_rfl) rfl
theorem tf13 : TFact Go.Proofs.Try.prog KK 13 (.agg [(0, 1, false), (1, 1, false)] [.str, .int .u64]) := tfact_agg (by kernel_rfl) (by kernel_rfl) (by kernel_rfl)
theorem tf14 : TFact Go.Proofs.Try.prog KK 14 (.agg [(0, 1, false), (1, 1, false)] [.str, .int .u64]) := tfact_agg (by kernel_rfl) (by kernel_rfl) (by kernel_rfl)
theorem tf15 : TFact Go.Proofs.Try.prog KK 15 (.one (.ptr)) := tfact_one (by kernel_rfl) (by kernel_rfl) (d := .pointer 139) (by kernel_rfl) ⟨_, rfl⟩
theorem tf16 : TFact Go.Proofs.Try.prog KK 16 (.one (.ptr)) := tfact_one (by kernel_rfl) (by kernel_rfl) (d := .pointer 142) (by kernel_rfl) ⟨_, rfl⟩
theorem tf17 : TFact Go.Proofs.Try.prog KK 17 (.one (.ptr)) := tfact_one (by kernel_rfl) (by kernel_rfl) (d := .pointer 152) (by kernel_rfl) ⟨_, rfl⟩
theorem tf18 : TFact Go.Proofs.Try.prog KK 18 (.agg [(0, 1, false)] [.ptr]) := tfact_agg (by kernel_rfl) (by kernel_rfl) (by kernel_rfl)
theorem tf19 : TFact Go.Proofs.Try.prog KK 19 (.agg [(0, 1, false)] [.ptr]) := tfact_agg (by kernel_rfl) (by kernel_rfl) (by kernel_rfl)
theorem tf21 : TFact Go.Proofs.Try.prog KK 21 (.one (.int .i32)) := tfact_one (by kernel_rfl) (by kernel_rfl) (d := .int .i32) (by kernel_rfl) rfl
theorem tf22 : TFact Go.Proofs.Try.prog KK 22 (.one (.sli .e64)) := tfact_one (by kernel_rfl) (by kernel_rfl) (d := .slice 64) (by kernel_rfl) rfl
theorem tf23 : TFact Go.Proofs.Try.prog KK 23 (.one (.sli .e70)) := tfact_one (by kernel_rfl) (by kernel_rfl) (d := .slice 70) (by kernel_rfl) rfl
theorem tf24 : TFact Go.Proofs.Try.prog KK 24 (.agg [(0, 1, false), (1, 1, false)] [.sli .e64, .sli .e70]) := tfact_agg (by kernel_rfl) (by kernel_rfl) (by kernel_rfl)
theorem tf25 : TFact Go.Proofs.Try.prog KK 25 (.agg [(0, 1, false), (1, 1, false)] [.sli .e64, .sli .e70]) := tfact_agg (by kernel_rfl) (by kernel_rfl) (by kernel_rfl)
theorem tf27 : TFact Go.Proofs.Try.prog KK 27 (.one (.sli .e86)) := tfact_one (by kernel_rfl) (by kernel_rfl) (d := .slice 86) (by kernel_rfl) rfl
theorem tf28 : TFact Go.Proofs.Try.prog KK 28 (.one (.sli .e74)) := tfact_one (by kernel_rfl) (by kernel_rfl) (d := .slice 74) (by kernel_rfl) rfl
theorem tf29 : TFact Go.Proofs.Try.prog KK 29 (.agg [(0, 1, false), (1, 1, false)] [.sli .e86, .sli .e74]) := tfact_agg (by kernel_rfl) (by kernel_rfl) (by kernel_rfl)
theorem tf30 : TFact Go.Proofs.Try.prog KK 30 (.agg [(0, 1, false), (1, 1, false)] [.sli .e86, .sli .e74]) := tfact_agg (by kernel_rfl) (by kernel_rfl) (by kernel_rfl)
theorem tf31 : TFact Go.Proofs.Try.prog KK 31 (.one (.sli .e84)) := tfact_one (by kernel_rfl) (by kernel_rfl) (d := .slice 84) (by kernel_rfl) rfl
theorem tf32 : TFact Go.Proofs.Try.prog KK 32 (.one (.sli .e116)) := tfact_one (by kernel_rfl) (by kernel_rfl) (d := .slice 116) (by kernel_rfl) rfl
theorem tf33 : TFact Go.Proofs.Try.prog KK 33 (.one (.sli .e119)) := tfact_one (by kernel_rfl) (by kernel_rfl) (d := .slice 119) (by kernel_rfl) rfl
theorem tf34 : TFact Go.Proofs.Try.prog KK 34 (.agg [(0, 1, false), (1, 1, false), (2, 1, false)] [.sli .e84, .sli .e116, .sli .e119]) := tfact_agg (by kernel_rfl) (by kernel_rfl) (by kernel_rfl)
theorem tf35 : TFact Go.Proofs.Try.prog KK 35 (.agg [(0, 1, false), (1, 1, false), (2, 1, false)] [.sli .e84, .sli .e116, .sli .e119]) := tfact_agg (by kernel_rfl) (by kernel_rfl) (by kernel_rfl)
theorem tf36 : TFact Go.Proofs.Try.prog KK 36 (.one (.sli .e98)) := tfact_one (by kernel_rfl) (by kernel_rfl) (d := .slice 98) (by kernel_rfl) rfl
theorem tf37 : TFact Go.Proofs.Try.prog KK 37 (.agg [(0, 2, true), (2, 3, true), (5, 1, false), (6, 1, false)] [.sli .e86, .sli .e74, .sli .e84, .sli .e116, .sli .e119, .int .i64, .sli .e98]) := tfact_agg (by kernel_rfl) (by kernel_rfl) (by kernel_rfl)
theorem tf38 : TFact Go.Proofs.Try.prog KK 38 (.agg [(0, 2, true), (2, 3, true), (5, 1, false), (6, 1, false)] [.sli .e86, .sli .e74, .sli .e84, .sli .e116, .sli .e119, .int .i64, .sli .e98]) := tfact_agg (by kernel_rfl) (by kernel_rfl) (by kernel_rfl)
theorem tf63 : TFact Go.Proofs.Try.prog KK 63 (.agg [(0, 1, false), (1, 1, false)] [.str, .str]) := tfact_agg (by kernel_rfl) (by kernel_rfl) (by kernel_rfl)
theorem tf64 : TFact Go.Proofs.Try.prog KK 64 (.agg [(0, 1, false), (1, 1, false)] [.str, .str]) := tfact_agg (by kernel_rfl) (by kernel_rfl) (by kernel_rfl)
theorem tf66 : TFact Go.Proofs.Try.prog KK 66 (.one (.sli .e3)) := tfact_one (by kernel_rfl) (by kernel_rfl) (d := .slice 3) (by kernel_rfl) rfl
theorem tf67 : TFact Go.Proofs.Try.prog KK 67 (.agg [(0, 1, false), (1, 1, false), (2, 1, false), (3, 1, false)] [.sli .e3, .str, .str, .str]) := tfact_agg (by kernel_rfl) (by kernel_rfl) (by kernel_rfl)
theorem tf68 : TFact Go.Proofs.Try.prog KK 68 (.agg [(0, 1, false), (1, 1, false), (2, 1, false), (3, 1, false)] [.sli .e3, .str, .str, .str]) := tfact_agg (by kernel_rfl) (by kernel_rfl) (by kernel_rfl)
theorem tf69 : TFact Go.Proofs.Try.prog KK 69 (.agg [(0, 1, false), (1, 1, false), (2, 1, false), (3, 4, true)] [.int .i64, .str, .str, .sli .e3, .str, .str, .str]) := tfact_agg (by kernel_rfl) (by kernel_rfl) (by kernel_rfl)
theorem tf70 : TFact Go.Proofs.Try.prog KK 70 (.agg [(0, 1, false), (1, 1, false), (2, 1, false), (3, 4, true)] [.int .i64, .str, .str, .sli .e3, .str, .str, .str]) := tfact_agg (by kernel_rfl) (by kernel_rfl) (by kernel_rfl)
theorem tf72 : TFact Go.Proofs.Try.prog KK 72 (.agg [(0, 1, false), (1, 1, false), (2, 1, false), (3, 1, false)] [.sli .e3, .str, .str, .str]) := tfact_agg (by kernel_rfl) (by kernel_rfl) (by kernel_rfl)
theorem tf73 : TFact Go.Proofs.Try.prog KK 73 (.agg [(0, 1, false), (1, 1, false), (2, 1, false), (3, 4, true)] [.int .i64, .str, .str, .sli .e3, .str, .str, .str]) := tfact_agg (by kernel_rfl) (by kernel_rfl) (by kernel_rfl)
theorem tf74 : TFact Go.Proofs.Try.prog KK 74 (.agg [(0, 1, false), (1, 1, false), (2, 1, false), (3, 4, true)] [.int .i64, .str, .str, .sli .e3, .str, .str, .str]) := tfact_agg (by kernel_rfl) (by kernel_rfl) (by kernel_rfl)
theorem tf78 : TFact Go.Proofs.Try.prog KK 78 (.one (.sli .e132)) := tfact_one (by kernel_rfl) (by kernel_rfl) (d := .slice 132) (by kernel_rfl) rfl
theorem tf79 : TFact Go.Proofs.Try.prog KK 79 (.agg [(0, 1, false), (1, 1, false), (2, 1, false)] [.int .i64, .int .i64, .sli .e132]) := tfact_agg (by kernel_rfl) (by kernel_rfl) (by kernel_rfl)
theorem tf80 : TFact Go.Proofs.Try.prog KK 80 (.agg [(0, 1, false), (1, 1, false), (2, 1, false)] [.int .i64, .int .i64, .sli .e132]) := tfact_agg (by kernel_rfl) (by kernel_rfl) (by kernel_rfl)
theorem tf81 : TFact Go.Proofs.Try.prog KK 81 (.one (.sli .e9)) := tfact_one (by kernel_rfl) (by kernel_rfl) (d := .slice 9) (by kernel_rfl) rfl
theorem tf82 : TFact Go.Proofs.Try.prog KK 82 (.one (.sli .e134)) := tfact_one (by kernel_rfl) (by kernel_rfl) (d := .slice 134) (by kernel_rfl) rfl
theorem tf83 : TFact Go.Proofs.Try.prog KK 83 (.agg [(0, 1, false), (1, 1, false), (2, 1, false), (3, 3, true), (6, 3, true), (9, 1, false), (10, 1, false), (11, 1, false), (12, 1, false), (13, 1, false), (14, 1, false), (15, 1, false), (16, 1, false), (17, 1, false)] [.int .i64, .int .i64, .bool, .int .i64, .int .i64, .sli .e132, .int .i64, .int .i64, .sli .e132, .sli .e116, .sli .e9, .bool, .bool, .int .i64, .sli .e3, .sli .e132, .sli .e134, .int .i64]) := tfact_agg (by kernel_rfl) (by kernel_rfl) (by kernel_rfl)
theorem tf84 : TFact Go.Proofs.Try.prog KK 84 (.agg [(0, 1, false), (1, 1, false), (2, 1, false), (3, 3, true), (6, 3, true), (9, 1, false), (10, 1, false), (11, 1, false), (12, 1, false), (13, 1, false), (14, 1, false), (15, 1, false), (16, 1, false), (17, 1, false)] [.int .i64, .int .i64, .bool, .int .i64, .int .i64, .sli .e132, .int .i64, .int .i64, .sli .e132, .sli .e116, .sli .e9, .bool, .bool, .int .i64, .sli .e3, .sli .e132, .sli .e134, .int .i64]) := tfact_agg (by kernel_rfl) (by kernel_rfl) (by kernel_rfl)
theorem tf86 : TFact Go.Proofs.Try.prog KK 86 (.agg [(0, 1, false), (1, 1, false)] [.str, .str]) := tfact_agg (by kernel_rfl) (by kernel_rfl) (by kernel_rfl)
theorem tf95 : TFact Go.Proofs.Try.prog KK 95 (.agg [(0, 1, false), (1, 1, false), (2, 1, false)] [.int .i64, .int .i64, .int .i64]) := tfact_agg (by kernel_rfl) (by kernel_rfl) (by kernel_rfl)
theorem tf96 : TFact Go.Proofs.Try.prog KK 96 (.agg [(0, 1, false), (1, 1, false), (2, 1, false)] [.int .i64, .int .i64, .int .i64]) := tfact_agg (by kernel_rfl) (by kernel_rfl) (by kernel_rfl)
theorem tf97 : TFact Go.Proofs.Try.prog KK 97 (.agg [(0, 1, false), (1, 1, false), (2, 1, false), (3, 3, true)] [.str, .int .i64, .int .i64, .int .i64, .int .i64, .int .i64]) := tfact_agg (by kernel_rfl) (by kernel_rfl) (by kernel_rfl)
theorem tf98 : TFact Go.Proofs.Try.prog KK 98 (.agg [(0, 1, false), (1, 1, false), (2, 1, false), (3, 3, true)] [.str, .int .i64, .int .i64, .int .i64, .int .i64, .int .i64]) := tfact_agg (by kernel_rfl) (by kernel_rfl) (by kernel_rfl)
theorem tf115 : TFact Go.Proofs.Try.prog KK 115 (.agg [(0, 1, false), (1, 1, false), (2, 1, false), (3, 1, false), (4, 1, false), (5, 1, false), (6, 1, false), (7, 1, false)] [.int .i64, .int .i64, .int .i64, .int .i64, .int .i64, .int .i64, .str, .sli .e132]) := tfact_agg (by kernel_rfl) (by kernel_rfl) (by kernel_rfl)
theorem tf116 : TFact Go.Proofs.Try.prog KK 116 (.agg [(0, 1, false), (1, 1, false), (2, 1, false), (3, 1, false), (4, 1, false), (5, 1, false), (6, 1, false), (7, 1, false)] [.int .i64, .int .i64, .int .i64, .int .i64, .int .i64, .int .i64, .str, .sli .e132]) := tfact_agg (by kernel_rfl) (by kernel_rfl) (by kernel_rfl)
theorem tf118 : TFact Go.Proofs.Try.prog KK 118 (.agg [(0, 1, false), (1, 1, false)] [.int .i64, .str]) := tfact_agg (by kernel_rfl) (by kernel_rfl) (by kernel_rfl)
theorem tf119 : TFact Go.Proofs.Try.prog KK 119 (.agg [(0, 1, false), (1, 1, false)] [.int .i64, .str]) := tfact_agg (by kernel_rfl) (by kernel_rfl) (by kernel_rfl)
theorem tf122 : TFact Go.Proofs.Try.prog KK 122 (.one (.sli .e5)) := tfact_one (by kernel_rfl) (by kernel_rfl) (d := .slice 5) (by kernel_rfl) rfl
theorem tf131 : TFact Go.Proofs.Try.prog KK 131 (.agg [(0, 1, false), (1, 1, false)] [.int .i64, .str]) := tfact_agg (by kernel_rfl) (by kernel_rfl) (by kernel_rfl)
theorem tf132 : TFact Go.Proofs.Try.prog KK 132 (.agg [(0, 1, false), (1, 1, false)] [.int .i64, .str]) := tfact_agg (by kernel_rfl) (by kernel_rfl) (by kernel_rfl)
theorem tf133 : TFact Go.Proofs.Try.prog KK 133 (.agg [(0, 1, false), (1, 1, false)] [.int .i64, .sli .e3]) := tfact_agg (by kernel_rfl) (by kernel_rfl) (by kernel_rfl)
theorem tf134 : TFact Go.Proofs.Try.prog KK 134 (.agg [(0, 1, false), (1, 1, false)] [.int .i64, .sli .e3]) := tfact_agg (by kernel_rfl) (by kernel_rfl) (by kernel_rfl)
theorem tf138 : TFact Go.Proofs.Try.prog KK 138 (.agg [(0, 1, false), (1, 1, false), (2, 1, false), (3, 1, false)] [.ptr, .ptr, .ptr, .str]) := tfact_agg (by kernel_rfl) (by kernel_rfl) (by kernel_rfl)
theorem tf139 : TFact Go.Proofs.Try.prog KK 139 (.agg [(0, 1, false), (1, 1, false), (2, 1, false), (3, 1, false)] [.ptr, .ptr, .ptr, .str]) := tfact_agg (by kernel_rfl) (by kernel_rfl) (by kernel_rfl)
theorem tf144 : TFact Go.Proofs.Try.prog KK 144 (.one (.int .u32)) := tfact_one (by kernel_rfl) (by kernel_rfl) (d := .int .u32) (by kernel_rfl) rfl
theorem tf145 : TFact Go.Proofs.Try.prog KK 145 (.one (.int .u8)) := tfact_one (by kernel_rfl) (by kernel_rfl) (d := .int .u8) (by kernel_rfl) rfl
theorem tf146 : TFact Go.Proofs.Try.prog KK 146 (.one (.int .u8)) := tfact_one (by kernel_rfl) (by kernel_rfl) (d := .int .u8) (by kernel_rfl) rfl
theorem tf148 : TFact Go.Proofs.Try.prog KK 148 (.one (.ptr)) := tfact_one (by kernel_rfl) (by kernel_rfl) (d := .pointer 5) (by kernel_rfl) ⟨_, rfl⟩
theorem tf149 : TFact Go.Proofs.Try.prog KK 149 (.one (.int .i32)) := tfact_one (by kernel_rfl) (by kernel_rfl) (d := .int .i32) (by kernel_rfl) rfl
theorem tf150 : TFact Go.Proofs.Try.prog KK 150 (.one (.int .i32)) := tfact_one (by kernel_rfl) (by kernel_rfl) (d := .int .i32) (by kernel_rfl) rfl
theorem tks_ok : ∀ T k, lk tks T = some k → TFact Go.Proofs.Try.prog KK T k := tk_of (by
  intro x hx
  simp only [tks, List.mem_cons, List.not_mem_nil, or_false] at hx
  rcases hx with rfl | rfl | rfl | rfl | rfl | rfl | rfl | rfl | rfl | rfl | rfl | rfl | rfl | rfl | rfl | rfl | rfl | rfl | rfl | rfl | rfl | rfl | rfl | rfl | rfl | rfl | rfl | rfl | rfl | rfl | rfl | rfl | rfl | rfl | rfl | rfl | rfl | rfl | rfl | rfl | rfl | rfl | rfl | rfl | rfl | rfl | rfl | rfl | rfl | rfl | rfl | rfl | rfl | rfl | rfl | rfl | rfl | rfl | rfl | rfl | rfl | rfl | rfl | rfl | rfl | rfl | rfl | rfl | rfl | rfl | rfl | rfl | rfl | rfl
  · exact tf2
  · exact tf3
  · exact tf4
  · exact tf5
  · exact tf6
  · exact tf7
  · exact tf8
  · exact tf9
  · exact tf10
  · exact tf11
  · exact tf12
  · exact tf13
  · exact tf14
  · exact tf15
  · exact tf16
  · exact tf17
  · exact tf18
  · exact tf19
  · exact tf21
  · exact tf22
  · exact tf23
  · exact tf24
  · exact tf25
  · exact tf27
  · exact tf28
  · exact tf29
  · exact tf30
  · exact tf31
  · exact tf32
  · exact tf33
  · exact tf34
  · exact tf35
  · exact tf36
  · exact tf37
  · exact tf38
  · exact tf63
  · exact tf64
  · exact tf66
  · exact tf67
  · exact tf68
  · exact tf69
  · exact tf70
  · exact tf72
  · exact tf73
  · exact tf74
  · exact tf78
  · exact tf79
  · exact tf80
  · exact tf81
  · exact tf82
  · exact tf83
  · exact tf84
  · exact tf86
  · exact tf95
  · exact tf96
  · exact tf97
  · exact tf98
  · exact tf115
  · exact tf116
  · exact tf118
  · exact tf119
  · exact tf122
  · exact tf131
  · exact tf132
  · exact tf133
  · exact tf134
  · exact tf138
  · exact tf139
  · exact tf144
  · exact tf145
  · exact tf146
  · exact tf148
  · exact tf149
  · exact tf150)
theorem els_ok : ∀ t, EFact Go.Proofs.Try.prog KK t := by
  intro t
  cases t
  · exact efact (z := .int .i64 0) (by kernel_rfl) (by show 0 < 8; decide) (by kernel_rfl) (by kernel_rfl)
  · exact efact (z := .int .u8 0) (by kernel_rfl) (by show 0 < 1; decide) (by kernel_rfl) (by kernel_rfl)
  · exact efact (z := .string ⟨#[]⟩) (by kernel_rfl) (by show 0 < 16; decide) (by kernel_rfl) (by kernel_rfl)
  · exact efact (z := .agg #[.string ⟨#[]⟩, .string ⟨#[]⟩]) (by kernel_rfl) (by show 0 < 32; decide) (by kernel_rfl) (by kernel_rfl)
  · exact efact (z := .agg #[.int .i64 0, .string ⟨#[]⟩, .string ⟨#[]⟩, .slice none 0 0, .string ⟨#[]⟩, .string ⟨#[]⟩, .string ⟨#[]⟩]) (by kernel_rfl) (by show 0 < 112; decide) (by kernel_rfl) (by kernel_rfl)
  · exact efact (z := .agg #[.int .i64 0, .string ⟨#[]⟩, .string ⟨#[]⟩, .slice none 0 0, .string ⟨#[]⟩, .string ⟨#[]⟩, .string ⟨#[]⟩]) (by kernel_rfl) (by show 0 < 112; decide) (by kernel_rfl) (by kernel_rfl)
  · exact efact (z := .agg #[.int .i64 0, .int .i64 0, .bool false, .int .i64 0, .int .i64 0, .slice none 0 0, .int .i64 0, .int .i64 0, .slice none 0 0, .slice none 0 0, .slice none 0 0, .bool false, .bool false, .int .i64 0, .slice none 0 0, .slice none 0 0, .slice none 0 0, .int .i64 0]) (by kernel_rfl) (by show 0 < 248; decide) (by kernel_rfl) (by kernel_rfl)
  · exact efact (z := .agg #[.string ⟨#[]⟩, .string ⟨#[]⟩]) (by kernel_rfl) (by show 0 < 32; decide) (by kernel_rfl) (by kernel_rfl)
  · exact efact (z := .agg #[.string ⟨#[]⟩, .int .i64 0, .int .i64 0, .int .i64 0, .int .i64 0, .int .i64 0]) (by kernel_rfl) (by show 0 < 56; decide) (by kernel_rfl) (by kernel_rfl)
  · exact efact (z := .agg #[.int .i64 0, .int .i64 0, .int .i64 0, .int .i64 0, .int .i64 0, .int .i64 0, .string ⟨#[]⟩, .slice none 0 0]) (by kernel_rfl) (by show 0 < 88; decide) (by kernel_rfl) (by kernel_rfl)
  · exact efact (z := .agg #[.int .i64 0, .string ⟨#[]⟩]) (by kernel_rfl) (by show 0 < 24; decide) (by kernel_rfl) (by kernel_rfl)
  · exact efact (z := .agg #[.int .i64 0, .string ⟨#[]⟩]) (by kernel_rfl) (by show 0 < 24; decide) (by kernel_rfl) (by kernel_rfl)
  · exact efact (z := .agg #[.int .i64 0, .slice none 0 0]) (by kernel_rfl) (by show 0 < 32; decide) (by kernel_rfl) (by kernel_rfl)
end Go.Proofs.Ytgpopgfidphheaa.Ab
