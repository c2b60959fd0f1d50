/- A codec, printed by codec.py: structures, cells, the table of types and its facts. -/
import Derived.Test.YtadopcpehgblcaaDoorP4
import Derived.Test.YtadopcpehgblcaaDoorProg
import Derived.KernelRfl
set_option linter.unusedVariables false
set_option linter.unusedSimpArgs false
set_option linter.unusedSectionVars false
set_option linter.unusedVariables false
set_option linter.unusedSimpArgs false
namespace Go.Proofs.YtadopcpehgblcaaDoor.Ab
open Go Go.RowKit
inductive Ty where
  | e3
  | e5
  | e9
  | e24
  | e30
  | e42
  | e44
  | e54
  | e65
  | e70
  | e93
  deriving DecidableEq
structure VSheetLine where
  Key : ByteArray
  Words : List ByteArray
structure VSheetBlock where
  Kind : ByteArray
  Name : ByteArray
  Lines : List VSheetLine
structure VSheet where
  Blocks : List VSheetBlock
structure VSheetChange where
  What : Int
  Kind : ByteArray
  Name : ByteArray
  Key : ByteArray
  Lines : List VSheetLine
structure VSheetRule where
  Key : ByteArray
  Args : List Int
  Many : Bool
  Default : List ByteArray
structure VboundsError where
  x : Int
  y : Int
  signed : Bool
  code : Int
structure VerrorAddressString where
  msg : ByteArray
  addr : Int
structure VacceptRange where
  lo : Int
  hi : Int
abbrev C : Ty → Type
  | .e3 => Int
  | .e5 => Int
  | .e9 => ByteArray
  | .e24 => VSheet
  | .e30 => VSheet
  | .e42 => VSheetBlock
  | .e44 => VSheetChange
  | .e54 => VSheetRule
  | .e65 => VSheetBlock
  | .e70 => VSheetLine
  | .e93 => VSheetLine
def enc : (t : Ty) → C t → List (Lf C)
  | .e3, x => [.int .i64 x]
  | .e5, x => [.int .u8 x]
  | .e9, x => [.str x]
  | .e24, x => [.row .e65 x.Blocks]
  | .e30, x => [.row .e42 x.Blocks]
  | .e42, x => [.str x.Kind, .str x.Name, .row .e70 x.Lines]
  | .e44, x => [.int .i64 x.What, .str x.Kind, .str x.Name, .str x.Key, .row .e70 x.Lines]
  | .e54, x => [.str x.Key, .row .e3 x.Args, .bool x.Many, .row .e9 x.Default]
  | .e65, x => [.str x.Kind, .str x.Name, .row .e93 x.Lines]
  | .e70, x => [.str x.Key, .row .e9 x.Words]
  | .e93, x => [.str x.Key, .row .e9 x.Words]
def d3 (cs : List (Lf C)) : Option (C .e3) := match cs with
  | [.int .i64 x] => some x
  | _ => none
theorem d3_ok (cs : List (Lf C)) (x : C .e3) (h : d3 cs = some x) : enc .e3 x = cs := by
  unfold d3 at h
  split at h
  · cases h; rfl
  · cases h
def d5 (cs : List (Lf C)) : Option (C .e5) := match cs with
  | [.int .u8 x] => some x
  | _ => none
theorem d5_ok (cs : List (Lf C)) (x : C .e5) (h : d5 cs = some x) : enc .e5 x = cs := by
  unfold d5 at h
  split at h
  · cases h; rfl
  · cases h
def d9 (cs : List (Lf C)) : Option (C .e9) := match cs with
  | [.str x] => some x
  | _ => none
theorem d9_ok (cs : List (Lf C)) (x : C .e9) (h : d9 cs = some x) : enc .e9 x = cs := by
  unfold d9 at h
  split at h
  · cases h; rfl
  · cases h
def d24 (cs : List (Lf C)) : Option (C .e24) := match cs with
  | [.row .e65 x0] => some ⟨x0⟩
  | _ => none
theorem d24_ok (cs : List (Lf C)) (x : C .e24) (h : d24 cs = some x) : enc .e24 x = cs := by
  unfold d24 at h
  split at h
  · cases h; rfl
  · cases h
def d30 (cs : List (Lf C)) : Option (C .e30) := match cs with
  | [.row .e42 x0] => some ⟨x0⟩
  | _ => none
theorem d30_ok (cs : List (Lf C)) (x : C .e30) (h : d30 cs = some x) : enc .e30 x = cs := by
  unfold d30 at h
  split at h
  · cases h; rfl
  · cases h
def d42 (cs : List (Lf C)) : Option (C .e42) := match cs with
  | [.str x0, .str x1, .row .e70 x2] => some ⟨x0, x1, x2⟩
  | _ => none
theorem d42_ok (cs : List (Lf C)) (x : C .e42) (h : d42 cs = some x) : enc .e42 x = cs := by
  unfold d42 at h
  split at h
  · cases h; rfl
  · cases h
def d44 (cs : List (Lf C)) : Option (C .e44) := match cs with
  | [.int .i64 x0, .str x1, .str x2, .str x3, .row .e70 x4] => some ⟨x0, x1, x2, x3, x4⟩
  | _ => none
theorem d44_ok (cs : List (Lf C)) (x : C .e44) (h : d44 cs = some x) : enc .e44 x = cs := by
  unfold d44 at h
  split at h
  · cases h; rfl
  · cases h
def d54 (cs : List (Lf C)) : Option (C .e54) := match cs with
  | [.str x0, .row .e3 x1, .bool x2, .row .e9 x3] => some ⟨x0, x1, x2, x3⟩
  | _ => none
theorem d54_ok (cs : List (Lf C)) (x : C .e54) (h : d54 cs = some x) : enc .e54 x = cs := by
  unfold d54 at h
  split at h
  · cases h; rfl
  · cases h
def d65 (cs : List (Lf C)) : Option (C .e65) := match cs with
  | [.str x0, .str x1, .row .e93 x2] => some ⟨x0, x1, x2⟩
  | _ => none
theorem d65_ok (cs : List (Lf C)) (x : C .e65) (h : d65 cs = some x) : enc .e65 x = cs := by
  unfold d65 at h
  split at h
  · cases h; rfl
  · cases h
def d70 (cs : List (Lf C)) : Option (C .e70) := match cs with
  | [.str x0, .row .e9 x1] => some ⟨x0, x1⟩
  | _ => none
theorem d70_ok (cs : List (Lf C)) (x : C .e70) (h : d70 cs = some x) : enc .e70 x = cs := by
  unfold d70 at h
  split at h
  · cases h; rfl
  · cases h
def d93 (cs : List (Lf C)) : Option (C .e93) := match cs with
  | [.str x0, .row .e9 x1] => some ⟨x0, x1⟩
  | _ => none
theorem d93_ok (cs : List (Lf C)) (x : C .e93) (h : d93 cs = some x) : enc .e93 x = cs := by
  unfold d93 at h
  split at h
  · cases h; rfl
  · cases h
def dec (t : Ty) : List (Lf C) → Option (C t) := match t with
  | .e3 => d3
  | .e5 => d5
  | .e9 => d9
  | .e24 => d24
  | .e30 => d30
  | .e42 => d42
  | .e44 => d44
  | .e54 => d54
  | .e65 => d65
  | .e70 => d70
  | .e93 => d93
noncomputable def KK : Cd C where
  enc := enc
  dec := dec
  sz := fun t => match t with
    | .e3 => 1
    | .e5 => 1
    | .e9 => 1
    | .e24 => 1
    | .e30 => 1
    | .e42 => 3
    | .e44 => 5
    | .e54 => 4
    | .e65 => 3
    | .e70 => 2
    | .e93 => 2
  tid := fun t => match t with
    | .e3 => 3
    | .e5 => 5
    | .e9 => 9
    | .e24 => 24
    | .e30 => 30
    | .e42 => 42
    | .e44 => 44
    | .e54 => 54
    | .e65 => 65
    | .e70 => 70
    | .e93 => 93
  bytes := fun t => match t with
    | .e3 => 8
    | .e5 => 1
    | .e9 => 16
    | .e24 => 24
    | .e30 => 24
    | .e42 => 56
    | .e44 => 80
    | .e54 => 72
    | .e65 => 56
    | .e70 => 40
    | .e93 => 40
  zero := fun t => match t with
    | .e3 => (0 : Int)
    | .e5 => (0 : Int)
    | .e9 => (⟨#[]⟩ : ByteArray)
    | .e24 => (⟨[]⟩ : VSheet)
    | .e30 => (⟨[]⟩ : VSheet)
    | .e42 => (⟨⟨#[]⟩, ⟨#[]⟩, []⟩ : VSheetBlock)
    | .e44 => (⟨0, ⟨#[]⟩, ⟨#[]⟩, ⟨#[]⟩, []⟩ : VSheetChange)
    | .e54 => (⟨⟨#[]⟩, [], false, []⟩ : VSheetRule)
    | .e65 => (⟨⟨#[]⟩, ⟨#[]⟩, []⟩ : VSheetBlock)
    | .e70 => (⟨⟨#[]⟩, []⟩ : VSheetLine)
    | .e93 => (⟨⟨#[]⟩, []⟩ : VSheetLine)
  pos := fun t => by cases t <;> decide
  enc_len := fun t x => by cases t <;> rfl
  enc_dec := fun t cs x h => by
    cases t
    · exact d3_ok cs x h
    · exact d5_ok cs x h
    · exact d9_ok cs x h
    · exact d24_ok cs x h
    · exact d30_ok cs x h
    · exact d42_ok cs x h
    · exact d44_ok cs x h
    · exact d54_ok cs x h
    · exact d65_ok cs x h
    · exact d70_ok cs x h
    · exact d93_ok cs x h
  enc_plain := fun t x l h => by
    cases t <;> simp only [enc, List.mem_cons, List.not_mem_nil, or_false] at h <;> (first | (subst h; rfl) | (rcases h with rfl <;> rfl) | (repeat (rcases h with rfl | h; · rfl)) <;> (subst h; rfl))
  flat := fun t => match t with
    | .e3 => true
    | .e5 => true
    | .e9 => true
    | .e24 => false
    | .e30 => false
    | .e42 => false
    | .e44 => false
    | .e54 => false
    | .e65 => false
    | .e70 => false
    | .e93 => false
  byte := fun t => match t with
    | .e3 => false
    | .e5 => true
    | .e9 => false
    | .e24 => false
    | .e30 => false
    | .e42 => false
    | .e44 => false
    | .e54 => false
    | .e65 => false
    | .e70 => false
    | .e93 => false
  enc_byte := fun t ht x => by cases t <;> first | (cases ht; done) | exact ⟨_, rfl⟩
  enc_flat := fun t ht x t' ys h => by cases t <;> first | (cases ht; done) | (simp [enc] at h)
def tks : List (Nat × TK Ty) := [
  (1, .one (.fnc)),
  (2, .one (.int .i64)),
  (3, .one (.int .i64)),
  (4, .one (.bool)),
  (5, .one (.int .u8)),
  (6, .one (.int .u8)),
  (7, .agg [(0, 1, false), (1, 1, false), (2, 1, false), (3, 1, false)] [.int .i64, .int .i64, .bool, .int .u8]),
  (8, .agg [(0, 1, false), (1, 1, false), (2, 1, false), (3, 1, false)] [.int .i64, .int .i64, .bool, .int .u8]),
  (9, .one (.str)),
  (10, .one (.str)),
  (11, .one (.str)),
  (12, .one (.int .u64)),
  (13, .agg [(0, 1, false), (1, 1, false)] [.str, .int .u64]),
  (14, .agg [(0, 1, false), (1, 1, false)] [.str, .int .u64]),
  (15, .one (.ptr)),
  (16, .one (.ptr)),
  (17, .one (.ptr)),
  (18, .agg [(0, 1, false)] [.ptr]),
  (19, .agg [(0, 1, false)] [.ptr]),
  (20, .one (.nk .ifc)),
  (21, .one (.int .i32)),
  (22, .one (.sli .e65)),
  (23, .agg [(0, 1, false)] [.sli .e65]),
  (24, .agg [(0, 1, false)] [.sli .e65]),
  (25, .one (.fnc)),
  (26, .one (.sli .e44)),
  (27, .one (.fnc)),
  (28, .one (.sli .e42)),
  (29, .agg [(0, 1, false)] [.sli .e42]),
  (30, .agg [(0, 1, false)] [.sli .e42]),
  (31, .one (.fnc)),
  (32, .one (.fnc)),
  (33, .one (.fnc)),
  (34, .one (.fnc)),
  (35, .one (.fnc)),
  (36, .one (.fnc)),
  (37, .one (.fnc)),
  (38, .one (.fnc)),
  (39, .one (.fnc)),
  (40, .one (.sli .e70)),
  (41, .agg [(0, 1, false), (1, 1, false), (2, 1, false)] [.str, .str, .sli .e70]),
  (42, .agg [(0, 1, false), (1, 1, false), (2, 1, false)] [.str, .str, .sli .e70]),
  (43, .agg [(0, 1, false), (1, 1, false), (2, 1, false), (3, 1, false), (4, 1, false)] [.int .i64, .str, .str, .str, .sli .e70]),
  (44, .agg [(0, 1, false), (1, 1, false), (2, 1, false), (3, 1, false), (4, 1, false)] [.int .i64, .str, .str, .str, .sli .e70]),
  (45, .one (.fnc)),
  (46, .one (.fnc)),
  (47, .one (.fnc)),
  (48, .one (.fnc)),
  (49, .one (.sli .e54)),
  (50, .one (.fnc)),
  (51, .one (.sli .e3)),
  (52, .one (.sli .e9)),
  (53, .agg [(0, 1, false), (1, 1, false), (2, 1, false), (3, 1, false)] [.str, .sli .e3, .bool, .sli .e9]),
  (54, .agg [(0, 1, false), (1, 1, false), (2, 1, false), (3, 1, false)] [.str, .sli .e3, .bool, .sli .e9]),
  (55, .one (.fnc)),
  (56, .one (.fnc)),
  (57, .one (.fnc)),
  (58, .one (.fnc)),
  (59, .one (.fnc)),
  (60, .one (.fnc)),
  (61, .one (.fnc)),
  (62, .one (.fnc)),
  (63, .one (.sli .e93)),
  (64, .agg [(0, 1, false), (1, 1, false), (2, 1, false)] [.str, .str, .sli .e93]),
  (65, .agg [(0, 1, false), (1, 1, false), (2, 1, false)] [.str, .str, .sli .e93]),
  (66, .one (.fnc)),
  (67, .one (.fnc)),
  (68, .one (.fnc)),
  (69, .agg [(0, 1, false), (1, 1, false)] [.str, .sli .e9]),
  (70, .agg [(0, 1, false), (1, 1, false)] [.str, .sli .e9]),
  (71, .one (.fnc)),
  (72, .one (.fnc)),
  (73, .one (.fnc)),
  (74, .one (.fnc)),
  (75, .one (.fnc)),
  (76, .one (.fnc)),
  (77, .one (.fnc)),
  (78, .one (.fnc)),
  (79, .one (.sli .e5)),
  (80, .one (.fnc)),
  (81, .one (.fnc)),
  (82, .one (.fnc)),
  (83, .one (.fnc)),
  (84, .one (.fnc)),
  (85, .one (.fnc)),
  (86, .one (.fnc)),
  (87, .one (.nk .map)),
  (88, .one (.fnc)),
  (90, .one (.fnc)),
  (91, .one (.fnc)),
  (92, .one (.fnc)),
  (93, .agg [(0, 1, false), (1, 1, false)] [.str, .sli .e9]),
  (94, .one (.fnc)),
  (95, .one (.fnc)),
  (96, .one (.fnc)),
  (97, .one (.fnc)),
  (98, .one (.fnc)),
  (100, .one (.fnc)),
  (101, .one (.fnc)),
  (102, .one (.fnc)),
  (104, .one (.fnc)),
  (105, .one (.fnc)),
  (106, .one (.fnc)),
  (107, .one (.fnc)),
  (108, .one (.int .u64)),
  (109, .arr 256 1 false [.int .u8, .int .u8, .int .u8, .int .u8, .int .u8, .int .u8, .int .u8, .int .u8, .int .u8, .int .u8, .int .u8, .int .u8, .int .u8, .int .u8, .int .u8, .int .u8, .int .u8, .int .u8, .int .u8, .int .u8, .int .u8, .int .u8, .int .u8, .int .u8, .int .u8, .int .u8, .int .u8, .int .u8, .int .u8, .int .u8, .int .u8, .int .u8, .int .u8, .int .u8, .int .u8, .int .u8, .int .u8, .int .u8, .int .u8, .int .u8, .int .u8, .int .u8, .int .u8, .int .u8, .int .u8, .int .u8, .int .u8, .int .u8, .int .u8, .int .u8, .int .u8, .int .u8, .int .u8, .int .u8, .int .u8, .int .u8, .int .u8, .int .u8, .int .u8, .int .u8, .int .u8, .int .u8, .int .u8, .int .u8, .int .u8, .int .u8, .int .u8, .int .u8, .int .u8, .int .u8, .int .u8, .int .u8, .int .u8, .int .u8, .int .u8, .int .u8, .int .u8, .int .u8, .int .u8, .int .u8, .int .u8, .int .u8, .int .u8, .int .u8, .int .u8, .int .u8, .int .u8, .int .u8, .int .u8, .int .u8, .int .u8, .int .u8, .int .u8, .int .u8, .int .u8, .int .u8, .int .u8, .int .u8, .int .u8, .int .u8, .int .u8, .int .u8, .int .u8, .int .u8, .int .u8, .int .u8, .int .u8, .int .u8, .int .u8, .int .u8, .int .u8, .int .u8, .int .u8, .int .u8, .int .u8, .int .u8, .int .u8, .int .u8, .int .u8, .int .u8, .int .u8, .int .u8, .int .u8, .int .u8, .int .u8, .int .u8, .int .u8, .int .u8, .int .u8, .int .u8, .int .u8, .int .u8, .int .u8, .int .u8, .int .u8, .int .u8, .int .u8, .int .u8, .int .u8, .int .u8, .int .u8, .int .u8, .int .u8, .int .u8, .int .u8, .int .u8, .int .u8, .int .u8, .int .u8, .int .u8, .int .u8, .int .u8, .int .u8, .int .u8, .int .u8, .int .u8, .int .u8, .int .u8, .int .u8, .int .u8, .int .u8, .int .u8, .int .u8, .int .u8, .int .u8, .int .u8, .int .u8, .int .u8, .int .u8, .int .u8, .int .u8, .int .u8, .int .u8, .int .u8, .int .u8, .int .u8, .int .u8, .int .u8, .int .u8, .int .u8, .int .u8, .int .u8, .int .u8, .int .u8, .int .u8, .int .u8, .int .u8, .int .u8, .int .u8, .int .u8, .int .u8, .int .u8, .int .u8, .int .u8, .int .u8, .int .u8, .int .u8, .int .u8, .int .u8, .int .u8, .int .u8, .int .u8, .int .u8, .int .u8, .int .u8, .int .u8, .int .u8, .int .u8, .int .u8, .int .u8, .int .u8, .int .u8, .int .u8, .int .u8, .int .u8, .int .u8, .int .u8, .int .u8, .int .u8, .int .u8, .int .u8, .int .u8, .int .u8, .int .u8, .int .u8, .int .u8, .int .u8, .int .u8, .int .u8, .int .u8, .int .u8, .int .u8, .int .u8, .int .u8, .int .u8, .int .u8, .int .u8, .int .u8, .int .u8, .int .u8, .int .u8, .int .u8, .int .u8, .int .u8, .int .u8, .int .u8, .int .u8, .int .u8, .int .u8, .int .u8, .int .u8, .int .u8, .int .u8, .int .u8, .int .u8, .int .u8]),
  (110, .agg [(0, 1, false), (1, 1, false)] [.int .u8, .int .u8]),
  (111, .agg [(0, 1, false), (1, 1, false)] [.int .u8, .int .u8]),
  (112, .arr 16 2 true [.int .u8, .int .u8, .int .u8, .int .u8, .int .u8, .int .u8, .int .u8, .int .u8, .int .u8, .int .u8, .int .u8, .int .u8, .int .u8, .int .u8, .int .u8, .int .u8, .int .u8, .int .u8, .int .u8, .int .u8, .int .u8, .int .u8, .int .u8, .int .u8, .int .u8, .int .u8, .int .u8, .int .u8, .int .u8, .int .u8, .int .u8, .int .u8]),
  (113, .one (.int .u32)),
  (115, .one (.fnc)),
  (116, .one (.fnc)),
  (117, .agg [(0, 1, false), (1, 1, false), (2, 1, false), (3, 1, false)] [.ptr, .ptr, .ptr, .str]),
  (118, .agg [(0, 1, false), (1, 1, false), (2, 1, false), (3, 1, false)] [.ptr, .ptr, .ptr, .str]),
  (122, .one (.fnc)),
  (123, .one (.int .u8)),
  (124, .one (.int .u8)),
  (125, .one (.fnc)),
  (126, .one (.ptr)),
  (127, .one (.int .i32)),
  (128, .one (.int .i32)),
  (129, .agg [(0, 1, false), (1, 1, false), (2, 1, false), (3, 1, false), (4, 1, false), (5, 1, false), (6, 1, false), (7, 1, false), (8, 1, false), (9, 1, false), (10, 1, false)] [.int .u64, .int .u64, .int .u32, .int .u8, .int .u8, .int .u8, .int .u8, .fnc, .ptr, .int .i32, .int .i32]),
  (130, .agg [(0, 1, false), (1, 1, false), (2, 1, false), (3, 1, false), (4, 1, false), (5, 1, false), (6, 1, false), (7, 1, false), (8, 1, false), (9, 1, false), (10, 1, false)] [.int .u64, .int .u64, .int .u32, .int .u8, .int .u8, .int .u8, .int .u8, .fnc, .ptr, .int .i32, .int .i32])]
theorem tf1 : TFact Go.Proofs.Tryd.prog KK 1 (.one (.fnc)) := tfact_fnc (by kernel_rfl) (by kernel_rfl) (by kernel_rfl)
theorem tf2 : TFact Go.Proofs.Tryd.prog KK 2 (.one (.int .i64)) := tfact_one (by kernel_rfl) (by kernel_rfl) (d := .int .i64) (by kernel_rfl) rfl
theorem tf3 : TFact Go.Proofs.Tryd.prog KK 3 (.one (.int .i64)) := tfact_one (by kernel_rfl) (by kernel_rfl) (d := .int .i64) (by kernel_rfl) rfl
theorem tf4 : TFact Go.Proofs.Tryd.prog KK 4 (.one (.bool)) := tfact_one (by kernel_rfl) (by kernel_rfl) (d := .bool) (by kernel_rfl) rfl
theorem tf5 : TFact Go.Proofs.Tryd.prog KK 5 (.one (.int .u8)) := tfact_one (by kernel_rfl) (by kernel_rfl) (d := .int .u8) (by kernel_rfl) rfl
theorem tf6 : TFact Go.Proofs.Tryd.prog KK 6 (.one (.int .u8)) := tfact_one (by kernel_rfl) (by kernel_rfl) (d := .int .u8) (by kernel_rfl) rfl
theorem tf7 : TFact Go.Proofs.Tryd.prog KK 7 (.agg [(0, 1, false), (1, 1, false), (2, 1, false), (3, 1, false)] [.int .i64, .int .i64, .bool, .int .u8]) := tfact_agg (by kernel_rfl) (by kernel_rfl) (by kernel_rfl)
theorem tf8 : TFact Go.Proofs.Tryd.prog KK 8 (.agg [(0, 1, false), (1, 1, false), (2, 1, false), (3, 1, false)] [.int .i64, .int .i64, .bool, .int .u8]) := tfact_agg (by kernel_rfl) (by kernel_rfl) (by kernel_rfl)
theorem tf9 : TFact Go.Proofs.Tryd.prog KK 9 (.one (.str)) := tfact_one (by kernel_rfl) (by kernel_rfl) (d := .string) (by kernel_rfl) rfl
theorem tf10 : TFact Go.Proofs.Tryd.prog KK 10 (.one (.str)) := tfact_one (by kernel_rfl) (by kernel_rfl) (d := .string) (by kernel_rfl) rfl
theorem tf11 : TFact Go.Proofs.Tryd.prog KK 11 (.one (.str)) := tfact_one (by kernel_rfl) (by kernel_rfl) (d := .string) (by kernel_rfl) rfl
theorem tf12 : TFact Go.Proofs.Tryd.prog KK 12 (.one (.int .u64)) := tfact_one (by kernel_rfl) (by kernel_rfl) (d := .int .u64) (by kernel_rfl) rfl
theorem tf13 : TFact Go.Proofs.Tryd.prog KK 13 (.agg [(0, 1, false), (1, 1, false)] [.str, .int .u64]) := tfact_agg (by kernel_rfl) (by kernel_rfl) (by kernel_rfl)
theorem tf14 : TFact Go.Proofs.Tryd.prog KK 14 (.agg [(0, 1, false), (1, 1, false)] [.str, .int .u64]) := tfact_agg (by kernel_rfl) (by kernel_rfl) (by kernel_rfl)
theorem tf15 : TFact Go.Proofs.Tryd.prog KK 15 (.one (.ptr)) := tfact_one (by kernel_rfl) (by kernel_rfl) (d := .pointer 118) (by kernel_rfl) ⟨_, rfl⟩
theorem tf16 : TFact Go.Proofs.Tryd.prog KK 16 (.one (.ptr)) := tfact_one (by kernel_rfl) (by kernel_rfl) (d := .pointer 121) (by kernel_rfl) ⟨_, rfl⟩
theorem tf17 : TFact Go.Proofs.Tryd.prog KK 17 (.one (.ptr)) := tfact_one (by kernel_rfl) (by kernel_rfl) (d := .pointer 130) (by kernel_rfl) ⟨_, rfl⟩
theorem tf18 : TFact Go.Proofs.Tryd.prog KK 18 (.agg [(0, 1, false)] [.ptr]) := tfact_agg (by kernel_rfl) (by kernel_rfl) (by kernel_rfl)
theorem tf19 : TFact Go.Proofs.Tryd.prog KK 19 (.agg [(0, 1, false)] [.ptr]) := tfact_agg (by kernel_rfl) (by kernel_rfl) (by kernel_rfl)
theorem tf20 : TFact Go.Proofs.Tryd.prog KK 20 (.one (.nk .ifc)) := tfact_ifc (by kernel_rfl) (by kernel_rfl) (by kernel_rfl)
theorem tf21 : TFact Go.Proofs.Tryd.prog KK 21 (.one (.int .i32)) := tfact_one (by kernel_rfl) (by kernel_rfl) (d := .int .i32) (by kernel_rfl) rfl
theorem tf22 : TFact Go.Proofs.Tryd.prog KK 22 (.one (.sli .e65)) := tfact_one (by kernel_rfl) (by kernel_rfl) (d := .slice 65) (by kernel_rfl) rfl
theorem tf23 : TFact Go.Proofs.Tryd.prog KK 23 (.agg [(0, 1, false)] [.sli .e65]) := tfact_agg (by kernel_rfl) (by kernel_rfl) (by kernel_rfl)
theorem tf24 : TFact Go.Proofs.Tryd.prog KK 24 (.agg [(0, 1, false)] [.sli .e65]) := tfact_agg (by kernel_rfl) (by kernel_rfl) (by kernel_rfl)
theorem tf25 : TFact Go.Proofs.Tryd.prog KK 25 (.one (.fnc)) := tfact_fnc (by kernel_rfl) (by kernel_rfl) (by kernel_rfl)
theorem tf26 : TFact Go.Proofs.Tryd.prog KK 26 (.one (.sli .e44)) := tfact_one (by kernel_rfl) (by kernel_rfl) (d := .slice 44) (by kernel_rfl) rfl
theorem tf27 : TFact Go.Proofs.Tryd.prog KK 27 (.one (.fnc)) := tfact_fnc (by kernel_rfl) (by kernel_rfl) (by kernel_rfl)
theorem tf28 : TFact Go.Proofs.Tryd.prog KK 28 (.one (.sli .e42)) := tfact_one (by kernel_rfl) (by kernel_rfl) (d := .slice 42) (by kernel_rfl) rfl
theorem tf29 : TFact Go.Proofs.Tryd.prog KK 29 (.agg [(0, 1, false)] [.sli .e42]) := tfact_agg (by kernel_rfl) (by kernel_rfl) (by kernel_rfl)
theorem tf30 : TFact Go.Proofs.Tryd.prog KK 30 (.agg [(0, 1, false)] [.sli .e42]) := tfact_agg (by kernel_rfl) (by kernel_rfl) (by kernel_rfl)
theorem tf31 : TFact Go.Proofs.Tryd.prog KK 31 (.one (.fnc)) := tfact_fnc (by kernel_rfl) (by kernel_rfl) (by kernel_rfl)
theorem tf32 : TFact Go.Proofs.Tryd.prog KK 32 (.one (.fnc)) := tfact_fnc (by kernel_rfl) (by kernel_rfl) (by kernel_rfl)
theorem tf33 : TFact Go.Proofs.Tryd.prog KK 33 (.one (.fnc)) := tfact_fnc (by kernel_rfl) (by kernel_rfl) (by kernel_rfl)
theorem tf34 : TFact Go.Proofs.Tryd.prog KK 34 (.one (.fnc)) := tfact_fnc (by kernel_rfl) (by kernel_rfl) (by kernel_rfl)
theorem tf35 : TFact Go.Proofs.Tryd.prog KK 35 (.one (.fnc)) := tfact_fnc (by kernel_rfl) (by kernel_rfl) (by kernel_rfl)
theorem tf36 : TFact Go.Proofs.Tryd.prog KK 36 (.one (.fnc)) := tfact_fnc (by kernel_rfl) (by kernel_rfl) (by kernel_rfl)
theorem tf37 : TFact Go.Proofs.Tryd.prog KK 37 (.one (.fnc)) := tfact_fnc (by kernel_rfl) (by kernel_rfl) (by kernel_rfl)
theorem tf38 : TFact Go.Proofs.Tryd.prog KK 38 (.one (.fnc)) := tfact_fnc (by kernel_rfl) (by kernel_rfl) (by kernel_rfl)
theorem tf39 : TFact Go.Proofs.Tryd.prog KK 39 (.one (.fnc)) := tfact_fnc (by kernel_rfl) (by kernel_rfl) (by kernel_rfl)
theorem tf40 : TFact Go.Proofs.Tryd.prog KK 40 (.one (.sli .e70)) := tfact_one (by kernel_rfl) (by kernel_rfl) (d := .slice 70) (by kernel_rfl) rfl
theorem tf41 : TFact Go.Proofs.Tryd.prog KK 41 (.agg [(0, 1, false), (1, 1, false), (2, 1, false)] [.str, .str, .sli .e70]) := tfact_agg (by kernel_rfl) (by kernel_rfl) (by kernel_rfl)
theorem tf42 : TFact Go.Proofs.Tryd.prog KK 42 (.agg [(0, 1, false), (1, 1, false), (2, 1, false)] [.str, .str, .sli .e70]) := tfact_agg (by kernel_rfl) (by kernel_rfl) (by kernel_rfl)
theorem tf43 : TFact Go.Proofs.Tryd.prog KK 43 (.agg [(0, 1, false), (1, 1, false), (2, 1, false), (3, 1, false), (4, 1, false)] [.int .i64, .str, .str, .str, .sli .e70]) := tfact_agg (by kernel_rfl) (by kernel_rfl) (by kernel_rfl)
theorem tf44 : TFact Go.Proofs.Tryd.prog KK 44 (.agg [(0, 1, false), (1, 1, false), (2, 1, false), (3, 1, false), (4, 1, false)] [.int .i64, .str, .str, .str, .sli .e70]) := tfact_agg (by kernel_rfl) (by kernel_rfl) (by kernel_rfl)
theorem tf45 : TFact Go.Proofs.Tryd.prog KK 45 (.one (.fnc)) := tfact_fnc (by kernel_rfl) (by kernel_rfl) (by kernel_rfl)
theorem tf46 : TFact Go.Proofs.Tryd.prog KK 46 (.one (.fnc)) := tfact_fnc (by kernel_rfl) (by kernel_rfl) (by kernel_rfl)
theorem tf47 : TFact Go.Proofs.Tryd.prog KK 47 (.one (.fnc)) := tfact_fnc (by kernel_rfl) (by kernel_rfl) (by kernel_rfl)
theorem tf48 : TFact Go.Proofs.Tryd.prog KK 48 (.one (.fnc)) := tfact_fnc (by kernel_rfl) (by kernel_rfl) (by kernel_rfl)
theorem tf49 : TFact Go.Proofs.Tryd.prog KK 49 (.one (.sli .e54)) := tfact_one (by kernel_rfl) (by kernel_rfl) (d := .slice 54) (by kernel_rfl) rfl
theorem tf50 : TFact Go.Proofs.Tryd.prog KK 50 (.one (.fnc)) := tfact_fnc (by kernel_rfl) (by kernel_rfl) (by kernel_rfl)
theorem tf51 : TFact Go.Proofs.Tryd.prog KK 51 (.one (.sli .e3)) := tfact_one (by kernel_rfl) (by kernel_rfl) (d := .slice 3) (by kernel_rfl) rfl
theorem tf52 : TFact Go.Proofs.Tryd.prog KK 52 (.one (.sli .e9)) := tfact_one (by kernel_rfl) (by kernel_rfl) (d := .slice 9) (by kernel_rfl) rfl
theorem tf53 : TFact Go.Proofs.Tryd.prog KK 53 (.agg [(0, 1, false), (1, 1, false), (2, 1, false), (3, 1, false)] [.str, .sli .e3, .bool, .sli .e9]) := tfact_agg (by kernel_rfl) (by kernel_rfl) (by kernel_rfl)
theorem tf54 : TFact Go.Proofs.Tryd.prog KK 54 (.agg [(0, 1, false), (1, 1, false), (2, 1, false), (3, 1, false)] [.str, .sli .e3, .bool, .sli .e9]) := tfact_agg (by kernel_rfl) (by kernel_rfl) (by kernel_rfl)
theorem tf55 : TFact Go.Proofs.Tryd.prog KK 55 (.one (.fnc)) := tfact_fnc (by kernel_rfl) (by kernel_rfl) (by kernel_rfl)
theorem tf56 : TFact Go.Proofs.Tryd.prog KK 56 (.one (.fnc)) := tfact_fnc (by kernel_rfl) (by kernel_rfl) (by kernel_rfl)
theorem tf57 : TFact Go.Proofs.Tryd.prog KK 57 (.one (.fnc)) := tfact_fnc (by kernel_rfl) (by kernel_rfl) (by kernel_rfl)
theorem tf58 : TFact Go.Proofs.Tryd.prog KK 58 (.one (.fnc)) := tfact_fnc (by kernel_rfl) (by kernel_rfl) (by kernel_rfl)
theorem tf59 : TFact Go.Proofs.Tryd.prog KK 59 (.one (.fnc)) := tfact_fnc (by kernel_rfl) (by kernel_rfl) (by kernel_rfl)
theorem tf60 : TFact Go.Proofs.Tryd.prog KK 60 (.one (.fnc)) := tfact_fnc (by kernel_rfl) (by kernel_rfl) (by kernel_rfl)
theorem tf61 : TFact Go.Proofs.Tryd.prog KK 61 (.one (.fnc)) := tfact_fnc (by kernel_rfl) (by kernel_rfl) (by kernel_rfl)
theorem tf62 : TFact Go.Proofs.Tryd.prog KK 62 (.one (.fnc)) := tfact_fnc (by kernel_rfl) (by kernel_rfl) (by kernel_rfl)
theorem tf63 : TFact Go.Proofs.Tryd.prog KK 63 (.one (.sli .e93)) := tfact_one (by kernel_rfl) (by kernel_rfl) (d := .slice 93) (by kernel_rfl) rfl
theorem tf64 : TFact Go.Proofs.Tryd.prog KK 64 (.agg [(0, 1, false), (1, 1, false), (2, 1, false)] [.str, .str, .sli .e93]) := tfact_agg (by kernel_rfl) (by kernel_rfl) (by kernel_rfl)
theorem tf65 : TFact Go.Proofs.Tryd.prog KK 65 (.agg [(0, 1, false), (1, 1, false), (2, 1, false)] [.str, .str, .sli .e93]) := tfact_agg (by kernel_rfl) (by kernel_rfl) (by kernel_rfl)
theorem tf66 : TFact Go.Proofs.Tryd.prog KK 66 (.one (.fnc)) := tfact_fnc (by kernel_rfl) (by kernel_rfl) (by kernel_rfl)
theorem tf67 : TFact Go.Proofs.Tryd.prog KK 67 (.one (.fnc)) := tfact_fnc (by kernel_rfl) (by kernel_rfl) (by kernel_rfl)
theorem tf68 : TFact Go.Proofs.Tryd.prog KK 68 (.one (.fnc)) := tfact_fnc (by kernel_rfl) (by kernel_rfl) (by kernel_rfl)
theorem tf69 : TFact Go.Proofs.Tryd.prog KK 69 (.agg [(0, 1, false), (1, 1, false)] [.str, .sli .e9]) := tfact_agg (by kernel_rfl) (by kernel_rfl) (by kernel_rfl)
theorem tf70 : TFact Go.Proofs.Tryd.prog KK 70 (.agg [(0, 1, false), (1, 1, false)] [.str, .sli .e9]) := tfact_agg (by kernel_rfl) (by kernel_rfl) (by kernel_rfl)
theorem tf71 : TFact Go.Proofs.Tryd.prog KK 71 (.one (.fnc)) := tfact_fnc (by kernel_rfl) (by kernel_rfl) (by kernel_rfl)
theorem tf72 : TFact Go.Proofs.Tryd.prog KK 72 (.one (.fnc)) := tfact_fnc (by kernel_rfl) (by kernel_rfl) (by kernel_rfl)
theorem tf73 : TFact Go.Proofs.Tryd.prog KK 73 (.one (.fnc)) := tfact_fnc (by kernel_rfl) (by kernel_rfl) (by kernel_rfl)
theorem tf74 : TFact Go.Proofs.Tryd.prog KK 74 (.one (.fnc)) := tfact_fnc (by kernel_rfl) (by kernel_rfl) (by kernel_rfl)
theorem tf75 : TFact Go.Proofs.Tryd.prog KK 75 (.one (.fnc)) := tfact_fnc (by kernel_rfl) (by kernel_rfl) (by kernel_rfl)
theorem tf76 : TFact Go.Proofs.Tryd.prog KK 76 (.one (.fnc)) := tfact_fnc (by kernel_rfl) (by kernel_rfl) (by kernel_rfl)
theorem tf77 : TFact Go.Proofs.Tryd.prog KK 77 (.one (.fnc)) := tfact_fnc (by kernel_rfl) (by kernel_rfl) (by kernel_rfl)
theorem tf78 : TFact Go.Proofs.Tryd.prog KK 78 (.one (.fnc)) := tfact_fnc (by kernel_rfl) (by kernel_rfl) (by kernel_rfl)
theorem tf79 : TFact Go.Proofs.Tryd.prog KK 79 (.one (.sli .e5)) := tfact_one (by kernel_rfl) (by kernel_rfl) (d := .slice 5) (by kernel_rfl) rfl
theorem tf80 : TFact Go.Proofs.Tryd.prog KK 80 (.one (.fnc)) := tfact_fnc (by kernel_rfl) (by kernel_rfl) (by kernel_rfl)
theorem tf81 : TFact Go.Proofs.Tryd.prog KK 81 (.one (.fnc)) := tfact_fnc (by kernel_rfl) (by kernel_rfl) (by kernel_rfl)
theorem tf82 : TFact Go.Proofs.Tryd.prog KK 82 (.one (.fnc)) := tfact_fnc (by kernel_rfl) (by kernel_rfl) (by kernel_rfl)
theorem tf83 : TFact Go.Proofs.Tryd.prog KK 83 (.one (.fnc)) := tfact_fnc (by kernel_rfl) (by kernel_rfl) (by kernel_rfl)
theorem tf84 : TFact Go.Proofs.Tryd.prog KK 84 (.one (.fnc)) := tfact_fnc (by kernel_rfl) (by kernel_rfl) (by kernel_rfl)
theorem tf85 : TFact Go.Proofs.Tryd.prog KK 85 (.one (.fnc)) := tfact_fnc (by kernel_rfl) (by kernel_rfl) (by kernel_rfl)
theorem tf86 : TFact Go.Proofs.Tryd.prog KK 86 (.one (.fnc)) := tfact_fnc (by kernel_rfl) (by kernel_rfl) (by kernel_rfl)
theorem tf87 : TFact Go.Proofs.Tryd.prog KK 87 (.one (.nk .map)) := tfact_map (by kernel_rfl) (by kernel_rfl) (by kernel_rfl)
theorem tf88 : TFact Go.Proofs.Tryd.prog KK 88 (.one (.fnc)) := tfact_fnc (by kernel_rfl) (by kernel_rfl) (by kernel_rfl)
theorem tf90 : TFact Go.Proofs.Tryd.prog KK 90 (.one (.fnc)) := tfact_fnc (by kernel_rfl) (by kernel_rfl) (by kernel_rfl)
theorem tf91 : TFact Go.Proofs.Tryd.prog KK 91 (.one (.fnc)) := tfact_fnc (by kernel_rfl) (by kernel_rfl) (by kernel_rfl)
theorem tf92 : TFact Go.Proofs.Tryd.prog KK 92 (.one (.fnc)) := tfact_fnc (by kernel_rfl) (by kernel_rfl) (by kernel_rfl)
theorem tf93 : TFact Go.Proofs.Tryd.prog KK 93 (.agg [(0, 1, false), (1, 1, false)] [.str, .sli .e9]) := tfact_agg (by kernel_rfl) (by kernel_rfl) (by kernel_rfl)
theorem tf94 : TFact Go.Proofs.Tryd.prog KK 94 (.one (.fnc)) := tfact_fnc (by kernel_rfl) (by kernel_rfl) (by kernel_rfl)
theorem tf95 : TFact Go.Proofs.Tryd.prog KK 95 (.one (.fnc)) := tfact_fnc (by kernel_rfl) (by kernel_rfl) (by kernel_rfl)
theorem tf96 : TFact Go.Proofs.Tryd.prog KK 96 (.one (.fnc)) := tfact_fnc (by kernel_rfl) (by kernel_rfl) (by kernel_rfl)
theorem tf97 : TFact Go.Proofs.Tryd.prog KK 97 (.one (.fnc)) := tfact_fnc (by kernel_rfl) (by kernel_rfl) (by kernel_rfl)
theorem tf98 : TFact Go.Proofs.Tryd.prog KK 98 (.one (.fnc)) := tfact_fnc (by kernel_rfl) (by kernel_rfl) (by kernel_rfl)
theorem tf100 : TFact Go.Proofs.Tryd.prog KK 100 (.one (.fnc)) := tfact_fnc (by kernel_rfl) (by kernel_rfl) (by kernel_rfl)
theorem tf101 : TFact Go.Proofs.Tryd.prog KK 101 (.one (.fnc)) := tfact_fnc (by kernel_rfl) (by kernel_rfl) (by kernel_rfl)
theorem tf102 : TFact Go.Proofs.Tryd.prog KK 102 (.one (.fnc)) := tfact_fnc (by kernel_rfl) (by kernel_rfl) (by kernel_rfl)
theorem tf104 : TFact Go.Proofs.Tryd.prog KK 104 (.one (.fnc)) := tfact_fnc (by kernel_rfl) (by kernel_rfl) (by kernel_rfl)
theorem tf105 : TFact Go.Proofs.Tryd.prog KK 105 (.one (.fnc)) := tfact_fnc (by kernel_rfl) (by kernel_rfl) (by kernel_rfl)
theorem tf106 : TFact Go.Proofs.Tryd.prog KK 106 (.one (.fnc)) := tfact_fnc (by kernel_rfl) (by kernel_rfl) (by kernel_rfl)
theorem tf107 : TFact Go.Proofs.Tryd.prog KK 107 (.one (.fnc)) := tfact_fnc (by kernel_rfl) (by kernel_rfl) (by kernel_rfl)
theorem tf108 : TFact Go.Proofs.Tryd.prog KK 108 (.one (.int .u64)) := tfact_one (by kernel_rfl) (by kernel_rfl) (d := .int .u64) (by kernel_rfl) rfl
theorem tf109 : TFact Go.Proofs.Tryd.prog KK 109 (.arr 256 1 false [.int .u8, .int .u8, .int .u8, .int .u8, .int .u8, .int .u8, .int .u8, .int .u8, .int .u8, .int .u8, .int .u8, .int .u8, .int .u8, .int .u8, .int .u8, .int .u8, .int .u8, .int .u8, .int .u8, .int .u8, .int .u8, .int .u8, .int .u8, .int .u8, .int .u8, .int .u8, .int .u8, .int .u8, .int .u8, .int .u8, .int .u8, .int .u8, .int .u8, .int .u8, .int .u8, .int .u8, .int .u8, .int .u8, .int .u8, .int .u8, .int .u8, .int .u8, .int .u8, .int .u8, .int .u8, .int .u8, .int .u8, .int .u8, .int .u8, .int .u8, .int .u8, .int .u8, .int .u8, .int .u8, .int .u8, .int .u8, .int .u8, .int .u8, .int .u8, .int .u8, .int .u8, .int .u8, .int .u8, .int .u8, .int .u8, .int .u8, .int .u8, .int .u8, .int .u8, .int .u8, .int .u8, .int .u8, .int .u8, .int .u8, .int .u8, .int .u8, .int .u8, .int .u8, .int .u8, .int .u8, .int .u8, .int .u8, .int .u8, .int .u8, .int .u8, .int .u8, .int .u8, .int .u8, .int .u8, .int .u8, .int .u8, .int .u8, .int .u8, .int .u8, .int .u8, .int .u8, .int .u8, .int .u8, .int .u8, .int .u8, .int .u8, .int .u8, .int .u8, .int .u8, .int .u8, .int .u8, .int .u8, .int .u8, .int .u8, .int .u8, .int .u8, .int .u8, .int .u8, .int .u8, .int .u8, .int .u8, .int .u8, .int .u8, .int .u8, .int .u8, .int .u8, .int .u8, .int .u8, .int .u8, .int .u8, .int .u8, .int .u8, .int .u8, .int .u8, .int .u8, .int .u8, .int .u8, .int .u8, .int .u8, .int .u8, .int .u8, .int .u8, .int .u8, .int .u8, .int .u8, .int .u8, .int .u8, .int .u8, .int .u8, .int .u8, .int .u8, .int .u8, .int .u8, .int .u8, .int .u8, .int .u8, .int .u8, .int .u8, .int .u8, .int .u8, .int .u8, .int .u8, .int .u8, .int .u8, .int .u8, .int .u8, .int .u8, .int .u8, .int .u8, .int .u8, .int .u8, .int .u8, .int .u8, .int .u8, .int .u8, .int .u8, .int .u8, .int .u8, .int .u8, .int .u8, .int .u8, .int .u8, .int .u8, .int .u8, .int .u8, .int .u8, .int .u8, .int .u8, .int .u8, .int .u8, .int .u8, .int .u8, .int .u8, .int .u8, .int .u8, .int .u8, .int .u8, .int .u8, .int .u8, .int .u8, .int .u8, .int .u8, .int .u8, .int .u8, .int .u8, .int .u8, .int .u8, .int .u8, .int .u8, .int .u8, .int .u8, .int .u8, .int .u8, .int .u8, .int .u8, .int .u8, .int .u8, .int .u8, .int .u8, .int .u8, .int .u8, .int .u8, .int .u8, .int .u8, .int .u8, .int .u8, .int .u8, .int .u8, .int .u8, .int .u8, .int .u8, .int .u8, .int .u8, .int .u8, .int .u8, .int .u8, .int .u8, .int .u8, .int .u8, .int .u8, .int .u8, .int .u8, .int .u8, .int .u8, .int .u8, .int .u8, .int .u8, .int .u8, .int .u8, .int .u8, .int .u8, .int .u8, .int .u8, .int .u8, .int .u8, .int .u8, .int .u8, .int .u8, .int .u8, .int .u8, .int .u8]) := tfact_arr (e := 5) (by kernel_rfl) (by kernel_rfl) (by kernel_rfl) (by kernel_rfl) (by kernel_rfl) (by kernel_rfl)
theorem tf110 : TFact Go.Proofs.Tryd.prog KK 110 (.agg [(0, 1, false), (1, 1, false)] [.int .u8, .int .u8]) := tfact_agg (by kernel_rfl) (by kernel_rfl) (by kernel_rfl)
theorem tf111 : TFact Go.Proofs.Tryd.prog KK 111 (.agg [(0, 1, false), (1, 1, false)] [.int .u8, .int .u8]) := tfact_agg (by kernel_rfl) (by kernel_rfl) (by kernel_rfl)
theorem tf112 : TFact Go.Proofs.Tryd.prog KK 112 (.arr 16 2 true [.int .u8, .int .u8, .int .u8, .int .u8, .int .u8, .int .u8, .int .u8, .int .u8, .int .u8, .int .u8, .int .u8, .int .u8, .int .u8, .int .u8, .int .u8, .int .u8, .int .u8, .int .u8, .int .u8, .int .u8, .int .u8, .int .u8, .int .u8, .int .u8, .int .u8, .int .u8, .int .u8, .int .u8, .int .u8, .int .u8, .int .u8, .int .u8]) := tfact_arr (e := 111) (by kernel_rfl) (by kernel_rfl) (by kernel_rfl) (by kernel_rfl) (by kernel_rfl) (by kernel_rfl)
theorem tf113 : TFact Go.Proofs.Tryd.prog KK 113 (.one (.int .u32)) := tfact_one (by kernel_rfl) (by kernel_rfl) (d := .int .u32) (by kernel_rfl) rfl
theorem tf115 : TFact Go.Proofs.Tryd.prog KK 115 (.one (.fnc)) := tfact_fnc (by kernel_rfl) (by kernel_rfl) (by kernel_rfl)
theorem tf116 : TFact Go.Proofs.Tryd.prog KK 116 (.one (.fnc)) := tfact_fnc (by kernel_rfl) (by kernel_rfl) (by kernel_rfl)
theorem tf117 : TFact Go.Proofs.Tryd.prog KK 117 (.agg [(0, 1, false), (1, 1, false), (2, 1, false), (3, 1, false)] [.ptr, .ptr, .ptr, .str]) := tfact_agg (by kernel_rfl) (by kernel_rfl) (by kernel_rfl)
theorem tf118 : TFact Go.Proofs.Tryd.prog KK 118 (.agg [(0, 1, false), (1, 1, false), (2, 1, false), (3, 1, false)] [.ptr, .ptr, .ptr, .str]) := tfact_agg (by kernel_rfl) (by kernel_rfl) (by kernel_rfl)
theorem tf122 : TFact Go.Proofs.Tryd.prog KK 122 (.one (.fnc)) := tfact_fnc (by kernel_rfl) (by kernel_rfl) (by kernel_rfl)
theorem tf123 : TFact Go.Proofs.Tryd.prog KK 123 (.one (.int .u8)) := tfact_one (by kernel_rfl) (by kernel_rfl) (d := .int .u8) (by kernel_rfl) rfl
theorem tf124 : TFact Go.Proofs.Tryd.prog KK 124 (.one (.int .u8)) := tfact_one (by kernel_rfl) (by kernel_rfl) (d := .int .u8) (by kernel_rfl) rfl
theorem tf125 : TFact Go.Proofs.Tryd.prog KK 125 (.one (.fnc)) := tfact_fnc (by kernel_rfl) (by kernel_rfl) (by kernel_rfl)
theorem tf126 : TFact Go.Proofs.Tryd.prog KK 126 (.one (.ptr)) := tfact_one (by kernel_rfl) (by kernel_rfl) (d := .pointer 5) (by kernel_rfl) ⟨_, rfl⟩
theorem tf127 : TFact Go.Proofs.Tryd.prog KK 127 (.one (.int .i32)) := tfact_one (by kernel_rfl) (by kernel_rfl) (d := .int .i32) (by kernel_rfl) rfl
theorem tf128 : TFact Go.Proofs.Tryd.prog KK 128 (.one (.int .i32)) := tfact_one (by kernel_rfl) (by kernel_rfl) (d := .int .i32) (by kernel_rfl) rfl
theorem tf129 : TFact Go.Proofs.Tryd.prog KK 129 (.agg [(0, 1, false), (1, 1, false), (2, 1, false), (3, 1, false), (4, 1, false), (5, 1, false), (6, 1, false), (7, 1, false), (8, 1, false), (9, 1, false), (10, 1, false)] [.int .u64, .int .u64, .int .u32, .int .u8, .int .u8, .int .u8, .int .u8, .fnc, .ptr, .int .i32, .int .i32]) := tfact_agg (by kernel_rfl) (by kernel_rfl) (by kernel_rfl)
theorem tf130 : TFact Go.Proofs.Tryd.prog KK 130 (.agg [(0, 1, false), (1, 1, false), (2, 1, false), (3, 1, false), (4, 1, false), (5, 1, false), (6, 1, false), (7, 1, false), (8, 1, false), (9, 1, false), (10, 1, false)] [.int .u64, .int .u64, .int .u32, .int .u8, .int .u8, .int .u8, .int .u8, .fnc, .ptr, .int .i32, .int .i32]) := tfact_agg (by kernel_rfl) (by kernel_rfl) (by kernel_rfl)
set_option maxRecDepth 100000 in
theorem tks_ok : ∀ T k, lk tks T = some k → TFact Go.Proofs.Tryd.prog KK T k := tk_all (l := tks) ⟨tf1, tf2, tf3, tf4, tf5, tf6, tf7, tf8, tf9, tf10, tf11, tf12, tf13, tf14, tf15, tf16, tf17, tf18, tf19, tf20, tf21, tf22, tf23, tf24, tf25, tf26, tf27, tf28, tf29, tf30, tf31, tf32, tf33, tf34, tf35, tf36, tf37, tf38, tf39, tf40, tf41, tf42, tf43, tf44, tf45, tf46, tf47, tf48, tf49, tf50, tf51, tf52, tf53, tf54, tf55, tf56, tf57, tf58, tf59, tf60, tf61, tf62, tf63, tf64, tf65, tf66, tf67, tf68, tf69, tf70, tf71, tf72, tf73, tf74, tf75, tf76, tf77, tf78, tf79, tf80, tf81, tf82, tf83, tf84, tf85, tf86, tf87, tf88, tf90, tf91, tf92, tf93, tf94, tf95, tf96, tf97, tf98, tf100, tf101, tf102, tf104, tf105, tf106, tf107, tf108, tf109, tf110, tf111, tf112, tf113, tf115, tf116, tf117, tf118, tf122, tf123, tf124, tf125, tf126, tf127, tf128, tf129, tf130, trivial⟩
theorem els_ok : ∀ t, EFact Go.Proofs.Tryd.prog KK t := by
  intro t
  cases t
  · exact efact (z := .int .i64 0) (by kernel_rfl) (by show 0 < 8; decide) (by kernel_rfl) (by kernel_rfl)
  · exact efact (z := .int .u8 0) (by kernel_rfl) (by show 0 < 1; decide) (by kernel_rfl) (by kernel_rfl)
  · exact efact (z := .string ⟨#[]⟩) (by kernel_rfl) (by show 0 < 16; decide) (by kernel_rfl) (by kernel_rfl)
  · exact efact (z := .agg #[.slice none 0 0]) (by kernel_rfl) (by show 0 < 24; decide) (by kernel_rfl) (by kernel_rfl)
  · exact efact (z := .agg #[.slice none 0 0]) (by kernel_rfl) (by show 0 < 24; decide) (by kernel_rfl) (by kernel_rfl)
  · exact efact (z := .agg #[.string ⟨#[]⟩, .string ⟨#[]⟩, .slice none 0 0]) (by kernel_rfl) (by show 0 < 56; decide) (by kernel_rfl) (by kernel_rfl)
  · exact efact (z := .agg #[.int .i64 0, .string ⟨#[]⟩, .string ⟨#[]⟩, .string ⟨#[]⟩, .slice none 0 0]) (by kernel_rfl) (by show 0 < 80; decide) (by kernel_rfl) (by kernel_rfl)
  · exact efact (z := .agg #[.string ⟨#[]⟩, .slice none 0 0, .bool false, .slice none 0 0]) (by kernel_rfl) (by show 0 < 72; decide) (by kernel_rfl) (by kernel_rfl)
  · exact efact (z := .agg #[.string ⟨#[]⟩, .string ⟨#[]⟩, .slice none 0 0]) (by kernel_rfl) (by show 0 < 56; decide) (by kernel_rfl) (by kernel_rfl)
  · exact efact (z := .agg #[.string ⟨#[]⟩, .slice none 0 0]) (by kernel_rfl) (by show 0 < 40; decide) (by kernel_rfl) (by kernel_rfl)
  · exact efact (z := .agg #[.string ⟨#[]⟩, .slice none 0 0]) (by kernel_rfl) (by show 0 < 40; decide) (by kernel_rfl) (by kernel_rfl)
def mps : List (Nat × MT Ty) := [(87, ⟨⟨false, false, false, false⟩, .e9, .e3⟩)]
theorem mf87 : MFact Go.Proofs.Tryd.prog KK 87 ⟨⟨false, false, false, false⟩, .e9, .e3⟩ := mfact_str (kid := 9) (eid := 3) (by kernel_rfl) (by kernel_rfl) (fun x => ⟨x, rfl⟩) rfl rfl rfl (by kernel_rfl) (fun _ _ => rfl)
theorem mps_ok : ∀ T m, lk mps T = some m → MFact Go.Proofs.Tryd.prog KK T m := mp_of (by
  intro x hx
  simp only [mps, List.mem_cons, List.not_mem_nil, or_false] at hx
  rcases hx with rfl
  · exact mf87)
def meths : List (Nat × String × Nat) := [(8, "Error", 101), (8, "RuntimeError", 102), (10, "Error", 103), (10, "RuntimeError", 104), (11, "Error", 105), (11, "RuntimeError", 106), (14, "Error", 107), (14, "RuntimeError", 108), (15, "Error", 109), (15, "RuntimeError", 110), (16, "Error", 111), (16, "RuntimeError", 112), (17, "Align", 113), (19, "Error", 114), (19, "RuntimeError", 115), (30, "loop.example/wharfdesk/impl.at", 20), (124, "String", 116)]
theorem meths_ok : ∀ T name f, lkS meths T name = some f → ∀ v w, (method (Go.Proofs.Tryd.prog.types.size + Made.depth) T v name).run Go.Proofs.Tryd.prog w = .ok (f, v) w := meth_of (by kernel_rfl)
end Go.Proofs.YtadopcpehgblcaaDoor.Ab

/- The functions that the law calls, written plainly, and their contracts: each call answers what its plain function answers. No conditions. -/
set_option linter.unusedVariables false
namespace Go.Proofs.YtadopcpehgblcaaDoor.Ab
open Go Go.RowKit
def fuel : Nat := 4611686018427387904
def lkC {α : Type 1} : List (Nat × α) → Nat → Option α
  | [], _ => none
  | (m, v) :: r, n => cond (Nat.beq n m) (some v) (lkC r n)
def allR (P : Program) (K : Cd C) : List (Nat × Con C) → Prop
  | [] => True
  | (f, c) :: r => ConOk P K f c ∧ allR P K r
def allW (P : Program) (K : Cd C) : List (Nat × ConW C) → Prop
  | [] => True
  | (f, c) :: r => ConWOk P K f c ∧ allW P K r
theorem lkR_ok {P : Program} {K : Cd C} : ∀ {l : List (Nat × Con C)}, allR P K l → ∀ f c, lkC l f = some c → ConOk P K f c
  | [], _, f, c, h => by cases h
  | (m, v) :: r, ha, f, c, h => by
    simp only [lkC] at h
    cases hb : Nat.beq f m with
    | true => rw [hb] at h; cases h; have := Nat.eq_of_beq_eq_true hb; subst this; exact ha.1
    | false => rw [hb] at h; exact lkR_ok ha.2 f c h
theorem lkW_ok {P : Program} {K : Cd C} : ∀ {l : List (Nat × ConW C)}, allW P K l → ∀ f c, lkC l f = some c → ConWOk P K f c
  | [], _, f, c, h => by cases h
  | (m, v) :: r, ha, f, c, h => by
    simp only [lkC] at h
    cases hb : Nat.beq f m with
    | true => rw [hb] at h; cases h; have := Nat.eq_of_beq_eq_true hb; subst this; exact ha.1
    | false => rw [hb] at h; exact lkW_ok ha.2 f c h
theorem nameB {s t : String} (h : (s == t) = false) : s ≠ t := by simpa using h
def exts : List (Nat × (List Value → Option Value)) := [(91, xCnt), (99, xIdx), (82, xCmp)]
theorem exts_ok : ∀ f e, lk exts f = some e → ExtOk Tryd.prog f e := by
  intro f e h
  simp only [exts, lk_cons] at h
  split at h
  · subst_vars
    cases h
    exact xCnt_ok (fn := Tryd.f91) (by kernel_rfl) (by kernel_rfl) (by kernel_rfl) (by kernel_rfl) (by kernel_rfl)
  split at h
  · subst_vars
    cases h
    exact xIdx_ok (fn := Tryd.f99) (by kernel_rfl) (by kernel_rfl) (by kernel_rfl) (by kernel_rfl) (by kernel_rfl)
  split at h
  · subst_vars
    cases h
    exact xCmp_ok (fn := Tryd.f82) (by kernel_rfl) (by kernel_rfl) (by kernel_rfl) (by kernel_rfl) (by kernel_rfl)
  cases h
noncomputable def mkX (c : List (Nat × Con C)) (w : List (Nat × ConW C)) (i : List (Nat × Inl C)) (h : List Nat) (o : Nat) : Cx C := { K := KK, tk := lk tks, con := lkC c, conw := lkC w, inl := lkA i, hold := h, mp := lk mps, meth := lkS meths, ext := lk exts, off := o }
theorem mkX_ok {c w i h o} : XOk Tryd.prog (mkX c w i h o) := ⟨tks_ok, els_ok, mps_ok, meths_ok, exts_ok⟩
theorem mkQ {c w i h o} (hc : allR Tryd.prog KK c) (hw : allW Tryd.prog KK w) (hi : allI Tryd.prog KK i) : Cons Tryd.prog (mkX c w i h o) := ⟨lkR_ok hc, lkW_ok hw, lkI_ok hi⟩
theorem mix_ok : Tryd.prog.follows .mixedOrders = true := by kernel_rfl
theorem cO {c w i h o} (hC : Cons Tryd.prog (mkX c w i h o)) {f : Nat} {fn : Func} (hf : Tryd.prog.funcs[f]? = some fn) (hb : fn.body = some (bodyOf fn)) (hB : codeB fn.ntmps (bodyOf fn) = true) (hname : (fn.name == "runtime.NumGoroutine") = false) {ps rs : List (PK Ty)} {G : Fun C ps (Option (Args C rs))} (F : Cf) (hn : Nat.ble ps.length fn.ntmps = true)
    (t : Hold (PK.enS KK) ps G fun vs r => runFn (mkX c w i h o) F fn vs (deR KK rs) = r) : ConOk Tryd.prog KK f (mkC KK ps rs G) := mkC_ok (X := mkX c w i h o) mkX_ok hC mix_ok hf hb hB hname F hn t
theorem zO {c w i h o} (hC : Cons Tryd.prog (mkX c w i h o)) {f : Nat} {fn : Func} (hf : Tryd.prog.funcs[f]? = some fn) (hb : fn.body = some (bodyOf fn)) (hB : codeB fn.ntmps (bodyOf fn) = true) (hname : (fn.name == "runtime.NumGoroutine") = false) {ps rs : List (PK Ty)} {G : Fun C ps (Option (Args C rs))} (F : Cf) (hn : Nat.ble ps.length fn.ntmps = true)
    (t : Hold (PK.enS KK) ps G fun vs r => runFnZ (mkX c w i h o) F fn vs (deR KK rs) = r) : ConOk Tryd.prog KK f (nzC (mkC KK ps rs G)) := mkZ_ok (X := mkX c w i h o) mkX_ok hC mix_ok hf hb hB hname F hn t
theorem wO {c w i h o} (hC : Cons Tryd.prog (mkX c w i h o)) {f : Nat} {fn : Func} (hf : Tryd.prog.funcs[f]? = some fn) (hb : fn.body = some (bodyOf fn)) (hB : codeB fn.ntmps (bodyOf fn) = true) (hname : (fn.name == "runtime.NumGoroutine") = false) {ps : List (PK Ty)} {os : List Ty} {rs : List (PK Ty)} {G : Fun C ps (Option (ArgsW C os rs))} (F : Cf) (hn : Nat.ble ps.length fn.ntmps = true)
    (t : ∀ kp kh hd, Hold (PK.enL KK) ps G fun vs r => runFnW ((mkX c w i h o).gh kp kh hd) F fn vs (deW KK os rs) = r) : ConWOk Tryd.prog KK f (mkW KK ps os rs G) := mkW_ok (X := mkX c w i h o) mkX_ok hC mix_ok hf hb hB hname F hn t
theorem iO {c w i h o} (hC : Cons Tryd.prog (mkX c w i h o)) (F : Cf) {f : Nat} {fn : Func} (hf : Tryd.prog.funcs[f]? = some fn) (hb : fn.body = some (bodyOf fn)) (hB : codeB fn.ntmps (bodyOf fn) = true) (hname : (fn.name == "runtime.NumGoroutine") = false) : InlOk Tryd.prog KK f (inlOf (mkX c w i h o) F fn) := inl_of (X := mkX c w i h o) mkX_ok hC mix_ok F hf hb hB (by simpa using hname)
-- ext
/-! ### f76 loop.example/wharfdesk/laws.szStringS -/
noncomputable def X76 : Cx C := mkX [] [] [] [] 4980736
def F76 (n : Nat) : Cf := { N := n, keep := [0, 1, 4, 5, 11, 15, 26], live := lk [(0, [0, 1, 5])] }
noncomputable abbrev dec76 := deR KK [.int .i64]
abbrev A76_0 : Type := List (C .e9) × Int × Int
def s76_0  : A76_0 → St C := fun (x0_0, x0_1, x0_2) => { env := [(0, .one (.row .e9 x0_0)), (1, .one (.int .i64 x0_1)), (5, .one (.int .i64 x0_2))], objs := [], base := 0 }
noncomputable def r76_0 (n : Nat)   (rec0 : A76_0 → Option (Int)) : A76_0 → Option (Int) := fun (x0_0, x0_1, x0_2) =>
 cond (decide (x0_2 < (x0_0.length : Int)))
 (cond (decide (0 ≤ x0_2)) (Option.bind x0_0[x0_2.toNat]? fun e1 => cond (decide ((IntKind.i64.wrap (x0_1 - (e1.size : Int))) < 0))
 (some ((-1)))
 (rec0 ((x0_0, IntKind.i64.wrap (x0_1 - (e1.size : Int)), IntKind.i64.wrap (x0_2 + 1))))) none)
 (some (x0_1))
noncomputable def LP76_0 (n : Nat)   (x : A76_0) : Option (Int) := lpN (r76_0 n  ) n x
noncomputable def MP76_0 (n : Nat)   (x : A76_0) : Option (Int) := iter (fun rec S => run X76 (F76 n) (codeAt (bodyOf Tryd.f76) [1, 1, 1, 0, 1, 0, 0]) 0 S (lopK rec (blkK 0 (seqK (run X76 (F76 n) (codeAt (bodyOf Tryd.f76) [1, 1, 1, 1]) 0) (kTop X76 Tryd.f76 dec76))))) [0, 1, 5] n (s76_0  x)
theorem m76_0 (n : Nat)   (x : A76_0) : MP76_0 n   x = LP76_0 n   x := by
  refine iter_eq (s76_0 ) (r76_0 n  ) (fun rec0 x => ?_) n x
  obtain ⟨x0_0, x0_1, x0_2⟩ := x
  kernel_rfl
noncomputable def G76n (n : Nat) (a0 : List (C .e9)) (a1 : Int) : Option (Int) :=
 cond (decide ((IntKind.i64.wrap (a1 - (a0.length : Int))) < 0))
 (some ((-1)))
 (LP76_0 n    ((a0, IntKind.i64.wrap (a1 - (a0.length : Int)), 0)))
theorem t76 (n : Nat) (a0 : List (C .e9)) (a1 : Int) : runFn X76 (F76 n) Tryd.f76 [.one (.row .e9 a0), .one (.int .i64 a1)] dec76 = G76n n a0 a1 := by
  refine Eq.trans (b :=
   cond (decide ((IntKind.i64.wrap (a1 - (a0.length : Int))) < 0))
   (some ((-1)))
   (MP76_0 n    ((a0, IntKind.i64.wrap (a1 - (a0.length : Int)), 0)))) (by kernel_rfl) ?_
  simp only [G76n, m76_0]
noncomputable def G76 (a0 : List (C .e9)) (a1 : Int) : Option (Int) := G76n fuel a0 a1
noncomputable def con76 : Con C := mkC KK [.row .e9, .int .i64] [.int .i64] G76
theorem c76 : ConOk Tryd.prog KK 76 con76 := cO (mkQ trivial trivial trivial : Cons Tryd.prog X76) (fn := Tryd.f76) (by kernel_rfl) (by kernel_rfl) (by kernel_rfl) (by kernel_rfl) (F76 fuel) (by kernel_rfl) (fun a0 a1 => t76 fuel a0 a1)
/-! ### f67 loop.example/wharfdesk/laws.szSheetLine -/
noncomputable def X67 : Cx C := mkX [(76, con76)] [] [] [] 4390912
def F67 (n : Nat) : Cf := { N := n, keep := [0, 1, 2, 4, 11, 17], live := lk [] }
noncomputable abbrev dec67 := deR KK [.int .i64]
noncomputable def G67n (n : Nat) (a0 : VSheetLine) (a1 : Int) : Option (Int) :=
 cond (decide ((IntKind.i64.wrap (a1 - (a0.Key.size : Int))) < 0))
 (some ((-1)))
 (Option.bind (G76 a0.Words (IntKind.i64.wrap (a1 - (a0.Key.size : Int)))) fun r1 =>
 cond (decide (r1 < 0))
 (some ((-1)))
 (some (r1)))
theorem t67 (n : Nat) (a0 : VSheetLine) (a1 : Int) : runFn X67 (F67 n) Tryd.f67 [.agg [.str a0.Key, .row .e9 a0.Words], .one (.int .i64 a1)] dec67 = G67n n a0 a1 := by
  kernel_rfl
noncomputable def G67 (a0 : VSheetLine) (a1 : Int) : Option (Int) := G67n fuel a0 a1
noncomputable def con67 : Con C := mkC KK [.el .e93, .int .i64] [.int .i64] G67
theorem c67 : ConOk Tryd.prog KK 67 con67 := cO (mkQ ⟨c76, trivial⟩ trivial trivial : Cons Tryd.prog X67) (fn := Tryd.f67) (by kernel_rfl) (by kernel_rfl) (by kernel_rfl) (by kernel_rfl) (F67 fuel) (by kernel_rfl) (fun a0 a1 => t67 fuel a0 a1)
/-! ### f51 loop.example/wharfdesk/laws.szSheetLineS -/
noncomputable def X51 : Cx C := mkX [(67, con67)] [] [] [] 3342336
def F51 (n : Nat) : Cf := { N := n, keep := [0, 1, 4, 5, 11, 15, 25], live := lk [(0, [0, 1, 5])] }
noncomputable abbrev dec51 := deR KK [.int .i64]
abbrev A51_0 : Type := List (C .e93) × Int × Int
def s51_0  : A51_0 → St C := fun (x0_0, x0_1, x0_2) => { env := [(0, .one (.row .e93 x0_0)), (1, .one (.int .i64 x0_1)), (5, .one (.int .i64 x0_2))], objs := [], base := 0 }
noncomputable def r51_0 (n : Nat)   (rec0 : A51_0 → Option (Int)) : A51_0 → Option (Int) := fun (x0_0, x0_1, x0_2) =>
 cond (decide (x0_2 < (x0_0.length : Int)))
 (cond (decide (0 ≤ x0_2)) (Option.bind x0_0[x0_2.toNat]? fun e1 => Option.bind (G67 e1 x0_1) fun r2 =>
 cond (decide (r2 < 0))
 (some ((-1)))
 (rec0 ((x0_0, r2, IntKind.i64.wrap (x0_2 + 1))))) none)
 (some (x0_1))
noncomputable def LP51_0 (n : Nat)   (x : A51_0) : Option (Int) := lpN (r51_0 n  ) n x
noncomputable def MP51_0 (n : Nat)   (x : A51_0) : Option (Int) := iter (fun rec S => run X51 (F51 n) (codeAt (bodyOf Tryd.f51) [1, 1, 1, 0, 1, 0, 0]) 0 S (lopK rec (blkK 0 (seqK (run X51 (F51 n) (codeAt (bodyOf Tryd.f51) [1, 1, 1, 1]) 0) (kTop X51 Tryd.f51 dec51))))) [0, 1, 5] n (s51_0  x)
theorem m51_0 (n : Nat)   (x : A51_0) : MP51_0 n   x = LP51_0 n   x := by
  refine iter_eq (s51_0 ) (r51_0 n  ) (fun rec0 x => ?_) n x
  obtain ⟨x0_0, x0_1, x0_2⟩ := x
  kernel_rfl
noncomputable def G51n (n : Nat) (a0 : List (C .e93)) (a1 : Int) : Option (Int) :=
 cond (decide ((IntKind.i64.wrap (a1 - (a0.length : Int))) < 0))
 (some ((-1)))
 (LP51_0 n    ((a0, IntKind.i64.wrap (a1 - (a0.length : Int)), 0)))
theorem t51 (n : Nat) (a0 : List (C .e93)) (a1 : Int) : runFn X51 (F51 n) Tryd.f51 [.one (.row .e93 a0), .one (.int .i64 a1)] dec51 = G51n n a0 a1 := by
  refine Eq.trans (b :=
   cond (decide ((IntKind.i64.wrap (a1 - (a0.length : Int))) < 0))
   (some ((-1)))
   (MP51_0 n    ((a0, IntKind.i64.wrap (a1 - (a0.length : Int)), 0)))) (by kernel_rfl) ?_
  simp only [G51n, m51_0]
noncomputable def G51 (a0 : List (C .e93)) (a1 : Int) : Option (Int) := G51n fuel a0 a1
noncomputable def con51 : Con C := mkC KK [.row .e93, .int .i64] [.int .i64] G51
theorem c51 : ConOk Tryd.prog KK 51 con51 := cO (mkQ ⟨c67, trivial⟩ trivial trivial : Cons Tryd.prog X51) (fn := Tryd.f51) (by kernel_rfl) (by kernel_rfl) (by kernel_rfl) (by kernel_rfl) (F51 fuel) (by kernel_rfl) (fun a0 a1 => t51 fuel a0 a1)
/-! ### f31 loop.example/wharfdesk/laws.szSheetBlock -/
noncomputable def X31 : Cx C := mkX [(51, con51)] [] [] [] 2031616
def F31 (n : Nat) : Cf := { N := n, keep := [0, 1, 2, 4, 11, 18, 24], live := lk [] }
noncomputable abbrev dec31 := deR KK [.int .i64]
noncomputable def G31n (n : Nat) (a0 : VSheetBlock) (a1 : Int) : Option (Int) :=
 cond (decide ((IntKind.i64.wrap (a1 - (a0.Kind.size : Int))) < 0))
 (some ((-1)))
 (cond (decide ((IntKind.i64.wrap ((IntKind.i64.wrap (a1 - (a0.Kind.size : Int))) - (a0.Name.size : Int))) < 0))
 (some ((-1)))
 (Option.bind (G51 a0.Lines (IntKind.i64.wrap ((IntKind.i64.wrap (a1 - (a0.Kind.size : Int))) - (a0.Name.size : Int)))) fun r1 =>
 cond (decide (r1 < 0))
 (some ((-1)))
 (some (r1))))
theorem t31 (n : Nat) (a0 : VSheetBlock) (a1 : Int) : runFn X31 (F31 n) Tryd.f31 [.agg [.str a0.Kind, .str a0.Name, .row .e93 a0.Lines], .one (.int .i64 a1)] dec31 = G31n n a0 a1 := by
  kernel_rfl
noncomputable def G31 (a0 : VSheetBlock) (a1 : Int) : Option (Int) := G31n fuel a0 a1
noncomputable def con31 : Con C := mkC KK [.el .e65, .int .i64] [.int .i64] G31
theorem c31 : ConOk Tryd.prog KK 31 con31 := cO (mkQ ⟨c51, trivial⟩ trivial trivial : Cons Tryd.prog X31) (fn := Tryd.f31) (by kernel_rfl) (by kernel_rfl) (by kernel_rfl) (by kernel_rfl) (F31 fuel) (by kernel_rfl) (fun a0 a1 => t31 fuel a0 a1)
/-! ### f13 loop.example/wharfdesk/laws.szSheetBlockS -/
noncomputable def X13 : Cx C := mkX [(31, con31)] [] [] [] 851968
def F13 (n : Nat) : Cf := { N := n, keep := [0, 1, 4, 5, 11, 15, 25], live := lk [(0, [0, 1, 5])] }
noncomputable abbrev dec13 := deR KK [.int .i64]
abbrev A13_0 : Type := List (C .e65) × Int × Int
def s13_0  : A13_0 → St C := fun (x0_0, x0_1, x0_2) => { env := [(0, .one (.row .e65 x0_0)), (1, .one (.int .i64 x0_1)), (5, .one (.int .i64 x0_2))], objs := [], base := 0 }
noncomputable def r13_0 (n : Nat)   (rec0 : A13_0 → Option (Int)) : A13_0 → Option (Int) := fun (x0_0, x0_1, x0_2) =>
 cond (decide (x0_2 < (x0_0.length : Int)))
 (cond (decide (0 ≤ x0_2)) (Option.bind x0_0[x0_2.toNat]? fun e1 => Option.bind (G31 e1 x0_1) fun r2 =>
 cond (decide (r2 < 0))
 (some ((-1)))
 (rec0 ((x0_0, r2, IntKind.i64.wrap (x0_2 + 1))))) none)
 (some (x0_1))
noncomputable def LP13_0 (n : Nat)   (x : A13_0) : Option (Int) := lpN (r13_0 n  ) n x
noncomputable def MP13_0 (n : Nat)   (x : A13_0) : Option (Int) := iter (fun rec S => run X13 (F13 n) (codeAt (bodyOf Tryd.f13) [1, 1, 1, 0, 1, 0, 0]) 0 S (lopK rec (blkK 0 (seqK (run X13 (F13 n) (codeAt (bodyOf Tryd.f13) [1, 1, 1, 1]) 0) (kTop X13 Tryd.f13 dec13))))) [0, 1, 5] n (s13_0  x)
theorem m13_0 (n : Nat)   (x : A13_0) : MP13_0 n   x = LP13_0 n   x := by
  refine iter_eq (s13_0 ) (r13_0 n  ) (fun rec0 x => ?_) n x
  obtain ⟨x0_0, x0_1, x0_2⟩ := x
  kernel_rfl
noncomputable def G13n (n : Nat) (a0 : List (C .e65)) (a1 : Int) : Option (Int) :=
 cond (decide ((IntKind.i64.wrap (a1 - (a0.length : Int))) < 0))
 (some ((-1)))
 (LP13_0 n    ((a0, IntKind.i64.wrap (a1 - (a0.length : Int)), 0)))
theorem t13 (n : Nat) (a0 : List (C .e65)) (a1 : Int) : runFn X13 (F13 n) Tryd.f13 [.one (.row .e65 a0), .one (.int .i64 a1)] dec13 = G13n n a0 a1 := by
  refine Eq.trans (b :=
   cond (decide ((IntKind.i64.wrap (a1 - (a0.length : Int))) < 0))
   (some ((-1)))
   (MP13_0 n    ((a0, IntKind.i64.wrap (a1 - (a0.length : Int)), 0)))) (by kernel_rfl) ?_
  simp only [G13n, m13_0]
noncomputable def G13 (a0 : List (C .e65)) (a1 : Int) : Option (Int) := G13n fuel a0 a1
noncomputable def con13 : Con C := mkC KK [.row .e65, .int .i64] [.int .i64] G13
theorem c13 : ConOk Tryd.prog KK 13 con13 := cO (mkQ ⟨c31, trivial⟩ trivial trivial : Cons Tryd.prog X13) (fn := Tryd.f13) (by kernel_rfl) (by kernel_rfl) (by kernel_rfl) (by kernel_rfl) (F13 fuel) (by kernel_rfl) (fun a0 a1 => t13 fuel a0 a1)
/-! ### f4 loop.example/wharfdesk/laws.szSheet -/
noncomputable def X4 : Cx C := mkX [(13, con13)] [] [] [] 262144
def F4 (n : Nat) : Cf := { N := n, keep := [0, 1, 2, 4, 10], live := lk [] }
noncomputable abbrev dec4 := deR KK [.int .i64]
noncomputable def G4n (n : Nat) (a0 : VSheet) (a1 : Int) : Option (Int) :=
 Option.bind (G13 a0.Blocks a1) fun r1 =>
 cond (decide (r1 < 0))
 (some ((-1)))
 (some (r1))
theorem t4 (n : Nat) (a0 : VSheet) (a1 : Int) : runFn X4 (F4 n) Tryd.f4 [.agg [.row .e65 a0.Blocks], .one (.int .i64 a1)] dec4 = G4n n a0 a1 := by
  kernel_rfl
noncomputable def G4 (a0 : VSheet) (a1 : Int) : Option (Int) := G4n fuel a0 a1
noncomputable def con4 : Con C := mkC KK [.el .e24, .int .i64] [.int .i64] G4
theorem c4 : ConOk Tryd.prog KK 4 con4 := cO (mkQ ⟨c13, trivial⟩ trivial trivial : Cons Tryd.prog X4) (fn := Tryd.f4) (by kernel_rfl) (by kernel_rfl) (by kernel_rfl) (by kernel_rfl) (F4 fuel) (by kernel_rfl) (fun a0 a1 => t4 fuel a0 a1)
/-! ### f52 loop.example/wharfdesk/spec.l38One -/
noncomputable def X52 : Cx C := mkX [] [] [] [] 3407872
def F52 (n : Nat) : Cf := { N := n, keep := [0, 1, 2, 6, 7, 8, 9, 18, 30], live := lk [(0, [1, 6, 7, 8, 9])] }
noncomputable abbrev dec52 := deR KK [.el .e54]
abbrev A52_0 : Type := Int × Int × List (C .e9)
section
variable (x0 : ByteArray) (x3 : ByteArray) (x4 : List (C .e3)) (x5 : Bool) (x6 : List (C .e9)) (x7 : ByteArray) (x8 : List (C .e3)) (x9 : Bool)
def s52_0 : A52_0 → St C := fun (x1, x2, x10) => { env := [(1, .one (.str x0)), (6, .one (.ptr 3408256 0)), (7, .one (.ptr 3408320 0)), (8, .one (.int .i64 x1)), (9, .one (.int .i64 x2))], objs := [(3408256, .box .mem [.str x3, .ref 341825601 [], .bool x5, .ref 341825603 []]), (341825601, .row .e3 x4 false), (341825603, .row .e9 x6 false), (3408320, .box .mem [.str x7, .ref 341832001 [], .bool x9, .ref 341832003 []]), (341832001, .row .e3 x8 false), (341832003, .row .e9 x10 false)], base := 0 }
end
noncomputable def r52_0 (x0 : ByteArray) (x7 : ByteArray) (x8 : List (C .e3)) (x9 : Bool) (n : Nat)   (rec0 : A52_0 → Option (VSheetRule)) : A52_0 → Option (VSheetRule) := fun (x1, x2, x10) =>
 cond (decide (x2 ≤ (x0.size : Int)))
 (cond (x2 == (x0.size : Int))
 (cond (decide ((0 : Int) ≤ x1)) (cond (decide ((x1 : Int) ≤ x2)) (cond (decide (x2 ≤ (x0.size : Int))) (cond (decide ((x10.length + (([x0.extract (x1 : Int).toNat x2.toNat] : List (C .e9))).length) * 16 ≤ 140737488355328)) (rec0 ((IntKind.i64.wrap (x2 + 1), IntKind.i64.wrap (x2 + 1), x10 ++ (([x0.extract (x1 : Int).toNat x2.toNat] : List (C .e9)))))) none) none) none) none)
 (cond (decide (0 ≤ x2)) (cond (decide (x2 < (x0.size : Int))) (cond ((sbt x0 x2) == 32)
 (cond (decide ((0 : Int) ≤ x1)) (cond (decide ((x1 : Int) ≤ x2)) (cond (decide (x2 ≤ (x0.size : Int))) (cond (decide ((x10.length + (([x0.extract (x1 : Int).toNat x2.toNat] : List (C .e9))).length) * 16 ≤ 140737488355328)) (rec0 ((IntKind.i64.wrap (x2 + 1), IntKind.i64.wrap (x2 + 1), x10 ++ (([x0.extract (x1 : Int).toNat x2.toNat] : List (C .e9)))))) none) none) none) none)
 (rec0 ((x1, IntKind.i64.wrap (x2 + 1), x10)))) none) none))
 (some ((⟨x7, x8, x9, x10⟩ : VSheetRule)))
section
variable (x0 : ByteArray) (x3 : ByteArray) (x4 : List (C .e3)) (x5 : Bool) (x6 : List (C .e9)) (x7 : ByteArray) (x8 : List (C .e3)) (x9 : Bool)
noncomputable def MP52_0 (n : Nat)  (x : A52_0) : Option (VSheetRule) := iter (fun rec S => run X52 (F52 n) (codeAt (bodyOf Tryd.f52) [1, 1, 1, 0, 1, 0, 0]) 0 S (lopK rec (blkK 0 (seqK (run X52 (F52 n) (codeAt (bodyOf Tryd.f52) [1, 1, 1, 1]) 0) (kTop X52 Tryd.f52 dec52))))) [1, 6, 7, 8, 9] n (s52_0 x0 x3 x4 x5 x6 x7 x8 x9 x)
theorem m52_0 (n : Nat)  (x : A52_0) : MP52_0 x0 x3 x4 x5 x6 x7 x8 x9 n  x = lpN (r52_0 x0 x7 x8 x9 n  ) n x := by
  refine iter_eq (s52_0 x0 x3 x4 x5 x6 x7 x8 x9) (r52_0 x0 x7 x8 x9 n  ) (fun rec0 x => ?_) n x
  obtain ⟨x1, x2, x10⟩ := x
  kernel_rfl
end
noncomputable def G52n (n : Nat) (a0 : ByteArray) (a1 : ByteArray) (a2 : List (C .e3)) : Option (VSheetRule) :=
 cond (decide (((([] : List (C .e3))).length + a2.length) * 8 ≤ 140737488355328)) (lpN (r52_0 a1 a0 ((([] : List (C .e3))) ++ a2) false n ) n ((0, 0, ([] : List (C .e9))))) none
theorem t52 (n : Nat) (a0 : ByteArray) (a1 : ByteArray) (a2 : List (C .e3)) : runFn X52 (F52 n) Tryd.f52 [.one (.str a0), .one (.str a1), .one (.row .e3 a2)] dec52 = G52n n a0 a1 a2 := by
  refine Eq.trans (b :=
   cond (decide (((([] : List (C .e3))).length + a2.length) * 8 ≤ 140737488355328)) (MP52_0 a1 (⟨#[]⟩ : ByteArray) (([] : List (C .e3))) false (([] : List (C .e9))) a0 ((([] : List (C .e3))) ++ a2) false n   ((0, 0, ([] : List (C .e9))))) none) (by kernel_rfl) ?_
  simp only [G52n, m52_0]
noncomputable def G52 (a0 : ByteArray) (a1 : ByteArray) (a2 : List (C .e3)) : Option (VSheetRule) := G52n fuel a0 a1 a2
noncomputable def con52 : Con C := mkC KK [.str, .str, .row .e3] [.el .e54] G52
theorem c52 : ConOk Tryd.prog KK 52 con52 := cO (mkQ trivial trivial trivial : Cons Tryd.prog X52) (fn := Tryd.f52) (by kernel_rfl) (by kernel_rfl) (by kernel_rfl) (by kernel_rfl) (F52 fuel) (by kernel_rfl) (fun a0 a1 a2 => t52 fuel a0 a1 a2)
/-! ### f53 loop.example/wharfdesk/spec.l38Many -/
noncomputable def X53 : Cx C := mkX [] [] [] [] 3473408
def F53 (n : Nat) : Cf := { N := n, keep := [0, 1, 4], live := lk [] }
noncomputable abbrev dec53 := deR KK [.el .e54]
noncomputable def G53n (n : Nat) (a0 : ByteArray) (a1 : List (C .e3)) : Option (VSheetRule) :=
 cond (decide (((([] : List (C .e3))).length + a1.length) * 8 ≤ 140737488355328)) (some ((⟨a0, (([] : List (C .e3))) ++ a1, true, ([] : List (C .e9))⟩ : VSheetRule))) none
theorem t53 (n : Nat) (a0 : ByteArray) (a1 : List (C .e3)) : runFn X53 (F53 n) Tryd.f53 [.one (.str a0), .one (.row .e3 a1)] dec53 = G53n n a0 a1 := by
  kernel_rfl
noncomputable def G53 (a0 : ByteArray) (a1 : List (C .e3)) : Option (VSheetRule) := G53n fuel a0 a1
noncomputable def con53 : Con C := mkC KK [.str, .row .e3] [.el .e54] G53
theorem c53 : ConOk Tryd.prog KK 53 con53 := cO (mkQ trivial trivial trivial : Cons Tryd.prog X53) (fn := Tryd.f53) (by kernel_rfl) (by kernel_rfl) (by kernel_rfl) (by kernel_rfl) (F53 fuel) (by kernel_rfl) (fun a0 a1 => t53 fuel a0 a1)
/-! ### f32 loop.example/wharfdesk/spec.SheetRules -/
noncomputable def X32 : Cx C := mkX [(52, con52), (53, con53)] [] [] [] 2097152
def F32 (n : Nat) : Cf := { N := n, keep := [0, 2, 3, 4, 11, 22], live := lk [] }
noncomputable abbrev dec32 := deR KK [.row .e54]
noncomputable def G32n (n : Nat) (a0 : ByteArray) : Option (List (C .e54)) :=
 cond (decide (a0 = (⟨#[116, 101, 97, 109]⟩ : ByteArray)))
 (Option.bind (G52 (⟨#[99, 111, 112, 105, 101, 115]⟩ : ByteArray) (⟨#[49, 48, 48]⟩ : ByteArray) (([1] : List (C .e3)))) fun r1 =>
 Option.bind (G52 (⟨#[114, 111, 111, 109]⟩ : ByteArray) (⟨#[49, 48, 48, 48]⟩ : ByteArray) (([1] : List (C .e3)))) fun r2 =>
 some (([r1, r2] : List (C .e54))))
 (cond (decide (a0 = (⟨#[98, 101, 114, 116, 104]⟩ : ByteArray)))
 (Option.bind (G52 (⟨#[122, 111, 110, 101]⟩ : ByteArray) (⟨#[122]⟩ : ByteArray) (([3] : List (C .e3)))) fun r3 =>
 Option.bind (G52 (⟨#[114, 111, 111, 109]⟩ : ByteArray) (⟨#[49, 48, 48]⟩ : ByteArray) (([1] : List (C .e3)))) fun r4 =>
 Option.bind (G52 (⟨#[104, 111, 108, 100]⟩ : ByteArray) (⟨#[49, 48, 48]⟩ : ByteArray) (([1] : List (C .e3)))) fun r5 =>
 Option.bind (G53 (⟨#[109, 97, 114, 107]⟩ : ByteArray) (([3] : List (C .e3)))) fun r6 =>
 some (([r3, r4, r5, r6] : List (C .e54))))
 (cond (decide (a0 = (⟨#[115, 101, 114, 118, 105, 99, 101]⟩ : ByteArray)))
 (Option.bind (G52 (⟨#[116, 101, 97, 109]⟩ : ByteArray) (⟨#[99, 111, 114, 101]⟩ : ByteArray) (([3] : List (C .e3)))) fun r7 =>
 Option.bind (G52 (⟨#[105, 109, 97, 103, 101]⟩ : ByteArray) (⟨#[49]⟩ : ByteArray) (([1] : List (C .e3)))) fun r8 =>
 Option.bind (G52 (⟨#[119, 97, 110, 116]⟩ : ByteArray) (⟨#[49]⟩ : ByteArray) (([1] : List (C .e3)))) fun r9 =>
 Option.bind (G52 (⟨#[100, 111, 119, 110]⟩ : ByteArray) (⟨#[49]⟩ : ByteArray) (([1] : List (C .e3)))) fun r10 =>
 Option.bind (G52 (⟨#[111, 118, 101, 114]⟩ : ByteArray) (⟨#[48]⟩ : ByteArray) (([1] : List (C .e3)))) fun r11 =>
 Option.bind (G52 (⟨#[110, 101, 101, 100, 115]⟩ : ByteArray) (⟨#[49, 32, 49]⟩ : ByteArray) (([1, 1] : List (C .e3)))) fun r12 =>
 Option.bind (G52 (⟨#[119, 104, 101, 114, 101]⟩ : ByteArray) (⟨#[]⟩ : ByteArray) (([4] : List (C .e3)))) fun r13 =>
 Option.bind (G53 (⟨#[108, 105, 107, 101]⟩ : ByteArray) (([4, 2] : List (C .e3)))) fun r14 =>
 Option.bind (G52 (⟨#[97, 112, 97, 114, 116]⟩ : ByteArray) (⟨#[110, 111, 110, 101]⟩ : ByteArray) (([6] : List (C .e3)))) fun r15 =>
 Option.bind (G52 (⟨#[118, 111, 108, 117, 109, 101]⟩ : ByteArray) (⟨#[110, 111]⟩ : ByteArray) (([5] : List (C .e3)))) fun r16 =>
 Option.bind (G52 (⟨#[102, 111, 108, 108, 111, 119]⟩ : ByteArray) (⟨#[48, 32, 48, 32, 48]⟩ : ByteArray) (([1, 1, 1] : List (C .e3)))) fun r17 =>
 Option.bind (G52 (⟨#[112, 97, 99, 101]⟩ : ByteArray) (⟨#[48, 32, 48, 32, 48]⟩ : ByteArray) (([1, 1, 1] : List (C .e3)))) fun r18 =>
 some (([r7, r8, r9, r10, r11, r12, r13, r14, r15, r16, r17, r18] : List (C .e54))))
 (some (([] : List (C .e54))))))
theorem t32 (n : Nat) (a0 : ByteArray) : runFn X32 (F32 n) Tryd.f32 [.one (.str a0)] dec32 = G32n n a0 := by
  kernel_rfl
noncomputable def G32 (a0 : ByteArray) : Option (List (C .e54)) := G32n fuel a0
noncomputable def con32 : Con C := mkC KK [.str] [.row .e54] G32
theorem c32 : ConOk Tryd.prog KK 32 con32 := cO (mkQ ⟨c52, c53, trivial⟩ trivial trivial : Cons Tryd.prog X32) (fn := Tryd.f32) (by kernel_rfl) (by kernel_rfl) (by kernel_rfl) (by kernel_rfl) (F32 fuel) (by kernel_rfl) (fun a0 => t32 fuel a0)
/-! ### f54 loop.example/wharfdesk/spec.l37In -/
noncomputable def X54 : Cx C := mkX [] [] [] [] 3538944
def F54 (n : Nat) : Cf := { N := n, keep := [0, 1, 2, 6], live := lk [] }
noncomputable abbrev dec54 := deR KK [.bool]
noncomputable def G54n (n : Nat) (a0 : Int) (a1 : Int) (a2 : Int) : Option (Bool) :=
 cond (decide (a0 ≥ a1))
 (some (decide (a0 ≤ a2)))
 (some (false))
theorem t54 (n : Nat) (a0 : Int) (a1 : Int) (a2 : Int) : runFn X54 (F54 n) Tryd.f54 [.one (.int .i64 a0), .one (.int .i64 a1), .one (.int .i64 a2)] dec54 = G54n n a0 a1 a2 := by
  kernel_rfl
noncomputable def G54 (a0 : Int) (a1 : Int) (a2 : Int) : Option (Bool) := G54n fuel a0 a1 a2
noncomputable def con54 : Con C := mkC KK [.int .i64, .int .i64, .int .i64] [.bool] G54
theorem c54 : ConOk Tryd.prog KK 54 con54 := cO (mkQ trivial trivial trivial : Cons Tryd.prog X54) (fn := Tryd.f54) (by kernel_rfl) (by kernel_rfl) (by kernel_rfl) (by kernel_rfl) (F54 fuel) (by kernel_rfl) (fun a0 a1 a2 => t54 fuel a0 a1 a2)
/-! ### f33 loop.example/wharfdesk/spec.l38NameOk -/
noncomputable def X33 : Cx C := mkX [(54, con54)] [] [] [] 2162688
def F33 (n : Nat) : Cf := { N := n, keep := [0, 2, 3, 4, 8, 12, 36], live := lk [(0, [0, 3])] }
noncomputable abbrev dec33 := deR KK [.bool]
abbrev A33_0 : Type := Int
section
variable (x0 : ByteArray)
def s33_0 : A33_0 → St C := fun x1 => { env := [(0, .one (.str x0)), (3, .one (.int .i64 x1))], objs := [], base := 0 }
end
noncomputable def r33_0 (x0 : ByteArray) (n : Nat)   (rec0 : A33_0 → Option (Bool)) : A33_0 → Option (Bool) := fun x1 =>
 cond (decide (x1 < (x0.size : Int)))
 (cond (decide (0 ≤ x1)) (cond (decide (x1 < (x0.size : Int))) (cond (decide ((sbt x0 x1) ≥ 97))
 (cond (decide ((sbt x0 x1) ≤ 122))
 (rec0 (IntKind.i64.wrap (x1 + 1)))
 (cond (decide ((sbt x0 x1) ≥ 48))
 (cond (decide ((sbt x0 x1) ≤ 57))
 (rec0 (IntKind.i64.wrap (x1 + 1)))
 (cond (!((sbt x0 x1) == 45))
 (some (false))
 (rec0 (IntKind.i64.wrap (x1 + 1)))))
 (cond (!((sbt x0 x1) == 45))
 (some (false))
 (rec0 (IntKind.i64.wrap (x1 + 1))))))
 (cond (decide ((sbt x0 x1) ≥ 48))
 (cond (decide ((sbt x0 x1) ≤ 57))
 (rec0 (IntKind.i64.wrap (x1 + 1)))
 (cond (!((sbt x0 x1) == 45))
 (some (false))
 (rec0 (IntKind.i64.wrap (x1 + 1)))))
 (cond (!((sbt x0 x1) == 45))
 (some (false))
 (rec0 (IntKind.i64.wrap (x1 + 1)))))) none) none)
 (some (true))
section
variable (x0 : ByteArray)
noncomputable def MP33_0 (n : Nat)  (x : A33_0) : Option (Bool) := iter (fun rec S => run X33 (F33 n) (codeAt (bodyOf Tryd.f33) [1, 1, 0, 1, 0, 0]) 0 S (lopK rec (blkK 0 (seqK (run X33 (F33 n) (codeAt (bodyOf Tryd.f33) [1, 1, 1]) 0) (kTop X33 Tryd.f33 dec33))))) [0, 3] n (s33_0 x0 x)
theorem m33_0 (n : Nat)  (x : A33_0) : MP33_0 x0 n  x = lpN (r33_0 x0 n  ) n x := by
  refine iter_eq (s33_0 x0) (r33_0 x0 n  ) (fun rec0 x1 => ?_) n x
  kernel_rfl
end
noncomputable def G33n (n : Nat) (a0 : ByteArray) : Option (Bool) :=
 Option.bind (G54 (a0.size : Int) 1 20) fun r1 =>
 cond (!r1)
 (some (false))
 (lpN (r33_0 a0 n ) n 0)
theorem t33 (n : Nat) (a0 : ByteArray) : runFn X33 (F33 n) Tryd.f33 [.one (.str a0)] dec33 = G33n n a0 := by
  refine Eq.trans (b :=
   Option.bind (G54 (a0.size : Int) 1 20) fun r1 =>
   cond (!r1)
   (some (false))
   (MP33_0 a0 n   0)) (by kernel_rfl) ?_
  simp only [G33n, m33_0]
noncomputable def G33 (a0 : ByteArray) : Option (Bool) := G33n fuel a0
noncomputable def con33 : Con C := mkC KK [.str] [.bool] G33
theorem c33 : ConOk Tryd.prog KK 33 con33 := cO (mkQ ⟨c54, trivial⟩ trivial trivial : Cons Tryd.prog X33) (fn := Tryd.f33) (by kernel_rfl) (by kernel_rfl) (by kernel_rfl) (by kernel_rfl) (F33 fuel) (by kernel_rfl) (fun a0 => t33 fuel a0)
/-! ### f57 loop.example/wharfdesk/spec.l38Rule -/
noncomputable def X57 : Cx C := mkX [(32, (frzC con32))] [] [] [] 3735552
def F57 (n : Nat) : Cf := { N := n, keep := [0, 1, 4, 5, 6, 12, 21], live := lk [(0, [1, 5, 6])] }
noncomputable abbrev dec57 := deR KK [.int .i64]
abbrev A57_0 : Type := Int
section
variable (x0 : ByteArray) (x1 : List (C .e54))
def s57_0 : A57_0 → St C := fun x2 => { env := [(1, .one (.str x0)), (5, .one (.row .e54 x1)), (6, .one (.int .i64 x2))], objs := [], base := 0 }
end
noncomputable def r57_0 (x0 : ByteArray) (x1 : List (C .e54)) (n : Nat)   (rec0 : A57_0 → Option (Int)) : A57_0 → Option (Int) := fun x2 =>
 cond (decide (x2 < (x1.length : Int)))
 (cond (decide (0 ≤ x2)) (Option.bind x1[x2.toNat]? fun e2 => cond (decide (e2.Key = x0))
 (some (x2))
 (rec0 (IntKind.i64.wrap (x2 + 1)))) none)
 (some ((-1)))
section
variable (x0 : ByteArray) (x1 : List (C .e54))
noncomputable def MP57_0 (n : Nat)  (x : A57_0) : Option (Int) := iter (fun rec S => run X57 (F57 n) (codeAt (bodyOf Tryd.f57) [1, 1, 0, 1, 0, 0]) 0 S (lopK rec (blkK 0 (seqK (run X57 (F57 n) (codeAt (bodyOf Tryd.f57) [1, 1, 1]) 0) (kTop X57 Tryd.f57 dec57))))) [1, 5, 6] n (s57_0 x0 x1 x)
theorem m57_0 (n : Nat)  (x : A57_0) : MP57_0 x0 x1 n  x = lpN (r57_0 x0 x1 n  ) n x := by
  refine iter_eq (s57_0 x0 x1) (r57_0 x0 x1 n  ) (fun rec0 x2 => ?_) n x
  kernel_rfl
end
noncomputable def G57n (n : Nat) (a0 : ByteArray) (a1 : ByteArray) : Option (Int) :=
 Option.bind (G32 a0) fun r1 =>
 lpN (r57_0 a1 r1 n ) n 0
theorem t57 (n : Nat) (a0 : ByteArray) (a1 : ByteArray) : runFn X57 (F57 n) Tryd.f57 [.one (.str a0), .one (.str a1)] dec57 = G57n n a0 a1 := by
  refine Eq.trans (b :=
   Option.bind (G32 a0) fun r1 =>
   MP57_0 a1 r1 n   0) (by kernel_rfl) ?_
  simp only [G57n, m57_0]
noncomputable def G57 (a0 : ByteArray) (a1 : ByteArray) : Option (Int) := G57n fuel a0 a1
noncomputable def con57 : Con C := mkC KK [.str, .str] [.int .i64] G57
theorem c57 : ConOk Tryd.prog KK 57 con57 := cO (mkQ ⟨c32, trivial⟩ trivial trivial : Cons Tryd.prog X57) (fn := Tryd.f57) (by kernel_rfl) (by kernel_rfl) (by kernel_rfl) (by kernel_rfl) (F57 fuel) (by kernel_rfl) (fun a0 a1 => t57 fuel a0 a1)
/-! ### f86 loop.example/wharfdesk/spec.l38Dec -/
noncomputable def B86 (rc : (Int) → Option (ByteArray)) (a0 : Int) : Option (ByteArray) :=
 cond (decide (a0 < 0))
 (Option.bind (rc (IntKind.i64.wrap (0 - a0))) fun r1 =>
 cond (decide ((⟨#[45]⟩ : ByteArray).size + r1.size ≤ 9223372036854775807)) (some ((⟨#[45]⟩ : ByteArray) ++ r1)) none)
 (cond (decide (a0 < 10))
 (some (strOf KK .e5 (([IntKind.u8.wrap (IntKind.i64.wrap (48 + a0))] : List (C .e5)))))
 (cond (decide (10 = 0)) none (Option.bind (rc (IntKind.i64.wrap (a0.tdiv 10))) fun r2 =>
 cond (decide (10 = 0)) none (cond (decide (r2.size + (strOf KK .e5 (([IntKind.u8.wrap (IntKind.i64.wrap (48 + (a0.tmod 10)))] : List (C .e5)))).size ≤ 9223372036854775807)) (some (r2 ++ (strOf KK .e5 (([IntKind.u8.wrap (IntKind.i64.wrap (48 + (a0.tmod 10)))] : List (C .e5)))))) none))))
noncomputable def G86d : Nat → (Int) → Option (ByteArray)
  | 0 => fun _ => none
  | d + 1 => B86 (G86d d)
noncomputable def con86d (d : Nat) : Con C := mkC KK [.int .i64] [.str] (G86d d)
noncomputable abbrev dec86 := deR KK [.str]
noncomputable def X86 (d : Nat) : Cx C := mkX [(86, (con86d d))] [] [] [] 5636096
def F86 (n : Nat) : Cf := { N := n, keep := [0, 2, 4, 10], live := lk [] }
theorem t86 (n d : Nat) (a0 : Int) : runFn (X86 d) (F86 n) Tryd.f86 [.one (.int .i64 a0)] dec86 = B86 (G86d d) a0 := by kernel_rfl
theorem c86d : ∀ d, ConOk Tryd.prog KK 86 (con86d d)
  | 0 => conNone (ps := [.int .i64]) (rs := [.str]) (by kernel_rfl : Tryd.prog.funcs[86]? = some Tryd.f86) (by kernel_rfl) (by kernel_rfl)
  | d + 1 => cO (mkQ ⟨(c86d d), trivial⟩ trivial trivial : Cons Tryd.prog (X86 d)) (fn := Tryd.f86) (by kernel_rfl) (by kernel_rfl) (by kernel_rfl) (by kernel_rfl) (F86 fuel) (by kernel_rfl) (fun a0 => t86 fuel d a0)
noncomputable def G86 (a0 : Int) : Option (ByteArray) := G86d 64 a0
noncomputable def con86 : Con C := con86d 64
theorem c86 : ConOk Tryd.prog KK 86 con86 := c86d 64
/-! ### f77 loop.example/wharfdesk/spec.l38NumberOk -/
noncomputable def X77 : Cx C := mkX [(54, con54), (86, con86)] [] [] [] 5046272
def F77 (n : Nat) : Cf := { N := n, keep := [0, 2, 3, 4, 8, 12, 24], live := lk [(0, [0, 3, 4])] }
noncomputable abbrev dec77 := deR KK [.bool]
abbrev A77_0 : Type := Int × Int
section
variable (x0 : ByteArray)
def s77_0 : A77_0 → St C := fun (x1, x2) => { env := [(0, .one (.str x0)), (3, .one (.int .i64 x1)), (4, .one (.int .i64 x2))], objs := [], base := 0 }
end
noncomputable def r77_0 (x0 : ByteArray) (n : Nat)   (rec0 : A77_0 → Option (Bool)) : A77_0 → Option (Bool) := fun (x1, x2) =>
 cond (decide (x2 < (x0.size : Int)))
 (cond (decide (0 ≤ x2)) (cond (decide (x2 < (x0.size : Int))) (cond (decide ((sbt x0 x2) < 48))
 (some (false))
 (cond (decide (0 ≤ x2)) (cond (decide (x2 < (x0.size : Int))) (cond (decide ((sbt x0 x2) > 57))
 (some (false))
 (cond (decide (0 ≤ x2)) (cond (decide (x2 < (x0.size : Int))) (rec0 ((IntKind.i64.wrap ((IntKind.i64.wrap (x1 * 10)) + (IntKind.i64.wrap (IntKind.u8.wrap ((sbt x0 x2) - 48)))), IntKind.i64.wrap (x2 + 1)))) none) none)) none) none)) none) none)
 (Option.bind (G86 x1) fun r2 =>
 cond (decide (r2 = x0))
 (some (decide (x1 ≤ 1000000)))
 (some (false)))
section
variable (x0 : ByteArray)
noncomputable def MP77_0 (n : Nat)  (x : A77_0) : Option (Bool) := iter (fun rec S => run X77 (F77 n) (codeAt (bodyOf Tryd.f77) [1, 1, 1, 0, 1, 0, 0]) 0 S (lopK rec (blkK 0 (seqK (run X77 (F77 n) (codeAt (bodyOf Tryd.f77) [1, 1, 1, 1]) 0) (kTop X77 Tryd.f77 dec77))))) [0, 3, 4] n (s77_0 x0 x)
theorem m77_0 (n : Nat)  (x : A77_0) : MP77_0 x0 n  x = lpN (r77_0 x0 n  ) n x := by
  refine iter_eq (s77_0 x0) (r77_0 x0 n  ) (fun rec0 x => ?_) n x
  obtain ⟨x1, x2⟩ := x
  kernel_rfl
end
noncomputable def G77n (n : Nat) (a0 : ByteArray) : Option (Bool) :=
 Option.bind (G54 (a0.size : Int) 1 7) fun r1 =>
 cond (!r1)
 (some (false))
 (lpN (r77_0 a0 n ) n (0, 0))
theorem t77 (n : Nat) (a0 : ByteArray) : runFn X77 (F77 n) Tryd.f77 [.one (.str a0)] dec77 = G77n n a0 := by
  refine Eq.trans (b :=
   Option.bind (G54 (a0.size : Int) 1 7) fun r1 =>
   cond (!r1)
   (some (false))
   (MP77_0 a0 n   (0, 0))) (by kernel_rfl) ?_
  simp only [G77n, m77_0]
noncomputable def G77 (a0 : ByteArray) : Option (Bool) := G77n fuel a0
noncomputable def con77 : Con C := mkC KK [.str] [.bool] G77
theorem c77 : ConOk Tryd.prog KK 77 con77 := cO (mkQ ⟨c54, c86, trivial⟩ trivial trivial : Cons Tryd.prog X77) (fn := Tryd.f77) (by kernel_rfl) (by kernel_rfl) (by kernel_rfl) (by kernel_rfl) (F77 fuel) (by kernel_rfl) (fun a0 => t77 fuel a0)
/-! ### f68 loop.example/wharfdesk/spec.l38Fits -/
noncomputable def X68 : Cx C := mkX [(33, con33), (77, con77)] [] [] [] 4456448
def F68 (n : Nat) : Cf := { N := n, keep := [0, 1, 4, 5, 6, 10, 34, 38, 46], live := lk [] }
noncomputable abbrev dec68 := deR KK [.bool]
noncomputable def G68n (n : Nat) (a0 : Int) (a1 : ByteArray) : Option (Bool) :=
 cond (a0 == 1)
 (Option.bind (G77 a1) fun r1 =>
 some (r1))
 (cond (a0 == 2)
 (Option.bind (G77 a1) fun r2 =>
 cond r2
 (some (true))
 (cond (decide ((a1.size : Int) > 1))
 (cond (decide (0 ≤ 0)) (cond (decide (0 < (a1.size : Int))) (cond ((sbt a1 0) == 45)
 (cond (decide ((0 : Int) ≤ 1)) (cond (decide ((1 : Int) ≤ (a1.size : Int))) (cond (decide ((a1.size : Int) ≤ (a1.size : Int))) (cond (!decide ((a1.extract (1 : Int).toNat (a1.size : Int).toNat) = (⟨#[48]⟩ : ByteArray)))
 (cond (decide ((0 : Int) ≤ 1)) (cond (decide ((1 : Int) ≤ (a1.size : Int))) (cond (decide ((a1.size : Int) ≤ (a1.size : Int))) (Option.bind (G77 (a1.extract (1 : Int).toNat (a1.size : Int).toNat)) fun r3 =>
 some (r3)) none) none) none)
 (some (false))) none) none) none)
 (some (false))) none) none)
 (some (false))))
 (cond (a0 == 3)
 (Option.bind (G33 a1) fun r4 =>
 some (r4))
 (cond (a0 == 5)
 (cond (decide (a1 = (⟨#[121, 101, 115]⟩ : ByteArray)))
 (some (true))
 (some (decide (a1 = (⟨#[110, 111]⟩ : ByteArray)))))
 (cond (a0 == 6)
 (cond (decide (a1 = (⟨#[110, 111, 110, 101]⟩ : ByteArray)))
 (some (true))
 (cond (decide (a1 = (⟨#[98, 101, 114, 116, 104]⟩ : ByteArray)))
 (some (true))
 (some (decide (a1 = (⟨#[122, 111, 110, 101]⟩ : ByteArray))))))
 (some (decide ((a1.size : Int) ≤ 200)))))))
theorem t68 (n : Nat) (a0 : Int) (a1 : ByteArray) : runFn X68 (F68 n) Tryd.f68 [.one (.int .i64 a0), .one (.str a1)] dec68 = G68n n a0 a1 := by
  kernel_rfl
noncomputable def G68 (a0 : Int) (a1 : ByteArray) : Option (Bool) := G68n fuel a0 a1
noncomputable def con68 : Con C := mkC KK [.int .i64, .str] [.bool] G68
theorem c68 : ConOk Tryd.prog KK 68 con68 := cO (mkQ ⟨c33, c77, trivial⟩ trivial trivial : Cons Tryd.prog X68) (fn := Tryd.f68) (by kernel_rfl) (by kernel_rfl) (by kernel_rfl) (by kernel_rfl) (F68 fuel) (by kernel_rfl) (fun a0 a1 => t68 fuel a0 a1)
/-! ### f55 loop.example/wharfdesk/spec.SheetFits -/
noncomputable def X55 : Cx C := mkX [(32, (frzC con32)), (57, con57), (68, con68)] [] [] [] 3604480
def F55 (n : Nat) : Cf := { N := n, keep := [0, 1, 2, 6, 7, 8, 9, 14, 25, 29, 41], live := lk [(0, [2, 8, 9])] }
noncomputable abbrev dec55 := deR KK [.bool]
abbrev A55_0 : Type := Int
section
variable (x0 : List (C .e9)) (x1 : List (C .e3))
def s55_0 : A55_0 → St C := fun x2 => { env := [(2, .one (.row .e9 x0)), (8, .one (.row .e3 x1)), (9, .one (.int .i64 x2))], objs := [], base := 0 }
end
noncomputable def r55_0 (x0 : List (C .e9)) (x1 : List (C .e3)) (n : Nat)   (rec0 : A55_0 → Option (Bool)) : A55_0 → Option (Bool) := fun x2 =>
 cond (decide (x2 < (x1.length : Int)))
 (cond (decide (0 ≤ x2)) (Option.bind x1[x2.toNat]? fun e4 => cond (decide (0 ≤ x2)) (Option.bind x0[x2.toNat]? fun e5 => Option.bind (G68 e4 e5) fun r6 =>
 cond (!r6)
 (some (false))
 (rec0 (IntKind.i64.wrap (x2 + 1)))) none) none)
 (some (true))
section
variable (x0 : List (C .e9)) (x1 : List (C .e3))
noncomputable def MP55_0 (n : Nat)  (x : A55_0) : Option (Bool) := iter (fun rec S => run X55 (F55 n) (codeAt (bodyOf Tryd.f55) [1, 1, 1, 1, 1, 0, 1, 0, 0]) 0 S (lopK rec (blkK 0 (seqK (run X55 (F55 n) (codeAt (bodyOf Tryd.f55) [1, 1, 1, 1, 1, 1]) 0) (kTop X55 Tryd.f55 dec55))))) [2, 8, 9] n (s55_0 x0 x1 x)
theorem m55_0 (n : Nat)  (x : A55_0) : MP55_0 x0 x1 n  x = lpN (r55_0 x0 x1 n  ) n x := by
  refine iter_eq (s55_0 x0 x1) (r55_0 x0 x1 n  ) (fun rec0 x2 => ?_) n x
  kernel_rfl
end
noncomputable def G55n (n : Nat) (a0 : ByteArray) (a1 : ByteArray) (a2 : List (C .e9)) : Option (Bool) :=
 Option.bind (G57 a0 a1) fun r1 =>
 cond (decide (r1 < 0))
 (some (false))
 (Option.bind (G32 a0) fun r2 =>
 cond (decide (0 ≤ r1)) (Option.bind r2[r1.toNat]? fun e3 => cond ((e3.Args.length : Int) != (a2.length : Int))
 (some (false))
 (lpN (r55_0 a2 e3.Args n ) n 0)) none)
theorem t55 (n : Nat) (a0 : ByteArray) (a1 : ByteArray) (a2 : List (C .e9)) : runFn X55 (F55 n) Tryd.f55 [.one (.str a0), .one (.str a1), .one (.row .e9 a2)] dec55 = G55n n a0 a1 a2 := by
  refine Eq.trans (b :=
   Option.bind (G57 a0 a1) fun r1 =>
   cond (decide (r1 < 0))
   (some (false))
   (Option.bind (G32 a0) fun r2 =>
   cond (decide (0 ≤ r1)) (Option.bind r2[r1.toNat]? fun e3 => cond ((e3.Args.length : Int) != (a2.length : Int))
   (some (false))
   (MP55_0 a2 e3.Args n   0)) none)) (by kernel_rfl) ?_
  simp only [G55n, m55_0]
noncomputable def G55 (a0 : ByteArray) (a1 : ByteArray) (a2 : List (C .e9)) : Option (Bool) := G55n fuel a0 a1 a2
noncomputable def con55 : Con C := mkC KK [.str, .str, .row .e9] [.bool] G55
theorem c55 : ConOk Tryd.prog KK 55 con55 := cO (mkQ ⟨c32, c57, c68, trivial⟩ trivial trivial : Cons Tryd.prog X55) (fn := Tryd.f55) (by kernel_rfl) (by kernel_rfl) (by kernel_rfl) (by kernel_rfl) (F55 fuel) (by kernel_rfl) (fun a0 a1 a2 => t55 fuel a0 a1 a2)
/-! ### f69 loop.example/wharfdesk/spec.l39Less -/
noncomputable def X69 : Cx C := mkX [] [] [] [] 4521984
def F69 (n : Nat) : Cf := { N := n, keep := [0, 1, 4, 5, 15, 26], live := lk [(0, [0, 1, 5])] }
noncomputable abbrev dec69 := deR KK [.bool]
abbrev A69_0 : Type := Int
section
variable (x0 : List (C .e9)) (x1 : List (C .e9))
def s69_0 : A69_0 → St C := fun x2 => { env := [(0, .one (.row .e9 x0)), (1, .one (.row .e9 x1)), (5, .one (.int .i64 x2))], objs := [], base := 0 }
end
noncomputable def r69_0 (x0 : List (C .e9)) (x1 : List (C .e9)) (n : Nat)   (rec0 : A69_0 → Option (Bool)) : A69_0 → Option (Bool) := fun x2 =>
 cond (decide (x2 < (x0.length : Int)))
 (cond (decide (x2 < (x1.length : Int)))
 (cond (decide (0 ≤ x2)) (Option.bind x0[x2.toNat]? fun e1 => cond (decide (0 ≤ x2)) (Option.bind x1[x2.toNat]? fun e2 => cond (!decide (e1 = e2))
 (cond (decide (0 ≤ x2)) (Option.bind x0[x2.toNat]? fun e3 => cond (decide (0 ≤ x2)) (Option.bind x1[x2.toNat]? fun e4 => some (slt e3 e4)) none) none)
 (rec0 (IntKind.i64.wrap (x2 + 1)))) none) none)
 (some (decide ((x0.length : Int) < (x1.length : Int)))))
 (some (decide ((x0.length : Int) < (x1.length : Int))))
section
variable (x0 : List (C .e9)) (x1 : List (C .e9))
noncomputable def MP69_0 (n : Nat)  (x : A69_0) : Option (Bool) := iter (fun rec S => run X69 (F69 n) (codeAt (bodyOf Tryd.f69) [1, 0, 1, 0, 0]) 0 S (lopK rec (blkK 0 (seqK (run X69 (F69 n) (codeAt (bodyOf Tryd.f69) [1, 1]) 0) (kTop X69 Tryd.f69 dec69))))) [0, 1, 5] n (s69_0 x0 x1 x)
theorem m69_0 (n : Nat)  (x : A69_0) : MP69_0 x0 x1 n  x = lpN (r69_0 x0 x1 n  ) n x := by
  refine iter_eq (s69_0 x0 x1) (r69_0 x0 x1 n  ) (fun rec0 x2 => ?_) n x
  kernel_rfl
end
noncomputable def G69n (n : Nat) (a0 : List (C .e9)) (a1 : List (C .e9)) : Option (Bool) :=
 lpN (r69_0 a0 a1 n ) n 0
theorem t69 (n : Nat) (a0 : List (C .e9)) (a1 : List (C .e9)) : runFn X69 (F69 n) Tryd.f69 [.one (.row .e9 a0), .one (.row .e9 a1)] dec69 = G69n n a0 a1 := by
  refine Eq.trans (b :=
   MP69_0 a0 a1 n   0) (by kernel_rfl) ?_
  simp only [G69n, m69_0]
noncomputable def G69 (a0 : List (C .e9)) (a1 : List (C .e9)) : Option (Bool) := G69n fuel a0 a1
noncomputable def con69 : Con C := mkC KK [.row .e9, .row .e9] [.bool] G69
theorem c69 : ConOk Tryd.prog KK 69 con69 := cO (mkQ trivial trivial trivial : Cons Tryd.prog X69) (fn := Tryd.f69) (by kernel_rfl) (by kernel_rfl) (by kernel_rfl) (by kernel_rfl) (F69 fuel) (by kernel_rfl) (fun a0 a1 => t69 fuel a0 a1)
/-! ### f56 loop.example/wharfdesk/spec.l39LineLess -/
noncomputable def X56 : Cx C := mkX [(57, con57), (69, con69)] [] [] [] 3670016
def F56 (n : Nat) : Cf := { N := n, keep := [0, 1, 2, 4, 5, 6, 7, 8], live := lk [] }
noncomputable abbrev dec56 := deR KK [.bool]
noncomputable def G56n (n : Nat) (a0 : ByteArray) (a1 : VSheetLine) (a2 : VSheetLine) : Option (Bool) :=
 Option.bind (G57 a0 a1.Key) fun r1 =>
 Option.bind (G57 a0 a2.Key) fun r2 =>
 cond (decide (r1 < r2))
 (some (true))
 (cond (r1 == r2)
 (Option.bind (G69 a1.Words a2.Words) fun r3 =>
 some (r3))
 (some (false)))
theorem t56 (n : Nat) (a0 : ByteArray) (a1 : VSheetLine) (a2 : VSheetLine) : runFn X56 (F56 n) Tryd.f56 [.one (.str a0), .agg [.str a1.Key, .row .e9 a1.Words], .agg [.str a2.Key, .row .e9 a2.Words]] dec56 = G56n n a0 a1 a2 := by
  kernel_rfl
noncomputable def G56 (a0 : ByteArray) (a1 : VSheetLine) (a2 : VSheetLine) : Option (Bool) := G56n fuel a0 a1 a2
noncomputable def con56 : Con C := mkC KK [.str, .el .e70, .el .e70] [.bool] G56
theorem c56 : ConOk Tryd.prog KK 56 con56 := cO (mkQ ⟨c57, c69, trivial⟩ trivial trivial : Cons Tryd.prog X56) (fn := Tryd.f56) (by kernel_rfl) (by kernel_rfl) (by kernel_rfl) (by kernel_rfl) (F56 fuel) (by kernel_rfl) (fun a0 a1 a2 => t56 fuel a0 a1 a2)
/-! ### f34 loop.example/wharfdesk/spec.l39LinesOk -/
noncomputable def X34 : Cx C := mkX [(32, (frzC con32)), (55, con55), (56, con56), (57, con57)] [] [] [] 2228224
def F34 (n : Nat) : Cf := { N := n, keep := [0, 1, 4, 5, 6, 7, 8, 12, 45, 60, 73, 85], live := lk [(0, [0, 1, 5]), (2, [0, 1, 5, 6, 7, 8])] }
noncomputable abbrev dec34 := deR KK [.bool]
abbrev A34_1 : Type := Int × Int
abbrev A34_0 : Type := Int
section
variable (x0 : ByteArray) (x1 : List (C .e70)) (x2 : Int) (x3 : Bool)
def s34_1 : A34_1 → St C := fun (x4, x5) => { env := [(0, .one (.str x0)), (1, .one (.row .e70 x1)), (5, .one (.int .i64 x2)), (6, .one (.bool x3)), (7, .one (.int .i64 x4)), (8, .one (.int .i64 x5))], objs := [], base := 0 }
end
noncomputable def r34_1 (x1 : List (C .e70)) (x2 : Int) (x3 : Bool) (n : Nat)  (rec0 : A34_0 → Option (Bool)) (rec1 : A34_1 → Option (Bool)) : A34_1 → Option (Bool) := fun (x4, x5) =>
 cond (decide (x5 ≤ x2))
 (cond (decide (0 ≤ x5)) (Option.bind x1[x5.toNat]? fun e11 => cond (decide (0 ≤ x2)) (Option.bind x1[x2.toNat]? fun e12 => cond (decide (e11.Key = e12.Key))
 (rec1 ((IntKind.i64.wrap (x4 + 1), IntKind.i64.wrap (x5 + 1))))
 (rec1 ((x4, IntKind.i64.wrap (x5 + 1))))) none) none)
 (cond (!x3)
 (cond (decide (x4 > 1))
 (some (false))
 (cond (decide (x4 > 10))
 (some (false))
 (rec0 (IntKind.i64.wrap (x2 + 1)))))
 (cond (decide (x4 > 10))
 (some (false))
 (rec0 (IntKind.i64.wrap (x2 + 1)))))
section
variable (x0 : ByteArray) (x1 : List (C .e70))
def s34_0 : A34_0 → St C := fun x2 => { env := [(0, .one (.str x0)), (1, .one (.row .e70 x1)), (5, .one (.int .i64 x2))], objs := [], base := 0 }
end
noncomputable def r34_0 (x0 : ByteArray) (x1 : List (C .e70)) (n : Nat)   (rec0 : A34_0 → Option (Bool)) : A34_0 → Option (Bool) := fun x2 =>
 cond (decide (x2 < (x1.length : Int)))
 (cond (decide (0 ≤ x2)) (Option.bind x1[x2.toNat]? fun e1 => cond (decide (0 ≤ x2)) (Option.bind x1[x2.toNat]? fun e2 => Option.bind (G55 x0 e1.Key e2.Words) fun r3 =>
 cond (!r3)
 (some (false))
 (cond (decide (x2 > 0))
 (cond (decide (0 ≤ IntKind.i64.wrap (x2 - 1))) (Option.bind x1[(IntKind.i64.wrap (x2 - 1)).toNat]? fun e4 => cond (decide (0 ≤ x2)) (Option.bind x1[x2.toNat]? fun e5 => Option.bind (G56 x0 e4 e5) fun r6 =>
 cond (!r6)
 (some (false))
 (Option.bind (G32 x0) fun r7 =>
 cond (decide (0 ≤ x2)) (Option.bind x1[x2.toNat]? fun e8 => Option.bind (G57 x0 e8.Key) fun r9 =>
 cond (decide (0 ≤ r9)) (Option.bind r7[r9.toNat]? fun e10 => lpN (r34_1 x1 x2 e10.Many n rec0) n (0, 0)) none) none)) none) none)
 (Option.bind (G32 x0) fun r13 =>
 cond (decide (0 ≤ x2)) (Option.bind x1[x2.toNat]? fun e14 => Option.bind (G57 x0 e14.Key) fun r15 =>
 cond (decide (0 ≤ r15)) (Option.bind r13[r15.toNat]? fun e16 => lpN (r34_1 x1 x2 e16.Many n rec0) n (0, 0)) none) none))) none) none)
 (some (true))
section
variable (x0 : ByteArray) (x1 : List (C .e70)) (x2 : Int) (x3 : Bool)
noncomputable def MP34_1 (n : Nat) (rec0 : St C → Option (Bool)) (x : A34_1) : Option (Bool) := iter (fun rec S => run X34 (F34 n) (codeAt (bodyOf Tryd.f34) [1, 0, 1, 0, 0, 1, 0, 0, 1, 1, 1, 0, 1, 0, 0]) 2 S (lopK rec (blkK 2 (seqK (run X34 (F34 n) (codeAt (bodyOf Tryd.f34) [1, 0, 1, 0, 0, 1, 0, 0, 1, 1, 1, 1]) 1) (blkK 1 (seqK (run X34 (F34 n) (codeAt (bodyOf Tryd.f34) [1, 0, 1, 0, 0, 1, 1]) 0) (lopK (canThen [0, 1, 5] rec0) (blkK 0 (seqK (run X34 (F34 n) (codeAt (bodyOf Tryd.f34) [1, 1]) 0) (kTop X34 Tryd.f34 dec34)))))))))) [0, 1, 5, 6, 7, 8] n (s34_1 x0 x1 x2 x3 x)
theorem m34_1 (n : Nat) (rec0 : St C → Option (Bool)) (x : A34_1) : MP34_1 x0 x1 x2 x3 n rec0 x = lpN (r34_1 x1 x2 x3 n  (fun x => rec0 (s34_0 x0 x1 x))) n x := by
  refine iter_eq (s34_1 x0 x1 x2 x3) (r34_1 x1 x2 x3 n  (fun x => rec0 (s34_0 x0 x1 x))) (fun rec1 x => ?_) n x
  obtain ⟨x4, x5⟩ := x
  kernel_rfl
end
section
variable (x0 : ByteArray) (x1 : List (C .e70))
noncomputable def MP34_0 (n : Nat)  (x : A34_0) : Option (Bool) := iter (fun rec S => run X34 (F34 n) (codeAt (bodyOf Tryd.f34) [1, 0, 1, 0, 0]) 0 S (lopK rec (blkK 0 (seqK (run X34 (F34 n) (codeAt (bodyOf Tryd.f34) [1, 1]) 0) (kTop X34 Tryd.f34 dec34))))) [0, 1, 5] n (s34_0 x0 x1 x)
theorem m34_0 (n : Nat)  (x : A34_0) : MP34_0 x0 x1 n  x = lpN (r34_0 x0 x1 n  ) n x := by
  refine iter_eq (s34_0 x0 x1) (r34_0 x0 x1 n  ) (fun rec0 x2 => ?_) n x
  have h : run X34 (F34 n) (codeAt (bodyOf Tryd.f34) [1, 0, 1, 0, 0]) 0 (s34_0 x0 x1 x2) (lopK (canThen [0, 1, 5] rec0) (blkK 0 (seqK (run X34 (F34 n) (codeAt (bodyOf Tryd.f34) [1, 1]) 0) (kTop X34 Tryd.f34 dec34)))) =
   cond (decide (x2 < (x1.length : Int)))
   (cond (decide (0 ≤ x2)) (Option.bind x1[x2.toNat]? fun e1 => cond (decide (0 ≤ x2)) (Option.bind x1[x2.toNat]? fun e2 => Option.bind (G55 x0 e1.Key e2.Words) fun r3 =>
   cond (!r3)
   (some (false))
   (cond (decide (x2 > 0))
   (cond (decide (0 ≤ IntKind.i64.wrap (x2 - 1))) (Option.bind x1[(IntKind.i64.wrap (x2 - 1)).toNat]? fun e4 => cond (decide (0 ≤ x2)) (Option.bind x1[x2.toNat]? fun e5 => Option.bind (G56 x0 e4 e5) fun r6 =>
   cond (!r6)
   (some (false))
   (Option.bind (G32 x0) fun r7 =>
   cond (decide (0 ≤ x2)) (Option.bind x1[x2.toNat]? fun e8 => Option.bind (G57 x0 e8.Key) fun r9 =>
   cond (decide (0 ≤ r9)) (Option.bind r7[r9.toNat]? fun e10 => MP34_1 x0 x1 x2 e10.Many n  rec0 (0, 0)) none) none)) none) none)
   (Option.bind (G32 x0) fun r13 =>
   cond (decide (0 ≤ x2)) (Option.bind x1[x2.toNat]? fun e14 => Option.bind (G57 x0 e14.Key) fun r15 =>
   cond (decide (0 ≤ r15)) (Option.bind r13[r15.toNat]? fun e16 => MP34_1 x0 x1 x2 e16.Many n  rec0 (0, 0)) none) none))) none) none)
   (some (true)) := by kernel_rfl
  simp only [m34_1] at h
  exact h
end
noncomputable def G34n (n : Nat) (a0 : ByteArray) (a1 : List (C .e70)) : Option (Bool) :=
 lpN (r34_0 a0 a1 n ) n 0
theorem t34 (n : Nat) (a0 : ByteArray) (a1 : List (C .e70)) : runFn X34 (F34 n) Tryd.f34 [.one (.str a0), .one (.row .e70 a1)] dec34 = G34n n a0 a1 := by
  refine Eq.trans (b :=
   MP34_0 a0 a1 n   0) (by kernel_rfl) ?_
  simp only [G34n, m34_0]
noncomputable def G34 (a0 : ByteArray) (a1 : List (C .e70)) : Option (Bool) := G34n fuel a0 a1
noncomputable def con34 : Con C := mkC KK [.str, .row .e70] [.bool] G34
theorem c34 : ConOk Tryd.prog KK 34 con34 := cO (mkQ ⟨c32, c55, c56, c57, trivial⟩ trivial trivial : Cons Tryd.prog X34) (fn := Tryd.f34) (by kernel_rfl) (by kernel_rfl) (by kernel_rfl) (by kernel_rfl) (F34 fuel) (by kernel_rfl) (fun a0 a1 => t34 fuel a0 a1)
/-! ### f35 loop.example/wharfdesk/spec.l39Ahead -/
noncomputable def X35 : Cx C := mkX [] [] [] [] 2293760
def F35 (n : Nat) : Cf := { N := n, keep := [0, 1, 2, 3, 4], live := lk [] }
noncomputable abbrev dec35 := deR KK [.bool]
noncomputable def G35n (n : Nat) (a0 : VSheetBlock) (a1 : VSheetBlock) : Option (Bool) :=
 cond (slt a0.Kind a1.Kind)
 (some (true))
 (cond (decide (a0.Kind = a1.Kind))
 (some (slt a0.Name a1.Name))
 (some (false)))
theorem t35 (n : Nat) (a0 : VSheetBlock) (a1 : VSheetBlock) : runFn X35 (F35 n) Tryd.f35 [.agg [.str a0.Kind, .str a0.Name, .row .e70 a0.Lines], .agg [.str a1.Kind, .str a1.Name, .row .e70 a1.Lines]] dec35 = G35n n a0 a1 := by
  kernel_rfl
noncomputable def G35 (a0 : VSheetBlock) (a1 : VSheetBlock) : Option (Bool) := G35n fuel a0 a1
noncomputable def con35 : Con C := mkC KK [.el .e42, .el .e42] [.bool] G35
theorem c35 : ConOk Tryd.prog KK 35 con35 := cO (mkQ trivial trivial trivial : Cons Tryd.prog X35) (fn := Tryd.f35) (by kernel_rfl) (by kernel_rfl) (by kernel_rfl) (by kernel_rfl) (F35 fuel) (by kernel_rfl) (fun a0 a1 => t35 fuel a0 a1)
/-! ### f14 loop.example/wharfdesk/spec.SheetValid -/
noncomputable def X14 : Cx C := mkX [(32, (frzC con32)), (33, con33), (34, con34), (35, con35)] [] [] [] 917504
def F14 (n : Nat) : Cf := { N := n, keep := [0, 1, 2, 3, 4, 8, 13, 54], live := lk [(0, [1, 3])] }
noncomputable abbrev dec14 := deR KK [.bool]
abbrev A14_0 : Type := Int
section
variable (x1 : List (C .e42))
def s14_0 : A14_0 → St C := fun x0 => { env := [(1, .one (.ptr 917568 0)), (3, .one (.int .i64 x0))], objs := [(917568, .box .mem [.row .e42 x1])], base := 0 }
end
noncomputable def r14_0 (x1 : List (C .e42)) (n : Nat)   (rec0 : A14_0 → Option (Bool)) : A14_0 → Option (Bool) := fun x0 =>
 cond (decide (x0 < (x1.length : Int)))
 (cond (decide (0 ≤ x0)) (Option.bind x1[x0.toNat]? fun e1 => Option.bind (G32 e1.Kind) fun r2 =>
 cond ((r2.length : Int) == 0)
 (some (false))
 (Option.bind (G33 e1.Name) fun r3 =>
 cond (!r3)
 (some (false))
 (Option.bind (G34 e1.Kind e1.Lines) fun r4 =>
 cond (!r4)
 (some (false))
 (cond (decide (x0 > 0))
 (cond (decide (0 ≤ IntKind.i64.wrap (x0 - 1))) (Option.bind x1[(IntKind.i64.wrap (x0 - 1)).toNat]? fun e5 => Option.bind (G35 e5 e1) fun r6 =>
 cond (!r6)
 (some (false))
 (rec0 (IntKind.i64.wrap (x0 + 1)))) none)
 (rec0 (IntKind.i64.wrap (x0 + 1))))))) none)
 (some (true))
section
variable (x1 : List (C .e42))
noncomputable def MP14_0 (n : Nat)  (x : A14_0) : Option (Bool) := iter (fun rec S => run X14 (F14 n) (codeAt (bodyOf Tryd.f14) [1, 1, 0, 1, 0, 0]) 0 S (lopK rec (blkK 0 (seqK (run X14 (F14 n) (codeAt (bodyOf Tryd.f14) [1, 1, 1]) 0) (kTop X14 Tryd.f14 dec14))))) [1, 3] n (s14_0 x1 x)
theorem m14_0 (n : Nat)  (x : A14_0) : MP14_0 x1 n  x = lpN (r14_0 x1 n  ) n x := by
  refine iter_eq (s14_0 x1) (r14_0 x1 n  ) (fun rec0 x0 => ?_) n x
  kernel_rfl
end
noncomputable def G14n (n : Nat) (a0 : VSheet) : Option (Bool) :=
 cond (decide ((a0.Blocks.length : Int) > 60))
 (some (false))
 (lpN (r14_0 a0.Blocks n ) n 0)
theorem t14 (n : Nat) (a0 : VSheet) : runFn X14 (F14 n) Tryd.f14 [.agg [.row .e42 a0.Blocks]] dec14 = G14n n a0 := by
  refine Eq.trans (b :=
   cond (decide ((a0.Blocks.length : Int) > 60))
   (some (false))
   (MP14_0 a0.Blocks n   0)) (by kernel_rfl) ?_
  simp only [G14n, m14_0]
noncomputable def G14 (a0 : VSheet) : Option (Bool) := G14n fuel a0
noncomputable def con14 : Con C := mkC KK [.el .e30] [.bool] G14
theorem c14 : ConOk Tryd.prog KK 14 con14 := cO (mkQ ⟨c32, c33, c34, c35, trivial⟩ trivial trivial : Cons Tryd.prog X14) (fn := Tryd.f14) (by kernel_rfl) (by kernel_rfl) (by kernel_rfl) (by kernel_rfl) (F14 fuel) (by kernel_rfl) (fun a0 => t14 fuel a0)
/-! ### f15 loop.example/wharfdesk/spec.l39Find -/
noncomputable def X15 : Cx C := mkX [] [] [] [] 983040
def F15 (n : Nat) : Cf := { N := n, keep := [0, 1, 2, 3, 6, 7, 12, 32], live := lk [(0, [1, 2, 3, 7])] }
noncomputable abbrev dec15 := deR KK [.int .i64]
abbrev A15_0 : Type := Int
section
variable (x0 : ByteArray) (x1 : ByteArray) (x3 : List (C .e42))
def s15_0 : A15_0 → St C := fun x2 => { env := [(1, .one (.str x0)), (2, .one (.str x1)), (3, .one (.ptr 983232 0)), (7, .one (.int .i64 x2))], objs := [(983232, .box .mem [.row .e42 x3])], base := 0 }
end
noncomputable def r15_0 (x0 : ByteArray) (x1 : ByteArray) (x3 : List (C .e42)) (n : Nat)   (rec0 : A15_0 → Option (Int)) : A15_0 → Option (Int) := fun x2 =>
 cond (decide (x2 < (x3.length : Int)))
 (cond (decide (0 ≤ x2)) (Option.bind x3[x2.toNat]? fun e1 => cond (decide (e1.Kind = x0))
 (cond (decide (0 ≤ x2)) (Option.bind x3[x2.toNat]? fun e2 => cond (decide (e2.Name = x1))
 (some (x2))
 (rec0 (IntKind.i64.wrap (x2 + 1)))) none)
 (rec0 (IntKind.i64.wrap (x2 + 1)))) none)
 (some ((-1)))
section
variable (x0 : ByteArray) (x1 : ByteArray) (x3 : List (C .e42))
noncomputable def MP15_0 (n : Nat)  (x : A15_0) : Option (Int) := iter (fun rec S => run X15 (F15 n) (codeAt (bodyOf Tryd.f15) [1, 0, 1, 0, 0]) 0 S (lopK rec (blkK 0 (seqK (run X15 (F15 n) (codeAt (bodyOf Tryd.f15) [1, 1]) 0) (kTop X15 Tryd.f15 dec15))))) [1, 2, 3, 7] n (s15_0 x0 x1 x3 x)
theorem m15_0 (n : Nat)  (x : A15_0) : MP15_0 x0 x1 x3 n  x = lpN (r15_0 x0 x1 x3 n  ) n x := by
  refine iter_eq (s15_0 x0 x1 x3) (r15_0 x0 x1 x3 n  ) (fun rec0 x2 => ?_) n x
  kernel_rfl
end
noncomputable def G15n (n : Nat) (a0 : VSheet) (a1 : ByteArray) (a2 : ByteArray) : Option (Int) :=
 lpN (r15_0 a1 a2 a0.Blocks n ) n 0
theorem t15 (n : Nat) (a0 : VSheet) (a1 : ByteArray) (a2 : ByteArray) : runFn X15 (F15 n) Tryd.f15 [.agg [.row .e42 a0.Blocks], .one (.str a1), .one (.str a2)] dec15 = G15n n a0 a1 a2 := by
  refine Eq.trans (b :=
   MP15_0 a1 a2 a0.Blocks n   0) (by kernel_rfl) ?_
  simp only [G15n, m15_0]
noncomputable def G15 (a0 : VSheet) (a1 : ByteArray) (a2 : ByteArray) : Option (Int) := G15n fuel a0 a1 a2
noncomputable def con15 : Con C := mkC KK [.el .e30, .str, .str] [.int .i64] G15
theorem c15 : ConOk Tryd.prog KK 15 con15 := cO (mkQ trivial trivial trivial : Cons Tryd.prog X15) (fn := Tryd.f15) (by kernel_rfl) (by kernel_rfl) (by kernel_rfl) (by kernel_rfl) (F15 fuel) (by kernel_rfl) (fun a0 a1 a2 => t15 fuel a0 a1 a2)
/-! ### f16 loop.example/wharfdesk/spec.l39Lines -/
noncomputable def X16 : Cx C := mkX [] [] [] [] 1048576
def F16 (n : Nat) : Cf := { N := n, keep := [0, 2, 3, 4, 9], live := lk [(0, [0, 3, 4])] }
noncomputable abbrev dec16 := deR KK [.row .e70]
abbrev A16_0 : Type := List (C .e70) × Int
section
variable (x0 : List (C .e70))
def s16_0 : A16_0 → St C := fun (x1, x2) => { env := [(0, .one (.row .e70 x0)), (3, .one (.ref 100003 [])), (4, .one (.int .i64 x2))], objs := [(100003, .row .e70 x1 false)], base := 0 }
end
noncomputable def r16_0 (x0 : List (C .e70)) (n : Nat)   (rec0 : A16_0 → Option (List (C .e70))) : A16_0 → Option (List (C .e70)) := fun (x1, x2) =>
 cond (decide (x2 < (x0.length : Int)))
 (cond (decide (0 ≤ x2)) (Option.bind x0[x2.toNat]? fun e1 => cond (decide (0 ≤ x2)) (Option.bind x0[x2.toNat]? fun e2 => cond (decide (((([] : List (C .e9))).length + e2.Words.length) * 16 ≤ 140737488355328)) (cond (decide ((x1.length + (([(⟨e1.Key, (([] : List (C .e9))) ++ e2.Words⟩ : VSheetLine)] : List (C .e70))).length) * 40 ≤ 140737488355328)) (rec0 ((x1 ++ (([(⟨e1.Key, (([] : List (C .e9))) ++ e2.Words⟩ : VSheetLine)] : List (C .e70))), IntKind.i64.wrap (x2 + 1)))) none) none) none) none)
 (some (x1))
section
variable (x0 : List (C .e70))
noncomputable def MP16_0 (n : Nat)  (x : A16_0) : Option (List (C .e70)) := iter (fun rec S => run X16 (F16 n) (codeAt (bodyOf Tryd.f16) [1, 1, 0, 1, 0, 0]) 0 S (lopK rec (blkK 0 (seqK (run X16 (F16 n) (codeAt (bodyOf Tryd.f16) [1, 1, 1]) 0) (kTop X16 Tryd.f16 dec16))))) [0, 3, 4] n (s16_0 x0 x)
theorem m16_0 (n : Nat)  (x : A16_0) : MP16_0 x0 n  x = lpN (r16_0 x0 n  ) n x := by
  refine iter_eq (s16_0 x0) (r16_0 x0 n  ) (fun rec0 x => ?_) n x
  obtain ⟨x1, x2⟩ := x
  kernel_rfl
end
noncomputable def G16n (n : Nat) (a0 : List (C .e70)) : Option (List (C .e70)) :=
 lpN (r16_0 a0 n ) n ((([] : List (C .e70)), 0))
theorem t16 (n : Nat) (a0 : List (C .e70)) : runFn X16 (F16 n) Tryd.f16 [.one (.row .e70 a0)] dec16 = G16n n a0 := by
  refine Eq.trans (b :=
   MP16_0 a0 n   ((([] : List (C .e70)), 0))) (by kernel_rfl) ?_
  simp only [G16n, m16_0]
noncomputable def G16 (a0 : List (C .e70)) : Option (List (C .e70)) := G16n fuel a0
noncomputable def con16 : Con C := mkC KK [.row .e70] [.row .e70] G16
theorem c16 : ConOk Tryd.prog KK 16 con16 := cO (mkQ trivial trivial trivial : Cons Tryd.prog X16) (fn := Tryd.f16) (by kernel_rfl) (by kernel_rfl) (by kernel_rfl) (by kernel_rfl) (F16 fuel) (by kernel_rfl) (fun a0 => t16 fuel a0)
/-! ### f36 loop.example/wharfdesk/spec.l41Of -/
noncomputable def X36 : Cx C := mkX [(16, con16)] [] [] [] 2359296
def F36 (n : Nat) : Cf := { N := n, keep := [0, 1, 2, 4, 5, 6, 12, 22], live := lk [(0, [1, 2, 5, 6, 1000100005])] }
noncomputable abbrev dec36 := deR KK [.row .e70]
abbrev A36_0 : Type := List (C .e70) × Int
section
variable (x0 : ByteArray) (x3 : ByteArray) (x4 : ByteArray) (x5 : List (C .e70))
def s36_0 : A36_0 → St C := fun (x1, x2) => { env := [(1, .one (.str x0)), (2, .one (.ptr 2359424 0)), (5, .one (.ref 100005 [])), (6, .one (.int .i64 x2))], objs := [(100005, .row .e70 x1 true), (2359424, .box .mem [.str x3, .str x4, .row .e70 x5])], base := 0 }
end
noncomputable def r36_0 (x0 : ByteArray) (x5 : List (C .e70)) (n : Nat)   (rec0 : A36_0 → Option (List (C .e70))) : A36_0 → Option (List (C .e70)) := fun (x1, x2) =>
 cond (decide (x2 < (x5.length : Int)))
 (cond (decide (0 ≤ x2)) (Option.bind x5[x2.toNat]? fun e1 => cond (decide (e1.Key = x0))
 (cond (decide (0 ≤ x2)) (Option.bind x5[x2.toNat]? fun e2 => cond (decide ((x1.length + (([e2] : List (C .e70))).length) * 40 ≤ 140737488355328)) (rec0 ((x1 ++ (([e2] : List (C .e70))), IntKind.i64.wrap (x2 + 1)))) none) none)
 (rec0 ((x1, IntKind.i64.wrap (x2 + 1))))) none)
 (Option.bind (G16 x1) fun r3 =>
 some (r3))
section
variable (x0 : ByteArray) (x3 : ByteArray) (x4 : ByteArray) (x5 : List (C .e70))
noncomputable def MP36_0 (n : Nat)  (x : A36_0) : Option (List (C .e70)) := iter (fun rec S => run X36 (F36 n) (codeAt (bodyOf Tryd.f36) [1, 1, 0, 1, 0, 0]) 0 S (lopK rec (blkK 0 (seqK (run X36 (F36 n) (codeAt (bodyOf Tryd.f36) [1, 1, 1]) 0) (kTop X36 Tryd.f36 dec36))))) [1, 2, 5, 6, 1000100005] n (s36_0 x0 x3 x4 x5 x)
theorem m36_0 (n : Nat)  (x : A36_0) : MP36_0 x0 x3 x4 x5 n  x = lpN (r36_0 x0 x5 n  ) n x := by
  refine iter_eq (s36_0 x0 x3 x4 x5) (r36_0 x0 x5 n  ) (fun rec0 x => ?_) n x
  obtain ⟨x1, x2⟩ := x
  kernel_rfl
end
noncomputable def G36n (n : Nat) (a0 : VSheetBlock) (a1 : ByteArray) : Option (List (C .e70)) :=
 lpN (r36_0 a1 a0.Lines n ) n ((([] : List (C .e70)), 0))
theorem t36 (n : Nat) (a0 : VSheetBlock) (a1 : ByteArray) : runFn X36 (F36 n) Tryd.f36 [.agg [.str a0.Kind, .str a0.Name, .row .e70 a0.Lines], .one (.str a1)] dec36 = G36n n a0 a1 := by
  refine Eq.trans (b :=
   MP36_0 a1 a0.Kind a0.Name a0.Lines n   ((([] : List (C .e70)), 0))) (by kernel_rfl) ?_
  simp only [G36n, m36_0]
noncomputable def G36 (a0 : VSheetBlock) (a1 : ByteArray) : Option (List (C .e70)) := G36n fuel a0 a1
noncomputable def con36 : Con C := mkC KK [.el .e42, .str] [.row .e70] G36
theorem c36 : ConOk Tryd.prog KK 36 con36 := cO (mkQ ⟨c16, trivial⟩ trivial trivial : Cons Tryd.prog X36) (fn := Tryd.f36) (by kernel_rfl) (by kernel_rfl) (by kernel_rfl) (by kernel_rfl) (F36 fuel) (by kernel_rfl) (fun a0 a1 => t36 fuel a0 a1)
/-! ### f58 loop.example/wharfdesk/spec.l39Words -/
noncomputable def X58 : Cx C := mkX [(69, con69)] [] [] [] 3801088
def F58 (n : Nat) : Cf := { N := n, keep := [0, 1, 4], live := lk [] }
noncomputable abbrev dec58 := deR KK [.bool]
noncomputable def G58n (n : Nat) (a0 : List (C .e9)) (a1 : List (C .e9)) : Option (Bool) :=
 Option.bind (G69 a0 a1) fun r1 =>
 cond (!r1)
 (Option.bind (G69 a1 a0) fun r2 =>
 some (!r2))
 (some (false))
theorem t58 (n : Nat) (a0 : List (C .e9)) (a1 : List (C .e9)) : runFn X58 (F58 n) Tryd.f58 [.one (.row .e9 a0), .one (.row .e9 a1)] dec58 = G58n n a0 a1 := by
  kernel_rfl
noncomputable def G58 (a0 : List (C .e9)) (a1 : List (C .e9)) : Option (Bool) := G58n fuel a0 a1
noncomputable def con58 : Con C := mkC KK [.row .e9, .row .e9] [.bool] G58
theorem c58 : ConOk Tryd.prog KK 58 con58 := cO (mkQ ⟨c69, trivial⟩ trivial trivial : Cons Tryd.prog X58) (fn := Tryd.f58) (by kernel_rfl) (by kernel_rfl) (by kernel_rfl) (by kernel_rfl) (F58 fuel) (by kernel_rfl) (fun a0 a1 => t58 fuel a0 a1)
/-! ### f37 loop.example/wharfdesk/spec.l43Same -/
noncomputable def X37 : Cx C := mkX [(58, con58)] [] [] [] 2424832
def F37 (n : Nat) : Cf := { N := n, keep := [0, 1, 4, 5, 10, 14, 41], live := lk [(0, [0, 1, 5])] }
noncomputable abbrev dec37 := deR KK [.bool]
abbrev A37_0 : Type := Int
section
variable (x0 : List (C .e70)) (x1 : List (C .e70))
def s37_0 : A37_0 → St C := fun x2 => { env := [(0, .one (.row .e70 x0)), (1, .one (.row .e70 x1)), (5, .one (.int .i64 x2))], objs := [], base := 0 }
end
noncomputable def r37_0 (x0 : List (C .e70)) (x1 : List (C .e70)) (n : Nat)   (rec0 : A37_0 → Option (Bool)) : A37_0 → Option (Bool) := fun x2 =>
 cond (decide (x2 < (x0.length : Int)))
 (cond (decide (0 ≤ x2)) (Option.bind x0[x2.toNat]? fun e1 => cond (decide (0 ≤ x2)) (Option.bind x1[x2.toNat]? fun e2 => cond (!decide (e1.Key = e2.Key))
 (some (false))
 (cond (decide (0 ≤ x2)) (Option.bind x0[x2.toNat]? fun e3 => cond (decide (0 ≤ x2)) (Option.bind x1[x2.toNat]? fun e4 => Option.bind (G58 e3.Words e4.Words) fun r5 =>
 cond (!r5)
 (some (false))
 (rec0 (IntKind.i64.wrap (x2 + 1)))) none) none)) none) none)
 (some (true))
section
variable (x0 : List (C .e70)) (x1 : List (C .e70))
noncomputable def MP37_0 (n : Nat)  (x : A37_0) : Option (Bool) := iter (fun rec S => run X37 (F37 n) (codeAt (bodyOf Tryd.f37) [1, 1, 0, 1, 0, 0]) 0 S (lopK rec (blkK 0 (seqK (run X37 (F37 n) (codeAt (bodyOf Tryd.f37) [1, 1, 1]) 0) (kTop X37 Tryd.f37 dec37))))) [0, 1, 5] n (s37_0 x0 x1 x)
theorem m37_0 (n : Nat)  (x : A37_0) : MP37_0 x0 x1 n  x = lpN (r37_0 x0 x1 n  ) n x := by
  refine iter_eq (s37_0 x0 x1) (r37_0 x0 x1 n  ) (fun rec0 x2 => ?_) n x
  kernel_rfl
end
noncomputable def G37n (n : Nat) (a0 : List (C .e70)) (a1 : List (C .e70)) : Option (Bool) :=
 cond ((a0.length : Int) != (a1.length : Int))
 (some (false))
 (lpN (r37_0 a0 a1 n ) n 0)
theorem t37 (n : Nat) (a0 : List (C .e70)) (a1 : List (C .e70)) : runFn X37 (F37 n) Tryd.f37 [.one (.row .e70 a0), .one (.row .e70 a1)] dec37 = G37n n a0 a1 := by
  refine Eq.trans (b :=
   cond ((a0.length : Int) != (a1.length : Int))
   (some (false))
   (MP37_0 a0 a1 n   0)) (by kernel_rfl) ?_
  simp only [G37n, m37_0]
noncomputable def G37 (a0 : List (C .e70)) (a1 : List (C .e70)) : Option (Bool) := G37n fuel a0 a1
noncomputable def con37 : Con C := mkC KK [.row .e70, .row .e70] [.bool] G37
theorem c37 : ConOk Tryd.prog KK 37 con37 := cO (mkQ ⟨c58, trivial⟩ trivial trivial : Cons Tryd.prog X37) (fn := Tryd.f37) (by kernel_rfl) (by kernel_rfl) (by kernel_rfl) (by kernel_rfl) (F37 fuel) (by kernel_rfl) (fun a0 a1 => t37 fuel a0 a1)
/-! ### f17 loop.example/wharfdesk/spec.l43Block -/
noncomputable def X17 : Cx C := mkX [(32, (frzC con32)), (36, con36), (37, con37)] [] [] [] 1114112
def F17 (n : Nat) : Cf := { N := n, keep := [0, 1, 2, 3, 4, 5, 6, 7, 8, 9, 10, 18, 37, 51], live := lk [(0, [2, 3, 5, 6, 7])] }
noncomputable abbrev dec17 := deR KK [.row .e44]
abbrev A17_0 : Type := List (C .e44) × Int
section
variable (x1 : List (C .e54)) (x3 : ByteArray) (x4 : ByteArray) (x5 : List (C .e70)) (x6 : ByteArray) (x7 : ByteArray) (x8 : List (C .e70))
def s17_0 : A17_0 → St C := fun (x0, x2) => { env := [(2, .one (.ptr 1114240 0)), (3, .one (.ptr 1114304 0)), (5, .one (.ref 100005 [])), (6, .one (.row .e54 x1)), (7, .one (.int .i64 x2))], objs := [(100005, .row .e44 x0 false), (1114240, .box .mem [.str x3, .str x4, .row .e70 x5]), (1114304, .box .mem [.str x6, .str x7, .row .e70 x8])], base := 0 }
end
noncomputable def r17_0 (x1 : List (C .e54)) (x3 : ByteArray) (x4 : ByteArray) (x5 : List (C .e70)) (x6 : ByteArray) (x7 : ByteArray) (x8 : List (C .e70)) (n : Nat)   (rec0 : A17_0 → Option (List (C .e44))) : A17_0 → Option (List (C .e44)) := fun (x0, x2) =>
 cond (decide (x2 < (x1.length : Int)))
 (cond (decide (0 ≤ x2)) (Option.bind x1[x2.toNat]? fun e2 => Option.bind (G36 (⟨x3, x4, x5⟩ : VSheetBlock) e2.Key) fun r3 =>
 cond (decide (0 ≤ x2)) (Option.bind x1[x2.toNat]? fun e4 => Option.bind (G36 (⟨x6, x7, x8⟩ : VSheetBlock) e4.Key) fun r5 =>
 Option.bind (G37 r3 r5) fun r6 =>
 cond r6
 (rec0 ((x0, IntKind.i64.wrap (x2 + 1))))
 (cond (decide (0 ≤ x2)) (Option.bind x1[x2.toNat]? fun e7 => cond ((r5.length : Int) == 0)
 (cond (decide ((x0.length + (([(⟨4, x3, x4, e7.Key, r5⟩ : VSheetChange)] : List (C .e44))).length) * 80 ≤ 140737488355328)) (rec0 ((x0 ++ (([(⟨4, x3, x4, e7.Key, r5⟩ : VSheetChange)] : List (C .e44))), IntKind.i64.wrap (x2 + 1)))) none)
 (cond (decide ((x0.length + (([(⟨3, x3, x4, e7.Key, r5⟩ : VSheetChange)] : List (C .e44))).length) * 80 ≤ 140737488355328)) (rec0 ((x0 ++ (([(⟨3, x3, x4, e7.Key, r5⟩ : VSheetChange)] : List (C .e44))), IntKind.i64.wrap (x2 + 1)))) none)) none)) none) none)
 (some (x0))
section
variable (x1 : List (C .e54)) (x3 : ByteArray) (x4 : ByteArray) (x5 : List (C .e70)) (x6 : ByteArray) (x7 : ByteArray) (x8 : List (C .e70))
noncomputable def MP17_0 (n : Nat)  (x : A17_0) : Option (List (C .e44)) := iter (fun rec S => run X17 (F17 n) (codeAt (bodyOf Tryd.f17) [1, 1, 1, 0, 1, 0, 0]) 0 S (lopK rec (blkK 0 (seqK (run X17 (F17 n) (codeAt (bodyOf Tryd.f17) [1, 1, 1, 1]) 0) (kTop X17 Tryd.f17 dec17))))) [2, 3, 5, 6, 7] n (s17_0 x1 x3 x4 x5 x6 x7 x8 x)
theorem m17_0 (n : Nat)  (x : A17_0) : MP17_0 x1 x3 x4 x5 x6 x7 x8 n  x = lpN (r17_0 x1 x3 x4 x5 x6 x7 x8 n  ) n x := by
  refine iter_eq (s17_0 x1 x3 x4 x5 x6 x7 x8) (r17_0 x1 x3 x4 x5 x6 x7 x8 n  ) (fun rec0 x => ?_) n x
  obtain ⟨x0, x2⟩ := x
  kernel_rfl
end
noncomputable def G17n (n : Nat) (a0 : VSheetBlock) (a1 : VSheetBlock) : Option (List (C .e44)) :=
 Option.bind (G32 a0.Kind) fun r1 =>
 lpN (r17_0 r1 a0.Kind a0.Name a0.Lines a1.Kind a1.Name a1.Lines n ) n ((([] : List (C .e44)), 0))
theorem t17 (n : Nat) (a0 : VSheetBlock) (a1 : VSheetBlock) : runFn X17 (F17 n) Tryd.f17 [.agg [.str a0.Kind, .str a0.Name, .row .e70 a0.Lines], .agg [.str a1.Kind, .str a1.Name, .row .e70 a1.Lines]] dec17 = G17n n a0 a1 := by
  refine Eq.trans (b :=
   Option.bind (G32 a0.Kind) fun r1 =>
   MP17_0 r1 a0.Kind a0.Name a0.Lines a1.Kind a1.Name a1.Lines n   ((([] : List (C .e44)), 0))) (by kernel_rfl) ?_
  simp only [G17n, m17_0]
noncomputable def G17 (a0 : VSheetBlock) (a1 : VSheetBlock) : Option (List (C .e44)) := G17n fuel a0 a1
noncomputable def con17 : Con C := mkC KK [.el .e42, .el .e42] [.row .e44] G17
theorem c17 : ConOk Tryd.prog KK 17 con17 := cO (mkQ ⟨c32, c36, c37, trivial⟩ trivial trivial : Cons Tryd.prog X17) (fn := Tryd.f17) (by kernel_rfl) (by kernel_rfl) (by kernel_rfl) (by kernel_rfl) (F17 fuel) (by kernel_rfl) (fun a0 a1 => t17 fuel a0 a1)
/-! ### f5 loop.example/wharfdesk/spec.SheetDiff -/
noncomputable def X5 : Cx C := mkX [(14, con14), (15, con15), (16, con16), (17, con17)] [] [] [] 327680
def F5 (n : Nat) : Cf := { N := n, keep := [0, 1, 2, 3, 4, 5, 6, 7, 8, 9, 18, 24, 41, 62, 77], live := lk [(0, [2, 3, 5, 6]), (2, [2, 3, 5, 7])] }
noncomputable abbrev dec5 := deR KK [.row .e44]
abbrev A5_1 : Type := List (C .e44) × Int
abbrev A5_0 : Type := List (C .e44) × Int
section
variable (x2 : List (C .e42)) (x3 : List (C .e42))
def s5_1 : A5_1 → St C := fun (x0, x1) => { env := [(2, .one (.ptr 327808 0)), (3, .one (.ptr 327872 0)), (5, .one (.ref 100005 [])), (7, .one (.int .i64 x1))], objs := [(100005, .row .e44 x0 false), (327808, .box .mem [.row .e42 x2]), (327872, .box .mem [.row .e42 x3])], base := 0 }
end
noncomputable def r5_1 (x2 : List (C .e42)) (x3 : List (C .e42)) (n : Nat)   (rec1 : A5_1 → Option (List (C .e44))) : A5_1 → Option (List (C .e44)) := fun (x0, x1) =>
 cond (decide (x1 < (x3.length : Int)))
 (cond (decide (0 ≤ x1)) (Option.bind x3[x1.toNat]? fun e8 => Option.bind (G15 (⟨x2⟩ : VSheet) e8.Kind e8.Name) fun r9 =>
 cond (decide (r9 < 0))
 (Option.bind (G16 e8.Lines) fun r10 =>
 cond (decide ((x0.length + (([(⟨2, e8.Kind, e8.Name, (⟨#[]⟩ : ByteArray), r10⟩ : VSheetChange)] : List (C .e44))).length) * 80 ≤ 140737488355328)) (rec1 ((x0 ++ (([(⟨2, e8.Kind, e8.Name, (⟨#[]⟩ : ByteArray), r10⟩ : VSheetChange)] : List (C .e44))), IntKind.i64.wrap (x1 + 1)))) none)
 (cond (decide (0 ≤ r9)) (Option.bind x2[r9.toNat]? fun e11 => Option.bind (G17 e11 e8) fun r12 =>
 cond (decide ((x0.length + r12.length) * 80 ≤ 140737488355328)) (rec1 ((x0 ++ r12, IntKind.i64.wrap (x1 + 1)))) none) none)) none)
 (some (x0))
section
variable (x2 : List (C .e42)) (x3 : List (C .e42))
def s5_0 : A5_0 → St C := fun (x0, x1) => { env := [(2, .one (.ptr 327808 0)), (3, .one (.ptr 327872 0)), (5, .one (.ref 100005 [])), (6, .one (.int .i64 x1))], objs := [(100005, .row .e44 x0 false), (327808, .box .mem [.row .e42 x2]), (327872, .box .mem [.row .e42 x3])], base := 0 }
end
noncomputable def r5_0 (x2 : List (C .e42)) (x3 : List (C .e42)) (n : Nat)   (rec0 : A5_0 → Option (List (C .e44))) : A5_0 → Option (List (C .e44)) := fun (x0, x1) =>
 cond (decide (x1 < (x2.length : Int)))
 (cond (decide (0 ≤ x1)) (Option.bind x2[x1.toNat]? fun e3 => cond (decide (0 ≤ x1)) (Option.bind x2[x1.toNat]? fun e4 => Option.bind (G15 (⟨x3⟩ : VSheet) e3.Kind e4.Name) fun r5 =>
 cond (decide (r5 < 0))
 (cond (decide (0 ≤ x1)) (Option.bind x2[x1.toNat]? fun e6 => cond (decide (0 ≤ x1)) (Option.bind x2[x1.toNat]? fun e7 => cond (decide ((x0.length + (([(⟨1, e6.Kind, e7.Name, (⟨#[]⟩ : ByteArray), ([] : List (C .e70))⟩ : VSheetChange)] : List (C .e44))).length) * 80 ≤ 140737488355328)) (rec0 ((x0 ++ (([(⟨1, e6.Kind, e7.Name, (⟨#[]⟩ : ByteArray), ([] : List (C .e70))⟩ : VSheetChange)] : List (C .e44))), IntKind.i64.wrap (x1 + 1)))) none) none) none)
 (rec0 ((x0, IntKind.i64.wrap (x1 + 1))))) none) none)
 (lpN (r5_1 x2 x3 n ) n (x0, 0))
section
variable (x2 : List (C .e42)) (x3 : List (C .e42))
noncomputable def MP5_1 (n : Nat)  (x : A5_1) : Option (List (C .e44)) := iter (fun rec S => run X5 (F5 n) (codeAt (bodyOf Tryd.f5) [1, 1, 1, 1, 0, 1, 0, 0]) 2 S (lopK rec (blkK 2 (seqK (run X5 (F5 n) (codeAt (bodyOf Tryd.f5) [1, 1, 1, 1, 1]) 0) (kTop X5 Tryd.f5 dec5))))) [2, 3, 5, 7] n (s5_1 x2 x3 x)
theorem m5_1 (n : Nat)  (x : A5_1) : MP5_1 x2 x3 n  x = lpN (r5_1 x2 x3 n  ) n x := by
  refine iter_eq (s5_1 x2 x3) (r5_1 x2 x3 n  ) (fun rec1 x => ?_) n x
  obtain ⟨x0, x1⟩ := x
  kernel_rfl
end
section
variable (x2 : List (C .e42)) (x3 : List (C .e42))
noncomputable def MP5_0 (n : Nat)  (x : A5_0) : Option (List (C .e44)) := iter (fun rec S => run X5 (F5 n) (codeAt (bodyOf Tryd.f5) [1, 1, 1, 0, 1, 0, 0]) 0 S (lopK rec (blkK 0 (seqK (run X5 (F5 n) (codeAt (bodyOf Tryd.f5) [1, 1, 1, 1]) 0) (kTop X5 Tryd.f5 dec5))))) [2, 3, 5, 6] n (s5_0 x2 x3 x)
theorem m5_0 (n : Nat)  (x : A5_0) : MP5_0 x2 x3 n  x = lpN (r5_0 x2 x3 n  ) n x := by
  refine iter_eq (s5_0 x2 x3) (r5_0 x2 x3 n  ) (fun rec0 x => ?_) n x
  obtain ⟨x0, x1⟩ := x
  have h : run X5 (F5 n) (codeAt (bodyOf Tryd.f5) [1, 1, 1, 0, 1, 0, 0]) 0 (s5_0 x2 x3 (x0, x1)) (lopK (canThen [2, 3, 5, 6] rec0) (blkK 0 (seqK (run X5 (F5 n) (codeAt (bodyOf Tryd.f5) [1, 1, 1, 1]) 0) (kTop X5 Tryd.f5 dec5)))) =
   cond (decide (x1 < (x2.length : Int)))
   (cond (decide (0 ≤ x1)) (Option.bind x2[x1.toNat]? fun e3 => cond (decide (0 ≤ x1)) (Option.bind x2[x1.toNat]? fun e4 => Option.bind (G15 (⟨x3⟩ : VSheet) e3.Kind e4.Name) fun r5 =>
   cond (decide (r5 < 0))
   (cond (decide (0 ≤ x1)) (Option.bind x2[x1.toNat]? fun e6 => cond (decide (0 ≤ x1)) (Option.bind x2[x1.toNat]? fun e7 => cond (decide ((x0.length + (([(⟨1, e6.Kind, e7.Name, (⟨#[]⟩ : ByteArray), ([] : List (C .e70))⟩ : VSheetChange)] : List (C .e44))).length) * 80 ≤ 140737488355328)) ((fun x => rec0 (s5_0 x2 x3 x)) ((x0 ++ (([(⟨1, e6.Kind, e7.Name, (⟨#[]⟩ : ByteArray), ([] : List (C .e70))⟩ : VSheetChange)] : List (C .e44))), IntKind.i64.wrap (x1 + 1)))) none) none) none)
   ((fun x => rec0 (s5_0 x2 x3 x)) ((x0, IntKind.i64.wrap (x1 + 1))))) none) none)
   (MP5_1 x2 x3 n   (x0, 0)) := by kernel_rfl
  simp only [m5_1] at h
  exact h
end
noncomputable def G5n (n : Nat) (a0 : VSheet) (a1 : VSheet) : Option (List (C .e44)) :=
 Option.bind (G14 a0) fun r1 =>
 cond (!r1)
 (some (([] : List (C .e44))))
 (Option.bind (G14 a1) fun r2 =>
 cond (!r2)
 (some (([] : List (C .e44))))
 (lpN (r5_0 a0.Blocks a1.Blocks n ) n ((([] : List (C .e44)), 0))))
theorem t5 (n : Nat) (a0 : VSheet) (a1 : VSheet) : runFn X5 (F5 n) Tryd.f5 [.agg [.row .e42 a0.Blocks], .agg [.row .e42 a1.Blocks]] dec5 = G5n n a0 a1 := by
  refine Eq.trans (b :=
   Option.bind (G14 a0) fun r1 =>
   cond (!r1)
   (some (([] : List (C .e44))))
   (Option.bind (G14 a1) fun r2 =>
   cond (!r2)
   (some (([] : List (C .e44))))
   (MP5_0 a0.Blocks a1.Blocks n   ((([] : List (C .e44)), 0))))) (by kernel_rfl) ?_
  simp only [G5n, m5_0]
noncomputable def G5 (a0 : VSheet) (a1 : VSheet) : Option (List (C .e44)) := G5n fuel a0 a1
noncomputable def con5 : Con C := mkC KK [.el .e30, .el .e30] [.row .e44] G5
theorem c5 : ConOk Tryd.prog KK 5 con5 := cO (mkQ ⟨c14, c15, c16, c17, trivial⟩ trivial trivial : Cons Tryd.prog X5) (fn := Tryd.f5) (by kernel_rfl) (by kernel_rfl) (by kernel_rfl) (by kernel_rfl) (F5 fuel) (by kernel_rfl) (fun a0 a1 => t5 fuel a0 a1)
/-! ### f78 loop.example/wharfdesk/laws.toStringS -/
noncomputable def X78 : Cx C := mkX [] [] [] [] 5111808
def F78 (n : Nat) : Cf := { N := n, keep := [0, 2, 3, 4, 11], live := lk [(0, [0, 3, 4])] }
noncomputable abbrev dec78 := deR KK [.row .e9]
abbrev A78_0 : Type := List (C .e9) × List (C .e9) × Int
def s78_0  : A78_0 → St C := fun (x0_0, x0_1, x0_2) => { env := [(0, .one (.row .e9 x0_0)), (3, .one (.ref 100003 [])), (4, .one (.int .i64 x0_2))], objs := [(100003, .row .e9 x0_1 false)], base := 0 }
noncomputable def r78_0 (n : Nat)   (rec0 : A78_0 → Option (List (C .e9))) : A78_0 → Option (List (C .e9)) := fun (x0_0, x0_1, x0_2) =>
 cond (decide (x0_2 < (x0_0.length : Int)))
 (cond (decide (0 ≤ x0_2)) (Option.bind x0_0[x0_2.toNat]? fun e1 => cond (decide (0 ≤ x0_2)) (cond (decide (x0_2 < (x0_1.length : Int))) (Option.bind x0_1[x0_2.toNat]? fun e2 => rec0 ((x0_0, x0_1.set x0_2.toNat e1, IntKind.i64.wrap (x0_2 + 1)))) none) none) none)
 (some (x0_1))
noncomputable def LP78_0 (n : Nat)   (x : A78_0) : Option (List (C .e9)) := lpN (r78_0 n  ) n x
noncomputable def MP78_0 (n : Nat)   (x : A78_0) : Option (List (C .e9)) := iter (fun rec S => run X78 (F78 n) (codeAt (bodyOf Tryd.f78) [1, 1, 0, 1, 0, 0]) 0 S (lopK rec (blkK 0 (seqK (run X78 (F78 n) (codeAt (bodyOf Tryd.f78) [1, 1, 1]) 0) (kTop X78 Tryd.f78 dec78))))) [0, 3, 4] n (s78_0  x)
theorem m78_0 (n : Nat)   (x : A78_0) : MP78_0 n   x = LP78_0 n   x := by
  refine iter_eq (s78_0 ) (r78_0 n  ) (fun rec0 x => ?_) n x
  obtain ⟨x0_0, x0_1, x0_2⟩ := x
  kernel_rfl
noncomputable def G78n (n : Nat) (a0 : List (C .e9)) : Option (List (C .e9)) :=
 cond (decide ((a0.length : Int) = (a0.length : Int))) (cond (decide (0 ≤ (a0.length : Int))) (cond (decide ((a0.length : Int) * 16 ≤ 140737488355328)) (LP78_0 n    ((a0, List.replicate (a0.length : Int).toNat (⟨#[]⟩ : C .e9), 0))) none) none) none
theorem t78 (n : Nat) (a0 : List (C .e9)) : runFn X78 (F78 n) Tryd.f78 [.one (.row .e9 a0)] dec78 = G78n n a0 := by
  refine Eq.trans (b :=
   cond (decide ((a0.length : Int) = (a0.length : Int))) (cond (decide (0 ≤ (a0.length : Int))) (cond (decide ((a0.length : Int) * 16 ≤ 140737488355328)) (MP78_0 n    ((a0, List.replicate (a0.length : Int).toNat (⟨#[]⟩ : C .e9), 0))) none) none) none) (by kernel_rfl) ?_
  simp only [G78n, m78_0]
noncomputable def G78 (a0 : List (C .e9)) : Option (List (C .e9)) := G78n fuel a0
noncomputable def con78 : Con C := mkC KK [.row .e9] [.row .e9] G78
theorem c78 : ConOk Tryd.prog KK 78 con78 := cO (mkQ trivial trivial trivial : Cons Tryd.prog X78) (fn := Tryd.f78) (by kernel_rfl) (by kernel_rfl) (by kernel_rfl) (by kernel_rfl) (F78 fuel) (by kernel_rfl) (fun a0 => t78 fuel a0)
/-! ### f70 loop.example/wharfdesk/laws.toSheetLine -/
noncomputable def X70 : Cx C := mkX [(78, con78)] [] [] [] 4587520
def F70 (n : Nat) : Cf := { N := n, keep := [0, 1, 2, 3], live := lk [] }
noncomputable abbrev dec70 := deR KK [.el .e70]
noncomputable def G70n (n : Nat) (a0 : VSheetLine) : Option (VSheetLine) :=
 Option.bind (G78 a0.Words) fun r1 =>
 some ((⟨a0.Key, r1⟩ : VSheetLine))
theorem t70 (n : Nat) (a0 : VSheetLine) : runFn X70 (F70 n) Tryd.f70 [.agg [.str a0.Key, .row .e9 a0.Words]] dec70 = G70n n a0 := by
  kernel_rfl
noncomputable def G70 (a0 : VSheetLine) : Option (VSheetLine) := G70n fuel a0
noncomputable def con70 : Con C := mkC KK [.el .e93] [.el .e70] G70
theorem c70 : ConOk Tryd.prog KK 70 con70 := cO (mkQ ⟨c78, trivial⟩ trivial trivial : Cons Tryd.prog X70) (fn := Tryd.f70) (by kernel_rfl) (by kernel_rfl) (by kernel_rfl) (by kernel_rfl) (F70 fuel) (by kernel_rfl) (fun a0 => t70 fuel a0)
/-! ### f59 loop.example/wharfdesk/laws.toSheetLineS -/
noncomputable def X59 : Cx C := mkX [(70, con70)] [] [] [] 3866624
def F59 (n : Nat) : Cf := { N := n, keep := [0, 2, 3, 4, 11], live := lk [(0, [0, 3, 4])] }
noncomputable abbrev dec59 := deR KK [.row .e70]
abbrev A59_0 : Type := List (C .e93) × List (C .e70) × Int
def s59_0  : A59_0 → St C := fun (x0_0, x0_1, x0_2) => { env := [(0, .one (.row .e93 x0_0)), (3, .one (.ref 100003 [])), (4, .one (.int .i64 x0_2))], objs := [(100003, .row .e70 x0_1 false)], base := 0 }
noncomputable def r59_0 (n : Nat)   (rec0 : A59_0 → Option (List (C .e70))) : A59_0 → Option (List (C .e70)) := fun (x0_0, x0_1, x0_2) =>
 cond (decide (x0_2 < (x0_0.length : Int)))
 (cond (decide (0 ≤ x0_2)) (Option.bind x0_0[x0_2.toNat]? fun e1 => Option.bind (G70 e1) fun r2 =>
 cond (decide (0 ≤ x0_2)) (cond (decide (x0_2 < (x0_1.length : Int))) (Option.bind x0_1[x0_2.toNat]? fun e3 => rec0 ((x0_0, x0_1.set x0_2.toNat r2, IntKind.i64.wrap (x0_2 + 1)))) none) none) none)
 (some (x0_1))
noncomputable def LP59_0 (n : Nat)   (x : A59_0) : Option (List (C .e70)) := lpN (r59_0 n  ) n x
noncomputable def MP59_0 (n : Nat)   (x : A59_0) : Option (List (C .e70)) := iter (fun rec S => run X59 (F59 n) (codeAt (bodyOf Tryd.f59) [1, 1, 0, 1, 0, 0]) 0 S (lopK rec (blkK 0 (seqK (run X59 (F59 n) (codeAt (bodyOf Tryd.f59) [1, 1, 1]) 0) (kTop X59 Tryd.f59 dec59))))) [0, 3, 4] n (s59_0  x)
theorem m59_0 (n : Nat)   (x : A59_0) : MP59_0 n   x = LP59_0 n   x := by
  refine iter_eq (s59_0 ) (r59_0 n  ) (fun rec0 x => ?_) n x
  obtain ⟨x0_0, x0_1, x0_2⟩ := x
  kernel_rfl
noncomputable def G59n (n : Nat) (a0 : List (C .e93)) : Option (List (C .e70)) :=
 cond (decide ((a0.length : Int) = (a0.length : Int))) (cond (decide (0 ≤ (a0.length : Int))) (cond (decide ((a0.length : Int) * 40 ≤ 140737488355328)) (LP59_0 n    ((a0, List.replicate (a0.length : Int).toNat (⟨⟨#[]⟩, []⟩ : C .e70), 0))) none) none) none
theorem t59 (n : Nat) (a0 : List (C .e93)) : runFn X59 (F59 n) Tryd.f59 [.one (.row .e93 a0)] dec59 = G59n n a0 := by
  refine Eq.trans (b :=
   cond (decide ((a0.length : Int) = (a0.length : Int))) (cond (decide (0 ≤ (a0.length : Int))) (cond (decide ((a0.length : Int) * 40 ≤ 140737488355328)) (MP59_0 n    ((a0, List.replicate (a0.length : Int).toNat (⟨⟨#[]⟩, []⟩ : C .e70), 0))) none) none) none) (by kernel_rfl) ?_
  simp only [G59n, m59_0]
noncomputable def G59 (a0 : List (C .e93)) : Option (List (C .e70)) := G59n fuel a0
noncomputable def con59 : Con C := mkC KK [.row .e93] [.row .e70] G59
theorem c59 : ConOk Tryd.prog KK 59 con59 := cO (mkQ ⟨c70, trivial⟩ trivial trivial : Cons Tryd.prog X59) (fn := Tryd.f59) (by kernel_rfl) (by kernel_rfl) (by kernel_rfl) (by kernel_rfl) (F59 fuel) (by kernel_rfl) (fun a0 => t59 fuel a0)
/-! ### f38 loop.example/wharfdesk/laws.toSheetBlock -/
noncomputable def X38 : Cx C := mkX [(59, con59)] [] [] [] 2490368
def F38 (n : Nat) : Cf := { N := n, keep := [0, 1, 2, 3], live := lk [] }
noncomputable abbrev dec38 := deR KK [.el .e42]
noncomputable def G38n (n : Nat) (a0 : VSheetBlock) : Option (VSheetBlock) :=
 Option.bind (G59 a0.Lines) fun r1 =>
 some ((⟨a0.Kind, a0.Name, r1⟩ : VSheetBlock))
theorem t38 (n : Nat) (a0 : VSheetBlock) : runFn X38 (F38 n) Tryd.f38 [.agg [.str a0.Kind, .str a0.Name, .row .e93 a0.Lines]] dec38 = G38n n a0 := by
  kernel_rfl
noncomputable def G38 (a0 : VSheetBlock) : Option (VSheetBlock) := G38n fuel a0
noncomputable def con38 : Con C := mkC KK [.el .e65] [.el .e42] G38
theorem c38 : ConOk Tryd.prog KK 38 con38 := cO (mkQ ⟨c59, trivial⟩ trivial trivial : Cons Tryd.prog X38) (fn := Tryd.f38) (by kernel_rfl) (by kernel_rfl) (by kernel_rfl) (by kernel_rfl) (F38 fuel) (by kernel_rfl) (fun a0 => t38 fuel a0)
/-! ### f18 loop.example/wharfdesk/laws.toSheetBlockS -/
noncomputable def X18 : Cx C := mkX [(38, con38)] [] [] [] 1179648
def F18 (n : Nat) : Cf := { N := n, keep := [0, 2, 3, 4, 11], live := lk [(0, [0, 3, 4])] }
noncomputable abbrev dec18 := deR KK [.row .e42]
abbrev A18_0 : Type := List (C .e65) × List (C .e42) × Int
def s18_0  : A18_0 → St C := fun (x0_0, x0_1, x0_2) => { env := [(0, .one (.row .e65 x0_0)), (3, .one (.ref 100003 [])), (4, .one (.int .i64 x0_2))], objs := [(100003, .row .e42 x0_1 false)], base := 0 }
noncomputable def r18_0 (n : Nat)   (rec0 : A18_0 → Option (List (C .e42))) : A18_0 → Option (List (C .e42)) := fun (x0_0, x0_1, x0_2) =>
 cond (decide (x0_2 < (x0_0.length : Int)))
 (cond (decide (0 ≤ x0_2)) (Option.bind x0_0[x0_2.toNat]? fun e1 => Option.bind (G38 e1) fun r2 =>
 cond (decide (0 ≤ x0_2)) (cond (decide (x0_2 < (x0_1.length : Int))) (Option.bind x0_1[x0_2.toNat]? fun e3 => rec0 ((x0_0, x0_1.set x0_2.toNat r2, IntKind.i64.wrap (x0_2 + 1)))) none) none) none)
 (some (x0_1))
noncomputable def LP18_0 (n : Nat)   (x : A18_0) : Option (List (C .e42)) := lpN (r18_0 n  ) n x
noncomputable def MP18_0 (n : Nat)   (x : A18_0) : Option (List (C .e42)) := iter (fun rec S => run X18 (F18 n) (codeAt (bodyOf Tryd.f18) [1, 1, 0, 1, 0, 0]) 0 S (lopK rec (blkK 0 (seqK (run X18 (F18 n) (codeAt (bodyOf Tryd.f18) [1, 1, 1]) 0) (kTop X18 Tryd.f18 dec18))))) [0, 3, 4] n (s18_0  x)
theorem m18_0 (n : Nat)   (x : A18_0) : MP18_0 n   x = LP18_0 n   x := by
  refine iter_eq (s18_0 ) (r18_0 n  ) (fun rec0 x => ?_) n x
  obtain ⟨x0_0, x0_1, x0_2⟩ := x
  kernel_rfl
noncomputable def G18n (n : Nat) (a0 : List (C .e65)) : Option (List (C .e42)) :=
 cond (decide ((a0.length : Int) = (a0.length : Int))) (cond (decide (0 ≤ (a0.length : Int))) (cond (decide ((a0.length : Int) * 56 ≤ 140737488355328)) (LP18_0 n    ((a0, List.replicate (a0.length : Int).toNat (⟨⟨#[]⟩, ⟨#[]⟩, []⟩ : C .e42), 0))) none) none) none
theorem t18 (n : Nat) (a0 : List (C .e65)) : runFn X18 (F18 n) Tryd.f18 [.one (.row .e65 a0)] dec18 = G18n n a0 := by
  refine Eq.trans (b :=
   cond (decide ((a0.length : Int) = (a0.length : Int))) (cond (decide (0 ≤ (a0.length : Int))) (cond (decide ((a0.length : Int) * 56 ≤ 140737488355328)) (MP18_0 n    ((a0, List.replicate (a0.length : Int).toNat (⟨⟨#[]⟩, ⟨#[]⟩, []⟩ : C .e42), 0))) none) none) none) (by kernel_rfl) ?_
  simp only [G18n, m18_0]
noncomputable def G18 (a0 : List (C .e65)) : Option (List (C .e42)) := G18n fuel a0
noncomputable def con18 : Con C := mkC KK [.row .e65] [.row .e42] G18
theorem c18 : ConOk Tryd.prog KK 18 con18 := cO (mkQ ⟨c38, trivial⟩ trivial trivial : Cons Tryd.prog X18) (fn := Tryd.f18) (by kernel_rfl) (by kernel_rfl) (by kernel_rfl) (by kernel_rfl) (F18 fuel) (by kernel_rfl) (fun a0 => t18 fuel a0)
/-! ### f6 loop.example/wharfdesk/laws.toSheet -/
noncomputable def X6 : Cx C := mkX [(18, con18)] [] [] [] 393216
def F6 (n : Nat) : Cf := { N := n, keep := [0, 1, 2, 3], live := lk [] }
noncomputable abbrev dec6 := deR KK [.el .e30]
noncomputable def G6n (n : Nat) (a0 : VSheet) : Option (VSheet) :=
 Option.bind (G18 a0.Blocks) fun r1 =>
 some ((⟨r1⟩ : VSheet))
theorem t6 (n : Nat) (a0 : VSheet) : runFn X6 (F6 n) Tryd.f6 [.agg [.row .e65 a0.Blocks]] dec6 = G6n n a0 := by
  kernel_rfl
noncomputable def G6 (a0 : VSheet) : Option (VSheet) := G6n fuel a0
noncomputable def con6 : Con C := mkC KK [.el .e24] [.el .e30] G6
theorem c6 : ConOk Tryd.prog KK 6 con6 := cO (mkQ ⟨c18, trivial⟩ trivial trivial : Cons Tryd.prog X6) (fn := Tryd.f6) (by kernel_rfl) (by kernel_rfl) (by kernel_rfl) (by kernel_rfl) (F6 fuel) (by kernel_rfl) (fun a0 => t6 fuel a0)
/-! ### f95 internal/stringslite.IndexByte -/
noncomputable def X95 : Cx C := mkX [] [] [] [] 6225920
def F95 (n : Nat) : Cf := { N := n, keep := [0, 1, 4], live := lk [] }
noncomputable abbrev dec95 := deR KK [.int .i64]
noncomputable def G95n (n : Nat) (a0 : ByteArray) (a1 : Int) : Option (Int) :=
 some (idxY a0 a1)
theorem t95 (n : Nat) (a0 : ByteArray) (a1 : Int) : runFn X95 (F95 n) Tryd.f95 [.one (.str a0), .one (.int .u8 a1)] dec95 = G95n n a0 a1 := by
  kernel_rfl
noncomputable def G95 (a0 : ByteArray) (a1 : Int) : Option (Int) := G95n fuel a0 a1
noncomputable def con95 : Con C := mkC KK [.str, .int .u8] [.int .i64] G95
theorem c95 : ConOk Tryd.prog KK 95 con95 := cO (mkQ trivial trivial trivial : Cons Tryd.prog X95) (fn := Tryd.f95) (by kernel_rfl) (by kernel_rfl) (by kernel_rfl) (by kernel_rfl) (F95 fuel) (by kernel_rfl) (fun a0 a1 => t95 fuel a0 a1)
/-! ### f92 internal/stringslite.Index -/
noncomputable def X92 : Cx C := mkX [(95, con95)] [] [] [] 6029312
def F92 (n : Nat) : Cf := { N := n, keep := [0, 1, 4, 5, 6, 7, 8, 9, 10, 11, 12, 13, 16, 24, 31, 36, 59, 64, 73, 93, 107, 114, 132, 139], live := lk [(1, [0, 1, 5, 6, 7, 8, 9, 10])] }
noncomputable abbrev dec92 := deR KK [.int .i64]
noncomputable def G92n (n : Nat) (a0 : ByteArray) (a1 : ByteArray) : Option (Int) :=
 cond ((a1.size : Int) == 0)
 (some (0))
 (cond (decide (a1 = a0))
 (some (0))
 (cond ((a1.size : Int) == 1)
 (cond (decide (0 ≤ 0)) (cond (decide (0 < (a1.size : Int))) (Option.bind (G95 a0 (sbt a1 0)) fun r1 =>
 some (r1)) none) none)
 (cond (decide ((a1.size : Int) ≥ (a0.size : Int)))
 (some ((-1)))
 (none))))
theorem t92 (n : Nat) (a0 : ByteArray) (a1 : ByteArray) : runFn X92 (F92 n) Tryd.f92 [.one (.str a0), .one (.str a1)] dec92 = G92n n a0 a1 := by
  kernel_rfl
noncomputable def G92 (a0 : ByteArray) (a1 : ByteArray) : Option (Int) := G92n fuel a0 a1
noncomputable def con92 : Con C := mkC KK [.str, .str] [.int .i64] G92
theorem c92 : ConOk Tryd.prog KK 92 con92 := cO (mkQ ⟨c95, trivial⟩ trivial trivial : Cons Tryd.prog X92) (fn := Tryd.f92) (by kernel_rfl) (by kernel_rfl) (by kernel_rfl) (by kernel_rfl) (F92 fuel) (by kernel_rfl) (fun a0 a1 => t92 fuel a0 a1)
/-! ### f85 strings.Index -/
noncomputable def X85 : Cx C := mkX [(92, con92)] [] [] [] 5570560
def F85 (n : Nat) : Cf := { N := n, keep := [0, 1, 4], live := lk [] }
noncomputable abbrev dec85 := deR KK [.int .i64]
noncomputable def G85n (n : Nat) (a0 : ByteArray) (a1 : ByteArray) : Option (Int) :=
 Option.bind (G92 a0 a1) fun r1 =>
 some (r1)
theorem t85 (n : Nat) (a0 : ByteArray) (a1 : ByteArray) : runFn X85 (F85 n) Tryd.f85 [.one (.str a0), .one (.str a1)] dec85 = G85n n a0 a1 := by
  kernel_rfl
noncomputable def G85 (a0 : ByteArray) (a1 : ByteArray) : Option (Int) := G85n fuel a0 a1
noncomputable def con85 : Con C := mkC KK [.str, .str] [.int .i64] G85
theorem c85 : ConOk Tryd.prog KK 85 con85 := cO (mkQ ⟨c92, trivial⟩ trivial trivial : Cons Tryd.prog X85) (fn := Tryd.f85) (by kernel_rfl) (by kernel_rfl) (by kernel_rfl) (by kernel_rfl) (F85 fuel) (by kernel_rfl) (fun a0 a1 => t85 fuel a0 a1)
/-! ### f84 strings.Count -/
noncomputable def X84 : Cx C := mkX [(85, con85)] [] [] [] 5505024
def F84 (n : Nat) : Cf := { N := n, keep := [0, 1, 4, 5, 6, 9, 15, 24], live := lk [(0, [0, 1, 5])] }
noncomputable abbrev dec84 := deR KK [.int .i64]
abbrev A84_0 : Type := ByteArray × Int
section
variable (x1 : ByteArray)
def s84_0 : A84_0 → St C := fun (x0, x2) => { env := [(0, .one (.str x0)), (1, .one (.str x1)), (5, .one (.int .i64 x2))], objs := [], base := 0 }
end
noncomputable def r84_0 (x1 : ByteArray) (n : Nat)   (rec0 : A84_0 → Option (Int)) : A84_0 → Option (Int) := fun (x0, x2) =>
 Option.bind (G85 x0 x1) fun r1 =>
 cond (r1 == (-1))
 (some (x2))
 (cond (decide ((0 : Int) ≤ IntKind.i64.wrap (r1 + (x1.size : Int)))) (cond (decide ((IntKind.i64.wrap (r1 + (x1.size : Int)) : Int) ≤ (x0.size : Int))) (cond (decide ((x0.size : Int) ≤ (x0.size : Int))) (rec0 ((x0.extract (IntKind.i64.wrap (r1 + (x1.size : Int)) : Int).toNat (x0.size : Int).toNat, IntKind.i64.wrap (x2 + 1)))) none) none) none)
section
variable (x1 : ByteArray)
noncomputable def MP84_0 (n : Nat)  (x : A84_0) : Option (Int) := iter (fun rec S => run X84 (F84 n) (codeAt (bodyOf Tryd.f84) [1, 1, 1, 1, 0, 0]) 0 S (lopK rec (blkK 0 (kTop X84 Tryd.f84 dec84)))) [0, 1, 5] n (s84_0 x1 x)
theorem m84_0 (n : Nat)  (x : A84_0) : MP84_0 x1 n  x = lpN (r84_0 x1 n  ) n x := by
  refine iter_eq (s84_0 x1) (r84_0 x1 n  ) (fun rec0 x => ?_) n x
  obtain ⟨x0, x2⟩ := x
  kernel_rfl
end
noncomputable def G84n (n : Nat) (a0 : ByteArray) (a1 : ByteArray) : Option (Int) :=
 cond ((a1.size : Int) == 0)
 (none)
 (cond ((a1.size : Int) == 1)
 (cond (decide (0 ≤ 0)) (cond (decide (0 < (a1.size : Int))) (some (cntB a0 (sbt a1 0))) none) none)
 (lpN (r84_0 a1 n ) n (a0, 0)))
theorem t84 (n : Nat) (a0 : ByteArray) (a1 : ByteArray) : runFn X84 (F84 n) Tryd.f84 [.one (.str a0), .one (.str a1)] dec84 = G84n n a0 a1 := by
  refine Eq.trans (b :=
   cond ((a1.size : Int) == 0)
   (none)
   (cond ((a1.size : Int) == 1)
   (cond (decide (0 ≤ 0)) (cond (decide (0 < (a1.size : Int))) (some (cntB a0 (sbt a1 0))) none) none)
   (MP84_0 a1 n   (a0, 0)))) (by kernel_rfl) ?_
  simp only [G84n, m84_0]
noncomputable def G84 (a0 : ByteArray) (a1 : ByteArray) : Option (Int) := G84n fuel a0 a1
noncomputable def con84 : Con C := mkC KK [.str, .str] [.int .i64] G84
theorem c84 : ConOk Tryd.prog KK 84 con84 := cO (mkQ ⟨c85, trivial⟩ trivial trivial : Cons Tryd.prog X84) (fn := Tryd.f84) (by kernel_rfl) (by kernel_rfl) (by kernel_rfl) (by kernel_rfl) (F84 fuel) (by kernel_rfl) (fun a0 a1 => t84 fuel a0 a1)
/-! ### f74 strings.genSplit -/
noncomputable def X74 : Cx C := mkX [(84, con84), (85, con85)] [] [] [] 4849664
def F74 (n : Nat) : Cf := { N := n, keep := [0, 1, 2, 3, 8, 9, 10, 11, 13, 15, 20, 36, 41], live := lk [(0, [0, 1, 2, 3, 9, 10])] }
noncomputable abbrev dec74 := deR KK [.row .e9]
abbrev A74_0 : Type := ByteArray × List (C .e9) × Int
section
variable (x1 : ByteArray) (x2 : Int) (x3 : Int)
def s74_0 : A74_0 → St C := fun (x0, x4, x5) => { env := [(0, .one (.str x0)), (1, .one (.str x1)), (2, .one (.int .i64 x2)), (3, .one (.int .i64 x3)), (9, .one (.ref 100009 [])), (10, .one (.int .i64 x5))], objs := [(100009, .row .e9 x4 false)], base := 0 }
end
noncomputable def r74_0 (x1 : ByteArray) (x2 : Int) (x3 : Int) (n : Nat)   (rec0 : A74_0 → Option (List (C .e9))) : A74_0 → Option (List (C .e9)) := fun (x0, x4, x5) =>
 cond (decide (x5 < x3))
 (Option.bind (G85 x0 x1) fun r2 =>
 cond (decide (r2 < 0))
 (cond (decide (0 ≤ x5)) (cond (decide (x5 < (x4.length : Int))) (Option.bind x4[x5.toNat]? fun e3 => cond (decide ((0 : Int) ≤ IntKind.i64.wrap (x5 + 1))) (cond (decide (IntKind.i64.wrap (x5 + 1) ≤ ((x4.set x5.toNat x0).length : Int))) (some ((x4.set x5.toNat x0).take (IntKind.i64.wrap (x5 + 1)).toNat)) none) none) none) none)
 (cond (decide ((0 : Int) ≤ 0)) (cond (decide ((0 : Int) ≤ IntKind.i64.wrap (r2 + x2))) (cond (decide (IntKind.i64.wrap (r2 + x2) ≤ (x0.size : Int))) (cond (decide (0 ≤ x5)) (cond (decide (x5 < (x4.length : Int))) (Option.bind x4[x5.toNat]? fun e4 => cond (decide ((0 : Int) ≤ IntKind.i64.wrap (r2 + (x1.size : Int)))) (cond (decide ((IntKind.i64.wrap (r2 + (x1.size : Int)) : Int) ≤ (x0.size : Int))) (cond (decide ((x0.size : Int) ≤ (x0.size : Int))) (rec0 ((x0.extract (IntKind.i64.wrap (r2 + (x1.size : Int)) : Int).toNat (x0.size : Int).toNat, x4.set x5.toNat (x0.extract (0 : Int).toNat (IntKind.i64.wrap (r2 + x2)).toNat), IntKind.i64.wrap (x5 + 1)))) none) none) none) none) none) none) none) none))
 (cond (decide (0 ≤ x5)) (cond (decide (x5 < (x4.length : Int))) (Option.bind x4[x5.toNat]? fun e5 => cond (decide ((0 : Int) ≤ IntKind.i64.wrap (x5 + 1))) (cond (decide (IntKind.i64.wrap (x5 + 1) ≤ ((x4.set x5.toNat x0).length : Int))) (some ((x4.set x5.toNat x0).take (IntKind.i64.wrap (x5 + 1)).toNat)) none) none) none) none)
section
variable (x1 : ByteArray) (x2 : Int) (x3 : Int)
noncomputable def MP74_0 (n : Nat)  (x : A74_0) : Option (List (C .e9)) := iter (fun rec S => run X74 (F74 n) (codeAt (bodyOf Tryd.f74) [1, 1, 1, 1, 1, 1, 1, 1, 0, 0, 0]) 0 S (lopK rec (blkK 0 (seqK (run X74 (F74 n) (codeAt (bodyOf Tryd.f74) [1, 1, 1, 1, 1, 1, 1, 1, 1]) 0) (kTop X74 Tryd.f74 dec74))))) [0, 1, 2, 3, 9, 10] n (s74_0 x1 x2 x3 x)
theorem m74_0 (n : Nat)  (x : A74_0) : MP74_0 x1 x2 x3 n  x = lpN (r74_0 x1 x2 x3 n  ) n x := by
  refine iter_eq (s74_0 x1 x2 x3) (r74_0 x1 x2 x3 n  ) (fun rec0 x => ?_) n x
  obtain ⟨x0, x4, x5⟩ := x
  kernel_rfl
end
noncomputable def G74n (n : Nat) (a0 : ByteArray) (a1 : ByteArray) (a2 : Int) (a3 : Int) : Option (List (C .e9)) :=
 cond (a3 == 0)
 (some (([] : List (C .e9))))
 (cond (decide (a1 = (⟨#[]⟩ : ByteArray)))
 (none)
 (cond (decide (a3 < 0))
 (Option.bind (G84 a0 a1) fun r1 =>
 cond (decide ((cond (decide ((IntKind.i64.wrap ((a0.size : Int) + 1)) < (IntKind.i64.wrap (r1 + 1)))) (IntKind.i64.wrap ((a0.size : Int) + 1)) (IntKind.i64.wrap (r1 + 1))) = (cond (decide ((IntKind.i64.wrap ((a0.size : Int) + 1)) < (IntKind.i64.wrap (r1 + 1)))) (IntKind.i64.wrap ((a0.size : Int) + 1)) (IntKind.i64.wrap (r1 + 1))))) (cond (decide (0 ≤ cond (decide ((IntKind.i64.wrap ((a0.size : Int) + 1)) < (IntKind.i64.wrap (r1 + 1)))) (IntKind.i64.wrap ((a0.size : Int) + 1)) (IntKind.i64.wrap (r1 + 1)))) (cond (decide ((cond (decide ((IntKind.i64.wrap ((a0.size : Int) + 1)) < (IntKind.i64.wrap (r1 + 1)))) (IntKind.i64.wrap ((a0.size : Int) + 1)) (IntKind.i64.wrap (r1 + 1))) * 16 ≤ 140737488355328)) (lpN (r74_0 a1 a2 (IntKind.i64.wrap ((cond (decide ((IntKind.i64.wrap ((a0.size : Int) + 1)) < (IntKind.i64.wrap (r1 + 1)))) (IntKind.i64.wrap ((a0.size : Int) + 1)) (IntKind.i64.wrap (r1 + 1))) - 1)) n ) n ((a0, List.replicate (cond (decide ((IntKind.i64.wrap ((a0.size : Int) + 1)) < (IntKind.i64.wrap (r1 + 1)))) (IntKind.i64.wrap ((a0.size : Int) + 1)) (IntKind.i64.wrap (r1 + 1))).toNat (⟨#[]⟩ : C .e9), 0))) none) none) none)
 (cond (decide ((cond (decide ((IntKind.i64.wrap ((a0.size : Int) + 1)) < a3)) (IntKind.i64.wrap ((a0.size : Int) + 1)) a3) = (cond (decide ((IntKind.i64.wrap ((a0.size : Int) + 1)) < a3)) (IntKind.i64.wrap ((a0.size : Int) + 1)) a3))) (cond (decide (0 ≤ cond (decide ((IntKind.i64.wrap ((a0.size : Int) + 1)) < a3)) (IntKind.i64.wrap ((a0.size : Int) + 1)) a3)) (cond (decide ((cond (decide ((IntKind.i64.wrap ((a0.size : Int) + 1)) < a3)) (IntKind.i64.wrap ((a0.size : Int) + 1)) a3) * 16 ≤ 140737488355328)) (lpN (r74_0 a1 a2 (IntKind.i64.wrap ((cond (decide ((IntKind.i64.wrap ((a0.size : Int) + 1)) < a3)) (IntKind.i64.wrap ((a0.size : Int) + 1)) a3) - 1)) n ) n ((a0, List.replicate (cond (decide ((IntKind.i64.wrap ((a0.size : Int) + 1)) < a3)) (IntKind.i64.wrap ((a0.size : Int) + 1)) a3).toNat (⟨#[]⟩ : C .e9), 0))) none) none) none)))
theorem t74 (n : Nat) (a0 : ByteArray) (a1 : ByteArray) (a2 : Int) (a3 : Int) : runFn X74 (F74 n) Tryd.f74 [.one (.str a0), .one (.str a1), .one (.int .i64 a2), .one (.int .i64 a3)] dec74 = G74n n a0 a1 a2 a3 := by
  refine Eq.trans (b :=
   cond (a3 == 0)
   (some (([] : List (C .e9))))
   (cond (decide (a1 = (⟨#[]⟩ : ByteArray)))
   (none)
   (cond (decide (a3 < 0))
   (Option.bind (G84 a0 a1) fun r1 =>
   cond (decide ((cond (decide ((IntKind.i64.wrap ((a0.size : Int) + 1)) < (IntKind.i64.wrap (r1 + 1)))) (IntKind.i64.wrap ((a0.size : Int) + 1)) (IntKind.i64.wrap (r1 + 1))) = (cond (decide ((IntKind.i64.wrap ((a0.size : Int) + 1)) < (IntKind.i64.wrap (r1 + 1)))) (IntKind.i64.wrap ((a0.size : Int) + 1)) (IntKind.i64.wrap (r1 + 1))))) (cond (decide (0 ≤ cond (decide ((IntKind.i64.wrap ((a0.size : Int) + 1)) < (IntKind.i64.wrap (r1 + 1)))) (IntKind.i64.wrap ((a0.size : Int) + 1)) (IntKind.i64.wrap (r1 + 1)))) (cond (decide ((cond (decide ((IntKind.i64.wrap ((a0.size : Int) + 1)) < (IntKind.i64.wrap (r1 + 1)))) (IntKind.i64.wrap ((a0.size : Int) + 1)) (IntKind.i64.wrap (r1 + 1))) * 16 ≤ 140737488355328)) (MP74_0 a1 a2 (IntKind.i64.wrap ((cond (decide ((IntKind.i64.wrap ((a0.size : Int) + 1)) < (IntKind.i64.wrap (r1 + 1)))) (IntKind.i64.wrap ((a0.size : Int) + 1)) (IntKind.i64.wrap (r1 + 1))) - 1)) n   ((a0, List.replicate (cond (decide ((IntKind.i64.wrap ((a0.size : Int) + 1)) < (IntKind.i64.wrap (r1 + 1)))) (IntKind.i64.wrap ((a0.size : Int) + 1)) (IntKind.i64.wrap (r1 + 1))).toNat (⟨#[]⟩ : C .e9), 0))) none) none) none)
   (cond (decide ((cond (decide ((IntKind.i64.wrap ((a0.size : Int) + 1)) < a3)) (IntKind.i64.wrap ((a0.size : Int) + 1)) a3) = (cond (decide ((IntKind.i64.wrap ((a0.size : Int) + 1)) < a3)) (IntKind.i64.wrap ((a0.size : Int) + 1)) a3))) (cond (decide (0 ≤ cond (decide ((IntKind.i64.wrap ((a0.size : Int) + 1)) < a3)) (IntKind.i64.wrap ((a0.size : Int) + 1)) a3)) (cond (decide ((cond (decide ((IntKind.i64.wrap ((a0.size : Int) + 1)) < a3)) (IntKind.i64.wrap ((a0.size : Int) + 1)) a3) * 16 ≤ 140737488355328)) (MP74_0 a1 a2 (IntKind.i64.wrap ((cond (decide ((IntKind.i64.wrap ((a0.size : Int) + 1)) < a3)) (IntKind.i64.wrap ((a0.size : Int) + 1)) a3) - 1)) n   ((a0, List.replicate (cond (decide ((IntKind.i64.wrap ((a0.size : Int) + 1)) < a3)) (IntKind.i64.wrap ((a0.size : Int) + 1)) a3).toNat (⟨#[]⟩ : C .e9), 0))) none) none) none)))) (by kernel_rfl) ?_
  simp only [G74n, m74_0]
noncomputable def G74 (a0 : ByteArray) (a1 : ByteArray) (a2 : Int) (a3 : Int) : Option (List (C .e9)) := G74n fuel a0 a1 a2 a3
noncomputable def con74 : Con C := mkC KK [.str, .str, .int .i64, .int .i64] [.row .e9] G74
theorem c74 : ConOk Tryd.prog KK 74 con74 := cO (mkQ ⟨c84, c85, trivial⟩ trivial trivial : Cons Tryd.prog X74) (fn := Tryd.f74) (by kernel_rfl) (by kernel_rfl) (by kernel_rfl) (by kernel_rfl) (F74 fuel) (by kernel_rfl) (fun a0 a1 a2 a3 => t74 fuel a0 a1 a2 a3)
/-! ### f65 strings.Split -/
noncomputable def X65 : Cx C := mkX [(74, con74)] [] [] [] 4259840
def F65 (n : Nat) : Cf := { N := n, keep := [0, 1, 4], live := lk [] }
noncomputable abbrev dec65 := deR KK [.row .e9]
noncomputable def G65n (n : Nat) (a0 : ByteArray) (a1 : ByteArray) : Option (List (C .e9)) :=
 Option.bind (G74 a0 a1 0 (-1)) fun r1 =>
 some (r1)
theorem t65 (n : Nat) (a0 : ByteArray) (a1 : ByteArray) : runFn X65 (F65 n) Tryd.f65 [.one (.str a0), .one (.str a1)] dec65 = G65n n a0 a1 := by
  kernel_rfl
noncomputable def G65 (a0 : ByteArray) (a1 : ByteArray) : Option (List (C .e9)) := G65n fuel a0 a1
noncomputable def con65 : Con C := mkC KK [.str, .str] [.row .e9] G65
theorem c65 : ConOk Tryd.prog KK 65 con65 := cO (mkQ ⟨c74, trivial⟩ trivial trivial : Cons Tryd.prog X65) (fn := Tryd.f65) (by kernel_rfl) (by kernel_rfl) (by kernel_rfl) (by kernel_rfl) (F65 fuel) (by kernel_rfl) (fun a0 a1 => t65 fuel a0 a1)
/-! ### f43 loop.example/wharfdesk/impl.rule, run in place -/
noncomputable def X43 : Cx C := mkX [(65, con65)] [] [] [] 2818048
def F43 (n : Nat) : Cf := { N := n, keep := [0, 1, 2, 6], live := lk [] }
noncomputable def I43 (n : Nat) : Inl C := inlOf X43 (F43 n) Tryd.f43
theorem i43 (n : Nat) : InlOk Tryd.prog KK 43 (I43 n) := iO (mkQ ⟨c65, trivial⟩ trivial trivial : Cons Tryd.prog X43) (F43 n) (fn := Tryd.f43) (by kernel_rfl) (by kernel_rfl) (by kernel_rfl) (by kernel_rfl)
/-! ### f22 loop.example/wharfdesk/impl.SheetRules -/
noncomputable def X22 (n : Nat) : Cx C := mkX [] [] [(43, I43 n)] [2, 7, 8, 9, 10, 14, 15, 16, 17, 18, 19, 20, 21, 25, 26, 27, 28, 29, 30, 31, 32, 33, 34, 35, 36, 37, 38, 39, 40, 41, 42, 43, 44, 45, 46, 47, 48] 1441792
def F22 (n : Nat) : Cf := { N := n, keep := [0, 2, 3, 4, 11, 22], live := lk [] }
noncomputable abbrev dec22 := deR KK [.row .e54]
noncomputable def G22n (n : Nat) (a0 : ByteArray) : Option (List (C .e54)) :=
 cond (decide (a0 = (⟨#[116, 101, 97, 109]⟩ : ByteArray)))
 (Option.bind (G65 (⟨#[49, 48, 48]⟩ : ByteArray) (⟨#[32]⟩ : ByteArray)) fun r1 =>
 Option.bind (G65 (⟨#[49, 48, 48, 48]⟩ : ByteArray) (⟨#[32]⟩ : ByteArray)) fun r2 =>
 some (([(⟨(⟨#[99, 111, 112, 105, 101, 115]⟩ : ByteArray), ([1] : List (C .e3)), false, r1⟩ : VSheetRule), (⟨(⟨#[114, 111, 111, 109]⟩ : ByteArray), ([1] : List (C .e3)), false, r2⟩ : VSheetRule)] : List (C .e54))))
 (cond (decide (a0 = (⟨#[98, 101, 114, 116, 104]⟩ : ByteArray)))
 (Option.bind (G65 (⟨#[122]⟩ : ByteArray) (⟨#[32]⟩ : ByteArray)) fun r3 =>
 Option.bind (G65 (⟨#[49, 48, 48]⟩ : ByteArray) (⟨#[32]⟩ : ByteArray)) fun r4 =>
 Option.bind (G65 (⟨#[49, 48, 48]⟩ : ByteArray) (⟨#[32]⟩ : ByteArray)) fun r5 =>
 some (([(⟨(⟨#[122, 111, 110, 101]⟩ : ByteArray), ([3] : List (C .e3)), false, r3⟩ : VSheetRule), (⟨(⟨#[114, 111, 111, 109]⟩ : ByteArray), ([1] : List (C .e3)), false, r4⟩ : VSheetRule), (⟨(⟨#[104, 111, 108, 100]⟩ : ByteArray), ([1] : List (C .e3)), false, r5⟩ : VSheetRule), (⟨(⟨#[109, 97, 114, 107]⟩ : ByteArray), ([3] : List (C .e3)), true, ([] : List (C .e9))⟩ : VSheetRule)] : List (C .e54))))
 (cond (decide (a0 = (⟨#[115, 101, 114, 118, 105, 99, 101]⟩ : ByteArray)))
 (Option.bind (G65 (⟨#[99, 111, 114, 101]⟩ : ByteArray) (⟨#[32]⟩ : ByteArray)) fun r6 =>
 Option.bind (G65 (⟨#[49]⟩ : ByteArray) (⟨#[32]⟩ : ByteArray)) fun r7 =>
 Option.bind (G65 (⟨#[49]⟩ : ByteArray) (⟨#[32]⟩ : ByteArray)) fun r8 =>
 Option.bind (G65 (⟨#[49]⟩ : ByteArray) (⟨#[32]⟩ : ByteArray)) fun r9 =>
 Option.bind (G65 (⟨#[48]⟩ : ByteArray) (⟨#[32]⟩ : ByteArray)) fun r10 =>
 Option.bind (G65 (⟨#[49, 32, 49]⟩ : ByteArray) (⟨#[32]⟩ : ByteArray)) fun r11 =>
 Option.bind (G65 (⟨#[]⟩ : ByteArray) (⟨#[32]⟩ : ByteArray)) fun r12 =>
 Option.bind (G65 (⟨#[110, 111, 110, 101]⟩ : ByteArray) (⟨#[32]⟩ : ByteArray)) fun r13 =>
 Option.bind (G65 (⟨#[110, 111]⟩ : ByteArray) (⟨#[32]⟩ : ByteArray)) fun r14 =>
 Option.bind (G65 (⟨#[48, 32, 48, 32, 48]⟩ : ByteArray) (⟨#[32]⟩ : ByteArray)) fun r15 =>
 Option.bind (G65 (⟨#[48, 32, 48, 32, 48]⟩ : ByteArray) (⟨#[32]⟩ : ByteArray)) fun r16 =>
 some (([(⟨(⟨#[116, 101, 97, 109]⟩ : ByteArray), ([3] : List (C .e3)), false, r6⟩ : VSheetRule), (⟨(⟨#[105, 109, 97, 103, 101]⟩ : ByteArray), ([1] : List (C .e3)), false, r7⟩ : VSheetRule), (⟨(⟨#[119, 97, 110, 116]⟩ : ByteArray), ([1] : List (C .e3)), false, r8⟩ : VSheetRule), (⟨(⟨#[100, 111, 119, 110]⟩ : ByteArray), ([1] : List (C .e3)), false, r9⟩ : VSheetRule), (⟨(⟨#[111, 118, 101, 114]⟩ : ByteArray), ([1] : List (C .e3)), false, r10⟩ : VSheetRule), (⟨(⟨#[110, 101, 101, 100, 115]⟩ : ByteArray), ([1, 1] : List (C .e3)), false, r11⟩ : VSheetRule), (⟨(⟨#[119, 104, 101, 114, 101]⟩ : ByteArray), ([4] : List (C .e3)), false, r12⟩ : VSheetRule), (⟨(⟨#[108, 105, 107, 101]⟩ : ByteArray), ([4, 2] : List (C .e3)), true, ([] : List (C .e9))⟩ : VSheetRule), (⟨(⟨#[97, 112, 97, 114, 116]⟩ : ByteArray), ([6] : List (C .e3)), false, r13⟩ : VSheetRule), (⟨(⟨#[118, 111, 108, 117, 109, 101]⟩ : ByteArray), ([5] : List (C .e3)), false, r14⟩ : VSheetRule), (⟨(⟨#[102, 111, 108, 108, 111, 119]⟩ : ByteArray), ([1, 1, 1] : List (C .e3)), false, r15⟩ : VSheetRule), (⟨(⟨#[112, 97, 99, 101]⟩ : ByteArray), ([1, 1, 1] : List (C .e3)), false, r16⟩ : VSheetRule)] : List (C .e54))))
 (some (([] : List (C .e54))))))
theorem t22 (n : Nat) (a0 : ByteArray) : runFn (X22 n) (F22 n) Tryd.f22 [.one (.str a0)] dec22 = G22n n a0 := by
  kernel_rfl
noncomputable def G22 (a0 : ByteArray) : Option (List (C .e54)) := G22n fuel a0
noncomputable def con22 : Con C := mkC KK [.str] [.row .e54] G22
theorem c22 : ConOk Tryd.prog KK 22 con22 := cO (mkQ trivial trivial ⟨i43 _, trivial⟩ : Cons Tryd.prog (X22 fuel)) (fn := Tryd.f22) (by kernel_rfl) (by kernel_rfl) (by kernel_rfl) (by kernel_rfl) (F22 fuel) (by kernel_rfl) (fun a0 => t22 fuel a0)
theorem t22z (n : Nat) (a0 : ByteArray) : runFnZ (X22 n) (F22 n) Tryd.f22 [.one (.str a0)] dec22 = G22n n a0 := by
  kernel_rfl
theorem c22z : ConOk Tryd.prog KK 22 (nzC con22) := zO (mkQ trivial trivial ⟨i43 _, trivial⟩ : Cons Tryd.prog (X22 fuel)) (fn := Tryd.f22) (by kernel_rfl) (by kernel_rfl) (by kernel_rfl) (by kernel_rfl) (F22 fuel) (by kernel_rfl) (fun a0 => t22z fuel a0)
/-! ### f60 loop.example/wharfdesk/impl.isName_sheet -/
noncomputable def X60 : Cx C := mkX [] [] [] [] 3932160
def F60 (n : Nat) : Cf := { N := n, keep := [0, 2, 3, 4, 6, 7, 8, 31], live := lk [(0, [0, 6, 7])] }
noncomputable abbrev dec60 := deR KK [.bool]
abbrev A60_0 : Type := Int
section
variable (x0 : ByteArray) (x1 : Int)
def s60_0 : A60_0 → St C := fun x2 => { env := [(0, .one (.str x0)), (6, .one (.int .i64 x1)), (7, .one (.int .i64 x2))], objs := [], base := 0 }
end
noncomputable def r60_0 (x0 : ByteArray) (x1 : Int) (n : Nat)   (rec0 : A60_0 → Option (Bool)) : A60_0 → Option (Bool) := fun x2 =>
 cond (decide (x2 < x1))
 (cond (decide (0 ≤ x2)) (cond (decide (x2 < (x0.size : Int))) (cond (decide ((sbt x0 x2) ≥ 97))
 (cond (decide ((sbt x0 x2) ≤ 122))
 (rec0 (IntKind.i64.wrap (x2 + 1)))
 (cond (decide ((sbt x0 x2) ≥ 48))
 (cond (decide ((sbt x0 x2) ≤ 57))
 (rec0 (IntKind.i64.wrap (x2 + 1)))
 (cond (!((sbt x0 x2) == 45))
 (some (false))
 (rec0 (IntKind.i64.wrap (x2 + 1)))))
 (cond (!((sbt x0 x2) == 45))
 (some (false))
 (rec0 (IntKind.i64.wrap (x2 + 1))))))
 (cond (decide ((sbt x0 x2) ≥ 48))
 (cond (decide ((sbt x0 x2) ≤ 57))
 (rec0 (IntKind.i64.wrap (x2 + 1)))
 (cond (!((sbt x0 x2) == 45))
 (some (false))
 (rec0 (IntKind.i64.wrap (x2 + 1)))))
 (cond (!((sbt x0 x2) == 45))
 (some (false))
 (rec0 (IntKind.i64.wrap (x2 + 1)))))) none) none)
 (cond (!decide (x0 = (⟨#[]⟩ : ByteArray)))
 (some (decide ((x0.size : Int) ≤ 20)))
 (some (false)))
section
variable (x0 : ByteArray) (x1 : Int)
noncomputable def MP60_0 (n : Nat)  (x : A60_0) : Option (Bool) := iter (fun rec S => run X60 (F60 n) (codeAt (bodyOf Tryd.f60) [1, 0, 1, 0, 0]) 0 S (lopK rec (blkK 0 (seqK (run X60 (F60 n) (codeAt (bodyOf Tryd.f60) [1, 1]) 0) (kTop X60 Tryd.f60 dec60))))) [0, 6, 7] n (s60_0 x0 x1 x)
theorem m60_0 (n : Nat)  (x : A60_0) : MP60_0 x0 x1 n  x = lpN (r60_0 x0 x1 n  ) n x := by
  refine iter_eq (s60_0 x0 x1) (r60_0 x0 x1 n  ) (fun rec0 x2 => ?_) n x
  kernel_rfl
end
noncomputable def G60n (n : Nat) (a0 : ByteArray) : Option (Bool) :=
 lpN (r60_0 a0 (a0.size : Int) n ) n 0
theorem t60 (n : Nat) (a0 : ByteArray) : runFn X60 (F60 n) Tryd.f60 [.one (.str a0)] dec60 = G60n n a0 := by
  refine Eq.trans (b :=
   MP60_0 a0 (a0.size : Int) n   0) (by kernel_rfl) ?_
  simp only [G60n, m60_0]
noncomputable def G60 (a0 : ByteArray) : Option (Bool) := G60n fuel a0
noncomputable def con60 : Con C := mkC KK [.str] [.bool] G60
theorem c60 : ConOk Tryd.prog KK 60 con60 := cO (mkQ trivial trivial trivial : Cons Tryd.prog X60) (fn := Tryd.f60) (by kernel_rfl) (by kernel_rfl) (by kernel_rfl) (by kernel_rfl) (F60 fuel) (by kernel_rfl) (fun a0 => t60 fuel a0)
/-! ### f63 loop.example/wharfdesk/impl.find, run in place -/
noncomputable def X63 : Cx C := mkX [(22, (frzC con22))] [] [] [] 4128768
def F63 (n : Nat) : Cf := { N := n, keep := [0, 1, 4, 5, 6, 7, 9, 10, 11, 12, 19], live := lk [(0, [1, 4, 9, 10, 11])] }
noncomputable def I63 (n : Nat) : Inl C := inlOf X63 (F63 n) Tryd.f63
theorem i63 (n : Nat) : InlOk Tryd.prog KK 63 (I63 n) := iO (mkQ ⟨c22, trivial⟩ trivial trivial : Cons Tryd.prog X63) (F63 n) (fn := Tryd.f63) (by kernel_rfl) (by kernel_rfl) (by kernel_rfl) (by kernel_rfl)
/-! ### f79 loop.example/wharfdesk/impl.isNumber -/
noncomputable def X79 : Cx C := mkX [] [] [] [] 5177344
def F79 (n : Nat) : Cf := { N := n, keep := [0, 2, 3, 4, 21, 23, 24, 25, 36], live := lk [(0, [0, 3, 23, 24])] }
noncomputable abbrev dec79 := deR KK [.bool]
abbrev A79_0 : Type := Int × Int
section
variable (x0 : ByteArray) (x2 : Int)
def s79_0 : A79_0 → St C := fun (x1, x3) => { env := [(0, .one (.str x0)), (3, .one (.int .i64 x1)), (23, .one (.int .i64 x2)), (24, .one (.int .i64 x3))], objs := [], base := 0 }
end
noncomputable def r79_0 (x0 : ByteArray) (x2 : Int) (n : Nat)   (rec0 : A79_0 → Option (Bool)) : A79_0 → Option (Bool) := fun (x1, x3) =>
 cond (decide (x3 < x2))
 (cond (decide (0 ≤ x3)) (cond (decide (x3 < (x0.size : Int))) (cond (decide ((sbt x0 x3) < 48))
 (some (false))
 (cond (decide (0 ≤ x3)) (cond (decide (x3 < (x0.size : Int))) (cond (decide ((sbt x0 x3) > 57))
 (some (false))
 (cond (decide (0 ≤ x3)) (cond (decide (x3 < (x0.size : Int))) (rec0 ((IntKind.i64.wrap ((IntKind.i64.wrap (10 * x1)) + (IntKind.i64.wrap (IntKind.u8.wrap ((sbt x0 x3) - 48)))), IntKind.i64.wrap (x3 + 1)))) none) none)) none) none)) none) none)
 (some (decide (x1 ≤ 1000000)))
section
variable (x0 : ByteArray) (x2 : Int)
noncomputable def MP79_0 (n : Nat)  (x : A79_0) : Option (Bool) := iter (fun rec S => run X79 (F79 n) (codeAt (bodyOf Tryd.f79) [1, 1, 1, 0, 1, 0, 0]) 0 S (lopK rec (blkK 0 (seqK (run X79 (F79 n) (codeAt (bodyOf Tryd.f79) [1, 1, 1, 1]) 0) (kTop X79 Tryd.f79 dec79))))) [0, 3, 23, 24] n (s79_0 x0 x2 x)
theorem m79_0 (n : Nat)  (x : A79_0) : MP79_0 x0 x2 n  x = lpN (r79_0 x0 x2 n  ) n x := by
  refine iter_eq (s79_0 x0 x2) (r79_0 x0 x2 n  ) (fun rec0 x => ?_) n x
  obtain ⟨x1, x3⟩ := x
  kernel_rfl
end
noncomputable def G79n (n : Nat) (a0 : ByteArray) : Option (Bool) :=
 cond (decide (a0 = (⟨#[]⟩ : ByteArray)))
 (some (false))
 (cond (decide ((a0.size : Int) > 7))
 (some (false))
 (cond (decide ((a0.size : Int) > 1))
 (cond (decide (0 ≤ 0)) (cond (decide (0 < (a0.size : Int))) (cond ((sbt a0 0) == 48)
 (some (false))
 (lpN (r79_0 a0 (a0.size : Int) n ) n (0, 0))) none) none)
 (lpN (r79_0 a0 (a0.size : Int) n ) n (0, 0))))
theorem t79 (n : Nat) (a0 : ByteArray) : runFn X79 (F79 n) Tryd.f79 [.one (.str a0)] dec79 = G79n n a0 := by
  refine Eq.trans (b :=
   cond (decide (a0 = (⟨#[]⟩ : ByteArray)))
   (some (false))
   (cond (decide ((a0.size : Int) > 7))
   (some (false))
   (cond (decide ((a0.size : Int) > 1))
   (cond (decide (0 ≤ 0)) (cond (decide (0 < (a0.size : Int))) (cond ((sbt a0 0) == 48)
   (some (false))
   (MP79_0 a0 (a0.size : Int) n   (0, 0))) none) none)
   (MP79_0 a0 (a0.size : Int) n   (0, 0))))) (by kernel_rfl) ?_
  simp only [G79n, m79_0]
noncomputable def G79 (a0 : ByteArray) : Option (Bool) := G79n fuel a0
noncomputable def con79 : Con C := mkC KK [.str] [.bool] G79
theorem c79 : ConOk Tryd.prog KK 79 con79 := cO (mkQ trivial trivial trivial : Cons Tryd.prog X79) (fn := Tryd.f79) (by kernel_rfl) (by kernel_rfl) (by kernel_rfl) (by kernel_rfl) (F79 fuel) (by kernel_rfl) (fun a0 => t79 fuel a0)
/-! ### f93 internal/stringslite.HasPrefix -/
noncomputable def X93 : Cx C := mkX [] [] [] [] 6094848
def F93 (n : Nat) : Cf := { N := n, keep := [0, 1, 4], live := lk [] }
noncomputable abbrev dec93 := deR KK [.bool]
noncomputable def G93n (n : Nat) (a0 : ByteArray) (a1 : ByteArray) : Option (Bool) :=
 cond (decide ((a0.size : Int) ≥ (a1.size : Int)))
 (cond (decide ((0 : Int) ≤ 0)) (cond (decide ((0 : Int) ≤ (a1.size : Int))) (cond (decide ((a1.size : Int) ≤ (a0.size : Int))) (some (decide ((a0.extract (0 : Int).toNat (a1.size : Int).toNat) = a1))) none) none) none)
 (some (false))
theorem t93 (n : Nat) (a0 : ByteArray) (a1 : ByteArray) : runFn X93 (F93 n) Tryd.f93 [.one (.str a0), .one (.str a1)] dec93 = G93n n a0 a1 := by
  kernel_rfl
noncomputable def G93 (a0 : ByteArray) (a1 : ByteArray) : Option (Bool) := G93n fuel a0 a1
noncomputable def con93 : Con C := mkC KK [.str, .str] [.bool] G93
theorem c93 : ConOk Tryd.prog KK 93 con93 := cO (mkQ trivial trivial trivial : Cons Tryd.prog X93) (fn := Tryd.f93) (by kernel_rfl) (by kernel_rfl) (by kernel_rfl) (by kernel_rfl) (F93 fuel) (by kernel_rfl) (fun a0 a1 => t93 fuel a0 a1)
/-! ### f87 internal/stringslite.CutPrefix -/
noncomputable def X87 : Cx C := mkX [(93, con93)] [] [] [] 5701632
def F87 (n : Nat) : Cf := { N := n, keep := [0, 1, 4, 5, 9], live := lk [] }
noncomputable abbrev dec87 := deR KK [.str, .bool]
noncomputable def G87n (n : Nat) (a0 : ByteArray) (a1 : ByteArray) : Option (ByteArray × Bool) :=
 Option.bind (G93 a0 a1) fun r1 =>
 cond (!r1)
 (some (a0, false))
 (cond (decide ((0 : Int) ≤ (a1.size : Int))) (cond (decide (((a1.size : Int) : Int) ≤ (a0.size : Int))) (cond (decide ((a0.size : Int) ≤ (a0.size : Int))) (some (a0.extract ((a1.size : Int) : Int).toNat (a0.size : Int).toNat, true)) none) none) none)
theorem t87 (n : Nat) (a0 : ByteArray) (a1 : ByteArray) : runFn X87 (F87 n) Tryd.f87 [.one (.str a0), .one (.str a1)] dec87 = G87n n a0 a1 := by
  kernel_rfl
noncomputable def G87 (a0 : ByteArray) (a1 : ByteArray) : Option (ByteArray × Bool) := G87n fuel a0 a1
noncomputable def con87 : Con C := mkC KK [.str, .str] [.str, .bool] G87
theorem c87 : ConOk Tryd.prog KK 87 con87 := cO (mkQ ⟨c93, trivial⟩ trivial trivial : Cons Tryd.prog X87) (fn := Tryd.f87) (by kernel_rfl) (by kernel_rfl) (by kernel_rfl) (by kernel_rfl) (F87 fuel) (by kernel_rfl) (fun a0 a1 => t87 fuel a0 a1)
/-! ### f80 strings.CutPrefix -/
noncomputable def X80 : Cx C := mkX [(87, con87)] [] [] [] 5242880
def F80 (n : Nat) : Cf := { N := n, keep := [0, 1, 4, 5], live := lk [] }
noncomputable abbrev dec80 := deR KK [.str, .bool]
noncomputable def G80n (n : Nat) (a0 : ByteArray) (a1 : ByteArray) : Option (ByteArray × Bool) :=
 Option.bind (G87 a0 a1) fun r1 =>
 some (r1.1, r1.2)
theorem t80 (n : Nat) (a0 : ByteArray) (a1 : ByteArray) : runFn X80 (F80 n) Tryd.f80 [.one (.str a0), .one (.str a1)] dec80 = G80n n a0 a1 := by
  kernel_rfl
noncomputable def G80 (a0 : ByteArray) (a1 : ByteArray) : Option (ByteArray × Bool) := G80n fuel a0 a1
noncomputable def con80 : Con C := mkC KK [.str, .str] [.str, .bool] G80
theorem c80 : ConOk Tryd.prog KK 80 con80 := cO (mkQ ⟨c87, trivial⟩ trivial trivial : Cons Tryd.prog X80) (fn := Tryd.f80) (by kernel_rfl) (by kernel_rfl) (by kernel_rfl) (by kernel_rfl) (F80 fuel) (by kernel_rfl) (fun a0 a1 => t80 fuel a0 a1)
/-! ### f71 loop.example/wharfdesk/impl.isType -/
noncomputable def X71 : Cx C := mkX [(60, con60), (79, con79), (80, con80)] [] [] [] 4653056
def F71 (n : Nat) : Cf := { N := n, keep := [0, 1, 4, 5, 6, 7, 8, 12, 29, 33, 38], live := lk [] }
noncomputable abbrev dec71 := deR KK [.bool]
noncomputable def G71n (n : Nat) (a0 : Int) (a1 : ByteArray) : Option (Bool) :=
 cond (a0 == 1)
 (Option.bind (G79 a1) fun r1 =>
 some (r1))
 (cond (a0 == 2)
 (Option.bind (G80 a1 (⟨#[45]⟩ : ByteArray)) fun r2 =>
 Option.bind (G79 r2.1) fun r3 =>
 cond r3
 (cond r2.2
 (some (!(decide (r2.1 = (⟨#[48]⟩ : ByteArray)))))
 (some (true)))
 (some (false)))
 (cond (a0 == 3)
 (Option.bind (G60 a1) fun r4 =>
 some (r4))
 (cond (a0 == 4)
 (some (decide ((a1.size : Int) ≤ 200)))
 (cond (a0 == 5)
 (cond (decide (a1 = (⟨#[121, 101, 115]⟩ : ByteArray)))
 (some (true))
 (some (decide (a1 = (⟨#[110, 111]⟩ : ByteArray)))))
 (cond (decide (a1 = (⟨#[110, 111, 110, 101]⟩ : ByteArray)))
 (some (true))
 (cond (decide (a1 = (⟨#[98, 101, 114, 116, 104]⟩ : ByteArray)))
 (some (true))
 (some (decide (a1 = (⟨#[122, 111, 110, 101]⟩ : ByteArray))))))))))
theorem t71 (n : Nat) (a0 : Int) (a1 : ByteArray) : runFn X71 (F71 n) Tryd.f71 [.one (.int .i64 a0), .one (.str a1)] dec71 = G71n n a0 a1 := by
  kernel_rfl
noncomputable def G71 (a0 : Int) (a1 : ByteArray) : Option (Bool) := G71n fuel a0 a1
noncomputable def con71 : Con C := mkC KK [.int .i64, .str] [.bool] G71
theorem c71 : ConOk Tryd.prog KK 71 con71 := cO (mkQ ⟨c60, c79, c80, trivial⟩ trivial trivial : Cons Tryd.prog X71) (fn := Tryd.f71) (by kernel_rfl) (by kernel_rfl) (by kernel_rfl) (by kernel_rfl) (F71 fuel) (by kernel_rfl) (fun a0 a1 => t71 fuel a0 a1)
/-! ### f61 loop.example/wharfdesk/impl.SheetFits -/
noncomputable def X61 (n : Nat) : Cx C := mkX [(71, con71)] [] [(63, I63 n)] [2, 7, 8, 11, 14, 15, 16] 3997696
def F61 (n : Nat) : Cf := { N := n, keep := [0, 1, 2, 6, 7, 8, 9, 10, 26, 28, 29, 30, 31, 41], live := lk [(0, [2, 28, 29, 30])] }
noncomputable abbrev dec61 := deR KK [.bool]
abbrev A61_1 : Type := Int
abbrev A61_2 : Type := Int
abbrev A61_0 : Type := Int
section
variable (x0 : List (C .e9)) (x1 : List (C .e3)) (x2 : Int)
def s61_1 : A61_1 → St C := fun x3 => { env := [(2, .one (.row .e9 x0)), (28, .one (.row .e3 x1)), (29, .one (.int .i64 x2)), (30, .one (.int .i64 x3))], objs := [], base := 0 }
end
noncomputable def r61_1 (x0 : List (C .e9)) (x1 : List (C .e3)) (x2 : Int) (n : Nat)   (rec1 : A61_1 → Option (Bool)) : A61_1 → Option (Bool) := fun x3 =>
 cond (decide (x3 < x2))
 (cond (decide (0 ≤ x3)) (Option.bind x1[x3.toNat]? fun e3 => cond (decide (0 ≤ x3)) (Option.bind x0[x3.toNat]? fun e4 => Option.bind (G71 e3 e4) fun r5 =>
 cond (!r5)
 (some (false))
 (rec1 (IntKind.i64.wrap (x3 + 1)))) none) none)
 (some (true))
section
variable (x0 : List (C .e9)) (x1 : List (C .e3)) (x2 : Int)
def s61_2 : A61_2 → St C := fun x3 => { env := [(2, .one (.row .e9 x0)), (28, .one (.ref 100028 [])), (29, .one (.int .i64 x2)), (30, .one (.int .i64 x3))], objs := [(100028, .row .e3 x1 false)], base := 0 }
end
noncomputable def r61_2 (x0 : List (C .e9)) (x1 : List (C .e3)) (x2 : Int) (n : Nat)   (rec2 : A61_2 → Option (Bool)) : A61_2 → Option (Bool) := fun x3 =>
 cond (decide (x3 < x2))
 (cond (decide (0 ≤ x3)) (cond (decide (x3 < (x1.length : Int))) (Option.bind x1[x3.toNat]? fun e6 => cond (decide (0 ≤ x3)) (Option.bind x0[x3.toNat]? fun e7 => Option.bind (G71 e6 e7) fun r8 =>
 cond (!r8)
 (some (false))
 (rec2 (IntKind.i64.wrap (x3 + 1)))) none) none) none)
 (some (true))
section
variable (x0 : ByteArray) (x1 : List (C .e54)) (x2 : Int) (x4 : List (C .e9)) (x5 : ByteArray) (x6 : List (C .e3)) (x7 : Bool) (x8 : List (C .e9))
def s61_0 : A61_0 → St C := fun x3 => { env := [(1, .one (.str x0)), (4, .one (.ptr 64424513569024 0)), (9, .one (.row .e54 x1)), (10, .one (.int .i64 x2)), (11, .one (.int .i64 x3)), (1002, .sus (false, [.row .e9 x4]) 15002)], objs := [(64424513569024, .box .mem [.str x5, .ref 6442451357902401 [], .bool x7, .ref 6442451357902403 []]), (6442451357902401, .row .e3 x6 false), (6442451357902403, .row .e9 x8 false)], base := 15000 }
end
noncomputable def r61_0 (x0 : ByteArray) (x1 : List (C .e54)) (x2 : Int) (x4 : List (C .e9)) (n : Nat)   (rec0 : A61_0 → Option (Bool)) : A61_0 → Option (Bool) := fun x3 =>
 cond (decide (x3 < x2))
 (cond (decide (0 ≤ x3)) (Option.bind x1[x3.toNat]? fun e2 => cond (decide (e2.Key = x0))
 (cond (decide (x3 < 0))
 (some (false))
 (cond ((x4.length : Int) != (e2.Args.length : Int))
 (some (false))
 (lpN (r61_1 x4 e2.Args (e2.Args.length : Int) n ) n 0)))
 (rec0 (IntKind.i64.wrap (x3 + 1)))) none)
 (cond (decide ((-1) < 0))
 (some (false))
 (cond ((x4.length : Int) != (((([] : List (C .e3))).length : Int)))
 (some (false))
 (lpN (r61_2 x4 (([] : List (C .e3))) (((([] : List (C .e3))).length : Int)) n ) n 0)))
section
variable (x0 : List (C .e9)) (x1 : List (C .e3)) (x2 : Int)
noncomputable def MP61_1 (n : Nat)  (x : A61_1) : Option (Bool) := iter (fun rec S => run (X61 n) (F61 n) (codeAt (bodyOf Tryd.f61) [1, 1, 1, 0, 1, 0, 0]) 0 S (lopK rec (blkK 0 (seqK (run (X61 n) (F61 n) (codeAt (bodyOf Tryd.f61) [1, 1, 1, 1]) 0) (kTop (X61 n) Tryd.f61 dec61))))) [2, 28, 29, 30] n (s61_1 x0 x1 x2 x)
theorem m61_1 (n : Nat)  (x : A61_1) : MP61_1 x0 x1 x2 n  x = lpN (r61_1 x0 x1 x2 n  ) n x := by
  refine iter_eq (s61_1 x0 x1 x2) (r61_1 x0 x1 x2 n  ) (fun rec1 x3 => ?_) n x
  kernel_rfl
end
section
variable (x0 : List (C .e9)) (x1 : List (C .e3)) (x2 : Int)
noncomputable def MP61_2 (n : Nat)  (x : A61_2) : Option (Bool) := iter (fun rec S => run (X61 n) (F61 n) (codeAt (bodyOf Tryd.f61) [1, 1, 1, 0, 1, 0, 0]) 0 S (lopK rec (blkK 0 (seqK (run (X61 n) (F61 n) (codeAt (bodyOf Tryd.f61) [1, 1, 1, 1]) 0) (kTop (X61 n) Tryd.f61 dec61))))) [2, 28, 29, 30] n (s61_2 x0 x1 x2 x)
theorem m61_2 (n : Nat)  (x : A61_2) : MP61_2 x0 x1 x2 n  x = lpN (r61_2 x0 x1 x2 n  ) n x := by
  refine iter_eq (s61_2 x0 x1 x2) (r61_2 x0 x1 x2 n  ) (fun rec2 x3 => ?_) n x
  kernel_rfl
end
section
variable (x0 : ByteArray) (x1 : List (C .e54)) (x2 : Int) (x4 : List (C .e9)) (x5 : ByteArray) (x6 : List (C .e3)) (x7 : Bool) (x8 : List (C .e9))
noncomputable def MP61_0 (n : Nat)  (x : A61_0) : Option (Bool) := iter (fun rec S => run X63 (F63 n) (codeAt (bodyOf Tryd.f63) [1, 0, 1, 0, 0]) 0 S (lopK rec (blkK 0 (seqK (run X63 (F63 n) (codeAt (bodyOf Tryd.f63) [1, 1]) 0) (inlK X63 Tryd.f63 (callK 14000 0 (some 14) (restK (X61 n) (codeAt (bodyOf Tryd.f61) [1, 0]) 3 (regK (F61 n) (seqK (run (X61 n) (F61 n) (codeAt (bodyOf Tryd.f61) [1, 1]) 0) (kTop (X61 n) Tryd.f61 dec61)))))))))) [1, 4, 9, 10, 11] n (s61_0 x0 x1 x2 x4 x5 x6 x7 x8 x)
theorem m61_0 (n : Nat)  (x : A61_0) : MP61_0 x0 x1 x2 x4 x5 x6 x7 x8 n  x = lpN (r61_0 x0 x1 x2 x4 n  ) n x := by
  refine iter_eq (s61_0 x0 x1 x2 x4 x5 x6 x7 x8) (r61_0 x0 x1 x2 x4 n  ) (fun rec0 x3 => ?_) n x
  have h : run X63 (F63 n) (codeAt (bodyOf Tryd.f63) [1, 0, 1, 0, 0]) 0 (s61_0 x0 x1 x2 x4 x5 x6 x7 x8 x3) (lopK (canThen [1, 4, 9, 10, 11] rec0) (blkK 0 (seqK (run X63 (F63 n) (codeAt (bodyOf Tryd.f63) [1, 1]) 0) (inlK X63 Tryd.f63 (callK 14000 0 (some 14) (restK (X61 n) (codeAt (bodyOf Tryd.f61) [1, 0]) 3 (regK (F61 n) (seqK (run (X61 n) (F61 n) (codeAt (bodyOf Tryd.f61) [1, 1]) 0) (kTop (X61 n) Tryd.f61 dec61))))))))) =
   cond (decide (x3 < x2))
   (cond (decide (0 ≤ x3)) (Option.bind x1[x3.toNat]? fun e2 => cond (decide (e2.Key = x0))
   (cond (decide (x3 < 0))
   (some (false))
   (cond ((x4.length : Int) != (e2.Args.length : Int))
   (some (false))
   (MP61_1 x4 e2.Args (e2.Args.length : Int) n   0)))
   ((fun x => rec0 (s61_0 x0 x1 x2 x4 x5 x6 x7 x8 x)) (IntKind.i64.wrap (x3 + 1)))) none)
   (cond (decide ((-1) < 0))
   (some (false))
   (cond ((x4.length : Int) != (((([] : List (C .e3))).length : Int)))
   (some (false))
   (MP61_2 x4 (([] : List (C .e3))) (((([] : List (C .e3))).length : Int)) n   0))) := by kernel_rfl
  simp only [m61_1, m61_2] at h
  exact h
end
noncomputable def G61n (n : Nat) (a0 : ByteArray) (a1 : ByteArray) (a2 : List (C .e9)) : Option (Bool) :=
 Option.bind (G22 a0) fun r1 =>
 lpN (r61_0 a1 r1 (r1.length : Int) a2 n ) n 0
theorem t61 (n : Nat) (a0 : ByteArray) (a1 : ByteArray) (a2 : List (C .e9)) : runFn (X61 n) (F61 n) Tryd.f61 [.one (.str a0), .one (.str a1), .one (.row .e9 a2)] dec61 = G61n n a0 a1 a2 := by
  refine Eq.trans (b :=
   Option.bind (G22 a0) fun r1 =>
   MP61_0 a1 r1 (r1.length : Int) a2 (⟨#[]⟩ : ByteArray) (([] : List (C .e3))) false (([] : List (C .e9))) n   0) (by kernel_rfl) ?_
  simp only [G61n, m61_0]
noncomputable def G61 (a0 : ByteArray) (a1 : ByteArray) (a2 : List (C .e9)) : Option (Bool) := G61n fuel a0 a1 a2
noncomputable def con61 : Con C := mkC KK [.str, .str, .row .e9] [.bool] G61
theorem c61 : ConOk Tryd.prog KK 61 con61 := cO (mkQ ⟨c71, trivial⟩ trivial ⟨i63 _, trivial⟩ : Cons Tryd.prog (X61 fuel)) (fn := Tryd.f61) (by kernel_rfl) (by kernel_rfl) (by kernel_rfl) (by kernel_rfl) (F61 fuel) (by kernel_rfl) (fun a0 a1 a2 => t61 fuel a0 a1 a2)
/-! ### f88 cmp.isNaN[string] -/
noncomputable def X88 : Cx C := mkX [] [] [] [] 5767168
def F88 (n : Nat) : Cf := { N := n, keep := [0, 2], live := lk [] }
noncomputable abbrev dec88 := deR KK [.bool]
noncomputable def G88n (n : Nat) (a0 : ByteArray) : Option (Bool) :=
 some (!decide (a0 = a0))
theorem t88 (n : Nat) (a0 : ByteArray) : runFn X88 (F88 n) Tryd.f88 [.one (.str a0)] dec88 = G88n n a0 := by
  kernel_rfl
noncomputable def G88 (a0 : ByteArray) : Option (Bool) := G88n fuel a0
noncomputable def con88 : Con C := mkC KK [.str] [.bool] G88
theorem c88 : ConOk Tryd.prog KK 88 con88 := cO (mkQ trivial trivial trivial : Cons Tryd.prog X88) (fn := Tryd.f88) (by kernel_rfl) (by kernel_rfl) (by kernel_rfl) (by kernel_rfl) (F88 fuel) (by kernel_rfl) (fun a0 => t88 fuel a0)
/-! ### f81 cmp.Compare[string] -/
noncomputable def X81 : Cx C := mkX [(88, con88)] [] [] [] 5308416
def F81 (n : Nat) : Cf := { N := n, keep := [0, 1, 4, 5, 6, 11, 12, 13, 16, 19], live := lk [] }
noncomputable abbrev dec81 := deR KK [.int .i64]
noncomputable def G81n (n : Nat) (a0 : ByteArray) (a1 : ByteArray) : Option (Int) :=
 Option.bind (G88 a0) fun r1 =>
 Option.bind (G88 a1) fun r2 =>
 cond r1
 (cond r2
 (some (0))
 (some ((-1))))
 (cond r2
 (some (1))
 (cond (slt a0 a1)
 (some ((-1)))
 (cond (slt a1 a0)
 (some (1))
 (some (0)))))
theorem t81 (n : Nat) (a0 : ByteArray) (a1 : ByteArray) : runFn X81 (F81 n) Tryd.f81 [.one (.str a0), .one (.str a1)] dec81 = G81n n a0 a1 := by
  kernel_rfl
noncomputable def G81 (a0 : ByteArray) (a1 : ByteArray) : Option (Int) := G81n fuel a0 a1
noncomputable def con81 : Con C := mkC KK [.str, .str] [.int .i64] G81
theorem c81 : ConOk Tryd.prog KK 81 con81 := cO (mkQ ⟨c88, trivial⟩ trivial trivial : Cons Tryd.prog X81) (fn := Tryd.f81) (by kernel_rfl) (by kernel_rfl) (by kernel_rfl) (by kernel_rfl) (F81 fuel) (by kernel_rfl) (fun a0 a1 => t81 fuel a0 a1)
/-! ### f72 slices.Compare[[]string,string] -/
noncomputable def X72 : Cx C := mkX [(81, con81)] [] [] [] 4718592
def F72 (n : Nat) : Cf := { N := n, keep := [0, 1, 4, 5, 6, 7, 8, 9, 10, 11, 12, 19, 28, 35], live := lk [(0, [0, 1, 9, 10, 11])] }
noncomputable abbrev dec72 := deR KK [.int .i64]
abbrev A72_0 : Type := Int
section
variable (x0 : List (C .e9)) (x1 : List (C .e9)) (x2 : List (C .e9)) (x3 : Int)
def s72_0 : A72_0 → St C := fun x4 => { env := [(0, .one (.row .e9 x0)), (1, .one (.row .e9 x1)), (9, .one (.row .e9 x2)), (10, .one (.int .i64 x3)), (11, .one (.int .i64 x4))], objs := [], base := 0 }
end
noncomputable def r72_0 (x0 : List (C .e9)) (x1 : List (C .e9)) (x2 : List (C .e9)) (x3 : Int) (n : Nat)   (rec0 : A72_0 → Option (Int)) : A72_0 → Option (Int) := fun x4 =>
 cond (decide (x4 < x3))
 (cond (decide (0 ≤ x4)) (Option.bind x2[x4.toNat]? fun e1 => cond (decide (x4 ≥ (x1.length : Int)))
 (some (1))
 (cond (decide (0 ≤ x4)) (Option.bind x1[x4.toNat]? fun e2 => Option.bind (G81 e1 e2) fun r3 =>
 cond (r3 != 0)
 (some (r3))
 (rec0 (IntKind.i64.wrap (x4 + 1)))) none)) none)
 (cond (decide ((x0.length : Int) < (x1.length : Int)))
 (some ((-1)))
 (some (0)))
section
variable (x0 : List (C .e9)) (x1 : List (C .e9)) (x2 : List (C .e9)) (x3 : Int)
noncomputable def MP72_0 (n : Nat)  (x : A72_0) : Option (Int) := iter (fun rec S => run X72 (F72 n) (codeAt (bodyOf Tryd.f72) [1, 0, 1, 0, 0]) 0 S (lopK rec (blkK 0 (seqK (run X72 (F72 n) (codeAt (bodyOf Tryd.f72) [1, 1]) 0) (kTop X72 Tryd.f72 dec72))))) [0, 1, 9, 10, 11] n (s72_0 x0 x1 x2 x3 x)
theorem m72_0 (n : Nat)  (x : A72_0) : MP72_0 x0 x1 x2 x3 n  x = lpN (r72_0 x0 x1 x2 x3 n  ) n x := by
  refine iter_eq (s72_0 x0 x1 x2 x3) (r72_0 x0 x1 x2 x3 n  ) (fun rec0 x4 => ?_) n x
  kernel_rfl
end
noncomputable def G72n (n : Nat) (a0 : List (C .e9)) (a1 : List (C .e9)) : Option (Int) :=
 lpN (r72_0 a0 a1 a0 (a0.length : Int) n ) n 0
theorem t72 (n : Nat) (a0 : List (C .e9)) (a1 : List (C .e9)) : runFn X72 (F72 n) Tryd.f72 [.one (.row .e9 a0), .one (.row .e9 a1)] dec72 = G72n n a0 a1 := by
  refine Eq.trans (b :=
   MP72_0 a0 a1 a0 (a0.length : Int) n   0) (by kernel_rfl) ?_
  simp only [G72n, m72_0]
noncomputable def G72 (a0 : List (C .e9)) (a1 : List (C .e9)) : Option (Int) := G72n fuel a0 a1
noncomputable def con72 : Con C := mkC KK [.row .e9, .row .e9] [.int .i64] G72
theorem c72 : ConOk Tryd.prog KK 72 con72 := cO (mkQ ⟨c81, trivial⟩ trivial trivial : Cons Tryd.prog X72) (fn := Tryd.f72) (by kernel_rfl) (by kernel_rfl) (by kernel_rfl) (by kernel_rfl) (F72 fuel) (by kernel_rfl) (fun a0 a1 => t72 fuel a0 a1)
/-! ### f62 loop.example/wharfdesk/impl.order -/
noncomputable def X62 (n : Nat) : Cx C := mkX [(72, con72)] [] [(63, I63 n)] [0, 4, 5, 7, 8, 9, 10, 11, 15, 16, 17, 18, 22, 23, 24] 4063232
def F62 (n : Nat) : Cf := { N := n, keep := [0, 1, 2, 4, 5, 6, 8, 10, 27], live := lk [] }
noncomputable abbrev dec62 := deR KK [.int .i64]
abbrev A62_1 : Type := Int
abbrev A62_0 : Type := Int
section
variable (x0 : ByteArray) (x1 : List (C .e54)) (x2 : Int) (x4 : ByteArray) (x5 : Int) (x6 : ByteArray) (x7 : List (C .e3)) (x8 : Bool) (x9 : List (C .e9)) (x10 : ByteArray) (x11 : List (C .e9)) (x12 : ByteArray) (x13 : List (C .e9))
def s62_1 : A62_1 → St C := fun x3 => { env := [(1, .one (.str x0)), (4, .one (.ptr 98784251937024 0)), (9, .one (.row .e54 x1)), (10, .one (.int .i64 x2)), (11, .one (.int .i64 x3)), (1000, .sus (false, [.str x4]) 23000), (1004, .sus (false, [.ptr 4063488 0]) 23004), (1005, .sus (false, [.ptr 4063552 0]) 23005), (1008, .sus (false, [.int .i64 x5]) 23008)], objs := [(98784251937024, .box .mem [.str x6, .ref 9878425194702401 [], .bool x8, .ref 9878425194702403 []]), (9878425194702401, .row .e3 x7 false), (9878425194702403, .row .e9 x9 false), (4063488, .box .mem [.str x10, .row .e9 x11]), (4063552, .box .mem [.str x12, .row .e9 x13])], base := 23000 }
end
noncomputable def r62_1 (x0 : ByteArray) (x1 : List (C .e54)) (x2 : Int) (x5 : Int) (x11 : List (C .e9)) (x13 : List (C .e9)) (n : Nat)   (rec1 : A62_1 → Option (Int)) : A62_1 → Option (Int) := fun x3 =>
 cond (decide (x3 < x2))
 (cond (decide (0 ≤ x3)) (Option.bind x1[x3.toNat]? fun e4 => cond (decide (e4.Key = x0))
 (cond (x5 != x3)
 (some (IntKind.i64.wrap (x5 - x3)))
 (Option.bind (G72 x11 x13) fun r5 =>
 some (r5)))
 (rec1 (IntKind.i64.wrap (x3 + 1)))) none)
 (cond (x5 != (-1))
 (some (IntKind.i64.wrap (x5 - (-1))))
 (Option.bind (G72 x11 x13) fun r6 =>
 some (r6)))
section
variable (x0 : ByteArray) (x1 : List (C .e54)) (x2 : Int) (x4 : ByteArray) (x5 : ByteArray) (x6 : List (C .e3)) (x7 : Bool) (x8 : List (C .e9)) (x9 : ByteArray) (x10 : List (C .e9)) (x11 : ByteArray) (x12 : List (C .e9))
def s62_0 : A62_0 → St C := fun x3 => { env := [(1, .one (.str x0)), (4, .one (.ptr 68719480865024 0)), (9, .one (.row .e54 x1)), (10, .one (.int .i64 x2)), (11, .one (.int .i64 x3)), (1000, .sus (false, [.str x4]) 16000), (1004, .sus (false, [.ptr 4063488 0]) 16004), (1005, .sus (false, [.ptr 4063552 0]) 16005)], objs := [(68719480865024, .box .mem [.str x5, .ref 6871948087502401 [], .bool x7, .ref 6871948087502403 []]), (6871948087502401, .row .e3 x6 false), (6871948087502403, .row .e9 x8 false), (4063488, .box .mem [.str x9, .row .e9 x10]), (4063552, .box .mem [.str x11, .row .e9 x12])], base := 16000 }
end
noncomputable def r62_0 (x0 : ByteArray) (x1 : List (C .e54)) (x2 : Int) (x4 : ByteArray) (x10 : List (C .e9)) (x11 : ByteArray) (x12 : List (C .e9)) (n : Nat)   (rec0 : A62_0 → Option (Int)) : A62_0 → Option (Int) := fun x3 =>
 cond (decide (x3 < x2))
 (cond (decide (0 ≤ x3)) (Option.bind x1[x3.toNat]? fun e2 => cond (decide (e2.Key = x0))
 (Option.bind (G22 x4) fun r3 =>
 lpN (r62_1 x11 r3 (r3.length : Int) x3 x10 x12 n ) n 0)
 (rec0 (IntKind.i64.wrap (x3 + 1)))) none)
 (Option.bind (G22 x4) fun r7 =>
 lpN (r62_1 x11 r7 (r7.length : Int) (-1) x10 x12 n ) n 0)
section
variable (x0 : ByteArray) (x1 : List (C .e54)) (x2 : Int) (x4 : ByteArray) (x5 : Int) (x6 : ByteArray) (x7 : List (C .e3)) (x8 : Bool) (x9 : List (C .e9)) (x10 : ByteArray) (x11 : List (C .e9)) (x12 : ByteArray) (x13 : List (C .e9))
noncomputable def MP62_1 (n : Nat)  (x : A62_1) : Option (Int) := iter (fun rec S => run X63 (F63 n) (codeAt (bodyOf Tryd.f63) [1, 0, 1, 0, 0]) 0 S (lopK rec (blkK 0 (seqK (run X63 (F63 n) (codeAt (bodyOf Tryd.f63) [1, 1]) 0) (inlK X63 Tryd.f63 (callK 22000 0 (some 22) (restK (X62 n) (codeAt (bodyOf Tryd.f62) [1, 1, 0]) 4 (regK (F62 n) (seqK (run (X62 n) (F62 n) (codeAt (bodyOf Tryd.f62) [1, 1, 1]) 0) (kTop (X62 n) Tryd.f62 dec62)))))))))) [1, 4, 9, 10, 11] n (s62_1 x0 x1 x2 x4 x5 x6 x7 x8 x9 x10 x11 x12 x13 x)
theorem m62_1 (n : Nat)  (x : A62_1) : MP62_1 x0 x1 x2 x4 x5 x6 x7 x8 x9 x10 x11 x12 x13 n  x = lpN (r62_1 x0 x1 x2 x5 x11 x13 n  ) n x := by
  refine iter_eq (s62_1 x0 x1 x2 x4 x5 x6 x7 x8 x9 x10 x11 x12 x13) (r62_1 x0 x1 x2 x5 x11 x13 n  ) (fun rec1 x3 => ?_) n x
  kernel_rfl
end
section
variable (x0 : ByteArray) (x1 : List (C .e54)) (x2 : Int) (x4 : ByteArray) (x5 : ByteArray) (x6 : List (C .e3)) (x7 : Bool) (x8 : List (C .e9)) (x9 : ByteArray) (x10 : List (C .e9)) (x11 : ByteArray) (x12 : List (C .e9))
noncomputable def MP62_0 (n : Nat)  (x : A62_0) : Option (Int) := iter (fun rec S => run X63 (F63 n) (codeAt (bodyOf Tryd.f63) [1, 0, 1, 0, 0]) 0 S (lopK rec (blkK 0 (seqK (run X63 (F63 n) (codeAt (bodyOf Tryd.f63) [1, 1]) 0) (inlK X63 Tryd.f63 (callK 15000 0 (some 15) (restK (X62 n) (codeAt (bodyOf Tryd.f62) [1, 0]) 4 (regK (F62 n) (seqK (run (X62 n) (F62 n) (codeAt (bodyOf Tryd.f62) [1, 1]) 0) (kTop (X62 n) Tryd.f62 dec62)))))))))) [1, 4, 9, 10, 11] n (s62_0 x0 x1 x2 x4 x5 x6 x7 x8 x9 x10 x11 x12 x)
theorem m62_0 (n : Nat)  (x : A62_0) : MP62_0 x0 x1 x2 x4 x5 x6 x7 x8 x9 x10 x11 x12 n  x = lpN (r62_0 x0 x1 x2 x4 x10 x11 x12 n  ) n x := by
  refine iter_eq (s62_0 x0 x1 x2 x4 x5 x6 x7 x8 x9 x10 x11 x12) (r62_0 x0 x1 x2 x4 x10 x11 x12 n  ) (fun rec0 x3 => ?_) n x
  have h : run X63 (F63 n) (codeAt (bodyOf Tryd.f63) [1, 0, 1, 0, 0]) 0 (s62_0 x0 x1 x2 x4 x5 x6 x7 x8 x9 x10 x11 x12 x3) (lopK (canThen [1, 4, 9, 10, 11] rec0) (blkK 0 (seqK (run X63 (F63 n) (codeAt (bodyOf Tryd.f63) [1, 1]) 0) (inlK X63 Tryd.f63 (callK 15000 0 (some 15) (restK (X62 n) (codeAt (bodyOf Tryd.f62) [1, 0]) 4 (regK (F62 n) (seqK (run (X62 n) (F62 n) (codeAt (bodyOf Tryd.f62) [1, 1]) 0) (kTop (X62 n) Tryd.f62 dec62))))))))) =
   cond (decide (x3 < x2))
   (cond (decide (0 ≤ x3)) (Option.bind x1[x3.toNat]? fun e2 => cond (decide (e2.Key = x0))
   (Option.bind (G22 x4) fun r3 =>
   MP62_1 x11 r3 (r3.length : Int) x4 x3 (⟨#[]⟩ : ByteArray) (([] : List (C .e3))) false (([] : List (C .e9))) x9 x10 x11 x12 n   0)
   ((fun x => rec0 (s62_0 x0 x1 x2 x4 x5 x6 x7 x8 x9 x10 x11 x12 x)) (IntKind.i64.wrap (x3 + 1)))) none)
   (Option.bind (G22 x4) fun r7 =>
   MP62_1 x11 r7 (r7.length : Int) x4 (-1) (⟨#[]⟩ : ByteArray) (([] : List (C .e3))) false (([] : List (C .e9))) x9 x10 x11 x12 n   0) := by kernel_rfl
  simp only [m62_1] at h
  exact h
end
noncomputable def G62n (n : Nat) (a0 : ByteArray) (a1 : VSheetLine) (a2 : VSheetLine) : Option (Int) :=
 Option.bind (G22 a0) fun r1 =>
 lpN (r62_0 a1.Key r1 (r1.length : Int) a0 a1.Words a2.Key a2.Words n ) n 0
theorem t62 (n : Nat) (a0 : ByteArray) (a1 : VSheetLine) (a2 : VSheetLine) : runFn (X62 n) (F62 n) Tryd.f62 [.one (.str a0), .agg [.str a1.Key, .row .e9 a1.Words], .agg [.str a2.Key, .row .e9 a2.Words]] dec62 = G62n n a0 a1 a2 := by
  refine Eq.trans (b :=
   Option.bind (G22 a0) fun r1 =>
   MP62_0 a1.Key r1 (r1.length : Int) a0 (⟨#[]⟩ : ByteArray) (([] : List (C .e3))) false (([] : List (C .e9))) a1.Key a1.Words a2.Key a2.Words n   0) (by kernel_rfl) ?_
  simp only [G62n, m62_0]
noncomputable def G62 (a0 : ByteArray) (a1 : VSheetLine) (a2 : VSheetLine) : Option (Int) := G62n fuel a0 a1 a2
noncomputable def con62 : Con C := mkC KK [.str, .el .e70, .el .e70] [.int .i64] G62
theorem c62 : ConOk Tryd.prog KK 62 con62 := cO (mkQ ⟨c72, trivial⟩ trivial ⟨i63 _, trivial⟩ : Cons Tryd.prog (X62 fuel)) (fn := Tryd.f62) (by kernel_rfl) (by kernel_rfl) (by kernel_rfl) (by kernel_rfl) (F62 fuel) (by kernel_rfl) (fun a0 a1 a2 => t62 fuel a0 a1 a2)
/-! ### f39 loop.example/wharfdesk/impl.blockOk -/
noncomputable def X39 (n : Nat) : Cx C := mkX [(22, (nzC con22)), (60, con60), (61, con61), (62, con62)] [] [(63, I63 n)] [1, 3, 5, 6, 20, 21, 22, 57, 62, 63, 64] 2555904
def F39 (n : Nat) : Cf := { N := n, keep := [0, 1, 2, 3, 4, 5, 6, 17, 20, 21, 22, 23, 51, 81], live := lk [(0, [1, 3, 20, 21, 22])] }
noncomputable abbrev dec39 := deR KK [.bool]
abbrev A39_1 : Type := Int
abbrev A39_0 : Type := Int × List (Nat × C .e9 × C .e3) × Nat
section
variable (x0 : ByteArray) (x1 : List (C .e54)) (x2 : Int) (x4 : List (C .e70)) (x5 : Int) (x6 : Int) (x7 : ByteArray) (x8 : List (C .e3)) (x9 : Bool) (x10 : List (C .e9)) (x11 : ByteArray) (x12 : ByteArray) (x13 : List (C .e70)) (x14 : List (Nat × C .e9 × C .e3)) (x15 : Nat) (x16 : ByteArray) (x17 : List (C .e9))
def s39_1 : A39_1 → St C := fun x3 => { env := [(1, .one (.str x0)), (4, .one (.ptr 270582943777024 0)), (9, .one (.row .e54 x1)), (10, .one (.int .i64 x2)), (11, .one (.int .i64 x3)), (1001, .sus (false, [.ptr 2555968 0]) 63001), (1003, .sus (false, [.vo 2557056]) 63003), (1005, .sus (false, [.ptr 2556224 0]) 63005), (1020, .sus (false, [.row .e70 x4]) 63020), (1021, .sus (false, [.int .i64 x5]) 63021), (1022, .sus (false, [.int .i64 x6]) 63022)], objs := [(270582943777024, .box .mem [.str x7, .ref 27058294378702401 [], .bool x9, .ref 27058294378702403 []]), (27058294378702401, .row .e3 x8 false), (27058294378702403, .row .e9 x10 false), (2555968, .box .mem [.str x11, .str x12, .row .e70 x13]), (2557056, .map ⟨false, false, false, false⟩ .e9 .e3 x14 x15), (2556224, .box .mem [.str x16, .row .e9 x17])], base := 63000 }
end
noncomputable def r39_1 (x0 : ByteArray) (x1 : List (C .e54)) (x2 : Int) (x6 : Int) (x14 : List (Nat × C .e9 × C .e3)) (x15 : Nat) (x16 : ByteArray) (n : Nat)  (rec0 : A39_0 → Option (Bool)) (rec1 : A39_1 → Option (Bool)) : A39_1 → Option (Bool) := fun x3 =>
 cond (decide (x3 < x2))
 (cond (decide (0 ≤ x3)) (Option.bind x1[x3.toNat]? fun e8 => cond (decide (e8.Key = x0))
 (cond (!e8.Many)
 (cond (decide ((mval KK .e9 .e3 x16 x14) > 1))
 (some (false))
 (cond (decide ((mval KK .e9 .e3 x16 x14) > 10))
 (some (false))
 (rec0 ((IntKind.i64.wrap (x6 + 1), x14, x15)))))
 (cond (decide ((mval KK .e9 .e3 x16 x14) > 10))
 (some (false))
 (rec0 ((IntKind.i64.wrap (x6 + 1), x14, x15)))))
 (rec1 (IntKind.i64.wrap (x3 + 1)))) none)
 (cond (decide ((mval KK .e9 .e3 x16 x14) > 1))
 (some (false))
 (cond (decide ((mval KK .e9 .e3 x16 x14) > 10))
 (some (false))
 (rec0 ((IntKind.i64.wrap (x6 + 1), x14, x15)))))
section
variable (x0 : List (C .e70)) (x1 : Int) (x3 : ByteArray) (x4 : ByteArray) (x5 : List (C .e70))
def s39_0 : A39_0 → St C := fun (x2, x6, x7) => { env := [(1, .one (.ptr 2555968 0)), (3, .one (.vo 2557056)), (20, .one (.row .e70 x0)), (21, .one (.int .i64 x1)), (22, .one (.int .i64 x2))], objs := [(2555968, .box .mem [.str x3, .str x4, .row .e70 x5]), (2557056, .map ⟨false, false, false, false⟩ .e9 .e3 x6 x7)], base := 0 }
end
noncomputable def r39_0 (x0 : List (C .e70)) (x1 : Int) (x3 : ByteArray) (x5 : List (C .e70)) (n : Nat)   (rec0 : A39_0 → Option (Bool)) : A39_0 → Option (Bool) := fun (x2, x6, x7) =>
 cond (decide (x2 < x1))
 (cond (decide (0 ≤ x2)) (Option.bind x0[x2.toNat]? fun e3 => Option.bind (G61 x3 e3.Key e3.Words) fun r4 =>
 cond (!r4)
 (some (false))
 (cond (decide (x2 > 0))
 (cond (decide (0 ≤ IntKind.i64.wrap (x2 - 1))) (Option.bind x5[(IntKind.i64.wrap (x2 - 1)).toNat]? fun e5 => Option.bind (G62 x3 e5 e3) fun r6 =>
 cond (decide (r6 ≥ 0))
 (some (false))
 (Option.bind (G22 x3) fun r7 =>
 lpN (r39_1 e3.Key r7 (r7.length : Int) x2 (mput KK .e9 .e3 e3.Key (IntKind.i64.wrap ((mval KK .e9 .e3 e3.Key x6) + 1)) x7 x6) (mclk KK .e9 .e3 e3.Key x7 x6) e3.Key n rec0) n 0)) none)
 (Option.bind (G22 x3) fun r9 =>
 lpN (r39_1 e3.Key r9 (r9.length : Int) x2 (mput KK .e9 .e3 e3.Key (IntKind.i64.wrap ((mval KK .e9 .e3 e3.Key x6) + 1)) x7 x6) (mclk KK .e9 .e3 e3.Key x7 x6) e3.Key n rec0) n 0))) none)
 (some (true))
section
variable (x0 : ByteArray) (x1 : List (C .e54)) (x2 : Int) (x4 : List (C .e70)) (x5 : Int) (x6 : Int) (x7 : ByteArray) (x8 : List (C .e3)) (x9 : Bool) (x10 : List (C .e9)) (x11 : ByteArray) (x12 : ByteArray) (x13 : List (C .e70)) (x14 : List (Nat × C .e9 × C .e3)) (x15 : Nat) (x16 : ByteArray) (x17 : List (C .e9))
noncomputable def MP39_1 (n : Nat) (rec0 : St C → Option (Bool)) (x : A39_1) : Option (Bool) := iter (fun rec S => run X63 (F63 n) (codeAt (bodyOf Tryd.f63) [1, 0, 1, 0, 0]) 0 S (lopK rec (blkK 0 (seqK (run X63 (F63 n) (codeAt (bodyOf Tryd.f63) [1, 1]) 0) (inlK X63 Tryd.f63 (callK 62000 0 (some 62) (restK (X39 n) (codeAt (bodyOf Tryd.f39) [1, 1, 1, 0, 1, 0, 0, 1, 1, 0, 0, 1, 1, 1, 0]) 5 (regK (F39 n) (seqK (run (X39 n) (F39 n) (codeAt (bodyOf Tryd.f39) [1, 1, 1, 0, 1, 0, 0, 1, 1, 0, 0, 1, 1, 1, 1]) 1) (blkK 1 (seqK (run (X39 n) (F39 n) (codeAt (bodyOf Tryd.f39) [1, 1, 1, 0, 1, 0, 0, 1, 1, 1]) 0) (lopK (canThen [1, 3, 20, 21, 22] rec0) (blkK 0 (seqK (run (X39 n) (F39 n) (codeAt (bodyOf Tryd.f39) [1, 1, 1, 1]) 0) (kTop (X39 n) Tryd.f39 dec39))))))))))))))) [1, 4, 9, 10, 11] n (s39_1 x0 x1 x2 x4 x5 x6 x7 x8 x9 x10 x11 x12 x13 x14 x15 x16 x17 x)
theorem m39_1 (n : Nat) (rec0 : St C → Option (Bool)) (x : A39_1) : MP39_1 x0 x1 x2 x4 x5 x6 x7 x8 x9 x10 x11 x12 x13 x14 x15 x16 x17 n rec0 x = lpN (r39_1 x0 x1 x2 x6 x14 x15 x16 n  (fun x => rec0 (s39_0 x4 x5 x11 x12 x13 x))) n x := by
  refine iter_eq (s39_1 x0 x1 x2 x4 x5 x6 x7 x8 x9 x10 x11 x12 x13 x14 x15 x16 x17) (r39_1 x0 x1 x2 x6 x14 x15 x16 n  (fun x => rec0 (s39_0 x4 x5 x11 x12 x13 x))) (fun rec1 x3 => ?_) n x
  kernel_rfl
end
section
variable (x0 : List (C .e70)) (x1 : Int) (x3 : ByteArray) (x4 : ByteArray) (x5 : List (C .e70))
noncomputable def MP39_0 (n : Nat)  (x : A39_0) : Option (Bool) := iter (fun rec S => run (X39 n) (F39 n) (codeAt (bodyOf Tryd.f39) [1, 1, 1, 0, 1, 0, 0]) 0 S (lopK rec (blkK 0 (seqK (run (X39 n) (F39 n) (codeAt (bodyOf Tryd.f39) [1, 1, 1, 1]) 0) (kTop (X39 n) Tryd.f39 dec39))))) [1, 3, 20, 21, 22] n (s39_0 x0 x1 x3 x4 x5 x)
theorem m39_0 (n : Nat)  (x : A39_0) : MP39_0 x0 x1 x3 x4 x5 n  x = lpN (r39_0 x0 x1 x3 x5 n  ) n x := by
  refine iter_eq (s39_0 x0 x1 x3 x4 x5) (r39_0 x0 x1 x3 x5 n  ) (fun rec0 x => ?_) n x
  obtain ⟨x2, x6, x7⟩ := x
  have h : run (X39 n) (F39 n) (codeAt (bodyOf Tryd.f39) [1, 1, 1, 0, 1, 0, 0]) 0 (s39_0 x0 x1 x3 x4 x5 (x2, x6, x7)) (lopK (canThen [1, 3, 20, 21, 22] rec0) (blkK 0 (seqK (run (X39 n) (F39 n) (codeAt (bodyOf Tryd.f39) [1, 1, 1, 1]) 0) (kTop (X39 n) Tryd.f39 dec39)))) =
   cond (decide (x2 < x1))
   (cond (decide (0 ≤ x2)) (Option.bind x0[x2.toNat]? fun e3 => Option.bind (G61 x3 e3.Key e3.Words) fun r4 =>
   cond (!r4)
   (some (false))
   (cond (decide (x2 > 0))
   (cond (decide (0 ≤ IntKind.i64.wrap (x2 - 1))) (Option.bind x5[(IntKind.i64.wrap (x2 - 1)).toNat]? fun e5 => Option.bind (G62 x3 e5 e3) fun r6 =>
   cond (decide (r6 ≥ 0))
   (some (false))
   (Option.bind (G22 x3) fun r7 =>
   MP39_1 e3.Key r7 (r7.length : Int) x0 x1 x2 (⟨#[]⟩ : ByteArray) (([] : List (C .e3))) false (([] : List (C .e9))) x3 x4 x5 (mput KK .e9 .e3 e3.Key (IntKind.i64.wrap ((mval KK .e9 .e3 e3.Key x6) + 1)) x7 x6) (mclk KK .e9 .e3 e3.Key x7 x6) e3.Key e3.Words n  rec0 0)) none)
   (Option.bind (G22 x3) fun r9 =>
   MP39_1 e3.Key r9 (r9.length : Int) x0 x1 x2 (⟨#[]⟩ : ByteArray) (([] : List (C .e3))) false (([] : List (C .e9))) x3 x4 x5 (mput KK .e9 .e3 e3.Key (IntKind.i64.wrap ((mval KK .e9 .e3 e3.Key x6) + 1)) x7 x6) (mclk KK .e9 .e3 e3.Key x7 x6) e3.Key e3.Words n  rec0 0))) none)
   (some (true)) := by kernel_rfl
  simp only [m39_1] at h
  exact h
end
noncomputable def G39n (n : Nat) (a0 : VSheetBlock) : Option (Bool) :=
 Option.bind (G22 a0.Kind) fun r1 =>
 cond r1.isEmpty
 (some (false))
 (nilq r1.isEmpty
 (some (false))
 (Option.bind (G60 a0.Name) fun r2 =>
 cond (!r2)
 (some (false))
 (lpN (r39_0 a0.Lines (a0.Lines.length : Int) a0.Kind a0.Lines n ) n ((0, ([] : List (Nat × C .e9 × C .e3)), 0)))))
theorem t39 (n : Nat) (a0 : VSheetBlock) : runFn (X39 n) (F39 n) Tryd.f39 [.agg [.str a0.Kind, .str a0.Name, .row .e70 a0.Lines]] dec39 = G39n n a0 := by
  refine Eq.trans (b :=
   Option.bind (G22 a0.Kind) fun r1 =>
   cond r1.isEmpty
   (some (false))
   (nilq r1.isEmpty
   (some (false))
   (Option.bind (G60 a0.Name) fun r2 =>
   cond (!r2)
   (some (false))
   (MP39_0 a0.Lines (a0.Lines.length : Int) a0.Kind a0.Name a0.Lines n   ((0, ([] : List (Nat × C .e9 × C .e3)), 0)))))) (by kernel_rfl) ?_
  simp only [G39n, m39_0]
noncomputable def G39 (a0 : VSheetBlock) : Option (Bool) := G39n fuel a0
noncomputable def con39 : Con C := mkC KK [.el .e42] [.bool] G39
theorem c39 : ConOk Tryd.prog KK 39 con39 := cO (mkQ ⟨c22z, c60, c61, c62, trivial⟩ trivial ⟨i63 _, trivial⟩ : Cons Tryd.prog (X39 fuel)) (fn := Tryd.f39) (by kernel_rfl) (by kernel_rfl) (by kernel_rfl) (by kernel_rfl) (F39 fuel) (by kernel_rfl) (fun a0 => t39 fuel a0)
/-! ### f73 internal/bytealg.CompareString -/
noncomputable def X73 : Cx C := mkX [] [] [] [] 4784128
def F73 (n : Nat) : Cf := { N := n, keep := [0, 1, 4], live := lk [] }
noncomputable abbrev dec73 := deR KK [.int .i64]
noncomputable def G73n (n : Nat) (a0 : ByteArray) (a1 : ByteArray) : Option (Int) :=
 some (cmpB a0 a1)
theorem t73 (n : Nat) (a0 : ByteArray) (a1 : ByteArray) : runFn X73 (F73 n) Tryd.f73 [.one (.str a0), .one (.str a1)] dec73 = G73n n a0 a1 := by
  kernel_rfl
noncomputable def G73 (a0 : ByteArray) (a1 : ByteArray) : Option (Int) := G73n fuel a0 a1
noncomputable def con73 : Con C := mkC KK [.str, .str] [.int .i64] G73
theorem c73 : ConOk Tryd.prog KK 73 con73 := cO (mkQ trivial trivial trivial : Cons Tryd.prog X73) (fn := Tryd.f73) (by kernel_rfl) (by kernel_rfl) (by kernel_rfl) (by kernel_rfl) (F73 fuel) (by kernel_rfl) (fun a0 a1 => t73 fuel a0 a1)
/-! ### f64 strings.Compare -/
noncomputable def X64 : Cx C := mkX [(73, con73)] [] [] [] 4194304
def F64 (n : Nat) : Cf := { N := n, keep := [0, 1, 4], live := lk [] }
noncomputable abbrev dec64 := deR KK [.int .i64]
noncomputable def G64n (n : Nat) (a0 : ByteArray) (a1 : ByteArray) : Option (Int) :=
 Option.bind (G73 a0 a1) fun r1 =>
 some (r1)
theorem t64 (n : Nat) (a0 : ByteArray) (a1 : ByteArray) : runFn X64 (F64 n) Tryd.f64 [.one (.str a0), .one (.str a1)] dec64 = G64n n a0 a1 := by
  kernel_rfl
noncomputable def G64 (a0 : ByteArray) (a1 : ByteArray) : Option (Int) := G64n fuel a0 a1
noncomputable def con64 : Con C := mkC KK [.str, .str] [.int .i64] G64
theorem c64 : ConOk Tryd.prog KK 64 con64 := cO (mkQ ⟨c73, trivial⟩ trivial trivial : Cons Tryd.prog X64) (fn := Tryd.f64) (by kernel_rfl) (by kernel_rfl) (by kernel_rfl) (by kernel_rfl) (F64 fuel) (by kernel_rfl) (fun a0 a1 => t64 fuel a0 a1)
/-! ### f40 loop.example/wharfdesk/impl.compare -/
noncomputable def X40 : Cx C := mkX [(64, con64)] [] [] [] 2621440
def F40 (n : Nat) : Cf := { N := n, keep := [0, 1, 2, 3, 4, 5, 12], live := lk [] }
noncomputable abbrev dec40 := deR KK [.int .i64]
noncomputable def G40n (n : Nat) (a0 : VSheetBlock) (a1 : VSheetBlock) : Option (Int) :=
 Option.bind (G64 a0.Kind a1.Kind) fun r1 =>
 cond (r1 != 0)
 (some (r1))
 (Option.bind (G64 a0.Name a1.Name) fun r2 =>
 some (r2))
theorem t40 (n : Nat) (a0 : VSheetBlock) (a1 : VSheetBlock) : runFn X40 (F40 n) Tryd.f40 [.agg [.str a0.Kind, .str a0.Name, .row .e70 a0.Lines], .agg [.str a1.Kind, .str a1.Name, .row .e70 a1.Lines]] dec40 = G40n n a0 a1 := by
  kernel_rfl
noncomputable def G40 (a0 : VSheetBlock) (a1 : VSheetBlock) : Option (Int) := G40n fuel a0 a1
noncomputable def con40 : Con C := mkC KK [.el .e42, .el .e42] [.int .i64] G40
theorem c40 : ConOk Tryd.prog KK 40 con40 := cO (mkQ ⟨c64, trivial⟩ trivial trivial : Cons Tryd.prog X40) (fn := Tryd.f40) (by kernel_rfl) (by kernel_rfl) (by kernel_rfl) (by kernel_rfl) (F40 fuel) (by kernel_rfl) (fun a0 a1 => t40 fuel a0 a1)
/-! ### f19 loop.example/wharfdesk/impl.SheetValid -/
noncomputable def X19 : Cx C := mkX [(39, con39), (40, con40)] [] [] [] 1245184
def F19 (n : Nat) : Cf := { N := n, keep := [0, 1, 2, 3, 4, 8, 10, 11, 12, 13, 34], live := lk [(0, [1, 10, 11, 12])] }
noncomputable abbrev dec19 := deR KK [.bool]
abbrev A19_0 : Type := Int
section
variable (x0 : List (C .e42)) (x1 : Int) (x3 : List (C .e42))
def s19_0 : A19_0 → St C := fun x2 => { env := [(1, .one (.ptr 1245248 0)), (10, .one (.row .e42 x0)), (11, .one (.int .i64 x1)), (12, .one (.int .i64 x2))], objs := [(1245248, .box .mem [.row .e42 x3])], base := 0 }
end
noncomputable def r19_0 (x0 : List (C .e42)) (x1 : Int) (x3 : List (C .e42)) (n : Nat)   (rec0 : A19_0 → Option (Bool)) : A19_0 → Option (Bool) := fun x2 =>
 cond (decide (x2 < x1))
 (cond (decide (0 ≤ x2)) (Option.bind x0[x2.toNat]? fun e1 => Option.bind (G39 e1) fun r2 =>
 cond (!r2)
 (some (false))
 (cond (decide (x2 > 0))
 (cond (decide (0 ≤ IntKind.i64.wrap (x2 - 1))) (Option.bind x3[(IntKind.i64.wrap (x2 - 1)).toNat]? fun e3 => Option.bind (G40 e3 e1) fun r4 =>
 cond (decide (r4 ≥ 0))
 (some (false))
 (rec0 (IntKind.i64.wrap (x2 + 1)))) none)
 (rec0 (IntKind.i64.wrap (x2 + 1))))) none)
 (some (true))
section
variable (x0 : List (C .e42)) (x1 : Int) (x3 : List (C .e42))
noncomputable def MP19_0 (n : Nat)  (x : A19_0) : Option (Bool) := iter (fun rec S => run X19 (F19 n) (codeAt (bodyOf Tryd.f19) [1, 1, 0, 1, 0, 0]) 0 S (lopK rec (blkK 0 (seqK (run X19 (F19 n) (codeAt (bodyOf Tryd.f19) [1, 1, 1]) 0) (kTop X19 Tryd.f19 dec19))))) [1, 10, 11, 12] n (s19_0 x0 x1 x3 x)
theorem m19_0 (n : Nat)  (x : A19_0) : MP19_0 x0 x1 x3 n  x = lpN (r19_0 x0 x1 x3 n  ) n x := by
  refine iter_eq (s19_0 x0 x1 x3) (r19_0 x0 x1 x3 n  ) (fun rec0 x2 => ?_) n x
  kernel_rfl
end
noncomputable def G19n (n : Nat) (a0 : VSheet) : Option (Bool) :=
 cond (decide ((a0.Blocks.length : Int) > 60))
 (some (false))
 (lpN (r19_0 a0.Blocks (a0.Blocks.length : Int) a0.Blocks n ) n 0)
theorem t19 (n : Nat) (a0 : VSheet) : runFn X19 (F19 n) Tryd.f19 [.agg [.row .e42 a0.Blocks]] dec19 = G19n n a0 := by
  refine Eq.trans (b :=
   cond (decide ((a0.Blocks.length : Int) > 60))
   (some (false))
   (MP19_0 a0.Blocks (a0.Blocks.length : Int) a0.Blocks n   0)) (by kernel_rfl) ?_
  simp only [G19n, m19_0]
noncomputable def G19 (a0 : VSheet) : Option (Bool) := G19n fuel a0
noncomputable def con19 : Con C := mkC KK [.el .e30] [.bool] G19
theorem c19 : ConOk Tryd.prog KK 19 con19 := cO (mkQ ⟨c39, c40, trivial⟩ trivial trivial : Cons Tryd.prog X19) (fn := Tryd.f19) (by kernel_rfl) (by kernel_rfl) (by kernel_rfl) (by kernel_rfl) (F19 fuel) (by kernel_rfl) (fun a0 => t19 fuel a0)
/-! ### f42 (loop.example/wharfdesk/impl.Sheet).at$1, run in place -/
noncomputable def X42 : Cx C := mkX [] [] [] [] 2752512
def F42 (n : Nat) : Cf := { N := n, keep := [0, 1, 2, 3, 4], live := lk [] }
noncomputable def I42 (n : Nat) : Inl C := inlOf X42 (F42 n) Tryd.f42
theorem i42 (n : Nat) : InlOk Tryd.prog KK 42 (I42 n) := iO (mkQ trivial trivial trivial : Cons Tryd.prog X42) (F42 n) (fn := Tryd.f42) (by kernel_rfl) (by kernel_rfl) (by kernel_rfl) (by kernel_rfl)
/-! ### f41 slices.IndexFunc[[]loop.example/wharfdesk/impl.SheetBlock,loop.example/wharfdesk/impl.SheetBlock], run in place -/
noncomputable def X41 (n : Nat) : Cx C := mkX [] [] [(42, I42 n)] [0, 1, 5, 7, 8, 16] 2686976
def F41 (n : Nat) : Cf := { N := n, keep := [0, 1, 4, 5, 7, 8, 9, 16], live := lk [(0, [0, 1, 7, 8])] }
noncomputable def I41 (n : Nat) : Inl C := inlOf (X41 n) (F41 n) Tryd.f41
theorem i41 (n : Nat) : InlOk Tryd.prog KK 41 (I41 n) := iO (mkQ trivial trivial ⟨i42 _, trivial⟩ : Cons Tryd.prog (X41 n)) (F41 n) (fn := Tryd.f41) (by kernel_rfl) (by kernel_rfl) (by kernel_rfl) (by kernel_rfl)

end Go.Proofs.YtadopcpehgblcaaDoor.Ab

/- Loops told place by place; numbers that do not overflow. -/
set_option linter.unusedVariables false
set_option linter.unusedSimpArgs false
namespace Go.Proofs.YtadopcpehgblcaaDoor.Ab
open Go Go.RowKit

theorem wrap_id {n : Int} (h0 : -9223372036854775808 ≤ n) (h1 : n < 9223372036854775808) : IntKind.i64.wrap n = n := by
  simp [IntKind.wrap, IntKind.bits, IntKind.signed]
  omega

theorem lp_open {A R : Type} {rnd : (A → Option R) → A → Option R} {n : Nat} {x : A} (h : 0 < n) : lpN rnd n x = rnd (lpN rnd (n - 1)) x := by
  obtain ⟨m, rfl⟩ : ∃ k, n = k + 1 := ⟨n - 1, by omega⟩
  rfl
def allN (p : Nat → Bool) (len i : Nat) : Bool := (List.range' i (len - i)).all p
theorem allN_step {p : Nat → Bool} {len i : Nat} (h : i < len) : allN p len i = (p i && allN p len (i + 1)) := by
  unfold allN
  rw [show len - i = (len - (i + 1)) + 1 by omega, List.range'_succ]
  rfl
theorem allN_end (p : Nat → Bool) (len : Nat) : allN p len len = true := by simp [allN]
theorem wrap_pred {i : Nat} (h : 0 < i) (h2 : i < 4611686018427387904) : IntKind.i64.wrap ((i : Int) - 1) = ((i - 1 : Nat) : Int) := by
  rw [wrap_id (by omega) (by omega)]; omega

theorem fuel_big : 1152921504606846976 ≤ fuel := by unfold fuel; omega
theorem alt_self {R : Type} (a : Option R) : alt a a = a := by
  unfold alt
  cases a <;> simp
theorem wrap_nat {i : Nat} (h : i < 4611686018427387904) : IntKind.i64.wrap ((i : Int) + 1) = ((i + 1 : Nat) : Int) := by
  rw [wrap_id (by omega) (by omega)]; rfl
theorem lp_succ {A R : Type} (rnd : (A → Option R) → A → Option R) (n : Nat) (x : A) : lpN rnd (n + 1) x = rnd (lpN rnd n) x := rfl
/-- A loop over places, its state told place by place. -/
theorem lp_idx {A R : Type} {rnd : (A → Option R) → A → Option R} (st : Nat → A) (val : Nat → Option R) (len : Nat) (hend : ∀ rec, rnd rec (st len) = val len) (hstep : ∀ rec i, i < len → rec (st (i + 1)) = val (i + 1) → rnd rec (st i) = val i) :
    ∀ n i, i ≤ len → len - i < n → lpN rnd n (st i) = val i := by
  intro n
  induction n with
  | zero => intro i _ h; omega
  | succ n ih =>
    intro i hi hn
    rw [lp_succ]
    rcases Nat.lt_or_ge i len with h | h
    · exact hstep _ i h (ih (i + 1) (by omega) (by omega))
    · have e : i = len := by omega
      subst e
      exact hend _
theorem get_cast {α : Type} {xs : List α} {i : Nat} (h : i < xs.length) : xs[((i : Int)).toNat]? = some xs[i] := by simp [h]


end Go.Proofs.YtadopcpehgblcaaDoor.Ab

/- The plain law of SheetDiff: places, names, words in order, numbers. -/
set_option linter.unusedVariables false
set_option linter.unusedSimpArgs false
namespace Go.Proofs.YtadopcpehgblcaaDoor.Ab
open Go Go.RowKit

/-! ### Places -/
def posL {α : Type} (p : α → Bool) : List α → Nat → Int
  | [], _ => -1
  | x :: r, i => cond (p x) (i : Int) (posL p r (i + 1))
theorem posL_step {α : Type} {p : α → Bool} {xs : List α} {i : Nat} (h : i < xs.length) : posL p (xs.drop i) i = cond (p xs[i]) (i : Int) (posL p (xs.drop (i + 1)) (i + 1)) := by
  rw [List.drop_eq_getElem_cons h]; rfl
/-- A place: minus one and nothing there, or the first that fits. -/
theorem posL_cases {α : Type} (p : α → Bool) (xs : List α) : (posL p xs 0 = -1 ∧ ∀ x ∈ xs, p x = false) ∨ ∃ i : Nat, ∃ h : i < xs.length, posL p xs 0 = (i : Int) ∧ p xs[i] = true := by
  have key : ∀ (ys : List α) (i : Nat), (posL p ys i = -1 ∧ ∀ x ∈ ys, p x = false) ∨ ∃ k : Nat, ∃ h : k < ys.length, posL p ys i = ((i + k : Nat) : Int) ∧ p ys[k] = true := by
    intro ys
    induction ys with
    | nil => intro i; exact .inl ⟨rfl, fun x hx => by cases hx⟩
    | cons y ys ih =>
      intro i
      cases hp : p y with
      | true => exact .inr ⟨0, by simp, by simp [posL, hp], by simpa using hp⟩
      | false =>
        rcases ih (i + 1) with ⟨h1, h2⟩ | ⟨k, hk, h1, h2⟩
        · refine .inl ⟨by simp [posL, hp, h1], fun x hx => ?_⟩
          rcases List.mem_cons.1 hx with e | hx
          · subst e; exact hp
          · exact h2 x hx
        · exact .inr ⟨k + 1, by simpa using hk, by simp only [posL, hp, cond_false, h1]; omega, by simpa using h2⟩
  rcases key xs 0 with h | ⟨k, hk, h1, h2⟩
  · exact .inl h
  · exact .inr ⟨k, hk, by simpa using h1, h2⟩
theorem pos_lp {α R : Type} {p : α → Bool} {xs : List α} {A : Type} {st : Nat → A} {rnd : (A → Option R) → A → Option R} (hl : xs.length ≤ 1048576) (fnd : Nat → Option R) (nf : Option R)
    (hend : ∀ rec, rnd rec (st xs.length) = nf)
    (hstep : ∀ rec i (hi : i < xs.length), rnd rec (st i) = cond (p xs[i]) (fnd i) (rec (st (i + 1)))) : lpN rnd fuel (st 0) = cond (decide (posL p xs 0 < 0)) nf (fnd (posL p xs 0).toNat) := by
  have hneg : ∀ (ys : List α) (i : Nat), posL p ys i < 0 ∨ (i : Int) ≤ posL p ys i := by
    intro ys
    induction ys with
    | nil => intro i; left; simp [posL]
    | cons y ys ih =>
      intro i
      simp only [posL]
      cases p y with
      | true => right; simp
      | false => rcases ih (i + 1) with h | h
                 · left; simpa using h
                 · right; simp only [cond_false]; omega
  have := lp_idx (rnd := rnd) (st := st) (val := fun i => cond (decide (posL p (xs.drop i) i < 0)) nf (fnd (posL p (xs.drop i) i).toNat)) xs.length (fun rec => by rw [hend]; simp [posL]) (fun rec i hi hr => by
    rw [hstep rec i hi, posL_step hi]
    cases p xs[i] with
    | true =>
      have h0 : ¬ ((i : Nat) : Int) < 0 := by omega
      simp only [cond_true, h0, decide_false, cond_false, Int.toNat_natCast]
    | false => exact hr) fuel 0 (Nat.zero_le _) (by have := fuel_big; omega)
  simpa using this
theorem all_lp {α A : Type} {p : α → Bool} {xs : List α} {st : Nat → A} {rnd : (A → Option Bool) → A → Option Bool} (hl : xs.length ≤ 1048576)
    (hend : ∀ rec, rnd rec (st xs.length) = some true)
    (hstep : ∀ rec i (hi : i < xs.length), rnd rec (st i) = cond (p xs[i]) (rec (st (i + 1))) (some false)) : lpN rnd fuel (st 0) = some (xs.all p) := by
  have := lp_idx (rnd := rnd) (st := st) (val := fun i => some ((xs.drop i).all p)) xs.length (fun rec => by rw [hend]; simp) (fun rec i hi hr => by
    rw [hstep rec i hi, List.drop_eq_getElem_cons hi, List.all_cons]
    cases p xs[i] with
    | true => simpa using hr
    | false => rfl) fuel 0 (Nat.zero_le _) (by have := fuel_big; omega)
  simpa using this

/-! ### Names -/
theorem size_zero {s : ByteArray} : s = ⟨#[]⟩ ↔ s.size = 0 := by
  constructor
  · intro h; subst h; rfl
  · intro h
    obtain ⟨d⟩ := s
    have : d.size = 0 := h
    rw [Array.eq_empty_of_size_eq_zero this]
def bOk (c : Int) : Bool := (decide (97 ≤ c) && decide (c ≤ 122)) || (decide (48 ≤ c) && decide (c ≤ 57)) || c == 45
def allB (s : ByteArray) (i : Nat) : Bool := allN (fun j => bOk (sbt s (j : Int))) s.size i
theorem name_step {c : Int} {R : Type} (a b : R) : (cond (decide (c ≥ 97))
 (cond (decide (c ≤ 122)) a
 (cond (decide (c ≥ 48))
 (cond (decide (c ≤ 57)) a
 (cond (!(c == 45)) b a))
 (cond (!(c == 45)) b a)))
 (cond (decide (c ≥ 48))
 (cond (decide (c ≤ 57)) a
 (cond (!(c == 45)) b a))
 (cond (!(c == 45)) b a))) = cond (bOk c) a b := by
  unfold bOk
  by_cases h1 : 97 ≤ c <;> by_cases h2 : c ≤ 122 <;> by_cases h3 : 48 ≤ c <;> by_cases h4 : c ≤ 57 <;> by_cases h5 : c = 45 <;> simp [h1, h2, h3, h4, h5] <;> omega
theorem lp33 {s : ByteArray} (hs : s.size ≤ 281474976710656) : lpN (r33_0 s fuel) fuel 0 = some (allB s 0) :=
  lp_idx (st := fun i => ((i : Nat) : Int)) (val := fun i => some (allB s i)) s.size (fun rec => by simp [r33_0, allB, allN_end]) (fun rec i hi hr => by
    rw [← wrap_nat (by omega)] at hr
    have h1 : (i : Int) < (s.size : Int) := by omega
    simp only [r33_0, h1, decide_true, cond_true, Int.natCast_nonneg]
    rw [name_step, show allB s i = _ from allN_step hi]
    cases hb : bOk (sbt s (i : Int)) with
    | true => simpa [allB] using hr
    | false => rfl) fuel 0 (Nat.zero_le _) (by have := fuel_big; omega)
theorem lp60 {s : ByteArray} (hs : s.size ≤ 281474976710656) : lpN (r60_0 s (s.size : Int) fuel) fuel 0 = some (allB s 0 && (decide (1 ≤ s.size) && decide (s.size ≤ 20))) :=
  lp_idx (st := fun i => ((i : Nat) : Int)) (val := fun i => some (allB s i && (decide (1 ≤ s.size) && decide (s.size ≤ 20)))) s.size (fun rec => by
    simp only [r60_0, Int.lt_irrefl, decide_false, cond_false, allB, allN_end, Bool.true_and]
    by_cases h : s = ⟨#[]⟩
    · have h0 : decide (1 ≤ s.size) = false := by
        have := size_zero.1 h
        simp [this]
      have hd : decide (s = ⟨#[]⟩) = true := by simp [h]
      rw [hd, h0]
      rfl
    · have h2 : 1 ≤ s.size := by
        rcases Nat.eq_zero_or_pos s.size with h' | h'
        · exact absurd (size_zero.2 h') h
        · exact h'
      have h3 : ((s.size : Int) ≤ 20) ↔ s.size ≤ 20 := by omega
      simp [h, h2, h3]) (fun rec i hi hr => by
    rw [← wrap_nat (by omega)] at hr
    have h1 : (i : Int) < (s.size : Int) := by omega
    simp only [r60_0, h1, decide_true, cond_true, Int.natCast_nonneg]
    rw [name_step, show allB s i = _ from allN_step hi]
    cases hb : bOk (sbt s (i : Int)) with
    | true => simpa [allB] using hr
    | false => rfl) fuel 0 (Nat.zero_le _) (by have := fuel_big; omega)
def nmB (s : ByteArray) : Bool := decide (1 ≤ s.size) && (decide (s.size ≤ 20) && allB s 0)
theorem g54 (a b c : Int) : G54 a b c = some (decide (b ≤ a) && decide (a ≤ c)) := by
  unfold G54 G54n
  by_cases h : b ≤ a <;> simp [h]
theorem g33 (s : ByteArray) : G33 s = some (nmB s) := by
  unfold G33 G33n nmB
  rw [g54]
  by_cases h1 : 1 ≤ s.size
  · by_cases h2 : s.size ≤ 20
    · have e1 : (1 : Int) ≤ (s.size : Int) := by omega
      have e2 : (s.size : Int) ≤ 20 := by omega
      simp only [e1, e2, h1, h2, decide_true, Bool.and_self, Option.bind_some, Bool.not_true, cond_false, Bool.true_and]
      exact lp33 (by omega)
    · have e2 : ¬ (s.size : Int) ≤ 20 := by omega
      simp [e2, h2]
  · have e1 : ¬ (1 : Int) ≤ (s.size : Int) := by omega
    simp [e1, h1]
theorem g60 {s : ByteArray} (hs : s.size ≤ 281474976710656) : G60 s = some (nmB s) := by
  unfold G60 G60n nmB
  rw [lp60 hs]
  cases allB s 0 <;> cases decide (1 ≤ s.size) <;> cases decide (s.size ≤ 20) <;> rfl

/-! ### Words in order -/
theorem slt_tri (a b : ByteArray) : (slt a b = true ∧ slt b a = false ∧ a ≠ b) ∨ (slt a b = false ∧ slt b a = true ∧ a ≠ b) ∨ (slt a b = false ∧ slt b a = false ∧ a = b) := by
  unfold slt
  cases h : Go.Op.bytesLess a.toList b.toList with
  | true =>
    obtain ⟨h1, h2⟩ := bytesLess_total _ _ h
    exact .inl ⟨rfl, h1, fun e => by subst e; simp at h2⟩
  | false =>
    cases he : (a.toList == b.toList) with
    | true =>
      have e : a = b := toList_inj (by simpa using he)
      subst e
      exact .inr (.inr ⟨rfl, h, rfl⟩)
    | false =>
      have := bytesLess_or _ _ h he
      exact .inr (.inl ⟨rfl, this, fun e => by subst e; simp at he⟩)
theorem cmpB_eq (a b : ByteArray) : cmpB a b = cond (slt a b) (-1) (cond (slt b a) 1 0) := by
  have key : ∀ x y : List UInt8, Lib.compareBytes x y = cond (Go.Op.bytesLess x y) (-1) (cond (Go.Op.bytesLess y x) 1 0) := by
    intro x
    induction x with
    | nil => intro y; cases y <;> simp [Lib.compareBytes, Go.Op.bytesLess]
    | cons a x ih =>
      intro y
      cases y with
      | nil => simp [Lib.compareBytes, Go.Op.bytesLess]
      | cons b y =>
        simp only [Lib.compareBytes, Go.Op.bytesLess]
        by_cases h1 : a < b
        · simp [h1]
        · by_cases h2 : b < a
          · have : a ≠ b := fun e => by subst e; exact h1 h2
            simp [h1, h2, beq_eq_false_iff_ne.2 this]
          · have e : a = b := by
              rcases Nat.lt_trichotomy a.toNat b.toNat with h4 | h4 | h4
              · exact absurd (UInt8.lt_iff_toNat_lt.2 h4) h1
              · exact UInt8.toNat_inj.1 h4
              · exact absurd (UInt8.lt_iff_toNat_lt.2 h4) h2
            subst e
            simp [h1, ih y]
  unfold cmpB slt
  rw [key, ByteArray.toList_eq, ByteArray.toList_eq]
def lwL : List ByteArray → List ByteArray → Bool
  | [], [] => false
  | [], _ :: _ => true
  | _ :: _, [] => false
  | x :: xs, y :: ys => cond (decide (x = y)) (lwL xs ys) (slt x y)
def cwL : List ByteArray → List ByteArray → Int
  | [], [] => 0
  | [], _ :: _ => -1
  | _ :: _, [] => 1
  | x :: xs, y :: ys => cond (slt x y) (-1) (cond (slt y x) 1 (cwL xs ys))
theorem cwL_lt : ∀ a b : List ByteArray, decide (cwL a b ≥ 0) = !lwL a b
  | [], [] => rfl
  | [], _ :: _ => rfl
  | _ :: _, [] => rfl
  | x :: xs, y :: ys => by
    simp only [cwL, lwL]
    rcases slt_tri x y with ⟨h1, h2, h3⟩ | ⟨h1, h2, h3⟩ | ⟨h1, h2, h3⟩
    · simp [h1, h3]
    · simp [h1, h2, h3]
    · subst h3; simp only [h1, cond_false, decide_true, cond_true]; exact cwL_lt xs ys
theorem lwL_irrefl : ∀ a : List ByteArray, lwL a a = false
  | [] => rfl
  | x :: xs => by simp only [lwL, decide_true, cond_true]; exact lwL_irrefl xs
theorem lwL_tri : ∀ a b : List ByteArray, (!lwL a b && !lwL b a) = decide (a = b)
  | [], [] => rfl
  | [], _ :: _ => rfl
  | _ :: _, [] => rfl
  | x :: xs, y :: ys => by
    simp only [lwL]
    rcases slt_tri x y with ⟨h1, h2, h3⟩ | ⟨h1, h2, h3⟩ | ⟨h1, h2, h3⟩
    · have h3' : y ≠ x := fun e => h3 e.symm
      simp [h1, h2, h3, h3']
    · have h3' : y ≠ x := fun e => h3 e.symm
      simp [h1, h2, h3, h3']
    · subst h3
      have := lwL_tri xs ys
      simp only [decide_true, cond_true, this, List.cons.injEq, true_and]
theorem g69 {a b : List ByteArray} (ha : a.length ≤ 1048576) : G69 a b = some (lwL a b) := by
  unfold G69 G69n
  have := lp_idx (rnd := r69_0 a b fuel) (st := fun i => ((i : Nat) : Int)) (val := fun i => some (lwL (a.drop i) (b.drop i))) (min a.length b.length) (fun rec => by
    rcases Nat.lt_or_ge a.length b.length with h | h
    · have e : min a.length b.length = a.length := by omega
      have h2 : (a.length : Int) < (b.length : Int) := by omega
      have hd : ∃ y ys, b.drop a.length = y :: ys := ⟨_, _, List.drop_eq_getElem_cons h⟩
      obtain ⟨y, ys, hd⟩ := hd
      simp only [e, r69_0, Int.lt_irrefl, decide_false, cond_false, h2, decide_true, List.drop_length, hd, lwL]
    · have e : min a.length b.length = b.length := by omega
      have h2 : ¬ (a.length : Int) < (b.length : Int) := by omega
      rw [e]
      rcases Nat.lt_or_ge b.length a.length with h3 | h3
      · obtain ⟨y, ys, hd⟩ : ∃ y ys, a.drop b.length = y :: ys := ⟨_, _, List.drop_eq_getElem_cons h3⟩
        have h4 : (b.length : Int) < (a.length : Int) := by omega
        simp only [r69_0, h4, h2, Int.lt_irrefl, decide_true, decide_false, cond_true, cond_false, List.drop_length, hd, lwL]
      · have h5 : a.length = b.length := by omega
        have hda : a.drop b.length = [] := by rw [← h5]; exact List.drop_length
        simp only [r69_0, h5, Int.lt_irrefl, decide_false, cond_false, hda, List.drop_length, lwL]) (fun rec i hi hr => by
    rw [← wrap_nat (by omega)] at hr
    have hia : i < a.length := by omega
    have hib : i < b.length := by omega
    have h1 : (i : Int) < (a.length : Int) := by omega
    have h2 : (i : Int) < (b.length : Int) := by omega
    simp only [r69_0, h1, h2, decide_true, cond_true, Int.natCast_nonneg, get_cast hia, get_cast hib, Option.bind_some]
    rw [List.drop_eq_getElem_cons hia, List.drop_eq_getElem_cons hib]
    simp only [lwL]
    cases hd : decide (a[i] = b[i]) with
    | true => simpa using hr
    | false => rfl) fuel 0 (Nat.zero_le _) (by have := fuel_big; omega)
  simpa using this
theorem g58 {a b : List ByteArray} (ha : a.length ≤ 1048576) (hb : b.length ≤ 1048576) : G58 a b = some (decide (a = b)) := by
  unfold G58 G58n
  rw [g69 ha, g69 hb, ← lwL_tri a b]
  cases lwL a b <;> cases lwL b a <;> rfl
theorem g81 (a b : ByteArray) : G81 a b = some (cond (slt a b) (-1) (cond (slt b a) 1 0)) := by
  unfold G81 G81n G88 G88n
  simp only [decide_true, Bool.not_true, Option.bind_some, cond_false]
  cases slt a b <;> cases slt b a <;> rfl
theorem g72 {a b : List ByteArray} (ha : a.length ≤ 1048576) : G72 a b = some (cwL a b) := by
  unfold G72 G72n
  have := lp_idx (rnd := r72_0 a b a (a.length : Int) fuel) (st := fun i => ((i : Nat) : Int)) (val := fun i => some (cwL (a.drop i) (b.drop i))) (min a.length b.length) (fun rec => by
    rcases Nat.lt_or_ge b.length a.length with h | h
    · have e : min a.length b.length = b.length := by omega
      rw [e]
      have hd := List.drop_eq_getElem_cons h
      have h4 : (b.length : Int) < (a.length : Int) := by omega
      simp only [r72_0, h4, decide_true, cond_true, Int.natCast_nonneg, get_cast h, Option.bind_some, Int.le_refl, ge_iff_le, hd, List.drop_length, cwL]
    · have e : min a.length b.length = a.length := by omega
      simp only [e, r72_0, Int.lt_irrefl, decide_false, cond_false, List.drop_length]
      rcases Nat.lt_or_ge a.length b.length with h3 | h3
      · have hd := List.drop_eq_getElem_cons h3
        have h2 : (a.length : Int) < (b.length : Int) := by omega
        simp only [h2, decide_true, cond_true, hd, cwL]
      · have h5 : a.length = b.length := by omega
        have hdb : b.drop a.length = [] := by rw [h5]; exact List.drop_length
        have h2 : ¬ (a.length : Int) < (b.length : Int) := by omega
        simp only [h2, decide_false, cond_false, hdb, cwL]) (fun rec i hi hr => by
    rw [← wrap_nat (by omega)] at hr
    have hia : i < a.length := by omega
    have hib : i < b.length := by omega
    have h1 : (i : Int) < (a.length : Int) := by omega
    have h2 : ¬ (i : Int) ≥ (b.length : Int) := by omega
    simp only [r72_0, h1, h2, decide_true, decide_false, cond_true, cond_false, Int.natCast_nonneg, get_cast hia, get_cast hib, Option.bind_some, g81]
    rw [List.drop_eq_getElem_cons hia, List.drop_eq_getElem_cons hib]
    simp only [cwL]
    cases slt a[i] b[i] with
    | true => rfl
    | false =>
      cases slt b[i] a[i] with
      | true => rfl
      | false => simpa using hr) fuel 0 (Nat.zero_le _) (by have := fuel_big; omega)
  simpa using this
end Go.Proofs.YtadopcpehgblcaaDoor.Ab

/- The plain law of SheetDiff: the rules. Printed. -/
set_option linter.unusedVariables false
set_option linter.unusedSimpArgs false
namespace Go.Proofs.YtadopcpehgblcaaDoor.Ab
open Go Go.RowKit
def rul_team : List VSheetRule := [⟨(⟨#[99, 111, 112, 105, 101, 115]⟩ : ByteArray), [1], false, [(⟨#[49, 48, 48]⟩ : ByteArray)]⟩,
  ⟨(⟨#[114, 111, 111, 109]⟩ : ByteArray), [1], false, [(⟨#[49, 48, 48, 48]⟩ : ByteArray)]⟩]
def rul_berth : List VSheetRule := [⟨(⟨#[122, 111, 110, 101]⟩ : ByteArray), [3], false, [(⟨#[122]⟩ : ByteArray)]⟩,
  ⟨(⟨#[114, 111, 111, 109]⟩ : ByteArray), [1], false, [(⟨#[49, 48, 48]⟩ : ByteArray)]⟩,
  ⟨(⟨#[104, 111, 108, 100]⟩ : ByteArray), [1], false, [(⟨#[49, 48, 48]⟩ : ByteArray)]⟩,
  ⟨(⟨#[109, 97, 114, 107]⟩ : ByteArray), [3], true, []⟩]
def rul_service : List VSheetRule := [⟨(⟨#[116, 101, 97, 109]⟩ : ByteArray), [3], false, [(⟨#[99, 111, 114, 101]⟩ : ByteArray)]⟩,
  ⟨(⟨#[105, 109, 97, 103, 101]⟩ : ByteArray), [1], false, [(⟨#[49]⟩ : ByteArray)]⟩,
  ⟨(⟨#[119, 97, 110, 116]⟩ : ByteArray), [1], false, [(⟨#[49]⟩ : ByteArray)]⟩,
  ⟨(⟨#[100, 111, 119, 110]⟩ : ByteArray), [1], false, [(⟨#[49]⟩ : ByteArray)]⟩,
  ⟨(⟨#[111, 118, 101, 114]⟩ : ByteArray), [1], false, [(⟨#[48]⟩ : ByteArray)]⟩,
  ⟨(⟨#[110, 101, 101, 100, 115]⟩ : ByteArray), [1, 1], false, [(⟨#[49]⟩ : ByteArray), (⟨#[49]⟩ : ByteArray)]⟩,
  ⟨(⟨#[119, 104, 101, 114, 101]⟩ : ByteArray), [4], false, [(⟨#[]⟩ : ByteArray)]⟩,
  ⟨(⟨#[108, 105, 107, 101]⟩ : ByteArray), [4, 2], true, []⟩,
  ⟨(⟨#[97, 112, 97, 114, 116]⟩ : ByteArray), [6], false, [(⟨#[110, 111, 110, 101]⟩ : ByteArray)]⟩,
  ⟨(⟨#[118, 111, 108, 117, 109, 101]⟩ : ByteArray), [5], false, [(⟨#[110, 111]⟩ : ByteArray)]⟩,
  ⟨(⟨#[102, 111, 108, 108, 111, 119]⟩ : ByteArray), [1, 1, 1], false, [(⟨#[48]⟩ : ByteArray), (⟨#[48]⟩ : ByteArray), (⟨#[48]⟩ : ByteArray)]⟩,
  ⟨(⟨#[112, 97, 99, 101]⟩ : ByteArray), [1, 1, 1], false, [(⟨#[48]⟩ : ByteArray), (⟨#[48]⟩ : ByteArray), (⟨#[48]⟩ : ByteArray)]⟩]
def rulesOf (k : ByteArray) : List VSheetRule := cond (decide (k = (⟨#[116, 101, 97, 109]⟩ : ByteArray))) rul_team (cond (decide (k = (⟨#[98, 101, 114, 116, 104]⟩ : ByteArray))) rul_berth (cond (decide (k = (⟨#[115, 101, 114, 118, 105, 99, 101]⟩ : ByteArray))) rul_service []))
theorem spl1 : G65 ⟨#[49, 48, 48]⟩ ⟨#[32]⟩ = some [(⟨#[49, 48, 48]⟩ : ByteArray)] := by kernel_rfl
theorem one1 : G52 ⟨#[99, 111, 112, 105, 101, 115]⟩ ⟨#[49, 48, 48]⟩ [1] = some ⟨(⟨#[99, 111, 112, 105, 101, 115]⟩ : ByteArray), [1], false, [(⟨#[49, 48, 48]⟩ : ByteArray)]⟩ := by kernel_rfl
theorem spl2 : G65 ⟨#[49, 48, 48, 48]⟩ ⟨#[32]⟩ = some [(⟨#[49, 48, 48, 48]⟩ : ByteArray)] := by kernel_rfl
theorem one2 : G52 ⟨#[114, 111, 111, 109]⟩ ⟨#[49, 48, 48, 48]⟩ [1] = some ⟨(⟨#[114, 111, 111, 109]⟩ : ByteArray), [1], false, [(⟨#[49, 48, 48, 48]⟩ : ByteArray)]⟩ := by kernel_rfl
theorem spl3 : G65 ⟨#[122]⟩ ⟨#[32]⟩ = some [(⟨#[122]⟩ : ByteArray)] := by kernel_rfl
theorem one3 : G52 ⟨#[122, 111, 110, 101]⟩ ⟨#[122]⟩ [3] = some ⟨(⟨#[122, 111, 110, 101]⟩ : ByteArray), [3], false, [(⟨#[122]⟩ : ByteArray)]⟩ := by kernel_rfl
theorem one4 : G52 ⟨#[114, 111, 111, 109]⟩ ⟨#[49, 48, 48]⟩ [1] = some ⟨(⟨#[114, 111, 111, 109]⟩ : ByteArray), [1], false, [(⟨#[49, 48, 48]⟩ : ByteArray)]⟩ := by kernel_rfl
theorem one5 : G52 ⟨#[104, 111, 108, 100]⟩ ⟨#[49, 48, 48]⟩ [1] = some ⟨(⟨#[104, 111, 108, 100]⟩ : ByteArray), [1], false, [(⟨#[49, 48, 48]⟩ : ByteArray)]⟩ := by kernel_rfl
theorem spl4 : G65 ⟨#[99, 111, 114, 101]⟩ ⟨#[32]⟩ = some [(⟨#[99, 111, 114, 101]⟩ : ByteArray)] := by kernel_rfl
theorem one6 : G52 ⟨#[116, 101, 97, 109]⟩ ⟨#[99, 111, 114, 101]⟩ [3] = some ⟨(⟨#[116, 101, 97, 109]⟩ : ByteArray), [3], false, [(⟨#[99, 111, 114, 101]⟩ : ByteArray)]⟩ := by kernel_rfl
theorem spl5 : G65 ⟨#[49]⟩ ⟨#[32]⟩ = some [(⟨#[49]⟩ : ByteArray)] := by kernel_rfl
theorem one7 : G52 ⟨#[105, 109, 97, 103, 101]⟩ ⟨#[49]⟩ [1] = some ⟨(⟨#[105, 109, 97, 103, 101]⟩ : ByteArray), [1], false, [(⟨#[49]⟩ : ByteArray)]⟩ := by kernel_rfl
theorem one8 : G52 ⟨#[119, 97, 110, 116]⟩ ⟨#[49]⟩ [1] = some ⟨(⟨#[119, 97, 110, 116]⟩ : ByteArray), [1], false, [(⟨#[49]⟩ : ByteArray)]⟩ := by kernel_rfl
theorem one9 : G52 ⟨#[100, 111, 119, 110]⟩ ⟨#[49]⟩ [1] = some ⟨(⟨#[100, 111, 119, 110]⟩ : ByteArray), [1], false, [(⟨#[49]⟩ : ByteArray)]⟩ := by kernel_rfl
theorem spl6 : G65 ⟨#[48]⟩ ⟨#[32]⟩ = some [(⟨#[48]⟩ : ByteArray)] := by kernel_rfl
theorem one10 : G52 ⟨#[111, 118, 101, 114]⟩ ⟨#[48]⟩ [1] = some ⟨(⟨#[111, 118, 101, 114]⟩ : ByteArray), [1], false, [(⟨#[48]⟩ : ByteArray)]⟩ := by kernel_rfl
theorem spl7 : G65 ⟨#[49, 32, 49]⟩ ⟨#[32]⟩ = some [(⟨#[49]⟩ : ByteArray), (⟨#[49]⟩ : ByteArray)] := by kernel_rfl
theorem one11 : G52 ⟨#[110, 101, 101, 100, 115]⟩ ⟨#[49, 32, 49]⟩ [1, 1] = some ⟨(⟨#[110, 101, 101, 100, 115]⟩ : ByteArray), [1, 1], false, [(⟨#[49]⟩ : ByteArray), (⟨#[49]⟩ : ByteArray)]⟩ := by kernel_rfl
theorem spl8 : G65 ⟨#[]⟩ ⟨#[32]⟩ = some [(⟨#[]⟩ : ByteArray)] := by kernel_rfl
theorem one12 : G52 ⟨#[119, 104, 101, 114, 101]⟩ ⟨#[]⟩ [4] = some ⟨(⟨#[119, 104, 101, 114, 101]⟩ : ByteArray), [4], false, [(⟨#[]⟩ : ByteArray)]⟩ := by kernel_rfl
theorem spl9 : G65 ⟨#[110, 111, 110, 101]⟩ ⟨#[32]⟩ = some [(⟨#[110, 111, 110, 101]⟩ : ByteArray)] := by kernel_rfl
theorem one13 : G52 ⟨#[97, 112, 97, 114, 116]⟩ ⟨#[110, 111, 110, 101]⟩ [6] = some ⟨(⟨#[97, 112, 97, 114, 116]⟩ : ByteArray), [6], false, [(⟨#[110, 111, 110, 101]⟩ : ByteArray)]⟩ := by kernel_rfl
theorem spl10 : G65 ⟨#[110, 111]⟩ ⟨#[32]⟩ = some [(⟨#[110, 111]⟩ : ByteArray)] := by kernel_rfl
theorem one14 : G52 ⟨#[118, 111, 108, 117, 109, 101]⟩ ⟨#[110, 111]⟩ [5] = some ⟨(⟨#[118, 111, 108, 117, 109, 101]⟩ : ByteArray), [5], false, [(⟨#[110, 111]⟩ : ByteArray)]⟩ := by kernel_rfl
theorem spl11 : G65 ⟨#[48, 32, 48, 32, 48]⟩ ⟨#[32]⟩ = some [(⟨#[48]⟩ : ByteArray), (⟨#[48]⟩ : ByteArray), (⟨#[48]⟩ : ByteArray)] := by kernel_rfl
theorem one15 : G52 ⟨#[102, 111, 108, 108, 111, 119]⟩ ⟨#[48, 32, 48, 32, 48]⟩ [1, 1, 1] = some ⟨(⟨#[102, 111, 108, 108, 111, 119]⟩ : ByteArray), [1, 1, 1], false, [(⟨#[48]⟩ : ByteArray), (⟨#[48]⟩ : ByteArray), (⟨#[48]⟩ : ByteArray)]⟩ := by kernel_rfl
theorem one16 : G52 ⟨#[112, 97, 99, 101]⟩ ⟨#[48, 32, 48, 32, 48]⟩ [1, 1, 1] = some ⟨(⟨#[112, 97, 99, 101]⟩ : ByteArray), [1, 1, 1], false, [(⟨#[48]⟩ : ByteArray), (⟨#[48]⟩ : ByteArray), (⟨#[48]⟩ : ByteArray)]⟩ := by kernel_rfl
theorem g22 (k : ByteArray) : G22 k = some (rulesOf k) := by
  unfold G22 G22n rulesOf
  simp only [spl1, spl2, spl3, spl4, spl5, spl6, spl7, spl8, spl9, spl10, spl11, Option.bind_some]
  cases decide (k = (⟨#[116, 101, 97, 109]⟩ : ByteArray)) <;> cases decide (k = (⟨#[98, 101, 114, 116, 104]⟩ : ByteArray)) <;> cases decide (k = (⟨#[115, 101, 114, 118, 105, 99, 101]⟩ : ByteArray)) <;> rfl
theorem g53 (k : ByteArray) (a : List Int) (h : a.length ≤ 1048576) : G53 k a = some ⟨k, a, true, []⟩ := by
  unfold G53 G53n
  have : (([] : List Int).length + a.length) * 8 ≤ 140737488355328 := by simp; omega
  simp only [this, decide_true, cond_true, List.nil_append]
theorem g32 (k : ByteArray) : G32 k = some (rulesOf k) := by
  unfold G32 G32n rulesOf
  rw [g53 _ _ (by decide), g53 _ _ (by decide)]
  simp only [one1, one2, one3, one4, one5, one6, one7, one8, one9, one10, one11, one12, one13, one14, one15, one16, Option.bind_some]
  cases decide (k = (⟨#[116, 101, 97, 109]⟩ : ByteArray)) <;> cases decide (k = (⟨#[98, 101, 114, 116, 104]⟩ : ByteArray)) <;> cases decide (k = (⟨#[115, 101, 114, 118, 105, 99, 101]⟩ : ByteArray)) <;> rfl
theorem rules_len (k : ByteArray) : (rulesOf k).length ≤ 12 := by
  unfold rulesOf
  cases decide (k = (⟨#[116, 101, 97, 109]⟩ : ByteArray)) <;> cases decide (k = (⟨#[98, 101, 114, 116, 104]⟩ : ByteArray)) <;> cases decide (k = (⟨#[115, 101, 114, 118, 105, 99, 101]⟩ : ByteArray)) <;> decide
def argsOk (r : VSheetRule) : Bool := decide (r.Args.length ≤ 8) && r.Args.all fun t => decide (1 ≤ t) && decide (t ≤ 6)
theorem rules_args (k : ByteArray) : (rulesOf k).all argsOk = true := by
  unfold rulesOf
  cases decide (k = (⟨#[116, 101, 97, 109]⟩ : ByteArray)) <;> cases decide (k = (⟨#[98, 101, 114, 116, 104]⟩ : ByteArray)) <;> cases decide (k = (⟨#[115, 101, 114, 118, 105, 99, 101]⟩ : ByteArray)) <;> rfl
end Go.Proofs.YtadopcpehgblcaaDoor.Ab

/- The plain law of SheetDiff: numbers and types of words. -/
set_option linter.unusedVariables false
set_option linter.unusedSimpArgs false
namespace Go.Proofs.YtadopcpehgblcaaDoor.Ab
open Go Go.RowKit

def dgB (c : Int) : Bool := decide (48 ≤ c) && decide (c ≤ 57)
def dgs (s : ByteArray) (i : Nat) : Bool := allN (fun j => dgB (sbt s (j : Int))) s.size i
def dg (s : ByteArray) (i : Nat) : Nat := (sbt s (i : Int) - 48).toNat % 10
def numV (s : ByteArray) : Nat → Nat
  | 0 => 0
  | i + 1 => 10 * numV s i + dg s i
theorem dg_lt (s : ByteArray) (i : Nat) : dg s i < 10 := Nat.mod_lt _ (by decide)
theorem numV_lt (s : ByteArray) : ∀ i, numV s i < 10 ^ i
  | 0 => by simp [numV]
  | i + 1 => by
    have h1 := numV_lt s i
    have h2 := dg_lt s i
    simp only [numV, Nat.pow_succ]
    omega
theorem dg_eq {s : ByteArray} {i : Nat} (h : dgB (sbt s (i : Int)) = true) : IntKind.i64.wrap (IntKind.u8.wrap (sbt s (i : Int) - 48)) = (dg s i : Int) := by
  simp only [dgB, Bool.and_eq_true, decide_eq_true_eq] at h
  obtain ⟨h1, h2⟩ := h
  have e : ((sbt s (i : Int) - 48).toNat % 10 : Nat) = (sbt s (i : Int) - 48).toNat := Nat.mod_eq_of_lt (by omega)
  unfold dg
  rw [e]
  have h3 : IntKind.u8.wrap (sbt s (i : Int) - 48) = sbt s (i : Int) - 48 := by
    simp [IntKind.wrap, IntKind.bits, IntKind.signed]; omega
  rw [h3, wrap_id (by omega) (by omega)]
  omega
theorem num_step {s : ByteArray} {i : Nat} (hi : i < 7) (h : dgB (sbt s (i : Int)) = true) : IntKind.i64.wrap ((IntKind.i64.wrap (10 * (numV s i : Int))) + IntKind.i64.wrap (IntKind.u8.wrap (sbt s (i : Int) - 48))) = (numV s (i + 1) : Int) := by
  have h1 := numV_lt s i
  have h2 : (10 : Nat) ^ i ≤ 10 ^ 7 := Nat.pow_le_pow_right (by decide) (by omega)
  have h3 : (10 : Nat) ^ 7 = 10000000 := rfl
  have h4 := dg_lt s i
  rw [dg_eq h, wrap_id (n := 10 * _) (by omega) (by omega), wrap_id (by omega) (by omega)]
  simp only [numV]
  omega
theorem dig_cases (c : Int) {R : Type} (a b : R) : cond (decide (c < 48)) b (cond (decide (c > 57)) b a) = cond (dgB c) a b := by
  unfold dgB
  by_cases h1 : 48 ≤ c <;> by_cases h2 : c ≤ 57
  · have : ¬ c < 48 := by omega
    have : ¬ c > 57 := by omega
    simp [*]
  · have : ¬ c < 48 := by omega
    have : c > 57 := by omega
    simp [*]
  · have : c < 48 := by omega
    simp [*]
  · have : c < 48 := by omega
    simp [*]
theorem lp77 {s : ByteArray} (hs : s.size ≤ 7) : lpN (r77_0 s fuel) fuel (0, 0) = cond (dgs s 0) (Option.bind (G86 (numV s s.size : Int)) fun r2 => cond (decide (r2 = s)) (some (decide ((numV s s.size : Int) ≤ 1000000))) (some false)) (some false) :=
  lp_idx (rnd := r77_0 s fuel) (st := fun i => ((numV s i : Int), ((i : Nat) : Int))) (val := fun i => cond (dgs s i) (Option.bind (G86 (numV s s.size : Int)) fun r2 => cond (decide (r2 = s)) (some (decide ((numV s s.size : Int) ≤ 1000000))) (some false)) (some false)) s.size (fun rec => by
    simp only [r77_0, Int.lt_irrefl, decide_false, cond_false, dgs, allN_end, cond_true]) (fun rec i hi hr => by
    rw [← wrap_nat (by omega)] at hr
    have h1 : (i : Int) < (s.size : Int) := by omega
    simp only [r77_0, h1, decide_true, cond_true, Int.natCast_nonneg]
    rw [dig_cases, show dgs s i = _ from allN_step hi]
    cases hb : dgB (sbt s (i : Int)) with
    | true =>
      have e := num_step (by omega) hb
      rw [Int.mul_comm] at e
      simp only [cond_true, Bool.true_and, e]
      exact hr
    | false => rfl) fuel 0 (Nat.zero_le _) (by have := fuel_big; omega)
theorem lp79 {s : ByteArray} (hs : s.size ≤ 7) : lpN (r79_0 s (s.size : Int) fuel) fuel (0, 0) = some (dgs s 0 && decide ((numV s s.size : Int) ≤ 1000000)) :=
  lp_idx (rnd := r79_0 s (s.size : Int) fuel) (st := fun i => ((numV s i : Int), ((i : Nat) : Int))) (val := fun i => some (dgs s i && decide ((numV s s.size : Int) ≤ 1000000))) s.size (fun rec => by
    simp only [r79_0, Int.lt_irrefl, decide_false, cond_false, dgs, allN_end, Bool.true_and]) (fun rec i hi hr => by
    rw [← wrap_nat (by omega)] at hr
    have h1 : (i : Int) < (s.size : Int) := by omega
    simp only [r79_0, h1, decide_true, cond_true, Int.natCast_nonneg]
    rw [dig_cases, show dgs s i = _ from allN_step hi]
    cases hb : dgB (sbt s (i : Int)) with
    | true =>
      have e := num_step (by omega) hb
      simp only [cond_true, Bool.true_and, e]
      exact hr
    | false => rfl) fuel 0 (Nat.zero_le _) (by have := fuel_big; omega)

/-! ### The decimal text of a number -/
def dl (n : Nat) : List UInt8 := if n < 10 then [UInt8.ofNat (48 + n)] else dl (n / 10) ++ [UInt8.ofNat (48 + n % 10)]
termination_by n
decreasing_by omega
theorem one_dig {n : Nat} (h : n < 10) : strOf KK .e5 ([IntKind.u8.wrap (IntKind.i64.wrap (48 + (n : Int)))] : List (C .e5)) = ⟨#[UInt8.ofNat (48 + n)]⟩ := by
  obtain rfl | rfl | rfl | rfl | rfl | rfl | rfl | rfl | rfl | rfl : n = 0 ∨ n = 1 ∨ n = 2 ∨ n = 3 ∨ n = 4 ∨ n = 5 ∨ n = 6 ∨ n = 7 ∨ n = 8 ∨ n = 9 := by omega
  all_goals kernel_rfl
theorem dl_len : ∀ d n, n < 10 ^ (d + 1) → (dl n).length ≤ d + 1
  | 0, n, h => by unfold dl; rw [if_pos (by simpa using h)]; simp
  | d + 1, n, h => by
    unfold dl
    split
    · simp
    · have := dl_len d (n / 10) (by rw [Nat.pow_succ] at h; omega)
      simp; omega
theorem g86 : ∀ (d n : Nat), n < 10 ^ (d + 1) → d ≤ 17 → ∀ m : Nat, d < m → G86d m ((n : Nat) : Int) = some ⟨(dl n).toArray⟩
  | d, n, h, hd, 0, hm => by omega
  | d, n, h, hd, m + 1, hm => by
    have hb : (10 : Nat) ^ (d + 1) ≤ 10 ^ 18 := Nat.pow_le_pow_right (by decide) (by omega)
    have hb2 : (10 : Nat) ^ 18 = 1000000000000000000 := rfl
    show B86 (G86d m) (n : Int) = _
    have h0 : ¬ (n : Int) < 0 := by omega
    simp only [B86, h0, decide_false, cond_false]
    by_cases h1 : n < 10
    · have h2 : (n : Int) < 10 := by omega
      simp only [h2, decide_true, cond_true, one_dig h1]
      unfold dl
      rw [if_pos h1]
    · have h2 : ¬ (n : Int) < 10 := by omega
      have h3 : ¬ (10 : Int) = 0 := by decide
      have e1 : (n : Int).tdiv 10 = ((n / 10 : Nat) : Int) := by rw [Int.tdiv_eq_ediv_of_nonneg (by omega)]; omega
      have e2 : (n : Int).tmod 10 = ((n % 10 : Nat) : Int) := by rw [Int.tmod_eq_emod_of_nonneg (by omega)]; omega
      cases d with
      | zero => simp at h; omega
      | succ d =>
        have hd1 : n / 10 < 10 ^ (d + 1) := by rw [Nat.pow_succ] at h; omega
        have hs := dl_len d (n / 10) hd1
        have hw : IntKind.i64.wrap ((n / 10 : Nat) : Int) = ((n / 10 : Nat) : Int) := by
          rw [wrap_id (by omega) (by omega)]
        have ih := g86 d (n / 10) hd1 (by omega) m (by omega)
        have hz : (⟨(dl (n / 10)).toArray⟩ : ByteArray).size + (⟨#[UInt8.ofNat (48 + n % 10)]⟩ : ByteArray).size ≤ 9223372036854775807 := by
          show (dl (n / 10)).toArray.size + 1 ≤ _
          simp; omega
        simp only [h2, h3, decide_false, cond_false, e1, e2, hw, ih, Option.bind_some, one_dig (Nat.mod_lt n (by decide : 0 < 10)), hz, decide_true, cond_true]
        conv => rhs; unfold dl
        rw [if_neg h1]
        congr 1
        all_goals (apply ByteArray.ext; simp [ByteArray.data_append])
theorem sbt_get {s : ByteArray} {i : Nat} (h : i < s.size) : sbt s (i : Int) = ((s.data.toList[i]'(by simpa using h)).toNat : Int) := by
  have h1 : s[i]? = some s[i] := getElem?_pos s i h
  unfold sbt
  rw [Int.toNat_natCast, h1]
  rfl
theorem dgs_all {s : ByteArray} (h : dgs s 0 = true) {j : Nat} (hj : j < s.size) : dgB (sbt s (j : Int)) = true := by
  unfold dgs allN at h
  rw [List.all_eq_true] at h
  exact h j (by simp [List.mem_range']; omega)
theorem dg_byte {s : ByteArray} {i : Nat} (hi : i < s.size) (h : dgB (sbt s (i : Int)) = true) : UInt8.ofNat (48 + dg s i) = s.data.toList[i]'(by simpa using hi) ∧ (dg s i : Int) = sbt s (i : Int) - 48 := by
  simp only [dgB, Bool.and_eq_true, decide_eq_true_eq] at h
  obtain ⟨h1, h2⟩ := h
  have e : dg s i = (sbt s (i : Int) - 48).toNat := Nat.mod_eq_of_lt (by omega)
  have e2 := sbt_get hi
  constructor
  · have : 48 + dg s i = (s.data.toList[i]'(by simpa using hi)).toNat := by omega
    rw [this]
    exact UInt8.ofNat_toNat
  · omega
theorem numV_pos {s : ByteArray} (hd : dgs s 0 = true) (h0 : sbt s 0 ≠ 48) : ∀ i, 1 ≤ i → i ≤ s.size → 1 ≤ numV s i
  | 0, h, _ => by omega
  | i + 1, _, hi => by
    simp only [numV]
    cases i with
    | zero =>
      have := (dg_byte (i := 0) (by omega) (dgs_all hd (by omega))).2
      have e : sbt s ((0 : Nat) : Int) = sbt s 0 := rfl
      have h3 := dgs_all hd (j := 0) (by omega)
      simp only [dgB, Bool.and_eq_true, decide_eq_true_eq] at h3
      rw [e] at this h3
      omega
    | succ i => have := numV_pos hd h0 (i + 1) (by omega) (by omega); omega
theorem pref {s : ByteArray} (hd : dgs s 0 = true) : ∀ i, 1 ≤ i → i ≤ s.size → (i = 1 ∨ sbt s 0 ≠ 48) → s.data.toList.take i = dl (numV s i)
  | 0, h, _, _ => by omega
  | i + 1, _, hi, h0 => by
    obtain ⟨b1, b2⟩ := dg_byte (i := i) (by omega) (dgs_all hd (by omega))
    have hlen : i < s.data.toList.length := by simpa using (show i < s.size by omega)
    rw [List.take_succ_eq_append_getElem hlen, ← b1]
    have hlt := dg_lt s i
    cases i with
    | zero =>
      simp only [numV, List.take_zero, List.nil_append]
      unfold dl
      rw [if_pos (by omega)]
      simp
    | succ i =>
      have h48 : sbt s 0 ≠ 48 := by rcases h0 with h | h; omega; exact h
      have hp := numV_pos hd h48 (i + 1) (by omega) (by omega)
      rw [pref hd (i + 1) (by omega) (by omega) (.inr h48)]
      conv => rhs; unfold dl
      have e : numV s (i + 1 + 1) = 10 * numV s (i + 1) + dg s (i + 1) := rfl
      rw [if_neg (by omega), e, show (10 * numV s (i + 1) + dg s (i + 1)) / 10 = numV s (i + 1) by omega, show (10 * numV s (i + 1) + dg s (i + 1)) % 10 = dg s (i + 1) by omega]
theorem dl_head : ∀ (m n : Nat), n ≤ m → 1 ≤ n → ∃ x xs, dl n = x :: xs ∧ x ≠ 48
  | 0, n, h, h1 => by omega
  | m + 1, n, h, h1 => by
    unfold dl
    by_cases h2 : n < 10
    · rw [if_pos h2]
      refine ⟨_, _, rfl, ?_⟩
      obtain rfl | rfl | rfl | rfl | rfl | rfl | rfl | rfl | rfl : n = 1 ∨ n = 2 ∨ n = 3 ∨ n = 4 ∨ n = 5 ∨ n = 6 ∨ n = 7 ∨ n = 8 ∨ n = 9 := by omega
      all_goals decide
    · rw [if_neg h2]
      obtain ⟨x, xs, e, hx⟩ := dl_head m (n / 10) (by omega) (by omega)
      exact ⟨x, xs ++ [UInt8.ofNat (48 + n % 10)], by rw [e]; rfl, hx⟩
theorem dec_iff {s : ByteArray} (hd : dgs s 0 = true) (h1 : 1 ≤ s.size) : decide ((⟨(dl (numV s s.size)).toArray⟩ : ByteArray) = s) = !(decide ((s.size : Int) > 1) && (sbt s 0 == 48)) := by
  have hiff : (⟨(dl (numV s s.size)).toArray⟩ : ByteArray) = s ↔ dl (numV s s.size) = s.data.toList := by
    constructor
    · intro h
      have : (⟨(dl (numV s s.size)).toArray⟩ : ByteArray).data.toList = s.data.toList := by rw [h]
      simpa using this
    · intro h
      rw [h]
  have htake : s.data.toList.take s.size = s.data.toList := List.take_of_length_le (by simp)
  by_cases hc : s.size > 1 ∧ sbt s 0 = 48
  · have h2 : decide ((s.size : Int) > 1) = true := by simp; omega
    have h3 : (sbt s 0 == 48) = true := by simp [hc.2]
    rw [h2, h3]
    simp only [Bool.and_self, Bool.not_true, decide_eq_false_iff_not, hiff]
    intro h
    have hb := (dg_byte (i := 0) (by omega) (dgs_all hd (by omega)))
    have hg := sbt_get (s := s) (i := 0) (by omega)
    rcases Nat.eq_zero_or_pos (numV s s.size) with h0 | h0
    · rw [h0] at h
      have e : dl 0 = [48] := by unfold dl; rfl
      rw [e] at h
      have : s.data.toList.length = 1 := by rw [← h]; rfl
      simp at this
      omega
    · obtain ⟨x, xs, e, hx⟩ := dl_head _ _ (Nat.le_refl _) h0
      rw [e] at h
      have h4 : s.data.toList[0]'(by simp; omega) = x := by simp only [← h]; rfl
      have h5 : ((s.data.toList[0]'(by simp; omega)).toNat : Int) = 48 := by rw [← hg]; exact hc.2
      rw [h4] at h5
      apply hx
      apply UInt8.toNat_inj.1
      show x.toNat = 48
      omega
  · have h2 : (decide ((s.size : Int) > 1) && (sbt s 0 == 48)) = false := by
      by_cases h3 : (s.size : Int) > 1
      · have : sbt s 0 ≠ 48 := fun e => hc ⟨by omega, e⟩
        simp [this]
      · simp [h3]
    rw [h2]
    simp only [Bool.not_false, decide_eq_true_eq, hiff]
    rw [← pref hd s.size h1 (Nat.le_refl _) (by
      by_cases h3 : s.size > 1
      · exact .inr fun e => hc ⟨h3, e⟩
      · exact .inl (by omega)), htake]
def nuB (s : ByteArray) : Bool := decide (1 ≤ s.size) && decide (s.size ≤ 7) && !(decide ((s.size : Int) > 1) && (sbt s 0 == 48)) && (dgs s 0 && decide ((numV s s.size : Int) ≤ 1000000))
theorem g77 (s : ByteArray) : G77 s = some (nuB s) := by
  unfold G77 G77n nuB
  rw [g54]
  by_cases h1 : 1 ≤ s.size
  · by_cases h2 : s.size ≤ 7
    · have e1 : (1 : Int) ≤ (s.size : Int) := by omega
      have e2 : (s.size : Int) ≤ 7 := by omega
      simp only [e1, e2, h1, h2, decide_true, Bool.and_self, Option.bind_some, Bool.not_true, cond_false, Bool.true_and]
      rw [lp77 h2]
      cases hd : dgs s 0 with
      | false => simp
      | true =>
        have hlt := numV_lt s s.size
        have hle : (10 : Nat) ^ s.size ≤ 10 ^ 7 := Nat.pow_le_pow_right (by decide) h2
        have h86 : G86 (numV s s.size : Int) = some ⟨(dl (numV s s.size)).toArray⟩ := g86 6 (numV s s.size) (by omega) (by decide) 64 (by decide)
        rw [h86]
        simp only [cond_true, Option.bind_some, dec_iff hd h1, Bool.true_and]
        cases (decide ((s.size : Int) > 1) && (sbt s 0 == 48)) <;> simp
    · have e2 : ¬ (s.size : Int) ≤ 7 := by omega
      simp [e2, h2]
  · have e1 : ¬ (1 : Int) ≤ (s.size : Int) := by omega
    simp [e1, h1]
theorem g79 (s : ByteArray) : G79 s = some (nuB s) := by
  unfold G79 G79n nuB
  by_cases h1 : s = ⟨#[]⟩
  · have := size_zero.1 h1
    have h2 : decide (s = ⟨#[]⟩) = true := by simp [h1]
    have h3 : decide (1 ≤ s.size) = false := by simp [this]
    rw [h2, h3]
    rfl
  · have h0 : 1 ≤ s.size := by
      rcases Nat.eq_zero_or_pos s.size with h | h
      · exact absurd (size_zero.2 h) h1
      · exact h
    have h2 : decide (s = ⟨#[]⟩) = false := by simp [h1]
    rw [h2]
    by_cases h3 : s.size ≤ 7
    · have e3 : ¬ (s.size : Int) > 7 := by omega
      have e4 : (0 : Int) < (s.size : Int) := by omega
      have e5 : (0 : Int) ≤ 0 := Int.le_refl _
      simp only [e3, e4, e5, h0, h3, decide_true, decide_false, cond_true, cond_false, Bool.true_and, Bool.and_true, lp79 h3]
      cases decide ((s.size : Int) > 1) <;> cases (sbt s 0 == 48) <;> simp
    · have e3 : (s.size : Int) > 7 := by omega
      simp [e3, h3]

/-! ### Types of words -/
def tyB (t : Int) (s : ByteArray) : Bool := cond (t == 1) (nuB s) (cond (t == 2) (nuB s || (decide ((s.size : Int) > 1) && (sbt s 0 == 45) && !decide (s.extract 1 s.size = ⟨#[48]⟩) && nuB (s.extract 1 s.size))) (cond (t == 3) (nmB s) (cond (t == 5) (decide (s = ⟨#[121, 101, 115]⟩) || decide (s = ⟨#[110, 111]⟩)) (cond (t == 6) (decide (s = ⟨#[110, 111, 110, 101]⟩) || (decide (s = ⟨#[98, 101, 114, 116, 104]⟩) || decide (s = ⟨#[122, 111, 110, 101]⟩))) (decide ((s.size : Int) ≤ 200))))))
theorem g68 (t : Int) (s : ByteArray) : G68 t s = some (tyB t s) := by
  unfold G68 G68n tyB
  simp only [g77, g33, Option.bind_some]
  cases t == 1 with
  | true => rfl
  | false =>
    cases t == 2 with
    | true =>
      simp only [cond_false, cond_true]
      cases nuB s with
      | true => rfl
      | false =>
        simp only [cond_false, Bool.false_or]
        by_cases h : (s.size : Int) > 1
        · have e1 : (0 : Int) < (s.size : Int) := by omega
          have e2 : (1 : Int) ≤ (s.size : Int) := by omega
          simp only [h, e1, e2, Int.le_refl, decide_true, cond_true, Bool.true_and, show (0 : Int) ≤ 0 from Int.le_refl _, show (0 : Int) ≤ 1 by decide, Int.toNat_natCast, show (1 : Int).toNat = 1 from rfl]
          cases sbt s 0 == 45 <;> cases decide (s.extract 1 s.size = (⟨#[48]⟩ : ByteArray)) <;> simp
        · simp [h]
    | false =>
      cases t == 3 with
      | true => rfl
      | false =>
        cases t == 5 with
        | true => simp only [cond_false, cond_true]; cases decide (s = (⟨#[121, 101, 115]⟩ : ByteArray)) <;> rfl
        | false =>
          cases t == 6 with
          | true => simp only [cond_false, cond_true]; cases decide (s = (⟨#[110, 111, 110, 101]⟩ : ByteArray)) <;> cases decide (s = (⟨#[98, 101, 114, 116, 104]⟩ : ByteArray)) <;> rfl
          | false => rfl
end Go.Proofs.YtadopcpehgblcaaDoor.Ab

/- The plain law of SheetDiff: what fits, which line is ahead. -/
set_option linter.unusedVariables false
set_option linter.unusedSimpArgs false
namespace Go.Proofs.YtadopcpehgblcaaDoor.Ab
open Go Go.RowKit

theorem ext_list (s : ByteArray) (a b : Nat) : (s.extract a b).data.toList = (s.data.toList.drop a).take (b - a) := by
  simp [ByteArray.data_extract]
theorem head_is {s : ByteArray} (h : 1 ≤ s.size) (c : UInt8) : decide (s.extract 0 1 = ⟨#[c]⟩) = (sbt s 0 == (c.toNat : Int)) := by
  have hg : sbt s 0 = ((s.data.toList[0]'(by simp; omega)).toNat : Int) := sbt_get (s := s) (i := 0) (by omega)
  have hl : ∃ x xs, s.data.toList = x :: xs := by
    cases e : s.data.toList with
    | nil => have : s.data.toList.length = 0 := by rw [e]; rfl
             simp at this; rw [this] at h; exact absurd h (by decide)
    | cons x xs => exact ⟨x, xs, rfl⟩
  obtain ⟨x, xs, e⟩ := hl
  have hx : sbt s 0 = (x.toNat : Int) := by rw [hg]; simp only [e]; rfl
  have h1 : s.extract 0 1 = ⟨#[x]⟩ := by
    apply ByteArray.ext
    apply Array.ext'
    rw [ext_list, e]
    rfl
  rw [h1, hx]
  by_cases hc : x = c
  · subst hc; simp
  · have h2 : (⟨#[x]⟩ : ByteArray) ≠ ⟨#[c]⟩ := fun e => by
      have : (⟨#[x]⟩ : ByteArray).data.toList = (⟨#[c]⟩ : ByteArray).data.toList := by rw [e]
      simp at this
      exact hc this
    have h3 : ((x.toNat : Int) == (c.toNat : Int)) = false := by
      rw [beq_eq_false_iff_ne]
      intro e
      exact hc (UInt8.toNat_inj.1 (by omega))
    rw [h3]
    simp [h2]
theorem nuB_minus {s : ByteArray} (h : sbt s 0 = 45) (hs : 1 ≤ s.size) : nuB s = false := by
  unfold nuB
  cases hd : dgs s 0 with
  | false => simp
  | true =>
    have := dgs_all hd (j := 0) (by omega)
    have e : sbt s ((0 : Nat) : Int) = 45 := h
    rw [e] at this
    cases this
theorem nuB_nil : nuB ⟨#[]⟩ = false := rfl
theorem g80 {s : ByteArray} : G80 s ⟨#[45]⟩ = some (cond (decide (1 ≤ s.size) && (sbt s 0 == 45)) (s.extract 1 s.size, true) (s, false)) := by
  unfold G80 G80n G87 G87n G93 G93n
  have e1 : (⟨#[45]⟩ : ByteArray).size = 1 := rfl
  simp only [e1]
  by_cases h : 1 ≤ s.size
  · have h1 : (s.size : Int) ≥ ((1 : Nat) : Int) := by omega
    have h2 : ((1 : Nat) : Int) ≤ (s.size : Int) := by omega
    simp only [h, h1, h2, Int.le_refl, decide_true, cond_true, Bool.true_and, show (0 : Int) ≤ ((1 : Nat) : Int) by decide, Int.toNat_natCast, show (0 : Int).toNat = 0 from rfl, Option.bind_some]
    have := head_is h 45
    rw [this]
    have e45 : (((45 : UInt8).toNat : Nat) : Int) = 45 := rfl
    rw [e45]
    cases (sbt s 0 == 45) <;> rfl
  · have h2 : ¬ (1 : Int) ≤ (s.size : Int) := by omega
    simp [h, h2]
theorem g71 {t : Int} (h1 : 1 ≤ t) (h6 : t ≤ 6) {s : ByteArray} (hs : s.size ≤ 281474976710656) : G71 t s = some (tyB t s) := by
  unfold G71 G71n tyB
  simp only [g79, g60 hs, g80, Option.bind_some]
  obtain rfl | rfl | rfl | rfl | rfl | rfl : t = 1 ∨ t = 2 ∨ t = 3 ∨ t = 4 ∨ t = 5 ∨ t = 6 := by omega
  · rfl
  · show (cond (nuB (cond (decide (1 ≤ s.size) && sbt s 0 == 45) (s.extract 1 s.size, true) (s, false)).1) (cond (cond (decide (1 ≤ s.size) && sbt s 0 == 45) (s.extract 1 s.size, true) (s, false)).2 (some (!decide ((cond (decide (1 ≤ s.size) && sbt s 0 == 45) (s.extract 1 s.size, true) (s, false)).1 = (⟨#[48]⟩ : ByteArray)))) (some true)) (some false)) = some (nuB s || (decide ((s.size : Int) > 1) && (sbt s 0 == 45) && !decide (s.extract 1 s.size = ⟨#[48]⟩) && nuB (s.extract 1 s.size)))
    cases hc : (decide (1 ≤ s.size) && sbt s 0 == 45) with
    | true =>
      simp only [Bool.and_eq_true, decide_eq_true_eq, beq_iff_eq] at hc
      simp only [cond_true, nuB_minus hc.2 hc.1, Bool.false_or, hc.2, beq_self_eq_true, Bool.and_true]
      by_cases h : (s.size : Int) > 1
      · simp only [h, decide_true, Bool.true_and]
        cases nuB (s.extract 1 s.size) <;> cases decide (s.extract 1 s.size = (⟨#[48]⟩ : ByteArray)) <;> rfl
      · have e : s.extract 1 s.size = ⟨#[]⟩ := by
          apply ByteArray.ext
          apply Array.ext'
          rw [ext_list]
          have : s.size - 1 = 0 := by omega
          rw [this]
          rfl
        simp [h, e, nuB_nil]
    | false =>
      simp only [cond_false]
      have : (decide ((s.size : Int) > 1) && (sbt s 0 == 45)) = false := by
        by_cases h : (s.size : Int) > 1
        · have h2 : 1 ≤ s.size := by omega
          simp only [h2, decide_true, Bool.true_and] at hc
          rw [hc]; simp
        · simp [h]
      rw [this]
      cases nuB s <;> rfl
  · rfl
  · rfl
  · simp only [show ((5 : Int) == 1) = false from rfl, show ((5 : Int) == 2) = false from rfl, show ((5 : Int) == 3) = false from rfl, show ((5 : Int) == 4) = false from rfl, show ((5 : Int) == 5) = true from rfl, cond_false, cond_true]
    cases decide (s = (⟨#[121, 101, 115]⟩ : ByteArray)) <;> rfl
  · simp only [show ((6 : Int) == 1) = false from rfl, show ((6 : Int) == 2) = false from rfl, show ((6 : Int) == 3) = false from rfl, show ((6 : Int) == 4) = false from rfl, show ((6 : Int) == 5) = false from rfl, show ((6 : Int) == 6) = true from rfl, cond_false, cond_true]
    cases decide (s = (⟨#[110, 111, 110, 101]⟩ : ByteArray)) <;> cases decide (s = (⟨#[98, 101, 114, 116, 104]⟩ : ByteArray)) <;> rfl

/-! ### Rules by key -/
def posR (k key : ByteArray) : Int := posL (fun r => decide (r.Key = key)) (rulesOf k) 0
def rule0 : VSheetRule := ⟨⟨#[]⟩, [], false, []⟩
def ruleR (k key : ByteArray) : VSheetRule := (rulesOf k).getD (posR k key).toNat rule0
theorem pos_cases (k key : ByteArray) : posR k key = -1 ∨ ∃ i : Nat, ∃ h : i < (rulesOf k).length, posR k key = (i : Int) ∧ ruleR k key = (rulesOf k)[i] ∧ argsOk (rulesOf k)[i] = true := by
  rcases posL_cases (fun r => decide (r.Key = key)) (rulesOf k) with ⟨h, _⟩ | ⟨i, hi, h, _⟩
  · exact .inl h
  · refine .inr ⟨i, hi, h, ?_, List.all_eq_true.1 (rules_args k) _ (List.getElem_mem hi)⟩
    have e : posR k key = (i : Int) := h
    simp [ruleR, e, hi]
theorem g57 (k key : ByteArray) : G57 k key = some (posR k key) := by
  unfold G57 G57n
  rw [g32]
  simp only [Option.bind_some]
  have hl := rules_len k
  have := pos_lp (rnd := r57_0 key (rulesOf k) fuel) (p := fun r => decide (r.Key = key)) (xs := rulesOf k) (st := fun i => ((i : Nat) : Int)) (by omega) (fun i => some (i : Int)) (some (-1)) (fun rec => by simp [r57_0]) (fun rec i hi => by
    have hw := wrap_nat (i := i) (by omega)
    have h1 : (i : Int) < ((rulesOf k).length : Int) := by omega
    simp only [r57_0, h1, decide_true, cond_true, Int.natCast_nonneg, get_cast hi, Option.bind_some, hw])
  have e : lpN (r57_0 key (rulesOf k) fuel) fuel 0 = _ := this
  rw [e]
  show cond (decide (posR k key < 0)) (some (-1)) (some ((posR k key).toNat : Int)) = _
  rcases pos_cases k key with h | ⟨i, hi, h, _⟩
  · rw [h]; rfl
  · rw [h]
    have : ¬ ((i : Nat) : Int) < 0 := by omega
    simp [this]
def argB (args : List Int) (ws : List ByteArray) : Bool := decide (args.length = ws.length) && (args.zip ws).all fun x => tyB x.1 x.2
def fiB (k key : ByteArray) (ws : List ByteArray) : Bool := cond (decide (posR k key < 0)) false (argB (ruleR k key).Args ws)
theorem lp55 {args : List Int} {ws : List ByteArray} (hl : args.length = ws.length) (h8 : args.length ≤ 8) : lpN (r55_0 ws args fuel) fuel 0 = some ((args.zip ws).all fun x => tyB x.1 x.2) := by
  have hz : (args.zip ws).length = args.length := by simp [hl]
  have := all_lp (rnd := r55_0 ws args fuel) (p := fun x : Int × ByteArray => tyB x.1 x.2) (xs := args.zip ws) (st := fun i => ((i : Nat) : Int)) (by omega) (fun rec => by rw [hz]; simp [r55_0]) (fun rec i hi => by
    have hw := wrap_nat (i := i) (by omega)
    have h1 : (i : Int) < (args.length : Int) := by omega
    have ha : i < args.length := by omega
    have hb : i < ws.length := by omega
    simp only [r55_0, h1, decide_true, cond_true, Int.natCast_nonneg, get_cast ha, get_cast hb, Option.bind_some, hw, g68, List.getElem_zip]
    cases tyB args[i] ws[i] <;> rfl)
  exact this
theorem lp61 {args : List Int} {ws : List ByteArray} (hl : args.length = ws.length) (h8 : args.length ≤ 8) (ha : args.all (fun t => decide (1 ≤ t) && decide (t ≤ 6)) = true) (hs : ∀ w ∈ ws, w.size ≤ 281474976710656) : lpN (r61_1 ws args (args.length : Int) fuel) fuel 0 = some ((args.zip ws).all fun x => tyB x.1 x.2) := by
  have hz : (args.zip ws).length = args.length := by simp [hl]
  have := all_lp (rnd := r61_1 ws args (args.length : Int) fuel) (p := fun x : Int × ByteArray => tyB x.1 x.2) (xs := args.zip ws) (st := fun i => ((i : Nat) : Int)) (by omega) (fun rec => by rw [hz]; simp [r61_1]) (fun rec i hi => by
    have hw := wrap_nat (i := i) (by omega)
    have h1 : (i : Int) < (args.length : Int) := by omega
    have hia : i < args.length := by omega
    have hib : i < ws.length := by omega
    have ht := List.all_eq_true.1 ha _ (List.getElem_mem hia)
    simp only [Bool.and_eq_true, decide_eq_true_eq] at ht
    simp only [r61_1, h1, decide_true, cond_true, Int.natCast_nonneg, get_cast hia, get_cast hib, Option.bind_some, hw, g71 ht.1 ht.2 (hs _ (List.getElem_mem hib)), List.getElem_zip]
    cases tyB args[i] ws[i] <;> rfl)
  exact this
theorem g55 (k key : ByteArray) (ws : List ByteArray) : G55 k key ws = some (fiB k key ws) := by
  unfold G55 G55n fiB
  rw [g57, g32]
  simp only [Option.bind_some]
  rcases pos_cases k key with h | ⟨i, hi, h, hr, ha⟩
  · rw [h]; rfl
  · rw [h, hr]
    have hn : ¬ ((i : Nat) : Int) < 0 := by omega
    simp only [argsOk, Bool.and_eq_true, decide_eq_true_eq] at ha
    simp only [hn, decide_false, cond_false, Int.natCast_nonneg, decide_true, cond_true, get_cast hi, Option.bind_some]
    unfold argB
    by_cases hl : (rulesOf k)[i].Args.length = ws.length
    · have hc : (((rulesOf k)[i].Args.length : Int) != (ws.length : Int)) = false := by simp [hl]
      rw [hc]
      simp only [cond_false, hl, decide_true, Bool.true_and]
      exact lp55 hl ha.1
    · have hc : (((rulesOf k)[i].Args.length : Int) != (ws.length : Int)) = true := by simp; omega
      rw [hc]
      simp [hl]
theorem g61 (k key : ByteArray) {ws : List ByteArray} (hs : ∀ w ∈ ws, w.size ≤ 281474976710656) : G61 k key ws = some (fiB k key ws) := by
  unfold G61 G61n fiB
  rw [g22]
  simp only [Option.bind_some]
  have hl := rules_len k
  have := pos_lp (rnd := r61_0 key (rulesOf k) ((rulesOf k).length : Int) ws fuel) (p := fun r => decide (r.Key = key)) (xs := rulesOf k) (st := fun i => ((i : Nat) : Int)) (by omega) (fun i => some (argB ((rulesOf k).getD i rule0).Args ws)) (some false) (fun rec => by simp [r61_0]) (fun rec i hi => by
    have hw := wrap_nat (i := i) (by omega)
    have h1 : (i : Int) < ((rulesOf k).length : Int) := by omega
    have h0 : ¬ (i : Int) < 0 := by omega
    have hg : (rulesOf k).getD i rule0 = (rulesOf k)[i] := by simp [hi]
    have ha := List.all_eq_true.1 (rules_args k) _ (List.getElem_mem hi)
    simp only [argsOk, Bool.and_eq_true, decide_eq_true_eq] at ha
    simp only [r61_0, h1, h0, decide_true, decide_false, cond_true, cond_false, Int.natCast_nonneg, get_cast hi, Option.bind_some, hw, hg]
    congr 1
    unfold argB
    by_cases hl : (rulesOf k)[i].Args.length = ws.length
    · have hc : ((ws.length : Int) != ((rulesOf k)[i].Args.length : Int)) = false := by simp [hl]
      rw [hc]
      simp only [cond_false, hl, decide_true, Bool.true_and]
      have := lp61 hl ha.1 ha.2 hs
      rw [hl] at this
      exact this
    · have hc : ((ws.length : Int) != ((rulesOf k)[i].Args.length : Int)) = true := by simp; omega
      rw [hc]
      simp [hl])
  have e : lpN (r61_0 key (rulesOf k) ((rulesOf k).length : Int) ws fuel) fuel 0 = _ := this
  rw [e]
  show cond (decide (posR k key < 0)) (some false) (some (argB (ruleR k key).Args ws)) = _
  cases decide (posR k key < 0) <;> rfl

/-! ### Which line is ahead -/
def liB (k : ByteArray) (a b : VSheetLine) : Bool := decide (posR k a.Key < posR k b.Key) || (posR k a.Key == posR k b.Key && lwL a.Words b.Words)
def orI (k : ByteArray) (a b : VSheetLine) : Int := cond (posR k a.Key != posR k b.Key) (posR k a.Key - posR k b.Key) (cwL a.Words b.Words)
theorem or_li (k : ByteArray) (a b : VSheetLine) : decide (orI k a b ≥ 0) = !liB k a b := by
  unfold orI liB
  by_cases h : posR k a.Key = posR k b.Key
  · simp only [h, bne_self_eq_false, cond_false, beq_self_eq_true, Bool.true_and, Int.lt_irrefl, decide_false, Bool.false_or]
    exact cwL_lt _ _
  · have h1 : (posR k a.Key != posR k b.Key) = true := by simp [h]
    have h2 : (posR k a.Key == posR k b.Key) = false := by simp [h]
    rw [h1, h2]
    simp only [cond_true, Bool.false_and, Bool.or_false]
    by_cases h3 : posR k a.Key < posR k b.Key
    · have : ¬ posR k a.Key - posR k b.Key ≥ 0 := by omega
      simp [h3, this]
    · have : posR k a.Key - posR k b.Key ≥ 0 := by omega
      have h4 : posR k b.Key ≤ posR k a.Key := by omega
      simp [h3, this, h4]
theorem g56 (k : ByteArray) {a b : VSheetLine} (ha : a.Words.length ≤ 1048576) : G56 k a b = some (liB k a b) := by
  unfold G56 G56n liB
  rw [g57, g57, g69 ha]
  simp only [Option.bind_some]
  cases decide (posR k a.Key < posR k b.Key) <;> cases posR k a.Key == posR k b.Key <;> rfl
theorem pos_bd (k key : ByteArray) : -1 ≤ posR k key ∧ posR k key ≤ 12 := by
  have := rules_len k
  rcases pos_cases k key with h | ⟨i, hi, h, _⟩
  · omega
  · omega
theorem lp62 (k key : ByteArray) {aw bw : List ByteArray} (ha : aw.length ≤ 1048576) {x : Int} (h0 : -1 ≤ x) (h1 : x ≤ 12) : lpN (r62_1 key (rulesOf k) ((rulesOf k).length : Int) x aw bw fuel) fuel 0 = some (cond (x != posR k key) (x - posR k key) (cwL aw bw)) := by
  have hl := rules_len k
  have := pos_lp (rnd := r62_1 key (rulesOf k) ((rulesOf k).length : Int) x aw bw fuel) (p := fun r => decide (r.Key = key)) (xs := rulesOf k) (st := fun i => ((i : Nat) : Int)) (by omega) (fun i => some (cond (x != (i : Int)) (IntKind.i64.wrap (x - (i : Int))) (cwL aw bw))) (some (cond (x != (-1)) (IntKind.i64.wrap (x - (-1))) (cwL aw bw))) (fun rec => by
      simp only [r62_1, Int.lt_irrefl, decide_false, cond_false, g72 ha, Option.bind_some]
      cases x != -1 <;> rfl) (fun rec i hi => by
    have hw := wrap_nat (i := i) (by omega)
    have h1 : (i : Int) < ((rulesOf k).length : Int) := by omega
    simp only [r62_1, h1, decide_true, cond_true, Int.natCast_nonneg, get_cast hi, Option.bind_some, hw, g72 ha]
    cases x != (i : Int) <;> rfl)
  have e : lpN (r62_1 key (rulesOf k) ((rulesOf k).length : Int) x aw bw fuel) fuel 0 = _ := this
  rw [e]
  show cond (decide (posR k key < 0)) _ (some (cond (x != ((posR k key).toNat : Int)) (IntKind.i64.wrap (x - ((posR k key).toNat : Int))) (cwL aw bw))) = _
  rcases pos_cases k key with h | ⟨i, hi, h, _⟩
  · rw [h, wrap_id (by omega) (by omega)]; rfl
  · rw [h]
    have hn : ¬ ((i : Nat) : Int) < 0 := by omega
    simp only [hn, decide_false, cond_false, Int.toNat_natCast]
    rw [wrap_id (by omega) (by omega)]
theorem g62 (k : ByteArray) {a b : VSheetLine} (ha : a.Words.length ≤ 1048576) : G62 k a b = some (orI k a b) := by
  unfold G62 G62n
  rw [g22]
  simp only [Option.bind_some]
  have hl := rules_len k
  have := pos_lp (rnd := r62_0 a.Key (rulesOf k) ((rulesOf k).length : Int) k a.Words b.Key b.Words fuel) (p := fun r => decide (r.Key = a.Key)) (xs := rulesOf k) (st := fun i => ((i : Nat) : Int)) (by omega) (fun i => some (cond ((i : Int) != posR k b.Key) ((i : Int) - posR k b.Key) (cwL a.Words b.Words))) (some (cond ((-1) != posR k b.Key) ((-1) - posR k b.Key) (cwL a.Words b.Words))) (fun rec => by
      simp only [r62_0, Int.lt_irrefl, decide_false, cond_false, g22, Option.bind_some]
      exact lp62 k b.Key ha (by omega) (by omega)) (fun rec i hi => by
    have hw := wrap_nat (i := i) (by omega)
    have h1 : (i : Int) < ((rulesOf k).length : Int) := by omega
    simp only [r62_0, h1, decide_true, cond_true, Int.natCast_nonneg, get_cast hi, Option.bind_some, hw, g22]
    rw [lp62 k b.Key ha (by omega) (by omega)])
  have e : lpN (r62_0 a.Key (rulesOf k) ((rulesOf k).length : Int) k a.Words b.Key b.Words fuel) fuel 0 = _ := this
  rw [e]
  show cond (decide (posR k a.Key < 0)) _ (some (cond (((posR k a.Key).toNat : Int) != posR k b.Key) (((posR k a.Key).toNat : Int) - posR k b.Key) (cwL a.Words b.Words))) = some (orI k a b)
  unfold orI
  rcases pos_cases k a.Key with h | ⟨i, hi, h, _⟩
  · rw [h]; rfl
  · rw [h]
    have hn : ¬ ((i : Nat) : Int) < 0 := by omega
    simp only [hn, decide_false, cond_false, Int.toNat_natCast]
end Go.Proofs.YtadopcpehgblcaaDoor.Ab

