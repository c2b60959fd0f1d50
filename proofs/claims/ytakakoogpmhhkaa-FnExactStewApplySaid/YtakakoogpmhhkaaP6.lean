/- The functions that the law calls, written plainly, and their contracts: each call answers what its plain function answers. No conditions. -/
import Derived.Test.YtakakoogpmhhkaaP5
set_option linter.unusedVariables false
set_option linter.unusedSimpArgs false
set_option linter.unusedSectionVars false
set_option linter.unusedVariables false
set_option linter.unusedSimpArgs false
set_option maxRecDepth 100000
namespace Go.Proofs.Ytakakoogpmhhkaa.Ab
open Go Go.RowKit
/-! ### f9 loop.example/wharfdesk/impl.StewApply -/
noncomputable def X9 (n : Nat) : Cx C:=mkX [(26,con26),(27,con27)] [] [(28,I28 n)] [2,4,6,7,15] 589824 []
def F9 (n : Nat) : Cf:={ N:=n,keep:=[0,1,2,3,4,5,6,7,10,17],live:=lk [] }
noncomputable abbrev dec9:=deR KK [.el .e36,.int .i64]
abbrev A9_2 : Type:=Int
abbrev A9_4 : Type:=Int
abbrev A9_5 : Type:=Int
abbrev A9_6 : Type:=Int
abbrev A9_8 : Type:=Int
abbrev A9_12 : Type:=List (C .e79)×Int×Int
abbrev A9_11 : Type:=Int
abbrev A9_10 : Type:=List (C .e79)×Int×Int×List (C .e83)
abbrev A9_9 : Type:=Int
abbrev A9_7 : Type:=Int×List (C .e83)
abbrev A9_3 : Type:=Int
abbrev A9_1 : Type:=Int
abbrev A9_0 : Type:=Int
section
variable (x0 : ByteArray) (x1 : Int) (x2 : Int) (x4 : List (C .e79)) (x5 : Nat) (x6 : List (C .e89)) (x7 : Int) (x8 : Int) (x9 : Int) (x10 : List (C .e83)) (x11 : List (C .e81)) (x12 : ByteArray) (x13 : Int) (x14 : Int) (x15 : Int) (x16 : Int) (x17 : Bool) (x18 : List (C .e89)) (x19 : Bool) (x20 : Int) (x21 : List (C .e79)) (x22 : List (C .e83)) (x23 : List (C .e81)) (x24 : Int) (x25 : List (C .e79)) (x26 : List (C .e83)) (x27 : List (C .e81))
def s9_2 : A9_2→St C:=fun x3=>{ env:=[(0,.one (.ptr 590208 0)),(1,.one (.str x0)),(2,.one (.int .i64 x1)),(12,.one (.int .i64 x2)),(13,.one (.int .i64 x3)),(1000,.sus (false,[.ptr 590208 0]) 16037000),(1003,.sus (false,[.ptr 68719478571200 0]) 16037003),(1005,.sus (false,[.ep 60020801 [] x5 0]) 16037005),(1025,.sus (false,[.row .e89 x6]) 16037025),(1026,.sus (false,[.int .i64 x7]) 16037026),(1027,.sus (false,[.int .i64 x8]) 16037027),(2002,.sus (false,[.ptr 589952 0]) 16002),(2004,.sus (false,[.ptr 590080 0]) 16004),(2006,.sus (false,[.ptr 590208 0]) 16006)],objs:=[(60020801,.row .e79 x4 false),(590208,.box .mem [.int .i64 x9,.ref 60020801 [],.ref 60020802 [],.ref 60020803 []]),(60020802,.row .e83 x10 false),(60020803,.row .e81 x11 false),(68719478571200,.box .mem [.str x12,.int .i64 x13,.int .i64 x14,.int .i64 x15,.int .i64 x16,.bool x17,.row .e89 x18,.bool x19]),(589952,.box .mem [.int .i64 x20,.row .e79 x21,.row .e83 x22,.row .e81 x23]),(590080,.box .mem [.int .i64 x24,.ref 60008001 [],.ref 60008002 [],.ref 60008003 []]),(60008001,.row .e79 x25 false),(60008002,.row .e83 x26 false),(60008003,.row .e81 x27 false)],base:=16037000 }
end
noncomputable def r9_2 (x0 : ByteArray) (x1 : Int) (x2 : Int) (x4 : List (C .e79)) (x8 : Int) (x9 : Int) (x10 : List (C .e83)) (x11 : List (C .e81)) (x20 : Int) (x21 : List (C .e79)) (x22 : List (C .e83)) (x23 : List (C .e81)) (n : Nat)  (rec1 : A9_1→Option (VStewBook×Int)) (rec2 : A9_2→Option (VStewBook×Int)) : A9_2→Option (VStewBook×Int):=fun x3 =>
 cond (decide (x3<x2))
 (cond (decide (0≤x3)) (cond (decide (x3<(x10.length : Int))) (Option.bind x10[x3.toNat]? fun e7=>cond (decide (e7.Service=x0))
 (cond (decide (0≤x3)) (cond (decide (x3<(x10.length : Int))) (Option.bind x10[x3.toNat]? fun e8=>cond (e8.Number == x1)
 (cond (decide (0≤x3)) (cond (decide (x3<(x10.length : Int))) (rec1 (IntKind.i64.wrap (x8+1))) none) none)
 (rec2 (IntKind.i64.wrap (x3+1)))) none) none)
 (rec2 (IntKind.i64.wrap (x3+1)))) none) none)
 (cond (3 != 0)
 (Option.bind (G27 (⟨x20,x21,x22,x23⟩ : VStewBook)) fun r9 =>
 some (r9,3))
 (some ((⟨x9,x4,x10,x11⟩ : VStewBook),0)))
section
variable (x0 : ByteArray) (x1 : Int) (x2 : Int) (x4 : List (C .e79)) (x5 : Nat) (x6 : List (C .e89)) (x7 : Int) (x8 : Int) (x9 : ByteArray) (x10 : Int) (x11 : Int) (x12 : Int) (x13 : List (C .e83)) (x14 : List (C .e81)) (x15 : ByteArray) (x16 : Int) (x17 : Int) (x18 : Int) (x19 : Int) (x20 : Bool) (x21 : List (C .e89)) (x22 : Bool) (x23 : Int) (x24 : Int) (x25 : Int) (x26 : List (C .e79)) (x27 : List (C .e83)) (x28 : List (C .e81)) (x29 : Int) (x30 : List (C .e79)) (x31 : List (C .e83)) (x32 : List (C .e81))
def s9_4 : A9_4→St C:=fun x3=>{ env:=[(0,.one (.ptr 590208 0)),(1,.one (.str x0)),(2,.one (.int .i64 x1)),(12,.one (.int .i64 x2)),(13,.one (.int .i64 x3)),(1000,.sus (false,[.ptr 590208 0]) 16059000),(1003,.sus (false,[.ptr 68719478571200 0]) 16059003),(1005,.sus (false,[.ep 60020801 [] x5 0]) 16059005),(1009,.sus (false,[.ptr 68719478571584 0]) 16059009),(1047,.sus (false,[.row .e89 x6]) 16059047),(1048,.sus (false,[.int .i64 x7]) 16059048),(1049,.sus (false,[.int .i64 x8]) 16059049),(1053,.sus (false,[.ptr 590208 0]) 16059053),(1054,.sus (false,[.ptr 68719478571200 0]) 16059054),(1055,.sus (false,[.str x9]) 16059055),(1056,.sus (false,[.ptr 68719478571584 0]) 16059056),(1057,.sus (false,[.int .i64 x10]) 16059057),(1062,.sus (false,[.ptr 68719478571584 1]) 16059062),(1063,.sus (false,[.int .i64 x11]) 16059063),(2002,.sus (false,[.ptr 589952 0]) 16002),(2004,.sus (false,[.ptr 590080 0]) 16004),(2006,.sus (false,[.ptr 590208 0]) 16006)],objs:=[(60020801,.row .e79 x4 false),(590208,.box .mem [.int .i64 x12,.ref 60020801 [],.ref 60020802 [],.ref 60020803 []]),(60020802,.row .e83 x13 false),(60020803,.row .e81 x14 false),(68719478571200,.box .mem [.str x15,.int .i64 x16,.int .i64 x17,.int .i64 x18,.int .i64 x19,.bool x20,.row .e89 x21,.bool x22]),(68719478571584,.box .mem [.int .i64 x23,.int .i64 x24]),(589952,.box .mem [.int .i64 x25,.row .e79 x26,.row .e83 x27,.row .e81 x28]),(590080,.box .mem [.int .i64 x29,.ref 60008001 [],.ref 60008002 [],.ref 60008003 []]),(60008001,.row .e79 x30 false),(60008002,.row .e83 x31 false),(60008003,.row .e81 x32 false)],base:=16059000 }
end
noncomputable def r9_4 (x0 : ByteArray) (x1 : Int) (x2 : Int) (x4 : List (C .e79)) (x8 : Int) (x11 : Int) (x12 : Int) (x13 : List (C .e83)) (x14 : List (C .e81)) (x25 : Int) (x26 : List (C .e79)) (x27 : List (C .e83)) (x28 : List (C .e81)) (n : Nat)  (rec3 : A9_3→Option (VStewBook×Int)) (rec4 : A9_4→Option (VStewBook×Int)) : A9_4→Option (VStewBook×Int):=fun x3 =>
 cond (decide (x3<x2))
 (cond (decide (0≤x3)) (cond (decide (x3<(x13.length : Int))) (Option.bind x13[x3.toNat]? fun e13=>cond (decide (e13.Service=x0))
 (cond (decide (0≤x3)) (cond (decide (x3<(x13.length : Int))) (Option.bind x13[x3.toNat]? fun e14=>cond (e14.Number == x1)
 (cond (decide (0≤x3)) (cond (decide (x3<(x13.length : Int))) (Option.bind x13[x3.toNat]? fun e15=>cond (e15.Version != x11)
 (cond (4 != 0)
 (Option.bind (G27 (⟨x25,x26,x27,x28⟩ : VStewBook)) fun r16 =>
 some (r16,4))
 (some ((⟨x12,x4,x13,x14⟩ : VStewBook),0)))
 (rec3 (IntKind.i64.wrap (x8+1)))) none) none)
 (rec4 (IntKind.i64.wrap (x3+1)))) none) none)
 (rec4 (IntKind.i64.wrap (x3+1)))) none) none)
 (none)
section
variable (x0 : ByteArray) (x1 : Int) (x2 : Int) (x4 : List (C .e79)) (x5 : Nat) (x6 : List (C .e89)) (x7 : Int) (x8 : Int) (x9 : ByteArray) (x10 : Int) (x11 : Int) (x12 : List (C .e83)) (x13 : List (C .e81)) (x14 : ByteArray) (x15 : Int) (x16 : Int) (x17 : Int) (x18 : Int) (x19 : Bool) (x20 : List (C .e89)) (x21 : Bool) (x22 : Int) (x23 : Int) (x24 : Int) (x25 : List (C .e79)) (x26 : List (C .e83)) (x27 : List (C .e81)) (x28 : Int) (x29 : List (C .e79)) (x30 : List (C .e83)) (x31 : List (C .e81))
def s9_5 : A9_5→St C:=fun x3=>{ env:=[(0,.one (.ptr 590208 0)),(1,.one (.str x0)),(2,.one (.int .i64 x1)),(12,.one (.int .i64 x2)),(13,.one (.int .i64 x3)),(1000,.sus (false,[.ptr 590208 0]) 16059000),(1003,.sus (false,[.ptr 68719478571200 0]) 16059003),(1005,.sus (false,[.ep 60020801 [] x5 0]) 16059005),(1009,.sus (false,[.ptr 68719478571584 0]) 16059009),(1047,.sus (false,[.row .e89 x6]) 16059047),(1048,.sus (false,[.int .i64 x7]) 16059048),(1049,.sus (false,[.int .i64 x8]) 16059049),(1053,.sus (false,[.ptr 590208 0]) 16059053),(1054,.sus (false,[.ptr 68719478571200 0]) 16059054),(1055,.sus (false,[.str x9]) 16059055),(1056,.sus (false,[.ptr 68719478571584 0]) 16059056),(1057,.sus (false,[.int .i64 x10]) 16059057),(1062,.sus (false,[.ptr 68719478571584 1]) 16059062),(2002,.sus (false,[.ptr 589952 0]) 16002),(2004,.sus (false,[.ptr 590080 0]) 16004),(2006,.sus (false,[.ptr 590208 0]) 16006)],objs:=[(60020801,.row .e79 x4 false),(590208,.box .mem [.int .i64 x11,.ref 60020801 [],.ref 60020802 [],.ref 60020803 []]),(60020802,.row .e83 x12 false),(60020803,.row .e81 x13 false),(68719478571200,.box .mem [.str x14,.int .i64 x15,.int .i64 x16,.int .i64 x17,.int .i64 x18,.bool x19,.row .e89 x20,.bool x21]),(68719478571584,.box .mem [.int .i64 x22,.int .i64 x23]),(589952,.box .mem [.int .i64 x24,.row .e79 x25,.row .e83 x26,.row .e81 x27]),(590080,.box .mem [.int .i64 x28,.ref 60008001 [],.ref 60008002 [],.ref 60008003 []]),(60008001,.row .e79 x29 false),(60008002,.row .e83 x30 false),(60008003,.row .e81 x31 false)],base:=16059000 }
end
noncomputable def r9_5 (x0 : ByteArray) (x1 : Int) (x2 : Int) (x4 : List (C .e79)) (x8 : Int) (x11 : Int) (x12 : List (C .e83)) (x13 : List (C .e81)) (x23 : Int) (x24 : Int) (x25 : List (C .e79)) (x26 : List (C .e83)) (x27 : List (C .e81)) (n : Nat)  (rec3 : A9_3→Option (VStewBook×Int)) (rec5 : A9_5→Option (VStewBook×Int)) : A9_5→Option (VStewBook×Int):=fun x3 =>
 cond (decide (x3<x2))
 (cond (decide (0≤x3)) (cond (decide (x3<(x12.length : Int))) (Option.bind x12[x3.toNat]? fun e17=>cond (decide (e17.Service=x0))
 (cond (decide (0≤x3)) (cond (decide (x3<(x12.length : Int))) (Option.bind x12[x3.toNat]? fun e18=>cond (e18.Number == x1)
 (cond (decide (0≤x3)) (cond (decide (x3<(x12.length : Int))) (Option.bind x12[x3.toNat]? fun e19=>cond (e19.Version != x23)
 (cond (4 != 0)
 (Option.bind (G27 (⟨x24,x25,x26,x27⟩ : VStewBook)) fun r20 =>
 some (r20,4))
 (some ((⟨x11,x4,x12,x13⟩ : VStewBook),0)))
 (rec3 (IntKind.i64.wrap (x8+1)))) none) none)
 (rec5 (IntKind.i64.wrap (x3+1)))) none) none)
 (rec5 (IntKind.i64.wrap (x3+1)))) none) none)
 (none)
section
variable (x0 : ByteArray) (x1 : Int) (x2 : Int) (x4 : List (C .e79)) (x5 : Nat) (x6 : List (C .e89)) (x7 : Int) (x8 : Int) (x9 : ByteArray) (x10 : Int) (x11 : Int) (x12 : List (C .e83)) (x13 : List (C .e81)) (x14 : ByteArray) (x15 : Int) (x16 : Int) (x17 : Int) (x18 : Int) (x19 : Bool) (x20 : List (C .e89)) (x21 : Bool) (x22 : Int) (x23 : Int) (x24 : Int) (x25 : List (C .e79)) (x26 : List (C .e83)) (x27 : List (C .e81)) (x28 : Int) (x29 : List (C .e79)) (x30 : List (C .e83)) (x31 : List (C .e81))
def s9_6 : A9_6→St C:=fun x3=>{ env:=[(0,.one (.ptr 590208 0)),(1,.one (.str x0)),(2,.one (.int .i64 x1)),(12,.one (.int .i64 x2)),(13,.one (.int .i64 x3)),(1000,.sus (false,[.ptr 590208 0]) 16059000),(1003,.sus (false,[.ptr 68719478571200 0]) 16059003),(1005,.sus (false,[.ep 60020801 [] x5 0]) 16059005),(1009,.sus (false,[.ptr 68719478571584 0]) 16059009),(1047,.sus (false,[.row .e89 x6]) 16059047),(1048,.sus (false,[.int .i64 x7]) 16059048),(1049,.sus (false,[.int .i64 x8]) 16059049),(1053,.sus (false,[.ptr 590208 0]) 16059053),(1054,.sus (false,[.ptr 68719478571200 0]) 16059054),(1055,.sus (false,[.str x9]) 16059055),(1056,.sus (false,[.ptr 68719478571584 0]) 16059056),(1057,.sus (false,[.int .i64 x10]) 16059057),(2002,.sus (false,[.ptr 589952 0]) 16002),(2004,.sus (false,[.ptr 590080 0]) 16004),(2006,.sus (false,[.ptr 590208 0]) 16006)],objs:=[(60020801,.row .e79 x4 false),(590208,.box .mem [.int .i64 x11,.ref 60020801 [],.ref 60020802 [],.ref 60020803 []]),(60020802,.row .e83 x12 false),(60020803,.row .e81 x13 false),(68719478571200,.box .mem [.str x14,.int .i64 x15,.int .i64 x16,.int .i64 x17,.int .i64 x18,.bool x19,.row .e89 x20,.bool x21]),(68719478571584,.box .mem [.int .i64 x22,.int .i64 x23]),(589952,.box .mem [.int .i64 x24,.row .e79 x25,.row .e83 x26,.row .e81 x27]),(590080,.box .mem [.int .i64 x28,.ref 60008001 [],.ref 60008002 [],.ref 60008003 []]),(60008001,.row .e79 x29 false),(60008002,.row .e83 x30 false),(60008003,.row .e81 x31 false)],base:=16059000 }
end
noncomputable def r9_6 (x0 : ByteArray) (x1 : Int) (x2 : Int) (x4 : List (C .e79)) (x8 : Int) (x11 : Int) (x12 : List (C .e83)) (x13 : List (C .e81)) (x23 : Int) (x24 : Int) (x25 : List (C .e79)) (x26 : List (C .e83)) (x27 : List (C .e81)) (n : Nat)  (rec3 : A9_3→Option (VStewBook×Int)) (rec6 : A9_6→Option (VStewBook×Int)) : A9_6→Option (VStewBook×Int):=fun x3 =>
 cond (decide (x3<x2))
 (cond (decide (0≤x3)) (cond (decide (x3<(x12.length : Int))) (Option.bind x12[x3.toNat]? fun e21=>cond (decide (e21.Service=x0))
 (cond (decide (0≤x3)) (cond (decide (x3<(x12.length : Int))) (Option.bind x12[x3.toNat]? fun e22=>cond (e22.Number == x1)
 (cond (decide (0≤x3)) (cond (decide (x3<(x12.length : Int))) (Option.bind x12[x3.toNat]? fun e23=>cond (e23.Version != x23)
 (cond (4 != 0)
 (Option.bind (G27 (⟨x24,x25,x26,x27⟩ : VStewBook)) fun r24 =>
 some (r24,4))
 (some ((⟨x11,x4,x12,x13⟩ : VStewBook),0)))
 (rec3 (IntKind.i64.wrap (x8+1)))) none) none)
 (rec6 (IntKind.i64.wrap (x3+1)))) none) none)
 (rec6 (IntKind.i64.wrap (x3+1)))) none) none)
 (none)
section
variable (x0 : ByteArray) (x1 : Int) (x2 : Int) (x4 : List (C .e79)) (x5 : Nat) (x6 : List (C .e89)) (x7 : Int) (x8 : Int) (x9 : Int) (x10 : List (C .e83)) (x11 : List (C .e81)) (x12 : ByteArray) (x13 : Int) (x14 : Int) (x15 : Int) (x16 : Int) (x17 : Bool) (x18 : List (C .e89)) (x19 : Bool) (x20 : Int) (x21 : List (C .e79)) (x22 : List (C .e83)) (x23 : List (C .e81)) (x24 : Int) (x25 : List (C .e79)) (x26 : List (C .e83)) (x27 : List (C .e81))
def s9_8 : A9_8→St C:=fun x3=>{ env:=[(0,.one (.ptr 590208 0)),(1,.one (.str x0)),(2,.one (.int .i64 x1)),(12,.one (.int .i64 x2)),(13,.one (.int .i64 x3)),(1000,.sus (false,[.ptr 590208 0]) 16079000),(1003,.sus (false,[.ptr 68719478571200 0]) 16079003),(1005,.sus (false,[.ep 60020801 [] x5 0]) 16079005),(1067,.sus (false,[.row .e89 x6]) 16079067),(1068,.sus (false,[.int .i64 x7]) 16079068),(1069,.sus (false,[.int .i64 x8]) 16079069),(2002,.sus (false,[.ptr 589952 0]) 16002),(2004,.sus (false,[.ptr 590080 0]) 16004),(2006,.sus (false,[.ptr 590208 0]) 16006)],objs:=[(60020801,.row .e79 x4 false),(590208,.box .mem [.int .i64 x9,.ref 60020801 [],.ref 60020802 [],.ref 60020803 []]),(60020802,.row .e83 x10 false),(60020803,.row .e81 x11 false),(68719478571200,.box .mem [.str x12,.int .i64 x13,.int .i64 x14,.int .i64 x15,.int .i64 x16,.bool x17,.row .e89 x18,.bool x19]),(589952,.box .mem [.int .i64 x20,.row .e79 x21,.row .e83 x22,.row .e81 x23]),(590080,.box .mem [.int .i64 x24,.ref 60008001 [],.ref 60008002 [],.ref 60008003 []]),(60008001,.row .e79 x25 false),(60008002,.row .e83 x26 false),(60008003,.row .e81 x27 false)],base:=16079000 }
end
noncomputable def r9_8 (x0 : ByteArray) (x1 : Int) (x2 : Int) (x4 : List (C .e79)) (x5 : Nat) (x8 : Int) (x9 : Int) (x10 : List (C .e83)) (x11 : List (C .e81)) (x20 : Int) (x21 : List (C .e79)) (x22 : List (C .e83)) (x23 : List (C .e81)) (n : Nat)  (rec7 : A9_7→Option (VStewBook×Int)) (rec8 : A9_8→Option (VStewBook×Int)) : A9_8→Option (VStewBook×Int):=fun x3 =>
 cond (decide (x3<x2))
 (cond (decide (0≤x3)) (cond (decide (x3<(x10.length : Int))) (Option.bind x10[x3.toNat]? fun e26=>cond (decide (e26.Service=x0))
 (cond (decide (0≤x3)) (cond (decide (x3<(x10.length : Int))) (Option.bind x10[x3.toNat]? fun e27=>cond (e27.Number == x1)
 (cond (decide (0≤x3)) (cond (decide (x3<(x10.length : Int))) (Option.bind x10[x3.toNat]? fun e28=>cond e28.Ending
 (cond (5 != 0)
 (Option.bind (G27 (⟨x20,x21,x22,x23⟩ : VStewBook)) fun r29 =>
 some (r29,5))
 (some ((⟨x9,x4,x10,x11⟩ : VStewBook),0)))
 (Option.bind x10[x3.toNat]? fun e30=>cond (e30.State != 3)
 (Option.bind x10[x3.toNat]? fun e31=>Option.bind (x10.set x3.toNat (⟨e31.Service,e31.Number,e31.Version,e31.Image,e31.State,true,e31.Berth⟩ : VStewCopy))[x3.toNat]? fun e32=>rec7 ((IntKind.i64.wrap (x8+1),(x10.set x3.toNat (⟨e31.Service,e31.Number,e31.Version,e31.Image,e31.State,true,e31.Berth⟩ : VStewCopy)).set x3.toNat ((⟨e32.Service,e32.Number,IntKind.i64.wrap (x9+1),e32.Image,e32.State,e32.Ending,e32.Berth⟩ : VStewCopy)))))
 (Option.bind x4[x5]? fun e33=>cond e33.Gone
 (Option.bind x10[x3.toNat]? fun e34=>Option.bind (x10.set x3.toNat (⟨e34.Service,e34.Number,e34.Version,e34.Image,e34.State,true,e34.Berth⟩ : VStewCopy))[x3.toNat]? fun e35=>rec7 ((IntKind.i64.wrap (x8+1),(x10.set x3.toNat (⟨e34.Service,e34.Number,e34.Version,e34.Image,e34.State,true,e34.Berth⟩ : VStewCopy)).set x3.toNat ((⟨e35.Service,e35.Number,IntKind.i64.wrap (x9+1),e35.Image,e35.State,e35.Ending,e35.Berth⟩ : VStewCopy)))))
 (Option.bind x4[x5]? fun e36=>Option.bind (G65 (⟨x9,x4,x10,x11⟩ : VStewBook) e36) fun r37 =>
 Option.bind x4[x5]? fun e38=>Option.bind x4[x5]? fun e39=>cond (!(decide ((IntKind.i64.wrap (r37.Ready - 1))≥(IntKind.i64.wrap (e38.Want - e39.Down)))))
 (cond (5 != 0)
 (Option.bind (G27 (⟨x20,x21,x22,x23⟩ : VStewBook)) fun r40 =>
 some (r40,5))
 (some ((⟨x9,x4,x10,x11⟩ : VStewBook),0)))
 (Option.bind x10[x3.toNat]? fun e41=>Option.bind (x10.set x3.toNat (⟨e41.Service,e41.Number,e41.Version,e41.Image,e41.State,true,e41.Berth⟩ : VStewCopy))[x3.toNat]? fun e42=>rec7 ((IntKind.i64.wrap (x8+1),(x10.set x3.toNat (⟨e41.Service,e41.Number,e41.Version,e41.Image,e41.State,true,e41.Berth⟩ : VStewCopy)).set x3.toNat ((⟨e42.Service,e42.Number,IntKind.i64.wrap (x9+1),e42.Image,e42.State,e42.Ending,e42.Berth⟩ : VStewCopy))))))))) none) none)
 (rec8 (IntKind.i64.wrap (x3+1)))) none) none)
 (rec8 (IntKind.i64.wrap (x3+1)))) none) none)
 (cond (5 != 0)
 (Option.bind (G27 (⟨x20,x21,x22,x23⟩ : VStewBook)) fun r43 =>
 some (r43,5))
 (some ((⟨x9,x4,x10,x11⟩ : VStewBook),0)))
section
variable (x3 : Nat) (x4 : Int) (x5 : List (C .e83)) (x6 : List (C .e81)) (x7 : ByteArray) (x8 : Int) (x9 : Int) (x10 : Int) (x11 : Int) (x12 : Bool) (x13 : List (C .e89)) (x14 : Bool) (x15 : Int) (x16 : List (C .e79)) (x17 : List (C .e83)) (x18 : List (C .e81)) (x19 : Int) (x20 : List (C .e79)) (x21 : List (C .e83)) (x22 : List (C .e81))
def s9_12 : A9_12→St C:=fun (x0,x1,x2)=>{ env:=[(0,.one (.ref 100000 [])),(1,.one (.vo 68719478589248)),(5,.one (.int .i64 x1)),(6,.one (.int .i64 x2)),(1000,.sus (false,[.ptr 590208 0]) 16287000),(1003,.sus (false,[.ptr 68719478571200 0]) 16287003),(1005,.sus (false,[.ep 100000 [] x3 0]) 16287005),(1280,.sus (false,[.ptr 590208 0]) 16287280),(2002,.sus (false,[.ptr 589952 0]) 16002),(2004,.sus (false,[.ptr 590080 0]) 16004),(2006,.sus (false,[.ptr 590208 0]) 16006)],objs:=[(100000,.row .e79 x0 false),(68719478589248,.box (.clo 68 0 [(false,1)]) [.ptr 68719478571200 0]),(590208,.box .mem [.int .i64 x4,.ref 100000 [],.ref 60020802 [],.ref 60020803 []]),(60020802,.row .e83 x5 false),(60020803,.row .e81 x6 false),(68719478571200,.box .mem [.str x7,.int .i64 x8,.int .i64 x9,.int .i64 x10,.int .i64 x11,.bool x12,.row .e89 x13,.bool x14]),(589952,.box .mem [.int .i64 x15,.row .e79 x16,.row .e83 x17,.row .e81 x18]),(590080,.box .mem [.int .i64 x19,.ref 60008001 [],.ref 60008002 [],.ref 60008003 []]),(60008001,.row .e79 x20 false),(60008002,.row .e83 x21 false),(60008003,.row .e81 x22 false)],base:=16287000 }
end
noncomputable def r9_12 (x4 : Int) (x5 : List (C .e83)) (x6 : List (C .e81)) (x7 : ByteArray) (x8 : Int) (x9 : Int) (x10 : Int) (x11 : Int) (x12 : Bool) (x13 : List (C .e89)) (x14 : Bool) (x15 : Int) (x16 : List (C .e79)) (x17 : List (C .e83)) (x18 : List (C .e81)) (n : Nat)   (rec12 : A9_12→Option (VStewBook×Int)) : A9_12→Option (VStewBook×Int):=fun (x0,x1,x2) =>
 cond (decide (x2<(x0.length : Int)))
 (cond (decide (0≤x2)) (cond (decide (x2<(x0.length : Int))) (Option.bind x0[x2.toNat]? fun e77=>Option.bind (G68 e77 (⟨x7,x8,x9,x10,x11,x12,x13,x14⟩ : VStewAct)) fun r78 =>
 cond (!r78)
 (cond (decide (0≤x1)) (cond (decide (x1<(x0.length : Int))) (Option.bind x0[x1.toNat]? fun e79=>rec12 ((x0.set x1.toNat e77,IntKind.i64.wrap (x1+1),IntKind.i64.wrap (x2+1)))) none) none)
 (rec12 ((x0,x1,IntKind.i64.wrap (x2+1))))) none) none)
 (cond (decide ((0 : Int)≤x1)) (cond (decide ((x1 : Int)≤(x0.length : Int))) (cond (decide ((x0.length : Int)≤(x0.length : Int))) (cond (decide ((0 : Int)≤x1)) (cond (decide (x1≤((x0.take ((x1 : Int).toNat)++List.replicate (((x0.length : Int).toNat) - ((x1 : Int).toNat)) (⟨⟨#[]⟩,0,false,0,0,0,0,0,0,0,0,0,0⟩ : C .e79)++x0.drop ((x0.length : Int).toNat)).length : Int))) (cond (0 != 0)
 (Option.bind (G27 (⟨x15,x16,x17,x18⟩ : VStewBook)) fun r80 =>
 some (r80,0))
 (some ((⟨x4,(x0.take ((x1 : Int).toNat)++List.replicate (((x0.length : Int).toNat) - ((x1 : Int).toNat)) (⟨⟨#[]⟩,0,false,0,0,0,0,0,0,0,0,0,0⟩ : C .e79)++x0.drop ((x0.length : Int).toNat)).take x1.toNat,x5,x6⟩ : VStewBook),0))) none) none) none) none) none)
section
variable (x0 : List (C .e79)) (x1 : Int) (x3 : Nat) (x4 : Int) (x5 : List (C .e83)) (x6 : List (C .e81)) (x7 : ByteArray) (x8 : Int) (x9 : Int) (x10 : Int) (x11 : Int) (x12 : Bool) (x13 : List (C .e89)) (x14 : Bool) (x15 : Int) (x16 : List (C .e79)) (x17 : List (C .e83)) (x18 : List (C .e81)) (x19 : Int) (x20 : List (C .e79)) (x21 : List (C .e83)) (x22 : List (C .e81))
def s9_11 : A9_11→St C:=fun x2=>{ env:=[(0,.one (.ref 100000 [])),(1,.one (.vo 68719478589248)),(7,.one (.int .i64 x1)),(8,.one (.int .i64 x2)),(1000,.sus (false,[.ref 100000 []]) 16287011000),(1001,.sus (false,[.vo 68719478589248]) 16287011001),(2000,.sus (false,[.ptr 590208 0]) 16287000),(2003,.sus (false,[.ptr 68719478571200 0]) 16287003),(2005,.sus (false,[.ep 100000 [] x3 0]) 16287005),(2280,.sus (false,[.ptr 590208 0]) 16287280),(3002,.sus (false,[.ptr 589952 0]) 16002),(3004,.sus (false,[.ptr 590080 0]) 16004),(3006,.sus (false,[.ptr 590208 0]) 16006)],objs:=[(100000,.row .e79 x0 false),(68719478589248,.box (.clo 68 0 [(false,1)]) [.ptr 68719478571200 0]),(590208,.box .mem [.int .i64 x4,.ref 100000 [],.ref 60020802 [],.ref 60020803 []]),(60020802,.row .e83 x5 false),(60020803,.row .e81 x6 false),(68719478571200,.box .mem [.str x7,.int .i64 x8,.int .i64 x9,.int .i64 x10,.int .i64 x11,.bool x12,.row .e89 x13,.bool x14]),(589952,.box .mem [.int .i64 x15,.row .e79 x16,.row .e83 x17,.row .e81 x18]),(590080,.box .mem [.int .i64 x19,.ref 60008001 [],.ref 60008002 [],.ref 60008003 []]),(60008001,.row .e79 x20 false),(60008002,.row .e83 x21 false),(60008003,.row .e81 x22 false)],base:=16287011000 }
end
noncomputable def r9_11 (x0 : List (C .e79)) (x1 : Int) (x4 : Int) (x5 : List (C .e83)) (x6 : List (C .e81)) (x7 : ByteArray) (x8 : Int) (x9 : Int) (x10 : Int) (x11 : Int) (x12 : Bool) (x13 : List (C .e89)) (x14 : Bool) (x15 : Int) (x16 : List (C .e79)) (x17 : List (C .e83)) (x18 : List (C .e81)) (n : Nat)   (rec11 : A9_11→Option (VStewBook×Int)) : A9_11→Option (VStewBook×Int):=fun x2 =>
 cond (decide (x2<x1))
 (cond (decide (0≤x2)) (cond (decide (x2<(x0.length : Int))) (Option.bind x0[x2.toNat]? fun e74=>Option.bind (G68 e74 (⟨x7,x8,x9,x10,x11,x12,x13,x14⟩ : VStewAct)) fun r75 =>
 cond r75
 (cond (x2 == (-1))
 (cond (0 != 0)
 (Option.bind (G27 (⟨x15,x16,x17,x18⟩ : VStewBook)) fun r76 =>
 some (r76,0))
 (some ((⟨x4,x0,x5,x6⟩ : VStewBook),0)))
 (lpN (r9_12 x4 x5 x6 x7 x8 x9 x10 x11 x12 x13 x14 x15 x16 x17 x18 n ) n ((x0,x2,IntKind.i64.wrap (x2+1)))))
 (rec11 (IntKind.i64.wrap (x2+1)))) none) none)
 (cond ((-1) == (-1))
 (cond (0 != 0)
 (Option.bind (G27 (⟨x15,x16,x17,x18⟩ : VStewBook)) fun r81 =>
 some (r81,0))
 (some ((⟨x4,x0,x5,x6⟩ : VStewBook),0)))
 (lpN (r9_12 x4 x5 x6 x7 x8 x9 x10 x11 x12 x13 x14 x15 x16 x17 x18 n ) n ((x0,(-1),IntKind.i64.wrap ((-1)+1)))))
section
variable (x1 : Nat) (x3 : Int) (x5 : Int) (x7 : List (C .e81)) (x8 : ByteArray) (x9 : Int) (x10 : Int) (x11 : Int) (x12 : Int) (x13 : Bool) (x14 : List (C .e89)) (x15 : Bool) (x16 : Int) (x17 : List (C .e79)) (x18 : List (C .e83)) (x19 : List (C .e81)) (x20 : Int) (x21 : List (C .e79)) (x22 : List (C .e83)) (x23 : List (C .e81))
def s9_10 : A9_10→St C:=fun (x0,x2,x4,x6)=>{ env:=[(0,.one (.ptr 590208 0)),(3,.one (.ptr 68719478571200 0)),(5,.one (.ep 60020801 [] x1 0)),(14,.one (.int .i64 x2)),(238,.one (.int .i64 x3)),(239,.one (.int .i64 x4)),(1002,.sus (false,[.ptr 589952 0]) 16002),(1004,.sus (false,[.ptr 590080 0]) 16004),(1006,.sus (false,[.ptr 590208 0]) 16006)],objs:=[(60020801,.row .e79 x0 false),(590208,.box .mem [.int .i64 x5,.ref 60020801 [],.ref 60020802 [],.ref 60020803 []]),(60020802,.row .e83 x6 false),(60020803,.row .e81 x7 false),(68719478571200,.box .mem [.str x8,.int .i64 x9,.int .i64 x10,.int .i64 x11,.int .i64 x12,.bool x13,.row .e89 x14,.bool x15]),(589952,.box .mem [.int .i64 x16,.row .e79 x17,.row .e83 x18,.row .e81 x19]),(590080,.box .mem [.int .i64 x20,.ref 60008001 [],.ref 60008002 [],.ref 60008003 []]),(60008001,.row .e79 x21 false),(60008002,.row .e83 x22 false),(60008003,.row .e81 x23 false)],base:=16000 }
end
noncomputable def r9_10 (x1 : Nat) (x3 : Int) (x5 : Int) (x7 : List (C .e81)) (x8 : ByteArray) (x9 : Int) (x10 : Int) (x11 : Int) (x12 : Int) (x13 : Bool) (x14 : List (C .e89)) (x15 : Bool) (x16 : Int) (x17 : List (C .e79)) (x18 : List (C .e83)) (x19 : List (C .e81)) (n : Nat)   (rec10 : A9_10→Option (VStewBook×Int)) : A9_10→Option (VStewBook×Int):=fun (x0,x2,x4,x6) =>
 cond (decide (x4<x3))
 (Option.bind x0[x1]? fun e69=>Option.bind x0[x1]? fun e70=>Option.bind x0[x1]? fun e71=>cond (Nat.beq (([(⟨e69.Name,e70.Next,x5,e71.Image,1,false,(⟨#[]⟩ : ByteArray)⟩ : VStewCopy)] : List (C .e83))).length 1&&decide (0≤x2)) (cond (decide (x2≤(x6.length : Int))) (cond (decide ((x6.length+(([(⟨e69.Name,e70.Next,x5,e71.Image,1,false,(⟨#[]⟩ : ByteArray)⟩ : VStewCopy)] : List (C .e83))).length)*72≤140737488355328)) (Option.bind x0[x1]? fun e72=>Option.bind x0[x1]? fun e73=>rec10 ((x0.set x1 ((⟨e73.Name,e73.Version,e73.Gone,e73.Image,e73.Want,e73.Down,e73.Over,IntKind.i64.wrap (e72.Next+1),e73.Per,e73.Least,e73.Most,e73.Load,e73.Cool⟩ : VStewService)),IntKind.i64.wrap (x2+1),IntKind.i64.wrap (x4+1),x6.take x2.toNat++(([(⟨e69.Name,e70.Next,x5,e71.Image,1,false,(⟨#[]⟩ : ByteArray)⟩ : VStewCopy)] : List (C .e83)))++x6.drop x2.toNat))) none) none) none)
 (cond x15
 (lpN (r9_11 x0 (x0.length : Int) x5 x6 x7 x8 x9 x10 x11 x12 x13 x14 x15 x16 x17 x18 x19 n ) n 0)
 (cond (0 != 0)
 (Option.bind (G27 (⟨x16,x17,x18,x19⟩ : VStewBook)) fun r82 =>
 some (r82,0))
 (some ((⟨x5,x0,x6,x7⟩ : VStewBook),0))))
section
variable (x0 : List (C .e79)) (x1 : Nat) (x3 : Int) (x4 : List (C .e83)) (x5 : List (C .e81)) (x6 : ByteArray) (x7 : Int) (x8 : Int) (x9 : Int) (x10 : Int) (x11 : Bool) (x12 : List (C .e89)) (x13 : Bool) (x14 : Int) (x15 : List (C .e79)) (x16 : List (C .e83)) (x17 : List (C .e81)) (x18 : Int) (x19 : List (C .e79)) (x20 : List (C .e83)) (x21 : List (C .e81))
def s9_9 : A9_9→St C:=fun x2=>{ env:=[(0,.one (.ptr 590208 0)),(3,.one (.ptr 68719478571200 0)),(5,.one (.ep 60020801 [] x1 0)),(14,.one (.int .i64 x2)),(1002,.sus (false,[.ptr 589952 0]) 16002),(1004,.sus (false,[.ptr 590080 0]) 16004),(1006,.sus (false,[.ptr 590208 0]) 16006)],objs:=[(60020801,.row .e79 x0 false),(590208,.box .mem [.int .i64 x3,.ref 60020801 [],.ref 60020802 [],.ref 60020803 []]),(60020802,.row .e83 x4 false),(60020803,.row .e81 x5 false),(68719478571200,.box .mem [.str x6,.int .i64 x7,.int .i64 x8,.int .i64 x9,.int .i64 x10,.bool x11,.row .e89 x12,.bool x13]),(589952,.box .mem [.int .i64 x14,.row .e79 x15,.row .e83 x16,.row .e81 x17]),(590080,.box .mem [.int .i64 x18,.ref 60008001 [],.ref 60008002 [],.ref 60008003 []]),(60008001,.row .e79 x19 false),(60008002,.row .e83 x20 false),(60008003,.row .e81 x21 false)],base:=16000 }
end
noncomputable def r9_9 (x0 : List (C .e79)) (x1 : Nat) (x3 : Int) (x4 : List (C .e83)) (x5 : List (C .e81)) (x6 : ByteArray) (x7 : Int) (x8 : Int) (x9 : Int) (x10 : Int) (x11 : Bool) (x12 : List (C .e89)) (x13 : Bool) (x14 : Int) (x15 : List (C .e79)) (x16 : List (C .e83)) (x17 : List (C .e81)) (n : Nat)   (rec9 : A9_9→Option (VStewBook×Int)) : A9_9→Option (VStewBook×Int):=fun x2 =>
 cond (decide (x2<(x4.length : Int)))
 (cond (decide (0≤x2)) (cond (decide (x2<(x4.length : Int))) (Option.bind x4[x2.toNat]? fun e67=>Option.bind x0[x1]? fun e68=>cond (!slt e68.Name e67.Service)
 (rec9 (IntKind.i64.wrap (x2+1)))
 (lpN (r9_10 x1 x8 x3 x5 x6 x7 x8 x9 x10 x11 x12 x13 x14 x15 x16 x17 n ) n (x0,x2,0,x4))) none) none)
 (lpN (r9_10 x1 x8 x3 x5 x6 x7 x8 x9 x10 x11 x12 x13 x14 x15 x16 x17 n ) n (x0,x2,0,x4))
section
variable (x0 : List (C .e79)) (x1 : Nat) (x2 : List (C .e89)) (x3 : Int) (x5 : Int) (x7 : List (C .e81)) (x8 : ByteArray) (x9 : Int) (x10 : Int) (x11 : Int) (x12 : Int) (x13 : Bool) (x14 : List (C .e89)) (x15 : Bool) (x16 : Int) (x17 : List (C .e79)) (x18 : List (C .e83)) (x19 : List (C .e81)) (x20 : Int) (x21 : List (C .e79)) (x22 : List (C .e83)) (x23 : List (C .e81))
def s9_7 : A9_7→St C:=fun (x4,x6)=>{ env:=[(0,.one (.ptr 590208 0)),(3,.one (.ptr 68719478571200 0)),(5,.one (.ep 60020801 [] x1 0)),(67,.one (.row .e89 x2)),(68,.one (.int .i64 x3)),(69,.one (.int .i64 x4)),(1002,.sus (false,[.ptr 589952 0]) 16002),(1004,.sus (false,[.ptr 590080 0]) 16004),(1006,.sus (false,[.ptr 590208 0]) 16006)],objs:=[(60020801,.row .e79 x0 false),(590208,.box .mem [.int .i64 x5,.ref 60020801 [],.ref 60020802 [],.ref 60020803 []]),(60020802,.row .e83 x6 false),(60020803,.row .e81 x7 false),(68719478571200,.box .mem [.str x8,.int .i64 x9,.int .i64 x10,.int .i64 x11,.int .i64 x12,.bool x13,.row .e89 x14,.bool x15]),(589952,.box .mem [.int .i64 x16,.row .e79 x17,.row .e83 x18,.row .e81 x19]),(590080,.box .mem [.int .i64 x20,.ref 60008001 [],.ref 60008002 [],.ref 60008003 []]),(60008001,.row .e79 x21 false),(60008002,.row .e83 x22 false),(60008003,.row .e81 x23 false)],base:=16000 }
end
noncomputable def r9_7 (x0 : List (C .e79)) (x1 : Nat) (x2 : List (C .e89)) (x3 : Int) (x5 : Int) (x7 : List (C .e81)) (x8 : ByteArray) (x9 : Int) (x10 : Int) (x11 : Int) (x12 : Int) (x13 : Bool) (x14 : List (C .e89)) (x15 : Bool) (x16 : Int) (x17 : List (C .e79)) (x18 : List (C .e83)) (x19 : List (C .e81)) (n : Nat)   (rec7 : A9_7→Option (VStewBook×Int)) : A9_7→Option (VStewBook×Int):=fun (x4,x6) =>
 cond (decide (x4<x3))
 (cond (decide (0≤x4)) (Option.bind x2[x4.toNat]? fun e25=>lpN (r9_8 x8 e25.Number (x6.length : Int) x0 x1 x4 x5 x6 x7 x16 x17 x18 x19 n rec7) n 0) none)
 (Option.bind x0[x1]? fun e44=>Option.bind (G65 (⟨x5,x0,x6,x7⟩ : VStewBook) e44) fun r45 =>
 cond x15
 (Option.bind x0[x1]? fun e46=>cond (!e46.Gone)
 (cond (6 != 0)
 (Option.bind (G27 (⟨x16,x17,x18,x19⟩ : VStewBook)) fun r47 =>
 some (r47,6))
 (some ((⟨x5,x0,x6,x7⟩ : VStewBook),0)))
 (cond (decide ((IntKind.i64.wrap (r45.Live+r45.Ending))>0))
 (cond (6 != 0)
 (Option.bind (G27 (⟨x16,x17,x18,x19⟩ : VStewBook)) fun r48 =>
 some (r48,6))
 (some ((⟨x5,x0,x6,x7⟩ : VStewBook),0)))
 (cond x13
 (Option.bind x0[x1]? fun e49=>cond (e49.Per == 0)
 (cond (6 != 0)
 (Option.bind (G27 (⟨x16,x17,x18,x19⟩ : VStewBook)) fun r50 =>
 some (r50,6))
 (some ((⟨x5,x0,x6,x7⟩ : VStewBook),0)))
 (Option.bind x0[x1]? fun e51=>Option.bind x0[x1]? fun e52=>Option.bind (G57 x11 e51.Least e52.Most) fun r53 =>
 cond (!r53)
 (cond (6 != 0)
 (Option.bind (G27 (⟨x16,x17,x18,x19⟩ : VStewBook)) fun r54 =>
 some (r54,6))
 (some ((⟨x5,x0,x6,x7⟩ : VStewBook),0)))
 ((fun y=>alt y (alt y (alt y (alt y (alt y (y))))))
 (Option.bind x0[x1]? fun e55=>Option.bind (x0.set x1 (⟨e55.Name,e55.Version,e55.Gone,e55.Image,x11,e55.Down,e55.Over,e55.Next,e55.Per,e55.Least,e55.Most,e55.Load,e55.Cool⟩ : VStewService))[x1]? fun e56=>cond (decide (x10>0))
 (Option.bind ((x0.set x1 (⟨e55.Name,e55.Version,e55.Gone,e55.Image,x11,e55.Down,e55.Over,e55.Next,e55.Per,e55.Least,e55.Most,e55.Load,e55.Cool⟩ : VStewService)).set x1 (⟨e56.Name,e56.Version,e56.Gone,e56.Image,e56.Want,e56.Down,e56.Over,e56.Next,e56.Per,e56.Least,e56.Most,e56.Load,x12⟩ : VStewService))[x1]? fun e57=>cond e57.Gone
 (cond (6 != 0)
 (Option.bind (G27 (⟨x16,x17,x18,x19⟩ : VStewBook)) fun r58 =>
 some (r58,6))
 (some ((⟨x5,(x0.set x1 (⟨e55.Name,e55.Version,e55.Gone,e55.Image,x11,e55.Down,e55.Over,e55.Next,e55.Per,e55.Least,e55.Most,e55.Load,e55.Cool⟩ : VStewService)).set x1 (⟨e56.Name,e56.Version,e56.Gone,e56.Image,e56.Want,e56.Down,e56.Over,e56.Next,e56.Per,e56.Least,e56.Most,e56.Load,x12⟩ : VStewService),x6,x7⟩ : VStewBook),0)))
 (Option.bind ((x0.set x1 (⟨e55.Name,e55.Version,e55.Gone,e55.Image,x11,e55.Down,e55.Over,e55.Next,e55.Per,e55.Least,e55.Most,e55.Load,e55.Cool⟩ : VStewService)).set x1 (⟨e56.Name,e56.Version,e56.Gone,e56.Image,e56.Want,e56.Down,e56.Over,e56.Next,e56.Per,e56.Least,e56.Most,e56.Load,x12⟩ : VStewService))[x1]? fun e59=>Option.bind ((x0.set x1 (⟨e55.Name,e55.Version,e55.Gone,e55.Image,x11,e55.Down,e55.Over,e55.Next,e55.Per,e55.Least,e55.Most,e55.Load,e55.Cool⟩ : VStewService)).set x1 (⟨e56.Name,e56.Version,e56.Gone,e56.Image,e56.Want,e56.Down,e56.Over,e56.Next,e56.Per,e56.Least,e56.Most,e56.Load,x12⟩ : VStewService))[x1]? fun e60=>cond (decide ((IntKind.i64.wrap (r45.Live+x10))>(IntKind.i64.wrap (e59.Want+e60.Over))))
 (cond (6 != 0)
 (Option.bind (G27 (⟨x16,x17,x18,x19⟩ : VStewBook)) fun r61 =>
 some (r61,6))
 (some ((⟨x5,(x0.set x1 (⟨e55.Name,e55.Version,e55.Gone,e55.Image,x11,e55.Down,e55.Over,e55.Next,e55.Per,e55.Least,e55.Most,e55.Load,e55.Cool⟩ : VStewService)).set x1 (⟨e56.Name,e56.Version,e56.Gone,e56.Image,e56.Want,e56.Down,e56.Over,e56.Next,e56.Per,e56.Least,e56.Most,e56.Load,x12⟩ : VStewService),x6,x7⟩ : VStewBook),0)))
 (cond (decide ((IntKind.i64.wrap ((x6.length : Int)+x10))>200))
 (cond (7 != 0)
 (Option.bind (G27 (⟨x16,x17,x18,x19⟩ : VStewBook)) fun r62 =>
 some (r62,7))
 (some ((⟨x5,(x0.set x1 (⟨e55.Name,e55.Version,e55.Gone,e55.Image,x11,e55.Down,e55.Over,e55.Next,e55.Per,e55.Least,e55.Most,e55.Load,e55.Cool⟩ : VStewService)).set x1 (⟨e56.Name,e56.Version,e56.Gone,e56.Image,e56.Want,e56.Down,e56.Over,e56.Next,e56.Per,e56.Least,e56.Most,e56.Load,x12⟩ : VStewService),x6,x7⟩ : VStewBook),0)))
 (Option.bind ((x0.set x1 (⟨e55.Name,e55.Version,e55.Gone,e55.Image,x11,e55.Down,e55.Over,e55.Next,e55.Per,e55.Least,e55.Most,e55.Load,e55.Cool⟩ : VStewService)).set x1 (⟨e56.Name,e56.Version,e56.Gone,e56.Image,e56.Want,e56.Down,e56.Over,e56.Next,e56.Per,e56.Least,e56.Most,e56.Load,x12⟩ : VStewService))[x1]? fun e63=>cond (decide ((IntKind.i64.wrap (e63.Next+x10))>1000000))
 (cond (7 != 0)
 (Option.bind (G27 (⟨x16,x17,x18,x19⟩ : VStewBook)) fun r64 =>
 some (r64,7))
 (some ((⟨x5,(x0.set x1 (⟨e55.Name,e55.Version,e55.Gone,e55.Image,x11,e55.Down,e55.Over,e55.Next,e55.Per,e55.Least,e55.Most,e55.Load,e55.Cool⟩ : VStewService)).set x1 (⟨e56.Name,e56.Version,e56.Gone,e56.Image,e56.Want,e56.Down,e56.Over,e56.Next,e56.Per,e56.Least,e56.Most,e56.Load,x12⟩ : VStewService),x6,x7⟩ : VStewBook),0)))
 (cond (x5 == 1000000)
 (cond (7 != 0)
 (Option.bind (G27 (⟨x16,x17,x18,x19⟩ : VStewBook)) fun r65 =>
 some (r65,7))
 (some ((⟨x5,(x0.set x1 (⟨e55.Name,e55.Version,e55.Gone,e55.Image,x11,e55.Down,e55.Over,e55.Next,e55.Per,e55.Least,e55.Most,e55.Load,e55.Cool⟩ : VStewService)).set x1 (⟨e56.Name,e56.Version,e56.Gone,e56.Image,e56.Want,e56.Down,e56.Over,e56.Next,e56.Per,e56.Least,e56.Most,e56.Load,x12⟩ : VStewService),x6,x7⟩ : VStewBook),0)))
 (Option.bind ((x0.set x1 (⟨e55.Name,e55.Version,e55.Gone,e55.Image,x11,e55.Down,e55.Over,e55.Next,e55.Per,e55.Least,e55.Most,e55.Load,e55.Cool⟩ : VStewService)).set x1 (⟨e56.Name,e56.Version,e56.Gone,e56.Image,e56.Want,e56.Down,e56.Over,e56.Next,e56.Per,e56.Least,e56.Most,e56.Load,x12⟩ : VStewService))[x1]? fun e66=>lpN (r9_9 (((x0.set x1 (⟨e55.Name,e55.Version,e55.Gone,e55.Image,x11,e55.Down,e55.Over,e55.Next,e55.Per,e55.Least,e55.Most,e55.Load,e55.Cool⟩ : VStewService)).set x1 (⟨e56.Name,e56.Version,e56.Gone,e56.Image,e56.Want,e56.Down,e56.Over,e56.Next,e56.Per,e56.Least,e56.Most,e56.Load,x12⟩ : VStewService)).set x1 ((⟨e66.Name,IntKind.i64.wrap (x5+1),e66.Gone,e66.Image,e66.Want,e66.Down,e66.Over,e66.Next,e66.Per,e66.Least,e66.Most,e66.Load,e66.Cool⟩ : VStewService))) x1 (IntKind.i64.wrap (x5+1)) x6 x7 x8 x9 x10 x11 x12 x13 x14 x15 x16 x17 x18 x19 n ) n 0))))))
 (cond (decide ((IntKind.i64.wrap ((x6.length : Int)+x10))>200))
 (cond (7 != 0)
 (Option.bind (G27 (⟨x16,x17,x18,x19⟩ : VStewBook)) fun r83 =>
 some (r83,7))
 (some ((⟨x5,(x0.set x1 (⟨e55.Name,e55.Version,e55.Gone,e55.Image,x11,e55.Down,e55.Over,e55.Next,e55.Per,e55.Least,e55.Most,e55.Load,e55.Cool⟩ : VStewService)).set x1 (⟨e56.Name,e56.Version,e56.Gone,e56.Image,e56.Want,e56.Down,e56.Over,e56.Next,e56.Per,e56.Least,e56.Most,e56.Load,x12⟩ : VStewService),x6,x7⟩ : VStewBook),0)))
 (Option.bind ((x0.set x1 (⟨e55.Name,e55.Version,e55.Gone,e55.Image,x11,e55.Down,e55.Over,e55.Next,e55.Per,e55.Least,e55.Most,e55.Load,e55.Cool⟩ : VStewService)).set x1 (⟨e56.Name,e56.Version,e56.Gone,e56.Image,e56.Want,e56.Down,e56.Over,e56.Next,e56.Per,e56.Least,e56.Most,e56.Load,x12⟩ : VStewService))[x1]? fun e84=>cond (decide ((IntKind.i64.wrap (e84.Next+x10))>1000000))
 (cond (7 != 0)
 (Option.bind (G27 (⟨x16,x17,x18,x19⟩ : VStewBook)) fun r85 =>
 some (r85,7))
 (some ((⟨x5,(x0.set x1 (⟨e55.Name,e55.Version,e55.Gone,e55.Image,x11,e55.Down,e55.Over,e55.Next,e55.Per,e55.Least,e55.Most,e55.Load,e55.Cool⟩ : VStewService)).set x1 (⟨e56.Name,e56.Version,e56.Gone,e56.Image,e56.Want,e56.Down,e56.Over,e56.Next,e56.Per,e56.Least,e56.Most,e56.Load,x12⟩ : VStewService),x6,x7⟩ : VStewBook),0)))
 (cond (x5 == 1000000)
 (cond (7 != 0)
 (Option.bind (G27 (⟨x16,x17,x18,x19⟩ : VStewBook)) fun r86 =>
 some (r86,7))
 (some ((⟨x5,(x0.set x1 (⟨e55.Name,e55.Version,e55.Gone,e55.Image,x11,e55.Down,e55.Over,e55.Next,e55.Per,e55.Least,e55.Most,e55.Load,e55.Cool⟩ : VStewService)).set x1 (⟨e56.Name,e56.Version,e56.Gone,e56.Image,e56.Want,e56.Down,e56.Over,e56.Next,e56.Per,e56.Least,e56.Most,e56.Load,x12⟩ : VStewService),x6,x7⟩ : VStewBook),0)))
 (Option.bind ((x0.set x1 (⟨e55.Name,e55.Version,e55.Gone,e55.Image,x11,e55.Down,e55.Over,e55.Next,e55.Per,e55.Least,e55.Most,e55.Load,e55.Cool⟩ : VStewService)).set x1 (⟨e56.Name,e56.Version,e56.Gone,e56.Image,e56.Want,e56.Down,e56.Over,e56.Next,e56.Per,e56.Least,e56.Most,e56.Load,x12⟩ : VStewService))[x1]? fun e87=>lpN (r9_9 (((x0.set x1 (⟨e55.Name,e55.Version,e55.Gone,e55.Image,x11,e55.Down,e55.Over,e55.Next,e55.Per,e55.Least,e55.Most,e55.Load,e55.Cool⟩ : VStewService)).set x1 (⟨e56.Name,e56.Version,e56.Gone,e56.Image,e56.Want,e56.Down,e56.Over,e56.Next,e56.Per,e56.Least,e56.Most,e56.Load,x12⟩ : VStewService)).set x1 ((⟨e87.Name,IntKind.i64.wrap (x5+1),e87.Gone,e87.Image,e87.Want,e87.Down,e87.Over,e87.Next,e87.Per,e87.Least,e87.Most,e87.Load,e87.Cool⟩ : VStewService))) x1 (IntKind.i64.wrap (x5+1)) x6 x7 x8 x9 x10 x11 x12 x13 x14 x15 x16 x17 x18 x19 n ) n 0))))))))
 (cond (decide (x10>0))
 (Option.bind x0[x1]? fun e173=>cond e173.Gone
 (cond (6 != 0)
 (Option.bind (G27 (⟨x16,x17,x18,x19⟩ : VStewBook)) fun r174 =>
 some (r174,6))
 (some ((⟨x5,x0,x6,x7⟩ : VStewBook),0)))
 (Option.bind x0[x1]? fun e175=>Option.bind x0[x1]? fun e176=>cond (decide ((IntKind.i64.wrap (r45.Live+x10))>(IntKind.i64.wrap (e175.Want+e176.Over))))
 (cond (6 != 0)
 (Option.bind (G27 (⟨x16,x17,x18,x19⟩ : VStewBook)) fun r177 =>
 some (r177,6))
 (some ((⟨x5,x0,x6,x7⟩ : VStewBook),0)))
 (cond (decide ((IntKind.i64.wrap ((x6.length : Int)+x10))>200))
 (cond (7 != 0)
 (Option.bind (G27 (⟨x16,x17,x18,x19⟩ : VStewBook)) fun r178 =>
 some (r178,7))
 (some ((⟨x5,x0,x6,x7⟩ : VStewBook),0)))
 (Option.bind x0[x1]? fun e179=>cond (decide ((IntKind.i64.wrap (e179.Next+x10))>1000000))
 (cond (7 != 0)
 (Option.bind (G27 (⟨x16,x17,x18,x19⟩ : VStewBook)) fun r180 =>
 some (r180,7))
 (some ((⟨x5,x0,x6,x7⟩ : VStewBook),0)))
 (cond (x5 == 1000000)
 (cond (7 != 0)
 (Option.bind (G27 (⟨x16,x17,x18,x19⟩ : VStewBook)) fun r181 =>
 some (r181,7))
 (some ((⟨x5,x0,x6,x7⟩ : VStewBook),0)))
 (Option.bind x0[x1]? fun e182=>lpN (r9_9 (x0.set x1 ((⟨e182.Name,IntKind.i64.wrap (x5+1),e182.Gone,e182.Image,e182.Want,e182.Down,e182.Over,e182.Next,e182.Per,e182.Least,e182.Most,e182.Load,e182.Cool⟩ : VStewService))) x1 (IntKind.i64.wrap (x5+1)) x6 x7 x8 x9 x10 x11 x12 x13 x14 x15 x16 x17 x18 x19 n ) n 0))))))
 (cond (decide ((IntKind.i64.wrap ((x6.length : Int)+x10))>200))
 (cond (7 != 0)
 (Option.bind (G27 (⟨x16,x17,x18,x19⟩ : VStewBook)) fun r183 =>
 some (r183,7))
 (some ((⟨x5,x0,x6,x7⟩ : VStewBook),0)))
 (Option.bind x0[x1]? fun e184=>cond (decide ((IntKind.i64.wrap (e184.Next+x10))>1000000))
 (cond (7 != 0)
 (Option.bind (G27 (⟨x16,x17,x18,x19⟩ : VStewBook)) fun r185 =>
 some (r185,7))
 (some ((⟨x5,x0,x6,x7⟩ : VStewBook),0)))
 (cond (x5 == 1000000)
 (cond (7 != 0)
 (Option.bind (G27 (⟨x16,x17,x18,x19⟩ : VStewBook)) fun r186 =>
 some (r186,7))
 (some ((⟨x5,x0,x6,x7⟩ : VStewBook),0)))
 (Option.bind x0[x1]? fun e187=>lpN (r9_9 (x0.set x1 ((⟨e187.Name,IntKind.i64.wrap (x5+1),e187.Gone,e187.Image,e187.Want,e187.Down,e187.Over,e187.Next,e187.Per,e187.Least,e187.Most,e187.Load,e187.Cool⟩ : VStewService))) x1 (IntKind.i64.wrap (x5+1)) x6 x7 x8 x9 x10 x11 x12 x13 x14 x15 x16 x17 x18 x19 n ) n 0))))))))
 (cond x13
 (Option.bind x0[x1]? fun e188=>cond (e188.Per == 0)
 (cond (6 != 0)
 (Option.bind (G27 (⟨x16,x17,x18,x19⟩ : VStewBook)) fun r189 =>
 some (r189,6))
 (some ((⟨x5,x0,x6,x7⟩ : VStewBook),0)))
 (Option.bind x0[x1]? fun e190=>Option.bind x0[x1]? fun e191=>Option.bind (G57 x11 e190.Least e191.Most) fun r192 =>
 cond (!r192)
 (cond (6 != 0)
 (Option.bind (G27 (⟨x16,x17,x18,x19⟩ : VStewBook)) fun r193 =>
 some (r193,6))
 (some ((⟨x5,x0,x6,x7⟩ : VStewBook),0)))
 ((fun y=>alt y (alt y (alt y (alt y (alt y (y))))))
 (Option.bind x0[x1]? fun e194=>Option.bind (x0.set x1 (⟨e194.Name,e194.Version,e194.Gone,e194.Image,x11,e194.Down,e194.Over,e194.Next,e194.Per,e194.Least,e194.Most,e194.Load,e194.Cool⟩ : VStewService))[x1]? fun e195=>cond (decide (x10>0))
 (Option.bind ((x0.set x1 (⟨e194.Name,e194.Version,e194.Gone,e194.Image,x11,e194.Down,e194.Over,e194.Next,e194.Per,e194.Least,e194.Most,e194.Load,e194.Cool⟩ : VStewService)).set x1 (⟨e195.Name,e195.Version,e195.Gone,e195.Image,e195.Want,e195.Down,e195.Over,e195.Next,e195.Per,e195.Least,e195.Most,e195.Load,x12⟩ : VStewService))[x1]? fun e196=>cond e196.Gone
 (cond (6 != 0)
 (Option.bind (G27 (⟨x16,x17,x18,x19⟩ : VStewBook)) fun r197 =>
 some (r197,6))
 (some ((⟨x5,(x0.set x1 (⟨e194.Name,e194.Version,e194.Gone,e194.Image,x11,e194.Down,e194.Over,e194.Next,e194.Per,e194.Least,e194.Most,e194.Load,e194.Cool⟩ : VStewService)).set x1 (⟨e195.Name,e195.Version,e195.Gone,e195.Image,e195.Want,e195.Down,e195.Over,e195.Next,e195.Per,e195.Least,e195.Most,e195.Load,x12⟩ : VStewService),x6,x7⟩ : VStewBook),0)))
 (Option.bind ((x0.set x1 (⟨e194.Name,e194.Version,e194.Gone,e194.Image,x11,e194.Down,e194.Over,e194.Next,e194.Per,e194.Least,e194.Most,e194.Load,e194.Cool⟩ : VStewService)).set x1 (⟨e195.Name,e195.Version,e195.Gone,e195.Image,e195.Want,e195.Down,e195.Over,e195.Next,e195.Per,e195.Least,e195.Most,e195.Load,x12⟩ : VStewService))[x1]? fun e198=>Option.bind ((x0.set x1 (⟨e194.Name,e194.Version,e194.Gone,e194.Image,x11,e194.Down,e194.Over,e194.Next,e194.Per,e194.Least,e194.Most,e194.Load,e194.Cool⟩ : VStewService)).set x1 (⟨e195.Name,e195.Version,e195.Gone,e195.Image,e195.Want,e195.Down,e195.Over,e195.Next,e195.Per,e195.Least,e195.Most,e195.Load,x12⟩ : VStewService))[x1]? fun e199=>cond (decide ((IntKind.i64.wrap (r45.Live+x10))>(IntKind.i64.wrap (e198.Want+e199.Over))))
 (cond (6 != 0)
 (Option.bind (G27 (⟨x16,x17,x18,x19⟩ : VStewBook)) fun r200 =>
 some (r200,6))
 (some ((⟨x5,(x0.set x1 (⟨e194.Name,e194.Version,e194.Gone,e194.Image,x11,e194.Down,e194.Over,e194.Next,e194.Per,e194.Least,e194.Most,e194.Load,e194.Cool⟩ : VStewService)).set x1 (⟨e195.Name,e195.Version,e195.Gone,e195.Image,e195.Want,e195.Down,e195.Over,e195.Next,e195.Per,e195.Least,e195.Most,e195.Load,x12⟩ : VStewService),x6,x7⟩ : VStewBook),0)))
 (cond (decide ((IntKind.i64.wrap ((x6.length : Int)+x10))>200))
 (cond (7 != 0)
 (Option.bind (G27 (⟨x16,x17,x18,x19⟩ : VStewBook)) fun r201 =>
 some (r201,7))
 (some ((⟨x5,(x0.set x1 (⟨e194.Name,e194.Version,e194.Gone,e194.Image,x11,e194.Down,e194.Over,e194.Next,e194.Per,e194.Least,e194.Most,e194.Load,e194.Cool⟩ : VStewService)).set x1 (⟨e195.Name,e195.Version,e195.Gone,e195.Image,e195.Want,e195.Down,e195.Over,e195.Next,e195.Per,e195.Least,e195.Most,e195.Load,x12⟩ : VStewService),x6,x7⟩ : VStewBook),0)))
 (Option.bind ((x0.set x1 (⟨e194.Name,e194.Version,e194.Gone,e194.Image,x11,e194.Down,e194.Over,e194.Next,e194.Per,e194.Least,e194.Most,e194.Load,e194.Cool⟩ : VStewService)).set x1 (⟨e195.Name,e195.Version,e195.Gone,e195.Image,e195.Want,e195.Down,e195.Over,e195.Next,e195.Per,e195.Least,e195.Most,e195.Load,x12⟩ : VStewService))[x1]? fun e202=>cond (decide ((IntKind.i64.wrap (e202.Next+x10))>1000000))
 (cond (7 != 0)
 (Option.bind (G27 (⟨x16,x17,x18,x19⟩ : VStewBook)) fun r203 =>
 some (r203,7))
 (some ((⟨x5,(x0.set x1 (⟨e194.Name,e194.Version,e194.Gone,e194.Image,x11,e194.Down,e194.Over,e194.Next,e194.Per,e194.Least,e194.Most,e194.Load,e194.Cool⟩ : VStewService)).set x1 (⟨e195.Name,e195.Version,e195.Gone,e195.Image,e195.Want,e195.Down,e195.Over,e195.Next,e195.Per,e195.Least,e195.Most,e195.Load,x12⟩ : VStewService),x6,x7⟩ : VStewBook),0)))
 (cond (x5 == 1000000)
 (cond (7 != 0)
 (Option.bind (G27 (⟨x16,x17,x18,x19⟩ : VStewBook)) fun r204 =>
 some (r204,7))
 (some ((⟨x5,(x0.set x1 (⟨e194.Name,e194.Version,e194.Gone,e194.Image,x11,e194.Down,e194.Over,e194.Next,e194.Per,e194.Least,e194.Most,e194.Load,e194.Cool⟩ : VStewService)).set x1 (⟨e195.Name,e195.Version,e195.Gone,e195.Image,e195.Want,e195.Down,e195.Over,e195.Next,e195.Per,e195.Least,e195.Most,e195.Load,x12⟩ : VStewService),x6,x7⟩ : VStewBook),0)))
 (Option.bind ((x0.set x1 (⟨e194.Name,e194.Version,e194.Gone,e194.Image,x11,e194.Down,e194.Over,e194.Next,e194.Per,e194.Least,e194.Most,e194.Load,e194.Cool⟩ : VStewService)).set x1 (⟨e195.Name,e195.Version,e195.Gone,e195.Image,e195.Want,e195.Down,e195.Over,e195.Next,e195.Per,e195.Least,e195.Most,e195.Load,x12⟩ : VStewService))[x1]? fun e205=>lpN (r9_9 (((x0.set x1 (⟨e194.Name,e194.Version,e194.Gone,e194.Image,x11,e194.Down,e194.Over,e194.Next,e194.Per,e194.Least,e194.Most,e194.Load,e194.Cool⟩ : VStewService)).set x1 (⟨e195.Name,e195.Version,e195.Gone,e195.Image,e195.Want,e195.Down,e195.Over,e195.Next,e195.Per,e195.Least,e195.Most,e195.Load,x12⟩ : VStewService)).set x1 ((⟨e205.Name,IntKind.i64.wrap (x5+1),e205.Gone,e205.Image,e205.Want,e205.Down,e205.Over,e205.Next,e205.Per,e205.Least,e205.Most,e205.Load,e205.Cool⟩ : VStewService))) x1 (IntKind.i64.wrap (x5+1)) x6 x7 x8 x9 x10 x11 x12 x13 x14 x15 x16 x17 x18 x19 n ) n 0))))))
 (cond (decide ((IntKind.i64.wrap ((x6.length : Int)+x10))>200))
 (cond (7 != 0)
 (Option.bind (G27 (⟨x16,x17,x18,x19⟩ : VStewBook)) fun r206 =>
 some (r206,7))
 (some ((⟨x5,(x0.set x1 (⟨e194.Name,e194.Version,e194.Gone,e194.Image,x11,e194.Down,e194.Over,e194.Next,e194.Per,e194.Least,e194.Most,e194.Load,e194.Cool⟩ : VStewService)).set x1 (⟨e195.Name,e195.Version,e195.Gone,e195.Image,e195.Want,e195.Down,e195.Over,e195.Next,e195.Per,e195.Least,e195.Most,e195.Load,x12⟩ : VStewService),x6,x7⟩ : VStewBook),0)))
 (Option.bind ((x0.set x1 (⟨e194.Name,e194.Version,e194.Gone,e194.Image,x11,e194.Down,e194.Over,e194.Next,e194.Per,e194.Least,e194.Most,e194.Load,e194.Cool⟩ : VStewService)).set x1 (⟨e195.Name,e195.Version,e195.Gone,e195.Image,e195.Want,e195.Down,e195.Over,e195.Next,e195.Per,e195.Least,e195.Most,e195.Load,x12⟩ : VStewService))[x1]? fun e207=>cond (decide ((IntKind.i64.wrap (e207.Next+x10))>1000000))
 (cond (7 != 0)
 (Option.bind (G27 (⟨x16,x17,x18,x19⟩ : VStewBook)) fun r208 =>
 some (r208,7))
 (some ((⟨x5,(x0.set x1 (⟨e194.Name,e194.Version,e194.Gone,e194.Image,x11,e194.Down,e194.Over,e194.Next,e194.Per,e194.Least,e194.Most,e194.Load,e194.Cool⟩ : VStewService)).set x1 (⟨e195.Name,e195.Version,e195.Gone,e195.Image,e195.Want,e195.Down,e195.Over,e195.Next,e195.Per,e195.Least,e195.Most,e195.Load,x12⟩ : VStewService),x6,x7⟩ : VStewBook),0)))
 (cond (x5 == 1000000)
 (cond (7 != 0)
 (Option.bind (G27 (⟨x16,x17,x18,x19⟩ : VStewBook)) fun r209 =>
 some (r209,7))
 (some ((⟨x5,(x0.set x1 (⟨e194.Name,e194.Version,e194.Gone,e194.Image,x11,e194.Down,e194.Over,e194.Next,e194.Per,e194.Least,e194.Most,e194.Load,e194.Cool⟩ : VStewService)).set x1 (⟨e195.Name,e195.Version,e195.Gone,e195.Image,e195.Want,e195.Down,e195.Over,e195.Next,e195.Per,e195.Least,e195.Most,e195.Load,x12⟩ : VStewService),x6,x7⟩ : VStewBook),0)))
 (Option.bind ((x0.set x1 (⟨e194.Name,e194.Version,e194.Gone,e194.Image,x11,e194.Down,e194.Over,e194.Next,e194.Per,e194.Least,e194.Most,e194.Load,e194.Cool⟩ : VStewService)).set x1 (⟨e195.Name,e195.Version,e195.Gone,e195.Image,e195.Want,e195.Down,e195.Over,e195.Next,e195.Per,e195.Least,e195.Most,e195.Load,x12⟩ : VStewService))[x1]? fun e210=>lpN (r9_9 (((x0.set x1 (⟨e194.Name,e194.Version,e194.Gone,e194.Image,x11,e194.Down,e194.Over,e194.Next,e194.Per,e194.Least,e194.Most,e194.Load,e194.Cool⟩ : VStewService)).set x1 (⟨e195.Name,e195.Version,e195.Gone,e195.Image,e195.Want,e195.Down,e195.Over,e195.Next,e195.Per,e195.Least,e195.Most,e195.Load,x12⟩ : VStewService)).set x1 ((⟨e210.Name,IntKind.i64.wrap (x5+1),e210.Gone,e210.Image,e210.Want,e210.Down,e210.Over,e210.Next,e210.Per,e210.Least,e210.Most,e210.Load,e210.Cool⟩ : VStewService))) x1 (IntKind.i64.wrap (x5+1)) x6 x7 x8 x9 x10 x11 x12 x13 x14 x15 x16 x17 x18 x19 n ) n 0))))))))
 (cond (decide (x10>0))
 (Option.bind x0[x1]? fun e296=>cond e296.Gone
 (cond (6 != 0)
 (Option.bind (G27 (⟨x16,x17,x18,x19⟩ : VStewBook)) fun r297 =>
 some (r297,6))
 (some ((⟨x5,x0,x6,x7⟩ : VStewBook),0)))
 (Option.bind x0[x1]? fun e298=>Option.bind x0[x1]? fun e299=>cond (decide ((IntKind.i64.wrap (r45.Live+x10))>(IntKind.i64.wrap (e298.Want+e299.Over))))
 (cond (6 != 0)
 (Option.bind (G27 (⟨x16,x17,x18,x19⟩ : VStewBook)) fun r300 =>
 some (r300,6))
 (some ((⟨x5,x0,x6,x7⟩ : VStewBook),0)))
 (cond (decide ((IntKind.i64.wrap ((x6.length : Int)+x10))>200))
 (cond (7 != 0)
 (Option.bind (G27 (⟨x16,x17,x18,x19⟩ : VStewBook)) fun r301 =>
 some (r301,7))
 (some ((⟨x5,x0,x6,x7⟩ : VStewBook),0)))
 (Option.bind x0[x1]? fun e302=>cond (decide ((IntKind.i64.wrap (e302.Next+x10))>1000000))
 (cond (7 != 0)
 (Option.bind (G27 (⟨x16,x17,x18,x19⟩ : VStewBook)) fun r303 =>
 some (r303,7))
 (some ((⟨x5,x0,x6,x7⟩ : VStewBook),0)))
 (cond (x5 == 1000000)
 (cond (7 != 0)
 (Option.bind (G27 (⟨x16,x17,x18,x19⟩ : VStewBook)) fun r304 =>
 some (r304,7))
 (some ((⟨x5,x0,x6,x7⟩ : VStewBook),0)))
 (Option.bind x0[x1]? fun e305=>lpN (r9_9 (x0.set x1 ((⟨e305.Name,IntKind.i64.wrap (x5+1),e305.Gone,e305.Image,e305.Want,e305.Down,e305.Over,e305.Next,e305.Per,e305.Least,e305.Most,e305.Load,e305.Cool⟩ : VStewService))) x1 (IntKind.i64.wrap (x5+1)) x6 x7 x8 x9 x10 x11 x12 x13 x14 x15 x16 x17 x18 x19 n ) n 0))))))
 (cond (decide ((IntKind.i64.wrap ((x6.length : Int)+x10))>200))
 (cond (7 != 0)
 (Option.bind (G27 (⟨x16,x17,x18,x19⟩ : VStewBook)) fun r306 =>
 some (r306,7))
 (some ((⟨x5,x0,x6,x7⟩ : VStewBook),0)))
 (Option.bind x0[x1]? fun e307=>cond (decide ((IntKind.i64.wrap (e307.Next+x10))>1000000))
 (cond (7 != 0)
 (Option.bind (G27 (⟨x16,x17,x18,x19⟩ : VStewBook)) fun r308 =>
 some (r308,7))
 (some ((⟨x5,x0,x6,x7⟩ : VStewBook),0)))
 (cond (x5 == 1000000)
 (cond (7 != 0)
 (Option.bind (G27 (⟨x16,x17,x18,x19⟩ : VStewBook)) fun r309 =>
 some (r309,7))
 (some ((⟨x5,x0,x6,x7⟩ : VStewBook),0)))
 (Option.bind x0[x1]? fun e310=>lpN (r9_9 (x0.set x1 ((⟨e310.Name,IntKind.i64.wrap (x5+1),e310.Gone,e310.Image,e310.Want,e310.Down,e310.Over,e310.Next,e310.Per,e310.Least,e310.Most,e310.Load,e310.Cool⟩ : VStewService))) x1 (IntKind.i64.wrap (x5+1)) x6 x7 x8 x9 x10 x11 x12 x13 x14 x15 x16 x17 x18 x19 n ) n 0)))))))
section
variable (x0 : List (C .e79)) (x1 : Nat) (x2 : List (C .e89)) (x3 : Int) (x5 : Int) (x6 : List (C .e83)) (x7 : List (C .e81)) (x8 : ByteArray) (x9 : Int) (x10 : Int) (x11 : Int) (x12 : Int) (x13 : Bool) (x14 : List (C .e89)) (x15 : Bool) (x16 : Int) (x17 : List (C .e79)) (x18 : List (C .e83)) (x19 : List (C .e81)) (x20 : Int) (x21 : List (C .e79)) (x22 : List (C .e83)) (x23 : List (C .e81))
def s9_3 : A9_3→St C:=fun x4=>{ env:=[(0,.one (.ptr 590208 0)),(3,.one (.ptr 68719478571200 0)),(5,.one (.ep 60020801 [] x1 0)),(47,.one (.row .e89 x2)),(48,.one (.int .i64 x3)),(49,.one (.int .i64 x4)),(1002,.sus (false,[.ptr 589952 0]) 16002),(1004,.sus (false,[.ptr 590080 0]) 16004),(1006,.sus (false,[.ptr 590208 0]) 16006)],objs:=[(60020801,.row .e79 x0 false),(590208,.box .mem [.int .i64 x5,.ref 60020801 [],.ref 60020802 [],.ref 60020803 []]),(60020802,.row .e83 x6 false),(60020803,.row .e81 x7 false),(68719478571200,.box .mem [.str x8,.int .i64 x9,.int .i64 x10,.int .i64 x11,.int .i64 x12,.bool x13,.row .e89 x14,.bool x15]),(589952,.box .mem [.int .i64 x16,.row .e79 x17,.row .e83 x18,.row .e81 x19]),(590080,.box .mem [.int .i64 x20,.ref 60008001 [],.ref 60008002 [],.ref 60008003 []]),(60008001,.row .e79 x21 false),(60008002,.row .e83 x22 false),(60008003,.row .e81 x23 false)],base:=16000 }
end
noncomputable def r9_3 (x0 : List (C .e79)) (x1 : Nat) (x2 : List (C .e89)) (x3 : Int) (x5 : Int) (x6 : List (C .e83)) (x7 : List (C .e81)) (x8 : ByteArray) (x9 : Int) (x10 : Int) (x11 : Int) (x12 : Int) (x13 : Bool) (x14 : List (C .e89)) (x15 : Bool) (x16 : Int) (x17 : List (C .e79)) (x18 : List (C .e83)) (x19 : List (C .e81)) (n : Nat)   (rec3 : A9_3→Option (VStewBook×Int)) : A9_3→Option (VStewBook×Int):=fun x4 =>
 cond (decide (x4<x3))
 (cond (decide (0≤x4)) (Option.bind x2[x4.toNat]? fun e12=>alt (lpN (r9_4 x8 e12.Number (x6.length : Int) x0 x4 e12.Seen x5 x6 x7 x16 x17 x18 x19 n rec3) n 0)
 (alt (lpN (r9_5 x8 e12.Number (x6.length : Int) x0 x4 x5 x6 x7 e12.Seen x16 x17 x18 x19 n rec3) n 0)
 (lpN (r9_6 x8 e12.Number (x6.length : Int) x0 x4 x5 x6 x7 e12.Seen x16 x17 x18 x19 n rec3) n 0))) none)
 (lpN (r9_7 x0 x1 x14 (x14.length : Int) x5 x7 x8 x9 x10 x11 x12 x13 x14 x15 x16 x17 x18 x19 n ) n (0,x6))
section
variable (x0 : List (C .e79)) (x1 : Nat) (x2 : List (C .e89)) (x3 : Int) (x5 : Int) (x6 : List (C .e83)) (x7 : List (C .e81)) (x8 : ByteArray) (x9 : Int) (x10 : Int) (x11 : Int) (x12 : Int) (x13 : Bool) (x14 : List (C .e89)) (x15 : Bool) (x16 : Int) (x17 : List (C .e79)) (x18 : List (C .e83)) (x19 : List (C .e81)) (x20 : Int) (x21 : List (C .e79)) (x22 : List (C .e83)) (x23 : List (C .e81))
def s9_1 : A9_1→St C:=fun x4=>{ env:=[(0,.one (.ptr 590208 0)),(3,.one (.ptr 68719478571200 0)),(5,.one (.ep 60020801 [] x1 0)),(25,.one (.row .e89 x2)),(26,.one (.int .i64 x3)),(27,.one (.int .i64 x4)),(1002,.sus (false,[.ptr 589952 0]) 16002),(1004,.sus (false,[.ptr 590080 0]) 16004),(1006,.sus (false,[.ptr 590208 0]) 16006)],objs:=[(60020801,.row .e79 x0 false),(590208,.box .mem [.int .i64 x5,.ref 60020801 [],.ref 60020802 [],.ref 60020803 []]),(60020802,.row .e83 x6 false),(60020803,.row .e81 x7 false),(68719478571200,.box .mem [.str x8,.int .i64 x9,.int .i64 x10,.int .i64 x11,.int .i64 x12,.bool x13,.row .e89 x14,.bool x15]),(589952,.box .mem [.int .i64 x16,.row .e79 x17,.row .e83 x18,.row .e81 x19]),(590080,.box .mem [.int .i64 x20,.ref 60008001 [],.ref 60008002 [],.ref 60008003 []]),(60008001,.row .e79 x21 false),(60008002,.row .e83 x22 false),(60008003,.row .e81 x23 false)],base:=16000 }
end
noncomputable def r9_1 (x0 : List (C .e79)) (x1 : Nat) (x2 : List (C .e89)) (x3 : Int) (x5 : Int) (x6 : List (C .e83)) (x7 : List (C .e81)) (x8 : ByteArray) (x9 : Int) (x10 : Int) (x11 : Int) (x12 : Int) (x13 : Bool) (x14 : List (C .e89)) (x15 : Bool) (x16 : Int) (x17 : List (C .e79)) (x18 : List (C .e83)) (x19 : List (C .e81)) (n : Nat)   (rec1 : A9_1→Option (VStewBook×Int)) : A9_1→Option (VStewBook×Int):=fun x4 =>
 cond (decide (x4<x3))
 (cond (decide (0≤x4)) (Option.bind x2[x4.toNat]? fun e6=>lpN (r9_2 x8 e6.Number (x6.length : Int) x0 x4 x5 x6 x7 x16 x17 x18 x19 n rec1) n 0) none)
 (Option.bind x0[x1]? fun e10=>cond (e10.Version != x9)
 (cond (4 != 0)
 (Option.bind (G27 (⟨x16,x17,x18,x19⟩ : VStewBook)) fun r11 =>
 some (r11,4))
 (some ((⟨x5,x0,x6,x7⟩ : VStewBook),0)))
 (lpN (r9_3 x0 x1 x14 (x14.length : Int) x5 x6 x7 x8 x9 x10 x11 x12 x13 x14 x15 x16 x17 x18 x19 n ) n 0))
section
variable (x0 : ByteArray) (x1 : Int) (x3 : Int) (x4 : List (C .e79)) (x5 : List (C .e83)) (x6 : List (C .e81)) (x7 : ByteArray) (x8 : Int) (x9 : Int) (x10 : Int) (x11 : Int) (x12 : Bool) (x13 : List (C .e89)) (x14 : Bool) (x15 : Int) (x16 : List (C .e79)) (x17 : List (C .e83)) (x18 : List (C .e81)) (x19 : Int) (x20 : List (C .e79)) (x21 : List (C .e83)) (x22 : List (C .e81))
def s9_0 : A9_0→St C:=fun x2=>{ env:=[(0,.one (.ptr 590208 0)),(1,.one (.str x0)),(10,.one (.int .i64 x1)),(11,.one (.int .i64 x2)),(1000,.sus (false,[.ptr 590208 0]) 16022000),(1003,.sus (false,[.ptr 68719478571200 0]) 16022003),(2002,.sus (false,[.ptr 589952 0]) 16002),(2004,.sus (false,[.ptr 590080 0]) 16004),(2006,.sus (false,[.ptr 590208 0]) 16006)],objs:=[(590208,.box .mem [.int .i64 x3,.ref 60020801 [],.ref 60020802 [],.ref 60020803 []]),(60020801,.row .e79 x4 false),(60020802,.row .e83 x5 false),(60020803,.row .e81 x6 false),(68719478571200,.box .mem [.str x7,.int .i64 x8,.int .i64 x9,.int .i64 x10,.int .i64 x11,.bool x12,.row .e89 x13,.bool x14]),(589952,.box .mem [.int .i64 x15,.row .e79 x16,.row .e83 x17,.row .e81 x18]),(590080,.box .mem [.int .i64 x19,.ref 60008001 [],.ref 60008002 [],.ref 60008003 []]),(60008001,.row .e79 x20 false),(60008002,.row .e83 x21 false),(60008003,.row .e81 x22 false)],base:=16022000 }
end
noncomputable def r9_0 (x0 : ByteArray) (x1 : Int) (x3 : Int) (x4 : List (C .e79)) (x5 : List (C .e83)) (x6 : List (C .e81)) (x7 : ByteArray) (x8 : Int) (x9 : Int) (x10 : Int) (x11 : Int) (x12 : Bool) (x13 : List (C .e89)) (x14 : Bool) (x15 : Int) (x16 : List (C .e79)) (x17 : List (C .e83)) (x18 : List (C .e81)) (n : Nat)   (rec0 : A9_0→Option (VStewBook×Int)) : A9_0→Option (VStewBook×Int):=fun x2 =>
 cond (decide (x2<x1))
 (cond (decide (0≤x2)) (cond (decide (x2<(x4.length : Int))) (Option.bind x4[x2.toNat]? fun e5=>cond (decide (e5.Name=x0))
 (cond (decide (0≤x2)) (cond (decide (x2<(x4.length : Int))) (lpN (r9_1 x4 x2.toNat x13 (x13.length : Int) x3 x5 x6 x7 x8 x9 x10 x11 x12 x13 x14 x15 x16 x17 x18 n ) n 0) none) none)
 (rec0 (IntKind.i64.wrap (x2+1)))) none) none)
 (cond (3 != 0)
 (Option.bind (G27 (⟨x15,x16,x17,x18⟩ : VStewBook)) fun r311 =>
 some (r311,3))
 (some ((⟨x3,x4,x5,x6⟩ : VStewBook),0)))
section
variable (x0 : ByteArray) (x1 : Int) (x2 : Int) (x4 : List (C .e79)) (x5 : Nat) (x6 : List (C .e89)) (x7 : Int) (x8 : Int) (x9 : Int) (x10 : List (C .e83)) (x11 : List (C .e81)) (x12 : ByteArray) (x13 : Int) (x14 : Int) (x15 : Int) (x16 : Int) (x17 : Bool) (x18 : List (C .e89)) (x19 : Bool) (x20 : Int) (x21 : List (C .e79)) (x22 : List (C .e83)) (x23 : List (C .e81)) (x24 : Int) (x25 : List (C .e79)) (x26 : List (C .e83)) (x27 : List (C .e81))
noncomputable def MP9_2 (n : Nat) (rec1 : St C→Option (VStewBook×Int)) (x : A9_2) : Option (VStewBook×Int):=iter (fun rec S=>run X63 (F63 n) (codeAt (bodyOf Try.f63) [1,0,1,0,0]) 0 S (lopK rec (blkK 0 (seqK (run X63 (F63 n) (codeAt (bodyOf Try.f63) [1,1]) 0) (inlK X63 Try.f63 (callK 16036000 16000 (some 36) (restK (X28 n) (codeAt (bodyOf Try.f28) [1,1,1,1,0,1,0,0,1,1,0,0,1,0]) 6 (regK (F28 n) (seqK (run (X28 n) (F28 n) (codeAt (bodyOf Try.f28) [1,1,1,1,0,1,0,0,1,1,0,0,1,1]) 1) (blkK 1 (seqK (run (X28 n) (F28 n) (codeAt (bodyOf Try.f28) [1,1,1,1,0,1,0,0,1,1,1]) 0) (lopK (canThen [0,3,5,25,26,27] rec1) (blkK 0 (seqK (run (X28 n) (F28 n) (codeAt (bodyOf Try.f28) [1,1,1,1,1]) 0) (inlK (X28 n) Try.f28 (callK 15000 0 (some 15) (restK (X9 n) (codeAt (bodyOf Try.f9) [1,1,1,0,0]) 2 (regK (F9 n) (seqK (run (X9 n) (F9 n) (codeAt (bodyOf Try.f9) [1,1,1,0,1]) 0) (seqK (run (X9 n) (F9 n) (codeAt (bodyOf Try.f9) [1,1,1,1]) 0) (kTop (X9 n) Try.f9 dec9))))))))))))))))))))) [0,1,2,12,13] n (s9_2 x0 x1 x2 x4 x5 x6 x7 x8 x9 x10 x11 x12 x13 x14 x15 x16 x17 x18 x19 x20 x21 x22 x23 x24 x25 x26 x27 x)
theorem m9_2 (n : Nat) (rec1 : St C→Option (VStewBook×Int)) (x : A9_2) : MP9_2 x0 x1 x2 x4 x5 x6 x7 x8 x9 x10 x11 x12 x13 x14 x15 x16 x17 x18 x19 x20 x21 x22 x23 x24 x25 x26 x27 n rec1 x=lpN (r9_2 x0 x1 x2 x4 x8 x9 x10 x11 x20 x21 x22 x23 n  (fun x=>rec1 (s9_1 x4 x5 x6 x7 x9 x10 x11 x12 x13 x14 x15 x16 x17 x18 x19 x20 x21 x22 x23 x24 x25 x26 x27 x))) n x:=by
  refine iter_eq (s9_2 x0 x1 x2 x4 x5 x6 x7 x8 x9 x10 x11 x12 x13 x14 x15 x16 x17 x18 x19 x20 x21 x22 x23 x24 x25 x26 x27) (r9_2 x0 x1 x2 x4 x8 x9 x10 x11 x20 x21 x22 x23 n  (fun x=>rec1 (s9_1 x4 x5 x6 x7 x9 x10 x11 x12 x13 x14 x15 x16 x17 x18 x19 x20 x21 x22 x23 x24 x25 x26 x27 x))) (fun rec2 x3 => ?_) n x
  kernel_rfl
end
section
variable (x0 : ByteArray) (x1 : Int) (x2 : Int) (x4 : List (C .e79)) (x5 : Nat) (x6 : List (C .e89)) (x7 : Int) (x8 : Int) (x9 : ByteArray) (x10 : Int) (x11 : Int) (x12 : Int) (x13 : List (C .e83)) (x14 : List (C .e81)) (x15 : ByteArray) (x16 : Int) (x17 : Int) (x18 : Int) (x19 : Int) (x20 : Bool) (x21 : List (C .e89)) (x22 : Bool) (x23 : Int) (x24 : Int) (x25 : Int) (x26 : List (C .e79)) (x27 : List (C .e83)) (x28 : List (C .e81)) (x29 : Int) (x30 : List (C .e79)) (x31 : List (C .e83)) (x32 : List (C .e81))
noncomputable def MP9_4 (n : Nat) (rec3 : St C→Option (VStewBook×Int)) (x : A9_4) : Option (VStewBook×Int):=iter (fun rec S=>run X63 (F63 n) (codeAt (bodyOf Try.f63) [1,0,1,0,0]) 0 S (lopK rec (blkK 0 (seqK (run X63 (F63 n) (codeAt (bodyOf Try.f63) [1,1]) 0) (inlK X63 Try.f63 (callK 16058000 16000 (some 58) (drawK (X28 n) (codeAt (bodyOf Try.f28) [1,1,1,1,1,1,0,1,0,0,1,1,0,0,1,0]) 4088 [6,7,8,11] (regK (F28 n) (seqK (run (X28 n) (F28 n) (codeAt (bodyOf Try.f28) [1,1,1,1,1,1,0,1,0,0,1,1,0,0,1,1]) 3) (blkK 3 (seqK (run (X28 n) (F28 n) (codeAt (bodyOf Try.f28) [1,1,1,1,1,1,0,1,0,0,1,1,1]) 2) (lopK (canThen [0,3,5,47,48,49] rec3) (blkK 2 (seqK (run (X28 n) (F28 n) (codeAt (bodyOf Try.f28) [1,1,1,1,1,1,1]) 0) (inlK (X28 n) Try.f28 (callK 15000 0 (some 15) (restK (X9 n) (codeAt (bodyOf Try.f9) [1,1,1,0,0]) 2 (regK (F9 n) (seqK (run (X9 n) (F9 n) (codeAt (bodyOf Try.f9) [1,1,1,0,1]) 0) (seqK (run (X9 n) (F9 n) (codeAt (bodyOf Try.f9) [1,1,1,1]) 0) (kTop (X9 n) Try.f9 dec9))))))))))))))))))))) [0,1,2,12,13] n (s9_4 x0 x1 x2 x4 x5 x6 x7 x8 x9 x10 x11 x12 x13 x14 x15 x16 x17 x18 x19 x20 x21 x22 x23 x24 x25 x26 x27 x28 x29 x30 x31 x32 x)
theorem m9_4 (n : Nat) (rec3 : St C→Option (VStewBook×Int)) (x : A9_4) : MP9_4 x0 x1 x2 x4 x5 x6 x7 x8 x9 x10 x11 x12 x13 x14 x15 x16 x17 x18 x19 x20 x21 x22 x23 x24 x25 x26 x27 x28 x29 x30 x31 x32 n rec3 x=lpN (r9_4 x0 x1 x2 x4 x8 x11 x12 x13 x14 x25 x26 x27 x28 n  (fun x=>rec3 (s9_3 x4 x5 x6 x7 x12 x13 x14 x15 x16 x17 x18 x19 x20 x21 x22 x25 x26 x27 x28 x29 x30 x31 x32 x))) n x:=by
  refine iter_eq (s9_4 x0 x1 x2 x4 x5 x6 x7 x8 x9 x10 x11 x12 x13 x14 x15 x16 x17 x18 x19 x20 x21 x22 x23 x24 x25 x26 x27 x28 x29 x30 x31 x32) (r9_4 x0 x1 x2 x4 x8 x11 x12 x13 x14 x25 x26 x27 x28 n  (fun x=>rec3 (s9_3 x4 x5 x6 x7 x12 x13 x14 x15 x16 x17 x18 x19 x20 x21 x22 x25 x26 x27 x28 x29 x30 x31 x32 x))) (fun rec4 x3 => ?_) n x
  kernel_rfl
end
section
variable (x0 : ByteArray) (x1 : Int) (x2 : Int) (x4 : List (C .e79)) (x5 : Nat) (x6 : List (C .e89)) (x7 : Int) (x8 : Int) (x9 : ByteArray) (x10 : Int) (x11 : Int) (x12 : List (C .e83)) (x13 : List (C .e81)) (x14 : ByteArray) (x15 : Int) (x16 : Int) (x17 : Int) (x18 : Int) (x19 : Bool) (x20 : List (C .e89)) (x21 : Bool) (x22 : Int) (x23 : Int) (x24 : Int) (x25 : List (C .e79)) (x26 : List (C .e83)) (x27 : List (C .e81)) (x28 : Int) (x29 : List (C .e79)) (x30 : List (C .e83)) (x31 : List (C .e81))
noncomputable def MP9_5 (n : Nat) (rec3 : St C→Option (VStewBook×Int)) (x : A9_5) : Option (VStewBook×Int):=iter (fun rec S=>run X63 (F63 n) (codeAt (bodyOf Try.f63) [1,0,1,0,0]) 0 S (lopK rec (blkK 0 (seqK (run X63 (F63 n) (codeAt (bodyOf Try.f63) [1,1]) 0) (inlK X63 Try.f63 (callK 16058000 16000 (some 58) (drawK (X28 n) (codeAt (bodyOf Try.f28) [1,1,1,1,1,1,0,1,0,0,1,1,0,0,1,0]) 4088 [10,6,7,8,11] (regK (F28 n) (seqK (run (X28 n) (F28 n) (codeAt (bodyOf Try.f28) [1,1,1,1,1,1,0,1,0,0,1,1,0,0,1,1]) 3) (blkK 3 (seqK (run (X28 n) (F28 n) (codeAt (bodyOf Try.f28) [1,1,1,1,1,1,0,1,0,0,1,1,1]) 2) (lopK (canThen [0,3,5,47,48,49] rec3) (blkK 2 (seqK (run (X28 n) (F28 n) (codeAt (bodyOf Try.f28) [1,1,1,1,1,1,1]) 0) (inlK (X28 n) Try.f28 (callK 15000 0 (some 15) (restK (X9 n) (codeAt (bodyOf Try.f9) [1,1,1,0,0]) 2 (regK (F9 n) (seqK (run (X9 n) (F9 n) (codeAt (bodyOf Try.f9) [1,1,1,0,1]) 0) (seqK (run (X9 n) (F9 n) (codeAt (bodyOf Try.f9) [1,1,1,1]) 0) (kTop (X9 n) Try.f9 dec9))))))))))))))))))))) [0,1,2,12,13] n (s9_5 x0 x1 x2 x4 x5 x6 x7 x8 x9 x10 x11 x12 x13 x14 x15 x16 x17 x18 x19 x20 x21 x22 x23 x24 x25 x26 x27 x28 x29 x30 x31 x)
theorem m9_5 (n : Nat) (rec3 : St C→Option (VStewBook×Int)) (x : A9_5) : MP9_5 x0 x1 x2 x4 x5 x6 x7 x8 x9 x10 x11 x12 x13 x14 x15 x16 x17 x18 x19 x20 x21 x22 x23 x24 x25 x26 x27 x28 x29 x30 x31 n rec3 x=lpN (r9_5 x0 x1 x2 x4 x8 x11 x12 x13 x23 x24 x25 x26 x27 n  (fun x=>rec3 (s9_3 x4 x5 x6 x7 x11 x12 x13 x14 x15 x16 x17 x18 x19 x20 x21 x24 x25 x26 x27 x28 x29 x30 x31 x))) n x:=by
  refine iter_eq (s9_5 x0 x1 x2 x4 x5 x6 x7 x8 x9 x10 x11 x12 x13 x14 x15 x16 x17 x18 x19 x20 x21 x22 x23 x24 x25 x26 x27 x28 x29 x30 x31) (r9_5 x0 x1 x2 x4 x8 x11 x12 x13 x23 x24 x25 x26 x27 n  (fun x=>rec3 (s9_3 x4 x5 x6 x7 x11 x12 x13 x14 x15 x16 x17 x18 x19 x20 x21 x24 x25 x26 x27 x28 x29 x30 x31 x))) (fun rec5 x3 => ?_) n x
  kernel_rfl
end
section
variable (x0 : ByteArray) (x1 : Int) (x2 : Int) (x4 : List (C .e79)) (x5 : Nat) (x6 : List (C .e89)) (x7 : Int) (x8 : Int) (x9 : ByteArray) (x10 : Int) (x11 : Int) (x12 : List (C .e83)) (x13 : List (C .e81)) (x14 : ByteArray) (x15 : Int) (x16 : Int) (x17 : Int) (x18 : Int) (x19 : Bool) (x20 : List (C .e89)) (x21 : Bool) (x22 : Int) (x23 : Int) (x24 : Int) (x25 : List (C .e79)) (x26 : List (C .e83)) (x27 : List (C .e81)) (x28 : Int) (x29 : List (C .e79)) (x30 : List (C .e83)) (x31 : List (C .e81))
noncomputable def MP9_6 (n : Nat) (rec3 : St C→Option (VStewBook×Int)) (x : A9_6) : Option (VStewBook×Int):=iter (fun rec S=>run X63 (F63 n) (codeAt (bodyOf Try.f63) [1,0,1,0,0]) 0 S (lopK rec (blkK 0 (seqK (run X63 (F63 n) (codeAt (bodyOf Try.f63) [1,1]) 0) (inlK X63 Try.f63 (callK 16058000 16000 (some 58) (drawK (X28 n) (codeAt (bodyOf Try.f28) [1,1,1,1,1,1,0,1,0,0,1,1,0,0,1,0]) 4088 [9,10,6,7,8,11] (regK (F28 n) (seqK (run (X28 n) (F28 n) (codeAt (bodyOf Try.f28) [1,1,1,1,1,1,0,1,0,0,1,1,0,0,1,1]) 3) (blkK 3 (seqK (run (X28 n) (F28 n) (codeAt (bodyOf Try.f28) [1,1,1,1,1,1,0,1,0,0,1,1,1]) 2) (lopK (canThen [0,3,5,47,48,49] rec3) (blkK 2 (seqK (run (X28 n) (F28 n) (codeAt (bodyOf Try.f28) [1,1,1,1,1,1,1]) 0) (inlK (X28 n) Try.f28 (callK 15000 0 (some 15) (restK (X9 n) (codeAt (bodyOf Try.f9) [1,1,1,0,0]) 2 (regK (F9 n) (seqK (run (X9 n) (F9 n) (codeAt (bodyOf Try.f9) [1,1,1,0,1]) 0) (seqK (run (X9 n) (F9 n) (codeAt (bodyOf Try.f9) [1,1,1,1]) 0) (kTop (X9 n) Try.f9 dec9))))))))))))))))))))) [0,1,2,12,13] n (s9_6 x0 x1 x2 x4 x5 x6 x7 x8 x9 x10 x11 x12 x13 x14 x15 x16 x17 x18 x19 x20 x21 x22 x23 x24 x25 x26 x27 x28 x29 x30 x31 x)
theorem m9_6 (n : Nat) (rec3 : St C→Option (VStewBook×Int)) (x : A9_6) : MP9_6 x0 x1 x2 x4 x5 x6 x7 x8 x9 x10 x11 x12 x13 x14 x15 x16 x17 x18 x19 x20 x21 x22 x23 x24 x25 x26 x27 x28 x29 x30 x31 n rec3 x=lpN (r9_6 x0 x1 x2 x4 x8 x11 x12 x13 x23 x24 x25 x26 x27 n  (fun x=>rec3 (s9_3 x4 x5 x6 x7 x11 x12 x13 x14 x15 x16 x17 x18 x19 x20 x21 x24 x25 x26 x27 x28 x29 x30 x31 x))) n x:=by
  refine iter_eq (s9_6 x0 x1 x2 x4 x5 x6 x7 x8 x9 x10 x11 x12 x13 x14 x15 x16 x17 x18 x19 x20 x21 x22 x23 x24 x25 x26 x27 x28 x29 x30 x31) (r9_6 x0 x1 x2 x4 x8 x11 x12 x13 x23 x24 x25 x26 x27 n  (fun x=>rec3 (s9_3 x4 x5 x6 x7 x11 x12 x13 x14 x15 x16 x17 x18 x19 x20 x21 x24 x25 x26 x27 x28 x29 x30 x31 x))) (fun rec6 x3 => ?_) n x
  kernel_rfl
end
section
variable (x0 : ByteArray) (x1 : Int) (x2 : Int) (x4 : List (C .e79)) (x5 : Nat) (x6 : List (C .e89)) (x7 : Int) (x8 : Int) (x9 : Int) (x10 : List (C .e83)) (x11 : List (C .e81)) (x12 : ByteArray) (x13 : Int) (x14 : Int) (x15 : Int) (x16 : Int) (x17 : Bool) (x18 : List (C .e89)) (x19 : Bool) (x20 : Int) (x21 : List (C .e79)) (x22 : List (C .e83)) (x23 : List (C .e81)) (x24 : Int) (x25 : List (C .e79)) (x26 : List (C .e83)) (x27 : List (C .e81))
noncomputable def MP9_8 (n : Nat) (rec7 : St C→Option (VStewBook×Int)) (x : A9_8) : Option (VStewBook×Int):=iter (fun rec S=>run X63 (F63 n) (codeAt (bodyOf Try.f63) [1,0,1,0,0]) 0 S (lopK rec (blkK 0 (seqK (run X63 (F63 n) (codeAt (bodyOf Try.f63) [1,1]) 0) (inlK X63 Try.f63 (callK 16078000 16000 (some 78) (restK (X28 n) (codeAt (bodyOf Try.f28) [1,1,1,1,1,1,1,0,1,0,0,1,1,0,0,1,0]) 6 (regK (F28 n) (seqK (run (X28 n) (F28 n) (codeAt (bodyOf Try.f28) [1,1,1,1,1,1,1,0,1,0,0,1,1,0,0,1,1]) 5) (blkK 5 (seqK (run (X28 n) (F28 n) (codeAt (bodyOf Try.f28) [1,1,1,1,1,1,1,0,1,0,0,1,1,1]) 4) (lopK (canThen [0,3,5,67,68,69] rec7) (blkK 4 (seqK (run (X28 n) (F28 n) (codeAt (bodyOf Try.f28) [1,1,1,1,1,1,1,1]) 0) (inlK (X28 n) Try.f28 (callK 15000 0 (some 15) (restK (X9 n) (codeAt (bodyOf Try.f9) [1,1,1,0,0]) 2 (regK (F9 n) (seqK (run (X9 n) (F9 n) (codeAt (bodyOf Try.f9) [1,1,1,0,1]) 0) (seqK (run (X9 n) (F9 n) (codeAt (bodyOf Try.f9) [1,1,1,1]) 0) (kTop (X9 n) Try.f9 dec9))))))))))))))))))))) [0,1,2,12,13] n (s9_8 x0 x1 x2 x4 x5 x6 x7 x8 x9 x10 x11 x12 x13 x14 x15 x16 x17 x18 x19 x20 x21 x22 x23 x24 x25 x26 x27 x)
theorem m9_8 (n : Nat) (rec7 : St C→Option (VStewBook×Int)) (x : A9_8) : MP9_8 x0 x1 x2 x4 x5 x6 x7 x8 x9 x10 x11 x12 x13 x14 x15 x16 x17 x18 x19 x20 x21 x22 x23 x24 x25 x26 x27 n rec7 x=lpN (r9_8 x0 x1 x2 x4 x5 x8 x9 x10 x11 x20 x21 x22 x23 n  (fun x=>rec7 (s9_7 x4 x5 x6 x7 x9 x11 x12 x13 x14 x15 x16 x17 x18 x19 x20 x21 x22 x23 x24 x25 x26 x27 x))) n x:=by
  refine iter_eq (s9_8 x0 x1 x2 x4 x5 x6 x7 x8 x9 x10 x11 x12 x13 x14 x15 x16 x17 x18 x19 x20 x21 x22 x23 x24 x25 x26 x27) (r9_8 x0 x1 x2 x4 x5 x8 x9 x10 x11 x20 x21 x22 x23 n  (fun x=>rec7 (s9_7 x4 x5 x6 x7 x9 x11 x12 x13 x14 x15 x16 x17 x18 x19 x20 x21 x22 x23 x24 x25 x26 x27 x))) (fun rec8 x3 => ?_) n x
  kernel_rfl
end
section
variable (x3 : Nat) (x4 : Int) (x5 : List (C .e83)) (x6 : List (C .e81)) (x7 : ByteArray) (x8 : Int) (x9 : Int) (x10 : Int) (x11 : Int) (x12 : Bool) (x13 : List (C .e89)) (x14 : Bool) (x15 : Int) (x16 : List (C .e79)) (x17 : List (C .e83)) (x18 : List (C .e81)) (x19 : Int) (x20 : List (C .e79)) (x21 : List (C .e83)) (x22 : List (C .e81))
noncomputable def MP9_12 (n : Nat)  (x : A9_12) : Option (VStewBook×Int):=iter (fun rec S=>run (X67 n) (F67 n) (codeAt (bodyOf Try.f67) [1,1,1,0,1,0,0]) 0 S (lopK rec (blkK 0 (seqK (run (X67 n) (F67 n) (codeAt (bodyOf Try.f67) [1,1,1,1]) 0) (inlK (X67 n) Try.f67 (callK 16286000 16000 (some 286) (restK (X28 n) (codeAt (bodyOf Try.f28) [1,1,1,1,1,1,1,1,1,1,1,1,1,1,1,1,1,1,0,1,0]) 7 (regK (F28 n) (seqK (run (X28 n) (F28 n) (codeAt (bodyOf Try.f28) [1,1,1,1,1,1,1,1,1,1,1,1,1,1,1,1,1,1,1]) 0) (inlK (X28 n) Try.f28 (callK 15000 0 (some 15) (restK (X9 n) (codeAt (bodyOf Try.f9) [1,1,1,0,0]) 2 (regK (F9 n) (seqK (run (X9 n) (F9 n) (codeAt (bodyOf Try.f9) [1,1,1,0,1]) 0) (seqK (run (X9 n) (F9 n) (codeAt (bodyOf Try.f9) [1,1,1,1]) 0) (kTop (X9 n) Try.f9 dec9)))))))))))))))) [0,1,5,6] n (s9_12 x3 x4 x5 x6 x7 x8 x9 x10 x11 x12 x13 x14 x15 x16 x17 x18 x19 x20 x21 x22 x)
theorem m9_12 (n : Nat)  (x : A9_12) : MP9_12 x3 x4 x5 x6 x7 x8 x9 x10 x11 x12 x13 x14 x15 x16 x17 x18 x19 x20 x21 x22 n  x=lpN (r9_12 x4 x5 x6 x7 x8 x9 x10 x11 x12 x13 x14 x15 x16 x17 x18 n  ) n x:=by
  refine iter_eq (s9_12 x3 x4 x5 x6 x7 x8 x9 x10 x11 x12 x13 x14 x15 x16 x17 x18 x19 x20 x21 x22) (r9_12 x4 x5 x6 x7 x8 x9 x10 x11 x12 x13 x14 x15 x16 x17 x18 n  ) (fun rec12 x => ?_) n x
  obtain ⟨x0,x1,x2⟩:=x
  kernel_rfl
end
section
variable (x0 : List (C .e79)) (x1 : Int) (x3 : Nat) (x4 : Int) (x5 : List (C .e83)) (x6 : List (C .e81)) (x7 : ByteArray) (x8 : Int) (x9 : Int) (x10 : Int) (x11 : Int) (x12 : Bool) (x13 : List (C .e89)) (x14 : Bool) (x15 : Int) (x16 : List (C .e79)) (x17 : List (C .e83)) (x18 : List (C .e81)) (x19 : Int) (x20 : List (C .e79)) (x21 : List (C .e83)) (x22 : List (C .e81))
noncomputable def MP9_11 (n : Nat)  (x : A9_11) : Option (VStewBook×Int):=iter (fun rec S=>run X77 (F77 n) (codeAt (bodyOf Try.f77) [1,0,1,0,0]) 0 S (lopK rec (blkK 0 (seqK (run X77 (F77 n) (codeAt (bodyOf Try.f77) [1,1]) 0) (inlK X77 Try.f77 (callK 16287010000 16287000 (some 10) (restK (X67 n) (codeAt (bodyOf Try.f67) [1,0]) 3 (regK (F67 n) (seqK (run (X67 n) (F67 n) (codeAt (bodyOf Try.f67) [1,1]) 0) (inlK (X67 n) Try.f67 (callK 16286000 16000 (some 286) (restK (X28 n) (codeAt (bodyOf Try.f28) [1,1,1,1,1,1,1,1,1,1,1,1,1,1,1,1,1,1,0,1,0]) 7 (regK (F28 n) (seqK (run (X28 n) (F28 n) (codeAt (bodyOf Try.f28) [1,1,1,1,1,1,1,1,1,1,1,1,1,1,1,1,1,1,1]) 0) (inlK (X28 n) Try.f28 (callK 15000 0 (some 15) (restK (X9 n) (codeAt (bodyOf Try.f9) [1,1,1,0,0]) 2 (regK (F9 n) (seqK (run (X9 n) (F9 n) (codeAt (bodyOf Try.f9) [1,1,1,0,1]) 0) (seqK (run (X9 n) (F9 n) (codeAt (bodyOf Try.f9) [1,1,1,1]) 0) (kTop (X9 n) Try.f9 dec9))))))))))))))))))))) [0,1,7,8] n (s9_11 x0 x1 x3 x4 x5 x6 x7 x8 x9 x10 x11 x12 x13 x14 x15 x16 x17 x18 x19 x20 x21 x22 x)
theorem m9_11 (n : Nat)  (x : A9_11) : MP9_11 x0 x1 x3 x4 x5 x6 x7 x8 x9 x10 x11 x12 x13 x14 x15 x16 x17 x18 x19 x20 x21 x22 n  x=lpN (r9_11 x0 x1 x4 x5 x6 x7 x8 x9 x10 x11 x12 x13 x14 x15 x16 x17 x18 n  ) n x:=by
  refine iter_eq (s9_11 x0 x1 x3 x4 x5 x6 x7 x8 x9 x10 x11 x12 x13 x14 x15 x16 x17 x18 x19 x20 x21 x22) (r9_11 x0 x1 x4 x5 x6 x7 x8 x9 x10 x11 x12 x13 x14 x15 x16 x17 x18 n  ) (fun rec11 x2 => ?_) n x
  have h : run X77 (F77 n) (codeAt (bodyOf Try.f77) [1,0,1,0,0]) 0 (s9_11 x0 x1 x3 x4 x5 x6 x7 x8 x9 x10 x11 x12 x13 x14 x15 x16 x17 x18 x19 x20 x21 x22 x2) (lopK (canThen [0,1,7,8] rec11) (blkK 0 (seqK (run X77 (F77 n) (codeAt (bodyOf Try.f77) [1,1]) 0) (inlK X77 Try.f77 (callK 16287010000 16287000 (some 10) (restK (X67 n) (codeAt (bodyOf Try.f67) [1,0]) 3 (regK (F67 n) (seqK (run (X67 n) (F67 n) (codeAt (bodyOf Try.f67) [1,1]) 0) (inlK (X67 n) Try.f67 (callK 16286000 16000 (some 286) (restK (X28 n) (codeAt (bodyOf Try.f28) [1,1,1,1,1,1,1,1,1,1,1,1,1,1,1,1,1,1,0,1,0]) 7 (regK (F28 n) (seqK (run (X28 n) (F28 n) (codeAt (bodyOf Try.f28) [1,1,1,1,1,1,1,1,1,1,1,1,1,1,1,1,1,1,1]) 0) (inlK (X28 n) Try.f28 (callK 15000 0 (some 15) (restK (X9 n) (codeAt (bodyOf Try.f9) [1,1,1,0,0]) 2 (regK (F9 n) (seqK (run (X9 n) (F9 n) (codeAt (bodyOf Try.f9) [1,1,1,0,1]) 0) (seqK (run (X9 n) (F9 n) (codeAt (bodyOf Try.f9) [1,1,1,1]) 0) (kTop (X9 n) Try.f9 dec9)))))))))))))))))))) =
   cond (decide (x2<x1))
   (cond (decide (0≤x2)) (cond (decide (x2<(x0.length : Int))) (Option.bind x0[x2.toNat]? fun e74=>Option.bind (G68 e74 (⟨x7,x8,x9,x10,x11,x12,x13,x14⟩ : VStewAct)) fun r75 =>
   cond r75
   (cond (x2 == (-1))
   (cond (0 != 0)
   (Option.bind (G27 (⟨x15,x16,x17,x18⟩ : VStewBook)) fun r76 =>
   some (r76,0))
   (some ((⟨x4,x0,x5,x6⟩ : VStewBook),0)))
   (MP9_12 x3 x4 x5 x6 x7 x8 x9 x10 x11 x12 x13 x14 x15 x16 x17 x18 x19 x20 x21 x22 n   ((x0,x2,IntKind.i64.wrap (x2+1)))))
   ((fun x=>rec11 (s9_11 x0 x1 x3 x4 x5 x6 x7 x8 x9 x10 x11 x12 x13 x14 x15 x16 x17 x18 x19 x20 x21 x22 x)) (IntKind.i64.wrap (x2+1)))) none) none)
   (cond ((-1) == (-1))
   (cond (0 != 0)
   (Option.bind (G27 (⟨x15,x16,x17,x18⟩ : VStewBook)) fun r81 =>
   some (r81,0))
   (some ((⟨x4,x0,x5,x6⟩ : VStewBook),0)))
   (MP9_12 x3 x4 x5 x6 x7 x8 x9 x10 x11 x12 x13 x14 x15 x16 x17 x18 x19 x20 x21 x22 n   ((x0,(-1),IntKind.i64.wrap ((-1)+1))))):=by kernel_rfl
  simp only [m9_12] at h
  exact h
end
section
variable (x1 : Nat) (x3 : Int) (x5 : Int) (x7 : List (C .e81)) (x8 : ByteArray) (x9 : Int) (x10 : Int) (x11 : Int) (x12 : Int) (x13 : Bool) (x14 : List (C .e89)) (x15 : Bool) (x16 : Int) (x17 : List (C .e79)) (x18 : List (C .e83)) (x19 : List (C .e81)) (x20 : Int) (x21 : List (C .e79)) (x22 : List (C .e83)) (x23 : List (C .e81))
noncomputable def MP9_10 (n : Nat)  (x : A9_10) : Option (VStewBook×Int):=iter (fun rec S=>run (X28 n) (F28 n) (codeAt (bodyOf Try.f28) [1,1,1,1,1,1,1,1,1,1,1,1,1,1,1,1,1,0,1,0,0]) 8 S (lopK rec (blkK 8 (seqK (run (X28 n) (F28 n) (codeAt (bodyOf Try.f28) [1,1,1,1,1,1,1,1,1,1,1,1,1,1,1,1,1,1]) 0) (inlK (X28 n) Try.f28 (callK 15000 0 (some 15) (restK (X9 n) (codeAt (bodyOf Try.f9) [1,1,1,0,0]) 2 (regK (F9 n) (seqK (run (X9 n) (F9 n) (codeAt (bodyOf Try.f9) [1,1,1,0,1]) 0) (seqK (run (X9 n) (F9 n) (codeAt (bodyOf Try.f9) [1,1,1,1]) 0) (kTop (X9 n) Try.f9 dec9))))))))))) [0,3,5,14,238,239] n (s9_10 x1 x3 x5 x7 x8 x9 x10 x11 x12 x13 x14 x15 x16 x17 x18 x19 x20 x21 x22 x23 x)
theorem m9_10 (n : Nat)  (x : A9_10) : MP9_10 x1 x3 x5 x7 x8 x9 x10 x11 x12 x13 x14 x15 x16 x17 x18 x19 x20 x21 x22 x23 n  x=lpN (r9_10 x1 x3 x5 x7 x8 x9 x10 x11 x12 x13 x14 x15 x16 x17 x18 x19 n  ) n x:=by
  refine iter_eq (s9_10 x1 x3 x5 x7 x8 x9 x10 x11 x12 x13 x14 x15 x16 x17 x18 x19 x20 x21 x22 x23) (r9_10 x1 x3 x5 x7 x8 x9 x10 x11 x12 x13 x14 x15 x16 x17 x18 x19 n  ) (fun rec10 x => ?_) n x
  obtain ⟨x0,x2,x4,x6⟩:=x
  have h : run (X28 n) (F28 n) (codeAt (bodyOf Try.f28) [1,1,1,1,1,1,1,1,1,1,1,1,1,1,1,1,1,0,1,0,0]) 8 (s9_10 x1 x3 x5 x7 x8 x9 x10 x11 x12 x13 x14 x15 x16 x17 x18 x19 x20 x21 x22 x23 (x0,x2,x4,x6)) (lopK (canThen [0,3,5,14,238,239] rec10) (blkK 8 (seqK (run (X28 n) (F28 n) (codeAt (bodyOf Try.f28) [1,1,1,1,1,1,1,1,1,1,1,1,1,1,1,1,1,1]) 0) (inlK (X28 n) Try.f28 (callK 15000 0 (some 15) (restK (X9 n) (codeAt (bodyOf Try.f9) [1,1,1,0,0]) 2 (regK (F9 n) (seqK (run (X9 n) (F9 n) (codeAt (bodyOf Try.f9) [1,1,1,0,1]) 0) (seqK (run (X9 n) (F9 n) (codeAt (bodyOf Try.f9) [1,1,1,1]) 0) (kTop (X9 n) Try.f9 dec9)))))))))) =
   cond (decide (x4<x3))
   (Option.bind x0[x1]? fun e69=>Option.bind x0[x1]? fun e70=>Option.bind x0[x1]? fun e71=>cond (Nat.beq (([(⟨e69.Name,e70.Next,x5,e71.Image,1,false,(⟨#[]⟩ : ByteArray)⟩ : VStewCopy)] : List (C .e83))).length 1&&decide (0≤x2)) (cond (decide (x2≤(x6.length : Int))) (cond (decide ((x6.length+(([(⟨e69.Name,e70.Next,x5,e71.Image,1,false,(⟨#[]⟩ : ByteArray)⟩ : VStewCopy)] : List (C .e83))).length)*72≤140737488355328)) (Option.bind x0[x1]? fun e72=>Option.bind x0[x1]? fun e73=>(fun x=>rec10 (s9_10 x1 x3 x5 x7 x8 x9 x10 x11 x12 x13 x14 x15 x16 x17 x18 x19 x20 x21 x22 x23 x)) ((x0.set x1 ((⟨e73.Name,e73.Version,e73.Gone,e73.Image,e73.Want,e73.Down,e73.Over,IntKind.i64.wrap (e72.Next+1),e73.Per,e73.Least,e73.Most,e73.Load,e73.Cool⟩ : VStewService)),IntKind.i64.wrap (x2+1),IntKind.i64.wrap (x4+1),x6.take x2.toNat++(([(⟨e69.Name,e70.Next,x5,e71.Image,1,false,(⟨#[]⟩ : ByteArray)⟩ : VStewCopy)] : List (C .e83)))++x6.drop x2.toNat))) none) none) none)
   (cond x15
   (MP9_11 x0 (x0.length : Int) x1 x5 x6 x7 x8 x9 x10 x11 x12 x13 x14 x15 x16 x17 x18 x19 x20 x21 x22 x23 n   0)
   (cond (0 != 0)
   (Option.bind (G27 (⟨x16,x17,x18,x19⟩ : VStewBook)) fun r82 =>
   some (r82,0))
   (some ((⟨x5,x0,x6,x7⟩ : VStewBook),0)))):=by kernel_rfl
  simp only [m9_11] at h
  exact h
end
section
variable (x0 : List (C .e79)) (x1 : Nat) (x3 : Int) (x4 : List (C .e83)) (x5 : List (C .e81)) (x6 : ByteArray) (x7 : Int) (x8 : Int) (x9 : Int) (x10 : Int) (x11 : Bool) (x12 : List (C .e89)) (x13 : Bool) (x14 : Int) (x15 : List (C .e79)) (x16 : List (C .e83)) (x17 : List (C .e81)) (x18 : Int) (x19 : List (C .e79)) (x20 : List (C .e83)) (x21 : List (C .e81))
noncomputable def MP9_9 (n : Nat)  (x : A9_9) : Option (VStewBook×Int):=iter (fun rec S=>run (X28 n) (F28 n) (codeAt (bodyOf Try.f28) [1,1,1,1,1,1,1,1,1,1,1,1,1,1,1,1,0,0,0]) 6 S (lopK rec (blkK 6 (seqK (run (X28 n) (F28 n) (codeAt (bodyOf Try.f28) [1,1,1,1,1,1,1,1,1,1,1,1,1,1,1,1,1]) 0) (inlK (X28 n) Try.f28 (callK 15000 0 (some 15) (restK (X9 n) (codeAt (bodyOf Try.f9) [1,1,1,0,0]) 2 (regK (F9 n) (seqK (run (X9 n) (F9 n) (codeAt (bodyOf Try.f9) [1,1,1,0,1]) 0) (seqK (run (X9 n) (F9 n) (codeAt (bodyOf Try.f9) [1,1,1,1]) 0) (kTop (X9 n) Try.f9 dec9))))))))))) [0,3,5,14] n (s9_9 x0 x1 x3 x4 x5 x6 x7 x8 x9 x10 x11 x12 x13 x14 x15 x16 x17 x18 x19 x20 x21 x)
theorem m9_9 (n : Nat)  (x : A9_9) : MP9_9 x0 x1 x3 x4 x5 x6 x7 x8 x9 x10 x11 x12 x13 x14 x15 x16 x17 x18 x19 x20 x21 n  x=lpN (r9_9 x0 x1 x3 x4 x5 x6 x7 x8 x9 x10 x11 x12 x13 x14 x15 x16 x17 n  ) n x:=by
  refine iter_eq (s9_9 x0 x1 x3 x4 x5 x6 x7 x8 x9 x10 x11 x12 x13 x14 x15 x16 x17 x18 x19 x20 x21) (r9_9 x0 x1 x3 x4 x5 x6 x7 x8 x9 x10 x11 x12 x13 x14 x15 x16 x17 n  ) (fun rec9 x2 => ?_) n x
  have h : run (X28 n) (F28 n) (codeAt (bodyOf Try.f28) [1,1,1,1,1,1,1,1,1,1,1,1,1,1,1,1,0,0,0]) 6 (s9_9 x0 x1 x3 x4 x5 x6 x7 x8 x9 x10 x11 x12 x13 x14 x15 x16 x17 x18 x19 x20 x21 x2) (lopK (canThen [0,3,5,14] rec9) (blkK 6 (seqK (run (X28 n) (F28 n) (codeAt (bodyOf Try.f28) [1,1,1,1,1,1,1,1,1,1,1,1,1,1,1,1,1]) 0) (inlK (X28 n) Try.f28 (callK 15000 0 (some 15) (restK (X9 n) (codeAt (bodyOf Try.f9) [1,1,1,0,0]) 2 (regK (F9 n) (seqK (run (X9 n) (F9 n) (codeAt (bodyOf Try.f9) [1,1,1,0,1]) 0) (seqK (run (X9 n) (F9 n) (codeAt (bodyOf Try.f9) [1,1,1,1]) 0) (kTop (X9 n) Try.f9 dec9)))))))))) =
   cond (decide (x2<(x4.length : Int)))
   (cond (decide (0≤x2)) (cond (decide (x2<(x4.length : Int))) (Option.bind x4[x2.toNat]? fun e67=>Option.bind x0[x1]? fun e68=>cond (!slt e68.Name e67.Service)
   ((fun x=>rec9 (s9_9 x0 x1 x3 x4 x5 x6 x7 x8 x9 x10 x11 x12 x13 x14 x15 x16 x17 x18 x19 x20 x21 x)) (IntKind.i64.wrap (x2+1)))
   (MP9_10 x1 x8 x3 x5 x6 x7 x8 x9 x10 x11 x12 x13 x14 x15 x16 x17 x18 x19 x20 x21 n   (x0,x2,0,x4))) none) none)
   (MP9_10 x1 x8 x3 x5 x6 x7 x8 x9 x10 x11 x12 x13 x14 x15 x16 x17 x18 x19 x20 x21 n   (x0,x2,0,x4)):=by kernel_rfl
  simp only [m9_10] at h
  exact h
end
section
variable (x0 : List (C .e79)) (x1 : Nat) (x2 : List (C .e89)) (x3 : Int) (x5 : Int) (x7 : List (C .e81)) (x8 : ByteArray) (x9 : Int) (x10 : Int) (x11 : Int) (x12 : Int) (x13 : Bool) (x14 : List (C .e89)) (x15 : Bool) (x16 : Int) (x17 : List (C .e79)) (x18 : List (C .e83)) (x19 : List (C .e81)) (x20 : Int) (x21 : List (C .e79)) (x22 : List (C .e83)) (x23 : List (C .e81))
noncomputable def MP9_7 (n : Nat)  (x : A9_7) : Option (VStewBook×Int):=iter (fun rec S=>run (X28 n) (F28 n) (codeAt (bodyOf Try.f28) [1,1,1,1,1,1,1,0,1,0,0]) 4 S (lopK rec (blkK 4 (seqK (run (X28 n) (F28 n) (codeAt (bodyOf Try.f28) [1,1,1,1,1,1,1,1]) 0) (inlK (X28 n) Try.f28 (callK 15000 0 (some 15) (restK (X9 n) (codeAt (bodyOf Try.f9) [1,1,1,0,0]) 2 (regK (F9 n) (seqK (run (X9 n) (F9 n) (codeAt (bodyOf Try.f9) [1,1,1,0,1]) 0) (seqK (run (X9 n) (F9 n) (codeAt (bodyOf Try.f9) [1,1,1,1]) 0) (kTop (X9 n) Try.f9 dec9))))))))))) [0,3,5,67,68,69] n (s9_7 x0 x1 x2 x3 x5 x7 x8 x9 x10 x11 x12 x13 x14 x15 x16 x17 x18 x19 x20 x21 x22 x23 x)
theorem m9_7 (n : Nat)  (x : A9_7) : MP9_7 x0 x1 x2 x3 x5 x7 x8 x9 x10 x11 x12 x13 x14 x15 x16 x17 x18 x19 x20 x21 x22 x23 n  x=lpN (r9_7 x0 x1 x2 x3 x5 x7 x8 x9 x10 x11 x12 x13 x14 x15 x16 x17 x18 x19 n  ) n x:=by
  refine iter_eq (s9_7 x0 x1 x2 x3 x5 x7 x8 x9 x10 x11 x12 x13 x14 x15 x16 x17 x18 x19 x20 x21 x22 x23) (r9_7 x0 x1 x2 x3 x5 x7 x8 x9 x10 x11 x12 x13 x14 x15 x16 x17 x18 x19 n  ) (fun rec7 x => ?_) n x
  obtain ⟨x4,x6⟩:=x
  have h : run (X28 n) (F28 n) (codeAt (bodyOf Try.f28) [1,1,1,1,1,1,1,0,1,0,0]) 4 (s9_7 x0 x1 x2 x3 x5 x7 x8 x9 x10 x11 x12 x13 x14 x15 x16 x17 x18 x19 x20 x21 x22 x23 (x4,x6)) (lopK (canThen [0,3,5,67,68,69] rec7) (blkK 4 (seqK (run (X28 n) (F28 n) (codeAt (bodyOf Try.f28) [1,1,1,1,1,1,1,1]) 0) (inlK (X28 n) Try.f28 (callK 15000 0 (some 15) (restK (X9 n) (codeAt (bodyOf Try.f9) [1,1,1,0,0]) 2 (regK (F9 n) (seqK (run (X9 n) (F9 n) (codeAt (bodyOf Try.f9) [1,1,1,0,1]) 0) (seqK (run (X9 n) (F9 n) (codeAt (bodyOf Try.f9) [1,1,1,1]) 0) (kTop (X9 n) Try.f9 dec9)))))))))) =
   cond (decide (x4<x3))
   (cond (decide (0≤x4)) (Option.bind x2[x4.toNat]? fun e25=>MP9_8 x8 e25.Number (x6.length : Int) x0 x1 x2 x3 x4 x5 x6 x7 x8 x9 x10 x11 x12 x13 x14 x15 x16 x17 x18 x19 x20 x21 x22 x23 n  rec7 0) none)
   (Option.bind x0[x1]? fun e44=>Option.bind (G65 (⟨x5,x0,x6,x7⟩ : VStewBook) e44) fun r45 =>
   cond x15
   (Option.bind x0[x1]? fun e46=>cond (!e46.Gone)
   (cond (6 != 0)
   (Option.bind (G27 (⟨x16,x17,x18,x19⟩ : VStewBook)) fun r47 =>
   some (r47,6))
   (some ((⟨x5,x0,x6,x7⟩ : VStewBook),0)))
   (cond (decide ((IntKind.i64.wrap (r45.Live+r45.Ending))>0))
   (cond (6 != 0)
   (Option.bind (G27 (⟨x16,x17,x18,x19⟩ : VStewBook)) fun r48 =>
   some (r48,6))
   (some ((⟨x5,x0,x6,x7⟩ : VStewBook),0)))
   (cond x13
   (Option.bind x0[x1]? fun e49=>cond (e49.Per == 0)
   (cond (6 != 0)
   (Option.bind (G27 (⟨x16,x17,x18,x19⟩ : VStewBook)) fun r50 =>
   some (r50,6))
   (some ((⟨x5,x0,x6,x7⟩ : VStewBook),0)))
   (Option.bind x0[x1]? fun e51=>Option.bind x0[x1]? fun e52=>Option.bind (G57 x11 e51.Least e52.Most) fun r53 =>
   cond (!r53)
   (cond (6 != 0)
   (Option.bind (G27 (⟨x16,x17,x18,x19⟩ : VStewBook)) fun r54 =>
   some (r54,6))
   (some ((⟨x5,x0,x6,x7⟩ : VStewBook),0)))
   ((fun y=>alt y (alt y (alt y (alt y (alt y (y))))))
   (Option.bind x0[x1]? fun e55=>Option.bind (x0.set x1 (⟨e55.Name,e55.Version,e55.Gone,e55.Image,x11,e55.Down,e55.Over,e55.Next,e55.Per,e55.Least,e55.Most,e55.Load,e55.Cool⟩ : VStewService))[x1]? fun e56=>cond (decide (x10>0))
   (Option.bind ((x0.set x1 (⟨e55.Name,e55.Version,e55.Gone,e55.Image,x11,e55.Down,e55.Over,e55.Next,e55.Per,e55.Least,e55.Most,e55.Load,e55.Cool⟩ : VStewService)).set x1 (⟨e56.Name,e56.Version,e56.Gone,e56.Image,e56.Want,e56.Down,e56.Over,e56.Next,e56.Per,e56.Least,e56.Most,e56.Load,x12⟩ : VStewService))[x1]? fun e57=>cond e57.Gone
   (cond (6 != 0)
   (Option.bind (G27 (⟨x16,x17,x18,x19⟩ : VStewBook)) fun r58 =>
   some (r58,6))
   (some ((⟨x5,(x0.set x1 (⟨e55.Name,e55.Version,e55.Gone,e55.Image,x11,e55.Down,e55.Over,e55.Next,e55.Per,e55.Least,e55.Most,e55.Load,e55.Cool⟩ : VStewService)).set x1 (⟨e56.Name,e56.Version,e56.Gone,e56.Image,e56.Want,e56.Down,e56.Over,e56.Next,e56.Per,e56.Least,e56.Most,e56.Load,x12⟩ : VStewService),x6,x7⟩ : VStewBook),0)))
   (Option.bind ((x0.set x1 (⟨e55.Name,e55.Version,e55.Gone,e55.Image,x11,e55.Down,e55.Over,e55.Next,e55.Per,e55.Least,e55.Most,e55.Load,e55.Cool⟩ : VStewService)).set x1 (⟨e56.Name,e56.Version,e56.Gone,e56.Image,e56.Want,e56.Down,e56.Over,e56.Next,e56.Per,e56.Least,e56.Most,e56.Load,x12⟩ : VStewService))[x1]? fun e59=>Option.bind ((x0.set x1 (⟨e55.Name,e55.Version,e55.Gone,e55.Image,x11,e55.Down,e55.Over,e55.Next,e55.Per,e55.Least,e55.Most,e55.Load,e55.Cool⟩ : VStewService)).set x1 (⟨e56.Name,e56.Version,e56.Gone,e56.Image,e56.Want,e56.Down,e56.Over,e56.Next,e56.Per,e56.Least,e56.Most,e56.Load,x12⟩ : VStewService))[x1]? fun e60=>cond (decide ((IntKind.i64.wrap (r45.Live+x10))>(IntKind.i64.wrap (e59.Want+e60.Over))))
   (cond (6 != 0)
   (Option.bind (G27 (⟨x16,x17,x18,x19⟩ : VStewBook)) fun r61 =>
   some (r61,6))
   (some ((⟨x5,(x0.set x1 (⟨e55.Name,e55.Version,e55.Gone,e55.Image,x11,e55.Down,e55.Over,e55.Next,e55.Per,e55.Least,e55.Most,e55.Load,e55.Cool⟩ : VStewService)).set x1 (⟨e56.Name,e56.Version,e56.Gone,e56.Image,e56.Want,e56.Down,e56.Over,e56.Next,e56.Per,e56.Least,e56.Most,e56.Load,x12⟩ : VStewService),x6,x7⟩ : VStewBook),0)))
   (cond (decide ((IntKind.i64.wrap ((x6.length : Int)+x10))>200))
   (cond (7 != 0)
   (Option.bind (G27 (⟨x16,x17,x18,x19⟩ : VStewBook)) fun r62 =>
   some (r62,7))
   (some ((⟨x5,(x0.set x1 (⟨e55.Name,e55.Version,e55.Gone,e55.Image,x11,e55.Down,e55.Over,e55.Next,e55.Per,e55.Least,e55.Most,e55.Load,e55.Cool⟩ : VStewService)).set x1 (⟨e56.Name,e56.Version,e56.Gone,e56.Image,e56.Want,e56.Down,e56.Over,e56.Next,e56.Per,e56.Least,e56.Most,e56.Load,x12⟩ : VStewService),x6,x7⟩ : VStewBook),0)))
   (Option.bind ((x0.set x1 (⟨e55.Name,e55.Version,e55.Gone,e55.Image,x11,e55.Down,e55.Over,e55.Next,e55.Per,e55.Least,e55.Most,e55.Load,e55.Cool⟩ : VStewService)).set x1 (⟨e56.Name,e56.Version,e56.Gone,e56.Image,e56.Want,e56.Down,e56.Over,e56.Next,e56.Per,e56.Least,e56.Most,e56.Load,x12⟩ : VStewService))[x1]? fun e63=>cond (decide ((IntKind.i64.wrap (e63.Next+x10))>1000000))
   (cond (7 != 0)
   (Option.bind (G27 (⟨x16,x17,x18,x19⟩ : VStewBook)) fun r64 =>
   some (r64,7))
   (some ((⟨x5,(x0.set x1 (⟨e55.Name,e55.Version,e55.Gone,e55.Image,x11,e55.Down,e55.Over,e55.Next,e55.Per,e55.Least,e55.Most,e55.Load,e55.Cool⟩ : VStewService)).set x1 (⟨e56.Name,e56.Version,e56.Gone,e56.Image,e56.Want,e56.Down,e56.Over,e56.Next,e56.Per,e56.Least,e56.Most,e56.Load,x12⟩ : VStewService),x6,x7⟩ : VStewBook),0)))
   (cond (x5 == 1000000)
   (cond (7 != 0)
   (Option.bind (G27 (⟨x16,x17,x18,x19⟩ : VStewBook)) fun r65 =>
   some (r65,7))
   (some ((⟨x5,(x0.set x1 (⟨e55.Name,e55.Version,e55.Gone,e55.Image,x11,e55.Down,e55.Over,e55.Next,e55.Per,e55.Least,e55.Most,e55.Load,e55.Cool⟩ : VStewService)).set x1 (⟨e56.Name,e56.Version,e56.Gone,e56.Image,e56.Want,e56.Down,e56.Over,e56.Next,e56.Per,e56.Least,e56.Most,e56.Load,x12⟩ : VStewService),x6,x7⟩ : VStewBook),0)))
   (Option.bind ((x0.set x1 (⟨e55.Name,e55.Version,e55.Gone,e55.Image,x11,e55.Down,e55.Over,e55.Next,e55.Per,e55.Least,e55.Most,e55.Load,e55.Cool⟩ : VStewService)).set x1 (⟨e56.Name,e56.Version,e56.Gone,e56.Image,e56.Want,e56.Down,e56.Over,e56.Next,e56.Per,e56.Least,e56.Most,e56.Load,x12⟩ : VStewService))[x1]? fun e66=>MP9_9 (((x0.set x1 (⟨e55.Name,e55.Version,e55.Gone,e55.Image,x11,e55.Down,e55.Over,e55.Next,e55.Per,e55.Least,e55.Most,e55.Load,e55.Cool⟩ : VStewService)).set x1 (⟨e56.Name,e56.Version,e56.Gone,e56.Image,e56.Want,e56.Down,e56.Over,e56.Next,e56.Per,e56.Least,e56.Most,e56.Load,x12⟩ : VStewService)).set x1 ((⟨e66.Name,IntKind.i64.wrap (x5+1),e66.Gone,e66.Image,e66.Want,e66.Down,e66.Over,e66.Next,e66.Per,e66.Least,e66.Most,e66.Load,e66.Cool⟩ : VStewService))) x1 (IntKind.i64.wrap (x5+1)) x6 x7 x8 x9 x10 x11 x12 x13 x14 x15 x16 x17 x18 x19 x20 x21 x22 x23 n   0))))))
   (cond (decide ((IntKind.i64.wrap ((x6.length : Int)+x10))>200))
   (cond (7 != 0)
   (Option.bind (G27 (⟨x16,x17,x18,x19⟩ : VStewBook)) fun r83 =>
   some (r83,7))
   (some ((⟨x5,(x0.set x1 (⟨e55.Name,e55.Version,e55.Gone,e55.Image,x11,e55.Down,e55.Over,e55.Next,e55.Per,e55.Least,e55.Most,e55.Load,e55.Cool⟩ : VStewService)).set x1 (⟨e56.Name,e56.Version,e56.Gone,e56.Image,e56.Want,e56.Down,e56.Over,e56.Next,e56.Per,e56.Least,e56.Most,e56.Load,x12⟩ : VStewService),x6,x7⟩ : VStewBook),0)))
   (Option.bind ((x0.set x1 (⟨e55.Name,e55.Version,e55.Gone,e55.Image,x11,e55.Down,e55.Over,e55.Next,e55.Per,e55.Least,e55.Most,e55.Load,e55.Cool⟩ : VStewService)).set x1 (⟨e56.Name,e56.Version,e56.Gone,e56.Image,e56.Want,e56.Down,e56.Over,e56.Next,e56.Per,e56.Least,e56.Most,e56.Load,x12⟩ : VStewService))[x1]? fun e84=>cond (decide ((IntKind.i64.wrap (e84.Next+x10))>1000000))
   (cond (7 != 0)
   (Option.bind (G27 (⟨x16,x17,x18,x19⟩ : VStewBook)) fun r85 =>
   some (r85,7))
   (some ((⟨x5,(x0.set x1 (⟨e55.Name,e55.Version,e55.Gone,e55.Image,x11,e55.Down,e55.Over,e55.Next,e55.Per,e55.Least,e55.Most,e55.Load,e55.Cool⟩ : VStewService)).set x1 (⟨e56.Name,e56.Version,e56.Gone,e56.Image,e56.Want,e56.Down,e56.Over,e56.Next,e56.Per,e56.Least,e56.Most,e56.Load,x12⟩ : VStewService),x6,x7⟩ : VStewBook),0)))
   (cond (x5 == 1000000)
   (cond (7 != 0)
   (Option.bind (G27 (⟨x16,x17,x18,x19⟩ : VStewBook)) fun r86 =>
   some (r86,7))
   (some ((⟨x5,(x0.set x1 (⟨e55.Name,e55.Version,e55.Gone,e55.Image,x11,e55.Down,e55.Over,e55.Next,e55.Per,e55.Least,e55.Most,e55.Load,e55.Cool⟩ : VStewService)).set x1 (⟨e56.Name,e56.Version,e56.Gone,e56.Image,e56.Want,e56.Down,e56.Over,e56.Next,e56.Per,e56.Least,e56.Most,e56.Load,x12⟩ : VStewService),x6,x7⟩ : VStewBook),0)))
   (Option.bind ((x0.set x1 (⟨e55.Name,e55.Version,e55.Gone,e55.Image,x11,e55.Down,e55.Over,e55.Next,e55.Per,e55.Least,e55.Most,e55.Load,e55.Cool⟩ : VStewService)).set x1 (⟨e56.Name,e56.Version,e56.Gone,e56.Image,e56.Want,e56.Down,e56.Over,e56.Next,e56.Per,e56.Least,e56.Most,e56.Load,x12⟩ : VStewService))[x1]? fun e87=>MP9_9 (((x0.set x1 (⟨e55.Name,e55.Version,e55.Gone,e55.Image,x11,e55.Down,e55.Over,e55.Next,e55.Per,e55.Least,e55.Most,e55.Load,e55.Cool⟩ : VStewService)).set x1 (⟨e56.Name,e56.Version,e56.Gone,e56.Image,e56.Want,e56.Down,e56.Over,e56.Next,e56.Per,e56.Least,e56.Most,e56.Load,x12⟩ : VStewService)).set x1 ((⟨e87.Name,IntKind.i64.wrap (x5+1),e87.Gone,e87.Image,e87.Want,e87.Down,e87.Over,e87.Next,e87.Per,e87.Least,e87.Most,e87.Load,e87.Cool⟩ : VStewService))) x1 (IntKind.i64.wrap (x5+1)) x6 x7 x8 x9 x10 x11 x12 x13 x14 x15 x16 x17 x18 x19 x20 x21 x22 x23 n   0))))))))
   (cond (decide (x10>0))
   (Option.bind x0[x1]? fun e173=>cond e173.Gone
   (cond (6 != 0)
   (Option.bind (G27 (⟨x16,x17,x18,x19⟩ : VStewBook)) fun r174 =>
   some (r174,6))
   (some ((⟨x5,x0,x6,x7⟩ : VStewBook),0)))
   (Option.bind x0[x1]? fun e175=>Option.bind x0[x1]? fun e176=>cond (decide ((IntKind.i64.wrap (r45.Live+x10))>(IntKind.i64.wrap (e175.Want+e176.Over))))
   (cond (6 != 0)
   (Option.bind (G27 (⟨x16,x17,x18,x19⟩ : VStewBook)) fun r177 =>
   some (r177,6))
   (some ((⟨x5,x0,x6,x7⟩ : VStewBook),0)))
   (cond (decide ((IntKind.i64.wrap ((x6.length : Int)+x10))>200))
   (cond (7 != 0)
   (Option.bind (G27 (⟨x16,x17,x18,x19⟩ : VStewBook)) fun r178 =>
   some (r178,7))
   (some ((⟨x5,x0,x6,x7⟩ : VStewBook),0)))
   (Option.bind x0[x1]? fun e179=>cond (decide ((IntKind.i64.wrap (e179.Next+x10))>1000000))
   (cond (7 != 0)
   (Option.bind (G27 (⟨x16,x17,x18,x19⟩ : VStewBook)) fun r180 =>
   some (r180,7))
   (some ((⟨x5,x0,x6,x7⟩ : VStewBook),0)))
   (cond (x5 == 1000000)
   (cond (7 != 0)
   (Option.bind (G27 (⟨x16,x17,x18,x19⟩ : VStewBook)) fun r181 =>
   some (r181,7))
   (some ((⟨x5,x0,x6,x7⟩ : VStewBook),0)))
   (Option.bind x0[x1]? fun e182=>MP9_9 (x0.set x1 ((⟨e182.Name,IntKind.i64.wrap (x5+1),e182.Gone,e182.Image,e182.Want,e182.Down,e182.Over,e182.Next,e182.Per,e182.Least,e182.Most,e182.Load,e182.Cool⟩ : VStewService))) x1 (IntKind.i64.wrap (x5+1)) x6 x7 x8 x9 x10 x11 x12 x13 x14 x15 x16 x17 x18 x19 x20 x21 x22 x23 n   0))))))
   (cond (decide ((IntKind.i64.wrap ((x6.length : Int)+x10))>200))
   (cond (7 != 0)
   (Option.bind (G27 (⟨x16,x17,x18,x19⟩ : VStewBook)) fun r183 =>
   some (r183,7))
   (some ((⟨x5,x0,x6,x7⟩ : VStewBook),0)))
   (Option.bind x0[x1]? fun e184=>cond (decide ((IntKind.i64.wrap (e184.Next+x10))>1000000))
   (cond (7 != 0)
   (Option.bind (G27 (⟨x16,x17,x18,x19⟩ : VStewBook)) fun r185 =>
   some (r185,7))
   (some ((⟨x5,x0,x6,x7⟩ : VStewBook),0)))
   (cond (x5 == 1000000)
   (cond (7 != 0)
   (Option.bind (G27 (⟨x16,x17,x18,x19⟩ : VStewBook)) fun r186 =>
   some (r186,7))
   (some ((⟨x5,x0,x6,x7⟩ : VStewBook),0)))
   (Option.bind x0[x1]? fun e187=>MP9_9 (x0.set x1 ((⟨e187.Name,IntKind.i64.wrap (x5+1),e187.Gone,e187.Image,e187.Want,e187.Down,e187.Over,e187.Next,e187.Per,e187.Least,e187.Most,e187.Load,e187.Cool⟩ : VStewService))) x1 (IntKind.i64.wrap (x5+1)) x6 x7 x8 x9 x10 x11 x12 x13 x14 x15 x16 x17 x18 x19 x20 x21 x22 x23 n   0))))))))
   (cond x13
   (Option.bind x0[x1]? fun e188=>cond (e188.Per == 0)
   (cond (6 != 0)
   (Option.bind (G27 (⟨x16,x17,x18,x19⟩ : VStewBook)) fun r189 =>
   some (r189,6))
   (some ((⟨x5,x0,x6,x7⟩ : VStewBook),0)))
   (Option.bind x0[x1]? fun e190=>Option.bind x0[x1]? fun e191=>Option.bind (G57 x11 e190.Least e191.Most) fun r192 =>
   cond (!r192)
   (cond (6 != 0)
   (Option.bind (G27 (⟨x16,x17,x18,x19⟩ : VStewBook)) fun r193 =>
   some (r193,6))
   (some ((⟨x5,x0,x6,x7⟩ : VStewBook),0)))
   ((fun y=>alt y (alt y (alt y (alt y (alt y (y))))))
   (Option.bind x0[x1]? fun e194=>Option.bind (x0.set x1 (⟨e194.Name,e194.Version,e194.Gone,e194.Image,x11,e194.Down,e194.Over,e194.Next,e194.Per,e194.Least,e194.Most,e194.Load,e194.Cool⟩ : VStewService))[x1]? fun e195=>cond (decide (x10>0))
   (Option.bind ((x0.set x1 (⟨e194.Name,e194.Version,e194.Gone,e194.Image,x11,e194.Down,e194.Over,e194.Next,e194.Per,e194.Least,e194.Most,e194.Load,e194.Cool⟩ : VStewService)).set x1 (⟨e195.Name,e195.Version,e195.Gone,e195.Image,e195.Want,e195.Down,e195.Over,e195.Next,e195.Per,e195.Least,e195.Most,e195.Load,x12⟩ : VStewService))[x1]? fun e196=>cond e196.Gone
   (cond (6 != 0)
   (Option.bind (G27 (⟨x16,x17,x18,x19⟩ : VStewBook)) fun r197 =>
   some (r197,6))
   (some ((⟨x5,(x0.set x1 (⟨e194.Name,e194.Version,e194.Gone,e194.Image,x11,e194.Down,e194.Over,e194.Next,e194.Per,e194.Least,e194.Most,e194.Load,e194.Cool⟩ : VStewService)).set x1 (⟨e195.Name,e195.Version,e195.Gone,e195.Image,e195.Want,e195.Down,e195.Over,e195.Next,e195.Per,e195.Least,e195.Most,e195.Load,x12⟩ : VStewService),x6,x7⟩ : VStewBook),0)))
   (Option.bind ((x0.set x1 (⟨e194.Name,e194.Version,e194.Gone,e194.Image,x11,e194.Down,e194.Over,e194.Next,e194.Per,e194.Least,e194.Most,e194.Load,e194.Cool⟩ : VStewService)).set x1 (⟨e195.Name,e195.Version,e195.Gone,e195.Image,e195.Want,e195.Down,e195.Over,e195.Next,e195.Per,e195.Least,e195.Most,e195.Load,x12⟩ : VStewService))[x1]? fun e198=>Option.bind ((x0.set x1 (⟨e194.Name,e194.Version,e194.Gone,e194.Image,x11,e194.Down,e194.Over,e194.Next,e194.Per,e194.Least,e194.Most,e194.Load,e194.Cool⟩ : VStewService)).set x1 (⟨e195.Name,e195.Version,e195.Gone,e195.Image,e195.Want,e195.Down,e195.Over,e195.Next,e195.Per,e195.Least,e195.Most,e195.Load,x12⟩ : VStewService))[x1]? fun e199=>cond (decide ((IntKind.i64.wrap (r45.Live+x10))>(IntKind.i64.wrap (e198.Want+e199.Over))))
   (cond (6 != 0)
   (Option.bind (G27 (⟨x16,x17,x18,x19⟩ : VStewBook)) fun r200 =>
   some (r200,6))
   (some ((⟨x5,(x0.set x1 (⟨e194.Name,e194.Version,e194.Gone,e194.Image,x11,e194.Down,e194.Over,e194.Next,e194.Per,e194.Least,e194.Most,e194.Load,e194.Cool⟩ : VStewService)).set x1 (⟨e195.Name,e195.Version,e195.Gone,e195.Image,e195.Want,e195.Down,e195.Over,e195.Next,e195.Per,e195.Least,e195.Most,e195.Load,x12⟩ : VStewService),x6,x7⟩ : VStewBook),0)))
   (cond (decide ((IntKind.i64.wrap ((x6.length : Int)+x10))>200))
   (cond (7 != 0)
   (Option.bind (G27 (⟨x16,x17,x18,x19⟩ : VStewBook)) fun r201 =>
   some (r201,7))
   (some ((⟨x5,(x0.set x1 (⟨e194.Name,e194.Version,e194.Gone,e194.Image,x11,e194.Down,e194.Over,e194.Next,e194.Per,e194.Least,e194.Most,e194.Load,e194.Cool⟩ : VStewService)).set x1 (⟨e195.Name,e195.Version,e195.Gone,e195.Image,e195.Want,e195.Down,e195.Over,e195.Next,e195.Per,e195.Least,e195.Most,e195.Load,x12⟩ : VStewService),x6,x7⟩ : VStewBook),0)))
   (Option.bind ((x0.set x1 (⟨e194.Name,e194.Version,e194.Gone,e194.Image,x11,e194.Down,e194.Over,e194.Next,e194.Per,e194.Least,e194.Most,e194.Load,e194.Cool⟩ : VStewService)).set x1 (⟨e195.Name,e195.Version,e195.Gone,e195.Image,e195.Want,e195.Down,e195.Over,e195.Next,e195.Per,e195.Least,e195.Most,e195.Load,x12⟩ : VStewService))[x1]? fun e202=>cond (decide ((IntKind.i64.wrap (e202.Next+x10))>1000000))
   (cond (7 != 0)
   (Option.bind (G27 (⟨x16,x17,x18,x19⟩ : VStewBook)) fun r203 =>
   some (r203,7))
   (some ((⟨x5,(x0.set x1 (⟨e194.Name,e194.Version,e194.Gone,e194.Image,x11,e194.Down,e194.Over,e194.Next,e194.Per,e194.Least,e194.Most,e194.Load,e194.Cool⟩ : VStewService)).set x1 (⟨e195.Name,e195.Version,e195.Gone,e195.Image,e195.Want,e195.Down,e195.Over,e195.Next,e195.Per,e195.Least,e195.Most,e195.Load,x12⟩ : VStewService),x6,x7⟩ : VStewBook),0)))
   (cond (x5 == 1000000)
   (cond (7 != 0)
   (Option.bind (G27 (⟨x16,x17,x18,x19⟩ : VStewBook)) fun r204 =>
   some (r204,7))
   (some ((⟨x5,(x0.set x1 (⟨e194.Name,e194.Version,e194.Gone,e194.Image,x11,e194.Down,e194.Over,e194.Next,e194.Per,e194.Least,e194.Most,e194.Load,e194.Cool⟩ : VStewService)).set x1 (⟨e195.Name,e195.Version,e195.Gone,e195.Image,e195.Want,e195.Down,e195.Over,e195.Next,e195.Per,e195.Least,e195.Most,e195.Load,x12⟩ : VStewService),x6,x7⟩ : VStewBook),0)))
   (Option.bind ((x0.set x1 (⟨e194.Name,e194.Version,e194.Gone,e194.Image,x11,e194.Down,e194.Over,e194.Next,e194.Per,e194.Least,e194.Most,e194.Load,e194.Cool⟩ : VStewService)).set x1 (⟨e195.Name,e195.Version,e195.Gone,e195.Image,e195.Want,e195.Down,e195.Over,e195.Next,e195.Per,e195.Least,e195.Most,e195.Load,x12⟩ : VStewService))[x1]? fun e205=>MP9_9 (((x0.set x1 (⟨e194.Name,e194.Version,e194.Gone,e194.Image,x11,e194.Down,e194.Over,e194.Next,e194.Per,e194.Least,e194.Most,e194.Load,e194.Cool⟩ : VStewService)).set x1 (⟨e195.Name,e195.Version,e195.Gone,e195.Image,e195.Want,e195.Down,e195.Over,e195.Next,e195.Per,e195.Least,e195.Most,e195.Load,x12⟩ : VStewService)).set x1 ((⟨e205.Name,IntKind.i64.wrap (x5+1),e205.Gone,e205.Image,e205.Want,e205.Down,e205.Over,e205.Next,e205.Per,e205.Least,e205.Most,e205.Load,e205.Cool⟩ : VStewService))) x1 (IntKind.i64.wrap (x5+1)) x6 x7 x8 x9 x10 x11 x12 x13 x14 x15 x16 x17 x18 x19 x20 x21 x22 x23 n   0))))))
   (cond (decide ((IntKind.i64.wrap ((x6.length : Int)+x10))>200))
   (cond (7 != 0)
   (Option.bind (G27 (⟨x16,x17,x18,x19⟩ : VStewBook)) fun r206 =>
   some (r206,7))
   (some ((⟨x5,(x0.set x1 (⟨e194.Name,e194.Version,e194.Gone,e194.Image,x11,e194.Down,e194.Over,e194.Next,e194.Per,e194.Least,e194.Most,e194.Load,e194.Cool⟩ : VStewService)).set x1 (⟨e195.Name,e195.Version,e195.Gone,e195.Image,e195.Want,e195.Down,e195.Over,e195.Next,e195.Per,e195.Least,e195.Most,e195.Load,x12⟩ : VStewService),x6,x7⟩ : VStewBook),0)))
   (Option.bind ((x0.set x1 (⟨e194.Name,e194.Version,e194.Gone,e194.Image,x11,e194.Down,e194.Over,e194.Next,e194.Per,e194.Least,e194.Most,e194.Load,e194.Cool⟩ : VStewService)).set x1 (⟨e195.Name,e195.Version,e195.Gone,e195.Image,e195.Want,e195.Down,e195.Over,e195.Next,e195.Per,e195.Least,e195.Most,e195.Load,x12⟩ : VStewService))[x1]? fun e207=>cond (decide ((IntKind.i64.wrap (e207.Next+x10))>1000000))
   (cond (7 != 0)
   (Option.bind (G27 (⟨x16,x17,x18,x19⟩ : VStewBook)) fun r208 =>
   some (r208,7))
   (some ((⟨x5,(x0.set x1 (⟨e194.Name,e194.Version,e194.Gone,e194.Image,x11,e194.Down,e194.Over,e194.Next,e194.Per,e194.Least,e194.Most,e194.Load,e194.Cool⟩ : VStewService)).set x1 (⟨e195.Name,e195.Version,e195.Gone,e195.Image,e195.Want,e195.Down,e195.Over,e195.Next,e195.Per,e195.Least,e195.Most,e195.Load,x12⟩ : VStewService),x6,x7⟩ : VStewBook),0)))
   (cond (x5 == 1000000)
   (cond (7 != 0)
   (Option.bind (G27 (⟨x16,x17,x18,x19⟩ : VStewBook)) fun r209 =>
   some (r209,7))
   (some ((⟨x5,(x0.set x1 (⟨e194.Name,e194.Version,e194.Gone,e194.Image,x11,e194.Down,e194.Over,e194.Next,e194.Per,e194.Least,e194.Most,e194.Load,e194.Cool⟩ : VStewService)).set x1 (⟨e195.Name,e195.Version,e195.Gone,e195.Image,e195.Want,e195.Down,e195.Over,e195.Next,e195.Per,e195.Least,e195.Most,e195.Load,x12⟩ : VStewService),x6,x7⟩ : VStewBook),0)))
   (Option.bind ((x0.set x1 (⟨e194.Name,e194.Version,e194.Gone,e194.Image,x11,e194.Down,e194.Over,e194.Next,e194.Per,e194.Least,e194.Most,e194.Load,e194.Cool⟩ : VStewService)).set x1 (⟨e195.Name,e195.Version,e195.Gone,e195.Image,e195.Want,e195.Down,e195.Over,e195.Next,e195.Per,e195.Least,e195.Most,e195.Load,x12⟩ : VStewService))[x1]? fun e210=>MP9_9 (((x0.set x1 (⟨e194.Name,e194.Version,e194.Gone,e194.Image,x11,e194.Down,e194.Over,e194.Next,e194.Per,e194.Least,e194.Most,e194.Load,e194.Cool⟩ : VStewService)).set x1 (⟨e195.Name,e195.Version,e195.Gone,e195.Image,e195.Want,e195.Down,e195.Over,e195.Next,e195.Per,e195.Least,e195.Most,e195.Load,x12⟩ : VStewService)).set x1 ((⟨e210.Name,IntKind.i64.wrap (x5+1),e210.Gone,e210.Image,e210.Want,e210.Down,e210.Over,e210.Next,e210.Per,e210.Least,e210.Most,e210.Load,e210.Cool⟩ : VStewService))) x1 (IntKind.i64.wrap (x5+1)) x6 x7 x8 x9 x10 x11 x12 x13 x14 x15 x16 x17 x18 x19 x20 x21 x22 x23 n   0))))))))
   (cond (decide (x10>0))
   (Option.bind x0[x1]? fun e296=>cond e296.Gone
   (cond (6 != 0)
   (Option.bind (G27 (⟨x16,x17,x18,x19⟩ : VStewBook)) fun r297 =>
   some (r297,6))
   (some ((⟨x5,x0,x6,x7⟩ : VStewBook),0)))
   (Option.bind x0[x1]? fun e298=>Option.bind x0[x1]? fun e299=>cond (decide ((IntKind.i64.wrap (r45.Live+x10))>(IntKind.i64.wrap (e298.Want+e299.Over))))
   (cond (6 != 0)
   (Option.bind (G27 (⟨x16,x17,x18,x19⟩ : VStewBook)) fun r300 =>
   some (r300,6))
   (some ((⟨x5,x0,x6,x7⟩ : VStewBook),0)))
   (cond (decide ((IntKind.i64.wrap ((x6.length : Int)+x10))>200))
   (cond (7 != 0)
   (Option.bind (G27 (⟨x16,x17,x18,x19⟩ : VStewBook)) fun r301 =>
   some (r301,7))
   (some ((⟨x5,x0,x6,x7⟩ : VStewBook),0)))
   (Option.bind x0[x1]? fun e302=>cond (decide ((IntKind.i64.wrap (e302.Next+x10))>1000000))
   (cond (7 != 0)
   (Option.bind (G27 (⟨x16,x17,x18,x19⟩ : VStewBook)) fun r303 =>
   some (r303,7))
   (some ((⟨x5,x0,x6,x7⟩ : VStewBook),0)))
   (cond (x5 == 1000000)
   (cond (7 != 0)
   (Option.bind (G27 (⟨x16,x17,x18,x19⟩ : VStewBook)) fun r304 =>
   some (r304,7))
   (some ((⟨x5,x0,x6,x7⟩ : VStewBook),0)))
   (Option.bind x0[x1]? fun e305=>MP9_9 (x0.set x1 ((⟨e305.Name,IntKind.i64.wrap (x5+1),e305.Gone,e305.Image,e305.Want,e305.Down,e305.Over,e305.Next,e305.Per,e305.Least,e305.Most,e305.Load,e305.Cool⟩ : VStewService))) x1 (IntKind.i64.wrap (x5+1)) x6 x7 x8 x9 x10 x11 x12 x13 x14 x15 x16 x17 x18 x19 x20 x21 x22 x23 n   0))))))
   (cond (decide ((IntKind.i64.wrap ((x6.length : Int)+x10))>200))
   (cond (7 != 0)
   (Option.bind (G27 (⟨x16,x17,x18,x19⟩ : VStewBook)) fun r306 =>
   some (r306,7))
   (some ((⟨x5,x0,x6,x7⟩ : VStewBook),0)))
   (Option.bind x0[x1]? fun e307=>cond (decide ((IntKind.i64.wrap (e307.Next+x10))>1000000))
   (cond (7 != 0)
   (Option.bind (G27 (⟨x16,x17,x18,x19⟩ : VStewBook)) fun r308 =>
   some (r308,7))
   (some ((⟨x5,x0,x6,x7⟩ : VStewBook),0)))
   (cond (x5 == 1000000)
   (cond (7 != 0)
   (Option.bind (G27 (⟨x16,x17,x18,x19⟩ : VStewBook)) fun r309 =>
   some (r309,7))
   (some ((⟨x5,x0,x6,x7⟩ : VStewBook),0)))
   (Option.bind x0[x1]? fun e310=>MP9_9 (x0.set x1 ((⟨e310.Name,IntKind.i64.wrap (x5+1),e310.Gone,e310.Image,e310.Want,e310.Down,e310.Over,e310.Next,e310.Per,e310.Least,e310.Most,e310.Load,e310.Cool⟩ : VStewService))) x1 (IntKind.i64.wrap (x5+1)) x6 x7 x8 x9 x10 x11 x12 x13 x14 x15 x16 x17 x18 x19 x20 x21 x22 x23 n   0))))))):=by kernel_rfl
  simp only [m9_8,m9_9] at h
  exact h
end
section
variable (x0 : List (C .e79)) (x1 : Nat) (x2 : List (C .e89)) (x3 : Int) (x5 : Int) (x6 : List (C .e83)) (x7 : List (C .e81)) (x8 : ByteArray) (x9 : Int) (x10 : Int) (x11 : Int) (x12 : Int) (x13 : Bool) (x14 : List (C .e89)) (x15 : Bool) (x16 : Int) (x17 : List (C .e79)) (x18 : List (C .e83)) (x19 : List (C .e81)) (x20 : Int) (x21 : List (C .e79)) (x22 : List (C .e83)) (x23 : List (C .e81))
noncomputable def MP9_3 (n : Nat)  (x : A9_3) : Option (VStewBook×Int):=iter (fun rec S=>run (X28 n) (F28 n) (codeAt (bodyOf Try.f28) [1,1,1,1,1,1,0,1,0,0]) 2 S (lopK rec (blkK 2 (seqK (run (X28 n) (F28 n) (codeAt (bodyOf Try.f28) [1,1,1,1,1,1,1]) 0) (inlK (X28 n) Try.f28 (callK 15000 0 (some 15) (restK (X9 n) (codeAt (bodyOf Try.f9) [1,1,1,0,0]) 2 (regK (F9 n) (seqK (run (X9 n) (F9 n) (codeAt (bodyOf Try.f9) [1,1,1,0,1]) 0) (seqK (run (X9 n) (F9 n) (codeAt (bodyOf Try.f9) [1,1,1,1]) 0) (kTop (X9 n) Try.f9 dec9))))))))))) [0,3,5,47,48,49] n (s9_3 x0 x1 x2 x3 x5 x6 x7 x8 x9 x10 x11 x12 x13 x14 x15 x16 x17 x18 x19 x20 x21 x22 x23 x)
theorem m9_3 (n : Nat)  (x : A9_3) : MP9_3 x0 x1 x2 x3 x5 x6 x7 x8 x9 x10 x11 x12 x13 x14 x15 x16 x17 x18 x19 x20 x21 x22 x23 n  x=lpN (r9_3 x0 x1 x2 x3 x5 x6 x7 x8 x9 x10 x11 x12 x13 x14 x15 x16 x17 x18 x19 n  ) n x:=by
  refine iter_eq (s9_3 x0 x1 x2 x3 x5 x6 x7 x8 x9 x10 x11 x12 x13 x14 x15 x16 x17 x18 x19 x20 x21 x22 x23) (r9_3 x0 x1 x2 x3 x5 x6 x7 x8 x9 x10 x11 x12 x13 x14 x15 x16 x17 x18 x19 n  ) (fun rec3 x4 => ?_) n x
  have h : run (X28 n) (F28 n) (codeAt (bodyOf Try.f28) [1,1,1,1,1,1,0,1,0,0]) 2 (s9_3 x0 x1 x2 x3 x5 x6 x7 x8 x9 x10 x11 x12 x13 x14 x15 x16 x17 x18 x19 x20 x21 x22 x23 x4) (lopK (canThen [0,3,5,47,48,49] rec3) (blkK 2 (seqK (run (X28 n) (F28 n) (codeAt (bodyOf Try.f28) [1,1,1,1,1,1,1]) 0) (inlK (X28 n) Try.f28 (callK 15000 0 (some 15) (restK (X9 n) (codeAt (bodyOf Try.f9) [1,1,1,0,0]) 2 (regK (F9 n) (seqK (run (X9 n) (F9 n) (codeAt (bodyOf Try.f9) [1,1,1,0,1]) 0) (seqK (run (X9 n) (F9 n) (codeAt (bodyOf Try.f9) [1,1,1,1]) 0) (kTop (X9 n) Try.f9 dec9)))))))))) =
   cond (decide (x4<x3))
   (cond (decide (0≤x4)) (Option.bind x2[x4.toNat]? fun e12=>alt (MP9_4 x8 e12.Number (x6.length : Int) x0 x1 x2 x3 x4 x8 e12.Number e12.Seen x5 x6 x7 x8 x9 x10 x11 x12 x13 x14 x15 e12.Number e12.Seen x16 x17 x18 x19 x20 x21 x22 x23 n  rec3 0)
   (alt (MP9_5 x8 e12.Number (x6.length : Int) x0 x1 x2 x3 x4 x8 e12.Number x5 x6 x7 x8 x9 x10 x11 x12 x13 x14 x15 e12.Number e12.Seen x16 x17 x18 x19 x20 x21 x22 x23 n  rec3 0)
   (MP9_6 x8 e12.Number (x6.length : Int) x0 x1 x2 x3 x4 x8 e12.Number x5 x6 x7 x8 x9 x10 x11 x12 x13 x14 x15 e12.Number e12.Seen x16 x17 x18 x19 x20 x21 x22 x23 n  rec3 0))) none)
   (MP9_7 x0 x1 x14 (x14.length : Int) x5 x7 x8 x9 x10 x11 x12 x13 x14 x15 x16 x17 x18 x19 x20 x21 x22 x23 n   (0,x6)):=by kernel_rfl
  simp only [m9_4,m9_5,m9_6,m9_7] at h
  exact h
end
section
variable (x0 : List (C .e79)) (x1 : Nat) (x2 : List (C .e89)) (x3 : Int) (x5 : Int) (x6 : List (C .e83)) (x7 : List (C .e81)) (x8 : ByteArray) (x9 : Int) (x10 : Int) (x11 : Int) (x12 : Int) (x13 : Bool) (x14 : List (C .e89)) (x15 : Bool) (x16 : Int) (x17 : List (C .e79)) (x18 : List (C .e83)) (x19 : List (C .e81)) (x20 : Int) (x21 : List (C .e79)) (x22 : List (C .e83)) (x23 : List (C .e81))
noncomputable def MP9_1 (n : Nat)  (x : A9_1) : Option (VStewBook×Int):=iter (fun rec S=>run (X28 n) (F28 n) (codeAt (bodyOf Try.f28) [1,1,1,1,0,1,0,0]) 0 S (lopK rec (blkK 0 (seqK (run (X28 n) (F28 n) (codeAt (bodyOf Try.f28) [1,1,1,1,1]) 0) (inlK (X28 n) Try.f28 (callK 15000 0 (some 15) (restK (X9 n) (codeAt (bodyOf Try.f9) [1,1,1,0,0]) 2 (regK (F9 n) (seqK (run (X9 n) (F9 n) (codeAt (bodyOf Try.f9) [1,1,1,0,1]) 0) (seqK (run (X9 n) (F9 n) (codeAt (bodyOf Try.f9) [1,1,1,1]) 0) (kTop (X9 n) Try.f9 dec9))))))))))) [0,3,5,25,26,27] n (s9_1 x0 x1 x2 x3 x5 x6 x7 x8 x9 x10 x11 x12 x13 x14 x15 x16 x17 x18 x19 x20 x21 x22 x23 x)
theorem m9_1 (n : Nat)  (x : A9_1) : MP9_1 x0 x1 x2 x3 x5 x6 x7 x8 x9 x10 x11 x12 x13 x14 x15 x16 x17 x18 x19 x20 x21 x22 x23 n  x=lpN (r9_1 x0 x1 x2 x3 x5 x6 x7 x8 x9 x10 x11 x12 x13 x14 x15 x16 x17 x18 x19 n  ) n x:=by
  refine iter_eq (s9_1 x0 x1 x2 x3 x5 x6 x7 x8 x9 x10 x11 x12 x13 x14 x15 x16 x17 x18 x19 x20 x21 x22 x23) (r9_1 x0 x1 x2 x3 x5 x6 x7 x8 x9 x10 x11 x12 x13 x14 x15 x16 x17 x18 x19 n  ) (fun rec1 x4 => ?_) n x
  have h : run (X28 n) (F28 n) (codeAt (bodyOf Try.f28) [1,1,1,1,0,1,0,0]) 0 (s9_1 x0 x1 x2 x3 x5 x6 x7 x8 x9 x10 x11 x12 x13 x14 x15 x16 x17 x18 x19 x20 x21 x22 x23 x4) (lopK (canThen [0,3,5,25,26,27] rec1) (blkK 0 (seqK (run (X28 n) (F28 n) (codeAt (bodyOf Try.f28) [1,1,1,1,1]) 0) (inlK (X28 n) Try.f28 (callK 15000 0 (some 15) (restK (X9 n) (codeAt (bodyOf Try.f9) [1,1,1,0,0]) 2 (regK (F9 n) (seqK (run (X9 n) (F9 n) (codeAt (bodyOf Try.f9) [1,1,1,0,1]) 0) (seqK (run (X9 n) (F9 n) (codeAt (bodyOf Try.f9) [1,1,1,1]) 0) (kTop (X9 n) Try.f9 dec9)))))))))) =
   cond (decide (x4<x3))
   (cond (decide (0≤x4)) (Option.bind x2[x4.toNat]? fun e6=>MP9_2 x8 e6.Number (x6.length : Int) x0 x1 x2 x3 x4 x5 x6 x7 x8 x9 x10 x11 x12 x13 x14 x15 x16 x17 x18 x19 x20 x21 x22 x23 n  rec1 0) none)
   (Option.bind x0[x1]? fun e10=>cond (e10.Version != x9)
   (cond (4 != 0)
   (Option.bind (G27 (⟨x16,x17,x18,x19⟩ : VStewBook)) fun r11 =>
   some (r11,4))
   (some ((⟨x5,x0,x6,x7⟩ : VStewBook),0)))
   (MP9_3 x0 x1 x14 (x14.length : Int) x5 x6 x7 x8 x9 x10 x11 x12 x13 x14 x15 x16 x17 x18 x19 x20 x21 x22 x23 n   0)):=by kernel_rfl
  simp only [m9_2,m9_3] at h
  exact h
end
section
variable (x0 : ByteArray) (x1 : Int) (x3 : Int) (x4 : List (C .e79)) (x5 : List (C .e83)) (x6 : List (C .e81)) (x7 : ByteArray) (x8 : Int) (x9 : Int) (x10 : Int) (x11 : Int) (x12 : Bool) (x13 : List (C .e89)) (x14 : Bool) (x15 : Int) (x16 : List (C .e79)) (x17 : List (C .e83)) (x18 : List (C .e81)) (x19 : Int) (x20 : List (C .e79)) (x21 : List (C .e83)) (x22 : List (C .e81))
noncomputable def MP9_0 (n : Nat)  (x : A9_0) : Option (VStewBook×Int):=iter (fun rec S=>run X60 (F60 n) (codeAt (bodyOf Try.f60) [1,0,1,0,0]) 0 S (lopK rec (blkK 0 (seqK (run X60 (F60 n) (codeAt (bodyOf Try.f60) [1,1]) 0) (inlK X60 Try.f60 (callK 16021000 16000 (some 21) (restK (X28 n) (codeAt (bodyOf Try.f28) [1,1,0]) 4 (regK (F28 n) (seqK (run (X28 n) (F28 n) (codeAt (bodyOf Try.f28) [1,1,1]) 0) (inlK (X28 n) Try.f28 (callK 15000 0 (some 15) (restK (X9 n) (codeAt (bodyOf Try.f9) [1,1,1,0,0]) 2 (regK (F9 n) (seqK (run (X9 n) (F9 n) (codeAt (bodyOf Try.f9) [1,1,1,0,1]) 0) (seqK (run (X9 n) (F9 n) (codeAt (bodyOf Try.f9) [1,1,1,1]) 0) (kTop (X9 n) Try.f9 dec9)))))))))))))))) [0,1,10,11] n (s9_0 x0 x1 x3 x4 x5 x6 x7 x8 x9 x10 x11 x12 x13 x14 x15 x16 x17 x18 x19 x20 x21 x22 x)
theorem m9_0 (n : Nat)  (x : A9_0) : MP9_0 x0 x1 x3 x4 x5 x6 x7 x8 x9 x10 x11 x12 x13 x14 x15 x16 x17 x18 x19 x20 x21 x22 n  x=lpN (r9_0 x0 x1 x3 x4 x5 x6 x7 x8 x9 x10 x11 x12 x13 x14 x15 x16 x17 x18 n  ) n x:=by
  refine iter_eq (s9_0 x0 x1 x3 x4 x5 x6 x7 x8 x9 x10 x11 x12 x13 x14 x15 x16 x17 x18 x19 x20 x21 x22) (r9_0 x0 x1 x3 x4 x5 x6 x7 x8 x9 x10 x11 x12 x13 x14 x15 x16 x17 x18 n  ) (fun rec0 x2 => ?_) n x
  have h : run X60 (F60 n) (codeAt (bodyOf Try.f60) [1,0,1,0,0]) 0 (s9_0 x0 x1 x3 x4 x5 x6 x7 x8 x9 x10 x11 x12 x13 x14 x15 x16 x17 x18 x19 x20 x21 x22 x2) (lopK (canThen [0,1,10,11] rec0) (blkK 0 (seqK (run X60 (F60 n) (codeAt (bodyOf Try.f60) [1,1]) 0) (inlK X60 Try.f60 (callK 16021000 16000 (some 21) (restK (X28 n) (codeAt (bodyOf Try.f28) [1,1,0]) 4 (regK (F28 n) (seqK (run (X28 n) (F28 n) (codeAt (bodyOf Try.f28) [1,1,1]) 0) (inlK (X28 n) Try.f28 (callK 15000 0 (some 15) (restK (X9 n) (codeAt (bodyOf Try.f9) [1,1,1,0,0]) 2 (regK (F9 n) (seqK (run (X9 n) (F9 n) (codeAt (bodyOf Try.f9) [1,1,1,0,1]) 0) (seqK (run (X9 n) (F9 n) (codeAt (bodyOf Try.f9) [1,1,1,1]) 0) (kTop (X9 n) Try.f9 dec9))))))))))))))) =
   cond (decide (x2<x1))
   (cond (decide (0≤x2)) (cond (decide (x2<(x4.length : Int))) (Option.bind x4[x2.toNat]? fun e5=>cond (decide (e5.Name=x0))
   (cond (decide (0≤x2)) (cond (decide (x2<(x4.length : Int))) (MP9_1 x4 x2.toNat x13 (x13.length : Int) x3 x5 x6 x7 x8 x9 x10 x11 x12 x13 x14 x15 x16 x17 x18 x19 x20 x21 x22 n   0) none) none)
   ((fun x=>rec0 (s9_0 x0 x1 x3 x4 x5 x6 x7 x8 x9 x10 x11 x12 x13 x14 x15 x16 x17 x18 x19 x20 x21 x22 x)) (IntKind.i64.wrap (x2+1)))) none) none)
   (cond (3 != 0)
   (Option.bind (G27 (⟨x15,x16,x17,x18⟩ : VStewBook)) fun r311 =>
   some (r311,3))
   (some ((⟨x3,x4,x5,x6⟩ : VStewBook),0))):=by kernel_rfl
  simp only [m9_1] at h
  exact h
end
noncomputable def G9n (n : Nat) (a0 : VStewBook) (a1 : VStewAct) : Option (VStewBook×Int) :=
 Option.bind (G26 a0) fun r1 =>
 cond (!r1)
 (some ((⟨0,([] : List (C .e79)),([] : List (C .e83)),([] : List (C .e81))⟩ : VStewBook),1))
 (Option.bind (G27 a0) fun r2 =>
 Option.bind (G62 a1) fun r3 =>
 cond (!r3)
 (cond (2 != 0)
 (Option.bind (G27 a0) fun r4 =>
 some (r4,2))
 (some (r2,0)))
 (lpN (r9_0 a1.Service (r2.Services.length : Int) r2.Now r2.Services r2.Copies r2.Berths a1.Service a1.Seen a1.Create a1.Want a1.Cool a1.Scale a1.Ends a1.Drop a0.Now a0.Services a0.Copies a0.Berths n ) n 0))
theorem t9 (n : Nat) (a0 : VStewBook) (a1 : VStewAct) : runFn (X9 n) (F9 n) Try.f9 [.agg [.int .i64 a0.Now,.row .e79 a0.Services,.row .e83 a0.Copies,.row .e81 a0.Berths],.agg [.str a1.Service,.int .i64 a1.Seen,.int .i64 a1.Create,.int .i64 a1.Want,.int .i64 a1.Cool,.bool a1.Scale,.row .e89 a1.Ends,.bool a1.Drop]] dec9=G9n n a0 a1:=by
  refine Eq.trans (b :=
   Option.bind (G26 a0) fun r1 =>
   cond (!r1)
   (some ((⟨0,([] : List (C .e79)),([] : List (C .e83)),([] : List (C .e81))⟩ : VStewBook),1))
   (Option.bind (G27 a0) fun r2 =>
   Option.bind (G62 a1) fun r3 =>
   cond (!r3)
   (cond (2 != 0)
   (Option.bind (G27 a0) fun r4 =>
   some (r4,2))
   (some (r2,0)))
   (MP9_0 a1.Service (r2.Services.length : Int) r2.Now r2.Services r2.Copies r2.Berths a1.Service a1.Seen a1.Create a1.Want a1.Cool a1.Scale a1.Ends a1.Drop a0.Now a0.Services a0.Copies a0.Berths 0 (([] : List (C .e79))) (([] : List (C .e83))) (([] : List (C .e81))) n   0))) (by kernel_rfl) ?_
  simp only [G9n,m9_0]
noncomputable def G9 (a0 : VStewBook) (a1 : VStewAct) : Option (VStewBook×Int):=G9n fuel a0 a1
noncomputable def con9 : Con C:=mkC KK [.el .e36,.el .e42] [.el .e36,.int .i64] G9
theorem c9 : ConOk Try.prog KK 9 con9:=cO (mkQ ⟨c26,c27,trivial⟩ trivial ⟨i28 _,trivial⟩ : Cons Try.prog (X9 fuel)) (fn:=Try.f9) (by kernel_rfl) (by kernel_rfl) (by kernel_rfl) (by kernel_rfl) (F9 fuel) (by kernel_rfl) (fun a0 a1=>t9 fuel a0 a1)
/-! ### f69 loop.example/wharfdesk/laws.eqStewService -/
noncomputable def X69 : Cx C:=mkX [] [] [] [] 4521984 []
def F69 (n : Nat) : Cf:={ N:=n,keep:=[0,1,2,3,4,9,14,19,24,29,34,39,44,49,54,59,64,69],live:=lk [] }
noncomputable abbrev dec69:=deR KK [.bool]
noncomputable def G69n (n : Nat) (a0 : VStewService) (a1 : VStewService) : Option (Bool) :=
 cond (!decide (a0.Name=a1.Name))
 (some (false))
 (cond (a0.Version != a1.Version)
 (some (false))
 (cond (!(a0.Gone == a1.Gone))
 (some (false))
 (cond (a0.Image != a1.Image)
 (some (false))
 (cond (a0.Want != a1.Want)
 (some (false))
 (cond (a0.Down != a1.Down)
 (some (false))
 (cond (a0.Over != a1.Over)
 (some (false))
 (cond (a0.Next != a1.Next)
 (some (false))
 (cond (a0.Per != a1.Per)
 (some (false))
 (cond (a0.Least != a1.Least)
 (some (false))
 (cond (a0.Most != a1.Most)
 (some (false))
 (cond (a0.Load != a1.Load)
 (some (false))
 (cond (a0.Cool != a1.Cool)
 (some (false))
 (some (true))))))))))))))
theorem t69 (n : Nat) (a0 : VStewService) (a1 : VStewService) : runFn X69 (F69 n) Try.f69 [.agg [.str a0.Name,.int .i64 a0.Version,.bool a0.Gone,.int .i64 a0.Image,.int .i64 a0.Want,.int .i64 a0.Down,.int .i64 a0.Over,.int .i64 a0.Next,.int .i64 a0.Per,.int .i64 a0.Least,.int .i64 a0.Most,.int .i64 a0.Load,.int .i64 a0.Cool],.agg [.str a1.Name,.int .i64 a1.Version,.bool a1.Gone,.int .i64 a1.Image,.int .i64 a1.Want,.int .i64 a1.Down,.int .i64 a1.Over,.int .i64 a1.Next,.int .i64 a1.Per,.int .i64 a1.Least,.int .i64 a1.Most,.int .i64 a1.Load,.int .i64 a1.Cool]] dec69=G69n n a0 a1:=by
  kernel_rfl
noncomputable def G69 (a0 : VStewService) (a1 : VStewService) : Option (Bool):=G69n fuel a0 a1
noncomputable def con69 : Con C:=mkC KK [.el .e79,.el .e79] [.bool] G69
theorem c69 : ConOk Try.prog KK 69 con69:=cO (mkQ trivial trivial trivial : Cons Try.prog X69) (fn:=Try.f69) (by kernel_rfl) (by kernel_rfl) (by kernel_rfl) (by kernel_rfl) (F69 fuel) (by kernel_rfl) (fun a0 a1=>t69 fuel a0 a1)
/-! ### f29 loop.example/wharfdesk/laws.eqStewServiceS -/
noncomputable def X29 : Cx C:=mkX [(69,con69)] [] [] [] 1900544 []
def F29 (n : Nat) : Cf:={ N:=n,keep:=[0,1,4,5,10,14,26],live:=lk [(0,[0,1,5])] }
noncomputable abbrev dec29:=deR KK [.bool]
abbrev A29_0 : Type:=List (C .e79)×List (C .e79)×Int
def s29_0  : A29_0→St C:=fun (x0_0,x0_1,x0_2)=>{ env:=[(0,.one (.row .e79 x0_0)),(1,.one (.row .e79 x0_1)),(5,.one (.int .i64 x0_2))],objs:=[],base:=0 }
noncomputable def r29_0 (n : Nat)   (rec0 : A29_0→Option (Bool)) : A29_0→Option (Bool):=fun (x0_0,x0_1,x0_2) =>
 cond (decide (x0_2<(x0_0.length : Int)))
 (cond (decide (0≤x0_2)) (Option.bind x0_0[x0_2.toNat]? fun e1=>cond (decide (0≤x0_2)) (Option.bind x0_1[x0_2.toNat]? fun e2=>Option.bind (G69 e1 e2) fun r3 =>
 cond (!r3)
 (some (false))
 (rec0 ((x0_0,x0_1,IntKind.i64.wrap (x0_2+1))))) none) none)
 (some (true))
noncomputable def LP29_0 (n : Nat)   (x : A29_0) : Option (Bool):=lpN (r29_0 n  ) n x
noncomputable def MP29_0 (n : Nat)   (x : A29_0) : Option (Bool):=iter (fun rec S=>run X29 (F29 n) (codeAt (bodyOf Try.f29) [1,1,0,1,0,0]) 0 S (lopK rec (blkK 0 (seqK (run X29 (F29 n) (codeAt (bodyOf Try.f29) [1,1,1]) 0) (kTop X29 Try.f29 dec29))))) [0,1,5] n (s29_0  x)
theorem m29_0 (n : Nat)   (x : A29_0) : MP29_0 n   x=LP29_0 n   x:=by
  refine iter_eq (s29_0 ) (r29_0 n  ) (fun rec0 x => ?_) n x
  obtain ⟨x0_0,x0_1,x0_2⟩:=x
  kernel_rfl
noncomputable def G29n (n : Nat) (a0 : List (C .e79)) (a1 : List (C .e79)) : Option (Bool) :=
 cond ((a0.length : Int) != (a1.length : Int))
 (some (false))
 (LP29_0 n    (a0,a1,0))
theorem t29 (n : Nat) (a0 : List (C .e79)) (a1 : List (C .e79)) : runFn X29 (F29 n) Try.f29 [.one (.row .e79 a0),.one (.row .e79 a1)] dec29=G29n n a0 a1:=by
  refine Eq.trans (b :=
   cond ((a0.length : Int) != (a1.length : Int))
   (some (false))
   (MP29_0 n    (a0,a1,0))) (by kernel_rfl) ?_
  simp only [G29n,m29_0]
noncomputable def G29 (a0 : List (C .e79)) (a1 : List (C .e79)) : Option (Bool):=G29n fuel a0 a1
noncomputable def con29 : Con C:=mkC KK [.row .e79,.row .e79] [.bool] G29
theorem c29 : ConOk Try.prog KK 29 con29:=cO (mkQ ⟨c69,trivial⟩ trivial trivial : Cons Try.prog X29) (fn:=Try.f29) (by kernel_rfl) (by kernel_rfl) (by kernel_rfl) (by kernel_rfl) (F29 fuel) (by kernel_rfl) (fun a0 a1=>t29 fuel a0 a1)
/-! ### f70 loop.example/wharfdesk/laws.eqStewCopy -/
noncomputable def X70 : Cx C:=mkX [] [] [] [] 4587520 []
def F70 (n : Nat) : Cf:={ N:=n,keep:=[0,1,2,3,4,9,14,19,24,29,34,39],live:=lk [] }
noncomputable abbrev dec70:=deR KK [.bool]
noncomputable def G70n (n : Nat) (a0 : VStewCopy) (a1 : VStewCopy) : Option (Bool) :=
 cond (!decide (a0.Service=a1.Service))
 (some (false))
 (cond (a0.Number != a1.Number)
 (some (false))
 (cond (a0.Version != a1.Version)
 (some (false))
 (cond (a0.Image != a1.Image)
 (some (false))
 (cond (a0.State != a1.State)
 (some (false))
 (cond (!(a0.Ending == a1.Ending))
 (some (false))
 (cond (!decide (a0.Berth=a1.Berth))
 (some (false))
 (some (true))))))))
theorem t70 (n : Nat) (a0 : VStewCopy) (a1 : VStewCopy) : runFn X70 (F70 n) Try.f70 [.agg [.str a0.Service,.int .i64 a0.Number,.int .i64 a0.Version,.int .i64 a0.Image,.int .i64 a0.State,.bool a0.Ending,.str a0.Berth],.agg [.str a1.Service,.int .i64 a1.Number,.int .i64 a1.Version,.int .i64 a1.Image,.int .i64 a1.State,.bool a1.Ending,.str a1.Berth]] dec70=G70n n a0 a1:=by
  kernel_rfl
noncomputable def G70 (a0 : VStewCopy) (a1 : VStewCopy) : Option (Bool):=G70n fuel a0 a1
noncomputable def con70 : Con C:=mkC KK [.el .e83,.el .e83] [.bool] G70
theorem c70 : ConOk Try.prog KK 70 con70:=cO (mkQ trivial trivial trivial : Cons Try.prog X70) (fn:=Try.f70) (by kernel_rfl) (by kernel_rfl) (by kernel_rfl) (by kernel_rfl) (F70 fuel) (by kernel_rfl) (fun a0 a1=>t70 fuel a0 a1)
/-! ### f30 loop.example/wharfdesk/laws.eqStewCopyS -/
noncomputable def X30 : Cx C:=mkX [(70,con70)] [] [] [] 1966080 []
def F30 (n : Nat) : Cf:={ N:=n,keep:=[0,1,4,5,10,14,26],live:=lk [(0,[0,1,5])] }
noncomputable abbrev dec30:=deR KK [.bool]
abbrev A30_0 : Type:=List (C .e83)×List (C .e83)×Int
def s30_0  : A30_0→St C:=fun (x0_0,x0_1,x0_2)=>{ env:=[(0,.one (.row .e83 x0_0)),(1,.one (.row .e83 x0_1)),(5,.one (.int .i64 x0_2))],objs:=[],base:=0 }
noncomputable def r30_0 (n : Nat)   (rec0 : A30_0→Option (Bool)) : A30_0→Option (Bool):=fun (x0_0,x0_1,x0_2) =>
 cond (decide (x0_2<(x0_0.length : Int)))
 (cond (decide (0≤x0_2)) (Option.bind x0_0[x0_2.toNat]? fun e1=>cond (decide (0≤x0_2)) (Option.bind x0_1[x0_2.toNat]? fun e2=>Option.bind (G70 e1 e2) fun r3 =>
 cond (!r3)
 (some (false))
 (rec0 ((x0_0,x0_1,IntKind.i64.wrap (x0_2+1))))) none) none)
 (some (true))
noncomputable def LP30_0 (n : Nat)   (x : A30_0) : Option (Bool):=lpN (r30_0 n  ) n x
noncomputable def MP30_0 (n : Nat)   (x : A30_0) : Option (Bool):=iter (fun rec S=>run X30 (F30 n) (codeAt (bodyOf Try.f30) [1,1,0,1,0,0]) 0 S (lopK rec (blkK 0 (seqK (run X30 (F30 n) (codeAt (bodyOf Try.f30) [1,1,1]) 0) (kTop X30 Try.f30 dec30))))) [0,1,5] n (s30_0  x)
theorem m30_0 (n : Nat)   (x : A30_0) : MP30_0 n   x=LP30_0 n   x:=by
  refine iter_eq (s30_0 ) (r30_0 n  ) (fun rec0 x => ?_) n x
  obtain ⟨x0_0,x0_1,x0_2⟩:=x
  kernel_rfl
noncomputable def G30n (n : Nat) (a0 : List (C .e83)) (a1 : List (C .e83)) : Option (Bool) :=
 cond ((a0.length : Int) != (a1.length : Int))
 (some (false))
 (LP30_0 n    (a0,a1,0))
theorem t30 (n : Nat) (a0 : List (C .e83)) (a1 : List (C .e83)) : runFn X30 (F30 n) Try.f30 [.one (.row .e83 a0),.one (.row .e83 a1)] dec30=G30n n a0 a1:=by
  refine Eq.trans (b :=
   cond ((a0.length : Int) != (a1.length : Int))
   (some (false))
   (MP30_0 n    (a0,a1,0))) (by kernel_rfl) ?_
  simp only [G30n,m30_0]
noncomputable def G30 (a0 : List (C .e83)) (a1 : List (C .e83)) : Option (Bool):=G30n fuel a0 a1
noncomputable def con30 : Con C:=mkC KK [.row .e83,.row .e83] [.bool] G30
theorem c30 : ConOk Try.prog KK 30 con30:=cO (mkQ ⟨c70,trivial⟩ trivial trivial : Cons Try.prog X30) (fn:=Try.f30) (by kernel_rfl) (by kernel_rfl) (by kernel_rfl) (by kernel_rfl) (F30 fuel) (by kernel_rfl) (fun a0 a1=>t30 fuel a0 a1)
/-! ### f71 loop.example/wharfdesk/laws.eqStewBerth -/
noncomputable def X71 : Cx C:=mkX [] [] [] [] 4653056 []
def F71 (n : Nat) : Cf:={ N:=n,keep:=[0,1,2,3,4,9,14],live:=lk [] }
noncomputable abbrev dec71:=deR KK [.bool]
noncomputable def G71n (n : Nat) (a0 : VStewBerth) (a1 : VStewBerth) : Option (Bool) :=
 cond (!decide (a0.Name=a1.Name))
 (some (false))
 (cond (!(a0.Drain == a1.Drain))
 (some (false))
 (some (true)))
theorem t71 (n : Nat) (a0 : VStewBerth) (a1 : VStewBerth) : runFn X71 (F71 n) Try.f71 [.agg [.str a0.Name,.bool a0.Drain],.agg [.str a1.Name,.bool a1.Drain]] dec71=G71n n a0 a1:=by
  kernel_rfl
noncomputable def G71 (a0 : VStewBerth) (a1 : VStewBerth) : Option (Bool):=G71n fuel a0 a1
noncomputable def con71 : Con C:=mkC KK [.el .e81,.el .e81] [.bool] G71
theorem c71 : ConOk Try.prog KK 71 con71:=cO (mkQ trivial trivial trivial : Cons Try.prog X71) (fn:=Try.f71) (by kernel_rfl) (by kernel_rfl) (by kernel_rfl) (by kernel_rfl) (F71 fuel) (by kernel_rfl) (fun a0 a1=>t71 fuel a0 a1)
/-! ### f31 loop.example/wharfdesk/laws.eqStewBerthS -/
noncomputable def X31 : Cx C:=mkX [(71,con71)] [] [] [] 2031616 []
def F31 (n : Nat) : Cf:={ N:=n,keep:=[0,1,4,5,10,14,26],live:=lk [(0,[0,1,5])] }
noncomputable abbrev dec31:=deR KK [.bool]
abbrev A31_0 : Type:=List (C .e81)×List (C .e81)×Int
def s31_0  : A31_0→St C:=fun (x0_0,x0_1,x0_2)=>{ env:=[(0,.one (.row .e81 x0_0)),(1,.one (.row .e81 x0_1)),(5,.one (.int .i64 x0_2))],objs:=[],base:=0 }
noncomputable def r31_0 (n : Nat)   (rec0 : A31_0→Option (Bool)) : A31_0→Option (Bool):=fun (x0_0,x0_1,x0_2) =>
 cond (decide (x0_2<(x0_0.length : Int)))
 (cond (decide (0≤x0_2)) (Option.bind x0_0[x0_2.toNat]? fun e1=>cond (decide (0≤x0_2)) (Option.bind x0_1[x0_2.toNat]? fun e2=>Option.bind (G71 e1 e2) fun r3 =>
 cond (!r3)
 (some (false))
 (rec0 ((x0_0,x0_1,IntKind.i64.wrap (x0_2+1))))) none) none)
 (some (true))
noncomputable def LP31_0 (n : Nat)   (x : A31_0) : Option (Bool):=lpN (r31_0 n  ) n x
noncomputable def MP31_0 (n : Nat)   (x : A31_0) : Option (Bool):=iter (fun rec S=>run X31 (F31 n) (codeAt (bodyOf Try.f31) [1,1,0,1,0,0]) 0 S (lopK rec (blkK 0 (seqK (run X31 (F31 n) (codeAt (bodyOf Try.f31) [1,1,1]) 0) (kTop X31 Try.f31 dec31))))) [0,1,5] n (s31_0  x)
theorem m31_0 (n : Nat)   (x : A31_0) : MP31_0 n   x=LP31_0 n   x:=by
  refine iter_eq (s31_0 ) (r31_0 n  ) (fun rec0 x => ?_) n x
  obtain ⟨x0_0,x0_1,x0_2⟩:=x
  kernel_rfl
noncomputable def G31n (n : Nat) (a0 : List (C .e81)) (a1 : List (C .e81)) : Option (Bool) :=
 cond ((a0.length : Int) != (a1.length : Int))
 (some (false))
 (LP31_0 n    (a0,a1,0))
theorem t31 (n : Nat) (a0 : List (C .e81)) (a1 : List (C .e81)) : runFn X31 (F31 n) Try.f31 [.one (.row .e81 a0),.one (.row .e81 a1)] dec31=G31n n a0 a1:=by
  refine Eq.trans (b :=
   cond ((a0.length : Int) != (a1.length : Int))
   (some (false))
   (MP31_0 n    (a0,a1,0))) (by kernel_rfl) ?_
  simp only [G31n,m31_0]
noncomputable def G31 (a0 : List (C .e81)) (a1 : List (C .e81)) : Option (Bool):=G31n fuel a0 a1
noncomputable def con31 : Con C:=mkC KK [.row .e81,.row .e81] [.bool] G31
theorem c31 : ConOk Try.prog KK 31 con31:=cO (mkQ ⟨c71,trivial⟩ trivial trivial : Cons Try.prog X31) (fn:=Try.f31) (by kernel_rfl) (by kernel_rfl) (by kernel_rfl) (by kernel_rfl) (F31 fuel) (by kernel_rfl) (fun a0 a1=>t31 fuel a0 a1)
/-! ### f10 loop.example/wharfdesk/laws.eqStewBook -/
noncomputable def X10 : Cx C:=mkX [(29,con29),(30,con30),(31,con31)] [] [] [] 655360 []
def F10 (n : Nat) : Cf:={ N:=n,keep:=[0,1,2,3,4,9,15,21,27],live:=lk [] }
noncomputable abbrev dec10:=deR KK [.bool]
noncomputable def G10n (n : Nat) (a0 : VStewBook) (a1 : VStewBook) : Option (Bool) :=
 cond (a0.Now != a1.Now)
 (some (false))
 (Option.bind (G29 a0.Services a1.Services) fun r1 =>
 cond (!r1)
 (some (false))
 (Option.bind (G30 a0.Copies a1.Copies) fun r2 =>
 cond (!r2)
 (some (false))
 (Option.bind (G31 a0.Berths a1.Berths) fun r3 =>
 cond (!r3)
 (some (false))
 (some (true)))))
theorem t10 (n : Nat) (a0 : VStewBook) (a1 : VStewBook) : runFn X10 (F10 n) Try.f10 [.agg [.int .i64 a0.Now,.row .e79 a0.Services,.row .e83 a0.Copies,.row .e81 a0.Berths],.agg [.int .i64 a1.Now,.row .e79 a1.Services,.row .e83 a1.Copies,.row .e81 a1.Berths]] dec10=G10n n a0 a1:=by
  kernel_rfl
noncomputable def G10 (a0 : VStewBook) (a1 : VStewBook) : Option (Bool):=G10n fuel a0 a1
noncomputable def con10 : Con C:=mkC KK [.el .e36,.el .e36] [.bool] G10
theorem c10 : ConOk Try.prog KK 10 con10:=cO (mkQ ⟨c29,c30,c31,trivial⟩ trivial trivial : Cons Try.prog X10) (fn:=Try.f10) (by kernel_rfl) (by kernel_rfl) (by kernel_rfl) (by kernel_rfl) (F10 fuel) (by kernel_rfl) (fun a0 a1=>t10 fuel a0 a1)
/-! ### f72 loop.example/wharfdesk/laws.eqStewEnd -/
noncomputable def X72 : Cx C:=mkX [] [] [] [] 4718592 []
def F72 (n : Nat) : Cf:={ N:=n,keep:=[0,1,2,3,4,9,14],live:=lk [] }
noncomputable abbrev dec72:=deR KK [.bool]
noncomputable def G72n (n : Nat) (a0 : VStewEnd) (a1 : VStewEnd) : Option (Bool) :=
 cond (a0.Number != a1.Number)
 (some (false))
 (cond (a0.Seen != a1.Seen)
 (some (false))
 (some (true)))
theorem t72 (n : Nat) (a0 : VStewEnd) (a1 : VStewEnd) : runFn X72 (F72 n) Try.f72 [.agg [.int .i64 a0.Number,.int .i64 a0.Seen],.agg [.int .i64 a1.Number,.int .i64 a1.Seen]] dec72=G72n n a0 a1:=by
  kernel_rfl
noncomputable def G72 (a0 : VStewEnd) (a1 : VStewEnd) : Option (Bool):=G72n fuel a0 a1
noncomputable def con72 : Con C:=mkC KK [.el .e89,.el .e89] [.bool] G72
theorem c72 : ConOk Try.prog KK 72 con72:=cO (mkQ trivial trivial trivial : Cons Try.prog X72) (fn:=Try.f72) (by kernel_rfl) (by kernel_rfl) (by kernel_rfl) (by kernel_rfl) (F72 fuel) (by kernel_rfl) (fun a0 a1=>t72 fuel a0 a1)
/-! ### f32 loop.example/wharfdesk/laws.eqStewEndS -/
noncomputable def X32 : Cx C:=mkX [(72,con72)] [] [] [] 2097152 []
def F32 (n : Nat) : Cf:={ N:=n,keep:=[0,1,4,5,10,14,26],live:=lk [(0,[0,1,5])] }
noncomputable abbrev dec32:=deR KK [.bool]
abbrev A32_0 : Type:=List (C .e89)×List (C .e89)×Int
def s32_0  : A32_0→St C:=fun (x0_0,x0_1,x0_2)=>{ env:=[(0,.one (.row .e89 x0_0)),(1,.one (.row .e89 x0_1)),(5,.one (.int .i64 x0_2))],objs:=[],base:=0 }
noncomputable def r32_0 (n : Nat)   (rec0 : A32_0→Option (Bool)) : A32_0→Option (Bool):=fun (x0_0,x0_1,x0_2) =>
 cond (decide (x0_2<(x0_0.length : Int)))
 (cond (decide (0≤x0_2)) (Option.bind x0_0[x0_2.toNat]? fun e1=>cond (decide (0≤x0_2)) (Option.bind x0_1[x0_2.toNat]? fun e2=>Option.bind (G72 e1 e2) fun r3 =>
 cond (!r3)
 (some (false))
 (rec0 ((x0_0,x0_1,IntKind.i64.wrap (x0_2+1))))) none) none)
 (some (true))
noncomputable def LP32_0 (n : Nat)   (x : A32_0) : Option (Bool):=lpN (r32_0 n  ) n x
noncomputable def MP32_0 (n : Nat)   (x : A32_0) : Option (Bool):=iter (fun rec S=>run X32 (F32 n) (codeAt (bodyOf Try.f32) [1,1,0,1,0,0]) 0 S (lopK rec (blkK 0 (seqK (run X32 (F32 n) (codeAt (bodyOf Try.f32) [1,1,1]) 0) (kTop X32 Try.f32 dec32))))) [0,1,5] n (s32_0  x)
theorem m32_0 (n : Nat)   (x : A32_0) : MP32_0 n   x=LP32_0 n   x:=by
  refine iter_eq (s32_0 ) (r32_0 n  ) (fun rec0 x => ?_) n x
  obtain ⟨x0_0,x0_1,x0_2⟩:=x
  kernel_rfl
noncomputable def G32n (n : Nat) (a0 : List (C .e89)) (a1 : List (C .e89)) : Option (Bool) :=
 cond ((a0.length : Int) != (a1.length : Int))
 (some (false))
 (LP32_0 n    (a0,a1,0))
theorem t32 (n : Nat) (a0 : List (C .e89)) (a1 : List (C .e89)) : runFn X32 (F32 n) Try.f32 [.one (.row .e89 a0),.one (.row .e89 a1)] dec32=G32n n a0 a1:=by
  refine Eq.trans (b :=
   cond ((a0.length : Int) != (a1.length : Int))
   (some (false))
   (MP32_0 n    (a0,a1,0))) (by kernel_rfl) ?_
  simp only [G32n,m32_0]
noncomputable def G32 (a0 : List (C .e89)) (a1 : List (C .e89)) : Option (Bool):=G32n fuel a0 a1
noncomputable def con32 : Con C:=mkC KK [.row .e89,.row .e89] [.bool] G32
theorem c32 : ConOk Try.prog KK 32 con32:=cO (mkQ ⟨c72,trivial⟩ trivial trivial : Cons Try.prog X32) (fn:=Try.f32) (by kernel_rfl) (by kernel_rfl) (by kernel_rfl) (by kernel_rfl) (F32 fuel) (by kernel_rfl) (fun a0 a1=>t32 fuel a0 a1)
/-! ### f11 loop.example/wharfdesk/laws.eqStewAct -/
noncomputable def X11 : Cx C:=mkX [(32,con32)] [] [] [] 720896 []
def F11 (n : Nat) : Cf:={ N:=n,keep:=[0,1,2,3,4,9,14,19,24,29,34,40,45],live:=lk [] }
noncomputable abbrev dec11:=deR KK [.bool]
noncomputable def G11n (n : Nat) (a0 : VStewAct) (a1 : VStewAct) : Option (Bool) :=
 cond (!decide (a0.Service=a1.Service))
 (some (false))
 (cond (a0.Seen != a1.Seen)
 (some (false))
 (cond (a0.Create != a1.Create)
 (some (false))
 (cond (a0.Want != a1.Want)
 (some (false))
 (cond (a0.Cool != a1.Cool)
 (some (false))
 (cond (!(a0.Scale == a1.Scale))
 (some (false))
 (Option.bind (G32 a0.Ends a1.Ends) fun r1 =>
 cond (!r1)
 (some (false))
 (cond (!(a0.Drop == a1.Drop))
 (some (false))
 (some (true)))))))))
theorem t11 (n : Nat) (a0 : VStewAct) (a1 : VStewAct) : runFn X11 (F11 n) Try.f11 [.agg [.str a0.Service,.int .i64 a0.Seen,.int .i64 a0.Create,.int .i64 a0.Want,.int .i64 a0.Cool,.bool a0.Scale,.row .e89 a0.Ends,.bool a0.Drop],.agg [.str a1.Service,.int .i64 a1.Seen,.int .i64 a1.Create,.int .i64 a1.Want,.int .i64 a1.Cool,.bool a1.Scale,.row .e89 a1.Ends,.bool a1.Drop]] dec11=G11n n a0 a1:=by
  kernel_rfl
noncomputable def G11 (a0 : VStewAct) (a1 : VStewAct) : Option (Bool):=G11n fuel a0 a1
noncomputable def con11 : Con C:=mkC KK [.el .e42,.el .e42] [.bool] G11
theorem c11 : ConOk Try.prog KK 11 con11:=cO (mkQ ⟨c32,trivial⟩ trivial trivial : Cons Try.prog X11) (fn:=Try.f11) (by kernel_rfl) (by kernel_rfl) (by kernel_rfl) (by kernel_rfl) (F11 fuel) (by kernel_rfl) (fun a0 a1=>t11 fuel a0 a1)
/-! ### f73 loop.example/wharfdesk/laws.markText -/
noncomputable def X73 : Cx C:=mkX [] [] [] [] 4784128 []
def F73 (n : Nat) : Cf:={ N:=n,keep:=[0,2,3,5,7],live:=lk [(0,[0,3])] }
noncomputable abbrev dec73:=deR KK [.str]
abbrev A73_0 : Type:=Int×ByteArray
def s73_0  : A73_0→St C:=fun (x0_0,x0_1)=>{ env:=[(0,.one (.int .i64 x0_0)),(3,.one (.str x0_1))],objs:=[],base:=0 }
noncomputable def r73_0 (n : Nat)   (rec0 : A73_0→Option (ByteArray)) : A73_0→Option (ByteArray):=fun (x0_0,x0_1) =>
 cond (decide (x0_0>0))
 (cond (decide (10=0)) none (cond (decide ((strOf KK .e5 (([IntKind.u8.wrap (IntKind.i64.wrap (48+(x0_0.tmod 10)))] : List (C .e5)))).size+x0_1.size≤9223372036854775807)) (cond (decide (10=0)) none (rec0 ((IntKind.i64.wrap (x0_0.tdiv 10),(strOf KK .e5 (([IntKind.u8.wrap (IntKind.i64.wrap (48+(x0_0.tmod 10)))] : List (C .e5))))++x0_1)))) none))
 (cond (decide ((⟨#[109]⟩ : ByteArray).size+x0_1.size≤9223372036854775807)) (some ((⟨#[109]⟩ : ByteArray)++x0_1)) none)
noncomputable def LP73_0 (n : Nat)   (x : A73_0) : Option (ByteArray):=lpN (r73_0 n  ) n x
noncomputable def MP73_0 (n : Nat)   (x : A73_0) : Option (ByteArray):=iter (fun rec S=>run X73 (F73 n) (codeAt (bodyOf Try.f73) [1,1,1,0,0,0]) 0 S (lopK rec (blkK 0 (seqK (run X73 (F73 n) (codeAt (bodyOf Try.f73) [1,1,1,1]) 0) (kTop X73 Try.f73 dec73))))) [0,3] n (s73_0  x)
theorem m73_0 (n : Nat)   (x : A73_0) : MP73_0 n   x=LP73_0 n   x:=by
  refine iter_eq (s73_0 ) (r73_0 n  ) (fun rec0 x => ?_) n x
  obtain ⟨x0_0,x0_1⟩:=x
  kernel_rfl
noncomputable def G73n (n : Nat) (a0 : Int) : Option (ByteArray) :=
 cond (decide (a0≤0))
 (some ((⟨#[109,48]⟩ : ByteArray)))
 (LP73_0 n    ((a0,(⟨#[]⟩ : ByteArray))))
theorem t73 (n : Nat) (a0 : Int) : runFn X73 (F73 n) Try.f73 [.one (.int .i64 a0)] dec73=G73n n a0:=by
  refine Eq.trans (b :=
   cond (decide (a0≤0))
   (some ((⟨#[109,48]⟩ : ByteArray)))
   (MP73_0 n    ((a0,(⟨#[]⟩ : ByteArray))))) (by kernel_rfl) ?_
  simp only [G73n,m73_0]
noncomputable def G73 (a0 : Int) : Option (ByteArray):=G73n fuel a0
noncomputable def con73 : Con C:=mkC KK [.int .i64] [.str] G73
theorem c73 : ConOk Try.prog KK 73 con73:=cO (mkQ trivial trivial trivial : Cons Try.prog X73) (fn:=Try.f73) (by kernel_rfl) (by kernel_rfl) (by kernel_rfl) (by kernel_rfl) (F73 fuel) (by kernel_rfl) (fun a0=>t73 fuel a0)

end Go.Proofs.Ytakakoogpmhhkaa.Ab

/- The functions that the law calls,written plainly,and their contracts: each call answers what its plain function answers. No conditions. -/
set_option linter.unusedVariables false
set_option linter.unusedSimpArgs false
set_option maxRecDepth 100000
namespace Go.Proofs.Ytakakoogpmhhkaa.Ab
open Go Go.RowKit
/-! ### f33 loop.example/wharfdesk/laws.markStewServiceS -/
noncomputable def X33 : Cx C:=mkX [(73,con73)] [] [] [] 2162688 []
def F33 (n : Nat) : Cf:={ N:=n,keep:=[0,1,4,5,9],live:=lk [(0,[0,1,5])] }
noncomputable abbrev dec33:=deW KK [.e79] [.int .i64]
abbrev A33_0 : Type:=List (C .e79)×Int×Int
def s33_0  : A33_0→St C:=fun (x0_0,x0_1,x0_2)=>{ env:=[(0,.one (.ref 100000 [])),(1,.one (.int .i64 x0_1)),(5,.one (.int .i64 x0_2)),(90000,.frame),(90001,.hdr 100000 0)],objs:=[(100000,.row .e79 x0_0 false)],base:=0 }
noncomputable def r33_0 (n : Nat)   (rec0 : A33_0→Option (List (C .e79)×Int)) : A33_0→Option (List (C .e79)×Int):=fun (x0_0,x0_1,x0_2) =>
 cond (decide (x0_2<(x0_0.length : Int)))
 (Option.bind (G73 x0_1) fun r1 =>
 cond (decide (0≤x0_2)) (cond (decide (x0_2<(x0_0.length : Int))) (Option.bind x0_0[x0_2.toNat]? fun e2=>cond (decide (0≤x0_2)) (cond (decide (x0_2<((x0_0.set x0_2.toNat (⟨r1,e2.Version,e2.Gone,e2.Image,e2.Want,e2.Down,e2.Over,e2.Next,e2.Per,e2.Least,e2.Most,e2.Load,e2.Cool⟩ : VStewService)).length : Int))) (Option.bind (x0_0.set x0_2.toNat (⟨r1,e2.Version,e2.Gone,e2.Image,e2.Want,e2.Down,e2.Over,e2.Next,e2.Per,e2.Least,e2.Most,e2.Load,e2.Cool⟩ : VStewService))[x0_2.toNat]? fun e3=>cond (decide (3=0)) none (cond (decide (0≤x0_2)) (cond (decide (x0_2<(((x0_0.set x0_2.toNat (⟨r1,e2.Version,e2.Gone,e2.Image,e2.Want,e2.Down,e2.Over,e2.Next,e2.Per,e2.Least,e2.Most,e2.Load,e2.Cool⟩ : VStewService)).set x0_2.toNat ((⟨e3.Name,IntKind.i64.wrap (x0_1+1),e3.Gone,e3.Image,e3.Want,e3.Down,e3.Over,e3.Next,e3.Per,e3.Least,e3.Most,e3.Load,e3.Cool⟩ : VStewService))).length : Int))) (Option.bind ((x0_0.set x0_2.toNat (⟨r1,e2.Version,e2.Gone,e2.Image,e2.Want,e2.Down,e2.Over,e2.Next,e2.Per,e2.Least,e2.Most,e2.Load,e2.Cool⟩ : VStewService)).set x0_2.toNat ((⟨e3.Name,IntKind.i64.wrap (x0_1+1),e3.Gone,e3.Image,e3.Want,e3.Down,e3.Over,e3.Next,e3.Per,e3.Least,e3.Most,e3.Load,e3.Cool⟩ : VStewService)))[x0_2.toNat]? fun e4=>cond (decide (0≤x0_2)) (cond (decide (x0_2<((((x0_0.set x0_2.toNat (⟨r1,e2.Version,e2.Gone,e2.Image,e2.Want,e2.Down,e2.Over,e2.Next,e2.Per,e2.Least,e2.Most,e2.Load,e2.Cool⟩ : VStewService)).set x0_2.toNat ((⟨e3.Name,IntKind.i64.wrap (x0_1+1),e3.Gone,e3.Image,e3.Want,e3.Down,e3.Over,e3.Next,e3.Per,e3.Least,e3.Most,e3.Load,e3.Cool⟩ : VStewService))).set x0_2.toNat ((⟨e4.Name,e4.Version,((IntKind.i64.wrap ((IntKind.i64.wrap (x0_1+1))+1)).tmod 3) == 0,e4.Image,e4.Want,e4.Down,e4.Over,e4.Next,e4.Per,e4.Least,e4.Most,e4.Load,e4.Cool⟩ : VStewService))).length : Int))) (Option.bind (((x0_0.set x0_2.toNat (⟨r1,e2.Version,e2.Gone,e2.Image,e2.Want,e2.Down,e2.Over,e2.Next,e2.Per,e2.Least,e2.Most,e2.Load,e2.Cool⟩ : VStewService)).set x0_2.toNat ((⟨e3.Name,IntKind.i64.wrap (x0_1+1),e3.Gone,e3.Image,e3.Want,e3.Down,e3.Over,e3.Next,e3.Per,e3.Least,e3.Most,e3.Load,e3.Cool⟩ : VStewService))).set x0_2.toNat ((⟨e4.Name,e4.Version,((IntKind.i64.wrap ((IntKind.i64.wrap (x0_1+1))+1)).tmod 3) == 0,e4.Image,e4.Want,e4.Down,e4.Over,e4.Next,e4.Per,e4.Least,e4.Most,e4.Load,e4.Cool⟩ : VStewService)))[x0_2.toNat]? fun e5=>cond (decide (0≤x0_2)) (cond (decide (x0_2<(((((x0_0.set x0_2.toNat (⟨r1,e2.Version,e2.Gone,e2.Image,e2.Want,e2.Down,e2.Over,e2.Next,e2.Per,e2.Least,e2.Most,e2.Load,e2.Cool⟩ : VStewService)).set x0_2.toNat ((⟨e3.Name,IntKind.i64.wrap (x0_1+1),e3.Gone,e3.Image,e3.Want,e3.Down,e3.Over,e3.Next,e3.Per,e3.Least,e3.Most,e3.Load,e3.Cool⟩ : VStewService))).set x0_2.toNat ((⟨e4.Name,e4.Version,((IntKind.i64.wrap ((IntKind.i64.wrap (x0_1+1))+1)).tmod 3) == 0,e4.Image,e4.Want,e4.Down,e4.Over,e4.Next,e4.Per,e4.Least,e4.Most,e4.Load,e4.Cool⟩ : VStewService))).set x0_2.toNat ((⟨e5.Name,e5.Version,e5.Gone,IntKind.i64.wrap ((IntKind.i64.wrap ((IntKind.i64.wrap (x0_1+1))+1))+1),e5.Want,e5.Down,e5.Over,e5.Next,e5.Per,e5.Least,e5.Most,e5.Load,e5.Cool⟩ : VStewService))).length : Int))) (Option.bind ((((x0_0.set x0_2.toNat (⟨r1,e2.Version,e2.Gone,e2.Image,e2.Want,e2.Down,e2.Over,e2.Next,e2.Per,e2.Least,e2.Most,e2.Load,e2.Cool⟩ : VStewService)).set x0_2.toNat ((⟨e3.Name,IntKind.i64.wrap (x0_1+1),e3.Gone,e3.Image,e3.Want,e3.Down,e3.Over,e3.Next,e3.Per,e3.Least,e3.Most,e3.Load,e3.Cool⟩ : VStewService))).set x0_2.toNat ((⟨e4.Name,e4.Version,((IntKind.i64.wrap ((IntKind.i64.wrap (x0_1+1))+1)).tmod 3) == 0,e4.Image,e4.Want,e4.Down,e4.Over,e4.Next,e4.Per,e4.Least,e4.Most,e4.Load,e4.Cool⟩ : VStewService))).set x0_2.toNat ((⟨e5.Name,e5.Version,e5.Gone,IntKind.i64.wrap ((IntKind.i64.wrap ((IntKind.i64.wrap (x0_1+1))+1))+1),e5.Want,e5.Down,e5.Over,e5.Next,e5.Per,e5.Least,e5.Most,e5.Load,e5.Cool⟩ : VStewService)))[x0_2.toNat]? fun e6=>cond (decide (0≤x0_2)) (cond (decide (x0_2<((((((x0_0.set x0_2.toNat (⟨r1,e2.Version,e2.Gone,e2.Image,e2.Want,e2.Down,e2.Over,e2.Next,e2.Per,e2.Least,e2.Most,e2.Load,e2.Cool⟩ : VStewService)).set x0_2.toNat ((⟨e3.Name,IntKind.i64.wrap (x0_1+1),e3.Gone,e3.Image,e3.Want,e3.Down,e3.Over,e3.Next,e3.Per,e3.Least,e3.Most,e3.Load,e3.Cool⟩ : VStewService))).set x0_2.toNat ((⟨e4.Name,e4.Version,((IntKind.i64.wrap ((IntKind.i64.wrap (x0_1+1))+1)).tmod 3) == 0,e4.Image,e4.Want,e4.Down,e4.Over,e4.Next,e4.Per,e4.Least,e4.Most,e4.Load,e4.Cool⟩ : VStewService))).set x0_2.toNat ((⟨e5.Name,e5.Version,e5.Gone,IntKind.i64.wrap ((IntKind.i64.wrap ((IntKind.i64.wrap (x0_1+1))+1))+1),e5.Want,e5.Down,e5.Over,e5.Next,e5.Per,e5.Least,e5.Most,e5.Load,e5.Cool⟩ : VStewService))).set x0_2.toNat ((⟨e6.Name,e6.Version,e6.Gone,e6.Image,IntKind.i64.wrap ((IntKind.i64.wrap ((IntKind.i64.wrap ((IntKind.i64.wrap (x0_1+1))+1))+1))+1),e6.Down,e6.Over,e6.Next,e6.Per,e6.Least,e6.Most,e6.Load,e6.Cool⟩ : VStewService))).length : Int))) (Option.bind (((((x0_0.set x0_2.toNat (⟨r1,e2.Version,e2.Gone,e2.Image,e2.Want,e2.Down,e2.Over,e2.Next,e2.Per,e2.Least,e2.Most,e2.Load,e2.Cool⟩ : VStewService)).set x0_2.toNat ((⟨e3.Name,IntKind.i64.wrap (x0_1+1),e3.Gone,e3.Image,e3.Want,e3.Down,e3.Over,e3.Next,e3.Per,e3.Least,e3.Most,e3.Load,e3.Cool⟩ : VStewService))).set x0_2.toNat ((⟨e4.Name,e4.Version,((IntKind.i64.wrap ((IntKind.i64.wrap (x0_1+1))+1)).tmod 3) == 0,e4.Image,e4.Want,e4.Down,e4.Over,e4.Next,e4.Per,e4.Least,e4.Most,e4.Load,e4.Cool⟩ : VStewService))).set x0_2.toNat ((⟨e5.Name,e5.Version,e5.Gone,IntKind.i64.wrap ((IntKind.i64.wrap ((IntKind.i64.wrap (x0_1+1))+1))+1),e5.Want,e5.Down,e5.Over,e5.Next,e5.Per,e5.Least,e5.Most,e5.Load,e5.Cool⟩ : VStewService))).set x0_2.toNat ((⟨e6.Name,e6.Version,e6.Gone,e6.Image,IntKind.i64.wrap ((IntKind.i64.wrap ((IntKind.i64.wrap ((IntKind.i64.wrap (x0_1+1))+1))+1))+1),e6.Down,e6.Over,e6.Next,e6.Per,e6.Least,e6.Most,e6.Load,e6.Cool⟩ : VStewService)))[x0_2.toNat]? fun e7=>cond (decide (0≤x0_2)) (cond (decide (x0_2<(((((((x0_0.set x0_2.toNat (⟨r1,e2.Version,e2.Gone,e2.Image,e2.Want,e2.Down,e2.Over,e2.Next,e2.Per,e2.Least,e2.Most,e2.Load,e2.Cool⟩ : VStewService)).set x0_2.toNat ((⟨e3.Name,IntKind.i64.wrap (x0_1+1),e3.Gone,e3.Image,e3.Want,e3.Down,e3.Over,e3.Next,e3.Per,e3.Least,e3.Most,e3.Load,e3.Cool⟩ : VStewService))).set x0_2.toNat ((⟨e4.Name,e4.Version,((IntKind.i64.wrap ((IntKind.i64.wrap (x0_1+1))+1)).tmod 3) == 0,e4.Image,e4.Want,e4.Down,e4.Over,e4.Next,e4.Per,e4.Least,e4.Most,e4.Load,e4.Cool⟩ : VStewService))).set x0_2.toNat ((⟨e5.Name,e5.Version,e5.Gone,IntKind.i64.wrap ((IntKind.i64.wrap ((IntKind.i64.wrap (x0_1+1))+1))+1),e5.Want,e5.Down,e5.Over,e5.Next,e5.Per,e5.Least,e5.Most,e5.Load,e5.Cool⟩ : VStewService))).set x0_2.toNat ((⟨e6.Name,e6.Version,e6.Gone,e6.Image,IntKind.i64.wrap ((IntKind.i64.wrap ((IntKind.i64.wrap ((IntKind.i64.wrap (x0_1+1))+1))+1))+1),e6.Down,e6.Over,e6.Next,e6.Per,e6.Least,e6.Most,e6.Load,e6.Cool⟩ : VStewService))).set x0_2.toNat ((⟨e7.Name,e7.Version,e7.Gone,e7.Image,e7.Want,IntKind.i64.wrap ((IntKind.i64.wrap ((IntKind.i64.wrap ((IntKind.i64.wrap ((IntKind.i64.wrap (x0_1+1))+1))+1))+1))+1),e7.Over,e7.Next,e7.Per,e7.Least,e7.Most,e7.Load,e7.Cool⟩ : VStewService))).length : Int))) (Option.bind ((((((x0_0.set x0_2.toNat (⟨r1,e2.Version,e2.Gone,e2.Image,e2.Want,e2.Down,e2.Over,e2.Next,e2.Per,e2.Least,e2.Most,e2.Load,e2.Cool⟩ : VStewService)).set x0_2.toNat ((⟨e3.Name,IntKind.i64.wrap (x0_1+1),e3.Gone,e3.Image,e3.Want,e3.Down,e3.Over,e3.Next,e3.Per,e3.Least,e3.Most,e3.Load,e3.Cool⟩ : VStewService))).set x0_2.toNat ((⟨e4.Name,e4.Version,((IntKind.i64.wrap ((IntKind.i64.wrap (x0_1+1))+1)).tmod 3) == 0,e4.Image,e4.Want,e4.Down,e4.Over,e4.Next,e4.Per,e4.Least,e4.Most,e4.Load,e4.Cool⟩ : VStewService))).set x0_2.toNat ((⟨e5.Name,e5.Version,e5.Gone,IntKind.i64.wrap ((IntKind.i64.wrap ((IntKind.i64.wrap (x0_1+1))+1))+1),e5.Want,e5.Down,e5.Over,e5.Next,e5.Per,e5.Least,e5.Most,e5.Load,e5.Cool⟩ : VStewService))).set x0_2.toNat ((⟨e6.Name,e6.Version,e6.Gone,e6.Image,IntKind.i64.wrap ((IntKind.i64.wrap ((IntKind.i64.wrap ((IntKind.i64.wrap (x0_1+1))+1))+1))+1),e6.Down,e6.Over,e6.Next,e6.Per,e6.Least,e6.Most,e6.Load,e6.Cool⟩ : VStewService))).set x0_2.toNat ((⟨e7.Name,e7.Version,e7.Gone,e7.Image,e7.Want,IntKind.i64.wrap ((IntKind.i64.wrap ((IntKind.i64.wrap ((IntKind.i64.wrap ((IntKind.i64.wrap (x0_1+1))+1))+1))+1))+1),e7.Over,e7.Next,e7.Per,e7.Least,e7.Most,e7.Load,e7.Cool⟩ : VStewService)))[x0_2.toNat]? fun e8=>cond (decide (0≤x0_2)) (cond (decide (x0_2<((((((((x0_0.set x0_2.toNat (⟨r1,e2.Version,e2.Gone,e2.Image,e2.Want,e2.Down,e2.Over,e2.Next,e2.Per,e2.Least,e2.Most,e2.Load,e2.Cool⟩ : VStewService)).set x0_2.toNat ((⟨e3.Name,IntKind.i64.wrap (x0_1+1),e3.Gone,e3.Image,e3.Want,e3.Down,e3.Over,e3.Next,e3.Per,e3.Least,e3.Most,e3.Load,e3.Cool⟩ : VStewService))).set x0_2.toNat ((⟨e4.Name,e4.Version,((IntKind.i64.wrap ((IntKind.i64.wrap (x0_1+1))+1)).tmod 3) == 0,e4.Image,e4.Want,e4.Down,e4.Over,e4.Next,e4.Per,e4.Least,e4.Most,e4.Load,e4.Cool⟩ : VStewService))).set x0_2.toNat ((⟨e5.Name,e5.Version,e5.Gone,IntKind.i64.wrap ((IntKind.i64.wrap ((IntKind.i64.wrap (x0_1+1))+1))+1),e5.Want,e5.Down,e5.Over,e5.Next,e5.Per,e5.Least,e5.Most,e5.Load,e5.Cool⟩ : VStewService))).set x0_2.toNat ((⟨e6.Name,e6.Version,e6.Gone,e6.Image,IntKind.i64.wrap ((IntKind.i64.wrap ((IntKind.i64.wrap ((IntKind.i64.wrap (x0_1+1))+1))+1))+1),e6.Down,e6.Over,e6.Next,e6.Per,e6.Least,e6.Most,e6.Load,e6.Cool⟩ : VStewService))).set x0_2.toNat ((⟨e7.Name,e7.Version,e7.Gone,e7.Image,e7.Want,IntKind.i64.wrap ((IntKind.i64.wrap ((IntKind.i64.wrap ((IntKind.i64.wrap ((IntKind.i64.wrap (x0_1+1))+1))+1))+1))+1),e7.Over,e7.Next,e7.Per,e7.Least,e7.Most,e7.Load,e7.Cool⟩ : VStewService))).set x0_2.toNat ((⟨e8.Name,e8.Version,e8.Gone,e8.Image,e8.Want,e8.Down,IntKind.i64.wrap ((IntKind.i64.wrap ((IntKind.i64.wrap ((IntKind.i64.wrap ((IntKind.i64.wrap ((IntKind.i64.wrap (x0_1+1))+1))+1))+1))+1))+1),e8.Next,e8.Per,e8.Least,e8.Most,e8.Load,e8.Cool⟩ : VStewService))).length : Int))) (Option.bind (((((((x0_0.set x0_2.toNat (⟨r1,e2.Version,e2.Gone,e2.Image,e2.Want,e2.Down,e2.Over,e2.Next,e2.Per,e2.Least,e2.Most,e2.Load,e2.Cool⟩ : VStewService)).set x0_2.toNat ((⟨e3.Name,IntKind.i64.wrap (x0_1+1),e3.Gone,e3.Image,e3.Want,e3.Down,e3.Over,e3.Next,e3.Per,e3.Least,e3.Most,e3.Load,e3.Cool⟩ : VStewService))).set x0_2.toNat ((⟨e4.Name,e4.Version,((IntKind.i64.wrap ((IntKind.i64.wrap (x0_1+1))+1)).tmod 3) == 0,e4.Image,e4.Want,e4.Down,e4.Over,e4.Next,e4.Per,e4.Least,e4.Most,e4.Load,e4.Cool⟩ : VStewService))).set x0_2.toNat ((⟨e5.Name,e5.Version,e5.Gone,IntKind.i64.wrap ((IntKind.i64.wrap ((IntKind.i64.wrap (x0_1+1))+1))+1),e5.Want,e5.Down,e5.Over,e5.Next,e5.Per,e5.Least,e5.Most,e5.Load,e5.Cool⟩ : VStewService))).set x0_2.toNat ((⟨e6.Name,e6.Version,e6.Gone,e6.Image,IntKind.i64.wrap ((IntKind.i64.wrap ((IntKind.i64.wrap ((IntKind.i64.wrap (x0_1+1))+1))+1))+1),e6.Down,e6.Over,e6.Next,e6.Per,e6.Least,e6.Most,e6.Load,e6.Cool⟩ : VStewService))).set x0_2.toNat ((⟨e7.Name,e7.Version,e7.Gone,e7.Image,e7.Want,IntKind.i64.wrap ((IntKind.i64.wrap ((IntKind.i64.wrap ((IntKind.i64.wrap ((IntKind.i64.wrap (x0_1+1))+1))+1))+1))+1),e7.Over,e7.Next,e7.Per,e7.Least,e7.Most,e7.Load,e7.Cool⟩ : VStewService))).set x0_2.toNat ((⟨e8.Name,e8.Version,e8.Gone,e8.Image,e8.Want,e8.Down,IntKind.i64.wrap ((IntKind.i64.wrap ((IntKind.i64.wrap ((IntKind.i64.wrap ((IntKind.i64.wrap ((IntKind.i64.wrap (x0_1+1))+1))+1))+1))+1))+1),e8.Next,e8.Per,e8.Least,e8.Most,e8.Load,e8.Cool⟩ : VStewService)))[x0_2.toNat]? fun e9=>cond (decide (0≤x0_2)) (cond (decide (x0_2<(((((((((x0_0.set x0_2.toNat (⟨r1,e2.Version,e2.Gone,e2.Image,e2.Want,e2.Down,e2.Over,e2.Next,e2.Per,e2.Least,e2.Most,e2.Load,e2.Cool⟩ : VStewService)).set x0_2.toNat ((⟨e3.Name,IntKind.i64.wrap (x0_1+1),e3.Gone,e3.Image,e3.Want,e3.Down,e3.Over,e3.Next,e3.Per,e3.Least,e3.Most,e3.Load,e3.Cool⟩ : VStewService))).set x0_2.toNat ((⟨e4.Name,e4.Version,((IntKind.i64.wrap ((IntKind.i64.wrap (x0_1+1))+1)).tmod 3) == 0,e4.Image,e4.Want,e4.Down,e4.Over,e4.Next,e4.Per,e4.Least,e4.Most,e4.Load,e4.Cool⟩ : VStewService))).set x0_2.toNat ((⟨e5.Name,e5.Version,e5.Gone,IntKind.i64.wrap ((IntKind.i64.wrap ((IntKind.i64.wrap (x0_1+1))+1))+1),e5.Want,e5.Down,e5.Over,e5.Next,e5.Per,e5.Least,e5.Most,e5.Load,e5.Cool⟩ : VStewService))).set x0_2.toNat ((⟨e6.Name,e6.Version,e6.Gone,e6.Image,IntKind.i64.wrap ((IntKind.i64.wrap ((IntKind.i64.wrap ((IntKind.i64.wrap (x0_1+1))+1))+1))+1),e6.Down,e6.Over,e6.Next,e6.Per,e6.Least,e6.Most,e6.Load,e6.Cool⟩ : VStewService))).set x0_2.toNat ((⟨e7.Name,e7.Version,e7.Gone,e7.Image,e7.Want,IntKind.i64.wrap ((IntKind.i64.wrap ((IntKind.i64.wrap ((IntKind.i64.wrap ((IntKind.i64.wrap (x0_1+1))+1))+1))+1))+1),e7.Over,e7.Next,e7.Per,e7.Least,e7.Most,e7.Load,e7.Cool⟩ : VStewService))).set x0_2.toNat ((⟨e8.Name,e8.Version,e8.Gone,e8.Image,e8.Want,e8.Down,IntKind.i64.wrap ((IntKind.i64.wrap ((IntKind.i64.wrap ((IntKind.i64.wrap ((IntKind.i64.wrap ((IntKind.i64.wrap (x0_1+1))+1))+1))+1))+1))+1),e8.Next,e8.Per,e8.Least,e8.Most,e8.Load,e8.Cool⟩ : VStewService))).set x0_2.toNat ((⟨e9.Name,e9.Version,e9.Gone,e9.Image,e9.Want,e9.Down,e9.Over,IntKind.i64.wrap ((IntKind.i64.wrap ((IntKind.i64.wrap ((IntKind.i64.wrap ((IntKind.i64.wrap ((IntKind.i64.wrap ((IntKind.i64.wrap (x0_1+1))+1))+1))+1))+1))+1))+1),e9.Per,e9.Least,e9.Most,e9.Load,e9.Cool⟩ : VStewService))).length : Int))) (Option.bind ((((((((x0_0.set x0_2.toNat (⟨r1,e2.Version,e2.Gone,e2.Image,e2.Want,e2.Down,e2.Over,e2.Next,e2.Per,e2.Least,e2.Most,e2.Load,e2.Cool⟩ : VStewService)).set x0_2.toNat ((⟨e3.Name,IntKind.i64.wrap (x0_1+1),e3.Gone,e3.Image,e3.Want,e3.Down,e3.Over,e3.Next,e3.Per,e3.Least,e3.Most,e3.Load,e3.Cool⟩ : VStewService))).set x0_2.toNat ((⟨e4.Name,e4.Version,((IntKind.i64.wrap ((IntKind.i64.wrap (x0_1+1))+1)).tmod 3) == 0,e4.Image,e4.Want,e4.Down,e4.Over,e4.Next,e4.Per,e4.Least,e4.Most,e4.Load,e4.Cool⟩ : VStewService))).set x0_2.toNat ((⟨e5.Name,e5.Version,e5.Gone,IntKind.i64.wrap ((IntKind.i64.wrap ((IntKind.i64.wrap (x0_1+1))+1))+1),e5.Want,e5.Down,e5.Over,e5.Next,e5.Per,e5.Least,e5.Most,e5.Load,e5.Cool⟩ : VStewService))).set x0_2.toNat ((⟨e6.Name,e6.Version,e6.Gone,e6.Image,IntKind.i64.wrap ((IntKind.i64.wrap ((IntKind.i64.wrap ((IntKind.i64.wrap (x0_1+1))+1))+1))+1),e6.Down,e6.Over,e6.Next,e6.Per,e6.Least,e6.Most,e6.Load,e6.Cool⟩ : VStewService))).set x0_2.toNat ((⟨e7.Name,e7.Version,e7.Gone,e7.Image,e7.Want,IntKind.i64.wrap ((IntKind.i64.wrap ((IntKind.i64.wrap ((IntKind.i64.wrap ((IntKind.i64.wrap (x0_1+1))+1))+1))+1))+1),e7.Over,e7.Next,e7.Per,e7.Least,e7.Most,e7.Load,e7.Cool⟩ : VStewService))).set x0_2.toNat ((⟨e8.Name,e8.Version,e8.Gone,e8.Image,e8.Want,e8.Down,IntKind.i64.wrap ((IntKind.i64.wrap ((IntKind.i64.wrap ((IntKind.i64.wrap ((IntKind.i64.wrap ((IntKind.i64.wrap (x0_1+1))+1))+1))+1))+1))+1),e8.Next,e8.Per,e8.Least,e8.Most,e8.Load,e8.Cool⟩ : VStewService))).set x0_2.toNat ((⟨e9.Name,e9.Version,e9.Gone,e9.Image,e9.Want,e9.Down,e9.Over,IntKind.i64.wrap ((IntKind.i64.wrap ((IntKind.i64.wrap ((IntKind.i64.wrap ((IntKind.i64.wrap ((IntKind.i64.wrap ((IntKind.i64.wrap (x0_1+1))+1))+1))+1))+1))+1))+1),e9.Per,e9.Least,e9.Most,e9.Load,e9.Cool⟩ : VStewService)))[x0_2.toNat]? fun e10=>cond (decide (0≤x0_2)) (cond (decide (x0_2<((((((((((x0_0.set x0_2.toNat (⟨r1,e2.Version,e2.Gone,e2.Image,e2.Want,e2.Down,e2.Over,e2.Next,e2.Per,e2.Least,e2.Most,e2.Load,e2.Cool⟩ : VStewService)).set x0_2.toNat ((⟨e3.Name,IntKind.i64.wrap (x0_1+1),e3.Gone,e3.Image,e3.Want,e3.Down,e3.Over,e3.Next,e3.Per,e3.Least,e3.Most,e3.Load,e3.Cool⟩ : VStewService))).set x0_2.toNat ((⟨e4.Name,e4.Version,((IntKind.i64.wrap ((IntKind.i64.wrap (x0_1+1))+1)).tmod 3) == 0,e4.Image,e4.Want,e4.Down,e4.Over,e4.Next,e4.Per,e4.Least,e4.Most,e4.Load,e4.Cool⟩ : VStewService))).set x0_2.toNat ((⟨e5.Name,e5.Version,e5.Gone,IntKind.i64.wrap ((IntKind.i64.wrap ((IntKind.i64.wrap (x0_1+1))+1))+1),e5.Want,e5.Down,e5.Over,e5.Next,e5.Per,e5.Least,e5.Most,e5.Load,e5.Cool⟩ : VStewService))).set x0_2.toNat ((⟨e6.Name,e6.Version,e6.Gone,e6.Image,IntKind.i64.wrap ((IntKind.i64.wrap ((IntKind.i64.wrap ((IntKind.i64.wrap (x0_1+1))+1))+1))+1),e6.Down,e6.Over,e6.Next,e6.Per,e6.Least,e6.Most,e6.Load,e6.Cool⟩ : VStewService))).set x0_2.toNat ((⟨e7.Name,e7.Version,e7.Gone,e7.Image,e7.Want,IntKind.i64.wrap ((IntKind.i64.wrap ((IntKind.i64.wrap ((IntKind.i64.wrap ((IntKind.i64.wrap (x0_1+1))+1))+1))+1))+1),e7.Over,e7.Next,e7.Per,e7.Least,e7.Most,e7.Load,e7.Cool⟩ : VStewService))).set x0_2.toNat ((⟨e8.Name,e8.Version,e8.Gone,e8.Image,e8.Want,e8.Down,IntKind.i64.wrap ((IntKind.i64.wrap ((IntKind.i64.wrap ((IntKind.i64.wrap ((IntKind.i64.wrap ((IntKind.i64.wrap (x0_1+1))+1))+1))+1))+1))+1),e8.Next,e8.Per,e8.Least,e8.Most,e8.Load,e8.Cool⟩ : VStewService))).set x0_2.toNat ((⟨e9.Name,e9.Version,e9.Gone,e9.Image,e9.Want,e9.Down,e9.Over,IntKind.i64.wrap ((IntKind.i64.wrap ((IntKind.i64.wrap ((IntKind.i64.wrap ((IntKind.i64.wrap ((IntKind.i64.wrap ((IntKind.i64.wrap (x0_1+1))+1))+1))+1))+1))+1))+1),e9.Per,e9.Least,e9.Most,e9.Load,e9.Cool⟩ : VStewService))).set x0_2.toNat ((⟨e10.Name,e10.Version,e10.Gone,e10.Image,e10.Want,e10.Down,e10.Over,e10.Next,IntKind.i64.wrap ((IntKind.i64.wrap ((IntKind.i64.wrap ((IntKind.i64.wrap ((IntKind.i64.wrap ((IntKind.i64.wrap ((IntKind.i64.wrap ((IntKind.i64.wrap (x0_1+1))+1))+1))+1))+1))+1))+1))+1),e10.Least,e10.Most,e10.Load,e10.Cool⟩ : VStewService))).length : Int))) (Option.bind (((((((((x0_0.set x0_2.toNat (⟨r1,e2.Version,e2.Gone,e2.Image,e2.Want,e2.Down,e2.Over,e2.Next,e2.Per,e2.Least,e2.Most,e2.Load,e2.Cool⟩ : VStewService)).set x0_2.toNat ((⟨e3.Name,IntKind.i64.wrap (x0_1+1),e3.Gone,e3.Image,e3.Want,e3.Down,e3.Over,e3.Next,e3.Per,e3.Least,e3.Most,e3.Load,e3.Cool⟩ : VStewService))).set x0_2.toNat ((⟨e4.Name,e4.Version,((IntKind.i64.wrap ((IntKind.i64.wrap (x0_1+1))+1)).tmod 3) == 0,e4.Image,e4.Want,e4.Down,e4.Over,e4.Next,e4.Per,e4.Least,e4.Most,e4.Load,e4.Cool⟩ : VStewService))).set x0_2.toNat ((⟨e5.Name,e5.Version,e5.Gone,IntKind.i64.wrap ((IntKind.i64.wrap ((IntKind.i64.wrap (x0_1+1))+1))+1),e5.Want,e5.Down,e5.Over,e5.Next,e5.Per,e5.Least,e5.Most,e5.Load,e5.Cool⟩ : VStewService))).set x0_2.toNat ((⟨e6.Name,e6.Version,e6.Gone,e6.Image,IntKind.i64.wrap ((IntKind.i64.wrap ((IntKind.i64.wrap ((IntKind.i64.wrap (x0_1+1))+1))+1))+1),e6.Down,e6.Over,e6.Next,e6.Per,e6.Least,e6.Most,e6.Load,e6.Cool⟩ : VStewService))).set x0_2.toNat ((⟨e7.Name,e7.Version,e7.Gone,e7.Image,e7.Want,IntKind.i64.wrap ((IntKind.i64.wrap ((IntKind.i64.wrap ((IntKind.i64.wrap ((IntKind.i64.wrap (x0_1+1))+1))+1))+1))+1),e7.Over,e7.Next,e7.Per,e7.Least,e7.Most,e7.Load,e7.Cool⟩ : VStewService))).set x0_2.toNat ((⟨e8.Name,e8.Version,e8.Gone,e8.Image,e8.Want,e8.Down,IntKind.i64.wrap ((IntKind.i64.wrap ((IntKind.i64.wrap ((IntKind.i64.wrap ((IntKind.i64.wrap ((IntKind.i64.wrap (x0_1+1))+1))+1))+1))+1))+1),e8.Next,e8.Per,e8.Least,e8.Most,e8.Load,e8.Cool⟩ : VStewService))).set x0_2.toNat ((⟨e9.Name,e9.Version,e9.Gone,e9.Image,e9.Want,e9.Down,e9.Over,IntKind.i64.wrap ((IntKind.i64.wrap ((IntKind.i64.wrap ((IntKind.i64.wrap ((IntKind.i64.wrap ((IntKind.i64.wrap ((IntKind.i64.wrap (x0_1+1))+1))+1))+1))+1))+1))+1),e9.Per,e9.Least,e9.Most,e9.Load,e9.Cool⟩ : VStewService))).set x0_2.toNat ((⟨e10.Name,e10.Version,e10.Gone,e10.Image,e10.Want,e10.Down,e10.Over,e10.Next,IntKind.i64.wrap ((IntKind.i64.wrap ((IntKind.i64.wrap ((IntKind.i64.wrap ((IntKind.i64.wrap ((IntKind.i64.wrap ((IntKind.i64.wrap ((IntKind.i64.wrap (x0_1+1))+1))+1))+1))+1))+1))+1))+1),e10.Least,e10.Most,e10.Load,e10.Cool⟩ : VStewService)))[x0_2.toNat]? fun e11=>cond (decide (0≤x0_2)) (cond (decide (x0_2<(((((((((((x0_0.set x0_2.toNat (⟨r1,e2.Version,e2.Gone,e2.Image,e2.Want,e2.Down,e2.Over,e2.Next,e2.Per,e2.Least,e2.Most,e2.Load,e2.Cool⟩ : VStewService)).set x0_2.toNat ((⟨e3.Name,IntKind.i64.wrap (x0_1+1),e3.Gone,e3.Image,e3.Want,e3.Down,e3.Over,e3.Next,e3.Per,e3.Least,e3.Most,e3.Load,e3.Cool⟩ : VStewService))).set x0_2.toNat ((⟨e4.Name,e4.Version,((IntKind.i64.wrap ((IntKind.i64.wrap (x0_1+1))+1)).tmod 3) == 0,e4.Image,e4.Want,e4.Down,e4.Over,e4.Next,e4.Per,e4.Least,e4.Most,e4.Load,e4.Cool⟩ : VStewService))).set x0_2.toNat ((⟨e5.Name,e5.Version,e5.Gone,IntKind.i64.wrap ((IntKind.i64.wrap ((IntKind.i64.wrap (x0_1+1))+1))+1),e5.Want,e5.Down,e5.Over,e5.Next,e5.Per,e5.Least,e5.Most,e5.Load,e5.Cool⟩ : VStewService))).set x0_2.toNat ((⟨e6.Name,e6.Version,e6.Gone,e6.Image,IntKind.i64.wrap ((IntKind.i64.wrap ((IntKind.i64.wrap ((IntKind.i64.wrap (x0_1+1))+1))+1))+1),e6.Down,e6.Over,e6.Next,e6.Per,e6.Least,e6.Most,e6.Load,e6.Cool⟩ : VStewService))).set x0_2.toNat ((⟨e7.Name,e7.Version,e7.Gone,e7.Image,e7.Want,IntKind.i64.wrap ((IntKind.i64.wrap ((IntKind.i64.wrap ((IntKind.i64.wrap ((IntKind.i64.wrap (x0_1+1))+1))+1))+1))+1),e7.Over,e7.Next,e7.Per,e7.Least,e7.Most,e7.Load,e7.Cool⟩ : VStewService))).set x0_2.toNat ((⟨e8.Name,e8.Version,e8.Gone,e8.Image,e8.Want,e8.Down,IntKind.i64.wrap ((IntKind.i64.wrap ((IntKind.i64.wrap ((IntKind.i64.wrap ((IntKind.i64.wrap ((IntKind.i64.wrap (x0_1+1))+1))+1))+1))+1))+1),e8.Next,e8.Per,e8.Least,e8.Most,e8.Load,e8.Cool⟩ : VStewService))).set x0_2.toNat ((⟨e9.Name,e9.Version,e9.Gone,e9.Image,e9.Want,e9.Down,e9.Over,IntKind.i64.wrap ((IntKind.i64.wrap ((IntKind.i64.wrap ((IntKind.i64.wrap ((IntKind.i64.wrap ((IntKind.i64.wrap ((IntKind.i64.wrap (x0_1+1))+1))+1))+1))+1))+1))+1),e9.Per,e9.Least,e9.Most,e9.Load,e9.Cool⟩ : VStewService))).set x0_2.toNat ((⟨e10.Name,e10.Version,e10.Gone,e10.Image,e10.Want,e10.Down,e10.Over,e10.Next,IntKind.i64.wrap ((IntKind.i64.wrap ((IntKind.i64.wrap ((IntKind.i64.wrap ((IntKind.i64.wrap ((IntKind.i64.wrap ((IntKind.i64.wrap ((IntKind.i64.wrap (x0_1+1))+1))+1))+1))+1))+1))+1))+1),e10.Least,e10.Most,e10.Load,e10.Cool⟩ : VStewService))).set x0_2.toNat ((⟨e11.Name,e11.Version,e11.Gone,e11.Image,e11.Want,e11.Down,e11.Over,e11.Next,e11.Per,IntKind.i64.wrap ((IntKind.i64.wrap ((IntKind.i64.wrap ((IntKind.i64.wrap ((IntKind.i64.wrap ((IntKind.i64.wrap ((IntKind.i64.wrap ((IntKind.i64.wrap ((IntKind.i64.wrap (x0_1+1))+1))+1))+1))+1))+1))+1))+1))+1),e11.Most,e11.Load,e11.Cool⟩ : VStewService))).length : Int))) (Option.bind ((((((((((x0_0.set x0_2.toNat (⟨r1,e2.Version,e2.Gone,e2.Image,e2.Want,e2.Down,e2.Over,e2.Next,e2.Per,e2.Least,e2.Most,e2.Load,e2.Cool⟩ : VStewService)).set x0_2.toNat ((⟨e3.Name,IntKind.i64.wrap (x0_1+1),e3.Gone,e3.Image,e3.Want,e3.Down,e3.Over,e3.Next,e3.Per,e3.Least,e3.Most,e3.Load,e3.Cool⟩ : VStewService))).set x0_2.toNat ((⟨e4.Name,e4.Version,((IntKind.i64.wrap ((IntKind.i64.wrap (x0_1+1))+1)).tmod 3) == 0,e4.Image,e4.Want,e4.Down,e4.Over,e4.Next,e4.Per,e4.Least,e4.Most,e4.Load,e4.Cool⟩ : VStewService))).set x0_2.toNat ((⟨e5.Name,e5.Version,e5.Gone,IntKind.i64.wrap ((IntKind.i64.wrap ((IntKind.i64.wrap (x0_1+1))+1))+1),e5.Want,e5.Down,e5.Over,e5.Next,e5.Per,e5.Least,e5.Most,e5.Load,e5.Cool⟩ : VStewService))).set x0_2.toNat ((⟨e6.Name,e6.Version,e6.Gone,e6.Image,IntKind.i64.wrap ((IntKind.i64.wrap ((IntKind.i64.wrap ((IntKind.i64.wrap (x0_1+1))+1))+1))+1),e6.Down,e6.Over,e6.Next,e6.Per,e6.Least,e6.Most,e6.Load,e6.Cool⟩ : VStewService))).set x0_2.toNat ((⟨e7.Name,e7.Version,e7.Gone,e7.Image,e7.Want,IntKind.i64.wrap ((IntKind.i64.wrap ((IntKind.i64.wrap ((IntKind.i64.wrap ((IntKind.i64.wrap (x0_1+1))+1))+1))+1))+1),e7.Over,e7.Next,e7.Per,e7.Least,e7.Most,e7.Load,e7.Cool⟩ : VStewService))).set x0_2.toNat ((⟨e8.Name,e8.Version,e8.Gone,e8.Image,e8.Want,e8.Down,IntKind.i64.wrap ((IntKind.i64.wrap ((IntKind.i64.wrap ((IntKind.i64.wrap ((IntKind.i64.wrap ((IntKind.i64.wrap (x0_1+1))+1))+1))+1))+1))+1),e8.Next,e8.Per,e8.Least,e8.Most,e8.Load,e8.Cool⟩ : VStewService))).set x0_2.toNat ((⟨e9.Name,e9.Version,e9.Gone,e9.Image,e9.Want,e9.Down,e9.Over,IntKind.i64.wrap ((IntKind.i64.wrap ((IntKind.i64.wrap ((IntKind.i64.wrap ((IntKind.i64.wrap ((IntKind.i64.wrap ((IntKind.i64.wrap (x0_1+1))+1))+1))+1))+1))+1))+1),e9.Per,e9.Least,e9.Most,e9.Load,e9.Cool⟩ : VStewService))).set x0_2.toNat ((⟨e10.Name,e10.Version,e10.Gone,e10.Image,e10.Want,e10.Down,e10.Over,e10.Next,IntKind.i64.wrap ((IntKind.i64.wrap ((IntKind.i64.wrap ((IntKind.i64.wrap ((IntKind.i64.wrap ((IntKind.i64.wrap ((IntKind.i64.wrap ((IntKind.i64.wrap (x0_1+1))+1))+1))+1))+1))+1))+1))+1),e10.Least,e10.Most,e10.Load,e10.Cool⟩ : VStewService))).set x0_2.toNat ((⟨e11.Name,e11.Version,e11.Gone,e11.Image,e11.Want,e11.Down,e11.Over,e11.Next,e11.Per,IntKind.i64.wrap ((IntKind.i64.wrap ((IntKind.i64.wrap ((IntKind.i64.wrap ((IntKind.i64.wrap ((IntKind.i64.wrap ((IntKind.i64.wrap ((IntKind.i64.wrap ((IntKind.i64.wrap (x0_1+1))+1))+1))+1))+1))+1))+1))+1))+1),e11.Most,e11.Load,e11.Cool⟩ : VStewService)))[x0_2.toNat]? fun e12=>cond (decide (0≤x0_2)) (cond (decide (x0_2<((((((((((((x0_0.set x0_2.toNat (⟨r1,e2.Version,e2.Gone,e2.Image,e2.Want,e2.Down,e2.Over,e2.Next,e2.Per,e2.Least,e2.Most,e2.Load,e2.Cool⟩ : VStewService)).set x0_2.toNat ((⟨e3.Name,IntKind.i64.wrap (x0_1+1),e3.Gone,e3.Image,e3.Want,e3.Down,e3.Over,e3.Next,e3.Per,e3.Least,e3.Most,e3.Load,e3.Cool⟩ : VStewService))).set x0_2.toNat ((⟨e4.Name,e4.Version,((IntKind.i64.wrap ((IntKind.i64.wrap (x0_1+1))+1)).tmod 3) == 0,e4.Image,e4.Want,e4.Down,e4.Over,e4.Next,e4.Per,e4.Least,e4.Most,e4.Load,e4.Cool⟩ : VStewService))).set x0_2.toNat ((⟨e5.Name,e5.Version,e5.Gone,IntKind.i64.wrap ((IntKind.i64.wrap ((IntKind.i64.wrap (x0_1+1))+1))+1),e5.Want,e5.Down,e5.Over,e5.Next,e5.Per,e5.Least,e5.Most,e5.Load,e5.Cool⟩ : VStewService))).set x0_2.toNat ((⟨e6.Name,e6.Version,e6.Gone,e6.Image,IntKind.i64.wrap ((IntKind.i64.wrap ((IntKind.i64.wrap ((IntKind.i64.wrap (x0_1+1))+1))+1))+1),e6.Down,e6.Over,e6.Next,e6.Per,e6.Least,e6.Most,e6.Load,e6.Cool⟩ : VStewService))).set x0_2.toNat ((⟨e7.Name,e7.Version,e7.Gone,e7.Image,e7.Want,IntKind.i64.wrap ((IntKind.i64.wrap ((IntKind.i64.wrap ((IntKind.i64.wrap ((IntKind.i64.wrap (x0_1+1))+1))+1))+1))+1),e7.Over,e7.Next,e7.Per,e7.Least,e7.Most,e7.Load,e7.Cool⟩ : VStewService))).set x0_2.toNat ((⟨e8.Name,e8.Version,e8.Gone,e8.Image,e8.Want,e8.Down,IntKind.i64.wrap ((IntKind.i64.wrap ((IntKind.i64.wrap ((IntKind.i64.wrap ((IntKind.i64.wrap ((IntKind.i64.wrap (x0_1+1))+1))+1))+1))+1))+1),e8.Next,e8.Per,e8.Least,e8.Most,e8.Load,e8.Cool⟩ : VStewService))).set x0_2.toNat ((⟨e9.Name,e9.Version,e9.Gone,e9.Image,e9.Want,e9.Down,e9.Over,IntKind.i64.wrap ((IntKind.i64.wrap ((IntKind.i64.wrap ((IntKind.i64.wrap ((IntKind.i64.wrap ((IntKind.i64.wrap ((IntKind.i64.wrap (x0_1+1))+1))+1))+1))+1))+1))+1),e9.Per,e9.Least,e9.Most,e9.Load,e9.Cool⟩ : VStewService))).set x0_2.toNat ((⟨e10.Name,e10.Version,e10.Gone,e10.Image,e10.Want,e10.Down,e10.Over,e10.Next,IntKind.i64.wrap ((IntKind.i64.wrap ((IntKind.i64.wrap ((IntKind.i64.wrap ((IntKind.i64.wrap ((IntKind.i64.wrap ((IntKind.i64.wrap ((IntKind.i64.wrap (x0_1+1))+1))+1))+1))+1))+1))+1))+1),e10.Least,e10.Most,e10.Load,e10.Cool⟩ : VStewService))).set x0_2.toNat ((⟨e11.Name,e11.Version,e11.Gone,e11.Image,e11.Want,e11.Down,e11.Over,e11.Next,e11.Per,IntKind.i64.wrap ((IntKind.i64.wrap ((IntKind.i64.wrap ((IntKind.i64.wrap ((IntKind.i64.wrap ((IntKind.i64.wrap ((IntKind.i64.wrap ((IntKind.i64.wrap ((IntKind.i64.wrap (x0_1+1))+1))+1))+1))+1))+1))+1))+1))+1),e11.Most,e11.Load,e11.Cool⟩ : VStewService))).set x0_2.toNat ((⟨e12.Name,e12.Version,e12.Gone,e12.Image,e12.Want,e12.Down,e12.Over,e12.Next,e12.Per,e12.Least,IntKind.i64.wrap ((IntKind.i64.wrap ((IntKind.i64.wrap ((IntKind.i64.wrap ((IntKind.i64.wrap ((IntKind.i64.wrap ((IntKind.i64.wrap ((IntKind.i64.wrap ((IntKind.i64.wrap ((IntKind.i64.wrap (x0_1+1))+1))+1))+1))+1))+1))+1))+1))+1))+1),e12.Load,e12.Cool⟩ : VStewService))).length : Int))) (Option.bind (((((((((((x0_0.set x0_2.toNat (⟨r1,e2.Version,e2.Gone,e2.Image,e2.Want,e2.Down,e2.Over,e2.Next,e2.Per,e2.Least,e2.Most,e2.Load,e2.Cool⟩ : VStewService)).set x0_2.toNat ((⟨e3.Name,IntKind.i64.wrap (x0_1+1),e3.Gone,e3.Image,e3.Want,e3.Down,e3.Over,e3.Next,e3.Per,e3.Least,e3.Most,e3.Load,e3.Cool⟩ : VStewService))).set x0_2.toNat ((⟨e4.Name,e4.Version,((IntKind.i64.wrap ((IntKind.i64.wrap (x0_1+1))+1)).tmod 3) == 0,e4.Image,e4.Want,e4.Down,e4.Over,e4.Next,e4.Per,e4.Least,e4.Most,e4.Load,e4.Cool⟩ : VStewService))).set x0_2.toNat ((⟨e5.Name,e5.Version,e5.Gone,IntKind.i64.wrap ((IntKind.i64.wrap ((IntKind.i64.wrap (x0_1+1))+1))+1),e5.Want,e5.Down,e5.Over,e5.Next,e5.Per,e5.Least,e5.Most,e5.Load,e5.Cool⟩ : VStewService))).set x0_2.toNat ((⟨e6.Name,e6.Version,e6.Gone,e6.Image,IntKind.i64.wrap ((IntKind.i64.wrap ((IntKind.i64.wrap ((IntKind.i64.wrap (x0_1+1))+1))+1))+1),e6.Down,e6.Over,e6.Next,e6.Per,e6.Least,e6.Most,e6.Load,e6.Cool⟩ : VStewService))).set x0_2.toNat ((⟨e7.Name,e7.Version,e7.Gone,e7.Image,e7.Want,IntKind.i64.wrap ((IntKind.i64.wrap ((IntKind.i64.wrap ((IntKind.i64.wrap ((IntKind.i64.wrap (x0_1+1))+1))+1))+1))+1),e7.Over,e7.Next,e7.Per,e7.Least,e7.Most,e7.Load,e7.Cool⟩ : VStewService))).set x0_2.toNat ((⟨e8.Name,e8.Version,e8.Gone,e8.Image,e8.Want,e8.Down,IntKind.i64.wrap ((IntKind.i64.wrap ((IntKind.i64.wrap ((IntKind.i64.wrap ((IntKind.i64.wrap ((IntKind.i64.wrap (x0_1+1))+1))+1))+1))+1))+1),e8.Next,e8.Per,e8.Least,e8.Most,e8.Load,e8.Cool⟩ : VStewService))).set x0_2.toNat ((⟨e9.Name,e9.Version,e9.Gone,e9.Image,e9.Want,e9.Down,e9.Over,IntKind.i64.wrap ((IntKind.i64.wrap ((IntKind.i64.wrap ((IntKind.i64.wrap ((IntKind.i64.wrap ((IntKind.i64.wrap ((IntKind.i64.wrap (x0_1+1))+1))+1))+1))+1))+1))+1),e9.Per,e9.Least,e9.Most,e9.Load,e9.Cool⟩ : VStewService))).set x0_2.toNat ((⟨e10.Name,e10.Version,e10.Gone,e10.Image,e10.Want,e10.Down,e10.Over,e10.Next,IntKind.i64.wrap ((IntKind.i64.wrap ((IntKind.i64.wrap ((IntKind.i64.wrap ((IntKind.i64.wrap ((IntKind.i64.wrap ((IntKind.i64.wrap ((IntKind.i64.wrap (x0_1+1))+1))+1))+1))+1))+1))+1))+1),e10.Least,e10.Most,e10.Load,e10.Cool⟩ : VStewService))).set x0_2.toNat ((⟨e11.Name,e11.Version,e11.Gone,e11.Image,e11.Want,e11.Down,e11.Over,e11.Next,e11.Per,IntKind.i64.wrap ((IntKind.i64.wrap ((IntKind.i64.wrap ((IntKind.i64.wrap ((IntKind.i64.wrap ((IntKind.i64.wrap ((IntKind.i64.wrap ((IntKind.i64.wrap ((IntKind.i64.wrap (x0_1+1))+1))+1))+1))+1))+1))+1))+1))+1),e11.Most,e11.Load,e11.Cool⟩ : VStewService))).set x0_2.toNat ((⟨e12.Name,e12.Version,e12.Gone,e12.Image,e12.Want,e12.Down,e12.Over,e12.Next,e12.Per,e12.Least,IntKind.i64.wrap ((IntKind.i64.wrap ((IntKind.i64.wrap ((IntKind.i64.wrap ((IntKind.i64.wrap ((IntKind.i64.wrap ((IntKind.i64.wrap ((IntKind.i64.wrap ((IntKind.i64.wrap ((IntKind.i64.wrap (x0_1+1))+1))+1))+1))+1))+1))+1))+1))+1))+1),e12.Load,e12.Cool⟩ : VStewService)))[x0_2.toNat]? fun e13=>cond (decide (0≤x0_2)) (cond (decide (x0_2<(((((((((((((x0_0.set x0_2.toNat (⟨r1,e2.Version,e2.Gone,e2.Image,e2.Want,e2.Down,e2.Over,e2.Next,e2.Per,e2.Least,e2.Most,e2.Load,e2.Cool⟩ : VStewService)).set x0_2.toNat ((⟨e3.Name,IntKind.i64.wrap (x0_1+1),e3.Gone,e3.Image,e3.Want,e3.Down,e3.Over,e3.Next,e3.Per,e3.Least,e3.Most,e3.Load,e3.Cool⟩ : VStewService))).set x0_2.toNat ((⟨e4.Name,e4.Version,((IntKind.i64.wrap ((IntKind.i64.wrap (x0_1+1))+1)).tmod 3) == 0,e4.Image,e4.Want,e4.Down,e4.Over,e4.Next,e4.Per,e4.Least,e4.Most,e4.Load,e4.Cool⟩ : VStewService))).set x0_2.toNat ((⟨e5.Name,e5.Version,e5.Gone,IntKind.i64.wrap ((IntKind.i64.wrap ((IntKind.i64.wrap (x0_1+1))+1))+1),e5.Want,e5.Down,e5.Over,e5.Next,e5.Per,e5.Least,e5.Most,e5.Load,e5.Cool⟩ : VStewService))).set x0_2.toNat ((⟨e6.Name,e6.Version,e6.Gone,e6.Image,IntKind.i64.wrap ((IntKind.i64.wrap ((IntKind.i64.wrap ((IntKind.i64.wrap (x0_1+1))+1))+1))+1),e6.Down,e6.Over,e6.Next,e6.Per,e6.Least,e6.Most,e6.Load,e6.Cool⟩ : VStewService))).set x0_2.toNat ((⟨e7.Name,e7.Version,e7.Gone,e7.Image,e7.Want,IntKind.i64.wrap ((IntKind.i64.wrap ((IntKind.i64.wrap ((IntKind.i64.wrap ((IntKind.i64.wrap (x0_1+1))+1))+1))+1))+1),e7.Over,e7.Next,e7.Per,e7.Least,e7.Most,e7.Load,e7.Cool⟩ : VStewService))).set x0_2.toNat ((⟨e8.Name,e8.Version,e8.Gone,e8.Image,e8.Want,e8.Down,IntKind.i64.wrap ((IntKind.i64.wrap ((IntKind.i64.wrap ((IntKind.i64.wrap ((IntKind.i64.wrap ((IntKind.i64.wrap (x0_1+1))+1))+1))+1))+1))+1),e8.Next,e8.Per,e8.Least,e8.Most,e8.Load,e8.Cool⟩ : VStewService))).set x0_2.toNat ((⟨e9.Name,e9.Version,e9.Gone,e9.Image,e9.Want,e9.Down,e9.Over,IntKind.i64.wrap ((IntKind.i64.wrap ((IntKind.i64.wrap ((IntKind.i64.wrap ((IntKind.i64.wrap ((IntKind.i64.wrap ((IntKind.i64.wrap (x0_1+1))+1))+1))+1))+1))+1))+1),e9.Per,e9.Least,e9.Most,e9.Load,e9.Cool⟩ : VStewService))).set x0_2.toNat ((⟨e10.Name,e10.Version,e10.Gone,e10.Image,e10.Want,e10.Down,e10.Over,e10.Next,IntKind.i64.wrap ((IntKind.i64.wrap ((IntKind.i64.wrap ((IntKind.i64.wrap ((IntKind.i64.wrap ((IntKind.i64.wrap ((IntKind.i64.wrap ((IntKind.i64.wrap (x0_1+1))+1))+1))+1))+1))+1))+1))+1),e10.Least,e10.Most,e10.Load,e10.Cool⟩ : VStewService))).set x0_2.toNat ((⟨e11.Name,e11.Version,e11.Gone,e11.Image,e11.Want,e11.Down,e11.Over,e11.Next,e11.Per,IntKind.i64.wrap ((IntKind.i64.wrap ((IntKind.i64.wrap ((IntKind.i64.wrap ((IntKind.i64.wrap ((IntKind.i64.wrap ((IntKind.i64.wrap ((IntKind.i64.wrap ((IntKind.i64.wrap (x0_1+1))+1))+1))+1))+1))+1))+1))+1))+1),e11.Most,e11.Load,e11.Cool⟩ : VStewService))).set x0_2.toNat ((⟨e12.Name,e12.Version,e12.Gone,e12.Image,e12.Want,e12.Down,e12.Over,e12.Next,e12.Per,e12.Least,IntKind.i64.wrap ((IntKind.i64.wrap ((IntKind.i64.wrap ((IntKind.i64.wrap ((IntKind.i64.wrap ((IntKind.i64.wrap ((IntKind.i64.wrap ((IntKind.i64.wrap ((IntKind.i64.wrap ((IntKind.i64.wrap (x0_1+1))+1))+1))+1))+1))+1))+1))+1))+1))+1),e12.Load,e12.Cool⟩ : VStewService))).set x0_2.toNat ((⟨e13.Name,e13.Version,e13.Gone,e13.Image,e13.Want,e13.Down,e13.Over,e13.Next,e13.Per,e13.Least,e13.Most,IntKind.i64.wrap ((IntKind.i64.wrap ((IntKind.i64.wrap ((IntKind.i64.wrap ((IntKind.i64.wrap ((IntKind.i64.wrap ((IntKind.i64.wrap ((IntKind.i64.wrap ((IntKind.i64.wrap ((IntKind.i64.wrap ((IntKind.i64.wrap (x0_1+1))+1))+1))+1))+1))+1))+1))+1))+1))+1))+1),e13.Cool⟩ : VStewService))).length : Int))) (Option.bind ((((((((((((x0_0.set x0_2.toNat (⟨r1,e2.Version,e2.Gone,e2.Image,e2.Want,e2.Down,e2.Over,e2.Next,e2.Per,e2.Least,e2.Most,e2.Load,e2.Cool⟩ : VStewService)).set x0_2.toNat ((⟨e3.Name,IntKind.i64.wrap (x0_1+1),e3.Gone,e3.Image,e3.Want,e3.Down,e3.Over,e3.Next,e3.Per,e3.Least,e3.Most,e3.Load,e3.Cool⟩ : VStewService))).set x0_2.toNat ((⟨e4.Name,e4.Version,((IntKind.i64.wrap ((IntKind.i64.wrap (x0_1+1))+1)).tmod 3) == 0,e4.Image,e4.Want,e4.Down,e4.Over,e4.Next,e4.Per,e4.Least,e4.Most,e4.Load,e4.Cool⟩ : VStewService))).set x0_2.toNat ((⟨e5.Name,e5.Version,e5.Gone,IntKind.i64.wrap ((IntKind.i64.wrap ((IntKind.i64.wrap (x0_1+1))+1))+1),e5.Want,e5.Down,e5.Over,e5.Next,e5.Per,e5.Least,e5.Most,e5.Load,e5.Cool⟩ : VStewService))).set x0_2.toNat ((⟨e6.Name,e6.Version,e6.Gone,e6.Image,IntKind.i64.wrap ((IntKind.i64.wrap ((IntKind.i64.wrap ((IntKind.i64.wrap (x0_1+1))+1))+1))+1),e6.Down,e6.Over,e6.Next,e6.Per,e6.Least,e6.Most,e6.Load,e6.Cool⟩ : VStewService))).set x0_2.toNat ((⟨e7.Name,e7.Version,e7.Gone,e7.Image,e7.Want,IntKind.i64.wrap ((IntKind.i64.wrap ((IntKind.i64.wrap ((IntKind.i64.wrap ((IntKind.i64.wrap (x0_1+1))+1))+1))+1))+1),e7.Over,e7.Next,e7.Per,e7.Least,e7.Most,e7.Load,e7.Cool⟩ : VStewService))).set x0_2.toNat ((⟨e8.Name,e8.Version,e8.Gone,e8.Image,e8.Want,e8.Down,IntKind.i64.wrap ((IntKind.i64.wrap ((IntKind.i64.wrap ((IntKind.i64.wrap ((IntKind.i64.wrap ((IntKind.i64.wrap (x0_1+1))+1))+1))+1))+1))+1),e8.Next,e8.Per,e8.Least,e8.Most,e8.Load,e8.Cool⟩ : VStewService))).set x0_2.toNat ((⟨e9.Name,e9.Version,e9.Gone,e9.Image,e9.Want,e9.Down,e9.Over,IntKind.i64.wrap ((IntKind.i64.wrap ((IntKind.i64.wrap ((IntKind.i64.wrap ((IntKind.i64.wrap ((IntKind.i64.wrap ((IntKind.i64.wrap (x0_1+1))+1))+1))+1))+1))+1))+1),e9.Per,e9.Least,e9.Most,e9.Load,e9.Cool⟩ : VStewService))).set x0_2.toNat ((⟨e10.Name,e10.Version,e10.Gone,e10.Image,e10.Want,e10.Down,e10.Over,e10.Next,IntKind.i64.wrap ((IntKind.i64.wrap ((IntKind.i64.wrap ((IntKind.i64.wrap ((IntKind.i64.wrap ((IntKind.i64.wrap ((IntKind.i64.wrap ((IntKind.i64.wrap (x0_1+1))+1))+1))+1))+1))+1))+1))+1),e10.Least,e10.Most,e10.Load,e10.Cool⟩ : VStewService))).set x0_2.toNat ((⟨e11.Name,e11.Version,e11.Gone,e11.Image,e11.Want,e11.Down,e11.Over,e11.Next,e11.Per,IntKind.i64.wrap ((IntKind.i64.wrap ((IntKind.i64.wrap ((IntKind.i64.wrap ((IntKind.i64.wrap ((IntKind.i64.wrap ((IntKind.i64.wrap ((IntKind.i64.wrap ((IntKind.i64.wrap (x0_1+1))+1))+1))+1))+1))+1))+1))+1))+1),e11.Most,e11.Load,e11.Cool⟩ : VStewService))).set x0_2.toNat ((⟨e12.Name,e12.Version,e12.Gone,e12.Image,e12.Want,e12.Down,e12.Over,e12.Next,e12.Per,e12.Least,IntKind.i64.wrap ((IntKind.i64.wrap ((IntKind.i64.wrap ((IntKind.i64.wrap ((IntKind.i64.wrap ((IntKind.i64.wrap ((IntKind.i64.wrap ((IntKind.i64.wrap ((IntKind.i64.wrap ((IntKind.i64.wrap (x0_1+1))+1))+1))+1))+1))+1))+1))+1))+1))+1),e12.Load,e12.Cool⟩ : VStewService))).set x0_2.toNat ((⟨e13.Name,e13.Version,e13.Gone,e13.Image,e13.Want,e13.Down,e13.Over,e13.Next,e13.Per,e13.Least,e13.Most,IntKind.i64.wrap ((IntKind.i64.wrap ((IntKind.i64.wrap ((IntKind.i64.wrap ((IntKind.i64.wrap ((IntKind.i64.wrap ((IntKind.i64.wrap ((IntKind.i64.wrap ((IntKind.i64.wrap ((IntKind.i64.wrap ((IntKind.i64.wrap (x0_1+1))+1))+1))+1))+1))+1))+1))+1))+1))+1))+1),e13.Cool⟩ : VStewService)))[x0_2.toNat]? fun e14=>rec0 ((((((((((((((x0_0.set x0_2.toNat (⟨r1,e2.Version,e2.Gone,e2.Image,e2.Want,e2.Down,e2.Over,e2.Next,e2.Per,e2.Least,e2.Most,e2.Load,e2.Cool⟩ : VStewService)).set x0_2.toNat ((⟨e3.Name,IntKind.i64.wrap (x0_1+1),e3.Gone,e3.Image,e3.Want,e3.Down,e3.Over,e3.Next,e3.Per,e3.Least,e3.Most,e3.Load,e3.Cool⟩ : VStewService))).set x0_2.toNat ((⟨e4.Name,e4.Version,((IntKind.i64.wrap ((IntKind.i64.wrap (x0_1+1))+1)).tmod 3) == 0,e4.Image,e4.Want,e4.Down,e4.Over,e4.Next,e4.Per,e4.Least,e4.Most,e4.Load,e4.Cool⟩ : VStewService))).set x0_2.toNat ((⟨e5.Name,e5.Version,e5.Gone,IntKind.i64.wrap ((IntKind.i64.wrap ((IntKind.i64.wrap (x0_1+1))+1))+1),e5.Want,e5.Down,e5.Over,e5.Next,e5.Per,e5.Least,e5.Most,e5.Load,e5.Cool⟩ : VStewService))).set x0_2.toNat ((⟨e6.Name,e6.Version,e6.Gone,e6.Image,IntKind.i64.wrap ((IntKind.i64.wrap ((IntKind.i64.wrap ((IntKind.i64.wrap (x0_1+1))+1))+1))+1),e6.Down,e6.Over,e6.Next,e6.Per,e6.Least,e6.Most,e6.Load,e6.Cool⟩ : VStewService))).set x0_2.toNat ((⟨e7.Name,e7.Version,e7.Gone,e7.Image,e7.Want,IntKind.i64.wrap ((IntKind.i64.wrap ((IntKind.i64.wrap ((IntKind.i64.wrap ((IntKind.i64.wrap (x0_1+1))+1))+1))+1))+1),e7.Over,e7.Next,e7.Per,e7.Least,e7.Most,e7.Load,e7.Cool⟩ : VStewService))).set x0_2.toNat ((⟨e8.Name,e8.Version,e8.Gone,e8.Image,e8.Want,e8.Down,IntKind.i64.wrap ((IntKind.i64.wrap ((IntKind.i64.wrap ((IntKind.i64.wrap ((IntKind.i64.wrap ((IntKind.i64.wrap (x0_1+1))+1))+1))+1))+1))+1),e8.Next,e8.Per,e8.Least,e8.Most,e8.Load,e8.Cool⟩ : VStewService))).set x0_2.toNat ((⟨e9.Name,e9.Version,e9.Gone,e9.Image,e9.Want,e9.Down,e9.Over,IntKind.i64.wrap ((IntKind.i64.wrap ((IntKind.i64.wrap ((IntKind.i64.wrap ((IntKind.i64.wrap ((IntKind.i64.wrap ((IntKind.i64.wrap (x0_1+1))+1))+1))+1))+1))+1))+1),e9.Per,e9.Least,e9.Most,e9.Load,e9.Cool⟩ : VStewService))).set x0_2.toNat ((⟨e10.Name,e10.Version,e10.Gone,e10.Image,e10.Want,e10.Down,e10.Over,e10.Next,IntKind.i64.wrap ((IntKind.i64.wrap ((IntKind.i64.wrap ((IntKind.i64.wrap ((IntKind.i64.wrap ((IntKind.i64.wrap ((IntKind.i64.wrap ((IntKind.i64.wrap (x0_1+1))+1))+1))+1))+1))+1))+1))+1),e10.Least,e10.Most,e10.Load,e10.Cool⟩ : VStewService))).set x0_2.toNat ((⟨e11.Name,e11.Version,e11.Gone,e11.Image,e11.Want,e11.Down,e11.Over,e11.Next,e11.Per,IntKind.i64.wrap ((IntKind.i64.wrap ((IntKind.i64.wrap ((IntKind.i64.wrap ((IntKind.i64.wrap ((IntKind.i64.wrap ((IntKind.i64.wrap ((IntKind.i64.wrap ((IntKind.i64.wrap (x0_1+1))+1))+1))+1))+1))+1))+1))+1))+1),e11.Most,e11.Load,e11.Cool⟩ : VStewService))).set x0_2.toNat ((⟨e12.Name,e12.Version,e12.Gone,e12.Image,e12.Want,e12.Down,e12.Over,e12.Next,e12.Per,e12.Least,IntKind.i64.wrap ((IntKind.i64.wrap ((IntKind.i64.wrap ((IntKind.i64.wrap ((IntKind.i64.wrap ((IntKind.i64.wrap ((IntKind.i64.wrap ((IntKind.i64.wrap ((IntKind.i64.wrap ((IntKind.i64.wrap (x0_1+1))+1))+1))+1))+1))+1))+1))+1))+1))+1),e12.Load,e12.Cool⟩ : VStewService))).set x0_2.toNat ((⟨e13.Name,e13.Version,e13.Gone,e13.Image,e13.Want,e13.Down,e13.Over,e13.Next,e13.Per,e13.Least,e13.Most,IntKind.i64.wrap ((IntKind.i64.wrap ((IntKind.i64.wrap ((IntKind.i64.wrap ((IntKind.i64.wrap ((IntKind.i64.wrap ((IntKind.i64.wrap ((IntKind.i64.wrap ((IntKind.i64.wrap ((IntKind.i64.wrap ((IntKind.i64.wrap (x0_1+1))+1))+1))+1))+1))+1))+1))+1))+1))+1))+1),e13.Cool⟩ : VStewService))).set x0_2.toNat ((⟨e14.Name,e14.Version,e14.Gone,e14.Image,e14.Want,e14.Down,e14.Over,e14.Next,e14.Per,e14.Least,e14.Most,e14.Load,IntKind.i64.wrap ((IntKind.i64.wrap ((IntKind.i64.wrap ((IntKind.i64.wrap ((IntKind.i64.wrap ((IntKind.i64.wrap ((IntKind.i64.wrap ((IntKind.i64.wrap ((IntKind.i64.wrap ((IntKind.i64.wrap ((IntKind.i64.wrap ((IntKind.i64.wrap (x0_1+1))+1))+1))+1))+1))+1))+1))+1))+1))+1))+1))+1)⟩ : VStewService)),IntKind.i64.wrap ((IntKind.i64.wrap ((IntKind.i64.wrap ((IntKind.i64.wrap ((IntKind.i64.wrap ((IntKind.i64.wrap ((IntKind.i64.wrap ((IntKind.i64.wrap ((IntKind.i64.wrap ((IntKind.i64.wrap ((IntKind.i64.wrap ((IntKind.i64.wrap ((IntKind.i64.wrap (x0_1+1))+1))+1))+1))+1))+1))+1))+1))+1))+1))+1))+1))+1),IntKind.i64.wrap (x0_2+1)))) none) none) none) none) none) none) none) none) none) none) none) none) none) none) none) none) none) none) none) none) none) none)) none) none) none) none)
 (some (x0_0,x0_1))
noncomputable def LP33_0 (n : Nat)   (x : A33_0) : Option (List (C .e79)×Int):=lpN (r33_0 n  ) n x
noncomputable def MP33_0 (kp : Nat→Prop) (kh : Nat→Option Obj) (hd : Nat→Value) (n : Nat)   (x : A33_0) : Option (List (C .e79)×Int):=iter (fun rec S=>run (X33.gh kp kh hd) (F33 n) (codeAt (bodyOf Try.f33) [1,0,1,0,0]) 0 S (lopK rec (blkK 0 (seqK (run (X33.gh kp kh hd) (F33 n) (codeAt (bodyOf Try.f33) [1,1]) 0) (kTopW (X33.gh kp kh hd) Try.f33 [true,false] dec33))))) [0,1,5] n (s33_0  x)
theorem m33_0 (kp : Nat→Prop) (kh : Nat→Option Obj) (hd : Nat→Value) (n : Nat)   (x : A33_0) : MP33_0 kp kh hd n   x=LP33_0 n   x:=by
  refine iter_eq (s33_0 ) (r33_0 n  ) (fun rec0 x => ?_) n x
  obtain ⟨x0_0,x0_1,x0_2⟩:=x
  kernel_rfl
noncomputable def G33n (n : Nat) (a0 : List (C .e79)) (a1 : Int) : Option (List (C .e79)×Int) :=
 LP33_0 n    (a0,a1,0)
theorem t33 (kp : Nat→Prop) (kh : Nat→Option Obj) (hd : Nat→Value) (n : Nat) (a0 : List (C .e79)) (a1 : Int) : runFnW (X33.gh kp kh hd) (F33 n) Try.f33 [(false,[.row .e79 a0]),(false,[.int .i64 a1])] dec33=G33n n a0 a1:=by
  refine Eq.trans (b :=
   MP33_0 kp kh hd n    (a0,a1,0)) (by kernel_rfl) ?_
  simp only [G33n,m33_0]
noncomputable def G33 (a0 : List (C .e79)) (a1 : Int) : Option (List (C .e79)×Int):=G33n fuel a0 a1
noncomputable def con33 : ConW C:=mkW KK [.row .e79,.int .i64] [.e79] [.int .i64] G33
theorem c33 : ConWOk Try.prog KK 33 con33:=wO (mkQ ⟨c73,trivial⟩ trivial trivial : Cons Try.prog X33) (fn:=Try.f33) (by kernel_rfl) (by kernel_rfl) (by kernel_rfl) (by kernel_rfl) (F33 fuel) (by kernel_rfl) fun kp kh hd=>fun a0 a1=>t33 kp kh hd fuel a0 a1
/-! ### f34 loop.example/wharfdesk/laws.markStewCopyS -/
noncomputable def X34 : Cx C:=mkX [(73,con73)] [] [] [] 2228224 []
def F34 (n : Nat) : Cf:={ N:=n,keep:=[0,1,4,5,9],live:=lk [(0,[0,1,5])] }
noncomputable abbrev dec34:=deW KK [.e83] [.int .i64]
abbrev A34_0 : Type:=List (C .e83)×Int×Int
def s34_0  : A34_0→St C:=fun (x0_0,x0_1,x0_2)=>{ env:=[(0,.one (.ref 100000 [])),(1,.one (.int .i64 x0_1)),(5,.one (.int .i64 x0_2)),(90000,.frame),(90001,.hdr 100000 0)],objs:=[(100000,.row .e83 x0_0 false)],base:=0 }
noncomputable def r34_0 (n : Nat)   (rec0 : A34_0→Option (List (C .e83)×Int)) : A34_0→Option (List (C .e83)×Int):=fun (x0_0,x0_1,x0_2) =>
 cond (decide (x0_2<(x0_0.length : Int)))
 (Option.bind (G73 x0_1) fun r1 =>
 cond (decide (0≤x0_2)) (cond (decide (x0_2<(x0_0.length : Int))) (Option.bind x0_0[x0_2.toNat]? fun e2=>cond (decide (0≤x0_2)) (cond (decide (x0_2<((x0_0.set x0_2.toNat (⟨r1,e2.Number,e2.Version,e2.Image,e2.State,e2.Ending,e2.Berth⟩ : VStewCopy)).length : Int))) (Option.bind (x0_0.set x0_2.toNat (⟨r1,e2.Number,e2.Version,e2.Image,e2.State,e2.Ending,e2.Berth⟩ : VStewCopy))[x0_2.toNat]? fun e3=>cond (decide (0≤x0_2)) (cond (decide (x0_2<(((x0_0.set x0_2.toNat (⟨r1,e2.Number,e2.Version,e2.Image,e2.State,e2.Ending,e2.Berth⟩ : VStewCopy)).set x0_2.toNat ((⟨e3.Service,IntKind.i64.wrap (x0_1+1),e3.Version,e3.Image,e3.State,e3.Ending,e3.Berth⟩ : VStewCopy))).length : Int))) (Option.bind ((x0_0.set x0_2.toNat (⟨r1,e2.Number,e2.Version,e2.Image,e2.State,e2.Ending,e2.Berth⟩ : VStewCopy)).set x0_2.toNat ((⟨e3.Service,IntKind.i64.wrap (x0_1+1),e3.Version,e3.Image,e3.State,e3.Ending,e3.Berth⟩ : VStewCopy)))[x0_2.toNat]? fun e4=>cond (decide (0≤x0_2)) (cond (decide (x0_2<((((x0_0.set x0_2.toNat (⟨r1,e2.Number,e2.Version,e2.Image,e2.State,e2.Ending,e2.Berth⟩ : VStewCopy)).set x0_2.toNat ((⟨e3.Service,IntKind.i64.wrap (x0_1+1),e3.Version,e3.Image,e3.State,e3.Ending,e3.Berth⟩ : VStewCopy))).set x0_2.toNat ((⟨e4.Service,e4.Number,IntKind.i64.wrap ((IntKind.i64.wrap (x0_1+1))+1),e4.Image,e4.State,e4.Ending,e4.Berth⟩ : VStewCopy))).length : Int))) (Option.bind (((x0_0.set x0_2.toNat (⟨r1,e2.Number,e2.Version,e2.Image,e2.State,e2.Ending,e2.Berth⟩ : VStewCopy)).set x0_2.toNat ((⟨e3.Service,IntKind.i64.wrap (x0_1+1),e3.Version,e3.Image,e3.State,e3.Ending,e3.Berth⟩ : VStewCopy))).set x0_2.toNat ((⟨e4.Service,e4.Number,IntKind.i64.wrap ((IntKind.i64.wrap (x0_1+1))+1),e4.Image,e4.State,e4.Ending,e4.Berth⟩ : VStewCopy)))[x0_2.toNat]? fun e5=>cond (decide (0≤x0_2)) (cond (decide (x0_2<(((((x0_0.set x0_2.toNat (⟨r1,e2.Number,e2.Version,e2.Image,e2.State,e2.Ending,e2.Berth⟩ : VStewCopy)).set x0_2.toNat ((⟨e3.Service,IntKind.i64.wrap (x0_1+1),e3.Version,e3.Image,e3.State,e3.Ending,e3.Berth⟩ : VStewCopy))).set x0_2.toNat ((⟨e4.Service,e4.Number,IntKind.i64.wrap ((IntKind.i64.wrap (x0_1+1))+1),e4.Image,e4.State,e4.Ending,e4.Berth⟩ : VStewCopy))).set x0_2.toNat ((⟨e5.Service,e5.Number,e5.Version,IntKind.i64.wrap ((IntKind.i64.wrap ((IntKind.i64.wrap (x0_1+1))+1))+1),e5.State,e5.Ending,e5.Berth⟩ : VStewCopy))).length : Int))) (Option.bind ((((x0_0.set x0_2.toNat (⟨r1,e2.Number,e2.Version,e2.Image,e2.State,e2.Ending,e2.Berth⟩ : VStewCopy)).set x0_2.toNat ((⟨e3.Service,IntKind.i64.wrap (x0_1+1),e3.Version,e3.Image,e3.State,e3.Ending,e3.Berth⟩ : VStewCopy))).set x0_2.toNat ((⟨e4.Service,e4.Number,IntKind.i64.wrap ((IntKind.i64.wrap (x0_1+1))+1),e4.Image,e4.State,e4.Ending,e4.Berth⟩ : VStewCopy))).set x0_2.toNat ((⟨e5.Service,e5.Number,e5.Version,IntKind.i64.wrap ((IntKind.i64.wrap ((IntKind.i64.wrap (x0_1+1))+1))+1),e5.State,e5.Ending,e5.Berth⟩ : VStewCopy)))[x0_2.toNat]? fun e6=>cond (decide (3=0)) none (cond (decide (0≤x0_2)) (cond (decide (x0_2<((((((x0_0.set x0_2.toNat (⟨r1,e2.Number,e2.Version,e2.Image,e2.State,e2.Ending,e2.Berth⟩ : VStewCopy)).set x0_2.toNat ((⟨e3.Service,IntKind.i64.wrap (x0_1+1),e3.Version,e3.Image,e3.State,e3.Ending,e3.Berth⟩ : VStewCopy))).set x0_2.toNat ((⟨e4.Service,e4.Number,IntKind.i64.wrap ((IntKind.i64.wrap (x0_1+1))+1),e4.Image,e4.State,e4.Ending,e4.Berth⟩ : VStewCopy))).set x0_2.toNat ((⟨e5.Service,e5.Number,e5.Version,IntKind.i64.wrap ((IntKind.i64.wrap ((IntKind.i64.wrap (x0_1+1))+1))+1),e5.State,e5.Ending,e5.Berth⟩ : VStewCopy))).set x0_2.toNat ((⟨e6.Service,e6.Number,e6.Version,e6.Image,IntKind.i64.wrap ((IntKind.i64.wrap ((IntKind.i64.wrap ((IntKind.i64.wrap (x0_1+1))+1))+1))+1),e6.Ending,e6.Berth⟩ : VStewCopy))).length : Int))) (Option.bind (((((x0_0.set x0_2.toNat (⟨r1,e2.Number,e2.Version,e2.Image,e2.State,e2.Ending,e2.Berth⟩ : VStewCopy)).set x0_2.toNat ((⟨e3.Service,IntKind.i64.wrap (x0_1+1),e3.Version,e3.Image,e3.State,e3.Ending,e3.Berth⟩ : VStewCopy))).set x0_2.toNat ((⟨e4.Service,e4.Number,IntKind.i64.wrap ((IntKind.i64.wrap (x0_1+1))+1),e4.Image,e4.State,e4.Ending,e4.Berth⟩ : VStewCopy))).set x0_2.toNat ((⟨e5.Service,e5.Number,e5.Version,IntKind.i64.wrap ((IntKind.i64.wrap ((IntKind.i64.wrap (x0_1+1))+1))+1),e5.State,e5.Ending,e5.Berth⟩ : VStewCopy))).set x0_2.toNat ((⟨e6.Service,e6.Number,e6.Version,e6.Image,IntKind.i64.wrap ((IntKind.i64.wrap ((IntKind.i64.wrap ((IntKind.i64.wrap (x0_1+1))+1))+1))+1),e6.Ending,e6.Berth⟩ : VStewCopy)))[x0_2.toNat]? fun e7=>Option.bind (G73 (IntKind.i64.wrap ((IntKind.i64.wrap ((IntKind.i64.wrap ((IntKind.i64.wrap ((IntKind.i64.wrap ((IntKind.i64.wrap (x0_1+1))+1))+1))+1))+1))+1))) fun r8 =>
 cond (decide (0≤x0_2)) (cond (decide (x0_2<(((((((x0_0.set x0_2.toNat (⟨r1,e2.Number,e2.Version,e2.Image,e2.State,e2.Ending,e2.Berth⟩ : VStewCopy)).set x0_2.toNat ((⟨e3.Service,IntKind.i64.wrap (x0_1+1),e3.Version,e3.Image,e3.State,e3.Ending,e3.Berth⟩ : VStewCopy))).set x0_2.toNat ((⟨e4.Service,e4.Number,IntKind.i64.wrap ((IntKind.i64.wrap (x0_1+1))+1),e4.Image,e4.State,e4.Ending,e4.Berth⟩ : VStewCopy))).set x0_2.toNat ((⟨e5.Service,e5.Number,e5.Version,IntKind.i64.wrap ((IntKind.i64.wrap ((IntKind.i64.wrap (x0_1+1))+1))+1),e5.State,e5.Ending,e5.Berth⟩ : VStewCopy))).set x0_2.toNat ((⟨e6.Service,e6.Number,e6.Version,e6.Image,IntKind.i64.wrap ((IntKind.i64.wrap ((IntKind.i64.wrap ((IntKind.i64.wrap (x0_1+1))+1))+1))+1),e6.Ending,e6.Berth⟩ : VStewCopy))).set x0_2.toNat ((⟨e7.Service,e7.Number,e7.Version,e7.Image,e7.State,((IntKind.i64.wrap ((IntKind.i64.wrap ((IntKind.i64.wrap ((IntKind.i64.wrap ((IntKind.i64.wrap (x0_1+1))+1))+1))+1))+1)).tmod 3) == 0,e7.Berth⟩ : VStewCopy))).length : Int))) (Option.bind ((((((x0_0.set x0_2.toNat (⟨r1,e2.Number,e2.Version,e2.Image,e2.State,e2.Ending,e2.Berth⟩ : VStewCopy)).set x0_2.toNat ((⟨e3.Service,IntKind.i64.wrap (x0_1+1),e3.Version,e3.Image,e3.State,e3.Ending,e3.Berth⟩ : VStewCopy))).set x0_2.toNat ((⟨e4.Service,e4.Number,IntKind.i64.wrap ((IntKind.i64.wrap (x0_1+1))+1),e4.Image,e4.State,e4.Ending,e4.Berth⟩ : VStewCopy))).set x0_2.toNat ((⟨e5.Service,e5.Number,e5.Version,IntKind.i64.wrap ((IntKind.i64.wrap ((IntKind.i64.wrap (x0_1+1))+1))+1),e5.State,e5.Ending,e5.Berth⟩ : VStewCopy))).set x0_2.toNat ((⟨e6.Service,e6.Number,e6.Version,e6.Image,IntKind.i64.wrap ((IntKind.i64.wrap ((IntKind.i64.wrap ((IntKind.i64.wrap (x0_1+1))+1))+1))+1),e6.Ending,e6.Berth⟩ : VStewCopy))).set x0_2.toNat ((⟨e7.Service,e7.Number,e7.Version,e7.Image,e7.State,((IntKind.i64.wrap ((IntKind.i64.wrap ((IntKind.i64.wrap ((IntKind.i64.wrap ((IntKind.i64.wrap (x0_1+1))+1))+1))+1))+1)).tmod 3) == 0,e7.Berth⟩ : VStewCopy)))[x0_2.toNat]? fun e9=>rec0 ((((((((x0_0.set x0_2.toNat (⟨r1,e2.Number,e2.Version,e2.Image,e2.State,e2.Ending,e2.Berth⟩ : VStewCopy)).set x0_2.toNat ((⟨e3.Service,IntKind.i64.wrap (x0_1+1),e3.Version,e3.Image,e3.State,e3.Ending,e3.Berth⟩ : VStewCopy))).set x0_2.toNat ((⟨e4.Service,e4.Number,IntKind.i64.wrap ((IntKind.i64.wrap (x0_1+1))+1),e4.Image,e4.State,e4.Ending,e4.Berth⟩ : VStewCopy))).set x0_2.toNat ((⟨e5.Service,e5.Number,e5.Version,IntKind.i64.wrap ((IntKind.i64.wrap ((IntKind.i64.wrap (x0_1+1))+1))+1),e5.State,e5.Ending,e5.Berth⟩ : VStewCopy))).set x0_2.toNat ((⟨e6.Service,e6.Number,e6.Version,e6.Image,IntKind.i64.wrap ((IntKind.i64.wrap ((IntKind.i64.wrap ((IntKind.i64.wrap (x0_1+1))+1))+1))+1),e6.Ending,e6.Berth⟩ : VStewCopy))).set x0_2.toNat ((⟨e7.Service,e7.Number,e7.Version,e7.Image,e7.State,((IntKind.i64.wrap ((IntKind.i64.wrap ((IntKind.i64.wrap ((IntKind.i64.wrap ((IntKind.i64.wrap (x0_1+1))+1))+1))+1))+1)).tmod 3) == 0,e7.Berth⟩ : VStewCopy))).set x0_2.toNat (⟨e9.Service,e9.Number,e9.Version,e9.Image,e9.State,e9.Ending,r8⟩ : VStewCopy),IntKind.i64.wrap ((IntKind.i64.wrap ((IntKind.i64.wrap ((IntKind.i64.wrap ((IntKind.i64.wrap ((IntKind.i64.wrap ((IntKind.i64.wrap (x0_1+1))+1))+1))+1))+1))+1))+1),IntKind.i64.wrap (x0_2+1)))) none) none) none) none)) none) none) none) none) none) none) none) none) none) none)
 (some (x0_0,x0_1))
noncomputable def LP34_0 (n : Nat)   (x : A34_0) : Option (List (C .e83)×Int):=lpN (r34_0 n  ) n x
noncomputable def MP34_0 (kp : Nat→Prop) (kh : Nat→Option Obj) (hd : Nat→Value) (n : Nat)   (x : A34_0) : Option (List (C .e83)×Int):=iter (fun rec S=>run (X34.gh kp kh hd) (F34 n) (codeAt (bodyOf Try.f34) [1,0,1,0,0]) 0 S (lopK rec (blkK 0 (seqK (run (X34.gh kp kh hd) (F34 n) (codeAt (bodyOf Try.f34) [1,1]) 0) (kTopW (X34.gh kp kh hd) Try.f34 [true,false] dec34))))) [0,1,5] n (s34_0  x)
theorem m34_0 (kp : Nat→Prop) (kh : Nat→Option Obj) (hd : Nat→Value) (n : Nat)   (x : A34_0) : MP34_0 kp kh hd n   x=LP34_0 n   x:=by
  refine iter_eq (s34_0 ) (r34_0 n  ) (fun rec0 x => ?_) n x
  obtain ⟨x0_0,x0_1,x0_2⟩:=x
  kernel_rfl
noncomputable def G34n (n : Nat) (a0 : List (C .e83)) (a1 : Int) : Option (List (C .e83)×Int) :=
 LP34_0 n    (a0,a1,0)
theorem t34 (kp : Nat→Prop) (kh : Nat→Option Obj) (hd : Nat→Value) (n : Nat) (a0 : List (C .e83)) (a1 : Int) : runFnW (X34.gh kp kh hd) (F34 n) Try.f34 [(false,[.row .e83 a0]),(false,[.int .i64 a1])] dec34=G34n n a0 a1:=by
  refine Eq.trans (b :=
   MP34_0 kp kh hd n    (a0,a1,0)) (by kernel_rfl) ?_
  simp only [G34n,m34_0]
noncomputable def G34 (a0 : List (C .e83)) (a1 : Int) : Option (List (C .e83)×Int):=G34n fuel a0 a1
noncomputable def con34 : ConW C:=mkW KK [.row .e83,.int .i64] [.e83] [.int .i64] G34
theorem c34 : ConWOk Try.prog KK 34 con34:=wO (mkQ ⟨c73,trivial⟩ trivial trivial : Cons Try.prog X34) (fn:=Try.f34) (by kernel_rfl) (by kernel_rfl) (by kernel_rfl) (by kernel_rfl) (F34 fuel) (by kernel_rfl) fun kp kh hd=>fun a0 a1=>t34 kp kh hd fuel a0 a1
/-! ### f35 loop.example/wharfdesk/laws.markStewBerthS -/
noncomputable def X35 : Cx C:=mkX [(73,con73)] [] [] [] 2293760 []
def F35 (n : Nat) : Cf:={ N:=n,keep:=[0,1,4,5,9],live:=lk [(0,[0,1,5])] }
noncomputable abbrev dec35:=deW KK [.e81] [.int .i64]
abbrev A35_0 : Type:=List (C .e81)×Int×Int
def s35_0  : A35_0→St C:=fun (x0_0,x0_1,x0_2)=>{ env:=[(0,.one (.ref 100000 [])),(1,.one (.int .i64 x0_1)),(5,.one (.int .i64 x0_2)),(90000,.frame),(90001,.hdr 100000 0)],objs:=[(100000,.row .e81 x0_0 false)],base:=0 }
noncomputable def r35_0 (n : Nat)   (rec0 : A35_0→Option (List (C .e81)×Int)) : A35_0→Option (List (C .e81)×Int):=fun (x0_0,x0_1,x0_2) =>
 cond (decide (x0_2<(x0_0.length : Int)))
 (Option.bind (G73 x0_1) fun r1 =>
 cond (decide (0≤x0_2)) (cond (decide (x0_2<(x0_0.length : Int))) (Option.bind x0_0[x0_2.toNat]? fun e2=>cond (decide (3=0)) none (cond (decide (0≤x0_2)) (cond (decide (x0_2<((x0_0.set x0_2.toNat (⟨r1,e2.Drain⟩ : VStewBerth)).length : Int))) (Option.bind (x0_0.set x0_2.toNat (⟨r1,e2.Drain⟩ : VStewBerth))[x0_2.toNat]? fun e3=>rec0 (((x0_0.set x0_2.toNat (⟨r1,e2.Drain⟩ : VStewBerth)).set x0_2.toNat ((⟨e3.Name,((IntKind.i64.wrap (x0_1+1)).tmod 3) == 0⟩ : VStewBerth)),IntKind.i64.wrap ((IntKind.i64.wrap (x0_1+1))+1),IntKind.i64.wrap (x0_2+1)))) none) none)) none) none)
 (some (x0_0,x0_1))
noncomputable def LP35_0 (n : Nat)   (x : A35_0) : Option (List (C .e81)×Int):=lpN (r35_0 n  ) n x
noncomputable def MP35_0 (kp : Nat→Prop) (kh : Nat→Option Obj) (hd : Nat→Value) (n : Nat)   (x : A35_0) : Option (List (C .e81)×Int):=iter (fun rec S=>run (X35.gh kp kh hd) (F35 n) (codeAt (bodyOf Try.f35) [1,0,1,0,0]) 0 S (lopK rec (blkK 0 (seqK (run (X35.gh kp kh hd) (F35 n) (codeAt (bodyOf Try.f35) [1,1]) 0) (kTopW (X35.gh kp kh hd) Try.f35 [true,false] dec35))))) [0,1,5] n (s35_0  x)
theorem m35_0 (kp : Nat→Prop) (kh : Nat→Option Obj) (hd : Nat→Value) (n : Nat)   (x : A35_0) : MP35_0 kp kh hd n   x=LP35_0 n   x:=by
  refine iter_eq (s35_0 ) (r35_0 n  ) (fun rec0 x => ?_) n x
  obtain ⟨x0_0,x0_1,x0_2⟩:=x
  kernel_rfl
noncomputable def G35n (n : Nat) (a0 : List (C .e81)) (a1 : Int) : Option (List (C .e81)×Int) :=
 LP35_0 n    (a0,a1,0)
theorem t35 (kp : Nat→Prop) (kh : Nat→Option Obj) (hd : Nat→Value) (n : Nat) (a0 : List (C .e81)) (a1 : Int) : runFnW (X35.gh kp kh hd) (F35 n) Try.f35 [(false,[.row .e81 a0]),(false,[.int .i64 a1])] dec35=G35n n a0 a1:=by
  refine Eq.trans (b :=
   MP35_0 kp kh hd n    (a0,a1,0)) (by kernel_rfl) ?_
  simp only [G35n,m35_0]
noncomputable def G35 (a0 : List (C .e81)) (a1 : Int) : Option (List (C .e81)×Int):=G35n fuel a0 a1
noncomputable def con35 : ConW C:=mkW KK [.row .e81,.int .i64] [.e81] [.int .i64] G35
theorem c35 : ConWOk Try.prog KK 35 con35:=wO (mkQ ⟨c73,trivial⟩ trivial trivial : Cons Try.prog X35) (fn:=Try.f35) (by kernel_rfl) (by kernel_rfl) (by kernel_rfl) (by kernel_rfl) (F35 fuel) (by kernel_rfl) fun kp kh hd=>fun a0 a1=>t35 kp kh hd fuel a0 a1
/-! ### f12 loop.example/wharfdesk/laws.markStewBook -/
noncomputable def X12 : Cx C:=mkX [] [(33,con33),(34,con34),(35,con35)] [] [] 786432 []
def F12 (n : Nat) : Cf:={ N:=n,keep:=[0,1,2,4],live:=lk [] }
noncomputable abbrev dec12:=deW KK [.e79,.e83,.e81] [.int .i64]
noncomputable def G12n (n : Nat) (a0 : VStewBook) (a1 : Int) : Option (List (C .e79)×List (C .e83)×List (C .e81)×Int) :=
 Option.bind (G33 a0.Services a1) fun r1 =>
 Option.bind (G34 a0.Copies r1.2) fun r2 =>
 Option.bind (G35 a0.Berths r2.2) fun r3 =>
 some (r1.1,r2.1,r3.1,r3.2)
theorem t12 (kp : Nat→Prop) (kh : Nat→Option Obj) (hd : Nat→Value) (n : Nat) (a0 : VStewBook) (a1 : Int) : runFnW (X12.gh kp kh hd) (F12 n) Try.f12 [(true,[.int .i64 a0.Now,.row .e79 a0.Services,.row .e83 a0.Copies,.row .e81 a0.Berths]),(false,[.int .i64 a1])] dec12=G12n n a0 a1:=by
  kernel_rfl
noncomputable def G12 (a0 : VStewBook) (a1 : Int) : Option (List (C .e79)×List (C .e83)×List (C .e81)×Int):=G12n fuel a0 a1
noncomputable def con12 : ConW C:=mkW KK [.el .e36,.int .i64] [.e79,.e83,.e81] [.int .i64] G12
theorem c12 : ConWOk Try.prog KK 12 con12:=wO (mkQ trivial ⟨c33,c34,c35,trivial⟩ trivial : Cons Try.prog X12) (fn:=Try.f12) (by kernel_rfl) (by kernel_rfl) (by kernel_rfl) (by kernel_rfl) (F12 fuel) (by kernel_rfl) fun kp kh hd=>fun a0 a1=>t12 kp kh hd fuel a0 a1
/-! ### f36 loop.example/wharfdesk/laws.markStewEndS -/
noncomputable def X36 : Cx C:=mkX [] [] [] [] 2359296 []
def F36 (n : Nat) : Cf:={ N:=n,keep:=[0,1,4,5,9],live:=lk [(0,[0,1,5])] }
noncomputable abbrev dec36:=deW KK [.e89] [.int .i64]
abbrev A36_0 : Type:=List (C .e89)×Int×Int
def s36_0  : A36_0→St C:=fun (x0_0,x0_1,x0_2)=>{ env:=[(0,.one (.ref 100000 [])),(1,.one (.int .i64 x0_1)),(5,.one (.int .i64 x0_2)),(90000,.frame),(90001,.hdr 100000 0)],objs:=[(100000,.row .e89 x0_0 false)],base:=0 }
noncomputable def r36_0 (n : Nat)   (rec0 : A36_0→Option (List (C .e89)×Int)) : A36_0→Option (List (C .e89)×Int):=fun (x0_0,x0_1,x0_2) =>
 cond (decide (x0_2<(x0_0.length : Int)))
 (cond (decide (0≤x0_2)) (cond (decide (x0_2<(x0_0.length : Int))) (Option.bind x0_0[x0_2.toNat]? fun e1=>cond (decide (0≤x0_2)) (cond (decide (x0_2<((x0_0.set x0_2.toNat (⟨x0_1,e1.Seen⟩ : VStewEnd)).length : Int))) (Option.bind (x0_0.set x0_2.toNat (⟨x0_1,e1.Seen⟩ : VStewEnd))[x0_2.toNat]? fun e2=>rec0 (((x0_0.set x0_2.toNat (⟨x0_1,e1.Seen⟩ : VStewEnd)).set x0_2.toNat ((⟨e2.Number,IntKind.i64.wrap (x0_1+1)⟩ : VStewEnd)),IntKind.i64.wrap ((IntKind.i64.wrap (x0_1+1))+1),IntKind.i64.wrap (x0_2+1)))) none) none) none) none)
 (some (x0_0,x0_1))
noncomputable def LP36_0 (n : Nat)   (x : A36_0) : Option (List (C .e89)×Int):=lpN (r36_0 n  ) n x
noncomputable def MP36_0 (kp : Nat→Prop) (kh : Nat→Option Obj) (hd : Nat→Value) (n : Nat)   (x : A36_0) : Option (List (C .e89)×Int):=iter (fun rec S=>run (X36.gh kp kh hd) (F36 n) (codeAt (bodyOf Try.f36) [1,0,1,0,0]) 0 S (lopK rec (blkK 0 (seqK (run (X36.gh kp kh hd) (F36 n) (codeAt (bodyOf Try.f36) [1,1]) 0) (kTopW (X36.gh kp kh hd) Try.f36 [true,false] dec36))))) [0,1,5] n (s36_0  x)
theorem m36_0 (kp : Nat→Prop) (kh : Nat→Option Obj) (hd : Nat→Value) (n : Nat)   (x : A36_0) : MP36_0 kp kh hd n   x=LP36_0 n   x:=by
  refine iter_eq (s36_0 ) (r36_0 n  ) (fun rec0 x => ?_) n x
  obtain ⟨x0_0,x0_1,x0_2⟩:=x
  kernel_rfl
noncomputable def G36n (n : Nat) (a0 : List (C .e89)) (a1 : Int) : Option (List (C .e89)×Int) :=
 LP36_0 n    (a0,a1,0)
theorem t36 (kp : Nat→Prop) (kh : Nat→Option Obj) (hd : Nat→Value) (n : Nat) (a0 : List (C .e89)) (a1 : Int) : runFnW (X36.gh kp kh hd) (F36 n) Try.f36 [(false,[.row .e89 a0]),(false,[.int .i64 a1])] dec36=G36n n a0 a1:=by
  refine Eq.trans (b :=
   MP36_0 kp kh hd n    (a0,a1,0)) (by kernel_rfl) ?_
  simp only [G36n,m36_0]
noncomputable def G36 (a0 : List (C .e89)) (a1 : Int) : Option (List (C .e89)×Int):=G36n fuel a0 a1
noncomputable def con36 : ConW C:=mkW KK [.row .e89,.int .i64] [.e89] [.int .i64] G36
theorem c36 : ConWOk Try.prog KK 36 con36:=wO (mkQ trivial trivial trivial : Cons Try.prog X36) (fn:=Try.f36) (by kernel_rfl) (by kernel_rfl) (by kernel_rfl) (by kernel_rfl) (F36 fuel) (by kernel_rfl) fun kp kh hd=>fun a0 a1=>t36 kp kh hd fuel a0 a1
/-! ### f13 loop.example/wharfdesk/laws.markStewAct -/
noncomputable def X13 : Cx C:=mkX [] [(36,con36)] [] [] 851968 []
def F13 (n : Nat) : Cf:={ N:=n,keep:=[0,1,2,4],live:=lk [] }
noncomputable abbrev dec13:=deW KK [.e89] [.int .i64]
noncomputable def G13n (n : Nat) (a0 : VStewAct) (a1 : Int) : Option (List (C .e89)×Int) :=
 Option.bind (G36 a0.Ends a1) fun r1 =>
 some (r1.1,r1.2)
theorem t13 (kp : Nat→Prop) (kh : Nat→Option Obj) (hd : Nat→Value) (n : Nat) (a0 : VStewAct) (a1 : Int) : runFnW (X13.gh kp kh hd) (F13 n) Try.f13 [(true,[.str a0.Service,.int .i64 a0.Seen,.int .i64 a0.Create,.int .i64 a0.Want,.int .i64 a0.Cool,.bool a0.Scale,.row .e89 a0.Ends,.bool a0.Drop]),(false,[.int .i64 a1])] dec13=G13n n a0 a1:=by
  kernel_rfl
noncomputable def G13 (a0 : VStewAct) (a1 : Int) : Option (List (C .e89)×Int):=G13n fuel a0 a1
noncomputable def con13 : ConW C:=mkW KK [.el .e42,.int .i64] [.e89] [.int .i64] G13
theorem c13 : ConWOk Try.prog KK 13 con13:=wO (mkQ trivial ⟨c36,trivial⟩ trivial : Cons Try.prog X13) (fn:=Try.f13) (by kernel_rfl) (by kernel_rfl) (by kernel_rfl) (by kernel_rfl) (F13 fuel) (by kernel_rfl) fun kp kh hd=>fun a0 a1=>t13 kp kh hd fuel a0 a1
/-! ### f37 loop.example/wharfdesk/laws.heldStewServiceS -/
noncomputable def X37 : Cx C:=mkX [(73,con73)] [] [] [] 2424832 []
def F37 (n : Nat) : Cf:={ N:=n,keep:=[0,1,4,5,9,19,28,39,48,57,66,75,84,93,102,111,120,129],live:=lk [(0,[0,1,5])] }
noncomputable abbrev dec37:=deR KK [.int .i64]
abbrev A37_0 : Type:=List (C .e79)×Int×Int
def s37_0  : A37_0→St C:=fun (x0_0,x0_1,x0_2)=>{ env:=[(0,.one (.row .e79 x0_0)),(1,.one (.int .i64 x0_1)),(5,.one (.int .i64 x0_2))],objs:=[],base:=0 }
noncomputable def r37_0 (n : Nat)   (rec0 : A37_0→Option (Int)) : A37_0→Option (Int):=fun (x0_0,x0_1,x0_2) =>
 cond (decide (x0_2<(x0_0.length : Int)))
 (cond (decide (0≤x0_2)) (Option.bind x0_0[x0_2.toNat]? fun e1=>Option.bind (G73 x0_1) fun r2 =>
 cond (!decide (e1.Name=r2))
 (some ((-1)))
 (cond (decide (0≤x0_2)) (Option.bind x0_0[x0_2.toNat]? fun e3=>cond (e3.Version != (IntKind.i64.wrap (x0_1+1)))
 (some ((-1)))
 (cond (decide (0≤x0_2)) (Option.bind x0_0[x0_2.toNat]? fun e4=>cond (decide (3=0)) none (cond (!(e4.Gone == (((IntKind.i64.wrap ((IntKind.i64.wrap (x0_1+1))+1)).tmod 3) == 0)))
 (some ((-1)))
 (cond (decide (0≤x0_2)) (Option.bind x0_0[x0_2.toNat]? fun e5=>cond (e5.Image != (IntKind.i64.wrap ((IntKind.i64.wrap ((IntKind.i64.wrap (x0_1+1))+1))+1)))
 (some ((-1)))
 (cond (decide (0≤x0_2)) (Option.bind x0_0[x0_2.toNat]? fun e6=>cond (e6.Want != (IntKind.i64.wrap ((IntKind.i64.wrap ((IntKind.i64.wrap ((IntKind.i64.wrap (x0_1+1))+1))+1))+1)))
 (some ((-1)))
 (cond (decide (0≤x0_2)) (Option.bind x0_0[x0_2.toNat]? fun e7=>cond (e7.Down != (IntKind.i64.wrap ((IntKind.i64.wrap ((IntKind.i64.wrap ((IntKind.i64.wrap ((IntKind.i64.wrap (x0_1+1))+1))+1))+1))+1)))
 (some ((-1)))
 (cond (decide (0≤x0_2)) (Option.bind x0_0[x0_2.toNat]? fun e8=>cond (e8.Over != (IntKind.i64.wrap ((IntKind.i64.wrap ((IntKind.i64.wrap ((IntKind.i64.wrap ((IntKind.i64.wrap ((IntKind.i64.wrap (x0_1+1))+1))+1))+1))+1))+1)))
 (some ((-1)))
 (cond (decide (0≤x0_2)) (Option.bind x0_0[x0_2.toNat]? fun e9=>cond (e9.Next != (IntKind.i64.wrap ((IntKind.i64.wrap ((IntKind.i64.wrap ((IntKind.i64.wrap ((IntKind.i64.wrap ((IntKind.i64.wrap ((IntKind.i64.wrap (x0_1+1))+1))+1))+1))+1))+1))+1)))
 (some ((-1)))
 (cond (decide (0≤x0_2)) (Option.bind x0_0[x0_2.toNat]? fun e10=>cond (e10.Per != (IntKind.i64.wrap ((IntKind.i64.wrap ((IntKind.i64.wrap ((IntKind.i64.wrap ((IntKind.i64.wrap ((IntKind.i64.wrap ((IntKind.i64.wrap ((IntKind.i64.wrap (x0_1+1))+1))+1))+1))+1))+1))+1))+1)))
 (some ((-1)))
 (cond (decide (0≤x0_2)) (Option.bind x0_0[x0_2.toNat]? fun e11=>cond (e11.Least != (IntKind.i64.wrap ((IntKind.i64.wrap ((IntKind.i64.wrap ((IntKind.i64.wrap ((IntKind.i64.wrap ((IntKind.i64.wrap ((IntKind.i64.wrap ((IntKind.i64.wrap ((IntKind.i64.wrap (x0_1+1))+1))+1))+1))+1))+1))+1))+1))+1)))
 (some ((-1)))
 (cond (decide (0≤x0_2)) (Option.bind x0_0[x0_2.toNat]? fun e12=>cond (e12.Most != (IntKind.i64.wrap ((IntKind.i64.wrap ((IntKind.i64.wrap ((IntKind.i64.wrap ((IntKind.i64.wrap ((IntKind.i64.wrap ((IntKind.i64.wrap ((IntKind.i64.wrap ((IntKind.i64.wrap ((IntKind.i64.wrap (x0_1+1))+1))+1))+1))+1))+1))+1))+1))+1))+1)))
 (some ((-1)))
 (cond (decide (0≤x0_2)) (Option.bind x0_0[x0_2.toNat]? fun e13=>cond (e13.Load != (IntKind.i64.wrap ((IntKind.i64.wrap ((IntKind.i64.wrap ((IntKind.i64.wrap ((IntKind.i64.wrap ((IntKind.i64.wrap ((IntKind.i64.wrap ((IntKind.i64.wrap ((IntKind.i64.wrap ((IntKind.i64.wrap ((IntKind.i64.wrap (x0_1+1))+1))+1))+1))+1))+1))+1))+1))+1))+1))+1)))
 (some ((-1)))
 (cond (decide (0≤x0_2)) (Option.bind x0_0[x0_2.toNat]? fun e14=>cond (e14.Cool != (IntKind.i64.wrap ((IntKind.i64.wrap ((IntKind.i64.wrap ((IntKind.i64.wrap ((IntKind.i64.wrap ((IntKind.i64.wrap ((IntKind.i64.wrap ((IntKind.i64.wrap ((IntKind.i64.wrap ((IntKind.i64.wrap ((IntKind.i64.wrap ((IntKind.i64.wrap (x0_1+1))+1))+1))+1))+1))+1))+1))+1))+1))+1))+1))+1)))
 (some ((-1)))
 (rec0 ((x0_0,IntKind.i64.wrap ((IntKind.i64.wrap ((IntKind.i64.wrap ((IntKind.i64.wrap ((IntKind.i64.wrap ((IntKind.i64.wrap ((IntKind.i64.wrap ((IntKind.i64.wrap ((IntKind.i64.wrap ((IntKind.i64.wrap ((IntKind.i64.wrap ((IntKind.i64.wrap ((IntKind.i64.wrap (x0_1+1))+1))+1))+1))+1))+1))+1))+1))+1))+1))+1))+1))+1),IntKind.i64.wrap (x0_2+1))))) none)) none)) none)) none)) none)) none)) none)) none)) none)) none))) none)) none)) none)
 (some (x0_1))
noncomputable def LP37_0 (n : Nat)   (x : A37_0) : Option (Int):=lpN (r37_0 n  ) n x
noncomputable def MP37_0 (n : Nat)   (x : A37_0) : Option (Int):=iter (fun rec S=>run X37 (F37 n) (codeAt (bodyOf Try.f37) [1,0,1,0,0]) 0 S (lopK rec (blkK 0 (seqK (run X37 (F37 n) (codeAt (bodyOf Try.f37) [1,1]) 0) (kTop X37 Try.f37 dec37))))) [0,1,5] n (s37_0  x)
theorem m37_0 (n : Nat)   (x : A37_0) : MP37_0 n   x=LP37_0 n   x:=by
  refine iter_eq (s37_0 ) (r37_0 n  ) (fun rec0 x => ?_) n x
  obtain ⟨x0_0,x0_1,x0_2⟩:=x
  kernel_rfl
noncomputable def G37n (n : Nat) (a0 : List (C .e79)) (a1 : Int) : Option (Int) :=
 LP37_0 n    (a0,a1,0)
theorem t37 (n : Nat) (a0 : List (C .e79)) (a1 : Int) : runFn X37 (F37 n) Try.f37 [.one (.row .e79 a0),.one (.int .i64 a1)] dec37=G37n n a0 a1:=by
  refine Eq.trans (b :=
   MP37_0 n    (a0,a1,0)) (by kernel_rfl) ?_
  simp only [G37n,m37_0]
noncomputable def G37 (a0 : List (C .e79)) (a1 : Int) : Option (Int):=G37n fuel a0 a1
noncomputable def con37 : Con C:=mkC KK [.row .e79,.int .i64] [.int .i64] G37
theorem c37 : ConOk Try.prog KK 37 con37:=cO (mkQ ⟨c73,trivial⟩ trivial trivial : Cons Try.prog X37) (fn:=Try.f37) (by kernel_rfl) (by kernel_rfl) (by kernel_rfl) (by kernel_rfl) (F37 fuel) (by kernel_rfl) (fun a0 a1=>t37 fuel a0 a1)
/-! ### f38 loop.example/wharfdesk/laws.heldStewCopyS -/
noncomputable def X38 : Cx C:=mkX [(73,con73)] [] [] [] 2490368 []
def F38 (n : Nat) : Cf:={ N:=n,keep:=[0,1,4,5,9,19,28,37,46,55,66,76],live:=lk [(0,[0,1,5])] }
noncomputable abbrev dec38:=deR KK [.int .i64]
abbrev A38_0 : Type:=List (C .e83)×Int×Int
def s38_0  : A38_0→St C:=fun (x0_0,x0_1,x0_2)=>{ env:=[(0,.one (.row .e83 x0_0)),(1,.one (.int .i64 x0_1)),(5,.one (.int .i64 x0_2))],objs:=[],base:=0 }
noncomputable def r38_0 (n : Nat)   (rec0 : A38_0→Option (Int)) : A38_0→Option (Int):=fun (x0_0,x0_1,x0_2) =>
 cond (decide (x0_2<(x0_0.length : Int)))
 (cond (decide (0≤x0_2)) (Option.bind x0_0[x0_2.toNat]? fun e1=>Option.bind (G73 x0_1) fun r2 =>
 cond (!decide (e1.Service=r2))
 (some ((-1)))
 (cond (decide (0≤x0_2)) (Option.bind x0_0[x0_2.toNat]? fun e3=>cond (e3.Number != (IntKind.i64.wrap (x0_1+1)))
 (some ((-1)))
 (cond (decide (0≤x0_2)) (Option.bind x0_0[x0_2.toNat]? fun e4=>cond (e4.Version != (IntKind.i64.wrap ((IntKind.i64.wrap (x0_1+1))+1)))
 (some ((-1)))
 (cond (decide (0≤x0_2)) (Option.bind x0_0[x0_2.toNat]? fun e5=>cond (e5.Image != (IntKind.i64.wrap ((IntKind.i64.wrap ((IntKind.i64.wrap (x0_1+1))+1))+1)))
 (some ((-1)))
 (cond (decide (0≤x0_2)) (Option.bind x0_0[x0_2.toNat]? fun e6=>cond (e6.State != (IntKind.i64.wrap ((IntKind.i64.wrap ((IntKind.i64.wrap ((IntKind.i64.wrap (x0_1+1))+1))+1))+1)))
 (some ((-1)))
 (cond (decide (0≤x0_2)) (Option.bind x0_0[x0_2.toNat]? fun e7=>cond (decide (3=0)) none (cond (!(e7.Ending == (((IntKind.i64.wrap ((IntKind.i64.wrap ((IntKind.i64.wrap ((IntKind.i64.wrap ((IntKind.i64.wrap (x0_1+1))+1))+1))+1))+1)).tmod 3) == 0)))
 (some ((-1)))
 (cond (decide (0≤x0_2)) (Option.bind x0_0[x0_2.toNat]? fun e8=>Option.bind (G73 (IntKind.i64.wrap ((IntKind.i64.wrap ((IntKind.i64.wrap ((IntKind.i64.wrap ((IntKind.i64.wrap ((IntKind.i64.wrap (x0_1+1))+1))+1))+1))+1))+1))) fun r9 =>
 cond (!decide (e8.Berth=r9))
 (some ((-1)))
 (rec0 ((x0_0,IntKind.i64.wrap ((IntKind.i64.wrap ((IntKind.i64.wrap ((IntKind.i64.wrap ((IntKind.i64.wrap ((IntKind.i64.wrap ((IntKind.i64.wrap (x0_1+1))+1))+1))+1))+1))+1))+1),IntKind.i64.wrap (x0_2+1))))) none))) none)) none)) none)) none)) none)) none)
 (some (x0_1))
noncomputable def LP38_0 (n : Nat)   (x : A38_0) : Option (Int):=lpN (r38_0 n  ) n x
noncomputable def MP38_0 (n : Nat)   (x : A38_0) : Option (Int):=iter (fun rec S=>run X38 (F38 n) (codeAt (bodyOf Try.f38) [1,0,1,0,0]) 0 S (lopK rec (blkK 0 (seqK (run X38 (F38 n) (codeAt (bodyOf Try.f38) [1,1]) 0) (kTop X38 Try.f38 dec38))))) [0,1,5] n (s38_0  x)
theorem m38_0 (n : Nat)   (x : A38_0) : MP38_0 n   x=LP38_0 n   x:=by
  refine iter_eq (s38_0 ) (r38_0 n  ) (fun rec0 x => ?_) n x
  obtain ⟨x0_0,x0_1,x0_2⟩:=x
  kernel_rfl
noncomputable def G38n (n : Nat) (a0 : List (C .e83)) (a1 : Int) : Option (Int) :=
 LP38_0 n    (a0,a1,0)
theorem t38 (n : Nat) (a0 : List (C .e83)) (a1 : Int) : runFn X38 (F38 n) Try.f38 [.one (.row .e83 a0),.one (.int .i64 a1)] dec38=G38n n a0 a1:=by
  refine Eq.trans (b :=
   MP38_0 n    (a0,a1,0)) (by kernel_rfl) ?_
  simp only [G38n,m38_0]
noncomputable def G38 (a0 : List (C .e83)) (a1 : Int) : Option (Int):=G38n fuel a0 a1
noncomputable def con38 : Con C:=mkC KK [.row .e83,.int .i64] [.int .i64] G38
theorem c38 : ConOk Try.prog KK 38 con38:=cO (mkQ ⟨c73,trivial⟩ trivial trivial : Cons Try.prog X38) (fn:=Try.f38) (by kernel_rfl) (by kernel_rfl) (by kernel_rfl) (by kernel_rfl) (F38 fuel) (by kernel_rfl) (fun a0 a1=>t38 fuel a0 a1)
/-! ### f39 loop.example/wharfdesk/laws.heldStewBerthS -/
noncomputable def X39 : Cx C:=mkX [(73,con73)] [] [] [] 2555904 []
def F39 (n : Nat) : Cf:={ N:=n,keep:=[0,1,4,5,9,19,30],live:=lk [(0,[0,1,5])] }
noncomputable abbrev dec39:=deR KK [.int .i64]
abbrev A39_0 : Type:=List (C .e81)×Int×Int
def s39_0  : A39_0→St C:=fun (x0_0,x0_1,x0_2)=>{ env:=[(0,.one (.row .e81 x0_0)),(1,.one (.int .i64 x0_1)),(5,.one (.int .i64 x0_2))],objs:=[],base:=0 }
noncomputable def r39_0 (n : Nat)   (rec0 : A39_0→Option (Int)) : A39_0→Option (Int):=fun (x0_0,x0_1,x0_2) =>
 cond (decide (x0_2<(x0_0.length : Int)))
 (cond (decide (0≤x0_2)) (Option.bind x0_0[x0_2.toNat]? fun e1=>Option.bind (G73 x0_1) fun r2 =>
 cond (!decide (e1.Name=r2))
 (some ((-1)))
 (cond (decide (0≤x0_2)) (Option.bind x0_0[x0_2.toNat]? fun e3=>cond (decide (3=0)) none (cond (!(e3.Drain == (((IntKind.i64.wrap (x0_1+1)).tmod 3) == 0)))
 (some ((-1)))
 (rec0 ((x0_0,IntKind.i64.wrap ((IntKind.i64.wrap (x0_1+1))+1),IntKind.i64.wrap (x0_2+1)))))) none)) none)
 (some (x0_1))
noncomputable def LP39_0 (n : Nat)   (x : A39_0) : Option (Int):=lpN (r39_0 n  ) n x
noncomputable def MP39_0 (n : Nat)   (x : A39_0) : Option (Int):=iter (fun rec S=>run X39 (F39 n) (codeAt (bodyOf Try.f39) [1,0,1,0,0]) 0 S (lopK rec (blkK 0 (seqK (run X39 (F39 n) (codeAt (bodyOf Try.f39) [1,1]) 0) (kTop X39 Try.f39 dec39))))) [0,1,5] n (s39_0  x)
theorem m39_0 (n : Nat)   (x : A39_0) : MP39_0 n   x=LP39_0 n   x:=by
  refine iter_eq (s39_0 ) (r39_0 n  ) (fun rec0 x => ?_) n x
  obtain ⟨x0_0,x0_1,x0_2⟩:=x
  kernel_rfl
noncomputable def G39n (n : Nat) (a0 : List (C .e81)) (a1 : Int) : Option (Int) :=
 LP39_0 n    (a0,a1,0)
theorem t39 (n : Nat) (a0 : List (C .e81)) (a1 : Int) : runFn X39 (F39 n) Try.f39 [.one (.row .e81 a0),.one (.int .i64 a1)] dec39=G39n n a0 a1:=by
  refine Eq.trans (b :=
   MP39_0 n    (a0,a1,0)) (by kernel_rfl) ?_
  simp only [G39n,m39_0]
noncomputable def G39 (a0 : List (C .e81)) (a1 : Int) : Option (Int):=G39n fuel a0 a1
noncomputable def con39 : Con C:=mkC KK [.row .e81,.int .i64] [.int .i64] G39
theorem c39 : ConOk Try.prog KK 39 con39:=cO (mkQ ⟨c73,trivial⟩ trivial trivial : Cons Try.prog X39) (fn:=Try.f39) (by kernel_rfl) (by kernel_rfl) (by kernel_rfl) (by kernel_rfl) (F39 fuel) (by kernel_rfl) (fun a0 a1=>t39 fuel a0 a1)
/-! ### f14 loop.example/wharfdesk/laws.heldStewBook -/
noncomputable def X14 : Cx C:=mkX [(37,con37),(38,con38),(39,con39)] [] [] [] 917504 []
def F14 (n : Nat) : Cf:={ N:=n,keep:=[0,1,2,4,10,16,22],live:=lk [] }
noncomputable abbrev dec14:=deR KK [.int .i64]
noncomputable def G14n (n : Nat) (a0 : VStewBook) (a1 : Int) : Option (Int) :=
 Option.bind (G37 a0.Services a1) fun r1 =>
 cond (decide (r1<0))
 (some ((-1)))
 (Option.bind (G38 a0.Copies r1) fun r2 =>
 cond (decide (r2<0))
 (some ((-1)))
 (Option.bind (G39 a0.Berths r2) fun r3 =>
 cond (decide (r3<0))
 (some ((-1)))
 (some (r3))))
theorem t14 (n : Nat) (a0 : VStewBook) (a1 : Int) : runFn X14 (F14 n) Try.f14 [.agg [.int .i64 a0.Now,.row .e79 a0.Services,.row .e83 a0.Copies,.row .e81 a0.Berths],.one (.int .i64 a1)] dec14=G14n n a0 a1:=by
  kernel_rfl
noncomputable def G14 (a0 : VStewBook) (a1 : Int) : Option (Int):=G14n fuel a0 a1
noncomputable def con14 : Con C:=mkC KK [.el .e36,.int .i64] [.int .i64] G14
theorem c14 : ConOk Try.prog KK 14 con14:=cO (mkQ ⟨c37,c38,c39,trivial⟩ trivial trivial : Cons Try.prog X14) (fn:=Try.f14) (by kernel_rfl) (by kernel_rfl) (by kernel_rfl) (by kernel_rfl) (F14 fuel) (by kernel_rfl) (fun a0 a1=>t14 fuel a0 a1)
/-! ### f3 loop.example/wharfdesk/laws.FnExactStewApply -/
noncomputable def X3 : Cx C:=mkX [(4,con4),(5,con5),(6,con6),(7,con7),(8,con8),(9,con9),(10,con10),(11,con11),(14,con14)] [(12,con12),(13,con13)] [] [] 196608 []
def F3 (n : Nat) : Cf:={ N:=n,keep:=[0,1,2,3,4,5,6,7,8,9,10,11,12,13,14,15,16,21,26,53,58,63,82,90,93,110,115,118],live:=lk [] }
noncomputable abbrev dec3:=deR KK [.bool]
noncomputable def G3n (n : Nat) (a0 : VStewBook) (a1 : VStewAct) : Option (Bool) :=
 Option.bind (G4 a0 1048576) fun r1 =>
 cond (decide (r1<0))
 (some (true))
 (Option.bind (G5 a1 r1) fun r2 =>
 cond (decide (r2<0))
 (some (true))
 (Option.bind (G7 a0) fun r3 =>
 Option.bind (G8 a1) fun r4 =>
 Option.bind (G6 r3 r4) fun r5 =>
 (fun y=>alt y (y))
 (Option.bind (G7 a0) fun r6 =>
 Option.bind (G8 a1) fun r7 =>
 Option.bind (G9 r6 r7) fun r8 =>
 Option.bind (G10 r8.1 r5.1) fun r9 =>
 cond (!r9)
 (some (false))
 (cond (r8.2 != r5.2)
 (some (false))
 (Option.bind (G7 a0) fun r10 =>
 Option.bind (G10 r6 r10) fun r11 =>
 cond (!r11)
 (some (false))
 (Option.bind (G8 a1) fun r12 =>
 Option.bind (G11 r7 r12) fun r13 =>
 cond (!r13)
 (some (false))
 (Option.bind (G12 r6 1) fun r14 =>
 Option.bind (G13 r7 r14.2.2.2) fun r15 =>
 cond (decide (r15.2<0))
 (some (false))
 (Option.bind (G10 r8.1 r5.1) fun r16 =>
 cond (!r16)
 (some (false))
 (cond (r8.2 != r5.2)
 (some (false))
 (Option.bind (G12 r8.1 1) fun r17 =>
 Option.bind (G14 (⟨r8.1.Now,r17.1,r17.2.1,r17.2.2.1⟩ : VStewBook) 1) fun r18 =>
 cond (decide (r18<0))
 (some (false))
 (cond (r18 != r17.2.2.2)
 (some (false))
 (Option.bind (G7 a0) fun r19 =>
 Option.bind (G8 a1) fun r20 =>
 Option.bind (G9 r19 r20) fun r21 =>
 (fun y=>alt y (y))
 (Option.bind (G10 r21.1 r5.1) fun r22 =>
 cond (!r22)
 (some (false))
 (cond (r21.2 != r5.2)
 (some (false))
 (Option.bind (G14 (⟨r8.1.Now,r17.1,r17.2.1,r17.2.2.1⟩ : VStewBook) 1) fun r23 =>
 cond (decide (r23<0))
 (some (false))
 (cond (r23 != r17.2.2.2)
 (some (false))
 (some (true))))))))))))))))))
theorem t3 (n : Nat) (a0 : VStewBook) (a1 : VStewAct) : runFn X3 (F3 n) Try.f3 [.agg [.int .i64 a0.Now,.row .e70 a0.Services,.row .e73 a0.Copies,.row .e76 a0.Berths],.agg [.str a1.Service,.int .i64 a1.Seen,.int .i64 a1.Create,.int .i64 a1.Want,.int .i64 a1.Cool,.bool a1.Scale,.row .e98 a1.Ends,.bool a1.Drop]] dec3=G3n n a0 a1:=by
  kernel_rfl
noncomputable def G3 (a0 : VStewBook) (a1 : VStewAct) : Option (Bool):=G3n fuel a0 a1
noncomputable def con3 : Con C:=mkC KK [.el .e26,.el .e29] [.bool] G3
theorem c3 : ConOk Try.prog KK 3 con3:=cO (mkQ ⟨c4,c5,c6,c7,c8,c9,c10,c11,c14,trivial⟩ ⟨c12,c13,trivial⟩ trivial : Cons Try.prog X3) (fn:=Try.f3) (by kernel_rfl) (by kernel_rfl) (by kernel_rfl) (by kernel_rfl) (F3 fuel) (by kernel_rfl) (fun a0 a1=>t3 fuel a0 a1)

end Go.Proofs.Ytakakoogpmhhkaa.Ab

/- Loops told place by place; numbers that do not overflow. -/
set_option linter.unusedVariables false
set_option linter.unusedSimpArgs false
namespace Go.Proofs.Ytakakoogpmhhkaa.Ab
open Go Go.RowKit

theorem wrap_id {n : Int} (h0 : -9223372036854775808≤n) (h1 : n<9223372036854775808) : IntKind.i64.wrap n=n:=by
  simp [IntKind.wrap,IntKind.bits,IntKind.signed]
  omega

theorem lp_open {A R : Type} {rnd : (A→Option R)→A→Option R} {n : Nat} {x : A} (h : 0<n) : lpN rnd n x=rnd (lpN rnd (n - 1)) x:=by
  obtain ⟨m,rfl⟩ : ∃ k,n=k+1:=⟨n - 1,by omega⟩
  rfl
def allN (p : Nat→Bool) (len i : Nat) : Bool:=(List.range' i (len - i)).all p
theorem allN_step {p : Nat→Bool} {len i : Nat} (h : i<len) : allN p len i=(p i&&allN p len (i+1)):=by
  unfold allN
  rw [show len - i=(len - (i+1))+1 by omega,List.range'_succ]
  rfl
theorem allN_end (p : Nat→Bool) (len : Nat) : allN p len len=true:=by simp [allN]
theorem wrap_pred {i : Nat} (h : 0<i) (h2 : i<4611686018427387904) : IntKind.i64.wrap ((i : Int) - 1)=((i - 1 : Nat) : Int):=by
  rw [wrap_id (by omega) (by omega)]; omega

theorem fuel_big : 1152921504606846976≤fuel:=by unfold fuel; omega
theorem alt_self {R : Type} (a : Option R) : alt a a=a:=by
  unfold alt
  cases a <;> simp
theorem wrap_nat {i : Nat} (h : i<4611686018427387904) : IntKind.i64.wrap ((i : Int)+1)=((i+1 : Nat) : Int):=by
  rw [wrap_id (by omega) (by omega)]; rfl
theorem lp_succ {A R : Type} (rnd : (A→Option R)→A→Option R) (n : Nat) (x : A) : lpN rnd (n+1) x=rnd (lpN rnd n) x:=rfl
/-- A loop over places,its state told place by place. -/
theorem lp_idx {A R : Type} {rnd : (A→Option R)→A→Option R} (st : Nat→A) (val : Nat→Option R) (len : Nat) (hend : ∀ rec,rnd rec (st len)=val len) (hstep : ∀ rec i,i<len→rec (st (i+1))=val (i+1)→rnd rec (st i)=val i) :
    ∀ n i,i≤len→len - i<n→lpN rnd n (st i)=val i:=by
  intro n
  induction n with
  | zero=>intro i _ h; omega
  | succ n ih =>
    intro i hi hn
    rw [lp_succ]
    rcases Nat.lt_or_ge i len with h | h
    · exact hstep _ i h (ih (i+1) (by omega) (by omega))
    · have e : i=len:=by omega
      subst e
      exact hend _
theorem get_cast {α : Type} {xs : List α} {i : Nat} (h : i<xs.length) : xs[((i : Int)).toNat]? = some xs[i]:=by simp [h]


end Go.Proofs.Ytakakoogpmhhkaa.Ab

/- The plain law of StewApply: loops that agree,what is within,names,books that are valid. -/
set_option linter.unusedVariables false
set_option linter.unusedSimpArgs false
set_option maxRecDepth 10000
namespace Go.Proofs.Ytakakoogpmhhkaa.Ab
open Go Go.RowKit

/-! ### Loops that agree -/
theorem lp_congr {A R : Type} {f g : (A→Option R)→A→Option R} (I : A→Prop) (h : ∀ r r',(∀ y,I y→r y=r' y) → ∀ x,I x→f r x=g r' x) : ∀ n x,I x→lpN f n x=lpN g n x:=by
  intro n
  induction n with
  | zero=>intro x _; rfl
  | succ n ih=>intro x hx; rw [lp_succ,lp_succ]; exact h _ _ ih x hx
theorem lp_same {A R : Type} {f g : (A→Option R)→A→Option R} (h : ∀ r x,f r x=g r x) (n : Nat) (x : A) : lpN f n x=lpN g n x:=by
  have : f=g:=funext fun r=>funext fun x=>h r x
  rw [this]
/-! ### Places -/
def posL {α : Type} (p : α→Bool) : List α→Nat→Int
  | [],_ => -1
  | x::r,i=>cond (p x) (i : Int) (posL p r (i+1))
theorem posL_step {α : Type} {p : α→Bool} {xs : List α} {i : Nat} (h : i<xs.length) : posL p (xs.drop i) i=cond (p xs[i]) (i : Int) (posL p (xs.drop (i+1)) (i+1)):=by
  rw [List.drop_eq_getElem_cons h]; rfl
theorem posL_neg {α : Type} (p : α→Bool) : ∀ (ys : List α) (i : Nat),posL p ys i<0∨(i : Int)≤posL p ys i
  | [],i=>by left; simp [posL]
  | y::ys,i=>by
    simp only [posL]
    cases p y with
    | true=>right; simp
    | false =>
      rcases posL_neg p ys (i+1) with h | h
      · left; simpa using h
      · right; simp only [cond_false]; omega
/-- A place: minus one and nothing there,or the first that fits. -/
theorem posL_cases {α : Type} (p : α→Bool) (xs : List α) : (posL p xs 0 = -1 ∧ ∀ x ∈ xs,p x=false) ∨ ∃ i : Nat,∃ h : i<xs.length,posL p xs 0=(i : Int)∧p xs[i]=true ∧ ∀ j,(hj : j<i)→p (xs[j]'(by omega))=false:=by
  have key : ∀ (ys : List α) (i : Nat),(posL p ys i = -1 ∧ ∀ x ∈ ys,p x=false) ∨ ∃ k : Nat,∃ h : k<ys.length,posL p ys i=((i+k : Nat) : Int)∧p ys[k]=true ∧ ∀ j,(hj : j<k)→p (ys[j]'(by omega))=false:=by
    intro ys
    induction ys with
    | nil=>intro i; exact .inl ⟨rfl,fun x hx=>by cases hx⟩
    | cons y ys ih =>
      intro i
      cases hp : p y with
      | true=>exact .inr ⟨0,by simp,by simp [posL,hp],by simpa using hp,fun j hj=>by omega⟩
      | false =>
        rcases ih (i+1) with ⟨h1,h2⟩ | ⟨k,hk,h1,h2,h3⟩
        · refine .inl ⟨by simp [posL,hp,h1],fun x hx => ?_⟩
          rcases List.mem_cons.1 hx with e | hx
          · subst e; exact hp
          · exact h2 x hx
        · refine .inr ⟨k+1,by simpa using hk,by simp only [posL,hp,cond_false,h1]; omega,by simpa using h2,fun j hj => ?_⟩
          cases j with
          | zero=>exact hp
          | succ j=>exact h3 j (by omega)
  rcases key xs 0 with h | ⟨k,hk,h1,h2,h3⟩
  · exact .inl h
  · exact .inr ⟨k,hk,by simpa using h1,h2,h3⟩
theorem pos_lp {α R : Type} {p : α→Bool} {xs : List α} {A : Type} {st : Nat→A} {rnd : (A→Option R)→A→Option R} (hl : xs.length≤1048576) (fnd : Nat→Option R) (nf : Option R)
    (hend : ∀ rec,rnd rec (st xs.length)=nf)
    (hstep : ∀ rec i (hi : i<xs.length),rnd rec (st i)=cond (p xs[i]) (fnd i) (rec (st (i+1)))) : lpN rnd fuel (st 0)=cond (decide (posL p xs 0<0)) nf (fnd (posL p xs 0).toNat):=by
  have:=lp_idx (rnd:=rnd) (st:=st) (val:=fun i=>cond (decide (posL p (xs.drop i) i<0)) nf (fnd (posL p (xs.drop i) i).toNat)) xs.length (fun rec=>by rw [hend]; simp [posL]) (fun rec i hi hr=>by
    rw [hstep rec i hi,posL_step hi]
    cases p xs[i] with
    | true =>
      have h0 : ¬ ((i : Nat) : Int)<0:=by omega
      simp only [cond_true,h0,decide_false,cond_false,Int.toNat_natCast]
    | false=>exact hr) fuel 0 (Nat.zero_le _) (by have:=fuel_big; omega)
  simpa using this
theorem all_lp {A R : Type} {p : Nat→Bool} {len : Nat} {st : Nat→A} {rnd : (A→Option R)→A→Option R} (yes no : Option R) (hl : len≤1048576)
    (hend : ∀ rec,rnd rec (st len)=yes)
    (hstep : ∀ rec i (hi : i<len),rnd rec (st i)=cond (p i) (rec (st (i+1))) no) : lpN rnd fuel (st 0)=cond (allN p len 0) yes no:=by
  have:=lp_idx (rnd:=rnd) (st:=st) (val:=fun i=>cond (allN p len i) yes no) len (fun rec=>by rw [hend,allN_end,cond_true]) (fun rec i hi hr=>by
    rw [hstep rec i hi,allN_step hi]
    cases p i with
    | true=>simpa using hr
    | false=>rfl) fuel 0 (Nat.zero_le _) (by have:=fuel_big; omega)
  exact this
theorem allN_get {p : Nat→Bool} {len : Nat} (h : allN p len 0=true) {i : Nat} (hi : i<len) : p i=true:=by
  unfold allN at h
  rw [List.all_eq_true] at h
  exact h i (by simp [List.mem_range']; omega)

/-! ### Words in order -/
theorem slt_tri (a b : ByteArray) : (slt a b=true∧slt b a=false∧a≠b)∨(slt a b=false∧slt b a=true∧a≠b)∨(slt a b=false∧slt b a=false∧a=b):=by
  unfold slt
  cases h : Go.Op.bytesLess a.toList b.toList with
  | true =>
    obtain ⟨h1,h2⟩:=bytesLess_total _ _ h
    exact .inl ⟨rfl,h1,fun e=>by subst e; simp at h2⟩
  | false =>
    cases he : (a.toList == b.toList) with
    | true =>
      have e : a=b:=toList_inj (by simpa using he)
      subst e
      exact .inr (.inr ⟨rfl,h,rfl⟩)
    | false =>
      have:=bytesLess_or _ _ h he
      exact .inr (.inl ⟨rfl,this,fun e=>by subst e; simp at he⟩)
theorem less_trans : ∀ x y z : List UInt8,Go.Op.bytesLess x y=true→Go.Op.bytesLess y z=true→Go.Op.bytesLess x z=true:=by
  intro x
  induction x with
  | nil =>
    intro y z h h'
    cases z with
    | nil=>cases y <;> simp [Go.Op.bytesLess] at h'
    | cons z zs=>rfl
  | cons x xs ih =>
    intro y z h h'
    cases y with
    | nil=>simp [Go.Op.bytesLess] at h
    | cons y ys =>
      cases z with
      | nil=>simp [Go.Op.bytesLess] at h'
      | cons z zs =>
        simp only [Go.Op.bytesLess,Bool.or_eq_true,Bool.and_eq_true,decide_eq_true_eq,beq_iff_eq] at h h' ⊢
        rcases h with h1 | ⟨h1,h2⟩
        · rcases h' with h3 | ⟨h3,h4⟩
          · exact .inl (UInt8.lt_trans h1 h3)
          · subst h3; exact .inl h1
        · subst h1
          rcases h' with h3 | ⟨h3,h4⟩
          · exact .inl h3
          · exact .inr ⟨h3,ih ys zs h2 h4⟩
theorem slt_trans {a b c : ByteArray} (h : slt a b=true) (h' : slt b c=true) : slt a c=true:=less_trans _ _ _ h h'
theorem slt_irr (a : ByteArray) : slt a a=false:=by
  rcases slt_tri a a with ⟨_,_,h⟩ | ⟨_,_,h⟩ | ⟨h,_,_⟩
  · exact absurd rfl h
  · exact absurd rfl h
  · exact h
/-! ### Within,names,services -/
def inB (a b c : Int) : Bool:=decide (b≤a)&&decide (a≤c)
theorem g43 (a b c : Int) : G43 a b c=some (inB a b c):=by
  unfold G43 G43n inB
  by_cases h : b≤a <;> simp [h]
theorem g57 (a b c : Int) : G57 a b c=some (inB a b c):=by
  unfold G57 G57n inB
  by_cases h : b≤a <;> simp [h]
theorem inB_iff {a b c : Int} : inB a b c=true↔b≤a∧a≤c:=by simp [inB]
theorem lp_some {A : Type} {p : Nat→Bool} {len : Nat} {st : Nat→A} {rnd : (A→Option Bool)→A→Option Bool} (hl : len<1152921504606846976)
    (hend : ∀ rec,rnd rec (st len)=some true) (hstep : ∀ rec i (hi : i<len),rnd rec (st i)=cond (p i) (rec (st (i+1))) (some false)) : lpN rnd fuel (st 0)=some (allN p len 0) :=
  lp_idx (rnd:=rnd) (st:=st) (val:=fun i=>some (allN p len i)) len (fun rec=>by rw [hend,allN_end]) (fun rec i hi hr=>by
    rw [hstep rec i hi,allN_step hi]
    cases p i with
    | true=>simpa using hr
    | false=>rfl) fuel 0 (Nat.zero_le _) (by have:=fuel_big; omega)
def bOk (c : Int) : Bool:=(decide (97≤c)&&decide (c≤122))||(decide (48≤c)&&decide (c≤57))||c == 45
theorem name_step {c : Int} {R : Type} (a b : R) : (cond (decide (c≥97))
 (cond (decide (c≤122)) a
 (cond (decide (c≥48))
 (cond (decide (c≤57)) a
 (cond (!(c == 45)) b a))
 (cond (!(c == 45)) b a)))
 (cond (decide (c≥48))
 (cond (decide (c≤57)) a
 (cond (!(c == 45)) b a))
 (cond (!(c == 45)) b a)))=cond (bOk c) a b:=by
  unfold bOk
  by_cases h1 : 97≤c <;> by_cases h2 : c≤122 <;> by_cases h3 : 48≤c <;> by_cases h4 : c≤57 <;> by_cases h5 : c=45 <;> simp [h1,h2,h3,h4,h5] <;> omega
def nmB (s : ByteArray) : Bool:=inB (s.size : Int) 1 20&&allN (fun j=>bOk (sbt s (j : Int))) s.size 0
theorem g45 (s : ByteArray) : G45 s=some (nmB s):=by
  unfold G45 G45n nmB
  rw [g43]
  cases h : inB (s.size : Int) 1 20 with
  | false=>rfl
  | true =>
    have h2:=(inB_iff.1 h).2
    simp only [Option.bind_some,Bool.not_true,cond_false,Bool.true_and]
    refine lp_some (st:=fun i=>((i : Nat) : Int)) (by omega) (fun rec=>by simp [r45_0]) (fun rec i hi => ?_)
    have h1 : (i : Int)<(s.size : Int):=by omega
    simp only [r45_0,h1,decide_true,cond_true,Int.natCast_nonneg]
    rw [name_step,wrap_nat (by omega)]
theorem g59 (s : ByteArray) : G59 s=some (nmB s):=by
  unfold G59 G59n nmB inB
  by_cases h1 : (s.size : Int)<1
  · have : ¬ (1 : Int)≤(s.size : Int):=by omega
    simp [h1,this]
  · by_cases h2 : (s.size : Int)>20
    · have : ¬ (s.size : Int)≤20:=by omega
      simp [h1,h2,this]
    · have e1 : (1 : Int)≤(s.size : Int):=by omega
      have e2 : (s.size : Int)≤20:=by omega
      simp only [h1,h2,decide_false,cond_false,e1,e2,decide_true,Bool.and_self,Bool.true_and]
      refine lp_some (st:=fun i=>((i : Nat) : Int)) (by omega) (fun rec=>by simp [r59_0]) (fun rec i hi => ?_)
      have h1 : (i : Int)<(s.size : Int):=by omega
      simp only [r59_0,h1,decide_true,cond_true,Int.natCast_nonneg]
      rw [name_step,wrap_nat (by omega)]
def svB (s : VStewService) (now : Int) : Bool:=nmB s.Name&&(inB s.Version 1 now&&(inB s.Image 1 1000000&&(inB s.Next 1 1000000&&(inB s.Want 0 10&&(inB s.Down 0 10&&(inB s.Over 0 10&&((!(IntKind.i64.wrap (s.Down+s.Over) == 0)) &&
  (cond (s.Per == 0) ((s.Least == 0)&&((s.Most == 0)&&((s.Load == 0)&&(s.Cool == 0)))) (inB s.Per 0 1000000&&(inB s.Load 0 1000000&&(inB s.Least 0 10&&(inB s.Most s.Least 10&&inB s.Cool 0 3)))))))))))) 
theorem g44 (s : VStewService) (now : Int) : G44 s now=some (svB s now):=by
  unfold G44 G44n svB
  simp only [g45,g43,Option.bind_some]
  cases nmB s.Name <;> (try rfl)
  cases inB s.Version 1 now <;> (try rfl)
  cases inB s.Image 1 1000000 <;> (try rfl)
  cases inB s.Next 1 1000000 <;> (try rfl)
  cases inB s.Want 0 10 <;> (try rfl)
  cases inB s.Down 0 10 <;> (try rfl)
  cases inB s.Over 0 10 <;> (try rfl)
  cases (IntKind.i64.wrap (s.Down+s.Over) == 0) <;> (try rfl)
  cases (s.Per == 0)
  · cases inB s.Per 0 1000000 <;> (try rfl)
    cases inB s.Load 0 1000000 <;> (try rfl)
    cases inB s.Least 0 10 <;> (try rfl)
    cases inB s.Most s.Least 10 <;> rfl
  · cases (s.Least == 0) <;> (try rfl)
    cases (s.Most == 0) <;> (try rfl)
    cases (s.Load == 0) <;> rfl
theorem g58 (s : VStewService) (now : Int) : G58 s now=some (svB s now):=by
  unfold G58 G58n svB
  simp only [g59,g57,Option.bind_some]
  cases nmB s.Name <;> (try rfl)
  cases inB s.Version 1 now <;> (try rfl)
  cases inB s.Image 1 1000000 <;> (try rfl)
  cases inB s.Next 1 1000000 <;> (try rfl)
  cases inB s.Want 0 10 <;> (try rfl)
  cases inB s.Down 0 10 <;> (try rfl)
  cases inB s.Over 0 10 <;> (try rfl)
  cases (IntKind.i64.wrap (s.Down+s.Over) == 0) <;> (try rfl)
  simp only [Bool.true_and,Bool.not_true,Bool.not_false,cond_false,cond_true]
  by_cases h0 : s.Per=0
  · have e : inB s.Per 0 1000000=true:=by rw [inB_iff]; omega
    have e1 : ¬ s.Per>0:=by omega
    have e2 : (s.Per == 0)=true:=by simp [h0]
    simp only [e,e1,e2,decide_false,cond_false,cond_true,Bool.not_true]
    by_cases a1 : s.Least=0
    · by_cases a2 : s.Most=0
      · by_cases a3 : s.Load=0
        · simp only [a1,a2,a3]
          by_cases a4 : s.Cool=0
          · simp [a4,inB]
          · have : (s.Cool == 0)=false:=by simp [a4]
            rw [this]
            cases inB s.Cool 0 3 <;> simp [inB]
        · have : (s.Load == 0)=false:=by simp [a3]
          simp only [a1,a2,this]
          cases inB s.Load 0 1000000 <;> cases inB s.Cool 0 3 <;> simp [inB]
      · have : (s.Most == 0)=false:=by simp [a2]
        simp only [a1,this]
        cases inB s.Load 0 1000000 <;> cases inB s.Cool 0 3 <;> cases inB s.Most 0 10 <;> cases decide ((0 : Int)>s.Most) <;> simp [inB]
    · have : (s.Least == 0)=false:=by simp [a1]
      simp only [this]
      cases inB s.Load 0 1000000 <;> cases inB s.Cool 0 3 <;> cases inB s.Most 0 10 <;> cases inB s.Least 0 10 <;> cases decide (s.Least>s.Most) <;> simp
  · have e2 : (s.Per == 0)=false:=by simp [h0]
    simp only [e2,cond_false]
    cases h1 : inB s.Per 0 1000000 with
    | false=>rfl
    | true =>
      have e1 : s.Per>0:=by have:=(inB_iff.1 h1).1; omega
      cases inB s.Load 0 1000000 <;> (try rfl)
      cases h2 : inB s.Least 0 10 with
      | false=>rfl
      | true =>
        have h3:=(inB_iff.1 h2).1
        by_cases h4 : s.Least>s.Most
        · have h5 : inB s.Most s.Least 10=false:=by cases h : inB s.Most s.Least 10 with | false=>rfl | true=>have:=inB_iff.1 h; omega
          cases inB s.Most 0 10 <;> simp [h4,h5]
        · have h5 : inB s.Most 0 10=inB s.Most s.Least 10:=by
            unfold inB
            have q1 : (0 : Int)≤s.Most:=by omega
            have q2 : s.Least≤s.Most:=by omega
            simp [q1,q2]
          rw [h5]
          cases inB s.Most s.Least 10 <;> cases inB s.Cool 0 3 <;> simp [h4,e1]
end Go.Proofs.Ytakakoogpmhhkaa.Ab

/- The plain law of StewApply: books that are valid. -/
set_option linter.unusedVariables false
set_option linter.unusedSimpArgs false
set_option maxRecDepth 10000
namespace Go.Proofs.Ytakakoogpmhhkaa.Ab
open Go Go.RowKit

theorem posL_some {α : Type} (p : α→Bool) (xs : List α) : cond (decide (posL p xs 0<0)) (some (-1)) (some (((posL p xs 0).toNat : Nat) : Int))=some (posL p xs 0):=by
  rcases posL_cases p xs with ⟨h,_⟩ | ⟨i,hi,h,_⟩ <;> rw [h]
  · rfl
  · have : ¬ ((i : Nat) : Int)<0:=by omega
    simp [this]
def svP (n : ByteArray) (s : VStewService) : Bool:=decide (s.Name=n)
def cpP (n : ByteArray) (k : Int) (c : VStewCopy) : Bool:=decide (c.Service=n)&&(c.Number == k)
def beP (n : ByteArray) (c : VStewBerth) : Bool:=decide (c.Name=n)
theorem g49 {b : VStewBook} {n : ByteArray} (h : b.Services.length≤1048576) : G49 b n=some (posL (svP n) b.Services 0):=by
  unfold G49 G49n
  rw [← posL_some]
  exact pos_lp (st:=fun i=>((i : Nat) : Int)) h (fun i=>some ((i : Nat) : Int)) (some (-1)) (fun rec=>by simp [r49_0]) (fun rec i hi=>by
    have h1 : (i : Int)<(b.Services.length : Int):=by omega
    simp only [r49_0,h1,decide_true,cond_true,Int.natCast_nonneg,get_cast hi,Option.bind_some,svP]
    rw [wrap_nat (by omega)])
theorem g74 {b : VStewBook} {n : ByteArray} (h : b.Berths.length≤1048576) : G74 b n=some (posL (beP n) b.Berths 0):=by
  unfold G74 G74n
  rw [← posL_some]
  exact pos_lp (st:=fun i=>((i : Nat) : Int)) h (fun i=>some ((i : Nat) : Int)) (some (-1)) (fun rec=>by simp [r74_0]) (fun rec i hi=>by
    have h1 : (i : Int)<(b.Berths.length : Int):=by omega
    simp only [r74_0,h1,decide_true,cond_true,Int.natCast_nonneg,get_cast hi,Option.bind_some,beP]
    rw [wrap_nat (by omega)])
theorem g50 {b : VStewBook} {n : ByteArray} {k : Int} (h : b.Copies.length≤1048576) : G50 b n k=some (posL (cpP n k) b.Copies 0):=by
  unfold G50 G50n
  rw [← posL_some]
  exact pos_lp (st:=fun i=>((i : Nat) : Int)) h (fun i=>some ((i : Nat) : Int)) (some (-1)) (fun rec=>by simp [r50_0]) (fun rec i hi=>by
    have h1 : (i : Int)<(b.Copies.length : Int):=by omega
    simp only [r50_0,h1,decide_true,cond_true,Int.natCast_nonneg,get_cast hi,Option.bind_some,cpP]
    rw [wrap_nat (by omega)]
    cases decide (b.Copies[i].Service=n) <;> rfl)
def cpB (b : VStewBook) (c : VStewCopy) : Bool:=match b.Services[(posL (svP c.Service) b.Services 0).toNat]? with
  | some s=>(!decide (posL (svP c.Service) b.Services 0<0))&&(inB c.Number 1 (IntKind.i64.wrap (s.Next - 1))&&(inB c.Version 1 b.Now&&(inB c.Image 1 1000000&&(inB c.State 1 4&&cond (c.State == 1) (decide (c.Berth=⟨#[]⟩)) (decide (posL (beP c.Berth) b.Berths 0≥0))))))
  | none=>false
theorem g46 {b : VStewBook} {c : VStewCopy} (h : b.Services.length≤1048576) (h2 : b.Berths.length≤1048576) : G46 b c=some (cpB b c):=by
  unfold G46 G46n cpB
  rw [g49 h]
  rcases posL_cases (svP c.Service) b.Services with ⟨e,_⟩ | ⟨i,hi,e,_⟩
  · rw [e]; simp only [Option.bind_some]
    cases b.Services[(-1 : Int).toNat]? <;> rfl
  · have h0 : ¬ ((i : Nat) : Int)<0:=by omega
    rw [e]
    simp only [Option.bind_some,h0,decide_false,cond_false,Int.natCast_nonneg,decide_true,cond_true,get_cast hi,g43,g74 h2,Bool.not_false,Bool.true_and]
    cases inB c.Number 1 (IntKind.i64.wrap (b.Services[i].Next - 1)) <;> (try rfl)
    cases inB c.Version 1 b.Now <;> (try rfl)
    cases inB c.Image 1 1000000 <;> (try rfl)
    cases inB c.State 1 4 <;> (try rfl)
    cases (c.State == 1) <;> rfl
def ahB (d c : VStewCopy) : Bool:=slt d.Service c.Service||(decide (d.Service=c.Service)&&decide (d.Number<c.Number))
theorem g47 (d c : VStewCopy) : G47 d c=some (ahB d c):=by
  unfold G47 G47n ahB
  cases slt d.Service c.Service <;> cases decide (d.Service=c.Service) <;> rfl
def pAt {α : Type} (f : α→Bool) (g : α→α→Bool) (xs : List α) (i : Nat) : Bool:=match xs[i]?,xs[i - 1]? with
  | some c,some d=>f c&&(decide (i=0)||g d c)
  | _,_=>false
theorem pAt_eq {α : Type} {f : α→Bool} {g : α→α→Bool} {xs : List α} {i : Nat} (h : i<xs.length) : pAt f g xs i=(f xs[i]&&(decide (i=0)||g (xs[i - 1]'(by omega)) xs[i])):=by
  unfold pAt
  rw [List.getElem?_eq_getElem h,List.getElem?_eq_getElem (by omega)]
def vB (b : VStewBook) : Bool:=inB b.Now 0 1000000&&((!decide ((b.Services.length : Int)>8))&&((!decide ((b.Copies.length : Int)>200))&&((!decide ((b.Berths.length : Int)>6)) &&
  (allN (pAt (fun s=>svB s b.Now) (fun d s=>slt d.Name s.Name) b.Services) b.Services.length 0&&(allN (pAt (fun s=>nmB s.Name) (fun d s=>slt d.Name s.Name) b.Berths) b.Berths.length 0&&allN (pAt (cpB b) ahB b.Copies) b.Copies.length 0)))))
theorem fold3 {R : Type} (a b : Bool) (x : Option R) (y : Option R) : cond a (cond b x y) y=cond (a&&b) x y:=by cases a <;> cases b <;> rfl
/-- A round of a loop that looks at its element and at the one ahead of it. -/
theorem rnd2 {α R : Type} {f : α→Bool} {g : α→α→Bool} {xs : List α} {i : Nat} (h : i<xs.length) (yes no : Option R) (X : Option R)
    (hX : X=cond (f xs[i]) (cond (decide (i=0)) yes (cond (g (xs[i - 1]'(by omega)) xs[i]) yes no)) no) : X=cond (pAt f g xs i) yes no:=by
  rw [hX,pAt_eq h]
  cases f xs[i] <;> cases decide (i=0) <;> cases g (xs[i - 1]'(by omega)) xs[i] <;> rfl
theorem g19 {b : VStewBook} (h1 : b.Services.length≤1048576) (h2 : b.Copies.length≤1048576) (h3 : b.Berths.length≤1048576) : G19 b=some (vB b):=by
  unfold G19 G19n vB
  rw [g43]
  cases inB b.Now 0 1000000 <;> (try rfl)
  cases decide ((b.Services.length : Int)>8) <;> (try rfl)
  cases decide ((b.Copies.length : Int)>200) <;> (try rfl)
  cases decide ((b.Berths.length : Int)>6) <;> (try rfl)
  simp only [Option.bind_some,Bool.not_true,Bool.not_false,cond_false,cond_true,Bool.true_and]
  have e2 : lpN (r19_2 b.Now b.Services b.Copies b.Berths fuel) fuel 0=some (allN (pAt (cpB b) ahB b.Copies) b.Copies.length 0) :=
    lp_some (st:=fun i=>((i : Nat) : Int)) (by omega) (fun rec=>by simp [r19_2]) (fun rec i hi=>by
      have q1 : (i : Int)<(b.Copies.length : Int):=by omega
      refine rnd2 hi _ _ _ ?_
      have e : (⟨b.Now,b.Services,b.Copies,b.Berths⟩ : VStewBook)=b:=rfl
      simp only [r19_2,q1,decide_true,cond_true,Int.natCast_nonneg,get_cast hi,Option.bind_some,e,g46 h1 h3,wrap_nat (show i<4611686018427387904 by omega)]
      cases cpB b b.Copies[i] <;> (try rfl)
      simp only [Bool.not_true,cond_false,cond_true]
      by_cases h0 : i=0
      · subst h0; simp
      · have p1 : (i : Int)>0:=by omega
        simp only [p1,h0,decide_true,decide_false,cond_true,cond_false,wrap_pred (show 0<i by omega) (by omega),Int.natCast_nonneg,get_cast (show i - 1<b.Copies.length by omega),Option.bind_some,g47]
        cases ahB (b.Copies[i - 1]'(by omega)) b.Copies[i] <;> rfl)
  have e1 : lpN (r19_1 b.Now b.Services b.Copies b.Berths fuel) fuel 0=cond (allN (pAt (fun s=>nmB s.Name) (fun d s=>slt d.Name s.Name) b.Berths) b.Berths.length 0) (some (allN (pAt (cpB b) ahB b.Copies) b.Copies.length 0)) (some false) :=
    all_lp (st:=fun i=>((i : Nat) : Int)) _ _ h3 (fun rec=>by simp [r19_1,e2]) (fun rec i hi=>by
      have q1 : (i : Int)<(b.Berths.length : Int):=by omega
      refine rnd2 hi _ _ _ ?_
      simp only [r19_1,q1,decide_true,cond_true,Int.natCast_nonneg,get_cast hi,Option.bind_some,g45,wrap_nat (show i<4611686018427387904 by omega)]
      cases nmB b.Berths[i].Name <;> (try rfl)
      simp only [Bool.not_true,cond_false,cond_true]
      by_cases h0 : i=0
      · subst h0; simp
      · have p1 : (i : Int)>0:=by omega
        simp only [p1,h0,decide_true,decide_false,cond_true,cond_false,wrap_pred (show 0<i by omega) (by omega),Int.natCast_nonneg,get_cast (show i - 1<b.Berths.length by omega),Option.bind_some]
        cases slt (b.Berths[i - 1]'(by omega)).Name b.Berths[i].Name <;> rfl)
  have e0 : lpN (r19_0 b.Now b.Services b.Copies b.Berths fuel) fuel 0=cond (allN (pAt (fun s=>svB s b.Now) (fun d s=>slt d.Name s.Name) b.Services) b.Services.length 0) (lpN (r19_1 b.Now b.Services b.Copies b.Berths fuel) fuel 0) (some false) :=
    all_lp (st:=fun i=>((i : Nat) : Int)) _ _ h1 (fun rec=>by simp [r19_0]) (fun rec i hi=>by
      have q1 : (i : Int)<(b.Services.length : Int):=by omega
      refine rnd2 hi _ _ _ ?_
      simp only [r19_0,q1,decide_true,cond_true,Int.natCast_nonneg,get_cast hi,Option.bind_some,g44,wrap_nat (show i<4611686018427387904 by omega)]
      cases svB b.Services[i] b.Now <;> (try rfl)
      simp only [Bool.not_true,cond_false,cond_true]
      by_cases h0 : i=0
      · subst h0; simp
      · have p1 : (i : Int)>0:=by omega
        simp only [p1,h0,decide_true,decide_false,cond_true,cond_false,wrap_pred (show 0<i by omega) (by omega),Int.natCast_nonneg,get_cast (show i - 1<b.Services.length by omega),Option.bind_some]
        cases slt (b.Services[i - 1]'(by omega)).Name b.Services[i].Name <;> rfl)
  rw [e0,e1]
  cases allN (pAt (fun s=>svB s b.Now) (fun d s=>slt d.Name s.Name) b.Services) b.Services.length 0 <;> cases allN (pAt (fun s=>nmB s.Name) (fun d s=>slt d.Name s.Name) b.Berths) b.Berths.length 0 <;> rfl
theorem ah_tri (d c : VStewCopy) {R : Type} (yes no : R) : cond (slt c.Service d.Service) no (cond (decide (c.Service=d.Service)) (cond (decide (c.Number≤d.Number)) no yes) yes)=cond (ahB d c) yes no:=by
  unfold ahB
  rcases slt_tri c.Service d.Service with ⟨h1,h2,h3⟩ | ⟨h1,h2,h3⟩ | ⟨h1,h2,h3⟩
  · have h3' : d.Service≠c.Service:=fun e=>h3 e.symm
    simp [h1,h2,h3']
  · simp [h1,h2,h3]
  · rw [h3,slt_irr]
    by_cases h4 : c.Number≤d.Number
    · have : ¬ d.Number<c.Number:=by omega
      simp [h4,this]
    · have : d.Number<c.Number:=by omega
      simp [h4,this]
/-- What StewValid asks at the end of a copy. -/
def tlC (cs : List VStewCopy) (i : Nat) (c : VStewCopy) (yes : Option Bool) : Option Bool:=cond (decide ((i : Int)>0)) (cond (decide (0≤IntKind.i64.wrap ((i : Int) - 1))) (Option.bind cs[(IntKind.i64.wrap ((i : Int) - 1)).toNat]? fun e=>cond (slt c.Service e.Service) (some false) (cond (decide (c.Service=e.Service)) (cond (decide (c.Number≤e.Number)) (some false) yes) yes)) none) yes
theorem tlC_eq {cs : List VStewCopy} {i : Nat} (hi : i<cs.length) (hl : cs.length≤1048576) (yes : Option Bool) : tlC cs i cs[i] yes=cond (decide (i=0)) yes (cond (ahB (cs[i - 1]'(by omega)) cs[i]) yes (some false)):=by
  unfold tlC
  by_cases h0 : i=0
  · subst h0; simp
  · have p1 : (i : Int)>0:=by omega
    simp only [p1,h0,decide_true,decide_false,cond_true,cond_false,wrap_pred (show 0<i by omega) (by omega),Int.natCast_nonneg,get_cast (show i - 1<cs.length by omega),Option.bind_some]
    exact ah_tri _ _ _ _
theorem lp26_4 {bs : List VStewBerth} {cs : List VStewCopy} {i : Nat} {n : ByteArray} {c : VStewCopy} {rec2 : Int→Option Bool} (hb : bs.length≤1048576) :
    lpN (r26_4 n (bs.length : Int) (i : Int) (i : Int) false true cs bs c.Service c.Number fuel rec2) fuel 0=cond (decide (posL (beP n) bs 0<0)) (some false) (tlC cs i c (rec2 (IntKind.i64.wrap ((i : Int)+1)))) :=
  pos_lp (st:=fun i=>((i : Nat) : Int)) hb (fun _=>tlC cs i c (rec2 (IntKind.i64.wrap ((i : Int)+1)))) (some false) (fun rec=>by simp [r26_4]) (fun rec j hj=>by
    have q1 : (j : Int)<(bs.length : Int):=by omega
    simp only [r26_4,q1,decide_true,cond_true,cond_false,Int.natCast_nonneg,get_cast hj,Option.bind_some,beP]
    rw [wrap_nat (show j<4611686018427387904 by omega)]
    rfl)
theorem g26 {b : VStewBook} (h1 : b.Services.length≤1048576) (h2 : b.Copies.length≤1048576) (h3 : b.Berths.length≤1048576) : G26 b=some (vB b):=by
  unfold G26 G26n vB
  rw [g57]
  cases inB b.Now 0 1000000 <;> (try rfl)
  cases decide ((b.Services.length : Int)>8) <;> (try rfl)
  cases decide ((b.Copies.length : Int)>200) <;> (try rfl)
  cases decide ((b.Berths.length : Int)>6) <;> (try rfl)
  simp only [Option.bind_some,Bool.not_true,Bool.not_false,cond_false,cond_true,Bool.true_and]
  have e2 : lpN (r26_2 b.Copies (b.Copies.length : Int) b.Now b.Services b.Copies b.Berths fuel) fuel 0=some (allN (pAt (cpB b) ahB b.Copies) b.Copies.length 0) :=
    lp_some (st:=fun i=>((i : Nat) : Int)) (by omega) (fun rec=>by simp [r26_2]) (fun rec i hi=>by
      have q1 : (i : Int)<(b.Copies.length : Int):=by omega
      refine rnd2 hi _ _ _ ?_
      simp only [r26_2,q1,decide_true,cond_true,Int.natCast_nonneg,get_cast hi,Option.bind_some]
      rw [← tlC_eq hi h2,← wrap_nat (show i<4611686018427387904 by omega)]
      generalize hc : b.Copies[i]=c
      have hp:=pos_lp (rnd:=r26_3 c.Service (b.Services.length : Int) (i : Int) (i : Int) b.Now b.Services b.Copies b.Berths c.Service c.Number c.Version c.Image c.State c.Berth fuel rec) (p:=svP c.Service) (st:=fun i=>((i : Nat) : Int)) h1
        (fun j=>match b.Services[j]? with
          | some s=>cond (inB c.Number 1 (IntKind.i64.wrap (s.Next - 1))&&(inB c.Version 1 b.Now&&(inB c.Image 1 1000000&&(inB c.State 1 4&&cond (c.State == 1) (decide (c.Berth=⟨#[]⟩)) (decide (posL (beP c.Berth) b.Berths 0≥0)))))) (tlC b.Copies i c (rec (IntKind.i64.wrap ((i : Int)+1)))) (some false)
          | none=>none) (some false) (fun rec=>by simp [r26_3]) (fun rec j hj=>by
          have q1 : (j : Int)<(b.Services.length : Int):=by omega
          simp only [r26_3,q1,decide_true,cond_true,Int.natCast_nonneg,get_cast hj,Option.bind_some,g57,List.getElem?_eq_getElem hj]
          cases hsv : svP c.Service b.Services[j] with
          | false =>
            have : decide (b.Services[j].Name=c.Service)=false:=hsv
            rw [this,wrap_nat (show j<4611686018427387904 by omega)]
            rfl
          | true =>
            have : decide (b.Services[j].Name=c.Service)=true:=hsv
            rw [this]
            simp only [cond_true]
            cases inB c.Number 1 (IntKind.i64.wrap (b.Services[j].Next - 1)) <;> (try rfl)
            cases inB c.Version 1 b.Now <;> (try rfl)
            cases inB c.Image 1 1000000 <;> (try rfl)
            cases inB c.State 1 4 <;> (try rfl)
            by_cases hs1 : c.State=1
            · have a1 : (c.State == 1)=true:=by simp [hs1]
              have a2 : (c.State != 1)=false:=by simp [hs1]
              simp only [a1,a2,cond_true,cond_false,Bool.not_true,Bool.true_and]
              cases decide (c.Berth=⟨#[]⟩) <;> rfl
            · have a1 : (c.State == 1)=false:=by simp [hs1]
              have a2 : (c.State != 1)=true:=by simp [hs1]
              simp only [a1,a2,cond_true,cond_false,Bool.not_true,Bool.true_and]
              rw [lp26_4 h3]
              rcases posL_cases (beP c.Berth) b.Berths with ⟨e,_⟩ | ⟨i,hi,e,_⟩ <;> rw [e]
              · rfl
              · have b1 : ¬ ((i : Nat) : Int)<0:=by omega
                have b2 : ((i : Nat) : Int)≥0:=by omega
                simp only [b1,b2,decide_true,decide_false,cond_true,cond_false])
      rw [show (lpN (r26_3 c.Service (b.Services.length : Int) (i : Int) (i : Int) b.Now b.Services b.Copies b.Berths c.Service c.Number c.Version c.Image c.State c.Berth fuel rec) fuel 0)=_ from hp]
      unfold cpB
      rcases posL_cases (svP c.Service) b.Services with ⟨e,_⟩ | ⟨j,hj,e,_⟩ <;> rw [e]
      · cases b.Services[(-1 : Int).toNat]? <;> rfl
      · have b1 : ¬ ((j : Nat) : Int)<0:=by omega
        simp only [b1,decide_false,cond_false,Int.toNat_natCast,List.getElem?_eq_getElem hj,Bool.not_false,Bool.true_and])
  have e1 : lpN (r26_1 b.Berths (b.Berths.length : Int) b.Now b.Services b.Copies b.Berths fuel) fuel 0=cond (allN (pAt (fun s=>nmB s.Name) (fun d s=>slt d.Name s.Name) b.Berths) b.Berths.length 0) (some (allN (pAt (cpB b) ahB b.Copies) b.Copies.length 0)) (some false) :=
    all_lp (st:=fun i=>((i : Nat) : Int)) _ _ h3 (fun rec=>by simp [r26_1,e2]) (fun rec i hi=>by
      have q1 : (i : Int)<(b.Berths.length : Int):=by omega
      refine rnd2 hi _ _ _ ?_
      simp only [r26_1,q1,decide_true,cond_true,Int.natCast_nonneg,get_cast hi,Option.bind_some,g59,wrap_nat (show i<4611686018427387904 by omega)]
      cases nmB b.Berths[i].Name <;> (try rfl)
      simp only [Bool.not_true,cond_false,cond_true]
      by_cases h0 : i=0
      · subst h0; simp
      · have p1 : (i : Int)>0:=by omega
        simp only [p1,h0,decide_true,decide_false,cond_true,cond_false,wrap_pred (show 0<i by omega) (by omega),Int.natCast_nonneg,get_cast (show i - 1<b.Berths.length by omega),Option.bind_some]
        cases slt (b.Berths[i - 1]'(by omega)).Name b.Berths[i].Name <;> rfl)
  have e0 : lpN (r26_0 b.Services (b.Services.length : Int) b.Now b.Services b.Copies b.Berths fuel) fuel 0=cond (allN (pAt (fun s=>svB s b.Now) (fun d s=>slt d.Name s.Name) b.Services) b.Services.length 0) (lpN (r26_1 b.Berths (b.Berths.length : Int) b.Now b.Services b.Copies b.Berths fuel) fuel 0) (some false) :=
    all_lp (st:=fun i=>((i : Nat) : Int)) _ _ h1 (fun rec=>by simp [r26_0]) (fun rec i hi=>by
      have q1 : (i : Int)<(b.Services.length : Int):=by omega
      refine rnd2 hi _ _ _ ?_
      simp only [r26_0,q1,decide_true,cond_true,Int.natCast_nonneg,get_cast hi,Option.bind_some,g58,wrap_nat (show i<4611686018427387904 by omega)]
      cases svB b.Services[i] b.Now <;> (try rfl)
      simp only [Bool.not_true,cond_false,cond_true]
      by_cases h0 : i=0
      · subst h0; simp
      · have p1 : (i : Int)>0:=by omega
        simp only [p1,h0,decide_true,decide_false,cond_true,cond_false,wrap_pred (show 0<i by omega) (by omega),Int.natCast_nonneg,get_cast (show i - 1<b.Services.length by omega),Option.bind_some]
        cases slt (b.Services[i - 1]'(by omega)).Name b.Services[i].Name <;> rfl)
  rw [e0,e1]
  cases allN (pAt (fun s=>svB s b.Now) (fun d s=>slt d.Name s.Name) b.Services) b.Services.length 0 <;> cases allN (pAt (fun s=>nmB s.Name) (fun d s=>slt d.Name s.Name) b.Berths) b.Berths.length 0 <;> rfl
end Go.Proofs.Ytakakoogpmhhkaa.Ab

