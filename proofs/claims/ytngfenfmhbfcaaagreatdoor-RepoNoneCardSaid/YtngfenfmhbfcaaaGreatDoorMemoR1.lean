/- A PART OF THE PROOFS THAT ONE CALL OF A LAW (the nil repository of layer 34; no desk, no power of layer 37) returns true, whatever the input; the input reads as it did. No condition beyond the given statement. This part: MemoR1. -/
import Derived.Test.YtngfenfmhbfcaaaGreatDoorCtxR
import Derived.Test.YtngfenfmhbfcaaaGreatDoorEvMemo
namespace Go.Proofs.Tr
open Go Go.Ev Go.Proofs
set_option maxRecDepth 100000
set_option maxHeartbeats 0
def tbl139 : List (List AV × AV) := [([.str [114]], .bool true),
  ([.str [105, 110, 116, 101, 110, 116]], .bool true),
  ([.str [105, 110, 118, 101, 110, 116, 111, 114, 121]], .bool true),
  ([.str [119, 111, 114, 107]], .bool true),
  ([.str [112, 114, 105, 115, 116, 105, 110, 101]], .bool true),
  ([.str [120]], .bool true),
  ([.str []], .bool false),
  ([.str [111, 110, 101]], .bool true),
  ([.str [115]], .bool true),
  ([.str [113]], .bool true),
  ([.str [81]], .bool false)]
theorem tbl139_ok : tbl139.all (memoChk C 400 139) = true := by kernel_rfl
noncomputable def C1 : Ctx := { types, funs, prims := fun i => bif Nat.beq i 139 then some (memo tbl139) else C.prims i, globs := fun _ => none, ext := exts }
end Go.Proofs.Tr
namespace Go.Proofs.Tr
open Go Go.Ev Go.Proofs
set_option maxRecDepth 100000
set_option maxHeartbeats 0
def tbl70 : List (List AV × AV) := [([.str [114]], .bool true),
  ([.str [114, 47, 105, 110, 116, 101, 110, 116]], .bool true),
  ([.str [114, 47, 105, 110, 118, 101, 110, 116, 111, 114, 121]], .bool true),
  ([.str [114, 47, 119, 111, 114, 107]], .bool true),
  ([.str [114, 47, 112, 114, 105, 115, 116, 105, 110, 101]], .bool true),
  ([.str [120]], .bool true),
  ([.str []], .bool false),
  ([.str [115]], .bool true),
  ([.str [115, 47, 105, 110, 116, 101, 110, 116]], .bool true),
  ([.str [115, 47, 105, 110, 118, 101, 110, 116, 111, 114, 121]], .bool true),
  ([.str [115, 47, 119, 111, 114, 107]], .bool true),
  ([.str [115, 47, 112, 114, 105, 115, 116, 105, 110, 101]], .bool true),
  ([.str [113]], .bool true),
  ([.str [113, 47, 105, 110, 116, 101, 110, 116]], .bool true),
  ([.str [113, 47, 105, 110, 118, 101, 110, 116, 111, 114, 121]], .bool true),
  ([.str [81]], .bool false)]
theorem tbl70_ok : tbl70.all (memoChk C1 400 70) = true := by kernel_rfl
def tbl229 : List (List AV × AV) := [([.agg [.str [111, 110, 101], .int .i64 (0)]], .bool true),
  ([.agg [.str [], .int .i64 (1)]], .bool true),
  ([.agg [.str [], .int .i64 (2)]], .bool true),
  ([.agg [.str [], .int .i64 (0)]], .bool true)]
theorem tbl229_ok : tbl229.all (memoChk C1 400 229) = true := by kernel_rfl
noncomputable def C2 : Ctx := { types, funs, prims := fun i => bif Nat.beq i 229 then some (memo tbl229) else bif Nat.beq i 70 then some (memo tbl70) else C1.prims i, globs := fun _ => none, ext := exts }
end Go.Proofs.Tr
namespace Go.Proofs.Tr
open Go Go.Ev Go.Proofs
set_option maxRecDepth 100000
set_option maxHeartbeats 0
def tbl278 : List (List AV × AV) := [([.agg [.int .i64 (5), .str [111, 110, 101], .int .i64 (0), .str [], .int .i64 (0), .str [], .int .i64 (0), .str [], .str [], .str [], .int .i64 (1), .str [], .int .i64 (2), .snil, .int .i64 (1), .sdat false 1 [.str [108]] none]], .int .i64 (0)),
  ([.agg [.int .i64 (2), .str [111, 110, 101], .int .i64 (0), .str [], .int .i64 (0), .str [], .int .i64 (0), .str [120], .str [], .str [], .int .i64 (0), .str [], .int .i64 (0), .snil, .int .i64 (0), .snil]], .int .i64 (0)),
  ([.agg [.int .i64 (5), .str [111, 110, 101], .int .i64 (0), .str [], .int .i64 (0), .str [], .int .i64 (0), .str [], .str [], .str [], .int .i64 (1), .str [], .int .i64 (2), .snil, .int .i64 (1), .sdat true 1 [.str [108]] none]], .int .i64 (0))]
theorem tbl278_ok : tbl278.all (memoChk C2 400 278) = true := by kernel_rfl
noncomputable def C3 : Ctx := { types, funs, prims := fun i => bif Nat.beq i 278 then some (memo tbl278) else C2.prims i, globs := fun _ => none, ext := exts }
end Go.Proofs.Tr
namespace Go.Proofs.Tr
open Go Go.Ev Go.Proofs
set_option maxRecDepth 100000
set_option maxHeartbeats 0
def tbl185 : List (List AV × AV) := [([.agg [.str [111, 110, 101], .sdat true 1 [] none, .sdat true 16 [.agg [.int .i64 (2), .str [111, 110, 101], .int .i64 (0), .str [], .int .i64 (0), .str [], .int .i64 (0), .str [120], .str [], .str [], .int .i64 (0), .str [], .int .i64 (0), .snil, .int .i64 (0), .snil], .agg [.int .i64 (5), .str [111, 110, 101], .int .i64 (0), .str [], .int .i64 (0), .str [], .int .i64 (0), .str [], .str [], .str [], .int .i64 (1), .str [], .int .i64 (2), .snil, .int .i64 (1), .sdat false 1 [.str [108]] none]] none]], .int .i64 (0)),
  ([.agg [.str [111, 110, 101], .sdat false 1 [] (some 0), .sdat false 16 [.agg [.int .i64 (2), .str [111, 110, 101], .int .i64 (0), .str [], .int .i64 (0), .str [], .int .i64 (0), .str [120], .str [], .str [], .int .i64 (0), .str [], .int .i64 (0), .snil, .int .i64 (0), .snil], .agg [.int .i64 (5), .str [111, 110, 101], .int .i64 (0), .str [], .int .i64 (0), .str [], .int .i64 (0), .str [], .str [], .str [], .int .i64 (1), .str [], .int .i64 (2), .snil, .int .i64 (1), .sdat false 1 [.str [108]] none]] none]], .int .i64 (0)),
  ([.agg [.str [111, 110, 101], .snil, .sdat true 16 [.agg [.int .i64 (2), .str [111, 110, 101], .int .i64 (0), .str [], .int .i64 (0), .str [], .int .i64 (0), .str [120], .str [], .str [], .int .i64 (0), .str [], .int .i64 (0), .snil, .int .i64 (0), .snil], .agg [.int .i64 (5), .str [111, 110, 101], .int .i64 (0), .str [], .int .i64 (0), .str [], .int .i64 (0), .str [], .str [], .str [], .int .i64 (1), .str [], .int .i64 (2), .snil, .int .i64 (1), .sdat true 1 [.str [108]] none]] none]], .int .i64 (0)),
  ([.agg [.str [111, 110, 101], .snil, .sdat false 16 [.agg [.int .i64 (2), .str [111, 110, 101], .int .i64 (0), .str [], .int .i64 (0), .str [], .int .i64 (0), .str [120], .str [], .str [], .int .i64 (0), .str [], .int .i64 (0), .snil, .int .i64 (0), .snil], .agg [.int .i64 (5), .str [111, 110, 101], .int .i64 (0), .str [], .int .i64 (0), .str [], .int .i64 (0), .str [], .str [], .str [], .int .i64 (1), .str [], .int .i64 (2), .snil, .int .i64 (1), .sdat false 1 [.str [108]] none]] none]], .int .i64 (0))]
theorem tbl185_ok : tbl185.all (memoChk C3 400 185) = true := by kernel_rfl
noncomputable def C4 : Ctx := { types, funs, prims := fun i => bif Nat.beq i 185 then some (memo tbl185) else C3.prims i, globs := fun _ => none, ext := exts }
end Go.Proofs.Tr
namespace Go.Proofs.Tr
open Go Go.Ev Go.Proofs
set_option maxRecDepth 100000
set_option maxHeartbeats 0
def tbl94 : List (List AV × AV) := [([.snil], .int .i64 (0)),
  ([.sdat true 3 [.agg [.str [111, 110, 101], .sdat false 1 [] (some 0), .sdat false 16 [.agg [.int .i64 (2), .str [111, 110, 101], .int .i64 (0), .str [], .int .i64 (0), .str [], .int .i64 (0), .str [120], .str [], .str [], .int .i64 (0), .str [], .int .i64 (0), .snil, .int .i64 (0), .snil], .agg [.int .i64 (5), .str [111, 110, 101], .int .i64 (0), .str [], .int .i64 (0), .str [], .int .i64 (0), .str [], .str [], .str [], .int .i64 (1), .str [], .int .i64 (2), .snil, .int .i64 (1), .sdat false 1 [.str [108]] none]] none]] none], .int .i64 (0)),
  ([.sdat true 3 [.agg [.str [111, 110, 101], .snil, .sdat false 16 [.agg [.int .i64 (2), .str [111, 110, 101], .int .i64 (0), .str [], .int .i64 (0), .str [], .int .i64 (0), .str [120], .str [], .str [], .int .i64 (0), .str [], .int .i64 (0), .snil, .int .i64 (0), .snil], .agg [.int .i64 (5), .str [111, 110, 101], .int .i64 (0), .str [], .int .i64 (0), .str [], .int .i64 (0), .str [], .str [], .str [], .int .i64 (1), .str [], .int .i64 (2), .snil, .int .i64 (1), .sdat false 1 [.str [108]] none]] none]] none], .int .i64 (0))]
theorem tbl94_ok : tbl94.all (memoChk C4 400 94) = true := by kernel_rfl
noncomputable def C5 : Ctx := { types, funs, prims := fun i => bif Nat.beq i 94 then some (memo tbl94) else C4.prims i, globs := fun _ => none, ext := exts }
end Go.Proofs.Tr
namespace Go.Proofs.Tr
open Go Go.Ev Go.Proofs
set_option maxRecDepth 100000
set_option maxHeartbeats 0
def tbl252 : List (List AV × AV) := [([.agg [.snil, .snil], .agg [.str [111, 110, 101], .sdat true 1 [] none, .sdat true 16 [.agg [.int .i64 (2), .str [111, 110, 101], .int .i64 (0), .str [], .int .i64 (0), .str [], .int .i64 (0), .str [120], .str [], .str [], .int .i64 (0), .str [], .int .i64 (0), .snil, .int .i64 (0), .snil], .agg [.int .i64 (5), .str [111, 110, 101], .int .i64 (0), .str [], .int .i64 (0), .str [], .int .i64 (0), .str [], .str [], .str [], .int .i64 (1), .str [], .int .i64 (2), .snil, .int .i64 (1), .sdat false 1 [.str [108]] none]] none]], .tup [.agg [.sdat false 10 [.agg [.str [111, 110, 101], .int .i64 (0), .bool false, .str [], .int .i64 (0), .str [120], .str [], .sdat false 4 [.agg [.str [111, 110, 101], .int .i64 (1), .str [108], .str []]] none, .sdat false 1 [.str [111, 110, 101]] none, .sdat false 1 [.str [111, 110, 101]] none]] none, .sdat false 4 [.agg [.str [], .int .i64 (0), .str [120], .sdat false 1 [.str [111, 110, 101]] none]] none], .int .i64 (0)]),
  ([.agg [.snil, .snil], .agg [.str [111, 110, 101], .sdat false 1 [] (some 0), .sdat false 16 [.agg [.int .i64 (2), .str [111, 110, 101], .int .i64 (0), .str [], .int .i64 (0), .str [], .int .i64 (0), .str [120], .str [], .str [], .int .i64 (0), .str [], .int .i64 (0), .snil, .int .i64 (0), .snil], .agg [.int .i64 (5), .str [111, 110, 101], .int .i64 (0), .str [], .int .i64 (0), .str [], .int .i64 (0), .str [], .str [], .str [], .int .i64 (1), .str [], .int .i64 (2), .snil, .int .i64 (1), .sdat false 1 [.str [108]] none]] none]], .tup [.agg [.sdat false 10 [.agg [.str [111, 110, 101], .int .i64 (0), .bool false, .str [], .int .i64 (0), .str [120], .str [], .sdat false 4 [.agg [.str [111, 110, 101], .int .i64 (1), .str [108], .str []]] none, .sdat false 1 [.str [111, 110, 101]] none, .sdat false 1 [.str [111, 110, 101]] none]] none, .sdat false 4 [.agg [.str [], .int .i64 (0), .str [120], .sdat false 1 [.str [111, 110, 101]] none]] none], .int .i64 (0)]),
  ([.agg [.snil, .snil], .agg [.str [111, 110, 101], .snil, .sdat false 16 [.agg [.int .i64 (2), .str [111, 110, 101], .int .i64 (0), .str [], .int .i64 (0), .str [], .int .i64 (0), .str [120], .str [], .str [], .int .i64 (0), .str [], .int .i64 (0), .snil, .int .i64 (0), .snil], .agg [.int .i64 (5), .str [111, 110, 101], .int .i64 (0), .str [], .int .i64 (0), .str [], .int .i64 (0), .str [], .str [], .str [], .int .i64 (1), .str [], .int .i64 (2), .snil, .int .i64 (1), .sdat false 1 [.str [108]] none]] none]], .tup [.agg [.sdat false 10 [.agg [.str [111, 110, 101], .int .i64 (0), .bool false, .str [], .int .i64 (0), .str [120], .str [], .sdat false 4 [.agg [.str [111, 110, 101], .int .i64 (1), .str [108], .str []]] none, .sdat false 1 [.str [111, 110, 101]] none, .sdat false 1 [.str [111, 110, 101]] none]] none, .sdat false 4 [.agg [.str [], .int .i64 (0), .str [120], .sdat false 1 [.str [111, 110, 101]] none]] none], .int .i64 (0)])]
theorem tbl252_ok : tbl252.all (memoChk C5 400 252) = true := by kernel_rfl
noncomputable def C6 : Ctx := { types, funs, prims := fun i => bif Nat.beq i 252 then some (memo tbl252) else C5.prims i, globs := fun _ => none, ext := exts }
end Go.Proofs.Tr
namespace Go.Proofs.Tr
open Go Go.Ev Go.Proofs
set_option maxRecDepth 100000
set_option maxHeartbeats 0
def tbl88 : List (List AV × AV) := [([.snil], .tup [.agg [.snil, .snil], .int .i64 (0)]),
  ([.sdat true 3 [.agg [.str [111, 110, 101], .sdat false 1 [] (some 0), .sdat false 16 [.agg [.int .i64 (2), .str [111, 110, 101], .int .i64 (0), .str [], .int .i64 (0), .str [], .int .i64 (0), .str [120], .str [], .str [], .int .i64 (0), .str [], .int .i64 (0), .snil, .int .i64 (0), .snil], .agg [.int .i64 (5), .str [111, 110, 101], .int .i64 (0), .str [], .int .i64 (0), .str [], .int .i64 (0), .str [], .str [], .str [], .int .i64 (1), .str [], .int .i64 (2), .snil, .int .i64 (1), .sdat false 1 [.str [108]] none]] none]] none], .tup [.agg [.sdat false 10 [.agg [.str [111, 110, 101], .int .i64 (0), .bool false, .str [], .int .i64 (0), .str [120], .str [], .sdat false 4 [.agg [.str [111, 110, 101], .int .i64 (1), .str [108], .str []]] none, .sdat false 1 [.str [111, 110, 101]] none, .sdat false 1 [.str [111, 110, 101]] none]] none, .sdat false 4 [.agg [.str [], .int .i64 (0), .str [120], .sdat false 1 [.str [111, 110, 101]] none]] none], .int .i64 (0)]),
  ([.sdat true 3 [.agg [.str [111, 110, 101], .snil, .sdat false 16 [.agg [.int .i64 (2), .str [111, 110, 101], .int .i64 (0), .str [], .int .i64 (0), .str [], .int .i64 (0), .str [120], .str [], .str [], .int .i64 (0), .str [], .int .i64 (0), .snil, .int .i64 (0), .snil], .agg [.int .i64 (5), .str [111, 110, 101], .int .i64 (0), .str [], .int .i64 (0), .str [], .int .i64 (0), .str [], .str [], .str [], .int .i64 (1), .str [], .int .i64 (2), .snil, .int .i64 (1), .sdat false 1 [.str [108]] none]] none]] none], .tup [.agg [.sdat false 10 [.agg [.str [111, 110, 101], .int .i64 (0), .bool false, .str [], .int .i64 (0), .str [120], .str [], .sdat false 4 [.agg [.str [111, 110, 101], .int .i64 (1), .str [108], .str []]] none, .sdat false 1 [.str [111, 110, 101]] none, .sdat false 1 [.str [111, 110, 101]] none]] none, .sdat false 4 [.agg [.str [], .int .i64 (0), .str [120], .sdat false 1 [.str [111, 110, 101]] none]] none], .int .i64 (0)])]
theorem tbl88_ok : tbl88.all (memoChk C6 400 88) = true := by kernel_rfl
noncomputable def C7 : Ctx := { types, funs, prims := fun i => bif Nat.beq i 88 then some (memo tbl88) else C6.prims i, globs := fun _ => none, ext := exts }
end Go.Proofs.Tr
