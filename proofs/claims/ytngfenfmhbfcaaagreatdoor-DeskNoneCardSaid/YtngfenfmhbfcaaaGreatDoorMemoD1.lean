/- A PART OF THE PROOFS THAT ONE CALL OF A LAW (the nil repository of layer 34; no desk, no power of layer 37) returns true, whatever the input; the input reads as it did. No condition beyond the given statement. This part: MemoD1. -/
import Derived.Test.YtngfenfmhbfcaaaGreatDoorCtxR
import Derived.Test.YtngfenfmhbfcaaaGreatDoorEvAllF
namespace Go.Proofs.Tr
open Go Go.Ev Go.Proofs
set_option maxRecDepth 100000
set_option maxHeartbeats 0
def dtbl139 : List (List AV × AV) := [([.str [97]], .bool true),
  ([.str [105, 110, 116, 101, 110, 116]], .bool true),
  ([.str [105, 110, 118, 101, 110, 116, 111, 114, 121]], .bool true),
  ([.str [119, 111, 114, 107]], .bool true),
  ([.str [112, 114, 105, 115, 116, 105, 110, 101]], .bool true),
  ([.str [120]], .bool true),
  ([.str []], .bool false),
  ([.str [111, 110, 101]], .bool true),
  ([.str [98]], .bool true)]
theorem dtbl139_ok : dtbl139.all (memoChk C 400 139) = true := by kernel_rfl
noncomputable def D1 : Ctx := { types, funs, prims := fun i => bif Nat.beq i 139 then some (memo dtbl139) else C.prims i, globs := fun _ => none, ext := exts }
end Go.Proofs.Tr
namespace Go.Proofs.Tr
open Go Go.Ev Go.Proofs
set_option maxRecDepth 100000
set_option maxHeartbeats 0
def dtbl70 : List (List AV × AV) := [([.str [97]], .bool true),
  ([.str [97, 47, 105, 110, 116, 101, 110, 116]], .bool true),
  ([.str [97, 47, 105, 110, 118, 101, 110, 116, 111, 114, 121]], .bool true),
  ([.str [97, 47, 119, 111, 114, 107]], .bool true),
  ([.str [97, 47, 112, 114, 105, 115, 116, 105, 110, 101]], .bool true),
  ([.str [120]], .bool true),
  ([.str []], .bool false),
  ([.str [98]], .bool true),
  ([.str [98, 47, 105, 110, 116, 101, 110, 116]], .bool true),
  ([.str [98, 47, 105, 110, 118, 101, 110, 116, 111, 114, 121]], .bool true),
  ([.str [98, 47, 119, 111, 114, 107]], .bool true),
  ([.str [98, 47, 112, 114, 105, 115, 116, 105, 110, 101]], .bool true)]
theorem dtbl70_ok : dtbl70.all (memoChk D1 400 70) = true := by kernel_rfl
def dtbl229 : List (List AV × AV) := [([.agg [.str [111, 110, 101], .int .i64 (0)]], .bool true),
  ([.agg [.str [], .int .i64 (1)]], .bool true),
  ([.agg [.str [], .int .i64 (2)]], .bool true),
  ([.agg [.str [], .int .i64 (0)]], .bool true)]
theorem dtbl229_ok : dtbl229.all (memoChk D1 400 229) = true := by kernel_rfl
noncomputable def D2 : Ctx := { types, funs, prims := fun i => bif Nat.beq i 229 then some (memo dtbl229) else bif Nat.beq i 70 then some (memo dtbl70) else D1.prims i, globs := fun _ => none, ext := exts }
end Go.Proofs.Tr
namespace Go.Proofs.Tr
open Go Go.Ev Go.Proofs
set_option maxRecDepth 100000
set_option maxHeartbeats 0
def dtbl278 : List (List AV × AV) := [([.agg [.int .i64 (5), .str [111, 110, 101], .int .i64 (0), .str [], .int .i64 (0), .str [], .int .i64 (0), .str [], .str [], .str [], .int .i64 (1), .str [], .int .i64 (2), .snil, .int .i64 (1), .sdat false 1 [.str [108]] none]], .int .i64 (0)),
  ([.agg [.int .i64 (2), .str [111, 110, 101], .int .i64 (0), .str [], .int .i64 (0), .str [], .int .i64 (0), .str [120], .str [], .str [], .int .i64 (0), .str [], .int .i64 (0), .snil, .int .i64 (0), .snil]], .int .i64 (0)),
  ([.agg [.int .i64 (5), .str [111, 110, 101], .int .i64 (0), .str [], .int .i64 (0), .str [], .int .i64 (0), .str [], .str [], .str [], .int .i64 (1), .str [], .int .i64 (2), .snil, .int .i64 (1), .sdat true 1 [.str [108]] none]], .int .i64 (0))]
theorem dtbl278_ok : dtbl278.all (memoChk D2 400 278) = true := by kernel_rfl
noncomputable def D3 : Ctx := { types, funs, prims := fun i => bif Nat.beq i 278 then some (memo dtbl278) else D2.prims i, globs := fun _ => none, ext := exts }
end Go.Proofs.Tr
namespace Go.Proofs.Tr
open Go Go.Ev Go.Proofs
set_option maxRecDepth 100000
set_option maxHeartbeats 0
def dtbl185 : List (List AV × AV) := [([.agg [.str [111, 110, 101], .sdat true 1 [] none, .sdat true 16 [.agg [.int .i64 (2), .str [111, 110, 101], .int .i64 (0), .str [], .int .i64 (0), .str [], .int .i64 (0), .str [120], .str [], .str [], .int .i64 (0), .str [], .int .i64 (0), .snil, .int .i64 (0), .snil], .agg [.int .i64 (5), .str [111, 110, 101], .int .i64 (0), .str [], .int .i64 (0), .str [], .int .i64 (0), .str [], .str [], .str [], .int .i64 (1), .str [], .int .i64 (2), .snil, .int .i64 (1), .sdat false 1 [.str [108]] none]] none]], .int .i64 (0)),
  ([.agg [.str [111, 110, 101], .sdat false 1 [] (some 0), .sdat false 16 [.agg [.int .i64 (2), .str [111, 110, 101], .int .i64 (0), .str [], .int .i64 (0), .str [], .int .i64 (0), .str [120], .str [], .str [], .int .i64 (0), .str [], .int .i64 (0), .snil, .int .i64 (0), .snil], .agg [.int .i64 (5), .str [111, 110, 101], .int .i64 (0), .str [], .int .i64 (0), .str [], .int .i64 (0), .str [], .str [], .str [], .int .i64 (1), .str [], .int .i64 (2), .snil, .int .i64 (1), .sdat false 1 [.str [108]] none]] none]], .int .i64 (0)),
  ([.agg [.str [111, 110, 101], .snil, .sdat true 16 [.agg [.int .i64 (2), .str [111, 110, 101], .int .i64 (0), .str [], .int .i64 (0), .str [], .int .i64 (0), .str [120], .str [], .str [], .int .i64 (0), .str [], .int .i64 (0), .snil, .int .i64 (0), .snil], .agg [.int .i64 (5), .str [111, 110, 101], .int .i64 (0), .str [], .int .i64 (0), .str [], .int .i64 (0), .str [], .str [], .str [], .int .i64 (1), .str [], .int .i64 (2), .snil, .int .i64 (1), .sdat true 1 [.str [108]] none]] none]], .int .i64 (0)),
  ([.agg [.str [111, 110, 101], .snil, .sdat false 16 [.agg [.int .i64 (2), .str [111, 110, 101], .int .i64 (0), .str [], .int .i64 (0), .str [], .int .i64 (0), .str [120], .str [], .str [], .int .i64 (0), .str [], .int .i64 (0), .snil, .int .i64 (0), .snil], .agg [.int .i64 (5), .str [111, 110, 101], .int .i64 (0), .str [], .int .i64 (0), .str [], .int .i64 (0), .str [], .str [], .str [], .int .i64 (1), .str [], .int .i64 (2), .snil, .int .i64 (1), .sdat false 1 [.str [108]] none]] none]], .int .i64 (0))]
theorem dtbl185_ok : dtbl185.all (memoChk D3 400 185) = true := by kernel_rfl
noncomputable def D4 : Ctx := { types, funs, prims := fun i => bif Nat.beq i 185 then some (memo dtbl185) else D3.prims i, globs := fun _ => none, ext := exts }
end Go.Proofs.Tr
namespace Go.Proofs.Tr
open Go Go.Ev Go.Proofs
set_option maxRecDepth 100000
set_option maxHeartbeats 0
def dtbl94 : List (List AV × AV) := [([.snil], .int .i64 (0)),
  ([.sdat true 3 [.agg [.str [111, 110, 101], .sdat false 1 [] (some 0), .sdat false 16 [.agg [.int .i64 (2), .str [111, 110, 101], .int .i64 (0), .str [], .int .i64 (0), .str [], .int .i64 (0), .str [120], .str [], .str [], .int .i64 (0), .str [], .int .i64 (0), .snil, .int .i64 (0), .snil], .agg [.int .i64 (5), .str [111, 110, 101], .int .i64 (0), .str [], .int .i64 (0), .str [], .int .i64 (0), .str [], .str [], .str [], .int .i64 (1), .str [], .int .i64 (2), .snil, .int .i64 (1), .sdat false 1 [.str [108]] none]] none]] none], .int .i64 (0)),
  ([.sdat true 3 [.agg [.str [111, 110, 101], .snil, .sdat false 16 [.agg [.int .i64 (2), .str [111, 110, 101], .int .i64 (0), .str [], .int .i64 (0), .str [], .int .i64 (0), .str [120], .str [], .str [], .int .i64 (0), .str [], .int .i64 (0), .snil, .int .i64 (0), .snil], .agg [.int .i64 (5), .str [111, 110, 101], .int .i64 (0), .str [], .int .i64 (0), .str [], .int .i64 (0), .str [], .str [], .str [], .int .i64 (1), .str [], .int .i64 (2), .snil, .int .i64 (1), .sdat false 1 [.str [108]] none]] none]] none], .int .i64 (0))]
theorem dtbl94_ok : dtbl94.all (memoChk D4 400 94) = true := by kernel_rfl
noncomputable def D5 : Ctx := { types, funs, prims := fun i => bif Nat.beq i 94 then some (memo dtbl94) else D4.prims i, globs := fun _ => none, ext := exts }
end Go.Proofs.Tr
namespace Go.Proofs.Tr
open Go Go.Ev Go.Proofs
set_option maxRecDepth 100000
set_option maxHeartbeats 0
def dtbl252 : List (List AV × AV) := [([.agg [.snil, .snil], .agg [.str [111, 110, 101], .sdat true 1 [] none, .sdat true 16 [.agg [.int .i64 (2), .str [111, 110, 101], .int .i64 (0), .str [], .int .i64 (0), .str [], .int .i64 (0), .str [120], .str [], .str [], .int .i64 (0), .str [], .int .i64 (0), .snil, .int .i64 (0), .snil], .agg [.int .i64 (5), .str [111, 110, 101], .int .i64 (0), .str [], .int .i64 (0), .str [], .int .i64 (0), .str [], .str [], .str [], .int .i64 (1), .str [], .int .i64 (2), .snil, .int .i64 (1), .sdat false 1 [.str [108]] none]] none]], .tup [.agg [.sdat false 10 [.agg [.str [111, 110, 101], .int .i64 (0), .bool false, .str [], .int .i64 (0), .str [120], .str [], .sdat false 4 [.agg [.str [111, 110, 101], .int .i64 (1), .str [108], .str []]] none, .sdat false 1 [.str [111, 110, 101]] none, .sdat false 1 [.str [111, 110, 101]] none]] none, .sdat false 4 [.agg [.str [], .int .i64 (0), .str [120], .sdat false 1 [.str [111, 110, 101]] none]] none], .int .i64 (0)]),
  ([.agg [.snil, .snil], .agg [.str [111, 110, 101], .sdat false 1 [] (some 0), .sdat false 16 [.agg [.int .i64 (2), .str [111, 110, 101], .int .i64 (0), .str [], .int .i64 (0), .str [], .int .i64 (0), .str [120], .str [], .str [], .int .i64 (0), .str [], .int .i64 (0), .snil, .int .i64 (0), .snil], .agg [.int .i64 (5), .str [111, 110, 101], .int .i64 (0), .str [], .int .i64 (0), .str [], .int .i64 (0), .str [], .str [], .str [], .int .i64 (1), .str [], .int .i64 (2), .snil, .int .i64 (1), .sdat false 1 [.str [108]] none]] none]], .tup [.agg [.sdat false 10 [.agg [.str [111, 110, 101], .int .i64 (0), .bool false, .str [], .int .i64 (0), .str [120], .str [], .sdat false 4 [.agg [.str [111, 110, 101], .int .i64 (1), .str [108], .str []]] none, .sdat false 1 [.str [111, 110, 101]] none, .sdat false 1 [.str [111, 110, 101]] none]] none, .sdat false 4 [.agg [.str [], .int .i64 (0), .str [120], .sdat false 1 [.str [111, 110, 101]] none]] none], .int .i64 (0)]),
  ([.agg [.snil, .snil], .agg [.str [111, 110, 101], .snil, .sdat false 16 [.agg [.int .i64 (2), .str [111, 110, 101], .int .i64 (0), .str [], .int .i64 (0), .str [], .int .i64 (0), .str [120], .str [], .str [], .int .i64 (0), .str [], .int .i64 (0), .snil, .int .i64 (0), .snil], .agg [.int .i64 (5), .str [111, 110, 101], .int .i64 (0), .str [], .int .i64 (0), .str [], .int .i64 (0), .str [], .str [], .str [], .int .i64 (1), .str [], .int .i64 (2), .snil, .int .i64 (1), .sdat false 1 [.str [108]] none]] none]], .tup [.agg [.sdat false 10 [.agg [.str [111, 110, 101], .int .i64 (0), .bool false, .str [], .int .i64 (0), .str [120], .str [], .sdat false 4 [.agg [.str [111, 110, 101], .int .i64 (1), .str [108], .str []]] none, .sdat false 1 [.str [111, 110, 101]] none, .sdat false 1 [.str [111, 110, 101]] none]] none, .sdat false 4 [.agg [.str [], .int .i64 (0), .str [120], .sdat false 1 [.str [111, 110, 101]] none]] none], .int .i64 (0)])]
theorem dtbl252_ok : dtbl252.all (memoChk D5 400 252) = true := by kernel_rfl
noncomputable def D6 : Ctx := { types, funs, prims := fun i => bif Nat.beq i 252 then some (memo dtbl252) else D5.prims i, globs := fun _ => none, ext := exts }
end Go.Proofs.Tr
namespace Go.Proofs.Tr
open Go Go.Ev Go.Proofs
set_option maxRecDepth 100000
set_option maxHeartbeats 0
def dtbl88 : List (List AV × AV) := [([.snil], .tup [.agg [.snil, .snil], .int .i64 (0)]),
  ([.sdat true 3 [.agg [.str [111, 110, 101], .sdat false 1 [] (some 0), .sdat false 16 [.agg [.int .i64 (2), .str [111, 110, 101], .int .i64 (0), .str [], .int .i64 (0), .str [], .int .i64 (0), .str [120], .str [], .str [], .int .i64 (0), .str [], .int .i64 (0), .snil, .int .i64 (0), .snil], .agg [.int .i64 (5), .str [111, 110, 101], .int .i64 (0), .str [], .int .i64 (0), .str [], .int .i64 (0), .str [], .str [], .str [], .int .i64 (1), .str [], .int .i64 (2), .snil, .int .i64 (1), .sdat false 1 [.str [108]] none]] none]] none], .tup [.agg [.sdat false 10 [.agg [.str [111, 110, 101], .int .i64 (0), .bool false, .str [], .int .i64 (0), .str [120], .str [], .sdat false 4 [.agg [.str [111, 110, 101], .int .i64 (1), .str [108], .str []]] none, .sdat false 1 [.str [111, 110, 101]] none, .sdat false 1 [.str [111, 110, 101]] none]] none, .sdat false 4 [.agg [.str [], .int .i64 (0), .str [120], .sdat false 1 [.str [111, 110, 101]] none]] none], .int .i64 (0)]),
  ([.sdat true 3 [.agg [.str [111, 110, 101], .snil, .sdat false 16 [.agg [.int .i64 (2), .str [111, 110, 101], .int .i64 (0), .str [], .int .i64 (0), .str [], .int .i64 (0), .str [120], .str [], .str [], .int .i64 (0), .str [], .int .i64 (0), .snil, .int .i64 (0), .snil], .agg [.int .i64 (5), .str [111, 110, 101], .int .i64 (0), .str [], .int .i64 (0), .str [], .int .i64 (0), .str [], .str [], .str [], .int .i64 (1), .str [], .int .i64 (2), .snil, .int .i64 (1), .sdat false 1 [.str [108]] none]] none]] none], .tup [.agg [.sdat false 10 [.agg [.str [111, 110, 101], .int .i64 (0), .bool false, .str [], .int .i64 (0), .str [120], .str [], .sdat false 4 [.agg [.str [111, 110, 101], .int .i64 (1), .str [108], .str []]] none, .sdat false 1 [.str [111, 110, 101]] none, .sdat false 1 [.str [111, 110, 101]] none]] none, .sdat false 4 [.agg [.str [], .int .i64 (0), .str [120], .sdat false 1 [.str [111, 110, 101]] none]] none], .int .i64 (0)])]
theorem dtbl88_ok : dtbl88.all (memoChk D6 400 88) = true := by kernel_rfl
noncomputable def D7 : Ctx := { types, funs, prims := fun i => bif Nat.beq i 88 then some (memo dtbl88) else D6.prims i, globs := fun _ => none, ext := exts }
end Go.Proofs.Tr
