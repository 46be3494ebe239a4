/- A PART OF THE PROOFS THAT ONE CALL OF A LAW (the nil repository of layer 34; no desk, no power of layer 37) returns true, whatever the input; the input reads as it did. No condition beyond the given statement. This part: MemoD8. -/
import Derived.Test.YtngfenfmhbfcaaaGreatDoorMemoD1
namespace Go.Proofs.Tr
open Go Go.Ev Go.Proofs
set_option maxRecDepth 100000
set_option maxHeartbeats 0
def dtbl49 : List (List AV × AV) := [([.snil], .tup [.agg [.snil], .int .i64 (0)]),
  ([.sdat true 3 [.agg [.str [111, 110, 101], .sdat false 1 [] (some 0), .sdat false 16 [.agg [.int .i64 (2), .str [111, 110, 101], .int .i64 (0), .str [], .int .i64 (0), .str [], .int .i64 (0), .str [120], .str [], .str [], .int .i64 (0), .str [], .int .i64 (0), .snil, .int .i64 (0), .snil], .agg [.int .i64 (5), .str [111, 110, 101], .int .i64 (0), .str [], .int .i64 (0), .str [], .int .i64 (0), .str [], .str [], .str [], .int .i64 (1), .str [], .int .i64 (2), .snil, .int .i64 (1), .sdat false 1 [.str [108]] none]] none]] none], .tup [.agg [.sdat false 3 [.agg [.str [120], .bool false, .sdat false 1 [.str [108]] none]] none], .int .i64 (0)])]
theorem dtbl49_ok : dtbl49.all (memoChk D7 400 49) = true := by kernel_rfl
def dtbl213 : List (List AV × AV) := [([.str [97, 47, 105, 110, 118, 101, 110, 116, 111, 114, 121], .str []], .bool true),
  ([.str [97, 47, 119, 111, 114, 107], .str []], .bool true),
  ([.str [97, 47, 112, 114, 105, 115, 116, 105, 110, 101], .str []], .bool true)]
theorem dtbl213_ok : dtbl213.all (memoChk D7 400 213) = true := by kernel_rfl
def dtbl34 : List (List AV × AV) := [([.pdat true [.mdat true [.str [97, 47, 105, 110, 118, 101, 110, 116, 111, 114, 121], .str [97, 47, 119, 111, 114, 107], .str [97, 47, 112, 114, 105, 115, 116, 105, 110, 101]] [.agg [.str [1, 59, 3, 111, 110, 101, 0, 2, 25, 2, 0, 5, 111, 110, 101, 35, 48, 2, 35, 48, 2, 35, 48, 2, 35, 48, 2, 35, 48, 1, 120, 0, 0, 0, 26, 5, 1, 5, 111, 110, 101, 35, 48, 2, 35, 48, 2, 35, 48, 2, 35, 49, 2, 35, 50, 0, 0, 0, 1, 1, 108]], .agg [.str [2, 9, 3, 1, 120, 1, 102, 3, 1, 1, 108, 9, 2, 1, 120, 5, 111, 110, 101, 35, 48]], .agg [.str [3, 1, 120, 1, 102, 3, 1, 1, 108]]] [1, 2, 3] 6, .snil, .sdat true 2 [.agg [.int .i64 (24), .snil]] none, .int .i64 (1048576), .int .i64 (25), .bool false], .str [97]], .tup [.sdat false 3 [.agg [.str [111, 110, 101], .snil, .sdat false 16 [.agg [.int .i64 (2), .str [111, 110, 101], .int .i64 (0), .str [], .int .i64 (0), .str [], .int .i64 (0), .str [120], .str [], .str [], .int .i64 (0), .str [], .int .i64 (0), .snil, .int .i64 (0), .snil], .agg [.int .i64 (5), .str [111, 110, 101], .int .i64 (0), .str [], .int .i64 (0), .str [], .int .i64 (0), .str [], .str [], .str [], .int .i64 (1), .str [], .int .i64 (2), .snil, .int .i64 (1), .sdat false 1 [.str [108]] none]] none]] none, .agg [.sdat false 3 [.agg [.str [120], .bool false, .sdat false 1 [.str [108]] none]] none, .sdat false 3 [.agg [.str [120], .str [111, 110, 101], .int .i64 (0)]] none], .int .i64 (0)])]
theorem dtbl34_ok : dtbl34.all (memoChk D7 400 34) = true := by kernel_rfl
noncomputable def D8 : Ctx := { types, funs, prims := fun i => bif Nat.beq i 34 then some (memo dtbl34) else bif Nat.beq i 213 then some (memo dtbl213) else bif Nat.beq i 49 then some (memo dtbl49) else D7.prims i, globs := fun _ => none, ext := exts }
end Go.Proofs.Tr
namespace Go.Proofs.Tr
open Go Go.Ev Go.Proofs
set_option maxRecDepth 100000
set_option maxHeartbeats 0
def dtbl119 : List (List AV × AV) := [([.pdat true [.mdat true [] [] [] 0, .snil, .sdat true 2 [.agg [.int .i64 (24), .snil]] none, .int .i64 (1048576), .int .i64 (0), .bool false], .str []], .snil),
  ([.pdat true [.mdat true [.str [97, 47, 105, 110, 118, 101, 110, 116, 111, 114, 121], .str [97, 47, 119, 111, 114, 107], .str [97, 47, 112, 114, 105, 115, 116, 105, 110, 101]] [.agg [.str [1, 59, 3, 111, 110, 101, 0, 2, 25, 2, 0, 5, 111, 110, 101, 35, 48, 2, 35, 48, 2, 35, 48, 2, 35, 48, 2, 35, 48, 1, 120, 0, 0, 0, 26, 5, 1, 5, 111, 110, 101, 35, 48, 2, 35, 48, 2, 35, 48, 2, 35, 49, 2, 35, 50, 0, 0, 0, 1, 1, 108]], .agg [.str [2, 9, 3, 1, 120, 1, 102, 3, 1, 1, 108, 9, 2, 1, 120, 5, 111, 110, 101, 35, 48]], .agg [.str [3, 1, 120, 1, 102, 3, 1, 1, 108]]] [1, 2, 3] 6, .snil, .sdat true 2 [.agg [.int .i64 (24), .snil]] none, .int .i64 (1048576), .int .i64 (25), .bool false], .str []], .sdat false 1 [.str [97, 47, 105, 110, 118, 101, 110, 116, 111, 114, 121], .str [97, 47, 112, 114, 105, 115, 116, 105, 110, 101], .str [97, 47, 119, 111, 114, 107]] none)]
theorem dtbl119_ok : dtbl119.all (memoChkA D8 400 119) = true := by kernel_rfl
noncomputable def D9 : Ctx := { types, funs, prims := fun i => bif Nat.beq i 119 then some (memo dtbl119) else D8.prims i, globs := fun _ => none, ext := exts }
end Go.Proofs.Tr
