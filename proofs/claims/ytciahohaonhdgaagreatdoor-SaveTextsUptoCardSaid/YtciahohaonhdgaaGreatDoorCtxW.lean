/- A PART OF THE PROOF THAT SAVETEXTS HOLDS FOR EVERY INPUT OF BULK AT MOST 1048576. No condition beyond the given statement. This part: CtxW. -/
import Derived.Test.YtciahohaonhdgaaGreatDoorEvCtx
import Derived.Test.YtciahohaonhdgaaGreatDoorEvK
import Derived.Test.YtciahohaonhdgaaGreatDoorProg
import Derived.KernelRfl
import Derived.Test.YtciahohaonhdgaaGreatDoorEvSizeF
namespace Go.Proofs.Wc
open Go Go.Ev Go.Proofs
set_option maxRecDepth 100000
noncomputable def types : BT TI := (@BT.node TI (@BT.node TI (@BT.node TI (@BT.node TI (@BT.node TI (@BT.node TI (@BT.nil TI) 3 (TI.mk Tryz.t3.desc Tryz.t3 false) (@BT.nil TI)) 4 (TI.mk Tryz.t4.desc Tryz.t4 false) (@BT.nil TI)) 5 (TI.mk Tryz.t5.desc Tryz.t5 false) (@BT.node TI (@BT.nil TI) 9 (TI.mk Tryz.t9.desc Tryz.t9 false) (@BT.nil TI))) 22 (TI.mk Tryz.t22.desc Tryz.t22 false) (@BT.node TI (@BT.node TI (@BT.nil TI) 23 (TI.mk Tryz.t23.desc Tryz.t23 false) (@BT.nil TI)) 27 (TI.mk Tryz.t26.desc Tryz.t27 true) (@BT.node TI (@BT.nil TI) 28 (TI.mk Tryz.t3.desc Tryz.t28 false) (@BT.nil TI)))) 42 (TI.mk Tryz.t41.desc Tryz.t42 true) (@BT.node TI (@BT.node TI (@BT.node TI (@BT.nil TI) 54 (TI.mk Tryz.t54.desc Tryz.t54 false) (@BT.nil TI)) 56 (TI.mk Tryz.t55.desc Tryz.t56 true) (@BT.node TI (@BT.nil TI) 58 (TI.mk Tryz.t58.desc Tryz.t58 false) (@BT.nil TI))) 63 (TI.mk Tryz.t62.desc Tryz.t63 true) (@BT.node TI (@BT.node TI (@BT.nil TI) 64 (TI.mk Tryz.t64.desc Tryz.t64 false) (@BT.nil TI)) 94 (TI.mk Tryz.t94.desc Tryz.t94 false) (@BT.node TI (@BT.nil TI) 95 (TI.mk Tryz.t95.desc Tryz.t95 false) (@BT.nil TI))))) 96 (TI.mk Tryz.t96.desc Tryz.t96 false) (@BT.node TI (@BT.node TI (@BT.node TI (@BT.node TI (@BT.node TI (@BT.nil TI) 98 (TI.mk Tryz.t97.desc Tryz.t98 true) (@BT.nil TI)) 99 (TI.mk Tryz.t99.desc Tryz.t99 false) (@BT.nil TI)) 114 (TI.mk Tryz.t113.desc Tryz.t114 true) (@BT.node TI (@BT.nil TI) 124 (TI.mk Tryz.t124.desc Tryz.t124 false) (@BT.nil TI))) 130 (TI.mk Tryz.t130.desc Tryz.t130 false) (@BT.node TI (@BT.node TI (@BT.nil TI) 145 (TI.mk Tryz.t144.desc Tryz.t145 true) (@BT.nil TI)) 152 (TI.mk Tryz.t152.desc Tryz.t152 false) (@BT.node TI (@BT.nil TI) 153 (TI.mk Tryz.t153.desc Tryz.t153 false) (@BT.nil TI)))) 155 (TI.mk Tryz.t154.desc Tryz.t155 true) (@BT.node TI (@BT.node TI (@BT.node TI (@BT.nil TI) 162 (TI.mk Tryz.t162.desc Tryz.t162 false) (@BT.nil TI)) 173 (TI.mk Tryz.t172.desc Tryz.t173 true) (@BT.node TI (@BT.nil TI) 177 (TI.mk Tryz.t177.desc Tryz.t177 false) (@BT.nil TI))) 183 (TI.mk Tryz.t182.desc Tryz.t183 true) (@BT.node TI (@BT.node TI (@BT.nil TI) 238 (TI.mk Tryz.t238.desc Tryz.t238 false) (@BT.nil TI)) 293 (TI.mk Tryz.t293.desc Tryz.t293 false) (@BT.node TI (@BT.nil TI) 321 (TI.mk Tryz.t320.desc Tryz.t321 true) (@BT.nil TI))))))
noncomputable def funs : BT Func := (@BT.node Func (@BT.node Func (@BT.node Func (@BT.node Func (@BT.node Func (@BT.node Func (@BT.node Func (@BT.node Func (@BT.nil Func) 5 Tryz.f5 (@BT.nil Func)) 6 Tryz.f6 (@BT.nil Func)) 7 Tryz.f7 (@BT.node Func (@BT.nil Func) 8 Tryz.f8 (@BT.nil Func))) 10 Tryz.f10 (@BT.node Func (@BT.node Func (@BT.nil Func) 11 Tryz.f11 (@BT.nil Func)) 13 Tryz.f13 (@BT.node Func (@BT.nil Func) 14 Tryz.f14 (@BT.nil Func)))) 15 Tryz.f15 (@BT.node Func (@BT.node Func (@BT.node Func (@BT.node Func (@BT.nil Func) 17 Tryz.f17 (@BT.nil Func)) 18 Tryz.f18 (@BT.nil Func)) 19 Tryz.f19 (@BT.node Func (@BT.nil Func) 21 Tryz.f21 (@BT.nil Func))) 22 Tryz.f22 (@BT.node Func (@BT.node Func (@BT.nil Func) 23 Tryz.f23 (@BT.nil Func)) 24 Tryz.f24 (@BT.node Func (@BT.nil Func) 25 Tryz.f25 (@BT.nil Func))))) 26 Tryz.f26 (@BT.node Func (@BT.node Func (@BT.node Func (@BT.node Func (@BT.node Func (@BT.nil Func) 27 Tryz.f27 (@BT.nil Func)) 28 Tryz.f28 (@BT.nil Func)) 30 Tryz.f30 (@BT.node Func (@BT.nil Func) 31 Tryz.f31 (@BT.nil Func))) 32 Tryz.f32 (@BT.node Func (@BT.node Func (@BT.nil Func) 34 Tryz.f34 (@BT.nil Func)) 35 Tryz.f35 (@BT.node Func (@BT.nil Func) 36 Tryz.f36 (@BT.nil Func)))) 37 Tryz.f37 (@BT.node Func (@BT.node Func (@BT.node Func (@BT.node Func (@BT.nil Func) 39 Tryz.f39 (@BT.nil Func)) 42 Tryz.f42 (@BT.nil Func)) 43 Tryz.f43 (@BT.node Func (@BT.nil Func) 44 Tryz.f44 (@BT.nil Func))) 48 Tryz.f48 (@BT.node Func (@BT.node Func (@BT.nil Func) 51 Tryz.f51 (@BT.nil Func)) 55 Tryz.f55 (@BT.node Func (@BT.nil Func) 56 Tryz.f56 (@BT.nil Func)))))) 57 Tryz.f57 (@BT.node Func (@BT.node Func (@BT.node Func (@BT.node Func (@BT.node Func (@BT.node Func (@BT.nil Func) 58 Tryz.f58 (@BT.nil Func)) 59 Tryz.f59 (@BT.nil Func)) 60 Tryz.f60 (@BT.node Func (@BT.nil Func) 61 Tryz.f61 (@BT.nil Func))) 62 Tryz.f62 (@BT.node Func (@BT.node Func (@BT.nil Func) 63 Tryz.f63 (@BT.nil Func)) 64 Tryz.f64 (@BT.node Func (@BT.nil Func) 65 Tryz.f65 (@BT.nil Func)))) 66 Tryz.f66 (@BT.node Func (@BT.node Func (@BT.node Func (@BT.node Func (@BT.nil Func) 67 Tryz.f67 (@BT.nil Func)) 68 Tryz.f68 (@BT.nil Func)) 70 Tryz.f70 (@BT.node Func (@BT.nil Func) 71 Tryz.f71 (@BT.nil Func))) 72 Tryz.f72 (@BT.node Func (@BT.node Func (@BT.nil Func) 73 Tryz.f73 (@BT.nil Func)) 74 Tryz.f74 (@BT.node Func (@BT.nil Func) 75 Tryz.f75 (@BT.nil Func))))) 76 Tryz.f76 (@BT.node Func (@BT.node Func (@BT.node Func (@BT.node Func (@BT.node Func (@BT.nil Func) 77 Tryz.f77 (@BT.nil Func)) 78 Tryz.f78 (@BT.nil Func)) 79 Tryz.f79 (@BT.node Func (@BT.nil Func) 80 Tryz.f80 (@BT.nil Func))) 83 Tryz.f83 (@BT.node Func (@BT.node Func (@BT.nil Func) 84 Tryz.f84 (@BT.nil Func)) 86 Tryz.f86 (@BT.node Func (@BT.nil Func) 88 Tryz.f88 (@BT.nil Func)))) 95 Tryz.f95 (@BT.node Func (@BT.node Func (@BT.node Func (@BT.nil Func) 99 Tryz.f99 (@BT.nil Func)) 100 Tryz.f100 (@BT.node Func (@BT.nil Func) 102 Tryz.f102 (@BT.nil Func))) 103 Tryz.f103 (@BT.node Func (@BT.node Func (@BT.nil Func) 104 Tryz.f104 (@BT.nil Func)) 105 Tryz.f105 (@BT.node Func (@BT.nil Func) 106 Tryz.f106 (@BT.nil Func))))))) 107 Tryz.f107 (@BT.node Func (@BT.node Func (@BT.node Func (@BT.node Func (@BT.node Func (@BT.node Func (@BT.node Func (@BT.nil Func) 108 Tryz.f108 (@BT.nil Func)) 110 Tryz.f110 (@BT.nil Func)) 111 Tryz.f111 (@BT.node Func (@BT.nil Func) 112 Tryz.f112 (@BT.nil Func))) 114 Tryz.f114 (@BT.node Func (@BT.node Func (@BT.nil Func) 115 Tryz.f115 (@BT.nil Func)) 116 Tryz.f116 (@BT.node Func (@BT.nil Func) 117 Tryz.f117 (@BT.nil Func)))) 118 Tryz.f118 (@BT.node Func (@BT.node Func (@BT.node Func (@BT.node Func (@BT.nil Func) 119 Tryz.f119 (@BT.nil Func)) 120 Tryz.f120 (@BT.nil Func)) 122 Tryz.f122 (@BT.node Func (@BT.nil Func) 124 Tryz.f124 (@BT.nil Func))) 125 Tryz.f125 (@BT.node Func (@BT.node Func (@BT.nil Func) 126 Tryz.f126 (@BT.nil Func)) 127 Tryz.f127 (@BT.node Func (@BT.nil Func) 128 Tryz.f128 (@BT.nil Func))))) 130 Tryz.f130 (@BT.node Func (@BT.node Func (@BT.node Func (@BT.node Func (@BT.node Func (@BT.nil Func) 131 Tryz.f131 (@BT.nil Func)) 132 Tryz.f132 (@BT.nil Func)) 134 Tryz.f134 (@BT.node Func (@BT.nil Func) 142 Tryz.f142 (@BT.nil Func))) 143 Tryz.f143 (@BT.node Func (@BT.node Func (@BT.nil Func) 144 Tryz.f144 (@BT.nil Func)) 145 Tryz.f145 (@BT.node Func (@BT.nil Func) 146 Tryz.f146 (@BT.nil Func)))) 147 Tryz.f147 (@BT.node Func (@BT.node Func (@BT.node Func (@BT.nil Func) 150 Tryz.f150 (@BT.nil Func)) 151 Tryz.f151 (@BT.node Func (@BT.nil Func) 152 Tryz.f152 (@BT.nil Func))) 153 Tryz.f153 (@BT.node Func (@BT.node Func (@BT.nil Func) 154 Tryz.f154 (@BT.nil Func)) 155 Tryz.f155 (@BT.node Func (@BT.nil Func) 156 Tryz.f156 (@BT.nil Func)))))) 157 Tryz.f157 (@BT.node Func (@BT.node Func (@BT.node Func (@BT.node Func (@BT.node Func (@BT.node Func (@BT.nil Func) 158 Tryz.f158 (@BT.nil Func)) 159 Tryz.f159 (@BT.nil Func)) 160 Tryz.f160 (@BT.node Func (@BT.nil Func) 161 Tryz.f161 (@BT.nil Func))) 163 Tryz.f163 (@BT.node Func (@BT.node Func (@BT.nil Func) 164 Tryz.f164 (@BT.nil Func)) 170 Tryz.f170 (@BT.node Func (@BT.nil Func) 174 Tryz.f174 (@BT.nil Func)))) 177 Tryz.f177 (@BT.node Func (@BT.node Func (@BT.node Func (@BT.node Func (@BT.nil Func) 178 Tryz.f178 (@BT.nil Func)) 181 Tryz.f181 (@BT.nil Func)) 189 Tryz.f189 (@BT.node Func (@BT.nil Func) 193 Tryz.f193 (@BT.nil Func))) 194 Tryz.f194 (@BT.node Func (@BT.node Func (@BT.nil Func) 201 Tryz.f201 (@BT.nil Func)) 202 Tryz.f202 (@BT.node Func (@BT.nil Func) 206 Tryz.f206 (@BT.nil Func))))) 214 Tryz.f214 (@BT.node Func (@BT.node Func (@BT.node Func (@BT.node Func (@BT.node Func (@BT.nil Func) 215 Tryz.f215 (@BT.nil Func)) 216 Tryz.f216 (@BT.nil Func)) 217 Tryz.f217 (@BT.node Func (@BT.nil Func) 218 Tryz.f218 (@BT.nil Func))) 219 Tryz.f219 (@BT.node Func (@BT.node Func (@BT.nil Func) 222 Tryz.f222 (@BT.nil Func)) 228 Tryz.f228 (@BT.node Func (@BT.nil Func) 255 Tryz.f255 (@BT.nil Func)))) 257 Tryz.f257 (@BT.node Func (@BT.node Func (@BT.node Func (@BT.nil Func) 258 Tryz.f258 (@BT.nil Func)) 261 Tryz.f261 (@BT.node Func (@BT.nil Func) 276 Tryz.f276 (@BT.nil Func))) 299 Tryz.f299 (@BT.node Func (@BT.node Func (@BT.nil Func) 302 Tryz.f302 (@BT.nil Func)) 340 Tryz.f340 (@BT.node Func (@BT.nil Func) 353 Tryz.f353 (@BT.nil Func))))))))
def isTrue2 (r : Option (AV × St)) : Bool := match r with
 | some (.bool b, _) => b
 | _ => false
end Go.Proofs.Wc
namespace Go.Proofs.Wc
open Go Go.Ev Go.Proofs
set_option maxRecDepth 100000
set_option maxHeartbeats 0
theorem fr5 : FnRow Tryz.prog 5 Tryz.f5 := ⟨Tryz.func5, by kernel_rfl, by kernel_rfl⟩
theorem fr6 : FnRow Tryz.prog 6 Tryz.f6 := ⟨Tryz.func6, by kernel_rfl, by kernel_rfl⟩
theorem fr7 : FnRow Tryz.prog 7 Tryz.f7 := ⟨Tryz.func7, by kernel_rfl, by kernel_rfl⟩
theorem fr8 : FnRow Tryz.prog 8 Tryz.f8 := ⟨Tryz.func8, by kernel_rfl, by kernel_rfl⟩
theorem fr10 : FnRow Tryz.prog 10 Tryz.f10 := ⟨Tryz.func10, by kernel_rfl, by kernel_rfl⟩
theorem fr11 : FnRow Tryz.prog 11 Tryz.f11 := ⟨Tryz.func11, by kernel_rfl, by kernel_rfl⟩
theorem fr13 : FnRow Tryz.prog 13 Tryz.f13 := ⟨Tryz.func13, by kernel_rfl, by kernel_rfl⟩
theorem fr14 : FnRow Tryz.prog 14 Tryz.f14 := ⟨Tryz.func14, by kernel_rfl, by kernel_rfl⟩
theorem fr15 : FnRow Tryz.prog 15 Tryz.f15 := ⟨Tryz.func15, by kernel_rfl, by kernel_rfl⟩
theorem fr17 : FnRow Tryz.prog 17 Tryz.f17 := ⟨Tryz.func17, by kernel_rfl, by kernel_rfl⟩
theorem fr18 : FnRow Tryz.prog 18 Tryz.f18 := ⟨Tryz.func18, by kernel_rfl, by kernel_rfl⟩
theorem fr19 : FnRow Tryz.prog 19 Tryz.f19 := ⟨Tryz.func19, by kernel_rfl, by kernel_rfl⟩
theorem fr21 : FnRow Tryz.prog 21 Tryz.f21 := ⟨Tryz.func21, by kernel_rfl, by kernel_rfl⟩
theorem fr22 : FnRow Tryz.prog 22 Tryz.f22 := ⟨Tryz.func22, by kernel_rfl, by kernel_rfl⟩
theorem fr23 : FnRow Tryz.prog 23 Tryz.f23 := ⟨Tryz.func23, by kernel_rfl, by kernel_rfl⟩
theorem fr24 : FnRow Tryz.prog 24 Tryz.f24 := ⟨Tryz.func24, by kernel_rfl, by kernel_rfl⟩
theorem fr25 : FnRow Tryz.prog 25 Tryz.f25 := ⟨Tryz.func25, by kernel_rfl, by kernel_rfl⟩
theorem fr26 : FnRow Tryz.prog 26 Tryz.f26 := ⟨Tryz.func26, by kernel_rfl, by kernel_rfl⟩
theorem fr27 : FnRow Tryz.prog 27 Tryz.f27 := ⟨Tryz.func27, by kernel_rfl, by kernel_rfl⟩
theorem fr28 : FnRow Tryz.prog 28 Tryz.f28 := ⟨Tryz.func28, by kernel_rfl, by kernel_rfl⟩
theorem fr30 : FnRow Tryz.prog 30 Tryz.f30 := ⟨Tryz.func30, by kernel_rfl, by kernel_rfl⟩
theorem fr31 : FnRow Tryz.prog 31 Tryz.f31 := ⟨Tryz.func31, by kernel_rfl, by kernel_rfl⟩
theorem fr32 : FnRow Tryz.prog 32 Tryz.f32 := ⟨Tryz.func32, by kernel_rfl, by kernel_rfl⟩
theorem fr34 : FnRow Tryz.prog 34 Tryz.f34 := ⟨Tryz.func34, by kernel_rfl, by kernel_rfl⟩
theorem fr35 : FnRow Tryz.prog 35 Tryz.f35 := ⟨Tryz.func35, by kernel_rfl, by kernel_rfl⟩
theorem fr36 : FnRow Tryz.prog 36 Tryz.f36 := ⟨Tryz.func36, by kernel_rfl, by kernel_rfl⟩
theorem fr37 : FnRow Tryz.prog 37 Tryz.f37 := ⟨Tryz.func37, by kernel_rfl, by kernel_rfl⟩
theorem fr39 : FnRow Tryz.prog 39 Tryz.f39 := ⟨Tryz.func39, by kernel_rfl, by kernel_rfl⟩
theorem fr42 : FnRow Tryz.prog 42 Tryz.f42 := ⟨Tryz.func42, by kernel_rfl, by kernel_rfl⟩
theorem fr43 : FnRow Tryz.prog 43 Tryz.f43 := ⟨Tryz.func43, by kernel_rfl, by kernel_rfl⟩
theorem fr44 : FnRow Tryz.prog 44 Tryz.f44 := ⟨Tryz.func44, by kernel_rfl, by kernel_rfl⟩
theorem fr48 : FnRow Tryz.prog 48 Tryz.f48 := ⟨Tryz.func48, by kernel_rfl, by kernel_rfl⟩
theorem fr51 : FnRow Tryz.prog 51 Tryz.f51 := ⟨Tryz.func51, by kernel_rfl, by kernel_rfl⟩
theorem fr55 : FnRow Tryz.prog 55 Tryz.f55 := ⟨Tryz.func55, by kernel_rfl, by kernel_rfl⟩
theorem fr56 : FnRow Tryz.prog 56 Tryz.f56 := ⟨Tryz.func56, by kernel_rfl, by kernel_rfl⟩
theorem fr57 : FnRow Tryz.prog 57 Tryz.f57 := ⟨Tryz.func57, by kernel_rfl, by kernel_rfl⟩
theorem fr58 : FnRow Tryz.prog 58 Tryz.f58 := ⟨Tryz.func58, by kernel_rfl, by kernel_rfl⟩
theorem fr59 : FnRow Tryz.prog 59 Tryz.f59 := ⟨Tryz.func59, by kernel_rfl, by kernel_rfl⟩
theorem fr60 : FnRow Tryz.prog 60 Tryz.f60 := ⟨Tryz.func60, by kernel_rfl, by kernel_rfl⟩
theorem fr61 : FnRow Tryz.prog 61 Tryz.f61 := ⟨Tryz.func61, by kernel_rfl, by kernel_rfl⟩
theorem fr62 : FnRow Tryz.prog 62 Tryz.f62 := ⟨Tryz.func62, by kernel_rfl, by kernel_rfl⟩
theorem fr63 : FnRow Tryz.prog 63 Tryz.f63 := ⟨Tryz.func63, by kernel_rfl, by kernel_rfl⟩
theorem fr64 : FnRow Tryz.prog 64 Tryz.f64 := ⟨Tryz.func64, by kernel_rfl, by kernel_rfl⟩
theorem fr65 : FnRow Tryz.prog 65 Tryz.f65 := ⟨Tryz.func65, by kernel_rfl, by kernel_rfl⟩
theorem fr66 : FnRow Tryz.prog 66 Tryz.f66 := ⟨Tryz.func66, by kernel_rfl, by kernel_rfl⟩
theorem fr67 : FnRow Tryz.prog 67 Tryz.f67 := ⟨Tryz.func67, by kernel_rfl, by kernel_rfl⟩
theorem fr68 : FnRow Tryz.prog 68 Tryz.f68 := ⟨Tryz.func68, by kernel_rfl, by kernel_rfl⟩
theorem fr70 : FnRow Tryz.prog 70 Tryz.f70 := ⟨Tryz.func70, by kernel_rfl, by kernel_rfl⟩
theorem fr71 : FnRow Tryz.prog 71 Tryz.f71 := ⟨Tryz.func71, by kernel_rfl, by kernel_rfl⟩
theorem fr72 : FnRow Tryz.prog 72 Tryz.f72 := ⟨Tryz.func72, by kernel_rfl, by kernel_rfl⟩
theorem fr73 : FnRow Tryz.prog 73 Tryz.f73 := ⟨Tryz.func73, by kernel_rfl, by kernel_rfl⟩
theorem fr74 : FnRow Tryz.prog 74 Tryz.f74 := ⟨Tryz.func74, by kernel_rfl, by kernel_rfl⟩
theorem fr75 : FnRow Tryz.prog 75 Tryz.f75 := ⟨Tryz.func75, by kernel_rfl, by kernel_rfl⟩
theorem fr76 : FnRow Tryz.prog 76 Tryz.f76 := ⟨Tryz.func76, by kernel_rfl, by kernel_rfl⟩
theorem fr77 : FnRow Tryz.prog 77 Tryz.f77 := ⟨Tryz.func77, by kernel_rfl, by kernel_rfl⟩
theorem fr78 : FnRow Tryz.prog 78 Tryz.f78 := ⟨Tryz.func78, by kernel_rfl, by kernel_rfl⟩
theorem fr79 : FnRow Tryz.prog 79 Tryz.f79 := ⟨Tryz.func79, by kernel_rfl, by kernel_rfl⟩
theorem fr80 : FnRow Tryz.prog 80 Tryz.f80 := ⟨Tryz.func80, by kernel_rfl, by kernel_rfl⟩
theorem fr83 : FnRow Tryz.prog 83 Tryz.f83 := ⟨Tryz.func83, by kernel_rfl, by kernel_rfl⟩
theorem fr84 : FnRow Tryz.prog 84 Tryz.f84 := ⟨Tryz.func84, by kernel_rfl, by kernel_rfl⟩
theorem fr86 : FnRow Tryz.prog 86 Tryz.f86 := ⟨Tryz.func86, by kernel_rfl, by kernel_rfl⟩
theorem fr88 : FnRow Tryz.prog 88 Tryz.f88 := ⟨Tryz.func88, by kernel_rfl, by kernel_rfl⟩
theorem fr95 : FnRow Tryz.prog 95 Tryz.f95 := ⟨Tryz.func95, by kernel_rfl, by kernel_rfl⟩
theorem fr99 : FnRow Tryz.prog 99 Tryz.f99 := ⟨Tryz.func99, by kernel_rfl, by kernel_rfl⟩
theorem fr100 : FnRow Tryz.prog 100 Tryz.f100 := ⟨Tryz.func100, by kernel_rfl, by kernel_rfl⟩
theorem fr102 : FnRow Tryz.prog 102 Tryz.f102 := ⟨Tryz.func102, by kernel_rfl, by kernel_rfl⟩
theorem fr103 : FnRow Tryz.prog 103 Tryz.f103 := ⟨Tryz.func103, by kernel_rfl, by kernel_rfl⟩
theorem fr104 : FnRow Tryz.prog 104 Tryz.f104 := ⟨Tryz.func104, by kernel_rfl, by kernel_rfl⟩
theorem fr105 : FnRow Tryz.prog 105 Tryz.f105 := ⟨Tryz.func105, by kernel_rfl, by kernel_rfl⟩
theorem fr106 : FnRow Tryz.prog 106 Tryz.f106 := ⟨Tryz.func106, by kernel_rfl, by kernel_rfl⟩
theorem fr107 : FnRow Tryz.prog 107 Tryz.f107 := ⟨Tryz.func107, by kernel_rfl, by kernel_rfl⟩
theorem fr108 : FnRow Tryz.prog 108 Tryz.f108 := ⟨Tryz.func108, by kernel_rfl, by kernel_rfl⟩
theorem fr110 : FnRow Tryz.prog 110 Tryz.f110 := ⟨Tryz.func110, by kernel_rfl, by kernel_rfl⟩
theorem fr111 : FnRow Tryz.prog 111 Tryz.f111 := ⟨Tryz.func111, by kernel_rfl, by kernel_rfl⟩
theorem fr112 : FnRow Tryz.prog 112 Tryz.f112 := ⟨Tryz.func112, by kernel_rfl, by kernel_rfl⟩
theorem fr114 : FnRow Tryz.prog 114 Tryz.f114 := ⟨Tryz.func114, by kernel_rfl, by kernel_rfl⟩
theorem fr115 : FnRow Tryz.prog 115 Tryz.f115 := ⟨Tryz.func115, by kernel_rfl, by kernel_rfl⟩
theorem fr116 : FnRow Tryz.prog 116 Tryz.f116 := ⟨Tryz.func116, by kernel_rfl, by kernel_rfl⟩
theorem fr117 : FnRow Tryz.prog 117 Tryz.f117 := ⟨Tryz.func117, by kernel_rfl, by kernel_rfl⟩
theorem fr118 : FnRow Tryz.prog 118 Tryz.f118 := ⟨Tryz.func118, by kernel_rfl, by kernel_rfl⟩
theorem fr119 : FnRow Tryz.prog 119 Tryz.f119 := ⟨Tryz.func119, by kernel_rfl, by kernel_rfl⟩
theorem fr120 : FnRow Tryz.prog 120 Tryz.f120 := ⟨Tryz.func120, by kernel_rfl, by kernel_rfl⟩
theorem fr122 : FnRow Tryz.prog 122 Tryz.f122 := ⟨Tryz.func122, by kernel_rfl, by kernel_rfl⟩
theorem fr124 : FnRow Tryz.prog 124 Tryz.f124 := ⟨Tryz.func124, by kernel_rfl, by kernel_rfl⟩
theorem fr125 : FnRow Tryz.prog 125 Tryz.f125 := ⟨Tryz.func125, by kernel_rfl, by kernel_rfl⟩
theorem fr126 : FnRow Tryz.prog 126 Tryz.f126 := ⟨Tryz.func126, by kernel_rfl, by kernel_rfl⟩
theorem fr127 : FnRow Tryz.prog 127 Tryz.f127 := ⟨Tryz.func127, by kernel_rfl, by kernel_rfl⟩
theorem fr128 : FnRow Tryz.prog 128 Tryz.f128 := ⟨Tryz.func128, by kernel_rfl, by kernel_rfl⟩
theorem fr130 : FnRow Tryz.prog 130 Tryz.f130 := ⟨Tryz.func130, by kernel_rfl, by kernel_rfl⟩
theorem fr131 : FnRow Tryz.prog 131 Tryz.f131 := ⟨Tryz.func131, by kernel_rfl, by kernel_rfl⟩
theorem fr132 : FnRow Tryz.prog 132 Tryz.f132 := ⟨Tryz.func132, by kernel_rfl, by kernel_rfl⟩
theorem fr134 : FnRow Tryz.prog 134 Tryz.f134 := ⟨Tryz.func134, by kernel_rfl, by kernel_rfl⟩
theorem fr142 : FnRow Tryz.prog 142 Tryz.f142 := ⟨Tryz.func142, by kernel_rfl, by kernel_rfl⟩
theorem fr143 : FnRow Tryz.prog 143 Tryz.f143 := ⟨Tryz.func143, by kernel_rfl, by kernel_rfl⟩
theorem fr144 : FnRow Tryz.prog 144 Tryz.f144 := ⟨Tryz.func144, by kernel_rfl, by kernel_rfl⟩
theorem fr145 : FnRow Tryz.prog 145 Tryz.f145 := ⟨Tryz.func145, by kernel_rfl, by kernel_rfl⟩
theorem fr146 : FnRow Tryz.prog 146 Tryz.f146 := ⟨Tryz.func146, by kernel_rfl, by kernel_rfl⟩
theorem fr147 : FnRow Tryz.prog 147 Tryz.f147 := ⟨Tryz.func147, by kernel_rfl, by kernel_rfl⟩
theorem fr150 : FnRow Tryz.prog 150 Tryz.f150 := ⟨Tryz.func150, by kernel_rfl, by kernel_rfl⟩
theorem fr151 : FnRow Tryz.prog 151 Tryz.f151 := ⟨Tryz.func151, by kernel_rfl, by kernel_rfl⟩
theorem fr152 : FnRow Tryz.prog 152 Tryz.f152 := ⟨Tryz.func152, by kernel_rfl, by kernel_rfl⟩
theorem fr153 : FnRow Tryz.prog 153 Tryz.f153 := ⟨Tryz.func153, by kernel_rfl, by kernel_rfl⟩
theorem fr154 : FnRow Tryz.prog 154 Tryz.f154 := ⟨Tryz.func154, by kernel_rfl, by kernel_rfl⟩
theorem fr155 : FnRow Tryz.prog 155 Tryz.f155 := ⟨Tryz.func155, by kernel_rfl, by kernel_rfl⟩
theorem fr156 : FnRow Tryz.prog 156 Tryz.f156 := ⟨Tryz.func156, by kernel_rfl, by kernel_rfl⟩
theorem fr157 : FnRow Tryz.prog 157 Tryz.f157 := ⟨Tryz.func157, by kernel_rfl, by kernel_rfl⟩
theorem fr158 : FnRow Tryz.prog 158 Tryz.f158 := ⟨Tryz.func158, by kernel_rfl, by kernel_rfl⟩
theorem fr159 : FnRow Tryz.prog 159 Tryz.f159 := ⟨Tryz.func159, by kernel_rfl, by kernel_rfl⟩
theorem fr160 : FnRow Tryz.prog 160 Tryz.f160 := ⟨Tryz.func160, by kernel_rfl, by kernel_rfl⟩
theorem fr161 : FnRow Tryz.prog 161 Tryz.f161 := ⟨Tryz.func161, by kernel_rfl, by kernel_rfl⟩
theorem fr163 : FnRow Tryz.prog 163 Tryz.f163 := ⟨Tryz.func163, by kernel_rfl, by kernel_rfl⟩
theorem fr164 : FnRow Tryz.prog 164 Tryz.f164 := ⟨Tryz.func164, by kernel_rfl, by kernel_rfl⟩
theorem fr170 : FnRow Tryz.prog 170 Tryz.f170 := ⟨Tryz.func170, by kernel_rfl, by kernel_rfl⟩
theorem fr174 : FnRow Tryz.prog 174 Tryz.f174 := ⟨Tryz.func174, by kernel_rfl, by kernel_rfl⟩
theorem fr177 : FnRow Tryz.prog 177 Tryz.f177 := ⟨Tryz.func177, by kernel_rfl, by kernel_rfl⟩
theorem fr178 : FnRow Tryz.prog 178 Tryz.f178 := ⟨Tryz.func178, by kernel_rfl, by kernel_rfl⟩
theorem fr181 : FnRow Tryz.prog 181 Tryz.f181 := ⟨Tryz.func181, by kernel_rfl, by kernel_rfl⟩
theorem fr189 : FnRow Tryz.prog 189 Tryz.f189 := ⟨Tryz.func189, by kernel_rfl, by kernel_rfl⟩
theorem fr193 : FnRow Tryz.prog 193 Tryz.f193 := ⟨Tryz.func193, by kernel_rfl, by kernel_rfl⟩
theorem fr194 : FnRow Tryz.prog 194 Tryz.f194 := ⟨Tryz.func194, by kernel_rfl, by kernel_rfl⟩
theorem fr201 : FnRow Tryz.prog 201 Tryz.f201 := ⟨Tryz.func201, by kernel_rfl, by kernel_rfl⟩
theorem fr202 : FnRow Tryz.prog 202 Tryz.f202 := ⟨Tryz.func202, by kernel_rfl, by kernel_rfl⟩
theorem fr206 : FnRow Tryz.prog 206 Tryz.f206 := ⟨Tryz.func206, by kernel_rfl, by kernel_rfl⟩
theorem fr214 : FnRow Tryz.prog 214 Tryz.f214 := ⟨Tryz.func214, by kernel_rfl, by kernel_rfl⟩
theorem fr215 : FnRow Tryz.prog 215 Tryz.f215 := ⟨Tryz.func215, by kernel_rfl, by kernel_rfl⟩
theorem fr216 : FnRow Tryz.prog 216 Tryz.f216 := ⟨Tryz.func216, by kernel_rfl, by kernel_rfl⟩
theorem fr217 : FnRow Tryz.prog 217 Tryz.f217 := ⟨Tryz.func217, by kernel_rfl, by kernel_rfl⟩
theorem fr218 : FnRow Tryz.prog 218 Tryz.f218 := ⟨Tryz.func218, by kernel_rfl, by kernel_rfl⟩
theorem fr219 : FnRow Tryz.prog 219 Tryz.f219 := ⟨Tryz.func219, by kernel_rfl, by kernel_rfl⟩
theorem fr222 : FnRow Tryz.prog 222 Tryz.f222 := ⟨Tryz.func222, by kernel_rfl, by kernel_rfl⟩
theorem fr228 : FnRow Tryz.prog 228 Tryz.f228 := ⟨Tryz.func228, by kernel_rfl, by kernel_rfl⟩
theorem fr255 : FnRow Tryz.prog 255 Tryz.f255 := ⟨Tryz.func255, by kernel_rfl, by kernel_rfl⟩
theorem fr257 : FnRow Tryz.prog 257 Tryz.f257 := ⟨Tryz.func257, by kernel_rfl, by kernel_rfl⟩
theorem fr258 : FnRow Tryz.prog 258 Tryz.f258 := ⟨Tryz.func258, by kernel_rfl, by kernel_rfl⟩
theorem fr261 : FnRow Tryz.prog 261 Tryz.f261 := ⟨Tryz.func261, by kernel_rfl, by kernel_rfl⟩
theorem fr276 : FnRow Tryz.prog 276 Tryz.f276 := ⟨Tryz.func276, by kernel_rfl, by kernel_rfl⟩
theorem fr299 : FnRow Tryz.prog 299 Tryz.f299 := ⟨Tryz.func299, by kernel_rfl, by kernel_rfl⟩
theorem fr302 : FnRow Tryz.prog 302 Tryz.f302 := ⟨Tryz.func302, by kernel_rfl, by kernel_rfl⟩
theorem fr340 : FnRow Tryz.prog 340 Tryz.f340 := ⟨Tryz.func340, by kernel_rfl, by kernel_rfl⟩
theorem fr353 : FnRow Tryz.prog 353 Tryz.f353 := ⟨Tryz.func353, by kernel_rfl, by kernel_rfl⟩
theorem typesAll : BT.All (TyRow Tryz.prog) types := ⟨⟨⟨⟨⟨⟨trivial, ⟨Tryz.underlying3, Tryz.type3, fun h => by cases h⟩, trivial⟩, ⟨Tryz.underlying4, Tryz.type4, fun h => by cases h⟩, trivial⟩, ⟨Tryz.underlying5, Tryz.type5, fun h => by cases h⟩, ⟨trivial, ⟨Tryz.underlying9, Tryz.type9, fun h => by cases h⟩, trivial⟩⟩, ⟨Tryz.underlying22, Tryz.type22, fun h => by cases h⟩, ⟨⟨trivial, ⟨Tryz.underlying23, Tryz.type23, fun h => by cases h⟩, trivial⟩, ⟨Tryz.underlying27, Tryz.type27, fun _ => ⟨by first | exact Tryz.eqGuardType27 | kernel_rfl, by first | exact Tryz.stoodInHeld27 | kernel_rfl, by kernel_rfl⟩⟩, ⟨trivial, ⟨Tryz.underlying28, Tryz.type28, fun h => by cases h⟩, trivial⟩⟩⟩, ⟨Tryz.underlying42, Tryz.type42, fun _ => ⟨by first | exact Tryz.eqGuardType42 | kernel_rfl, by first | exact Tryz.stoodInHeld42 | kernel_rfl, by kernel_rfl⟩⟩, ⟨⟨⟨trivial, ⟨Tryz.underlying54, Tryz.type54, fun h => by cases h⟩, trivial⟩, ⟨Tryz.underlying56, Tryz.type56, fun _ => ⟨by first | exact Tryz.eqGuardType56 | kernel_rfl, by first | exact Tryz.stoodInHeld56 | kernel_rfl, by kernel_rfl⟩⟩, ⟨trivial, ⟨Tryz.underlying58, Tryz.type58, fun h => by cases h⟩, trivial⟩⟩, ⟨Tryz.underlying63, Tryz.type63, fun _ => ⟨by first | exact Tryz.eqGuardType63 | kernel_rfl, by first | exact Tryz.stoodInHeld63 | kernel_rfl, by kernel_rfl⟩⟩, ⟨⟨trivial, ⟨Tryz.underlying64, Tryz.type64, fun h => by cases h⟩, trivial⟩, ⟨Tryz.underlying94, Tryz.type94, fun h => by cases h⟩, ⟨trivial, ⟨Tryz.underlying95, Tryz.type95, fun h => by cases h⟩, trivial⟩⟩⟩⟩, ⟨Tryz.underlying96, Tryz.type96, fun h => by cases h⟩, ⟨⟨⟨⟨⟨trivial, ⟨Tryz.underlying98, Tryz.type98, fun _ => ⟨by first | exact Tryz.eqGuardType98 | kernel_rfl, by first | exact Tryz.stoodInHeld98 | kernel_rfl, by kernel_rfl⟩⟩, trivial⟩, ⟨Tryz.underlying99, Tryz.type99, fun h => by cases h⟩, trivial⟩, ⟨Tryz.underlying114, Tryz.type114, fun _ => ⟨by first | exact Tryz.eqGuardType114 | kernel_rfl, by first | exact Tryz.stoodInHeld114 | kernel_rfl, by kernel_rfl⟩⟩, ⟨trivial, ⟨Tryz.underlying124, Tryz.type124, fun h => by cases h⟩, trivial⟩⟩, ⟨Tryz.underlying130, Tryz.type130, fun h => by cases h⟩, ⟨⟨trivial, ⟨Tryz.underlying145, Tryz.type145, fun _ => ⟨by first | exact Tryz.eqGuardType145 | kernel_rfl, by first | exact Tryz.stoodInHeld145 | kernel_rfl, by kernel_rfl⟩⟩, trivial⟩, ⟨Tryz.underlying152, Tryz.type152, fun h => by cases h⟩, ⟨trivial, ⟨Tryz.underlying153, Tryz.type153, fun h => by cases h⟩, trivial⟩⟩⟩, ⟨Tryz.underlying155, Tryz.type155, fun _ => ⟨by first | exact Tryz.eqGuardType155 | kernel_rfl, by first | exact Tryz.stoodInHeld155 | kernel_rfl, by kernel_rfl⟩⟩, ⟨⟨⟨trivial, ⟨Tryz.underlying162, Tryz.type162, fun h => by cases h⟩, trivial⟩, ⟨Tryz.underlying173, Tryz.type173, fun _ => ⟨by first | exact Tryz.eqGuardType173 | kernel_rfl, by first | exact Tryz.stoodInHeld173 | kernel_rfl, by kernel_rfl⟩⟩, ⟨trivial, ⟨Tryz.underlying177, Tryz.type177, fun h => by cases h⟩, trivial⟩⟩, ⟨Tryz.underlying183, Tryz.type183, fun _ => ⟨by first | exact Tryz.eqGuardType183 | kernel_rfl, by first | exact Tryz.stoodInHeld183 | kernel_rfl, by kernel_rfl⟩⟩, ⟨⟨trivial, ⟨Tryz.underlying238, Tryz.type238, fun h => by cases h⟩, trivial⟩, ⟨Tryz.underlying293, Tryz.type293, fun h => by cases h⟩, ⟨trivial, ⟨Tryz.underlying321, Tryz.type321, fun _ => ⟨by first | exact Tryz.eqGuardType321 | kernel_rfl, by first | exact Tryz.stoodInHeld321 | kernel_rfl, by kernel_rfl⟩⟩, trivial⟩⟩⟩⟩⟩
theorem funsAll : BT.All (FnRow Tryz.prog) funs := ⟨⟨⟨⟨⟨⟨⟨⟨trivial, fr5, trivial⟩, fr6, trivial⟩, fr7, ⟨trivial, fr8, trivial⟩⟩, fr10, ⟨⟨trivial, fr11, trivial⟩, fr13, ⟨trivial, fr14, trivial⟩⟩⟩, fr15, ⟨⟨⟨⟨trivial, fr17, trivial⟩, fr18, trivial⟩, fr19, ⟨trivial, fr21, trivial⟩⟩, fr22, ⟨⟨trivial, fr23, trivial⟩, fr24, ⟨trivial, fr25, trivial⟩⟩⟩⟩, fr26, ⟨⟨⟨⟨⟨trivial, fr27, trivial⟩, fr28, trivial⟩, fr30, ⟨trivial, fr31, trivial⟩⟩, fr32, ⟨⟨trivial, fr34, trivial⟩, fr35, ⟨trivial, fr36, trivial⟩⟩⟩, fr37, ⟨⟨⟨⟨trivial, fr39, trivial⟩, fr42, trivial⟩, fr43, ⟨trivial, fr44, trivial⟩⟩, fr48, ⟨⟨trivial, fr51, trivial⟩, fr55, ⟨trivial, fr56, trivial⟩⟩⟩⟩⟩, fr57, ⟨⟨⟨⟨⟨⟨trivial, fr58, trivial⟩, fr59, trivial⟩, fr60, ⟨trivial, fr61, trivial⟩⟩, fr62, ⟨⟨trivial, fr63, trivial⟩, fr64, ⟨trivial, fr65, trivial⟩⟩⟩, fr66, ⟨⟨⟨⟨trivial, fr67, trivial⟩, fr68, trivial⟩, fr70, ⟨trivial, fr71, trivial⟩⟩, fr72, ⟨⟨trivial, fr73, trivial⟩, fr74, ⟨trivial, fr75, trivial⟩⟩⟩⟩, fr76, ⟨⟨⟨⟨⟨trivial, fr77, trivial⟩, fr78, trivial⟩, fr79, ⟨trivial, fr80, trivial⟩⟩, fr83, ⟨⟨trivial, fr84, trivial⟩, fr86, ⟨trivial, fr88, trivial⟩⟩⟩, fr95, ⟨⟨⟨trivial, fr99, trivial⟩, fr100, ⟨trivial, fr102, trivial⟩⟩, fr103, ⟨⟨trivial, fr104, trivial⟩, fr105, ⟨trivial, fr106, trivial⟩⟩⟩⟩⟩⟩, fr107, ⟨⟨⟨⟨⟨⟨⟨trivial, fr108, trivial⟩, fr110, trivial⟩, fr111, ⟨trivial, fr112, trivial⟩⟩, fr114, ⟨⟨trivial, fr115, trivial⟩, fr116, ⟨trivial, fr117, trivial⟩⟩⟩, fr118, ⟨⟨⟨⟨trivial, fr119, trivial⟩, fr120, trivial⟩, fr122, ⟨trivial, fr124, trivial⟩⟩, fr125, ⟨⟨trivial, fr126, trivial⟩, fr127, ⟨trivial, fr128, trivial⟩⟩⟩⟩, fr130, ⟨⟨⟨⟨⟨trivial, fr131, trivial⟩, fr132, trivial⟩, fr134, ⟨trivial, fr142, trivial⟩⟩, fr143, ⟨⟨trivial, fr144, trivial⟩, fr145, ⟨trivial, fr146, trivial⟩⟩⟩, fr147, ⟨⟨⟨trivial, fr150, trivial⟩, fr151, ⟨trivial, fr152, trivial⟩⟩, fr153, ⟨⟨trivial, fr154, trivial⟩, fr155, ⟨trivial, fr156, trivial⟩⟩⟩⟩⟩, fr157, ⟨⟨⟨⟨⟨⟨trivial, fr158, trivial⟩, fr159, trivial⟩, fr160, ⟨trivial, fr161, trivial⟩⟩, fr163, ⟨⟨trivial, fr164, trivial⟩, fr170, ⟨trivial, fr174, trivial⟩⟩⟩, fr177, ⟨⟨⟨⟨trivial, fr178, trivial⟩, fr181, trivial⟩, fr189, ⟨trivial, fr193, trivial⟩⟩, fr194, ⟨⟨trivial, fr201, trivial⟩, fr202, ⟨trivial, fr206, trivial⟩⟩⟩⟩, fr214, ⟨⟨⟨⟨⟨trivial, fr215, trivial⟩, fr216, trivial⟩, fr217, ⟨trivial, fr218, trivial⟩⟩, fr219, ⟨⟨trivial, fr222, trivial⟩, fr228, ⟨trivial, fr255, trivial⟩⟩⟩, fr257, ⟨⟨⟨trivial, fr258, trivial⟩, fr261, ⟨trivial, fr276, trivial⟩⟩, fr299, ⟨⟨trivial, fr302, trivial⟩, fr340, ⟨trivial, fr353, trivial⟩⟩⟩⟩⟩⟩⟩
end Go.Proofs.Wc
namespace Go.Proofs.Wc
open Go Go.Ev Go.Proofs
set_option maxRecDepth 100000
def prims0 (i : Nat) : Option (List AV → Option AV) :=
 bif Nat.beq i 190 then some phiIndexByte else bif Nat.beq i 275 then some phiCount else bif Nat.beq i 178 then some phiJoin else bif Nat.beq i 155 then some phiSize else none
def exts (i : Nat) : Option Go.Ev.Extern := bif Nat.beq i 162 then some .mapsClone else bif Nat.beq i 332 || Nat.beq i 179 then some .overlaps else none
noncomputable def C0 : Ctx := { types, funs, prims := prims0, globs := fun _ => none, ext := exts }
end Go.Proofs.Wc
