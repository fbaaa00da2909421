/- PRINTED by a program of mine (hoas.py): the plain reading of the functions named, each with its equation and the way into it. -/
import Derived.Test.YtdgnnacppiaogaaGreatB2
set_option linter.unusedVariables false
set_option linter.unusedSimpArgs false
set_option maxRecDepth 100000
set_option linter.unusedVariables false
namespace Go.Gd
open Go.Instr
def F3 (c_0 l_1 : Value) (R : Value → World → Prop) : World → Prop :=
 hV P (box 25 c_0) fun c_2 =>
 hF P 10 #[] fun t18 =>
 hV P (Op.unary .not t18) fun t19 =>
 hIf t19 (R (.bool false)) (hV P (loadAt 25 c_2) fun t20 =>
 hF P 11 #[t20, l_1] fun t22 =>
 hIf t22 (R (.bool true)) (hF P 12 #[(.int .i64 64)] fun t23 =>
 hV P (loadAt 25 c_2) fun t25 =>
 hF P 13 #[t25, t23] fun t27 =>
 hV P (extract t27 0) fun t28 =>
 hV P (extract t27 1) fun t29 =>
 hV P (eqG true .neq 32 t29 (.int .i64 0)) fun t31 =>
 hIf t31 (R (.bool true)) (hV P (Builtin.len_ #[26] 3 #[l_1]) fun t33 =>
 hLoop4 (.int .i64 0) t28 t29 (.bool false) fun t34_1 a_6_2 e_7_3 t4_4 g5 next6 =>
 hV P (binOp .lss 3 t34_1 t33) fun t35 =>
 hIf t35 (hJ (fun (j4_309 : Value) (j6_310 : Value) (j7_311 : Value) =>
 hV P (binOp .add 3 t34_1 (.int .i64 1)) fun t123 =>
 next6 t123 j6_310 j7_311 j4_309) fun J407 =>
 hV P (indexAt 26 l_1 t34_1) fun t36 =>
 hV P (loadAt 39 t36) fun t37 =>
 hV P (alloc 39 true (.tuple #[])) fun y_9 =>
 hU P (storeAt 39 y_9 t37) <|
 hJ (fun (j4_216 : Value) (j6_217 : Value) (j7_218 : Value) =>
 hF P 19 #[t23] fun t117 =>
 hJ (fun (j121_306 : Value) =>
 hPick t117 j121_306 (.bool false) fun t122 =>
 hIf t122 (R (.bool false)) (J407 j4_216 j6_217 j7_218)) fun J307 =>
 hGuard t117 true (hF P 20 #[j6_217] fun t120 =>
 hV P (Op.unary .not t120) fun t121 =>
 J307 t121) (J307 undef)) fun J308 =>
 hV P (fieldAt 39 y_9 0) fun t94 =>
 hV P (loadAt 3 t94) fun t95 =>
 hV P (binOp .gtr 3 t95 (.int .i64 0)) fun t96 =>
 hIf t96 (hV P (fieldAt 39 y_9 0) fun t98 =>
 hV P (loadAt 3 t98) fun t99 =>
 hV P (binOp .sub 3 t99 (.int .i64 1)) fun t100 =>
 hF P 14 #[t23, t100] fun t101 =>
 J308 t4_4 a_6_2 e_7_3) (hV P (fieldAt 39 y_9 0) fun t103 =>
 hV P (loadAt 3 t103) fun t104 =>
 hV P (binOp .lss 3 t104 (.int .i64 0)) fun t105 =>
 hIf t105 (hF P 15 #[t23] fun t107 =>
 hV P (loadAt 25 c_2) fun t109 =>
 hF P 13 #[t109, t23] fun t111 =>
 hV P (extract t111 0) fun t112 =>
 hV P (extract t111 1) fun t113 =>
 hV P (eqG true .neq 32 t113 (.int .i64 0)) fun t115 =>
 hIf t115 (R (.bool false)) (J308 t4_4 t112 t113)) (hV P (fieldAt 39 y_9 1) fun t38 =>
 hV P (fieldAt 37 t38 0) fun t39 =>
 hV P (loadAt 3 t39) fun t40 =>
 hV P (eqG true .eql 3 t40 (.int .i64 10)) fun t41 =>
 hJ (
 hV P (fieldAt 39 y_9 1) fun t57 =>
 hV P (loadAt 37 t57) fun t58 =>
 hF P 17 #[a_6_2, t58] fun t59 =>
 hV P (Builtin.len_ #[43] 3 #[t59]) fun t60 =>
 hLoop2 (.int .i64 0) t4_4 fun t61_24 t4_25 g26 next27 =>
 hV P (binOp .lss 3 t61_24 t60) fun t62 =>
 hIf t62 (hV P (indexAt 43 t59 t61_24) fun t63 =>
 hV P (loadAt 37 t63) fun t64 =>
 hV P (alloc 37 true (.tuple #[])) fun m_14 =>
 hU P (storeAt 37 m_14 t64) <|
 hV P (fieldAt 37 m_14 5) fun t67 =>
 hV P (loadAt 3 t67) fun t68 =>
 hF P 16 #[a_6_2, t68] fun t69 =>
 hV P (extract t69 0) fun t70 =>
 hV P (extract t69 1) fun t71 =>
 hV P (extract t69 2) fun t72 =>
 hV P (fieldAt 37 m_14 0) fun t73 =>
 hV P (loadAt 3 t73) fun t74 =>
 hV P (eqG true .eql 3 t74 (.int .i64 12)) fun t75 =>
 hJ (fun (j79_30 : Value) =>
 hPick t75 j79_30 (.bool false) fun t80 =>
 hJ (fun (j90_53 : Value) =>
 hPick t80 j90_53 (.bool false) fun t91 =>
 hIf t91 (R (.bool false)) (hV P (binOp .add 3 t61_24 (.int .i64 1)) fun t92 =>
 next27 t92 t4_25)) fun J54 =>
 hGuard t80 true (hV P (eqG true .neq 32 t72 (.int .i64 0)) fun t83 =>
 hJ (fun (j89_35 : Value) =>
 hGuard t80 true (hPick t83 (.bool true) j89_35 fun t90 =>
 J54 t90) (J54 undef)) fun J37 =>
 hGuard t83 false (hV P (fieldAt 37 m_14 10) fun t86 =>
 hV P (loadAt 35 t86) fun t87 =>
 hF P 18 #[t70, t87] fun t88 =>
 hV P (Op.unary .not t88) fun t89 =>
 J37 t89) (J37 undef)) (hJ (fun (j89_42 : Value) =>
 hGuard t80 true (hPick undef (.bool true) j89_42 fun t90 =>
 J54 t90) (J54 undef)) fun J44 =>
 hGuard undef false (hV P (fieldAt 37 m_14 10) fun t86 =>
 hV P (loadAt 35 t86) fun t87 =>
 hF P 18 #[t70, t87] fun t88 =>
 hV P (Op.unary .not t88) fun t89 =>
 J44 t89) (J44 undef))) fun J55 =>
 hGuard t75 true (hV P (fieldAt 37 m_14 8) fun t77 =>
 hV P (loadAt 32 t77) fun t78 =>
 hV P (eqG true .eql 32 t78 (.int .i64 0)) fun t79 =>
 J55 t79) (J55 undef)) (J308 t4_25 a_6_2 e_7_3)) fun J56 =>
 hIf t41 (hV P (fieldAt 39 y_9 1) fun t44 =>
 hV P (fieldAt 37 t44 5) fun t45 =>
 hV P (loadAt 3 t45) fun t46 =>
 hF P 16 #[a_6_2, t46] fun t47 =>
 hV P (extract t47 0) fun t48 =>
 hV P (extract t47 1) fun t49 =>
 hV P (extract t47 2) fun t50 =>
 hV P (eqG true .neq 32 t50 (.int .i64 0)) fun t52 =>
 hIf t52 (J407 t4_4 a_6_2 e_7_3) (hV P (fieldAt 39 y_9 1) fun t54 =>
 hV P (fieldAt 37 t54 10) fun t55 =>
 hU P (storeAt 35 t55 t48) <|
 J56)) (J56)))) (R (.bool true)))))
def S3 : Nat → Scr := scrOf [(999999, .take 10 (.take 11 (.take 12 (.take 15 (.take 16 (.take 17 (.take 93 (.take 102 (.done)))))))))]
theorem E3 : (fun c_0 l_1 R w => den P S3 55 (bodyOf Go.Proofs.Tryz.f3) (retK P [.tmp 4] R) (frm0 [c_0, l_1]) w) = F3 := by kernel_rfl
theorem O3 : codeOk S3 Go.Proofs.Tryz.f3.ntmps (bodyOf Go.Proofs.Tryz.f3) = true := by kernel_rfl
theorem C3 {c_0 l_1 : Value} {w : World} {R : Value → World → Prop} (h : F3 c_0 l_1 R w) : Calls P 3 #[c_0, l_1] w (fun e w' => ∃ v, e = .returned v ∧ R v w') :=
  calls_of_den wide (scr := S3) (rs := [.tmp 4]) (args := [c_0, l_1]) (fn := Go.Proofs.Tryz.f3) 55 (by kernel_rfl) (by kernel_rfl) (by kernel_rfl) (by kernel_rfl) O3 (Eq.mpr (congrFun (congrFun (congrFun (congrFun E3 c_0) l_1) R) w) h)
def F4 (c_0 l_1 : Value) (R : Value → World → Prop) : World → Prop :=
 hV P (box 25 c_0) fun c_2 =>
 hF P 21 #[] fun t21 =>
 hV P (Op.unary .not t21) fun t22 =>
 hIf t22 (R (.bool false)) (hV P (loadAt 25 c_2) fun t23 =>
 hF P 22 #[t23, l_1] fun t25 =>
 hIf t25 (R (.bool true)) (hV P (loadAt 25 c_2) fun t27 =>
 hF P 23 #[t27] fun t28 =>
 hV P (extract t28 0) fun t29 =>
 hV P (extract t28 1) fun t30 =>
 hV P (eqG true .neq 32 t30 (.int .i64 0)) fun t32 =>
 hIf t32 (R (.bool true)) (hV P (loadAt 25 c_2) fun t34 =>
 hF P 24 #[t34] fun t35 =>
 hV P (build 56 #[(0, t29), (1, t35)]) fun t36 =>
 hV P (box 56 t36) fun t37 =>
 hV P (Builtin.len_ #[46] 3 #[l_1]) fun t39 =>
 hLoop1 (.int .i64 0) fun t40_1 g2 next3 =>
 hV P (binOp .lss 3 t40_1 t39) fun t41 =>
 hIf t41 (hV P (indexAt 46 l_1 t40_1) fun t42 =>
 hV P (loadAt 58 t42) fun t43 =>
 hV P (alloc 58 true (.tuple #[])) fun a_9 =>
 hU P (storeAt 58 a_9 t43) <|
 hV P (loadAt 58 a_9) fun t46 =>
 hF P 25 #[t37, t46] fun t47 =>
 hV P (extract t47 0) fun t48 =>
 hV P (extract t47 1) fun t49 =>
 hF P 26 #[t37, t48] fun t52 =>
 hV P (binOp .add 3 t40_1 (.int .i64 1)) fun t53 =>
 next3 t53) (hV P (fieldAt 25 c_2 0) fun t54 =>
 hV P (loadAt 3 t54) fun t55 =>
 hLoop1 (.int .i64 0) fun t56_4 g5 next6 =>
 hV P (binOp .lss 3 t56_4 t55) fun t57 =>
 hIf t57 (hF P 27 #[t29, t56_4] fun t61 =>
 hV P (hNil t37) fun t63 =>
 hV P (fieldAt 56 t63 1) fun t64 =>
 hV P (loadAt 52 t64) fun t65 =>
 hF P 28 #[t65, t56_4] fun t67 =>
 hV P (binOp .add 3 t56_4 (.int .i64 1)) fun t68 =>
 next6 t68) (hV P (fieldAt 25 c_2 2) fun t69 =>
 hV P (loadAt 3 t69) fun t70 =>
 hLoop2 (.int .i64 0) (.bool false) fun t71_7 t4_8 g9 next10 =>
 hV P (binOp .lss 3 t71_7 t70) fun t72 =>
 hIf t72 (hF P 29 #[t29, t71_7] fun t76 =>
 hV P (Builtin.len_ #[64] 3 #[t76]) fun t77 =>
 hV P (binOp .gtr 3 t77 (.int .i64 0)) fun t78 =>
 hIf t78 (R (.bool false)) (hV P (binOp .add 3 t71_7 (.int .i64 1)) fun t79 =>
 next10 t79 t4_8)) (hV P (hNil t37) fun t81 =>
 hV P (fieldAt 56 t81 1) fun t82 =>
 hV P (loadAt 52 t82) fun t83 =>
 hV P (hNil t83) fun t84 =>
 hV P (fieldAt 73 t84 4) fun t85 =>
 hV P (loadAt 69 t85) fun t86 =>
 hV P (Builtin.len_ #[69] 3 #[t86]) fun t87 =>
 hLoop2 (.int .i64 0) (.int .i64 0) fun t88_11 backs_14_12 g13 next14 =>
 hV P (binOp .lss 3 t88_11 t87) fun t89 =>
 hIf t89 (hJ (fun (j14_18 : Value) =>
 hV P (binOp .add 3 t88_11 (.int .i64 1)) fun t97 =>
 next14 t97 j14_18) fun J27 =>
 hV P (indexAt 69 t86 t88_11) fun t90 =>
 hV P (loadAt 71 t90) fun t91 =>
 hV P (alloc 71 true (.tuple #[])) fun r_16 =>
 hU P (storeAt 71 r_16 t91) <|
 hV P (fieldAt 71 r_16 0) fun t92 =>
 hV P (loadAt 3 t92) fun t93 =>
 hV P (eqG true .eql 3 t93 (.int .i64 2)) fun t94 =>
 hIf t94 (hV P (binOp .add 3 backs_14_12 (.int .i64 1)) fun t96 =>
 J27 t96) (J27 backs_14_12)) (hF P 30 #[t29] fun t99 =>
 hV P (eqG false .neq 3 t99 backs_14_12) fun t101 =>
 hJ (fun (j104_29 : Value) =>
 hPick t101 (.bool true) j104_29 fun t105 =>
 hIf t105 (R (.bool false)) (hV P (fieldAt 25 c_2 3) fun t108 =>
 hV P (loadAt 3 t108) fun t109 =>
 hV P (Builtin.min_ #[3, 3] 3 #[t109, (.int .i64 16)]) fun t110 =>
 hV P (makeSlice 35 t110 t110) fun t111 =>
 hV P (build 37 #[(9, (.bool true)), (10, t111)]) fun t112 =>
 hV P (build 58 #[(0, (.int .i64 4)), (3, t112)]) fun t113 =>
 hF P 25 #[t37, t113] fun t114 =>
 hV P (extract t114 0) fun t115 =>
 hV P (extract t114 1) fun t116 =>
 hV P (Builtin.len_ #[59] 3 #[t115]) fun t118 =>
 hLoop2 (.int .i64 0) t4_8 fun t119_30 t4_31 g32 next33 =>
 hV P (binOp .lss 3 t119_30 t118) fun t120 =>
 hIf t120 (hV P (indexAt 59 t115 t119_30) fun t121 =>
 hV P (loadAt 76 t121) fun t122 =>
 hV P (alloc 76 true (.tuple #[])) fun t_20 =>
 hU P (storeAt 76 t_20 t122) <|
 hV P (fieldAt 76 t_20 0) fun t123 =>
 hV P (loadAt 3 t123) fun t124 =>
 hV P (binOp .geq 3 t124 (.int .i64 0)) fun t125 =>
 hIf t125 (R (.bool false)) (hV P (binOp .add 3 t119_30 (.int .i64 1)) fun t126 =>
 next33 t126 t4_31)) (R (.bool true)))) fun J34 =>
 hGuard t101 false (hF P 31 #[t29] fun t104 =>
 J34 t104) (J34 undef))))))))
def S4 : Nat → Scr := scrOf [(999999, .take 10 (.take 11 (.take 12 (.take 13 (.done)))))]
theorem E4 : (fun c_0 l_1 R w => den P S4 46 (bodyOf Go.Proofs.Tryz.f4) (retK P [.tmp 4] R) (frm0 [c_0, l_1]) w) = F4 := by kernel_rfl
theorem O4 : codeOk S4 Go.Proofs.Tryz.f4.ntmps (bodyOf Go.Proofs.Tryz.f4) = true := by kernel_rfl
theorem C4 {c_0 l_1 : Value} {w : World} {R : Value → World → Prop} (h : F4 c_0 l_1 R w) : Calls P 4 #[c_0, l_1] w (fun e w' => ∃ v, e = .returned v ∧ R v w') :=
  calls_of_den wide (scr := S4) (rs := [.tmp 4]) (args := [c_0, l_1]) (fn := Go.Proofs.Tryz.f4) 46 (by kernel_rfl) (by kernel_rfl) (by kernel_rfl) (by kernel_rfl) O4 (Eq.mpr (congrFun (congrFun (congrFun (congrFun E4 c_0) l_1) R) w) h)
def F5 (c_0 l_1 : Value) (R : Value → World → Prop) : World → Prop :=
 hV P (box 25 c_0) fun c_2 =>
 hF P 10 #[] fun t12 =>
 hV P (Op.unary .not t12) fun t13 =>
 hIf t13 (R (.bool false)) (hV P (loadAt 25 c_2) fun t14 =>
 hF P 11 #[t14, l_1] fun t16 =>
 hIf t16 (R (.bool true)) (hDraw fun C1 =>
 mV P C1 (loadAt 25 c_2) fun t18 =>
 hF P 12 #[(.int .i64 64)] fun t19 =>
 hAnd C1 <| hF P 13 #[t18, t19] fun t20 =>
 pV P (extract t20 0) fun t21 =>
 pV P (extract t20 1) fun t22 =>
 hV P (eqG true .neq 32 t22 (.int .i64 0)) fun t24 =>
 hIf t24 (R (.bool true)) (hV P (Builtin.len_ #[26] 3 #[l_1]) fun t26 =>
 hLoop2 (.int .i64 0) (.bool false) fun t27_2 t4_3 g4 next5 =>
 hV P (binOp .lss 3 t27_2 t26) fun t28 =>
 hIf t28 (hV P (indexAt 26 l_1 t27_2) fun t29 =>
 hV P (loadAt 39 t29) fun t30 =>
 hV P (alloc 39 true (.tuple #[])) fun y_8 =>
 hU P (storeAt 39 y_8 t30) <|
 hV P (fieldAt 39 y_8 1) fun t32 =>
 hV P (loadAt 37 t32) fun t33 =>
 hF P 17 #[t21, t33] fun t34 =>
 hV P (Builtin.len_ #[43] 3 #[t34]) fun t35 =>
 hLoop2 (.int .i64 0) t4_3 fun t36_6 t4_7 g8 next9 =>
 hV P (binOp .lss 3 t36_6 t35) fun t37 =>
 hIf t37 (hV P (indexAt 43 t34 t36_6) fun t38 =>
 hV P (loadAt 37 t38) fun t39 =>
 hV P (alloc 37 true (.tuple #[])) fun m_10 =>
 hU P (storeAt 37 m_10 t39) <|
 hDraw fun C10 =>
 pV P (fieldAt 37 m_10 5) fun t42 =>
 mV P C10 (loadAt 3 t42) fun t43 =>
 hF P 33 #[t21] fun t41 =>
 hAnd C10 <| hF P 32 #[t41, t43] fun t44 =>
 hV P (fieldAt 37 m_10 0) fun t45 =>
 hV P (loadAt 3 t45) fun t46 =>
 hV P (eqG true .eql 3 t46 (.int .i64 12)) fun t47 =>
 hJ (fun (j51_13 : Value) =>
 hPick t47 j51_13 (.bool false) fun t52 =>
 hJ (fun (j56_16 : Value) =>
 hPick t52 j56_16 (.bool false) fun t57 =>
 hJ (fun (j69_41 : Value) =>
 hPick t57 j69_41 (.bool false) fun t70 =>
 hIf t70 (R (.bool false)) (hV P (fieldAt 37 m_10 0) fun t71 =>
 hV P (loadAt 3 t71) fun t72 =>
 hV P (eqG true .eql 3 t72 (.int .i64 14)) fun t73 =>
 hJ (fun (j80_57 : Value) =>
 hPick t73 j80_57 (.bool false) fun t81 =>
 hIf t81 (R (.bool false)) (hV P (binOp .add 3 t36_6 (.int .i64 1)) fun t82 =>
 next9 t82 t4_7)) fun J58 =>
 hGuard t73 true (hJ (fun (j79_44 : Value) =>
 hGuard t73 true (hPick t44 (.bool true) j79_44 fun t80 =>
 J58 t80) (J58 undef)) fun J46 =>
 hGuard t44 false (hV P (fieldAt 25 c_2 4) fun t77 =>
 hV P (loadAt 3 t77) fun t78 =>
 hV P (eqG true .neq 3 t78 (.int .i64 1)) fun t79 =>
 J46 t79) (J46 undef)) (hJ (fun (j79_49 : Value) =>
 hGuard t73 true (hPick undef (.bool true) j79_49 fun t80 =>
 J58 t80) (J58 undef)) fun J51 =>
 hGuard undef false (hV P (fieldAt 25 c_2 4) fun t77 =>
 hV P (loadAt 3 t77) fun t78 =>
 hV P (eqG true .neq 3 t78 (.int .i64 1)) fun t79 =>
 J51 t79) (J51 undef)))) fun J59 =>
 hGuard t57 true (hV P (fieldAt 25 c_2 4) fun t60 =>
 hV P (loadAt 3 t60) fun t61 =>
 hV P (eqG true .neq 3 t61 (.int .i64 2)) fun t62 =>
 hJ (fun (j67_20 : Value) =>
 hGuard t57 true (hPick t62 (.bool true) j67_20 fun t68 =>
 hV P (eqG false .neq 4 t44 t68) fun t69 =>
 J59 t69) (J59 undef)) fun J23 =>
 hGuard t62 false (hV P (fieldAt 39 y_8 1) fun t64 =>
 hV P (fieldAt 37 t64 6) fun t65 =>
 hV P (loadAt 3 t65) fun t66 =>
 hV P (eqG true .eql 3 t66 (.int .i64 3)) fun t67 =>
 J23 t67) (J23 undef)) (hJ (fun (j67_27 : Value) =>
 hGuard t57 true (hPick undef (.bool true) j67_27 fun t68 =>
 hV P (eqG false .neq 4 undef t68) fun t69 =>
 J59 t69) (J59 undef)) fun J30 =>
 hGuard undef false (hV P (fieldAt 39 y_8 1) fun t64 =>
 hV P (fieldAt 37 t64 6) fun t65 =>
 hV P (loadAt 3 t65) fun t66 =>
 hV P (eqG true .eql 3 t66 (.int .i64 3)) fun t67 =>
 J30 t67) (J30 undef))) fun J60 =>
 hGuard t52 true (hV P (fieldAt 25 c_2 5) fun t54 =>
 hV P (loadAt 3 t54) fun t55 =>
 hV P (eqG true .eql 3 t55 (.int .i64 0)) fun t56 =>
 J60 t56) (J60 undef)) fun J61 =>
 hGuard t47 true (hV P (fieldAt 37 m_10 8) fun t49 =>
 hV P (loadAt 32 t49) fun t50 =>
 hV P (eqG true .eql 32 t50 (.int .i64 0)) fun t51 =>
 J61 t51) (J61 undef)) (hDraw fun C62 =>
 pV P (fieldAt 25 c_2 7) fun t86 =>
 pV P (indexAt 22 t86 (.int .i64 2)) fun t87 =>
 mV P C62 (loadAt 3 t87) fun t88 =>
 hF P 33 #[t21] fun t84 =>
 hAnd C62 <| mV P C62 (Builtin.len_ #[64] 3 #[t84]) fun t85 =>
 pV P (binOp .gtr 3 t85 t88) fun t89 =>
 hIf t89 (R (.bool false)) (hV P (binOp .add 3 t27_2 (.int .i64 1)) fun t90 =>
 next5 t90 t4_7))) (R (.bool true)))))
def S5 : Nat → Scr := scrOf [(5, .take 0 (.alt 1 (.sink 2 (.take 3 (.take 4 (.take 5 (.take 6 (.take 7 (.done))))))) (.nil))), (14, .take 0 (.take 2 (.take 3 (.alt 1 (.sink 4 (.take 5 (.done))) (.nil))))), (20, .take 0 (.take 3 (.take 4 (.take 5 (.alt 1 (.take 2 (.take 6 (.done))) (.nil)))))), (999999, .take 11 (.done))]
theorem E5 : (fun c_0 l_1 R w => den P S5 49 (bodyOf Go.Proofs.Tryz.f5) (retK P [.tmp 4] R) (frm0 [c_0, l_1]) w) = F5 := by kernel_rfl
theorem O5 : codeOk S5 Go.Proofs.Tryz.f5.ntmps (bodyOf Go.Proofs.Tryz.f5) = true := by kernel_rfl
theorem C5 {c_0 l_1 : Value} {w : World} {R : Value → World → Prop} (h : F5 c_0 l_1 R w) : Calls P 5 #[c_0, l_1] w (fun e w' => ∃ v, e = .returned v ∧ R v w') :=
  calls_of_den wide (scr := S5) (rs := [.tmp 4]) (args := [c_0, l_1]) (fn := Go.Proofs.Tryz.f5) 49 (by kernel_rfl) (by kernel_rfl) (by kernel_rfl) (by kernel_rfl) O5 (Eq.mpr (congrFun (congrFun (congrFun (congrFun E5 c_0) l_1) R) w) h)
theorem H5 {c_0 l_1 : Value} {w : World} {R : Value → World → Prop} (h : F5 c_0 l_1 R w) : hF P 5 #[c_0, l_1] R w := hF_of (by kernel_rfl) (C5 h)
def F6 (c_0 l_1 m_2 : Value) (R : Value → World → Prop) : World → Prop :=
 hV P (box 25 c_0) fun c_3 =>
 hV P (box 37 m_2) fun m_5 =>
 hF P 10 #[] fun t21 =>
 hV P (Op.unary .not t21) fun t22 =>
 hIf t22 (R (.bool false)) (hV P (loadAt 25 c_3) fun t23 =>
 hF P 11 #[t23, l_1] fun t25 =>
 hJ (fun (j30_4 : Value) =>
 hPick t25 (.bool true) j30_4 fun t31 =>
 hIf t31 (R (.bool true)) (hDraw fun C5 =>
 mV P C5 (loadAt 25 c_3) fun t33 =>
 hF P 12 #[(.int .i64 64)] fun t34 =>
 hAnd C5 <| hF P 13 #[t33, t34] fun t35 =>
 pV P (extract t35 0) fun t36 =>
 pV P (extract t35 1) fun t37 =>
 hV P (eqG true .neq 32 t37 (.int .i64 0)) fun t39 =>
 hIf t39 (R (.bool true)) (hV P (Builtin.len_ #[26] 3 #[l_1]) fun t41 =>
 hLoop1 (.int .i64 0) fun t42_6 g7 next8 =>
 hV P (binOp .lss 3 t42_6 t41) fun t43 =>
 hIf t43 (hV P (indexAt 26 l_1 t42_6) fun t44 =>
 hV P (loadAt 39 t44) fun t45 =>
 hV P (alloc 39 true (.tuple #[])) fun y_10 =>
 hU P (storeAt 39 y_10 t45) <|
 hV P (fieldAt 39 y_10 1) fun t47 =>
 hV P (loadAt 37 t47) fun t48 =>
 hF P 17 #[t36, t48] fun t49 =>
 hV P (binOp .add 3 t42_6 (.int .i64 1)) fun t50 =>
 next8 t50) (hV P (fieldAt 37 m_5 0) fun t51 =>
 hU P (storeAt 3 t51 (.int .i64 9)) <|
 hV P (loadAt 37 m_5) fun t53 =>
 hF P 17 #[t36, t53] fun t54 =>
 hV P (Builtin.len_ #[43] 3 #[t54]) fun t56 =>
 hV P (eqG true .eql 3 t56 (.int .i64 0)) fun t57 =>
 hIf t57 (R (.bool true)) (hV P (Builtin.len_ #[43] 3 #[t54]) fun t60 =>
 hV P (binOp .sub 3 t60 (.int .i64 1)) fun t61 =>
 hV P (indexAt 43 t54 t61) fun t62 =>
 hV P (loadAt 37 t62) fun t63 =>
 hV P (alloc 37 true (.tuple #[])) fun done_12 =>
 hU P (storeAt 37 done_12 t63) <|
 hF P 33 #[t36] fun t65 =>
 hV P (fieldAt 37 m_5 5) fun t68 =>
 hV P (loadAt 3 t68) fun t69 =>
 hF P 16 #[t36, t69] fun t70 =>
 hV P (extract t70 0) fun t71 =>
 hV P (extract t70 1) fun t72 =>
 hV P (extract t70 2) fun t73 =>
 hV P (loadAt 37 m_5) fun t75 =>
 hF P 17 #[t36, t75] fun t76 =>
 hV P (fieldAt 37 m_5 5) fun t79 =>
 hV P (loadAt 3 t79) fun t80 =>
 hF P 16 #[t36, t80] fun t81 =>
 hV P (extract t81 0) fun t82 =>
 hV P (extract t81 1) fun t83 =>
 hV P (extract t81 2) fun t84 =>
 hDraw fun C9 =>
 mV P C9 (Builtin.len_ #[43] 3 #[t76]) fun t86 =>
 pV P (eqG true .neq 3 t86 (.int .i64 1)) fun t87 =>
 hJ (fun (j92_13 : Value) =>
 hPick t87 (.bool true) j92_13 fun t93 =>
 hJ (fun (j101_20 : Value) =>
 hPick t93 (.bool true) j101_20 fun t102 =>
 hJ (fun (j108_25 : Value) =>
 hPick t102 (.bool true) j108_25 fun t109 =>
 hIf t109 (R (.bool false)) (hV P (eqG false .eql 3 t83 t72) fun t112 =>
 hGuard t112 true (hV P (fieldAt 37 done_12 9) fun t114 =>
 hV P (loadAt 4 t114) fun t115 =>
 hV P (Op.unary .not t115) fun t116 =>
 hJ (fun (j120_28 : Value) =>
 hGuard t112 true (hPick t116 (.bool true) j120_28 fun t121 =>
 hPick t112 t121 (.bool false) fun t122 =>
 R t122) (hPick t112 undef (.bool false) fun t122 =>
 R t122)) fun J30 =>
 hGuard t116 false (hV P (fieldAt 37 done_12 8) fun t118 =>
 hV P (loadAt 32 t118) fun t119 =>
 hV P (eqG true .eql 32 t119 (.int .i64 0)) fun t120 =>
 J30 t120) (J30 undef)) (hJ (fun (j120_33 : Value) =>
 hGuard t112 true (hPick undef (.bool true) j120_33 fun t121 =>
 hPick t112 t121 (.bool false) fun t122 =>
 R t122) (hPick t112 undef (.bool false) fun t122 =>
 R t122)) fun J35 =>
 hGuard undef false (hV P (fieldAt 37 done_12 8) fun t118 =>
 hV P (loadAt 32 t118) fun t119 =>
 hV P (eqG true .eql 32 t119 (.int .i64 0)) fun t120 =>
 J35 t120) (J35 undef)))) fun J44 =>
 hGuard t102 false (hF P 33 #[t36] fun t105 =>
 hAnd C9 <| hF P 34 #[t105, t65] fun t107 =>
 hAnd C9 <| pV P (Op.unary .not t107) fun t108 =>
 J44 t108) (J44 undef)) fun J45 =>
 hGuard t93 false (pV P (indexAt 43 t76 (.int .i64 0)) fun t96 =>
 pV P (fieldAt 37 t96 8) fun t97 =>
 mV P C9 (loadAt 32 t97) fun t98 =>
 pV P (fieldAt 37 done_12 8) fun t99 =>
 mV P C9 (loadAt 32 t99) fun t100 =>
 pV P (eqG false .neq 32 t98 t100) fun t101 =>
 J45 t101) (J45 undef)) fun J46 =>
 hGuard t87 false (pV P (indexAt 43 t76 (.int .i64 0)) fun t90 =>
 pV P (fieldAt 37 t90 9) fun t91 =>
 mV P C9 (loadAt 4 t91) fun t92 =>
 J46 t92) (J46 undef)))))) fun J47 =>
 hGuard t25 false (hV P (fieldAt 37 m_5 10) fun t27 =>
 hV P (loadAt 35 t27) fun t28 =>
 hV P (Builtin.len_ #[35] 3 #[t28]) fun t29 =>
 hV P (binOp .gtr 3 t29 (.int .i64 100)) fun t30 =>
 J47 t30) (J47 undef))
def S6 : Nat → Scr := scrOf [(5, .take 0 (.alt 1 (.sink 2 (.take 3 (.take 4 (.take 5 (.take 6 (.take 7 (.done))))))) (.nil))), (22, .take 0 (.take 1 (.take 2 (.take 3 (.take 4 (.take 5 (.take 6 (.take 7 (.take 8 (.take 9 (.take 10 (.take 11 (.take 12 (.take 13 (.take 14 (.take 15 (.take 16 (.take 17 (.take 18 (.take 19 (.take 21 (.alt 20 (.alt 22 (.take 23 (.take 24 (.done))) (.nil)) (.nil)))))))))))))))))))))))]
theorem E6 : (fun c_0 l_1 m_2 R w => den P S6 39 (bodyOf Go.Proofs.Tryz.f6) (retK P [.tmp 6] R) (frm0 [c_0, l_1, m_2]) w) = F6 := by kernel_rfl
theorem O6 : codeOk S6 Go.Proofs.Tryz.f6.ntmps (bodyOf Go.Proofs.Tryz.f6) = true := by kernel_rfl
theorem C6 {c_0 l_1 m_2 : Value} {w : World} {R : Value → World → Prop} (h : F6 c_0 l_1 m_2 R w) : Calls P 6 #[c_0, l_1, m_2] w (fun e w' => ∃ v, e = .returned v ∧ R v w') :=
  calls_of_den wide (scr := S6) (rs := [.tmp 6]) (args := [c_0, l_1, m_2]) (fn := Go.Proofs.Tryz.f6) 39 (by kernel_rfl) (by kernel_rfl) (by kernel_rfl) (by kernel_rfl) O6 (Eq.mpr (congrFun (congrFun (congrFun (congrFun (congrFun E6 c_0) l_1) m_2) R) w) h)
def F8 (c_0 l_1 : Value) (R : Value → World → Prop) : World → Prop :=
 hV P (box 25 c_0) fun c_2 =>
 hF P 21 #[] fun t15 =>
 hV P (Op.unary .not t15) fun t16 =>
 hIf t16 (R (.bool false)) (hV P (loadAt 25 c_2) fun t17 =>
 hF P 22 #[t17, l_1] fun t19 =>
 hIf t19 (R (.bool true)) (hV P (loadAt 25 c_2) fun t21 =>
 hF P 23 #[t21] fun t22 =>
 hV P (extract t22 0) fun t23 =>
 hV P (extract t22 1) fun t24 =>
 hV P (eqG true .neq 32 t24 (.int .i64 0)) fun t26 =>
 hIf t26 (R (.bool true)) (hV P (loadAt 25 c_2) fun t28 =>
 hF P 24 #[t28] fun t29 =>
 hV P (build 56 #[(0, t23), (1, t29)]) fun t30 =>
 hV P (box 56 t30) fun t31 =>
 hV P (Builtin.len_ #[46] 3 #[l_1]) fun t33 =>
 hLoop3 (.int .i64 0) (.int .i64 0) (.bool false) fun t34_1 asked_8_2 t4_3 g4 next5 =>
 hV P (binOp .lss 3 t34_1 t33) fun t35 =>
 hIf t35 (hV P (indexAt 46 l_1 t34_1) fun t36 =>
 hV P (loadAt 58 t36) fun t37 =>
 hV P (alloc 58 true (.tuple #[])) fun a_10 =>
 hU P (storeAt 58 a_10 t37) <|
 hV P (binOp .add 3 asked_8_2 (.int .i64 1)) fun t39 =>
 hV P (loadAt 58 a_10) fun t42 =>
 hF P 25 #[t31, t42] fun t43 =>
 hV P (extract t43 0) fun t44 =>
 hV P (extract t43 1) fun t45 =>
 hF P 26 #[t31, t44] fun t48 =>
 hV P (Builtin.len_ #[59] 3 #[t44]) fun t50 =>
 hLoop2 (.int .i64 0) t4_3 fun t51_6 t4_7 g8 next9 =>
 hV P (binOp .lss 3 t51_6 t50) fun t52 =>
 hIf t52 (hV P (indexAt 59 t44 t51_6) fun t53 =>
 hV P (loadAt 76 t53) fun t54 =>
 hV P (alloc 76 true (.tuple #[])) fun t_14 =>
 hU P (storeAt 76 t_14 t54) <|
 hV P (fieldAt 76 t_14 1) fun t55 =>
 hV P (fieldAt 37 t55 0) fun t56 =>
 hV P (loadAt 3 t56) fun t57 =>
 hV P (eqG true .eql 3 t57 (.int .i64 10)) fun t58 =>
 hJ (fun (j63_13 : Value) =>
 hPick t58 (.bool true) j63_13 fun t64 =>
 hJ (fun (j68_16 : Value) =>
 hPick t64 j68_16 (.bool false) fun t69 =>
 hIf t69 (R (.bool false)) (hV P (binOp .add 3 t51_6 (.int .i64 1)) fun t70 =>
 next9 t70 t4_7)) fun J17 =>
 hGuard t64 true (hV P (fieldAt 25 c_2 4) fun t66 =>
 hV P (loadAt 3 t66) fun t67 =>
 hV P (eqG true .neq 3 t67 (.int .i64 2)) fun t68 =>
 J17 t68) (J17 undef)) fun J18 =>
 hGuard t58 false (hV P (fieldAt 76 t_14 1) fun t60 =>
 hV P (fieldAt 37 t60 0) fun t61 =>
 hV P (loadAt 3 t61) fun t62 =>
 hV P (eqG true .eql 3 t62 (.int .i64 11)) fun t63 =>
 J18 t63) (J18 undef)) (hDraw fun C19 =>
 pV P (fieldAt 25 c_2 7) fun t74 =>
 pV P (indexAt 22 t74 (.int .i64 1)) fun t75 =>
 mV P C19 (loadAt 3 t75) fun t76 =>
 hF P 41 #[t23] fun t72 =>
 hAnd C19 <| mV P C19 (Builtin.len_ #[64] 3 #[t72]) fun t73 =>
 pV P (binOp .gtr 3 t73 t76) fun t77 =>
 hJ (fun (j82_23 : Value) =>
 hPick t77 (.bool true) j82_23 fun t83 =>
 hIf t83 (R (.bool false)) (hV P (binOp .add 3 t34_1 (.int .i64 1)) fun t84 =>
 next5 t84 t39 t4_7)) fun J24 =>
 hGuard t77 false (hF P 30 #[t23] fun t80 =>
 hAnd C19 <| pV P (binOp .gtr 3 t80 t39) fun t82 =>
 J24 t82) (J24 undef))) (R (.bool true)))))
def S8 : Nat → Scr := scrOf [(22, .take 0 (.take 3 (.take 4 (.take 5 (.alt 1 (.take 2 (.take 6 (.take 7 (.take 8 (.take 10 (.alt 9 (.take 11 (.take 12 (.done))) (.nil))))))) (.nil)))))), (999999, .take 11 (.take 12 (.done)))]
theorem E8 : (fun c_0 l_1 R w => den P S8 52 (bodyOf Go.Proofs.Tryz.f8) (retK P [.tmp 4] R) (frm0 [c_0, l_1]) w) = F8 := by kernel_rfl
theorem O8 : codeOk S8 Go.Proofs.Tryz.f8.ntmps (bodyOf Go.Proofs.Tryz.f8) = true := by kernel_rfl
theorem C8 {c_0 l_1 : Value} {w : World} {R : Value → World → Prop} (h : F8 c_0 l_1 R w) : Calls P 8 #[c_0, l_1] w (fun e w' => ∃ v, e = .returned v ∧ R v w') :=
  calls_of_den wide (scr := S8) (rs := [.tmp 4]) (args := [c_0, l_1]) (fn := Go.Proofs.Tryz.f8) 52 (by kernel_rfl) (by kernel_rfl) (by kernel_rfl) (by kernel_rfl) O8 (Eq.mpr (congrFun (congrFun (congrFun (congrFun E8 c_0) l_1) R) w) h)
def F9 (c_0 l_1 : Value) (R : Value → World → Prop) : World → Prop :=
 hV P (box 25 c_0) fun c_2 =>
 hF P 21 #[] fun t15 =>
 hV P (Op.unary .not t15) fun t16 =>
 hIf t16 (R (.bool false)) (hV P (loadAt 25 c_2) fun t17 =>
 hF P 22 #[t17, l_1] fun t19 =>
 hIf t19 (R (.bool true)) (hV P (loadAt 25 c_2) fun t21 =>
 hF P 23 #[t21] fun t22 =>
 hV P (extract t22 0) fun t23 =>
 hV P (extract t22 1) fun t24 =>
 hV P (eqG true .neq 32 t24 (.int .i64 0)) fun t26 =>
 hIf t26 (R (.bool true)) (hV P (loadAt 25 c_2) fun t28 =>
 hF P 24 #[t28] fun t29 =>
 hV P (build 56 #[(0, t23), (1, t29)]) fun t30 =>
 hV P (box 56 t30) fun t31 =>
 hV P (Builtin.len_ #[46] 3 #[l_1]) fun t33 =>
 hLoop1 (.int .i64 0) fun t34_1 g2 next3 =>
 hV P (binOp .lss 3 t34_1 t33) fun t35 =>
 hIf t35 (hV P (indexAt 46 l_1 t34_1) fun t36 =>
 hV P (loadAt 58 t36) fun t37 =>
 hV P (alloc 58 true (.tuple #[])) fun a_9 =>
 hU P (storeAt 58 a_9 t37) <|
 hV P (loadAt 58 a_9) fun t40 =>
 hF P 25 #[t31, t40] fun t41 =>
 hV P (extract t41 0) fun t42 =>
 hV P (extract t41 1) fun t43 =>
 hF P 26 #[t31, t42] fun t46 =>
 hV P (binOp .add 3 t34_1 (.int .i64 1)) fun t47 =>
 next3 t47) (hF P 42 #[t23] fun t49 =>
 hF P 41 #[t23] fun t51 =>
 hF P 43 #[t23] fun t53 =>
 hV P (eqG false .eql 4 t53 t49) fun t55 =>
 hIf t55 (R (.bool false)) (hIf t49 (hF P 41 #[t23] fun t58 =>
 hF P 34 #[t58, t51] fun t60 =>
 R t60) (hV P (fieldAt 25 c_2 2) fun t61 =>
 hV P (loadAt 3 t61) fun t62 =>
 hLoop2 (.int .i64 0) (.bool false) fun t63_4 t4_5 g6 next7 =>
 hV P (binOp .lss 3 t63_4 t62) fun t64 =>
 hIf t64 (hF P 29 #[t23, t63_4] fun t68 =>
 hV P (Builtin.len_ #[64] 3 #[t68]) fun t69 =>
 hV P (binOp .gtr 3 t69 (.int .i64 0)) fun t70 =>
 hIf t70 (R (.bool false)) (hV P (binOp .add 3 t63_4 (.int .i64 1)) fun t71 =>
 next7 t71 t4_5)) (hF P 41 #[t23] fun t73 =>
 hV P (Builtin.len_ #[64] 3 #[t73]) fun t74 =>
 hV P (eqG true .eql 3 t74 (.int .i64 0)) fun t75 =>
 R t75)))))))
def S9 : Nat → Scr := scrOf [(999999, .take 10 (.take 11 (.take 14 (.done))))]
theorem E9 : (fun c_0 l_1 R w => den P S9 43 (bodyOf Go.Proofs.Tryz.f9) (retK P [.tmp 4] R) (frm0 [c_0, l_1]) w) = F9 := by kernel_rfl
theorem O9 : codeOk S9 Go.Proofs.Tryz.f9.ntmps (bodyOf Go.Proofs.Tryz.f9) = true := by kernel_rfl
theorem C9 {c_0 l_1 : Value} {w : World} {R : Value → World → Prop} (h : F9 c_0 l_1 R w) : Calls P 9 #[c_0, l_1] w (fun e w' => ∃ v, e = .returned v ∧ R v w') :=
  calls_of_den wide (scr := S9) (rs := [.tmp 4]) (args := [c_0, l_1]) (fn := Go.Proofs.Tryz.f9) 43 (by kernel_rfl) (by kernel_rfl) (by kernel_rfl) (by kernel_rfl) O9 (Eq.mpr (congrFun (congrFun (congrFun (congrFun E9 c_0) l_1) R) w) h)
def F10 (R : Value → World → Prop) : World → Prop :=
 hF P 44 #[] fun t5 =>
 hF P 12 #[(.int .i64 64)] fun t6 =>
 hF P 13 #[t5, t6] fun t7 =>
 hV P (extract t7 0) fun t8 =>
 hV P (extract t7 1) fun t9 =>
 hV P (eqG true .neq 32 t9 (.int .i64 0)) fun t11 =>
 hIf t11 (R (.bool false)) (hV P (build 37 #[(0, (.int .i64 8)), (5, (.int .i64 1))]) fun t13 =>
 hF P 17 #[t8, t13] fun t14 =>
 hV P (Builtin.len_ #[43] 3 #[t14]) fun t16 =>
 hV P (eqG true .eql 3 t16 (.int .i64 1)) fun t17 =>
 hJ (fun (j24_6 : Value) =>
 hPick t17 j24_6 (.bool false) fun t25 =>
 hGuard t25 true (hF P 40 #[t8] fun t28 =>
 hV P (eqG true .eql 3 t28 (.int .i64 1)) fun t29 =>
 hPick t25 t29 (.bool false) fun t30 =>
 R t30) (hPick t25 undef (.bool false) fun t30 =>
 R t30)) fun J10 =>
 hGuard t17 true (hV P (indexAt 43 t14 (.int .i64 0)) fun t20 =>
 hV P (loadAt 37 t20) fun t21 =>
 hV P (buildSlice 35 1 #[(0, (.int .u8 0))]) fun t22 =>
 hV P (build 37 #[(0, (.int .i64 12)), (5, (.int .i64 1)), (10, t22)]) fun t23 =>
 hF P 45 #[t21, t23] fun t24 =>
 J10 t24) (J10 undef))
def S10 : Nat → Scr := scrOf []
theorem E10 : (fun R w => den P S10 27 (bodyOf Go.Proofs.Tryz.f10) (retK P [.tmp 0] R) (frm0 []) w) = F10 := by kernel_rfl
theorem O10 : codeOk S10 Go.Proofs.Tryz.f10.ntmps (bodyOf Go.Proofs.Tryz.f10) = true := by kernel_rfl
theorem C10 {w : World} {R : Value → World → Prop} (h : F10 R w) : Calls P 10 #[] w (fun e w' => ∃ v, e = .returned v ∧ R v w') :=
  calls_of_den wide (scr := S10) (rs := [.tmp 0]) (args := []) (fn := Go.Proofs.Tryz.f10) 27 (by kernel_rfl) (by kernel_rfl) (by kernel_rfl) (by kernel_rfl) O10 (Eq.mpr (congrFun (congrFun E10 R) w) h)
theorem H10 {w : World} {R : Value → World → Prop} (h : F10 R w) : hF P 10 #[] R w := hF_of (by kernel_rfl) (C10 h)
def F11 (c_0 l_1 : Value) (R : Value → World → Prop) : World → Prop :=
 hV P (box 25 c_0) fun c_2 =>
 hV P (fieldAt 25 c_2 12) fun t6 =>
 hV P (loadAt 23 t6) fun t7 =>
 hV P (Builtin.len_ #[23] 3 #[t7]) fun t8 =>
 hV P (binOp .gtr 3 t8 (.int .i64 20)) fun t9 =>
 hJ (fun (j13_3 : Value) =>
 hPick t9 (.bool true) j13_3 fun t14 =>
 hIf t14 (R (.bool true)) (hV P (Builtin.len_ #[26] 3 #[l_1]) fun t16 =>
 hLoop2 (.int .i64 0) (.bool false) fun t17_4 t4_5 g6 next7 =>
 hV P (binOp .lss 3 t17_4 t16) fun t18 =>
 hIf t18 (hV P (indexAt 26 l_1 t17_4) fun t22 =>
 hV P (fieldAt 39 t22 1) fun t23 =>
 hV P (fieldAt 37 t23 10) fun t24 =>
 hV P (loadAt 35 t24) fun t25 =>
 hV P (Builtin.len_ #[35] 3 #[t25]) fun t26 =>
 hV P (binOp .gtr 3 t26 (.int .i64 100)) fun t27 =>
 hIf t27 (R (.bool true)) (hV P (binOp .add 3 t17_4 (.int .i64 1)) fun t28 =>
 next7 t28 t4_5)) (R (.bool false)))) fun J8 =>
 hGuard t9 false (hV P (Builtin.len_ #[26] 3 #[l_1]) fun t12 =>
 hV P (binOp .gtr 3 t12 (.int .i64 100)) fun t13 =>
 J8 t13) (J8 undef)
def S11 : Nat → Scr := scrOf [(999999, .take 5 (.done))]
theorem E11 : (fun c_0 l_1 R w => den P S11 35 (bodyOf Go.Proofs.Tryz.f11) (retK P [.tmp 4] R) (frm0 [c_0, l_1]) w) = F11 := by kernel_rfl
theorem O11 : codeOk S11 Go.Proofs.Tryz.f11.ntmps (bodyOf Go.Proofs.Tryz.f11) = true := by kernel_rfl
theorem C11 {c_0 l_1 : Value} {w : World} {R : Value → World → Prop} (h : F11 c_0 l_1 R w) : Calls P 11 #[c_0, l_1] w (fun e w' => ∃ v, e = .returned v ∧ R v w') :=
  calls_of_den wide (scr := S11) (rs := [.tmp 4]) (args := [c_0, l_1]) (fn := Go.Proofs.Tryz.f11) 35 (by kernel_rfl) (by kernel_rfl) (by kernel_rfl) (by kernel_rfl) O11 (Eq.mpr (congrFun (congrFun (congrFun (congrFun E11 c_0) l_1) R) w) h)
theorem H11 {c_0 l_1 : Value} {w : World} {R : Value → World → Prop} (h : F11 c_0 l_1 R w) : hF P 11 #[c_0, l_1] R w := hF_of (by kernel_rfl) (C11 h)
def F12 (sectors_0 : Value) (R : Value → World → Prop) : World → Prop :=
 hV P (Builtin.min_ #[3, 3] 3 #[sectors_0, (.int .i64 256)]) fun t4 =>
 hV P (Builtin.max_ #[3, 3] 3 #[(.int .i64 0), t4]) fun t5 =>
 hV P (makeSlice 88 t5 t5) fun t6 =>
 hV P (build 94 #[(0, t6), (1, (.int .i64 (-1)))]) fun t7 =>
 hV P (box 94 t7) fun t8 =>
 R t8
def S12 : Nat → Scr := scrOf []
theorem E12 : (fun sectors_0 R w => den P S12 23 (bodyOf Go.Proofs.Tryz.f12) (retK P [.tmp 2] R) (frm0 [sectors_0]) w) = F12 := by kernel_rfl
theorem O12 : codeOk S12 Go.Proofs.Tryz.f12.ntmps (bodyOf Go.Proofs.Tryz.f12) = true := by kernel_rfl
theorem C12 {sectors_0 : Value} {w : World} {R : Value → World → Prop} (h : F12 sectors_0 R w) : Calls P 12 #[sectors_0] w (fun e w' => ∃ v, e = .returned v ∧ R v w') :=
  calls_of_den wide (scr := S12) (rs := [.tmp 2]) (args := [sectors_0]) (fn := Go.Proofs.Tryz.f12) 23 (by kernel_rfl) (by kernel_rfl) (by kernel_rfl) (by kernel_rfl) O12 (Eq.mpr (congrFun (congrFun (congrFun E12 sectors_0) R) w) h)
theorem H12 {sectors_0 : Value} {w : World} {R : Value → World → Prop} (h : F12 sectors_0 R w) : hF P 12 #[sectors_0] R w := hF_of (by kernel_rfl) (C12 h)
def F13 (c_0 d_1 : Value) (R : Value → World → Prop) : World → Prop :=
 hV P (box 25 c_0) fun c_2 =>
 hV P (loadAt 25 c_2) fun t10 =>
 hF P 46 #[t10, (.int .i64 3)] fun t11 =>
 hV P (extract t11 0) fun t12 =>
 hV P (extract t11 1) fun t13 =>
 hV P (eqG true .neq 32 t13 (.int .i64 0)) fun t15 =>
 hIf t15 (R (.tuple #[(.pointer none), t13])) (hV P (fieldAt 25 c_2 2) fun t19 =>
 hV P (loadAt 3 t19) fun t20 =>
 hV P (fieldAt 25 c_2 3) fun t21 =>
 hV P (loadAt 3 t21) fun t22 =>
 hV P (fieldAt 25 c_2 0) fun t23 =>
 hV P (loadAt 3 t23) fun t24 =>
 hV P (fieldAt 25 c_2 1) fun t25 =>
 hV P (loadAt 3 t25) fun t26 =>
 hV P (build 102 #[(0, t20), (1, t22), (2, t24), (3, t26)]) fun t27 =>
 hF P 47 #[d_1, t27] fun t28 =>
 hV P (extract t28 0) fun t29 =>
 hV P (extract t28 1) fun t30 =>
 hV P (eqG true .neq 32 t30 (.int .i64 0)) fun t32 =>
 hIf t32 (R (.tuple #[(.pointer none), t30])) (hV P (loadAt 25 c_2) fun t34 =>
 hV P (makeMap 103 none) fun t37 =>
 hV P (build 105 #[(0, t34), (1, t29), (2, t12), (5, t37)]) fun t38 =>
 hV P (box 105 t38) fun t39 =>
 R (.tuple #[t39, (.int .i64 0)])))
def S13 : Nat → Scr := scrOf []
theorem E13 : (fun c_0 d_1 R w => den P S13 29 (bodyOf Go.Proofs.Tryz.f13) (retK P [.tmp 4, .tmp 5] R) (frm0 [c_0, d_1]) w) = F13 := by kernel_rfl
theorem O13 : codeOk S13 Go.Proofs.Tryz.f13.ntmps (bodyOf Go.Proofs.Tryz.f13) = true := by kernel_rfl
theorem C13 {c_0 d_1 : Value} {w : World} {R : Value → World → Prop} (h : F13 c_0 d_1 R w) : Calls P 13 #[c_0, d_1] w (fun e w' => ∃ v, e = .returned v ∧ R v w') :=
  calls_of_den wide (scr := S13) (rs := [.tmp 4, .tmp 5]) (args := [c_0, d_1]) (fn := Go.Proofs.Tryz.f13) 29 (by kernel_rfl) (by kernel_rfl) (by kernel_rfl) (by kernel_rfl) O13 (Eq.mpr (congrFun (congrFun (congrFun (congrFun E13 c_0) d_1) R) w) h)
theorem H13 {c_0 d_1 : Value} {w : World} {R : Value → World → Prop} (h : F13 c_0 d_1 R w) : hF P 13 #[c_0, d_1] R w := hF_of (by kernel_rfl) (C13 h)
def F14 (d_0 n_1 : Value) (R : Value → World → Prop) : World → Prop :=
 hV P (eqG true .neq 29 d_0 (.pointer none)) fun t5 =>
 hJ (fun (j11_5 : Value) =>
 hPick t5 j11_5 (.bool false) fun t12 =>
 hIf t12 (hV P (Builtin.max_ #[3, 3] 3 #[n_1, (.int .i64 (-1))]) fun t15 =>
 hV P (hNil d_0) fun t16 =>
 hV P (fieldAt 94 t16 1) fun t17 =>
 hU P (storeAt 3 t17 t15) <|
 R (.tuple #[])) (R (.tuple #[]))) fun J11 =>
 hGuard t5 true (hV P (hNil d_0) fun t8 =>
 hV P (fieldAt 94 t8 2) fun t9 =>
 hV P (loadAt 4 t9) fun t10 =>
 hV P (Op.unary .not t10) fun t11 =>
 J11 t11) (J11 undef)
def S14 : Nat → Scr := scrOf []
theorem E14 : (fun d_0 n_1 R w => den P S14 23 (bodyOf Go.Proofs.Tryz.f14) (retK P [] R) (frm0 [d_0, n_1]) w) = F14 := by kernel_rfl
theorem O14 : codeOk S14 Go.Proofs.Tryz.f14.ntmps (bodyOf Go.Proofs.Tryz.f14) = true := by kernel_rfl
theorem C14 {d_0 n_1 : Value} {w : World} {R : Value → World → Prop} (h : F14 d_0 n_1 R w) : Calls P 14 #[d_0, n_1] w (fun e w' => ∃ v, e = .returned v ∧ R v w') :=
  calls_of_den wide (scr := S14) (rs := []) (args := [d_0, n_1]) (fn := Go.Proofs.Tryz.f14) 23 (by kernel_rfl) (by kernel_rfl) (by kernel_rfl) (by kernel_rfl) O14 (Eq.mpr (congrFun (congrFun (congrFun (congrFun E14 d_0) n_1) R) w) h)
def F16 (a_0 block_1 : Value) (R : Value → World → Prop) : World → Prop :=
 hV P (eqG true .eql 31 a_0 (.pointer none)) fun t8 =>
 hIf t8 (R (.tuple #[(.slice none 0 0), (.int .i64 0), (.int .i64 7)])) (hV P (hNil a_0) fun t10 =>
 hV P (fieldAt 105 t10 1) fun t11 =>
 hV P (loadAt 98 t11) fun t12 =>
 hF P 48 #[t12, block_1] fun t14 =>
 hV P (extract t14 0) fun t15 =>
 hV P (extract t14 1) fun t16 =>
 hV P (extract t14 2) fun t17 =>
 R (.tuple #[t15, t16, t17]))
def S16 : Nat → Scr := scrOf []
theorem E16 : (fun a_0 block_1 R w => den P S16 26 (bodyOf Go.Proofs.Tryz.f16) (retK P [.tmp 4, .tmp 5, .tmp 6] R) (frm0 [a_0, block_1]) w) = F16 := by kernel_rfl
theorem O16 : codeOk S16 Go.Proofs.Tryz.f16.ntmps (bodyOf Go.Proofs.Tryz.f16) = true := by kernel_rfl
theorem C16 {a_0 block_1 : Value} {w : World} {R : Value → World → Prop} (h : F16 a_0 block_1 R w) : Calls P 16 #[a_0, block_1] w (fun e w' => ∃ v, e = .returned v ∧ R v w') :=
  calls_of_den wide (scr := S16) (rs := [.tmp 4, .tmp 5, .tmp 6]) (args := [a_0, block_1]) (fn := Go.Proofs.Tryz.f16) 26 (by kernel_rfl) (by kernel_rfl) (by kernel_rfl) (by kernel_rfl) O16 (Eq.mpr (congrFun (congrFun (congrFun (congrFun E16 a_0) block_1) R) w) h)
def F17 (a_0 m_1 : Value) (R : Value → World → Prop) : World → Prop :=
 hV P (box 37 m_1) fun m_3 =>
 hV P (eqG true .eql 31 a_0 (.pointer none)) fun t7 =>
 hJ (fun (j12_4 : Value) =>
 hPick t7 (.bool true) j12_4 fun t13 =>
 hJ (fun (j17_7 : Value) =>
 hPick t13 (.bool true) j17_7 fun t18 =>
 hIf t18 (R (.slice none 0 0)) (hV P (build 108 #[(8, (.func (.func 50) #[] #[])), (9, (.func (.func 51) #[] #[])), (10, (.func (.func 52) #[] #[])), (11, (.func (.func 53) #[] #[]))]) fun t19 =>
 hV P (fieldAt 37 m_3 0) fun t20 =>
 hV P (loadAt 3 t20) fun t21 =>
 hV P (Instr.index 108 t19 t21) fun t22 =>
 hV P (eqG true .eql 107 t22 .nilFunc) fun t24 =>
 hIf t24 (R (.slice none 0 0)) (hV P (loadAt 37 m_3) fun t27 =>
 hFV P t22 #[a_0, t27] fun t28 =>
 R t28))) fun J8 =>
 hGuard t13 false (hV P (loadAt 37 m_3) fun t15 =>
 hF P 49 #[t15] fun t16 =>
 hV P (Op.unary .not t16) fun t17 =>
 J8 t17) (J8 undef)) fun J9 =>
 hGuard t7 false (hV P (hNil a_0) fun t10 =>
 hV P (fieldAt 105 t10 3) fun t11 =>
 hV P (loadAt 4 t11) fun t12 =>
 J9 t12) (J9 undef)
def S17 : Nat → Scr := scrOf []
theorem E17 : (fun a_0 m_1 R w => den P S17 28 (bodyOf Go.Proofs.Tryz.f17) (retK P [.tmp 4] R) (frm0 [a_0, m_1]) w) = F17 := by kernel_rfl
theorem O17 : codeOk S17 Go.Proofs.Tryz.f17.ntmps (bodyOf Go.Proofs.Tryz.f17) = true := by kernel_rfl
theorem C17 {a_0 m_1 : Value} {w : World} {R : Value → World → Prop} (h : F17 a_0 m_1 R w) : Calls P 17 #[a_0, m_1] w (fun e w' => ∃ v, e = .returned v ∧ R v w') :=
  calls_of_den wide (scr := S17) (rs := [.tmp 4]) (args := [a_0, m_1]) (fn := Go.Proofs.Tryz.f17) 28 (by kernel_rfl) (by kernel_rfl) (by kernel_rfl) (by kernel_rfl) O17 (Eq.mpr (congrFun (congrFun (congrFun (congrFun E17 a_0) m_1) R) w) h)
theorem H17 {a_0 m_1 : Value} {w : World} {R : Value → World → Prop} (h : F17 a_0 m_1 R w) : hF P 17 #[a_0, m_1] R w := hF_of (by kernel_rfl) (C17 h)
def F18 (a_0 b_1 : Value) (R : Value → World → Prop) : World → Prop :=
 hV P (Builtin.len_ #[35] 3 #[a_0]) fun t7 =>
 hV P (Builtin.len_ #[35] 3 #[b_1]) fun t9 =>
 hV P (eqG false .neq 3 t7 t9) fun t10 =>
 hIf t10 (R (.bool false)) (hLoop2 (.int .i64 0) (.bool false) fun i_5_1 t4_2 g3 next4 =>
 hV P (Builtin.len_ #[35] 3 #[a_0]) fun t13 =>
 hV P (binOp .lss 3 i_5_1 t13) fun t14 =>
 hIf t14 (hDraw fun C5 =>
 pV P (indexAt 35 a_0 i_5_1) fun t19 =>
 mV P C5 (loadAt 5 t19) fun t20 =>
 pV P (indexAt 35 b_1 i_5_1) fun t23 =>
 mV P C5 (loadAt 5 t23) fun t24 =>
 pV P (eqG false .neq 5 t20 t24) fun t25 =>
 hIf t25 (R (.bool false)) (hV P (binOp .add 3 i_5_1 (.int .i64 1)) fun t16 =>
 next4 t16 t4_2)) (R (.bool true)))
def S18 : Nat → Scr := scrOf [(6, .take 0 (.take 1 (.take 2 (.take 3 (.take 4 (.take 5 (.take 6 (.take 7 (.take 8 (.done))))))))))]
theorem E18 : (fun a_0 b_1 R w => den P S18 33 (bodyOf Go.Proofs.Tryz.f18) (retK P [.tmp 4] R) (frm0 [a_0, b_1]) w) = F18 := by kernel_rfl
theorem O18 : codeOk S18 Go.Proofs.Tryz.f18.ntmps (bodyOf Go.Proofs.Tryz.f18) = true := by kernel_rfl
theorem C18 {a_0 b_1 : Value} {w : World} {R : Value → World → Prop} (h : F18 a_0 b_1 R w) : Calls P 18 #[a_0, b_1] w (fun e w' => ∃ v, e = .returned v ∧ R v w') :=
  calls_of_den wide (scr := S18) (rs := [.tmp 4]) (args := [a_0, b_1]) (fn := Go.Proofs.Tryz.f18) 33 (by kernel_rfl) (by kernel_rfl) (by kernel_rfl) (by kernel_rfl) O18 (Eq.mpr (congrFun (congrFun (congrFun (congrFun E18 a_0) b_1) R) w) h)
theorem H18 {a_0 b_1 : Value} {w : World} {R : Value → World → Prop} (h : F18 a_0 b_1 R w) : hF P 18 #[a_0, b_1] R w := hF_of (by kernel_rfl) (C18 h)
def F19 (d_0 : Value) (R : Value → World → Prop) : World → Prop :=
 hV P (eqG true .neq 29 d_0 (.pointer none)) fun t4 =>
 hGuard t4 true (hV P (hNil d_0) fun t7 =>
 hV P (fieldAt 94 t7 2) fun t8 =>
 hV P (loadAt 4 t8) fun t9 =>
 hPick t4 t9 (.bool false) fun t10 =>
 R t10) (hPick t4 undef (.bool false) fun t10 =>
 R t10)
def S19 : Nat → Scr := scrOf []
theorem E19 : (fun d_0 R w => den P S19 23 (bodyOf Go.Proofs.Tryz.f19) (retK P [.tmp 2] R) (frm0 [d_0]) w) = F19 := by kernel_rfl
theorem O19 : codeOk S19 Go.Proofs.Tryz.f19.ntmps (bodyOf Go.Proofs.Tryz.f19) = true := by kernel_rfl
theorem C19 {d_0 : Value} {w : World} {R : Value → World → Prop} (h : F19 d_0 R w) : Calls P 19 #[d_0] w (fun e w' => ∃ v, e = .returned v ∧ R v w') :=
  calls_of_den wide (scr := S19) (rs := [.tmp 2]) (args := [d_0]) (fn := Go.Proofs.Tryz.f19) 23 (by kernel_rfl) (by kernel_rfl) (by kernel_rfl) (by kernel_rfl) O19 (Eq.mpr (congrFun (congrFun (congrFun E19 d_0) R) w) h)
def F21 (R : Value → World → Prop) : World → Prop :=
 hF P 54 #[] fun t5 =>
 hF P 23 #[t5] fun t6 =>
 hV P (extract t6 0) fun t7 =>
 hV P (extract t6 1) fun t8 =>
 hV P (eqG true .neq 32 t8 (.int .i64 0)) fun t10 =>
 hIf t10 (R (.bool false)) (hF P 55 #[t7, (.int .i64 0), (.int .i64 1)] fun t12 =>
 hF P 56 #[t7] fun t14 =>
 hV P (build 37 #[(0, (.int .i64 1)), (4, (.int .i64 1)), (5, (.int .i64 1)), (6, (.int .i64 1))]) fun t16 =>
 hF P 57 #[t7, (.int .i64 0), t16] fun t17 =>
 hV P (Builtin.len_ #[59] 3 #[t17]) fun t19 =>
 hV P (eqG true .eql 3 t19 (.int .i64 1)) fun t20 =>
 hJ (fun (j26_5 : Value) =>
 hPick t20 j26_5 (.bool false) fun t27 =>
 hJ (fun (j34_11 : Value) =>
 hPick t27 j34_11 (.bool false) fun t35 =>
 hGuard t35 true (hV P (indexAt 59 t17 (.int .i64 0)) fun t38 =>
 hV P (fieldAt 76 t38 1) fun t39 =>
 hV P (fieldAt 37 t39 5) fun t40 =>
 hV P (loadAt 3 t40) fun t41 =>
 hV P (eqG true .eql 3 t41 (.int .i64 1)) fun t42 =>
 hPick t35 t42 (.bool false) fun t43 =>
 R t43) (hPick t35 undef (.bool false) fun t43 =>
 R t43)) fun J18 =>
 hGuard t27 true (hV P (indexAt 59 t17 (.int .i64 0)) fun t30 =>
 hV P (fieldAt 76 t30 1) fun t31 =>
 hV P (fieldAt 37 t31 0) fun t32 =>
 hV P (loadAt 3 t32) fun t33 =>
 hV P (eqG true .eql 3 t33 (.int .i64 8)) fun t34 =>
 J18 t34) (J18 undef)) fun J19 =>
 hGuard t20 true (hV P (indexAt 59 t17 (.int .i64 0)) fun t23 =>
 hV P (fieldAt 76 t23 0) fun t24 =>
 hV P (loadAt 3 t24) fun t25 =>
 hV P (eqG true .eql 3 t25 (.int .i64 (-2))) fun t26 =>
 J19 t26) (J19 undef))
def S21 : Nat → Scr := scrOf []
theorem E21 : (fun R w => den P S21 28 (bodyOf Go.Proofs.Tryz.f21) (retK P [.tmp 0] R) (frm0 []) w) = F21 := by kernel_rfl
theorem O21 : codeOk S21 Go.Proofs.Tryz.f21.ntmps (bodyOf Go.Proofs.Tryz.f21) = true := by kernel_rfl
theorem C21 {w : World} {R : Value → World → Prop} (h : F21 R w) : Calls P 21 #[] w (fun e w' => ∃ v, e = .returned v ∧ R v w') :=
  calls_of_den wide (scr := S21) (rs := [.tmp 0]) (args := []) (fn := Go.Proofs.Tryz.f21) 28 (by kernel_rfl) (by kernel_rfl) (by kernel_rfl) (by kernel_rfl) O21 (Eq.mpr (congrFun (congrFun E21 R) w) h)
end Go.Gd
