/- PRINTED by a program of mine (hoas.py): the plain reading of the functions named, each with its equation and the way into it. -/
import Derived.Test.YtdgnnacppiaogaaGreatB2
set_option linter.unusedVariables false
set_option linter.unusedSimpArgs false
set_option maxRecDepth 100000
set_option linter.unusedVariables false
namespace Go.Gd
open Go.Instr
def F104 (s_0 w_1 : Value) (R : Value → World → Prop) : World → Prop :=
 hV P (box 161 w_1) fun w_3 =>
 hV P (eqG true .eql 98 s_0 (.pointer none)) fun t16 =>
 hIf t16 (R (.tuple #[(.int .i64 0), (.int .i64 7)])) (hDraw fun C1 =>
 pV P (fieldAt 161 w_3 4) fun t18 =>
 mV P C1 (loadAt 3 t18) fun t19 =>
 pV P (binOp .lss 3 t19 (.int .i64 0)) fun t20 =>
 hJ (fun (j29_9 : Value) =>
 hPick t20 (.bool true) j29_9 fun t30 =>
 hIf t30 (R (.tuple #[(.int .i64 0), (.int .i64 9)])) (hDraw fun C10 =>
 pV P (fieldAt 161 w_3 5) fun t32 =>
 mV P C10 (loadAt 35 t32) fun t33 =>
 mV P C10 (Builtin.len_ #[35] 3 #[t33]) fun t34 =>
 pV P (hNil s_0) fun t36 =>
 pV P (fieldAt 159 t36 0) fun t37 =>
 pV P (fieldAt 102 t37 1) fun t38 =>
 mV P C10 (loadAt 3 t38) fun t39 =>
 pV P (eqG false .neq 3 t34 t39) fun t40 =>
 hIf t40 (R (.tuple #[(.int .i64 0), (.int .i64 10)])) (hDraw fun C11 =>
 pV P (hNil s_0) fun t43 =>
 pV P (fieldAt 159 t43 0) fun t44 =>
 mV P C11 (loadAt 102 t44) fun t45 =>
 mV P C11 (loadAt 161 w_3) fun t46 =>
 hF P 148 #[t45, t46] fun t47 =>
 pV P (Op.unary .not t47) fun t48 =>
 hIf t48 (R (.tuple #[(.int .i64 0), (.int .i64 6)])) (hV P (fieldAt 161 w_3 0) fun t51 =>
 hV P (loadAt 3 t51) fun t52 =>
 hV P (fieldAt 161 w_3 1) fun t53 =>
 hV P (loadAt 3 t53) fun t54 =>
 hF P 158 #[s_0, t52, t54] fun t55 =>
 hV P (extract t55 0) fun t56 =>
 hV P (extract t55 1) fun t57 =>
 hV P (extract t55 2) fun t58 =>
 hV P (fieldAt 161 w_3 4) fun t61 =>
 hV P (loadAt 3 t61) fun t62 =>
 hF P 98 #[s_0, t62] fun t63 =>
 hV P (extract t63 0) fun t64 =>
 hV P (extract t63 1) fun t65 =>
 hV P (fieldAt 161 w_3 2) fun t67 =>
 hV P (loadAt 3 t67) fun t68 =>
 hV P (binOp .lss 3 t68 t56) fun t70 =>
 hJ (fun (j81_34 : Value) =>
 hPick t70 (.bool true) j81_34 fun t82 =>
 hIf t82 (R (.tuple #[(.int .i64 0), (.int .i64 12)])) (hV P (fieldAt 161 w_3 2) fun t84 =>
 hV P (loadAt 3 t84) fun t85 =>
 hV P (eqG false .eql 3 t85 t56) fun t87 =>
 hJ (fun (j92_38 : Value) =>
 hPick t87 j92_38 (.bool false) fun t93 =>
 hIf t93 (R (.tuple #[t58, (.int .i64 0)])) (hV P (eqG true .eql 3 t64 (.int .i64 1000)) fun t97 =>
 hIf t97 (hDraw fun C39 =>
 pV P (hNil s_0) fun t99 =>
 pV P (fieldAt 159 t99 1) fun t100 =>
 mV P C39 (loadAt 29 t100) fun t101 =>
 pV P (hNil s_0) fun t103 =>
 pV P (fieldAt 159 t103 0) fun t104 =>
 mV P C39 (loadAt 102 t104) fun t105 =>
 pV P (fieldAt 161 w_3 0) fun t106 =>
 mV P C39 (loadAt 3 t106) fun t107 =>
 pV P (fieldAt 161 w_3 1) fun t108 =>
 mV P C39 (loadAt 3 t108) fun t109 =>
 pV P (fieldAt 161 w_3 2) fun t111 =>
 mV P C39 (loadAt 3 t111) fun t112 =>
 pV P (fieldAt 161 w_3 3) fun t113 =>
 mV P C39 (loadAt 3 t113) fun t114 =>
 hJ (fun (j11_40 : Value) =>
 hV P (eqG true .neq 32 j11_40 (.int .i64 0)) fun t119 =>
 hIf t119 (R (.tuple #[(.int .i64 0), j11_40])) (R (.tuple #[(.int .i64 11), (.int .i64 0)]))) fun J45 =>
 hAnd (hF P 153 #[t105, t107, t109] fun t110 =>
 hAnd C39 <| hV P (buildSlice 64 3 #[(0, t112), (1, t114), (2, (.int .i64 11))]) fun t115 =>
 hAnd C39 <| hF P 151 #[t115] fun t116 =>
 hAnd C39 <| hF P 159 #[t101, t110, t116] fun t117 =>
 hAnd C39 <| J45 t117) (hV P (buildSlice 64 3 #[(0, t112), (1, t114), (2, (.int .i64 11))]) fun t115 =>
 hAnd C39 <| hF P 153 #[t105, t107, t109] fun t110 =>
 hAnd C39 <| hF P 151 #[t115] fun t116 =>
 hAnd C39 <| hF P 159 #[t101, t110, t116] fun t117 =>
 hAnd C39 <| J45 t117)) (hDraw fun C48 =>
 pV P (fieldAt 161 w_3 0) fun t121 =>
 mV P C48 (loadAt 3 t121) fun t122 =>
 pV P (fieldAt 161 w_3 1) fun t123 =>
 mV P C48 (loadAt 3 t123) fun t124 =>
 pV P (fieldAt 161 w_3 2) fun t125 =>
 mV P C48 (loadAt 3 t125) fun t126 =>
 pV P (fieldAt 161 w_3 3) fun t127 =>
 mV P C48 (loadAt 3 t127) fun t128 =>
 pV P (fieldAt 161 w_3 4) fun t129 =>
 mV P C48 (loadAt 3 t129) fun t130 =>
 pV P (binOp .add 3 t64 (.int .i64 1)) fun t132 =>
 pV P (fieldAt 161 w_3 5) fun t135 =>
 mV P C48 (loadAt 35 t135) fun t136 =>
 hV P (buildSlice 64 6 #[(0, t122), (1, t124), (2, t126), (3, t128), (4, t130), (5, t132)]) fun t133 =>
 hAnd C48 <| hF P 151 #[t133] fun t134 =>
 hAnd C48 <| hF P 150 #[t134, t136] fun t137 =>
 hAnd C48 <| hV P (hNil s_0) fun t139 =>
 hV P (fieldAt 159 t139 1) fun t140 =>
 hV P (loadAt 29 t140) fun t141 =>
 hF P 159 #[t141, (.int .i64 0), t137] fun t143 =>
 hV P (eqG true .neq 32 t143 (.int .i64 0)) fun t145 =>
 hIf t145 (R (.tuple #[(.int .i64 0), t143])) (hV P (loadAt 161 w_3) fun t148 =>
 hV P (binOp .add 3 t64 (.int .i64 1)) fun t150 =>
 hF P 97 #[s_0, t148, t150] fun t151 =>
 R (.tuple #[(.int .i64 0), t151]))))) fun J46 =>
 hGuard t87 true (hV P (fieldAt 161 w_3 3) fun t89 =>
 hV P (loadAt 3 t89) fun t90 =>
 hV P (eqG false .eql 3 t90 t57) fun t92 =>
 J46 t92) (J46 undef))) fun J47 =>
 hGuard t70 false (hV P (fieldAt 161 w_3 2) fun t72 =>
 hV P (loadAt 3 t72) fun t73 =>
 hV P (eqG false .eql 3 t73 t56) fun t75 =>
 hJ (fun (j80_16 : Value) =>
 hGuard t70 false (hPick t75 j80_16 (.bool false) fun t81 =>
 J47 t81) (J47 undef)) fun J18 =>
 hGuard t75 true (hV P (fieldAt 161 w_3 3) fun t77 =>
 hV P (loadAt 3 t77) fun t78 =>
 hV P (binOp .lss 3 t78 t57) fun t80 =>
 J18 t80) (J18 undef)) (hJ (fun (j80_22 : Value) =>
 hGuard t70 false (hPick undef j80_22 (.bool false) fun t81 =>
 J47 t81) (J47 undef)) fun J24 =>
 hGuard undef true (hV P (fieldAt 161 w_3 3) fun t77 =>
 hV P (loadAt 3 t77) fun t78 =>
 hV P (binOp .lss 3 t78 t57) fun t80 =>
 J24 t80) (J24 undef)))))) fun J12 =>
 hGuard t20 false (pV P (fieldAt 161 w_3 4) fun t22 =>
 mV P C1 (loadAt 3 t22) fun t23 =>
 pV P (hNil s_0) fun t25 =>
 pV P (fieldAt 159 t25 0) fun t26 =>
 pV P (fieldAt 102 t26 0) fun t27 =>
 mV P C1 (loadAt 3 t27) fun t28 =>
 pV P (binOp .geq 3 t23 t28) fun t29 =>
 J12 t29) (J12 undef))
def S104 : Nat → Scr := scrOf [(3, .take 0 (.take 1 (.take 2 (.take 3 (.take 4 (.take 5 (.take 6 (.take 7 (.take 8 (.take 9 (.take 10 (.take 11 (.take 12 (.take 13 (.done))))))))))))))), (5, .take 0 (.take 1 (.take 2 (.take 3 (.take 4 (.take 5 (.take 6 (.take 7 (.take 8 (.take 9 (.done))))))))))), (7, .take 0 (.take 1 (.take 2 (.take 3 (.take 4 (.sink 5 (.take 6 (.take 7 (.done))))))))), (16, .take 0 (.take 1 (.take 2 (.take 3 (.take 4 (.take 5 (.take 6 (.take 7 (.take 8 (.take 9 (.take 10 (.take 11 (.take 13 (.take 14 (.take 15 (.take 16 (.alt 12 (.alt 17 (.alt 18 (.alt 19 (.take 20 (.done)) (.nil)) (.nil)) (.nil)) (.alt 17 (.alt 12 (.alt 18 (.alt 19 (.take 20 (.done)) (.nil)) (.nil)) (.nil)) (.nil))))))))))))))))))), (20, .take 0 (.take 1 (.take 2 (.take 3 (.take 4 (.take 5 (.take 6 (.take 7 (.take 8 (.take 9 (.take 10 (.take 11 (.take 14 (.take 15 (.alt 12 (.alt 13 (.alt 16 (.take 17 (.done)) (.nil)) (.nil)) (.nil))))))))))))))))]
theorem E104 : (fun s_0 w_1 R w => den P S104 38 (bodyOf Go.Proofs.Tryz.f104) (retK P [.tmp 4, .tmp 5] R) (frm0 [s_0, w_1]) w) = F104 := by kernel_rfl
theorem O104 : codeOk S104 Go.Proofs.Tryz.f104.ntmps (bodyOf Go.Proofs.Tryz.f104) = true := by kernel_rfl
theorem C104 {s_0 w_1 : Value} {w : World} {R : Value → World → Prop} (h : F104 s_0 w_1 R w) : Calls P 104 #[s_0, w_1] w (fun e w' => ∃ v, e = .returned v ∧ R v w') :=
  calls_of_den wide (scr := S104) (rs := [.tmp 4, .tmp 5]) (args := [s_0, w_1]) (fn := Go.Proofs.Tryz.f104) 38 (by kernel_rfl) (by kernel_rfl) (by kernel_rfl) (by kernel_rfl) O104 (Eq.mpr (congrFun (congrFun (congrFun (congrFun E104 s_0) w_1) R) w) h)
theorem H104 {s_0 w_1 : Value} {w : World} {R : Value → World → Prop} (h : F104 s_0 w_1 R w) : hF P 104 #[s_0, w_1] R w := hF_of (by kernel_rfl) (C104 h)
def F105 (a_0 block_1 level_2 data_3 : Value) (R : Value → World → Prop) : World → Prop :=
 hV P (hNil a_0) fun t14 =>
 hV P (fieldAt 105 t14 2) fun t15 =>
 hV P (loadAt 95 t15) fun t16 =>
 hV P (build 141 #[(0, block_1), (1, data_3)]) fun t19 =>
 hF P 160 #[t16, t19, level_2] fun t21 =>
 hV P (extract t21 0) fun t22 =>
 hV P (extract t21 1) fun t23 =>
 hV P (extract t21 2) fun t24 =>
 hV P (alloc 141 true (.tuple #[])) fun v_9 =>
 hU P (storeAt 141 v_9 t22) <|
 hJ (fun (j32_6 : Value) =>
 hPick t23 j32_6 (.bool false) fun t33 =>
 hIf t33 (hV P (fieldAt 141 v_9 0) fun t34 =>
 hV P (loadAt 3 t34) fun t35 =>
 hV P (build 37 #[(0, (.int .i64 14)), (5, t35)]) fun t36 =>
 hV P (buildSlice 43 1 #[(0, t36)]) fun t37 =>
 R t37) (R (.slice none 0 0))) fun J7 =>
 hGuard t23 true (hV P (hNil a_0) fun t28 =>
 hV P (fieldAt 105 t28 0) fun t29 =>
 hV P (fieldAt 25 t29 4) fun t30 =>
 hV P (loadAt 3 t30) fun t31 =>
 hV P (eqG true .eql 3 t31 (.int .i64 1)) fun t32 =>
 J7 t32) (J7 undef)
def S105 : Nat → Scr := scrOf []
theorem E105 : (fun a_0 block_1 level_2 data_3 R w => den P S105 27 (bodyOf Go.Proofs.Tryz.f105) (retK P [.tmp 8] R) (frm0 [a_0, block_1, level_2, data_3]) w) = F105 := by kernel_rfl
theorem O105 : codeOk S105 Go.Proofs.Tryz.f105.ntmps (bodyOf Go.Proofs.Tryz.f105) = true := by kernel_rfl
theorem C105 {a_0 block_1 level_2 data_3 : Value} {w : World} {R : Value → World → Prop} (h : F105 a_0 block_1 level_2 data_3 R w) : Calls P 105 #[a_0, block_1, level_2, data_3] w (fun e w' => ∃ v, e = .returned v ∧ R v w') :=
  calls_of_den wide (scr := S105) (rs := [.tmp 8]) (args := [a_0, block_1, level_2, data_3]) (fn := Go.Proofs.Tryz.f105) 27 (by kernel_rfl) (by kernel_rfl) (by kernel_rfl) (by kernel_rfl) O105 (Eq.mpr (congrFun (congrFun (congrFun (congrFun (congrFun (congrFun E105 a_0) block_1) level_2) data_3) R) w) h)
theorem H105 {a_0 block_1 level_2 data_3 : Value} {w : World} {R : Value → World → Prop} (h : F105 a_0 block_1 level_2 data_3 R w) : hF P 105 #[a_0, block_1, level_2, data_3] R w := hF_of (by kernel_rfl) (C105 h)
def F106 (c_0 block_1 : Value) (R : Value → World → Prop) : World → Prop :=
 hV P (alloc 141 true (.tuple #[])) fun t4 =>
 hF P 156 #[c_0, block_1] fun t9 =>
 hV P (Op.unary .not t9) fun t10 =>
 hIf t10 (hV P (build 141 #[]) fun t11 =>
 hU P (storeAt 141 t4 t11) <|
 hR P (loadAt 141 t4) fun r0 =>
 R (.tuple #[r0, (.bool false)])) (hV P (hNil c_0) fun t14 =>
 hV P (fieldAt 157 t14 3) fun t15 =>
 hV P (loadAt 155 t15) fun t16 =>
 hV P (lookup 155 t16 block_1 false) fun t18 =>
 hV P (build 141 #[(0, block_1), (1, t18)]) fun t19 =>
 hV P (alloc 141 true (.tuple #[])) fun f_6 =>
 hU P (storeAt 141 f_6 t19) <|
 hV P (hNil c_0) fun t21 =>
 hV P (fieldAt 157 t21 2) fun t22 =>
 hV P (loadAt 153 t22) fun t23 =>
 hI P t23 "Remove" #[block_1] fun t25 =>
 hV P (hNil c_0) fun t27 =>
 hV P (fieldAt 157 t27 3) fun t28 =>
 hV P (loadAt 155 t28) fun t29 =>
 hV P (Builtin.delete_ #[155, 3] 0 #[t29, block_1]) fun _ =>
 hV P (loadAt 141 f_6) fun t31 =>
 hU P (storeAt 141 t4 t31) <|
 hR P (loadAt 141 t4) fun r0 =>
 R (.tuple #[r0, (.bool true)]))
def S106 : Nat → Scr := scrOf []
theorem E106 : (fun c_0 block_1 R w => den P S106 27 (bodyOf Go.Proofs.Tryz.f106) (retK P [.cell 4 141, .tmp 5] R) (frm0 [c_0, block_1]) w) = F106 := by kernel_rfl
theorem O106 : codeOk S106 Go.Proofs.Tryz.f106.ntmps (bodyOf Go.Proofs.Tryz.f106) = true := by kernel_rfl
theorem C106 {c_0 block_1 : Value} {w : World} {R : Value → World → Prop} (h : F106 c_0 block_1 R w) : Calls P 106 #[c_0, block_1] w (fun e w' => ∃ v, e = .returned v ∧ R v w') :=
  calls_of_den wide (scr := S106) (rs := [.cell 4 141, .tmp 5]) (args := [c_0, block_1]) (fn := Go.Proofs.Tryz.f106) 27 (by kernel_rfl) (by kernel_rfl) (by kernel_rfl) (by kernel_rfl) O106 (Eq.mpr (congrFun (congrFun (congrFun (congrFun E106 c_0) block_1) R) w) h)
theorem H106 {c_0 block_1 : Value} {w : World} {R : Value → World → Prop} (h : F106 c_0 block_1 R w) : hF P 106 #[c_0, block_1] R w := hF_of (by kernel_rfl) (C106 h)
end Go.Gd
