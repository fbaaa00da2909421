/- PRINTED by a program of mine (hoas.py): the plain reading of the functions named, each with its equation and the way into it. PRINTED by a program of mine (hoas.py): the plain reading of the functions named, each with its equation and the way into it. -/
import Derived.Test.YtdgnnacppiaogaaGreatB2
set_option linter.unusedVariables false
set_option linter.unusedSimpArgs false
set_option maxRecDepth 100000
set_option linter.unusedVariables false
namespace Go.Gd
open Go.Instr
def F90 (m_0 : Value) (R : Value → World → Prop) : World → Prop :=
 hV P (box 37 m_0) fun m_1 =>
 hV P (fieldAt 37 m_1 1) fun t3 =>
 hV P (loadAt 3 t3) fun t4 =>
 hV P (fieldAt 37 m_1 2) fun t5 =>
 hV P (loadAt 3 t5) fun t6 =>
 hV P (fieldAt 37 m_1 3) fun t7 =>
 hV P (loadAt 3 t7) fun t8 =>
 hV P (fieldAt 37 m_1 4) fun t9 =>
 hV P (loadAt 3 t9) fun t10 =>
 hV P (fieldAt 37 m_1 5) fun t11 =>
 hV P (loadAt 3 t11) fun t12 =>
 hV P (fieldAt 37 m_1 6) fun t13 =>
 hV P (loadAt 3 t13) fun t14 =>
 hV P (fieldAt 37 m_1 7) fun t15 =>
 hV P (loadAt 3 t15) fun t16 =>
 hV P (fieldAt 37 m_1 8) fun t17 =>
 hV P (loadAt 32 t17) fun t18 =>
 hV P (buildSlice 64 8 #[(0, t4), (1, t6), (2, t8), (3, t10), (4, t12), (5, t14), (6, t16), (7, t18)]) fun t19 =>
 R t19
def S90 : Nat → Scr := scrOf []
theorem E90 : (fun m_0 R w => den P S90 23 (bodyOf Go.Proofs.Tryz.f90) (retK P [.tmp 2] R) (frm0 [m_0]) w) = F90 := by kernel_rfl
theorem O90 : codeOk S90 Go.Proofs.Tryz.f90.ntmps (bodyOf Go.Proofs.Tryz.f90) = true := by kernel_rfl
theorem C90 {m_0 : Value} {w : World} {R : Value → World → Prop} (h : F90 m_0 R w) : Calls P 90 #[m_0] w (fun e w' => ∃ v, e = .returned v ∧ R v w') :=
  calls_of_den wide (scr := S90) (rs := [.tmp 2]) (args := [m_0]) (fn := Go.Proofs.Tryz.f90) 23 (by kernel_rfl) (by kernel_rfl) (by kernel_rfl) (by kernel_rfl) O90 (Eq.mpr (congrFun (congrFun (congrFun E90 m_0) R) w) h)
theorem H90 {m_0 : Value} {w : World} {R : Value → World → Prop} (h : F90 m_0 R w) : hF P 90 #[m_0] R w := hF_of (by kernel_rfl) (C90 h)
def F91 (c_0 : Value) (R : Value → World → Prop) : World → Prop :=
 hV P (box 25 c_0) fun c_1 =>
 hLoop2 (.int .i64 0) (.bool false) fun t4_1 t2_2 g3 next4 =>
 hV P (binOp .lss 3 t4_1 (.int .i64 3)) fun t5 =>
 hIf t5 (hV P (fieldAt 25 c_1 6) fun t8 =>
 hV P (indexAt 22 t8 t4_1) fun t9 =>
 hV P (loadAt 3 t9) fun t10 =>
 hF P 138 #[t10, (.int .i64 1), (.int .i64 2)] fun t11 =>
 hV P (Op.unary .not t11) fun t12 =>
 hJ (fun (j19_10 : Value) =>
 hPick t12 (.bool true) j19_10 fun t20 =>
 hIf t20 (R (.bool false)) (hV P (binOp .add 3 t4_1 (.int .i64 1)) fun t21 =>
 next4 t21 t2_2)) fun J11 =>
 hGuard t12 false (hV P (fieldAt 25 c_1 7) fun t15 =>
 hV P (indexAt 22 t15 t4_1) fun t16 =>
 hV P (loadAt 3 t16) fun t17 =>
 hF P 138 #[t17, (.int .i64 1), (.int .i64 16)] fun t18 =>
 hV P (Op.unary .not t18) fun t19 =>
 J11 t19) (J11 undef)) (hV P (fieldAt 25 c_1 0) fun t23 =>
 hV P (loadAt 3 t23) fun t24 =>
 hF P 138 #[t24, (.int .i64 1), (.int .i64 4)] fun t25 =>
 hV P (Op.unary .not t25) fun t26 =>
 hJ (fun (j31_15 : Value) =>
 hPick t26 (.bool true) j31_15 fun t32 =>
 hIf t32 (R (.bool false)) (hV P (fieldAt 25 c_1 2) fun t34 =>
 hV P (loadAt 3 t34) fun t35 =>
 hF P 138 #[t35, (.int .i64 1), (.int .i64 32)] fun t36 =>
 hV P (Op.unary .not t36) fun t37 =>
 hJ (fun (j42_19 : Value) =>
 hPick t37 (.bool true) j42_19 fun t43 =>
 hIf t43 (R (.bool false)) (hV P (fieldAt 25 c_1 4) fun t45 =>
 hV P (loadAt 3 t45) fun t46 =>
 hF P 138 #[t46, (.int .i64 1), (.int .i64 3)] fun t47 =>
 hV P (Op.unary .not t47) fun t48 =>
 hJ (fun (j53_23 : Value) =>
 hPick t48 (.bool true) j53_23 fun t54 =>
 hIf t54 (R (.bool false)) (hV P (fieldAt 25 c_1 5) fun t56 =>
 hV P (loadAt 3 t56) fun t57 =>
 hV P (eqG true .neq 3 t57 (.int .i64 0)) fun t58 =>
 hJ (fun (j62_26 : Value) =>
 hPick t58 j62_26 (.bool false) fun t63 =>
 hIf t63 (R (.bool false)) (hV P (fieldAt 25 c_1 8) fun t65 =>
 hV P (loadAt 3 t65) fun t66 =>
 hF P 138 #[t66, (.int .i64 1), (.int .i64 8)] fun t67 =>
 hV P (Op.unary .not t67) fun t68 =>
 hJ (fun (j73_30 : Value) =>
 hPick t68 (.bool true) j73_30 fun t74 =>
 hJ (fun (j79_34 : Value) =>
 hPick t74 (.bool true) j79_34 fun t80 =>
 hJ (fun (j85_38 : Value) =>
 hPick t80 (.bool true) j85_38 fun t86 =>
 hIf t86 (R (.bool false)) (hV P (fieldAt 25 c_1 5) fun t88 =>
 hV P (loadAt 3 t88) fun t89 =>
 hV P (eqG true .neq 3 t89 (.int .i64 2)) fun t90 =>
 hJ (fun (j95_42 : Value) =>
 hPick t90 j95_42 (.bool false) fun t96 =>
 hIf t96 (R (.bool false)) (hV P (fieldAt 25 c_1 12) fun t97 =>
 hV P (loadAt 23 t97) fun t98 =>
 hV P (fieldAt 25 c_1 2) fun t99 =>
 hV P (loadAt 3 t99) fun t100 =>
 hF P 139 #[t98, t100] fun t101 =>
 R t101)) fun J43 =>
 hGuard t90 true (hV P (fieldAt 25 c_1 12) fun t92 =>
 hV P (loadAt 23 t92) fun t93 =>
 hV P (Builtin.len_ #[23] 3 #[t93]) fun t94 =>
 hV P (binOp .gtr 3 t94 (.int .i64 0)) fun t95 =>
 J43 t95) (J43 undef))) fun J44 =>
 hGuard t80 false (hV P (fieldAt 25 c_1 11) fun t82 =>
 hV P (loadAt 3 t82) fun t83 =>
 hF P 138 #[t83, (.int .i64 1), (.int .i64 16)] fun t84 =>
 hV P (Op.unary .not t84) fun t85 =>
 J44 t85) (J44 undef)) fun J45 =>
 hGuard t74 false (hV P (fieldAt 25 c_1 10) fun t76 =>
 hV P (loadAt 3 t76) fun t77 =>
 hF P 138 #[t77, (.int .i64 0), (.int .i64 16)] fun t78 =>
 hV P (Op.unary .not t78) fun t79 =>
 J45 t79) (J45 undef)) fun J46 =>
 hGuard t68 false (hV P (fieldAt 25 c_1 9) fun t70 =>
 hV P (loadAt 3 t70) fun t71 =>
 hF P 138 #[t71, (.int .i64 1), (.int .i64 100)] fun t72 =>
 hV P (Op.unary .not t72) fun t73 =>
 J46 t73) (J46 undef))) fun J47 =>
 hGuard t58 true (hV P (fieldAt 25 c_1 4) fun t60 =>
 hV P (loadAt 3 t60) fun t61 =>
 hV P (eqG true .neq 3 t61 (.int .i64 2)) fun t62 =>
 J47 t62) (J47 undef))) fun J48 =>
 hGuard t48 false (hV P (fieldAt 25 c_1 5) fun t50 =>
 hV P (loadAt 3 t50) fun t51 =>
 hF P 138 #[t51, (.int .i64 0), (.int .i64 2)] fun t52 =>
 hV P (Op.unary .not t52) fun t53 =>
 J48 t53) (J48 undef))) fun J49 =>
 hGuard t37 false (hV P (fieldAt 25 c_1 3) fun t39 =>
 hV P (loadAt 3 t39) fun t40 =>
 hF P 138 #[t40, (.int .i64 1), (.int .i64 16)] fun t41 =>
 hV P (Op.unary .not t41) fun t42 =>
 J49 t42) (J49 undef))) fun J50 =>
 hGuard t26 false (hV P (fieldAt 25 c_1 1) fun t28 =>
 hV P (loadAt 3 t28) fun t29 =>
 hF P 138 #[t29, (.int .i64 1), (.int .i64 4)] fun t30 =>
 hV P (Op.unary .not t30) fun t31 =>
 J50 t31) (J50 undef))
def S91 : Nat → Scr := scrOf [(999999, .take 3 (.done))]
theorem E91 : (fun c_0 R w => den P S91 38 (bodyOf Go.Proofs.Tryz.f91) (retK P [.tmp 2] R) (frm0 [c_0]) w) = F91 := by kernel_rfl
theorem O91 : codeOk S91 Go.Proofs.Tryz.f91.ntmps (bodyOf Go.Proofs.Tryz.f91) = true := by kernel_rfl
theorem C91 {c_0 : Value} {w : World} {R : Value → World → Prop} (h : F91 c_0 R w) : Calls P 91 #[c_0] w (fun e w' => ∃ v, e = .returned v ∧ R v w') :=
  calls_of_den wide (scr := S91) (rs := [.tmp 2]) (args := [c_0]) (fn := Go.Proofs.Tryz.f91) 38 (by kernel_rfl) (by kernel_rfl) (by kernel_rfl) (by kernel_rfl) O91 (Eq.mpr (congrFun (congrFun (congrFun E91 c_0) R) w) h)
theorem H91 {c_0 : Value} {w : World} {R : Value → World → Prop} (h : F91 c_0 R w) : hF P 91 #[c_0] R w := hF_of (by kernel_rfl) (C91 h)
def F92 (c_0 tier_1 : Value) (R : Value → World → Prop) : World → Prop :=
 hV P (box 25 c_0) fun c_2 =>
 hV P (binOp .sub 3 tier_1 (.int .i64 1)) fun t13 =>
 hV P (fieldAt 25 c_2 7) fun t14 =>
 hV P (indexAt 22 t14 t13) fun t15 =>
 hV P (loadAt 3 t15) fun t16 =>
 hV P (fieldAt 25 c_2 5) fun t17 =>
 hV P (loadAt 3 t17) fun t18 =>
 hV P (eqG true .eql 3 t18 (.int .i64 2)) fun t19 =>
 hIf t19 (hV P (fieldAt 25 c_2 12) fun t21 =>
 hV P (loadAt 23 t21) fun t22 =>
 hV P (fieldAt 25 c_2 2) fun t23 =>
 hV P (loadAt 3 t23) fun t24 =>
 hV P (fieldAt 25 c_2 7) fun t25 =>
 hV P (loadAt 22 t25) fun t26 =>
 hF P 140 #[t22, t24, t26] fun t27 =>
 hV P (extract t27 0) fun t28 =>
 hV P (extract t27 1) fun t29 =>
 hF P 141 #[t28, tier_1] fun t33 =>
 hV P (extract t33 0) fun t34 =>
 hV P (extract t33 1) fun t35 =>
 hV P (makeInterface 210 t34) fun t37 =>
 R t37) (hV P (binOp .sub 3 tier_1 (.int .i64 1)) fun t39 =>
 hV P (fieldAt 25 c_2 6) fun t40 =>
 hV P (indexAt 22 t40 t39) fun t41 =>
 hV P (loadAt 3 t41) fun t42 =>
 hV P (eqG true .eql 3 t42 (.int .i64 2)) fun t43 =>
 hIf t43 (hV P (fieldAt 25 c_2 8) fun t46 =>
 hV P (loadAt 3 t46) fun t47 =>
 hV P (fieldAt 25 c_2 9) fun t48 =>
 hV P (loadAt 3 t48) fun t49 =>
 hV P (fieldAt 25 c_2 10) fun t50 =>
 hV P (loadAt 3 t50) fun t51 =>
 hV P (build 217 #[(0, t16), (1, t47), (2, t49), (3, t51)]) fun t52 =>
 hF P 142 #[t52] fun t53 =>
 hV P (extract t53 0) fun t54 =>
 hV P (extract t53 1) fun t55 =>
 hV P (makeInterface 213 t54) fun t57 =>
 R t57) (hF P 143 #[t16] fun t59 =>
 hV P (makeInterface 218 t59) fun t60 =>
 R t60))
def S92 : Nat → Scr := scrOf []
theorem E92 : (fun c_0 tier_1 R w => den P S92 29 (bodyOf Go.Proofs.Tryz.f92) (retK P [.tmp 4] R) (frm0 [c_0, tier_1]) w) = F92 := by kernel_rfl
theorem O92 : codeOk S92 Go.Proofs.Tryz.f92.ntmps (bodyOf Go.Proofs.Tryz.f92) = true := by kernel_rfl
theorem C92 {c_0 tier_1 : Value} {w : World} {R : Value → World → Prop} (h : F92 c_0 tier_1 R w) : Calls P 92 #[c_0, tier_1] w (fun e w' => ∃ v, e = .returned v ∧ R v w') :=
  calls_of_den wide (scr := S92) (rs := [.tmp 4]) (args := [c_0, tier_1]) (fn := Go.Proofs.Tryz.f92) 29 (by kernel_rfl) (by kernel_rfl) (by kernel_rfl) (by kernel_rfl) O92 (Eq.mpr (congrFun (congrFun (congrFun (congrFun E92 c_0) tier_1) R) w) h)
theorem H92 {c_0 tier_1 : Value} {w : World} {R : Value → World → Prop} (h : F92 c_0 tier_1 R w) : hF P 92 #[c_0, tier_1] R w := hF_of (by kernel_rfl) (C92 h)
def F93 (s_0 : Value) (R : Value → World → Prop) : World → Prop :=
 hV P (box 102 s_0) fun s_1 =>
 hV P (fieldAt 102 s_1 0) fun t3 =>
 hV P (loadAt 3 t3) fun t4 =>
 hV P (binOp .geq 3 t4 (.int .i64 1)) fun t5 =>
 hJ (fun (j9_3 : Value) =>
 hPick t5 j9_3 (.bool false) fun t10 =>
 hJ (fun (j14_6 : Value) =>
 hPick t10 j14_6 (.bool false) fun t15 =>
 hJ (fun (j19_9 : Value) =>
 hPick t15 j19_9 (.bool false) fun t20 =>
 hJ (fun (j24_12 : Value) =>
 hPick t20 j24_12 (.bool false) fun t25 =>
 hJ (fun (j29_15 : Value) =>
 hPick t25 j29_15 (.bool false) fun t30 =>
 hJ (fun (j34_18 : Value) =>
 hPick t30 j34_18 (.bool false) fun t35 =>
 hGuard t35 true (hV P (fieldAt 102 s_1 3) fun t37 =>
 hV P (loadAt 3 t37) fun t38 =>
 hV P (binOp .leq 3 t38 (.int .i64 4)) fun t39 =>
 hPick t35 t39 (.bool false) fun t40 =>
 R t40) (hPick t35 undef (.bool false) fun t40 =>
 R t40)) fun J22 =>
 hGuard t30 true (hV P (fieldAt 102 s_1 3) fun t32 =>
 hV P (loadAt 3 t32) fun t33 =>
 hV P (binOp .geq 3 t33 (.int .i64 1)) fun t34 =>
 J22 t34) (J22 undef)) fun J23 =>
 hGuard t25 true (hV P (fieldAt 102 s_1 2) fun t27 =>
 hV P (loadAt 3 t27) fun t28 =>
 hV P (binOp .leq 3 t28 (.int .i64 4)) fun t29 =>
 J23 t29) (J23 undef)) fun J24 =>
 hGuard t20 true (hV P (fieldAt 102 s_1 2) fun t22 =>
 hV P (loadAt 3 t22) fun t23 =>
 hV P (binOp .geq 3 t23 (.int .i64 1)) fun t24 =>
 J24 t24) (J24 undef)) fun J25 =>
 hGuard t15 true (hV P (fieldAt 102 s_1 1) fun t17 =>
 hV P (loadAt 3 t17) fun t18 =>
 hV P (binOp .leq 3 t18 (.int .i64 16)) fun t19 =>
 J25 t19) (J25 undef)) fun J26 =>
 hGuard t10 true (hV P (fieldAt 102 s_1 1) fun t12 =>
 hV P (loadAt 3 t12) fun t13 =>
 hV P (binOp .geq 3 t13 (.int .i64 1)) fun t14 =>
 J26 t14) (J26 undef)) fun J27 =>
 hGuard t5 true (hV P (fieldAt 102 s_1 0) fun t7 =>
 hV P (loadAt 3 t7) fun t8 =>
 hV P (binOp .leq 3 t8 (.int .i64 32)) fun t9 =>
 J27 t9) (J27 undef)
def S93 : Nat → Scr := scrOf []
theorem E93 : (fun s_0 R w => den P S93 23 (bodyOf Go.Proofs.Tryz.f93) (retK P [.tmp 2] R) (frm0 [s_0]) w) = F93 := by kernel_rfl
theorem O93 : codeOk S93 Go.Proofs.Tryz.f93.ntmps (bodyOf Go.Proofs.Tryz.f93) = true := by kernel_rfl
theorem C93 {s_0 : Value} {w : World} {R : Value → World → Prop} (h : F93 s_0 R w) : Calls P 93 #[s_0] w (fun e w' => ∃ v, e = .returned v ∧ R v w') :=
  calls_of_den wide (scr := S93) (rs := [.tmp 2]) (args := [s_0]) (fn := Go.Proofs.Tryz.f93) 23 (by kernel_rfl) (by kernel_rfl) (by kernel_rfl) (by kernel_rfl) O93 (Eq.mpr (congrFun (congrFun (congrFun E93 s_0) R) w) h)
theorem H93 {s_0 : Value} {w : World} {R : Value → World → Prop} (h : F93 s_0 R w) : hF P 93 #[s_0] R w := hF_of (by kernel_rfl) (C93 h)
def F94 (d_0 : Value) (R : Value → World → Prop) : World → Prop :=
 hV P (eqG true .eql 29 d_0 (.pointer none)) fun t4 =>
 hIf t4 (R (.int .i64 0)) (hV P (hNil d_0) fun t6 =>
 hV P (fieldAt 94 t6 0) fun t7 =>
 hV P (loadAt 88 t7) fun t8 =>
 hV P (Builtin.len_ #[88] 3 #[t8]) fun t9 =>
 R t9)
def S94 : Nat → Scr := scrOf []
theorem E94 : (fun d_0 R w => den P S94 26 (bodyOf Go.Proofs.Tryz.f94) (retK P [.tmp 2] R) (frm0 [d_0]) w) = F94 := by kernel_rfl
theorem O94 : codeOk S94 Go.Proofs.Tryz.f94.ntmps (bodyOf Go.Proofs.Tryz.f94) = true := by kernel_rfl
theorem C94 {d_0 : Value} {w : World} {R : Value → World → Prop} (h : F94 d_0 R w) : Calls P 94 #[d_0] w (fun e w' => ∃ v, e = .returned v ∧ R v w') :=
  calls_of_den wide (scr := S94) (rs := [.tmp 2]) (args := [d_0]) (fn := Go.Proofs.Tryz.f94) 26 (by kernel_rfl) (by kernel_rfl) (by kernel_rfl) (by kernel_rfl) O94 (Eq.mpr (congrFun (congrFun (congrFun E94 d_0) R) w) h)
theorem H94 {d_0 : Value} {w : World} {R : Value → World → Prop} (h : F94 d_0 R w) : hF P 94 #[d_0] R w := hF_of (by kernel_rfl) (C94 h)
def F95 (s_0 : Value) (R : Value → World → Prop) : World → Prop :=
 hV P (box 102 s_0) fun s_1 =>
 hV P (fieldAt 102 s_1 0) fun t3 =>
 hV P (loadAt 3 t3) fun t4 =>
 hV P (binOp .add 3 (.int .i64 1) t4) fun t5 =>
 hV P (fieldAt 102 s_1 2) fun t6 =>
 hV P (loadAt 3 t6) fun t7 =>
 hV P (fieldAt 102 s_1 3) fun t8 =>
 hV P (loadAt 3 t8) fun t9 =>
 hV P (binOp .mul 3 t7 t9) fun t10 =>
 hV P (binOp .add 3 t5 t10) fun t11 =>
 R t11
def S95 : Nat → Scr := scrOf []
theorem E95 : (fun s_0 R w => den P S95 23 (bodyOf Go.Proofs.Tryz.f95) (retK P [.tmp 2] R) (frm0 [s_0]) w) = F95 := by kernel_rfl
theorem O95 : codeOk S95 Go.Proofs.Tryz.f95.ntmps (bodyOf Go.Proofs.Tryz.f95) = true := by kernel_rfl
theorem C95 {s_0 : Value} {w : World} {R : Value → World → Prop} (h : F95 s_0 R w) : Calls P 95 #[s_0] w (fun e w' => ∃ v, e = .returned v ∧ R v w') :=
  calls_of_den wide (scr := S95) (rs := [.tmp 2]) (args := [s_0]) (fn := Go.Proofs.Tryz.f95) 23 (by kernel_rfl) (by kernel_rfl) (by kernel_rfl) (by kernel_rfl) O95 (Eq.mpr (congrFun (congrFun (congrFun E95 s_0) R) w) h)
theorem H95 {s_0 : Value} {w : World} {R : Value → World → Prop} (h : F95 s_0 R w) : hF P 95 #[s_0] R w := hF_of (by kernel_rfl) (C95 h)
def F96 (s_0 : Value) (R : Value → World → Prop) : World → Prop :=
 hV P (alloc 161 true (.tuple #[])) fun w_2 =>
 hV P (alloc 3 true (.tuple #[])) fun version_3 =>
 hF P 144 #[s_0, (.int .i64 0)] fun t7 =>
 hV P (makeFunc (.func 146) #[t7] #[]) fun t9 =>
 hV P (fieldAt 161 w_2 0) fun t10 =>
 hV P (fieldAt 161 w_2 1) fun t11 =>
 hV P (fieldAt 161 w_2 2) fun t12 =>
 hV P (fieldAt 161 w_2 3) fun t13 =>
 hV P (fieldAt 161 w_2 4) fun t14 =>
 hV P (buildSlice 273 6 #[(0, t10), (1, t11), (2, t12), (3, t13), (4, t14), (5, version_3)]) fun t15 =>
 hF P 145 #[t9, t15] fun t16 =>
 hV P (hNil s_0) fun t19 =>
 hV P (fieldAt 159 t19 0) fun t20 =>
 hV P (fieldAt 102 t20 1) fun t21 =>
 hV P (loadAt 3 t21) fun t22 =>
 hF P 147 #[t7, t22] fun t23 =>
 hV P (fieldAt 161 w_2 5) fun t24 =>
 hU P (storeAt 35 t24 t23) <|
 hDraw fun C1 =>
 mV P C1 (loadAt 161 w_2) fun t25 =>
 mV P C1 (loadAt 3 version_3) fun t26 =>
 pV P (hNil t7) fun t28 =>
 pV P (fieldAt 226 t28 2) fun t29 =>
 mV P C1 (loadAt 4 t29) fun t30 =>
 hJ (fun (j37_7 : Value) =>
 hPick t30 j37_7 (.bool false) fun t38 =>
 hJ (fun (j47_15 : Value) =>
 hPick t38 j47_15 (.bool false) fun t48 =>
 hJ (fun (j51_17 : Value) =>
 hPick t48 j51_17 (.bool false) fun t52 =>
 hJ (fun (j55_19 : Value) =>
 hPick t52 j55_19 (.bool false) fun t56 =>
 hU P (storeAt 161 w_2 t25) <|
 hU P (storeAt 3 version_3 t26) <|
 hR P (loadAt 161 w_2) fun r0 =>
 hR P (loadAt 3 version_3) fun r1 =>
 R (.tuple #[r0, r1, t56])) fun J20 =>
 hGuard t52 true (mV P C1 (loadAt 3 version_3) fun t54 =>
 pV P (binOp .leq 3 t54 (.int .i64 1000)) fun t55 =>
 J20 t55) (J20 undef)) fun J21 =>
 hGuard t48 true (mV P C1 (loadAt 3 version_3) fun t50 =>
 pV P (binOp .geq 3 t50 (.int .i64 1)) fun t51 =>
 J21 t51) (J21 undef)) fun J22 =>
 hGuard t38 true (pV P (fieldAt 161 w_2 4) fun t40 =>
 mV P C1 (loadAt 3 t40) fun t41 =>
 pV P (hNil s_0) fun t43 =>
 pV P (fieldAt 159 t43 0) fun t44 =>
 pV P (fieldAt 102 t44 0) fun t45 =>
 mV P C1 (loadAt 3 t45) fun t46 =>
 pV P (binOp .lss 3 t41 t46) fun t47 =>
 J22 t47) (J22 undef)) fun J23 =>
 hGuard t30 true (pV P (hNil s_0) fun t33 =>
 pV P (fieldAt 159 t33 0) fun t34 =>
 mV P C1 (loadAt 102 t34) fun t35 =>
 mV P C1 (loadAt 161 w_2) fun t36 =>
 hF P 148 #[t35, t36] fun t37 =>
 hAnd C1 <| J23 t37) (J23 undef)
def S96 : Nat → Scr := scrOf [(4, .take 0 (.take 1 (.take 2 (.take 3 (.take 4 (.take 5 (.take 6 (.take 7 (.take 8 (.take 9 (.take 10 (.take 11 (.alt 12 (.take 13 (.take 14 (.take 15 (.take 16 (.take 17 (.take 18 (.take 19 (.take 20 (.take 21 (.take 22 (.take 23 (.take 24 (.take 25 (.take 26 (.take 27 (.take 28 (.take 29 (.take 30 (.take 31 (.sink 32 (.sink 33 (.take 34 (.done))))))))))))))))))))))) (.nil))))))))))))))]
theorem E96 : (fun s_0 R w => den P S96 26 (bodyOf Go.Proofs.Tryz.f96) (retK P [.cell 2 161, .cell 3 3, .tmp 4] R) (frm0 [s_0]) w) = F96 := by kernel_rfl
theorem O96 : codeOk S96 Go.Proofs.Tryz.f96.ntmps (bodyOf Go.Proofs.Tryz.f96) = true := by kernel_rfl
theorem C96 {s_0 : Value} {w : World} {R : Value → World → Prop} (h : F96 s_0 R w) : Calls P 96 #[s_0] w (fun e w' => ∃ v, e = .returned v ∧ R v w') :=
  calls_of_den wide (scr := S96) (rs := [.cell 2 161, .cell 3 3, .tmp 4]) (args := [s_0]) (fn := Go.Proofs.Tryz.f96) 26 (by kernel_rfl) (by kernel_rfl) (by kernel_rfl) (by kernel_rfl) O96 (Eq.mpr (congrFun (congrFun (congrFun E96 s_0) R) w) h)
theorem H96 {s_0 : Value} {w : World} {R : Value → World → Prop} (h : F96 s_0 R w) : hF P 96 #[s_0] R w := hF_of (by kernel_rfl) (C96 h)
def F97 (s_0 w_1 version_2 : Value) (R : Value → World → Prop) : World → Prop :=
 hV P (box 161 w_1) fun w_4 =>
 hDraw fun C1 =>
 pV P (fieldAt 161 w_4 5) fun t11 =>
 mV P C1 (loadAt 35 t11) fun t12 =>
 pV P (fieldAt 161 w_4 2) fun t14 =>
 mV P C1 (loadAt 3 t14) fun t15 =>
 pV P (fieldAt 161 w_4 3) fun t16 =>
 mV P C1 (loadAt 3 t16) fun t17 =>
 pV P (hNil s_0) fun t23 =>
 pV P (fieldAt 159 t23 0) fun t24 =>
 mV P C1 (loadAt 102 t24) fun t25 =>
 pV P (fieldAt 161 w_4 4) fun t26 =>
 mV P C1 (loadAt 3 t26) fun t27 =>
 pV P (hNil s_0) fun t30 =>
 pV P (fieldAt 159 t30 0) fun t31 =>
 mV P C1 (loadAt 102 t31) fun t32 =>
 pV P (fieldAt 161 w_4 0) fun t33 =>
 mV P C1 (loadAt 3 t33) fun t34 =>
 pV P (fieldAt 161 w_4 1) fun t35 =>
 mV P C1 (loadAt 3 t35) fun t36 =>
 hAnd (hV P (buildSlice 64 1 #[(0, version_2)]) fun t9 =>
 hAnd C1 <| hAnd (hF P 151 #[t9] fun t10 =>
 hAnd C1 <| hAnd (hF P 150 #[t10, t12] fun t13 =>
 hAnd C1 <| hV P (buildSlice 64 3 #[(0, t15), (1, t17), (2, (.int .i64 0))]) fun t18 =>
 hAnd C1 <| hF P 151 #[t18] fun t19 =>
 hAnd C1 <| hV P (buildSlice 88 3 #[(0, t13), (1, t19), (2, (.slice none 0 0))]) fun t20 =>
 hAnd C1 <| hF P 149 #[s_0, t20] fun t21 =>
 hAnd C1 <| hF P 152 #[t25, t27] fun t28 =>
 hAnd C1 <| hF P 153 #[t32, t34, t36] fun t37 =>
 hAnd C1 <| hV P (buildSlice 64 3 #[(0, t28), (1, t37), (2, (.int .i64 0))]) fun t38 =>
 hAnd C1 <| hFV P t21 #[t38] fun t39 =>
 hAnd C1 <| R t39) (hV P (buildSlice 64 3 #[(0, t15), (1, t17), (2, (.int .i64 0))]) fun t18 =>
 hAnd C1 <| hF P 150 #[t10, t12] fun t13 =>
 hAnd C1 <| hF P 151 #[t18] fun t19 =>
 hAnd C1 <| hV P (buildSlice 88 3 #[(0, t13), (1, t19), (2, (.slice none 0 0))]) fun t20 =>
 hAnd C1 <| hF P 149 #[s_0, t20] fun t21 =>
 hAnd C1 <| hF P 152 #[t25, t27] fun t28 =>
 hAnd C1 <| hF P 153 #[t32, t34, t36] fun t37 =>
 hAnd C1 <| hV P (buildSlice 64 3 #[(0, t28), (1, t37), (2, (.int .i64 0))]) fun t38 =>
 hAnd C1 <| hFV P t21 #[t38] fun t39 =>
 hAnd C1 <| R t39)) (hV P (buildSlice 64 3 #[(0, t15), (1, t17), (2, (.int .i64 0))]) fun t18 =>
 hAnd C1 <| hF P 151 #[t9] fun t10 =>
 hAnd C1 <| hF P 150 #[t10, t12] fun t13 =>
 hAnd C1 <| hF P 151 #[t18] fun t19 =>
 hAnd C1 <| hV P (buildSlice 88 3 #[(0, t13), (1, t19), (2, (.slice none 0 0))]) fun t20 =>
 hAnd C1 <| hF P 149 #[s_0, t20] fun t21 =>
 hAnd C1 <| hF P 152 #[t25, t27] fun t28 =>
 hAnd C1 <| hF P 153 #[t32, t34, t36] fun t37 =>
 hAnd C1 <| hV P (buildSlice 64 3 #[(0, t28), (1, t37), (2, (.int .i64 0))]) fun t38 =>
 hAnd C1 <| hFV P t21 #[t38] fun t39 =>
 hAnd C1 <| R t39)) (hV P (buildSlice 64 3 #[(0, t15), (1, t17), (2, (.int .i64 0))]) fun t18 =>
 hAnd C1 <| hV P (buildSlice 64 1 #[(0, version_2)]) fun t9 =>
 hAnd C1 <| hF P 151 #[t9] fun t10 =>
 hAnd C1 <| hF P 150 #[t10, t12] fun t13 =>
 hAnd C1 <| hF P 151 #[t18] fun t19 =>
 hAnd C1 <| hV P (buildSlice 88 3 #[(0, t13), (1, t19), (2, (.slice none 0 0))]) fun t20 =>
 hAnd C1 <| hF P 149 #[s_0, t20] fun t21 =>
 hAnd C1 <| hF P 152 #[t25, t27] fun t28 =>
 hAnd C1 <| hF P 153 #[t32, t34, t36] fun t37 =>
 hAnd C1 <| hV P (buildSlice 64 3 #[(0, t28), (1, t37), (2, (.int .i64 0))]) fun t38 =>
 hAnd C1 <| hFV P t21 #[t38] fun t39 =>
 hAnd C1 <| R t39)
def S97 : Nat → Scr := scrOf [(1, .take 0 (.take 1 (.take 4 (.take 5 (.take 7 (.take 8 (.take 9 (.take 10 (.take 15 (.take 16 (.take 17 (.take 18 (.take 19 (.take 20 (.take 22 (.take 23 (.take 24 (.take 25 (.take 26 (.take 27 (.take 28 (.take 29 (.alt 2 (.alt 3 (.alt 6 (.alt 11 (.alt 12 (.alt 13 (.alt 14 (.alt 21 (.alt 30 (.alt 31 (.alt 32 (.take 33 (.done)) (.nil)) (.nil)) (.nil)) (.nil)) (.nil)) (.nil)) (.nil)) (.nil)) (.alt 11 (.alt 6 (.alt 12 (.alt 13 (.alt 14 (.alt 21 (.alt 30 (.alt 31 (.alt 32 (.take 33 (.done)) (.nil)) (.nil)) (.nil)) (.nil)) (.nil)) (.nil)) (.nil)) (.nil)) (.nil))) (.alt 11 (.alt 3 (.alt 6 (.alt 12 (.alt 13 (.alt 14 (.alt 21 (.alt 30 (.alt 31 (.alt 32 (.take 33 (.done)) (.nil)) (.nil)) (.nil)) (.nil)) (.nil)) (.nil)) (.nil)) (.nil)) (.nil)) (.nil))) (.alt 11 (.alt 2 (.alt 3 (.alt 6 (.alt 12 (.alt 13 (.alt 14 (.alt 21 (.alt 30 (.alt 31 (.alt 32 (.take 33 (.done)) (.nil)) (.nil)) (.nil)) (.nil)) (.nil)) (.nil)) (.nil)) (.nil)) (.nil)) (.nil)) (.nil)))))))))))))))))))))))))]
theorem E97 : (fun s_0 w_1 version_2 R w => den P S97 23 (bodyOf Go.Proofs.Tryz.f97) (retK P [.tmp 6] R) (frm0 [s_0, w_1, version_2]) w) = F97 := by kernel_rfl
theorem O97 : codeOk S97 Go.Proofs.Tryz.f97.ntmps (bodyOf Go.Proofs.Tryz.f97) = true := by kernel_rfl
theorem C97 {s_0 w_1 version_2 : Value} {w : World} {R : Value → World → Prop} (h : F97 s_0 w_1 version_2 R w) : Calls P 97 #[s_0, w_1, version_2] w (fun e w' => ∃ v, e = .returned v ∧ R v w') :=
  calls_of_den wide (scr := S97) (rs := [.tmp 6]) (args := [s_0, w_1, version_2]) (fn := Go.Proofs.Tryz.f97) 23 (by kernel_rfl) (by kernel_rfl) (by kernel_rfl) (by kernel_rfl) O97 (Eq.mpr (congrFun (congrFun (congrFun (congrFun (congrFun E97 s_0) w_1) version_2) R) w) h)
theorem H97 {s_0 w_1 version_2 : Value} {w : World} {R : Value → World → Prop} (h : F97 s_0 w_1 version_2 R w) : hF P 97 #[s_0, w_1, version_2] R w := hF_of (by kernel_rfl) (C97 h)
def F98 (s_0 b_1 : Value) (R : Value → World → Prop) : World → Prop :=
 hV P (hNil s_0) fun t11 =>
 hV P (fieldAt 159 t11 0) fun t12 =>
 hV P (loadAt 102 t12) fun t13 =>
 hF P 152 #[t13, b_1] fun t15 =>
 hF P 144 #[s_0, t15] fun t16 =>
 hF P 146 #[t16] fun t18 =>
 hV P (hNil s_0) fun t21 =>
 hV P (fieldAt 159 t21 0) fun t22 =>
 hV P (fieldAt 102 t22 1) fun t23 =>
 hV P (loadAt 3 t23) fun t24 =>
 hF P 147 #[t16, t24] fun t25 =>
 hV P (hNil t16) fun t27 =>
 hV P (fieldAt 226 t27 2) fun t28 =>
 hV P (loadAt 4 t28) fun t29 =>
 hV P (Op.unary .not t29) fun t30 =>
 hJ (fun (j33_2 : Value) =>
 hPick t30 (.bool true) j33_2 fun t34 =>
 hIf t34 (hDraw fun C3 =>
 pV P (hNil s_0) fun t36 =>
 pV P (fieldAt 159 t36 0) fun t37 =>
 pV P (fieldAt 102 t37 1) fun t38 =>
 mV P C3 (loadAt 3 t38) fun t39 =>
 hV P (makeSlice 35 t39 t39) fun t40 =>
 R (.tuple #[(.int .i64 0), t40])) (R (.tuple #[t18, t25]))) fun J4 =>
 hGuard t30 false (hV P (binOp .gtr 3 t18 (.int .i64 1000)) fun t33 =>
 J4 t33) (J4 undef)
def S98 : Nat → Scr := scrOf [(5, .take 0 (.take 1 (.take 2 (.take 3 (.take 4 (.take 6 (.sink 5 (.take 7 (.done)))))))))]
theorem E98 : (fun s_0 b_1 R w => den P S98 29 (bodyOf Go.Proofs.Tryz.f98) (retK P [.tmp 4, .tmp 5] R) (frm0 [s_0, b_1]) w) = F98 := by kernel_rfl
theorem O98 : codeOk S98 Go.Proofs.Tryz.f98.ntmps (bodyOf Go.Proofs.Tryz.f98) = true := by kernel_rfl
theorem C98 {s_0 b_1 : Value} {w : World} {R : Value → World → Prop} (h : F98 s_0 b_1 R w) : Calls P 98 #[s_0, b_1] w (fun e w' => ∃ v, e = .returned v ∧ R v w') :=
  calls_of_den wide (scr := S98) (rs := [.tmp 4, .tmp 5]) (args := [s_0, b_1]) (fn := Go.Proofs.Tryz.f98) 29 (by kernel_rfl) (by kernel_rfl) (by kernel_rfl) (by kernel_rfl) O98 (Eq.mpr (congrFun (congrFun (congrFun (congrFun E98 s_0) b_1) R) w) h)
theorem H98 {s_0 b_1 : Value} {w : World} {R : Value → World → Prop} (h : F98 s_0 b_1 R w) : hF P 98 #[s_0, b_1] R w := hF_of (by kernel_rfl) (C98 h)
def F99 (s_0 : Value) (R : Value → World → Prop) : World → Prop :=
 hV P (eqG true .eql 35 s_0 (.slice none 0 0)) fun t4 =>
 hIf t4 (R (.slice none 0 0)) (hV P (buildSlice 35 0 #[]) fun t5 =>
 hV P (Builtin.append_ #[35, 35] 35 #[t5, s_0]) fun t7 =>
 R t7)
def S99 : Nat → Scr := scrOf []
theorem E99 : (fun s_0 R w => den P S99 26 (bodyOf Go.Proofs.Tryz.f99) (retK P [.tmp 2] R) (frm0 [s_0]) w) = F99 := by kernel_rfl
theorem O99 : codeOk S99 Go.Proofs.Tryz.f99.ntmps (bodyOf Go.Proofs.Tryz.f99) = true := by kernel_rfl
theorem C99 {s_0 : Value} {w : World} {R : Value → World → Prop} (h : F99 s_0 R w) : Calls P 99 #[s_0] w (fun e w' => ∃ v, e = .returned v ∧ R v w') :=
  calls_of_den wide (scr := S99) (rs := [.tmp 2]) (args := [s_0]) (fn := Go.Proofs.Tryz.f99) 26 (by kernel_rfl) (by kernel_rfl) (by kernel_rfl) (by kernel_rfl) O99 (Eq.mpr (congrFun (congrFun (congrFun E99 s_0) R) w) h)
theorem H99 {s_0 : Value} {w : World} {R : Value → World → Prop} (h : F99 s_0 R w) : hF P 99 #[s_0] R w := hF_of (by kernel_rfl) (C99 h)
def F100 (kind_0 : Value) (R : Value → World → Prop) : World → Prop :=
 hV P (binOp .lss 3 kind_0 (.int .i64 1)) fun t4 =>
 hJ (fun (j7_2 : Value) =>
 hPick t4 (.bool true) j7_2 fun t8 =>
 hIf t8 (R (.int .u64 0)) (hF P 154 #[] fun t9 =>
 hV P (Instr.index 232 t9 kind_0) fun t11 =>
 R t11)) fun J3 =>
 hGuard t4 false (hV P (binOp .gtr 3 kind_0 (.int .i64 14)) fun t7 =>
 J3 t7) (J3 undef)
def S100 : Nat → Scr := scrOf []
theorem E100 : (fun kind_0 R w => den P S100 26 (bodyOf Go.Proofs.Tryz.f100) (retK P [.tmp 2] R) (frm0 [kind_0]) w) = F100 := by kernel_rfl
theorem O100 : codeOk S100 Go.Proofs.Tryz.f100.ntmps (bodyOf Go.Proofs.Tryz.f100) = true := by kernel_rfl
theorem C100 {kind_0 : Value} {w : World} {R : Value → World → Prop} (h : F100 kind_0 R w) : Calls P 100 #[kind_0] w (fun e w' => ∃ v, e = .returned v ∧ R v w') :=
  calls_of_den wide (scr := S100) (rs := [.tmp 2]) (args := [kind_0]) (fn := Go.Proofs.Tryz.f100) 26 (by kernel_rfl) (by kernel_rfl) (by kernel_rfl) (by kernel_rfl) O100 (Eq.mpr (congrFun (congrFun (congrFun E100 kind_0) R) w) h)
theorem H100 {kind_0 : Value} {w : World} {R : Value → World → Prop} (h : F100 kind_0 R w) : hF P 100 #[kind_0] R w := hF_of (by kernel_rfl) (C100 h)
def F101 (m_0 f_1 : Value) (R : Value → World → Prop) : World → Prop :=
 hV P (eqG true .eql 3 f_1 (.int .i64 8)) fun t11 =>
 hIf t11 (hV P (hNil m_0) fun t13 =>
 hV P (fieldAt 37 t13 8) fun t14 =>
 hV P (loadAt 32 t14) fun t15 =>
 hV P (binOp .geq 3 t15 (.int .i64 0)) fun t17 =>
 hJ (fun (j20_2 : Value) =>
 hPick t17 j20_2 (.bool false) fun t21 =>
 hV P (eqG true .eql 3 t15 (.int .i64 0)) fun t23 =>
 R (.tuple #[t21, t23])) fun J3 =>
 hGuard t17 true (hV P (binOp .leq 3 t15 (.int .i64 16)) fun t20 =>
 J3 t20) (J3 undef)) (hV P (eqG true .eql 3 f_1 (.int .i64 9)) fun t25 =>
 hIf t25 (hDraw fun C4 =>
 pV P (hNil m_0) fun t27 =>
 pV P (fieldAt 37 t27 9) fun t28 =>
 mV P C4 (loadAt 4 t28) fun t29 =>
 pV P (Op.unary .not t29) fun t30 =>
 R (.tuple #[(.bool true), t30])) (hV P (eqG true .eql 3 f_1 (.int .i64 10)) fun t32 =>
 hIf t32 (hDraw fun C5 =>
 pV P (hNil m_0) fun t34 =>
 pV P (fieldAt 37 t34 10) fun t35 =>
 mV P C5 (loadAt 35 t35) fun t36 =>
 mV P C5 (Builtin.len_ #[35] 3 #[t36]) fun t37 =>
 pV P (binOp .leq 3 t37 (.int .i64 64)) fun t38 =>
 pV P (hNil m_0) fun t40 =>
 pV P (fieldAt 37 t40 10) fun t41 =>
 mV P C5 (loadAt 35 t41) fun t42 =>
 mV P C5 (Builtin.len_ #[35] 3 #[t42]) fun t43 =>
 pV P (eqG true .eql 3 t43 (.int .i64 0)) fun t44 =>
 R (.tuple #[t38, t44])) (hF P 155 #[m_0, f_1] fun t48 =>
 hV P (extract t48 0) fun t49 =>
 hV P (extract t48 1) fun t50 =>
 hDraw fun C6 =>
 pV P (hNil t49) fun t52 =>
 mV P C6 (loadAt 3 t52) fun t53 =>
 pV P (binOp .geq 3 t53 (.int .i64 0)) fun t54 =>
 hJ (fun (j60_11 : Value) =>
 hPick t54 j60_11 (.bool false) fun t61 =>
 pV P (hNil t49) fun t63 =>
 mV P C6 (loadAt 3 t63) fun t64 =>
 pV P (eqG true .eql 3 t64 (.int .i64 0)) fun t65 =>
 R (.tuple #[t61, t65])) fun J12 =>
 hGuard t54 true (pV P (hNil t49) fun t57 =>
 mV P C6 (loadAt 3 t57) fun t58 =>
 pV P (binOp .leq 3 t58 t50) fun t60 =>
 J12 t60) (J12 undef))))
def S101 : Nat → Scr := scrOf [(6, .take 0 (.take 1 (.take 2 (.take 3 (.take 4 (.take 5 (.take 6 (.done)))))))), (8, .take 0 (.take 1 (.take 2 (.take 3 (.take 4 (.take 5 (.take 6 (.take 7 (.take 8 (.take 9 (.take 10 (.take 11 (.take 12 (.take 13 (.done))))))))))))))), (10, .take 0 (.take 1 (.take 2 (.take 3 (.take 4 (.take 5 (.take 6 (.take 7 (.take 8 (.take 9 (.take 10 (.take 11 (.take 12 (.take 13 (.take 14 (.take 15 (.take 16 (.done))))))))))))))))))]
theorem E101 : (fun m_0 f_1 R w => den P S101 32 (bodyOf Go.Proofs.Tryz.f101) (retK P [.tmp 4, .tmp 5] R) (frm0 [m_0, f_1]) w) = F101 := by kernel_rfl
theorem O101 : codeOk S101 Go.Proofs.Tryz.f101.ntmps (bodyOf Go.Proofs.Tryz.f101) = true := by kernel_rfl
theorem C101 {m_0 f_1 : Value} {w : World} {R : Value → World → Prop} (h : F101 m_0 f_1 R w) : Calls P 101 #[m_0, f_1] w (fun e w' => ∃ v, e = .returned v ∧ R v w') :=
  calls_of_den wide (scr := S101) (rs := [.tmp 4, .tmp 5]) (args := [m_0, f_1]) (fn := Go.Proofs.Tryz.f101) 32 (by kernel_rfl) (by kernel_rfl) (by kernel_rfl) (by kernel_rfl) O101 (Eq.mpr (congrFun (congrFun (congrFun (congrFun E101 m_0) f_1) R) w) h)
theorem H101 {m_0 f_1 : Value} {w : World} {R : Value → World → Prop} (h : F101 m_0 f_1 R w) : hF P 101 #[m_0, f_1] R w := hF_of (by kernel_rfl) (C101 h)
def F102 (c_0 block_1 : Value) (R : Value → World → Prop) : World → Prop :=
 hF P 156 #[c_0, block_1] fun t8 =>
 hV P (Op.unary .not t8) fun t9 =>
 hIf t9 (R (.tuple #[(.slice none 0 0), (.bool false)])) (hV P (hNil c_0) fun t11 =>
 hV P (fieldAt 157 t11 2) fun t12 =>
 hV P (loadAt 153 t12) fun t13 =>
 hI P t13 "Use" #[block_1] fun t15 =>
 hV P (hNil c_0) fun t17 =>
 hV P (fieldAt 157 t17 3) fun t18 =>
 hV P (loadAt 155 t18) fun t19 =>
 hV P (lookup 155 t19 block_1 false) fun t21 =>
 hF P 99 #[t21] fun t22 =>
 R (.tuple #[t22, (.bool true)]))
def S102 : Nat → Scr := scrOf []
theorem E102 : (fun c_0 block_1 R w => den P S102 26 (bodyOf Go.Proofs.Tryz.f102) (retK P [.tmp 4, .tmp 5] R) (frm0 [c_0, block_1]) w) = F102 := by kernel_rfl
theorem O102 : codeOk S102 Go.Proofs.Tryz.f102.ntmps (bodyOf Go.Proofs.Tryz.f102) = true := by kernel_rfl
theorem C102 {c_0 block_1 : Value} {w : World} {R : Value → World → Prop} (h : F102 c_0 block_1 R w) : Calls P 102 #[c_0, block_1] w (fun e w' => ∃ v, e = .returned v ∧ R v w') :=
  calls_of_den wide (scr := S102) (rs := [.tmp 4, .tmp 5]) (args := [c_0, block_1]) (fn := Go.Proofs.Tryz.f102) 26 (by kernel_rfl) (by kernel_rfl) (by kernel_rfl) (by kernel_rfl) O102 (Eq.mpr (congrFun (congrFun (congrFun (congrFun E102 c_0) block_1) R) w) h)
theorem H102 {c_0 block_1 : Value} {w : World} {R : Value → World → Prop} (h : F102 c_0 block_1 R w) : hF P 102 #[c_0, block_1] R w := hF_of (by kernel_rfl) (C102 h)
def F103 (a_0 block_1 level_2 data_3 : Value) (R : Value → World → Prop) : World → Prop :=
 hV P (hNil a_0) fun t10 =>
 hV P (fieldAt 105 t10 0) fun t11 =>
 hV P (fieldAt 25 t11 4) fun t12 =>
 hV P (loadAt 3 t12) fun t13 =>
 hV P (eqG true .neq 3 t13 (.int .i64 2)) fun t14 =>
 hJ (fun (j26_29 : Value) =>
 hPick t14 (.bool true) j26_29 fun t27 =>
 hIf t27 (hF P 105 #[a_0, block_1, level_2, data_3] fun t32 =>
 R t32) (hV P (hNil a_0) fun t34 =>
 hV P (fieldAt 105 t34 2) fun t35 =>
 hV P (loadAt 95 t35) fun t36 =>
 hF P 106 #[t36, block_1] fun t38 =>
 R (.slice none 0 0))) fun J30 =>
 hGuard t14 false (hV P (eqG true .eql 3 level_2 (.int .i64 3)) fun t17 =>
 hJ (fun (j25_7 : Value) =>
 hGuard t14 false (hPick t17 j25_7 (.bool false) fun t26 =>
 J30 t26) (J30 undef)) fun J9 =>
 hGuard t17 true (hV P (hNil a_0) fun t20 =>
 hV P (fieldAt 105 t20 2) fun t21 =>
 hV P (loadAt 95 t21) fun t22 =>
 hF P 157 #[t22, block_1, level_2] fun t25 =>
 J9 t25) (J9 undef)) (hJ (fun (j25_16 : Value) =>
 hGuard t14 false (hPick undef j25_16 (.bool false) fun t26 =>
 J30 t26) (J30 undef)) fun J18 =>
 hGuard undef true (hV P (hNil a_0) fun t20 =>
 hV P (fieldAt 105 t20 2) fun t21 =>
 hV P (loadAt 95 t21) fun t22 =>
 hF P 157 #[t22, block_1, level_2] fun t25 =>
 J18 t25) (J18 undef))
def S103 : Nat → Scr := scrOf []
theorem E103 : (fun a_0 block_1 level_2 data_3 R w => den P S103 26 (bodyOf Go.Proofs.Tryz.f103) (retK P [.tmp 8] R) (frm0 [a_0, block_1, level_2, data_3]) w) = F103 := by kernel_rfl
theorem O103 : codeOk S103 Go.Proofs.Tryz.f103.ntmps (bodyOf Go.Proofs.Tryz.f103) = true := by kernel_rfl
theorem C103 {a_0 block_1 level_2 data_3 : Value} {w : World} {R : Value → World → Prop} (h : F103 a_0 block_1 level_2 data_3 R w) : Calls P 103 #[a_0, block_1, level_2, data_3] w (fun e w' => ∃ v, e = .returned v ∧ R v w') :=
  calls_of_den wide (scr := S103) (rs := [.tmp 8]) (args := [a_0, block_1, level_2, data_3]) (fn := Go.Proofs.Tryz.f103) 26 (by kernel_rfl) (by kernel_rfl) (by kernel_rfl) (by kernel_rfl) O103 (Eq.mpr (congrFun (congrFun (congrFun (congrFun (congrFun (congrFun E103 a_0) block_1) level_2) data_3) R) w) h)
theorem H103 {a_0 block_1 level_2 data_3 : Value} {w : World} {R : Value → World → Prop} (h : F103 a_0 block_1 level_2 data_3 R w) : hF P 103 #[a_0, block_1, level_2, data_3] R w := hF_of (by kernel_rfl) (C103 h)
end Go.Gd
set_option maxRecDepth 100000
set_option linter.unusedVariables false
namespace Go.Gd
open Go.Instr
def F138 (n_0 least_1 most_2 : Value) (R : Value → World → Prop) : World → Prop :=
 hV P (binOp .geq 3 n_0 least_1) fun t9 =>
 hGuard t9 true (hV P (binOp .leq 3 n_0 most_2) fun t13 =>
 hPick t9 t13 (.bool false) fun t14 =>
 R t14) (hPick t9 undef (.bool false) fun t14 =>
 R t14)
def S138 : Nat → Scr := scrOf []
theorem E138 : (fun n_0 least_1 most_2 R w => den P S138 23 (bodyOf Go.Proofs.Tryz.f138) (retK P [.tmp 6] R) (frm0 [n_0, least_1, most_2]) w) = F138 := by kernel_rfl
theorem O138 : codeOk S138 Go.Proofs.Tryz.f138.ntmps (bodyOf Go.Proofs.Tryz.f138) = true := by kernel_rfl
theorem C138 {n_0 least_1 most_2 : Value} {w : World} {R : Value → World → Prop} (h : F138 n_0 least_1 most_2 R w) : Calls P 138 #[n_0, least_1, most_2] w (fun e w' => ∃ v, e = .returned v ∧ R v w') :=
  calls_of_den wide (scr := S138) (rs := [.tmp 6]) (args := [n_0, least_1, most_2]) (fn := Go.Proofs.Tryz.f138) 23 (by kernel_rfl) (by kernel_rfl) (by kernel_rfl) (by kernel_rfl) O138 (Eq.mpr (congrFun (congrFun (congrFun (congrFun (congrFun E138 n_0) least_1) most_2) R) w) h)
theorem H138 {n_0 least_1 most_2 : Value} {w : World} {R : Value → World → Prop} (h : F138 n_0 least_1 most_2 R w) : hF P 138 #[n_0, least_1, most_2] R w := hF_of (by kernel_rfl) (C138 h)
def F139 (l_0 blocks_1 : Value) (R : Value → World → Prop) : World → Prop :=
 hV P (alloc 116 true (.tuple #[])) fun met_5 =>
 hV P (Builtin.len_ #[23] 3 #[l_0]) fun t10 =>
 hLoop2 (.int .i64 0) (.bool false) fun t11_1 t4_2 g3 next4 =>
 hV P (binOp .lss 3 t11_1 t10) fun t12 =>
 hIf t12 (hV P (indexAt 23 l_0 t11_1) fun t13 =>
 hV P (loadAt 114 t13) fun t14 =>
 hV P (alloc 114 true (.tuple #[])) fun h_7 =>
 hU P (storeAt 114 h_7 t14) <|
 hV P (fieldAt 114 h_7 0) fun t15 =>
 hV P (loadAt 3 t15) fun t16 =>
 hV P (binOp .lss 3 t16 (.int .i64 0)) fun t17 =>
 hJ (fun (j21_7 : Value) =>
 hPick t17 (.bool true) j21_7 fun t22 =>
 hJ (fun (j27_11 : Value) =>
 hPick t22 (.bool true) j27_11 fun t28 =>
 hJ (fun (j36_18 : Value) =>
 hPick t28 (.bool true) j36_18 fun t37 =>
 hJ (fun (j44_24 : Value) =>
 hPick t37 (.bool true) j44_24 fun t45 =>
 hJ (fun (j50_28 : Value) =>
 hPick t45 (.bool true) j50_28 fun t51 =>
 hIf t51 (R (.bool false)) (hV P (fieldAt 114 h_7 1) fun t52 =>
 hV P (loadAt 3 t52) fun t53 =>
 hLoop2 (.int .i64 0) t4_2 fun t54_29 t4_30 g31 next32 =>
 hV P (binOp .lss 3 t54_29 t53) fun t55 =>
 hIf t55 (hV P (fieldAt 114 h_7 0) fun t57 =>
 hV P (loadAt 3 t57) fun t58 =>
 hV P (binOp .add 3 t58 t54_29) fun t60 =>
 hV P (indexAt 116 met_5 t60) fun t61 =>
 hV P (loadAt 4 t61) fun t62 =>
 hIf t62 (R (.bool false)) (hV P (fieldAt 114 h_7 0) fun t63 =>
 hV P (loadAt 3 t63) fun t64 =>
 hV P (binOp .add 3 t64 t54_29) fun t66 =>
 hV P (indexAt 116 met_5 t66) fun t67 =>
 hU P (storeAt 4 t67 (.bool true)) <|
 hV P (binOp .add 3 t54_29 (.int .i64 1)) fun t68 =>
 next32 t68 t4_30)) (hV P (binOp .add 3 t11_1 (.int .i64 1)) fun t69 =>
 next4 t69 t4_30))) fun J33 =>
 hGuard t45 false (hV P (fieldAt 114 h_7 2) fun t47 =>
 hV P (loadAt 3 t47) fun t48 =>
 hF P 138 #[t48, (.int .i64 0), (.int .i64 2147483647)] fun t49 =>
 hV P (Op.unary .not t49) fun t50 =>
 J33 t50) (J33 undef)) fun J34 =>
 hGuard t37 false (hV P (fieldAt 114 h_7 0) fun t39 =>
 hV P (loadAt 3 t39) fun t40 =>
 hV P (fieldAt 114 h_7 1) fun t41 =>
 hV P (loadAt 3 t41) fun t42 =>
 hV P (binOp .add 3 t40 t42) fun t43 =>
 hV P (binOp .gtr 3 t43 (.int .i64 32)) fun t44 =>
 J34 t44) (J34 undef)) fun J35 =>
 hGuard t28 false (hV P (fieldAt 114 h_7 1) fun t30 =>
 hV P (loadAt 3 t30) fun t31 =>
 hV P (fieldAt 114 h_7 0) fun t33 =>
 hV P (loadAt 3 t33) fun t34 =>
 hV P (binOp .sub 3 blocks_1 t34) fun t35 =>
 hV P (binOp .gtr 3 t31 t35) fun t36 =>
 J35 t36) (J35 undef)) fun J36 =>
 hGuard t22 false (hV P (fieldAt 114 h_7 0) fun t24 =>
 hV P (loadAt 3 t24) fun t25 =>
 hV P (binOp .gtr 3 t25 blocks_1) fun t27 =>
 J36 t27) (J36 undef)) fun J37 =>
 hGuard t17 false (hV P (fieldAt 114 h_7 1) fun t19 =>
 hV P (loadAt 3 t19) fun t20 =>
 hV P (binOp .lss 3 t20 (.int .i64 1)) fun t21 =>
 J37 t21) (J37 undef)) (hV P (Builtin.len_ #[23] 3 #[l_0]) fun t71 =>
 hV P (binOp .leq 3 t71 (.int .i64 8)) fun t72 =>
 R t72)
def S139 : Nat → Scr := scrOf [(999999, .take 8 (.done))]
theorem E139 : (fun l_0 blocks_1 R w => den P S139 45 (bodyOf Go.Proofs.Tryz.f139) (retK P [.tmp 4] R) (frm0 [l_0, blocks_1]) w) = F139 := by kernel_rfl
theorem O139 : codeOk S139 Go.Proofs.Tryz.f139.ntmps (bodyOf Go.Proofs.Tryz.f139) = true := by kernel_rfl
theorem C139 {l_0 blocks_1 : Value} {w : World} {R : Value → World → Prop} (h : F139 l_0 blocks_1 R w) : Calls P 139 #[l_0, blocks_1] w (fun e w' => ∃ v, e = .returned v ∧ R v w') :=
  calls_of_den wide (scr := S139) (rs := [.tmp 4]) (args := [l_0, blocks_1]) (fn := Go.Proofs.Tryz.f139) 45 (by kernel_rfl) (by kernel_rfl) (by kernel_rfl) (by kernel_rfl) O139 (Eq.mpr (congrFun (congrFun (congrFun (congrFun E139 l_0) blocks_1) R) w) h)
theorem H139 {l_0 blocks_1 : Value} {w : World} {R : Value → World → Prop} (h : F139 l_0 blocks_1 R w) : hF P 139 #[l_0, blocks_1] R w := hF_of (by kernel_rfl) (C139 h)
def F140 (l_0 blocks_1 caps_2 : Value) (R : Value → World → Prop) : World → Prop :=
 hV P (box 22 caps_2) fun caps_5 =>
 hV P (loadAt 22 caps_5) fun t12 =>
 hLoop3 (.int .i64 0) (.pointer none) (.int .i64 0) fun t13_1 t6_2 t7_3 g4 next5 =>
 hV P (binOp .lss 3 t13_1 (.int .i64 3)) fun t14 =>
 hIf t14 (hV P (Instr.index 22 t12 t13_1) fun t15 =>
 hV P (binOp .lss 3 t15 (.int .i64 1)) fun t17 =>
 hJ (fun (j20_7 : Value) =>
 hPick t17 (.bool true) j20_7 fun t21 =>
 hIf t21 (R (.tuple #[(.pointer none), (.int .i64 6)])) (hV P (binOp .add 3 t13_1 (.int .i64 1)) fun t22 =>
 next5 t22 t6_2 t7_3)) fun J8 =>
 hGuard t17 false (hV P (binOp .gtr 3 t15 (.int .i64 16)) fun t20 =>
 J8 t20) (J8 undef)) (hV P (binOp .lss 3 blocks_1 (.int .i64 1)) fun t24 =>
 hJ (fun (j27_10 : Value) =>
 hPick t24 (.bool true) j27_10 fun t28 =>
 hIf t28 (R (.tuple #[(.pointer none), (.int .i64 6)])) (hV P (loadAt 22 caps_5) fun t30 =>
 hV P (build 255 #[(0, blocks_1), (1, t30)]) fun t31 =>
 hV P (box 255 t31) fun t32 =>
 hF P 183 #[t32, l_0] fun t35 =>
 hV P (eqG true .neq 32 t35 (.int .i64 0)) fun t37 =>
 hIf t37 (R (.tuple #[(.pointer none), t35])) (R (.tuple #[t32, (.int .i64 0)])))) fun J11 =>
 hGuard t24 false (hV P (binOp .gtr 3 blocks_1 (.int .i64 32)) fun t27 =>
 J11 t27) (J11 undef))
def S140 : Nat → Scr := scrOf [(999999, .take 9 (.done))]
theorem E140 : (fun l_0 blocks_1 caps_2 R w => den P S140 34 (bodyOf Go.Proofs.Tryz.f140) (retK P [.tmp 6, .tmp 7] R) (frm0 [l_0, blocks_1, caps_2]) w) = F140 := by kernel_rfl
theorem O140 : codeOk S140 Go.Proofs.Tryz.f140.ntmps (bodyOf Go.Proofs.Tryz.f140) = true := by kernel_rfl
theorem C140 {l_0 blocks_1 caps_2 : Value} {w : World} {R : Value → World → Prop} (h : F140 l_0 blocks_1 caps_2 R w) : Calls P 140 #[l_0, blocks_1, caps_2] w (fun e w' => ∃ v, e = .returned v ∧ R v w') :=
  calls_of_den wide (scr := S140) (rs := [.tmp 6, .tmp 7]) (args := [l_0, blocks_1, caps_2]) (fn := Go.Proofs.Tryz.f140) 34 (by kernel_rfl) (by kernel_rfl) (by kernel_rfl) (by kernel_rfl) O140 (Eq.mpr (congrFun (congrFun (congrFun (congrFun (congrFun E140 l_0) blocks_1) caps_2) R) w) h)
theorem H140 {l_0 blocks_1 caps_2 : Value} {w : World} {R : Value → World → Prop} (h : F140 l_0 blocks_1 caps_2 R w) : hF P 140 #[l_0, blocks_1, caps_2] R w := hF_of (by kernel_rfl) (C140 h)
def F141 (p_0 tier_1 : Value) (R : Value → World → Prop) : World → Prop :=
 hV P (eqG true .eql 207 p_0 (.pointer none)) fun t8 =>
 hIf t8 (R (.tuple #[(.pointer none), (.int .i64 7)])) (hV P (binOp .lss 3 tier_1 (.int .i64 1)) fun t11 =>
 hJ (fun (j14_2 : Value) =>
 hPick t11 (.bool true) j14_2 fun t15 =>
 hIf t15 (R (.tuple #[(.pointer none), (.int .i64 6)])) (hF P 185 #[p_0] fun t17 =>
 hV P (Builtin.len_ #[253] 3 #[t17]) fun t18 =>
 hV P (binOp .add 3 t18 (.int .i64 1)) fun t19 =>
 hF P 184 #[t19] fun t20 =>
 hV P (build 261 #[(0, t20)]) fun t21 =>
 hV P (build 263 #[(0, t21), (1, p_0), (2, tier_1)]) fun t24 =>
 hV P (box 263 t24) fun t25 =>
 R (.tuple #[t25, (.int .i64 0)]))) fun J3 =>
 hGuard t11 false (hV P (binOp .gtr 3 tier_1 (.int .i64 3)) fun t14 =>
 J3 t14) (J3 undef))
def S141 : Nat → Scr := scrOf []
theorem E141 : (fun p_0 tier_1 R w => den P S141 29 (bodyOf Go.Proofs.Tryz.f141) (retK P [.tmp 4, .tmp 5] R) (frm0 [p_0, tier_1]) w) = F141 := by kernel_rfl
theorem O141 : codeOk S141 Go.Proofs.Tryz.f141.ntmps (bodyOf Go.Proofs.Tryz.f141) = true := by kernel_rfl
theorem C141 {p_0 tier_1 : Value} {w : World} {R : Value → World → Prop} (h : F141 p_0 tier_1 R w) : Calls P 141 #[p_0, tier_1] w (fun e w' => ∃ v, e = .returned v ∧ R v w') :=
  calls_of_den wide (scr := S141) (rs := [.tmp 4, .tmp 5]) (args := [p_0, tier_1]) (fn := Go.Proofs.Tryz.f141) 29 (by kernel_rfl) (by kernel_rfl) (by kernel_rfl) (by kernel_rfl) O141 (Eq.mpr (congrFun (congrFun (congrFun (congrFun E141 p_0) tier_1) R) w) h)
theorem H141 {p_0 tier_1 : Value} {w : World} {R : Value → World → Prop} (h : F141 p_0 tier_1 R w) : hF P 141 #[p_0, tier_1] R w := hF_of (by kernel_rfl) (C141 h)
def F142 (s_0 : Value) (R : Value → World → Prop) : World → Prop :=
 hV P (box 217 s_0) fun s_1 =>
 hV P (loadAt 217 s_1) fun t4 =>
 hF P 186 #[t4] fun t5 =>
 hV P (Op.unary .not t5) fun t6 =>
 hIf t6 (R (.tuple #[(.pointer none), (.int .i64 6)])) (hDraw fun C1 =>
 pV P (fieldAt 217 s_1 1) fun t7 =>
 mV P C1 (loadAt 3 t7) fun t8 =>
 pV P (binOp .add 3 t8 (.int .i64 1)) fun t9 =>
 mV P C1 (loadAt 217 s_1) fun t12 =>
 hF P 184 #[t9] fun t10 =>
 hAnd C1 <| pV P (build 264 #[(0, t10)]) fun t11 =>
 pV P (build 267 #[(0, t11), (1, t12)]) fun t13 =>
 hV P (box 267 t13) fun t14 =>
 hAnd C1 <| R (.tuple #[t14, (.int .i64 0)]))
def S142 : Nat → Scr := scrOf [(3, .take 0 (.take 1 (.take 2 (.take 5 (.alt 3 (.take 4 (.take 6 (.alt 7 (.take 8 (.take 9 (.done))) (.nil)))) (.nil))))))]
theorem E142 : (fun s_0 R w => den P S142 26 (bodyOf Go.Proofs.Tryz.f142) (retK P [.tmp 2, .tmp 3] R) (frm0 [s_0]) w) = F142 := by kernel_rfl
theorem O142 : codeOk S142 Go.Proofs.Tryz.f142.ntmps (bodyOf Go.Proofs.Tryz.f142) = true := by kernel_rfl
theorem C142 {s_0 : Value} {w : World} {R : Value → World → Prop} (h : F142 s_0 R w) : Calls P 142 #[s_0] w (fun e w' => ∃ v, e = .returned v ∧ R v w') :=
  calls_of_den wide (scr := S142) (rs := [.tmp 2, .tmp 3]) (args := [s_0]) (fn := Go.Proofs.Tryz.f142) 26 (by kernel_rfl) (by kernel_rfl) (by kernel_rfl) (by kernel_rfl) O142 (Eq.mpr (congrFun (congrFun (congrFun E142 s_0) R) w) h)
theorem H142 {s_0 : Value} {w : World} {R : Value → World → Prop} (h : F142 s_0 R w) : hF P 142 #[s_0] R w := hF_of (by kernel_rfl) (C142 h)
def F143 (capacity_0 : Value) (R : Value → World → Prop) : World → Prop :=
 hF P 184 #[(.int .i64 1)] fun t3 =>
 hV P (build 268 #[(0, t3)]) fun t4 =>
 hV P (Builtin.min_ #[3, 3] 3 #[capacity_0, (.int .i64 16)]) fun t6 =>
 hV P (Builtin.max_ #[3, 3] 3 #[(.int .i64 1), t6]) fun t7 =>
 hV P (build 270 #[(0, t4), (1, t7)]) fun t8 =>
 hV P (box 270 t8) fun t9 =>
 R t9
def S143 : Nat → Scr := scrOf []
theorem E143 : (fun capacity_0 R w => den P S143 23 (bodyOf Go.Proofs.Tryz.f143) (retK P [.tmp 2] R) (frm0 [capacity_0]) w) = F143 := by kernel_rfl
theorem O143 : codeOk S143 Go.Proofs.Tryz.f143.ntmps (bodyOf Go.Proofs.Tryz.f143) = true := by kernel_rfl
theorem C143 {capacity_0 : Value} {w : World} {R : Value → World → Prop} (h : F143 capacity_0 R w) : Calls P 143 #[capacity_0] w (fun e w' => ∃ v, e = .returned v ∧ R v w') :=
  calls_of_den wide (scr := S143) (rs := [.tmp 2]) (args := [capacity_0]) (fn := Go.Proofs.Tryz.f143) 23 (by kernel_rfl) (by kernel_rfl) (by kernel_rfl) (by kernel_rfl) O143 (Eq.mpr (congrFun (congrFun (congrFun E143 capacity_0) R) w) h)
theorem H143 {capacity_0 : Value} {w : World} {R : Value → World → Prop} (h : F143 capacity_0 R w) : hF P 143 #[capacity_0] R w := hF_of (by kernel_rfl) (C143 h)
def F144 (s_0 at_1 : Value) (R : Value → World → Prop) : World → Prop :=
 hV P (hNil s_0) fun t9 =>
 hV P (fieldAt 159 t9 1) fun t10 =>
 hV P (loadAt 29 t10) fun t11 =>
 hF P 187 #[t11, at_1] fun t13 =>
 hV P (extract t13 0) fun t14 =>
 hV P (extract t13 1) fun t15 =>
 hV P (build 226 #[(0, t14), (2, (.bool true))]) fun t17 =>
 hV P (box 226 t17) fun t18 =>
 R t18
def S144 : Nat → Scr := scrOf []
theorem E144 : (fun s_0 at_1 R w => den P S144 24 (bodyOf Go.Proofs.Tryz.f144) (retK P [.tmp 4] R) (frm0 [s_0, at_1]) w) = F144 := by kernel_rfl
theorem O144 : codeOk S144 Go.Proofs.Tryz.f144.ntmps (bodyOf Go.Proofs.Tryz.f144) = true := by kernel_rfl
theorem C144 {s_0 at_1 : Value} {w : World} {R : Value → World → Prop} (h : F144 s_0 at_1 R w) : Calls P 144 #[s_0, at_1] w (fun e w' => ∃ v, e = .returned v ∧ R v w') :=
  calls_of_den wide (scr := S144) (rs := [.tmp 4]) (args := [s_0, at_1]) (fn := Go.Proofs.Tryz.f144) 24 (by kernel_rfl) (by kernel_rfl) (by kernel_rfl) (by kernel_rfl) O144 (Eq.mpr (congrFun (congrFun (congrFun (congrFun E144 s_0) at_1) R) w) h)
theorem H144 {s_0 at_1 : Value} {w : World} {R : Value → World → Prop} (h : F144 s_0 at_1 R w) : hF P 144 #[s_0, at_1] R w := hF_of (by kernel_rfl) (C144 h)
end Go.Gd
