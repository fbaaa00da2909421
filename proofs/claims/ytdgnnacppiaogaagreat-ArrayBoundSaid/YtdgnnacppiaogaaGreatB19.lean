/- PRINTED by a program of mine (hoas.py): the plain reading of the functions named, each with its equation and the way into it. -/
import Derived.Test.YtdgnnacppiaogaaGreatB2
set_option linter.unusedVariables false
set_option linter.unusedSimpArgs false
set_option maxRecDepth 100000
set_option linter.unusedVariables false
namespace Go.Gd
open Go.Instr
def F286 (m_0 block_1 : Value) (R : Value → World → Prop) : World → Prop :=
 hF P 283 #[m_0, block_1] fun t7 =>
 hV P (Op.unary .not t7) fun t8 =>
 hIf t8 (R (.bool false)) (hV P (hNil m_0) fun t10 =>
 hV P (fieldAt 267 t10 2) fun t11 =>
 hV P (loadAt 3 t11) fun t12 =>
 hV P (binOp .add 3 t12 (.int .i64 1)) fun t13 =>
 hV P (hNil m_0) fun t14 =>
 hV P (fieldAt 267 t14 2) fun t15 =>
 hU P (storeAt 3 t15 t13) <|
 hDraw fun C1 =>
 pV P (hNil m_0) fun t18 =>
 pV P (fieldAt 267 t18 3) fun t19 =>
 pV P (indexAt 265 t19 block_1) fun t20 =>
 mV P C1 (loadAt 3 t20) fun t21 =>
 pV P (binOp .add 3 t21 (.int .i64 1)) fun t22 =>
 pV P (hNil m_0) fun t23 =>
 pV P (fieldAt 267 t23 3) fun t24 =>
 pV P (indexAt 265 t24 block_1) fun t25 =>
 hU P (storeAt 3 t25 t22) <|
 hF P 289 #[m_0, block_1] fun t28 =>
 hF P 287 #[m_0] fun t30 =>
 R (.bool true))
def S286 : Nat → Scr := scrOf [(4, .take 0 (.take 1 (.take 2 (.take 3 (.take 4 (.take 5 (.take 6 (.take 7 (.take 8 (.take 9 (.sink 10 (.done))))))))))))]
theorem E286 : (fun m_0 block_1 R w => den P S286 28 (bodyOf Go.Proofs.Tryz.f286) (retK P [.tmp 4] R) (frm0 [m_0, block_1]) w) = F286 := by kernel_rfl
theorem O286 : codeOk S286 Go.Proofs.Tryz.f286.ntmps (bodyOf Go.Proofs.Tryz.f286) = true := by kernel_rfl
theorem C286 {m_0 block_1 : Value} {w : World} {R : Value → World → Prop} (h : F286 m_0 block_1 R w) : Calls P 286 #[m_0, block_1] w (fun e w' => ∃ v, e = .returned v ∧ R v w') :=
  calls_of_den wide (scr := S286) (rs := [.tmp 4]) (args := [m_0, block_1]) (fn := Go.Proofs.Tryz.f286) 28 (by kernel_rfl) (by kernel_rfl) (by kernel_rfl) (by kernel_rfl) O286 (Eq.mpr (congrFun (congrFun (congrFun (congrFun E286 m_0) block_1) R) w) h)
theorem H286 {m_0 block_1 : Value} {w : World} {R : Value → World → Prop} (h : F286 m_0 block_1 R w) : hF P 286 #[m_0, block_1] R w := hF_of (by kernel_rfl) (C286 h)
def F287 (m_0 : Value) (R : Value → World → Prop) : World → Prop :=
 hLoop1 (.int .i64 1) fun q_2_1 g2 next3 =>
 hV P (hNil m_0) fun t7 =>
 hV P (fieldAt 267 t7 1) fun t8 =>
 hV P (fieldAt 217 t8 1) fun t9 =>
 hV P (loadAt 3 t9) fun t10 =>
 hV P (binOp .lss 3 q_2_1 t10) fun t11 =>
 hIf t11 (hJ (hV P (binOp .add 3 q_2_1 (.int .i64 1)) fun t13 =>
 next3 t13) fun J67 =>
 hV P (hNil m_0) fun t16 =>
 hV P (fieldAt 267 t16 0) fun t17 =>
 hV P (fieldAt 264 t17 0) fun t18 =>
 hV P (loadAt 257 t18) fun t19 =>
 hF P 276 #[t19, q_2_1] fun t21 =>
 hV P (extract t21 0) fun t22 =>
 hV P (extract t21 1) fun t23 =>
 hDraw fun C4 =>
 hJ (fun (j36_15 : Value) =>
 hPick t23 j36_15 (.bool false) fun t37 =>
 hIf t37 (hV P (hNil m_0) fun t39 =>
 hV P (fieldAt 267 t39 0) fun t40 =>
 hV P (fieldAt 264 t40 0) fun t41 =>
 hV P (loadAt 257 t41) fun t42 =>
 hV P (binOp .sub 3 q_2_1 (.int .i64 1)) fun t44 =>
 hF P 272 #[t42, t44, t22] fun t46 =>
 hF P 292 #[m_0, t22] fun t49 =>
 J67) (J67)) fun J28 =>
 hGuard t23 true (pV P (hNil m_0) fun t28 =>
 pV P (fieldAt 267 t28 4) fun t29 =>
 pV P (indexAt 265 t29 t22) fun t30 =>
 mV P C4 (loadAt 3 t30) fun t31 =>
 pV P (hNil m_0) fun t33 =>
 pV P (fieldAt 267 t33 2) fun t34 =>
 mV P C4 (loadAt 3 t34) fun t35 =>
 pV P (binOp .lss 3 t31 t35) fun t36 =>
 J28 t36) (J28 undef)) (R (.tuple #[]))
def S287 : Nat → Scr := scrOf [(4, .take 0 (.take 1 (.take 2 (.take 3 (.take 4 (.take 5 (.take 6 (.take 7 (.take 8 (.take 9 (.take 10 (.take 11 (.take 12 (.take 13 (.done))))))))))))))), (999999, .take 3 (.take 4 (.done)))]
theorem E287 : (fun m_0 R w => den P S287 31 (bodyOf Go.Proofs.Tryz.f287) (retK P [] R) (frm0 [m_0]) w) = F287 := by kernel_rfl
theorem O287 : codeOk S287 Go.Proofs.Tryz.f287.ntmps (bodyOf Go.Proofs.Tryz.f287) = true := by kernel_rfl
theorem C287 {m_0 : Value} {w : World} {R : Value → World → Prop} (h : F287 m_0 R w) : Calls P 287 #[m_0] w (fun e w' => ∃ v, e = .returned v ∧ R v w') :=
  calls_of_den wide (scr := S287) (rs := []) (args := [m_0]) (fn := Go.Proofs.Tryz.f287) 31 (by kernel_rfl) (by kernel_rfl) (by kernel_rfl) (by kernel_rfl) O287 (Eq.mpr (congrFun (congrFun (congrFun E287 m_0) R) w) h)
theorem H287 {m_0 : Value} {w : World} {R : Value → World → Prop} (h : F287 m_0 R w) : hF P 287 #[m_0] R w := hF_of (by kernel_rfl) (C287 h)
def F288 (m_0 : Value) (R : Value → World → Prop) : World → Prop :=
 hLoop1 (.int .i64 0) fun q_3_1 g2 next3 =>
 hV P (hNil m_0) fun t9 =>
 hV P (fieldAt 267 t9 0) fun t10 =>
 hV P (fieldAt 264 t10 0) fun t11 =>
 hV P (loadAt 257 t11) fun t12 =>
 hF P 269 #[t12, q_3_1] fun t14 =>
 hV P (eqG true .eql 3 t14 (.int .i64 0)) fun t15 =>
 hIf t15 (hV P (binOp .add 3 q_3_1 (.int .i64 1)) fun t17 =>
 next3 t17) (hV P (hNil m_0) fun t20 =>
 hV P (fieldAt 267 t20 0) fun t21 =>
 hV P (fieldAt 264 t21 0) fun t22 =>
 hV P (loadAt 257 t22) fun t23 =>
 hF P 276 #[t23, q_3_1] fun t25 =>
 hV P (extract t25 0) fun t26 =>
 hV P (extract t25 1) fun t27 =>
 hDraw fun C4 =>
 pV P (hNil m_0) fun t29 =>
 pV P (fieldAt 267 t29 0) fun t30 =>
 pV P (fieldAt 264 t30 0) fun t31 =>
 mV P C4 (loadAt 257 t31) fun t32 =>
 hF P 291 #[m_0] fun t34 =>
 hAnd C4 <| hF P 272 #[t32, t34, t26] fun t36 =>
 hDraw fun C5 =>
 pV P (hNil m_0) fun t38 =>
 pV P (fieldAt 267 t38 0) fun t39 =>
 pV P (fieldAt 264 t39 0) fun t40 =>
 mV P C5 (loadAt 257 t40) fun t41 =>
 pV P (hNil m_0) fun t46 =>
 pV P (fieldAt 267 t46 1) fun t47 =>
 pV P (fieldAt 217 t47 3) fun t48 =>
 mV P C5 (loadAt 3 t48) fun t49 =>
 hF P 291 #[m_0] fun t43 =>
 hAnd C5 <| hF P 269 #[t41, t43] fun t44 =>
 hAnd C5 <| pV P (binOp .gtr 3 t44 t49) fun t50 =>
 hIf t50 (hDraw fun C6 =>
 pV P (hNil m_0) fun t53 =>
 pV P (fieldAt 267 t53 0) fun t54 =>
 pV P (fieldAt 264 t54 0) fun t55 =>
 mV P C6 (loadAt 257 t55) fun t56 =>
 hF P 291 #[m_0] fun t58 =>
 hAnd C6 <| hF P 276 #[t56, t58] fun t59 =>
 pV P (extract t59 0) fun t60 =>
 pV P (extract t59 1) fun t61 =>
 hV P (hNil m_0) fun t63 =>
 hV P (fieldAt 267 t63 0) fun t64 =>
 hV P (fieldAt 264 t64 0) fun t65 =>
 hV P (loadAt 257 t65) fun t66 =>
 hF P 271 #[t66, t60] fun t68 =>
 R t26) (R t26))
def S288 : Nat → Scr := scrOf [(5, .take 0 (.take 1 (.take 2 (.take 3 (.take 4 (.take 5 (.take 7 (.alt 6 (.sink 8 (.done)) (.nil))))))))), (6, .take 0 (.take 1 (.take 2 (.take 3 (.take 4 (.take 5 (.take 8 (.take 9 (.take 10 (.take 11 (.take 12 (.alt 6 (.alt 7 (.take 13 (.done)) (.nil)) (.nil))))))))))))), (7, .take 0 (.take 1 (.take 2 (.take 3 (.take 4 (.take 5 (.alt 6 (.sink 7 (.take 8 (.take 9 (.take 10 (.take 11 (.take 12 (.done))))))) (.nil))))))))]
theorem E288 : (fun m_0 R w => den P S288 30 (bodyOf Go.Proofs.Tryz.f288) (retK P [.tmp 2] R) (frm0 [m_0]) w) = F288 := by kernel_rfl
theorem O288 : codeOk S288 Go.Proofs.Tryz.f288.ntmps (bodyOf Go.Proofs.Tryz.f288) = true := by kernel_rfl
theorem C288 {m_0 : Value} {w : World} {R : Value → World → Prop} (h : F288 m_0 R w) : Calls P 288 #[m_0] w (fun e w' => ∃ v, e = .returned v ∧ R v w') :=
  calls_of_den wide (scr := S288) (rs := [.tmp 2]) (args := [m_0]) (fn := Go.Proofs.Tryz.f288) 30 (by kernel_rfl) (by kernel_rfl) (by kernel_rfl) (by kernel_rfl) O288 (Eq.mpr (congrFun (congrFun (congrFun E288 m_0) R) w) h)
theorem H288 {m_0 : Value} {w : World} {R : Value → World → Prop} (h : F288 m_0 R w) : hF P 288 #[m_0] R w := hF_of (by kernel_rfl) (C288 h)
def F289 (m_0 block_1 : Value) (R : Value → World → Prop) : World → Prop :=
 hV P (hNil m_0) fun t7 =>
 hV P (fieldAt 267 t7 3) fun t8 =>
 hV P (indexAt 265 t8 block_1) fun t9 =>
 hV P (loadAt 3 t9) fun t10 =>
 hV P (convert 3 168 t10) fun t11 =>
 hF P 293 #[t11] fun t12 =>
 hV P (binOp .sub 3 t12 (.int .i64 1)) fun t13 =>
 hDraw fun C1 =>
 pV P (hNil m_0) fun t15 =>
 pV P (fieldAt 267 t15 0) fun t16 =>
 pV P (fieldAt 264 t16 0) fun t17 =>
 mV P C1 (loadAt 257 t17) fun t18 =>
 pV P (hNil m_0) fun t21 =>
 pV P (fieldAt 267 t21 1) fun t22 =>
 pV P (fieldAt 217 t22 1) fun t23 =>
 mV P C1 (loadAt 3 t23) fun t24 =>
 pV P (binOp .sub 3 t24 (.int .i64 1)) fun t25 =>
 pV P (Builtin.min_ #[3, 3] 3 #[t13, t25]) fun t26 =>
 hF P 272 #[t18, t26, block_1] fun t28 =>
 hAnd C1 <| hF P 292 #[m_0, block_1] fun t31 =>
 R (.tuple #[])
def S289 : Nat → Scr := scrOf [(1, .take 0 (.take 1 (.take 2 (.take 3 (.take 4 (.take 5 (.take 6 (.take 7 (.take 8 (.take 9 (.take 10 (.take 11 (.take 12 (.take 13 (.alt 14 (.done) (.nil))))))))))))))))]
theorem E289 : (fun m_0 block_1 R w => den P S289 23 (bodyOf Go.Proofs.Tryz.f289) (retK P [] R) (frm0 [m_0, block_1]) w) = F289 := by kernel_rfl
theorem O289 : codeOk S289 Go.Proofs.Tryz.f289.ntmps (bodyOf Go.Proofs.Tryz.f289) = true := by kernel_rfl
theorem C289 {m_0 block_1 : Value} {w : World} {R : Value → World → Prop} (h : F289 m_0 block_1 R w) : Calls P 289 #[m_0, block_1] w (fun e w' => ∃ v, e = .returned v ∧ R v w') :=
  calls_of_den wide (scr := S289) (rs := []) (args := [m_0, block_1]) (fn := Go.Proofs.Tryz.f289) 23 (by kernel_rfl) (by kernel_rfl) (by kernel_rfl) (by kernel_rfl) O289 (Eq.mpr (congrFun (congrFun (congrFun (congrFun E289 m_0) block_1) R) w) h)
theorem H289 {m_0 block_1 : Value} {w : World} {R : Value → World → Prop} (h : F289 m_0 block_1 R w) : hF P 289 #[m_0, block_1] R w := hF_of (by kernel_rfl) (C289 h)
def F290 (m_0 i_1 : Value) (R : Value → World → Prop) : World → Prop :=
 hV P (eqG true .eql 213 m_0 (.pointer none)) fun t6 =>
 hJ (fun (j9_2 : Value) =>
 hPick t6 (.bool true) j9_2 fun t10 =>
 hJ (fun (j18_9 : Value) =>
 hPick t10 (.bool true) j18_9 fun t19 =>
 hIf t19 (R (.slice none 0 0)) (hV P (hNil m_0) fun t21 =>
 hV P (fieldAt 267 t21 0) fun t22 =>
 hV P (fieldAt 264 t22 0) fun t23 =>
 hV P (loadAt 257 t23) fun t24 =>
 hF P 273 #[t24, i_1] fun t26 =>
 R t26)) fun J10 =>
 hGuard t10 false (hV P (hNil m_0) fun t14 =>
 hV P (fieldAt 267 t14 1) fun t15 =>
 hV P (fieldAt 217 t15 1) fun t16 =>
 hV P (loadAt 3 t16) fun t17 =>
 hV P (binOp .geq 3 i_1 t17) fun t18 =>
 J10 t18) (J10 undef)) fun J11 =>
 hGuard t6 false (hV P (binOp .lss 3 i_1 (.int .i64 0)) fun t9 =>
 J11 t9) (J11 undef)
def S290 : Nat → Scr := scrOf []
theorem E290 : (fun m_0 i_1 R w => den P S290 26 (bodyOf Go.Proofs.Tryz.f290) (retK P [.tmp 4] R) (frm0 [m_0, i_1]) w) = F290 := by kernel_rfl
theorem O290 : codeOk S290 Go.Proofs.Tryz.f290.ntmps (bodyOf Go.Proofs.Tryz.f290) = true := by kernel_rfl
theorem C290 {m_0 i_1 : Value} {w : World} {R : Value → World → Prop} (h : F290 m_0 i_1 R w) : Calls P 290 #[m_0, i_1] w (fun e w' => ∃ v, e = .returned v ∧ R v w') :=
  calls_of_den wide (scr := S290) (rs := [.tmp 4]) (args := [m_0, i_1]) (fn := Go.Proofs.Tryz.f290) 26 (by kernel_rfl) (by kernel_rfl) (by kernel_rfl) (by kernel_rfl) O290 (Eq.mpr (congrFun (congrFun (congrFun (congrFun E290 m_0) i_1) R) w) h)
theorem H290 {m_0 i_1 : Value} {w : World} {R : Value → World → Prop} (h : F290 m_0 i_1 R w) : hF P 290 #[m_0, i_1] R w := hF_of (by kernel_rfl) (C290 h)
def F291 (m_0 : Value) (R : Value → World → Prop) : World → Prop :=
 hV P (hNil m_0) fun t4 =>
 hV P (fieldAt 267 t4 1) fun t5 =>
 hV P (fieldAt 217 t5 1) fun t6 =>
 hV P (loadAt 3 t6) fun t7 =>
 R t7
def S291 : Nat → Scr := scrOf []
theorem E291 : (fun m_0 R w => den P S291 23 (bodyOf Go.Proofs.Tryz.f291) (retK P [.tmp 2] R) (frm0 [m_0]) w) = F291 := by kernel_rfl
theorem O291 : codeOk S291 Go.Proofs.Tryz.f291.ntmps (bodyOf Go.Proofs.Tryz.f291) = true := by kernel_rfl
theorem C291 {m_0 : Value} {w : World} {R : Value → World → Prop} (h : F291 m_0 R w) : Calls P 291 #[m_0] w (fun e w' => ∃ v, e = .returned v ∧ R v w') :=
  calls_of_den wide (scr := S291) (rs := [.tmp 2]) (args := [m_0]) (fn := Go.Proofs.Tryz.f291) 23 (by kernel_rfl) (by kernel_rfl) (by kernel_rfl) (by kernel_rfl) O291 (Eq.mpr (congrFun (congrFun (congrFun E291 m_0) R) w) h)
theorem H291 {m_0 : Value} {w : World} {R : Value → World → Prop} (h : F291 m_0 R w) : hF P 291 #[m_0] R w := hF_of (by kernel_rfl) (C291 h)
def F292 (m_0 block_1 : Value) (R : Value → World → Prop) : World → Prop :=
 hDraw fun C1 =>
 pV P (hNil m_0) fun t7 =>
 pV P (fieldAt 267 t7 2) fun t8 =>
 mV P C1 (loadAt 3 t8) fun t9 =>
 pV P (hNil m_0) fun t11 =>
 pV P (fieldAt 267 t11 1) fun t12 =>
 pV P (fieldAt 217 t12 2) fun t13 =>
 mV P C1 (loadAt 3 t13) fun t14 =>
 pV P (binOp .add 3 t9 t14) fun t15 =>
 pV P (hNil m_0) fun t16 =>
 pV P (fieldAt 267 t16 4) fun t17 =>
 pV P (indexAt 265 t17 block_1) fun t18 =>
 hU P (storeAt 3 t18 t15) <|
 R (.tuple #[])
def S292 : Nat → Scr := scrOf [(0, .take 0 (.take 1 (.take 2 (.take 3 (.take 4 (.take 5 (.take 6 (.take 7 (.take 8 (.take 9 (.take 10 (.take 11 (.take 12 (.take 13 (.take 14 (.sink 15 (.done)))))))))))))))))]
theorem E292 : (fun m_0 block_1 R w => den P S292 21 (bodyOf Go.Proofs.Tryz.f292) (retK P [] R) (frm0 [m_0, block_1]) w) = F292 := by kernel_rfl
theorem O292 : codeOk S292 Go.Proofs.Tryz.f292.ntmps (bodyOf Go.Proofs.Tryz.f292) = true := by kernel_rfl
theorem C292 {m_0 block_1 : Value} {w : World} {R : Value → World → Prop} (h : F292 m_0 block_1 R w) : Calls P 292 #[m_0, block_1] w (fun e w' => ∃ v, e = .returned v ∧ R v w') :=
  calls_of_den wide (scr := S292) (rs := []) (args := [m_0, block_1]) (fn := Go.Proofs.Tryz.f292) 21 (by kernel_rfl) (by kernel_rfl) (by kernel_rfl) (by kernel_rfl) O292 (Eq.mpr (congrFun (congrFun (congrFun (congrFun E292 m_0) block_1) R) w) h)
theorem H292 {m_0 block_1 : Value} {w : World} {R : Value → World → Prop} (h : F292 m_0 block_1 R w) : hF P 292 #[m_0, block_1] R w := hF_of (by kernel_rfl) (C292 h)
def F296 (l_0 block_1 : Value) (R : Value → World → Prop) : World → Prop :=
 hV P (eqG true .eql 218 l_0 (.pointer none)) fun t10 =>
 hIf t10 (R (.tuple #[(.int .i64 0), (.bool false), (.int .i64 7)])) (hF P 301 #[l_0, block_1] fun t14 =>
 hIf t14 (R (.tuple #[(.int .i64 0), (.bool false), (.int .i64 0)])) (hV P (hNil l_0) fun t16 =>
 hV P (fieldAt 270 t16 0) fun t17 =>
 hV P (fieldAt 268 t17 0) fun t18 =>
 hV P (loadAt 257 t18) fun t19 =>
 hF P 272 #[t19, (.int .i64 0), block_1] fun t21 =>
 hV P (eqG true .neq 32 t21 (.int .i64 0)) fun t23 =>
 hIf t23 (R (.tuple #[(.int .i64 0), (.bool false), t21])) (hDraw fun C1 =>
 pV P (hNil l_0) fun t28 =>
 pV P (fieldAt 270 t28 1) fun t29 =>
 mV P C1 (loadAt 3 t29) fun t30 =>
 hF P 299 #[l_0] fun t26 =>
 hAnd C1 <| pV P (binOp .leq 3 t26 t30) fun t31 =>
 hIf t31 (R (.tuple #[(.int .i64 0), (.bool false), (.int .i64 0)])) (hV P (hNil l_0) fun t34 =>
 hV P (fieldAt 270 t34 0) fun t35 =>
 hV P (fieldAt 268 t35 0) fun t36 =>
 hV P (loadAt 257 t36) fun t37 =>
 hF P 276 #[t37, (.int .i64 0)] fun t38 =>
 hV P (extract t38 0) fun t39 =>
 hV P (extract t38 1) fun t40 =>
 hV P (hNil l_0) fun t42 =>
 hV P (fieldAt 270 t42 0) fun t43 =>
 hV P (fieldAt 268 t43 0) fun t44 =>
 hV P (loadAt 257 t44) fun t45 =>
 hF P 271 #[t45, t39] fun t47 =>
 R (.tuple #[t39, (.bool true), (.int .i64 0)])))))
def S296 : Nat → Scr := scrOf [(8, .take 0 (.take 2 (.take 3 (.take 4 (.take 5 (.alt 1 (.take 6 (.done)) (.nil)))))))]
theorem E296 : (fun l_0 block_1 R w => den P S296 29 (bodyOf Go.Proofs.Tryz.f296) (retK P [.tmp 4, .tmp 5, .tmp 6] R) (frm0 [l_0, block_1]) w) = F296 := by kernel_rfl
theorem O296 : codeOk S296 Go.Proofs.Tryz.f296.ntmps (bodyOf Go.Proofs.Tryz.f296) = true := by kernel_rfl
theorem C296 {l_0 block_1 : Value} {w : World} {R : Value → World → Prop} (h : F296 l_0 block_1 R w) : Calls P 296 #[l_0, block_1] w (fun e w' => ∃ v, e = .returned v ∧ R v w') :=
  calls_of_den wide (scr := S296) (rs := [.tmp 4, .tmp 5, .tmp 6]) (args := [l_0, block_1]) (fn := Go.Proofs.Tryz.f296) 29 (by kernel_rfl) (by kernel_rfl) (by kernel_rfl) (by kernel_rfl) O296 (Eq.mpr (congrFun (congrFun (congrFun (congrFun E296 l_0) block_1) R) w) h)
theorem H296 {l_0 block_1 : Value} {w : World} {R : Value → World → Prop} (h : F296 l_0 block_1 R w) : hF P 296 #[l_0, block_1] R w := hF_of (by kernel_rfl) (C296 h)
def F297 (l_0 : Value) (R : Value → World → Prop) : World → Prop :=
 hV P (eqG true .eql 218 l_0 (.pointer none)) fun t4 =>
 hIf t4 (R (.slice none 0 0)) (hV P (hNil l_0) fun t6 =>
 hV P (fieldAt 270 t6 0) fun t7 =>
 hV P (fieldAt 268 t7 0) fun t8 =>
 hV P (loadAt 257 t8) fun t9 =>
 hF P 273 #[t9, (.int .i64 0)] fun t10 =>
 R t10)
def S297 : Nat → Scr := scrOf []
theorem E297 : (fun l_0 R w => den P S297 26 (bodyOf Go.Proofs.Tryz.f297) (retK P [.tmp 2] R) (frm0 [l_0]) w) = F297 := by kernel_rfl
theorem O297 : codeOk S297 Go.Proofs.Tryz.f297.ntmps (bodyOf Go.Proofs.Tryz.f297) = true := by kernel_rfl
theorem C297 {l_0 : Value} {w : World} {R : Value → World → Prop} (h : F297 l_0 R w) : Calls P 297 #[l_0] w (fun e w' => ∃ v, e = .returned v ∧ R v w') :=
  calls_of_den wide (scr := S297) (rs := [.tmp 2]) (args := [l_0]) (fn := Go.Proofs.Tryz.f297) 26 (by kernel_rfl) (by kernel_rfl) (by kernel_rfl) (by kernel_rfl) O297 (Eq.mpr (congrFun (congrFun (congrFun E297 l_0) R) w) h)
theorem H297 {l_0 : Value} {w : World} {R : Value → World → Prop} (h : F297 l_0 R w) : hF P 297 #[l_0] R w := hF_of (by kernel_rfl) (C297 h)
def F298 (l_0 block_1 : Value) (R : Value → World → Prop) : World → Prop :=
 hV P (eqG true .eql 218 l_0 (.pointer none)) fun t8 =>
 hIf t8 (R (.bool false)) (hV P (hNil l_0) fun t11 =>
 hV P (fieldAt 270 t11 0) fun t12 =>
 hV P (fieldAt 268 t12 0) fun t13 =>
 hV P (loadAt 257 t13) fun t14 =>
 hF P 274 #[t14, block_1] fun t16 =>
 hV P (extract t16 0) fun t17 =>
 hV P (extract t16 1) fun t18 =>
 R t18)
def S298 : Nat → Scr := scrOf []
theorem E298 : (fun l_0 block_1 R w => den P S298 26 (bodyOf Go.Proofs.Tryz.f298) (retK P [.tmp 4] R) (frm0 [l_0, block_1]) w) = F298 := by kernel_rfl
theorem O298 : codeOk S298 Go.Proofs.Tryz.f298.ntmps (bodyOf Go.Proofs.Tryz.f298) = true := by kernel_rfl
theorem C298 {l_0 block_1 : Value} {w : World} {R : Value → World → Prop} (h : F298 l_0 block_1 R w) : Calls P 298 #[l_0, block_1] w (fun e w' => ∃ v, e = .returned v ∧ R v w') :=
  calls_of_den wide (scr := S298) (rs := [.tmp 4]) (args := [l_0, block_1]) (fn := Go.Proofs.Tryz.f298) 26 (by kernel_rfl) (by kernel_rfl) (by kernel_rfl) (by kernel_rfl) O298 (Eq.mpr (congrFun (congrFun (congrFun (congrFun E298 l_0) block_1) R) w) h)
theorem H298 {l_0 block_1 : Value} {w : World} {R : Value → World → Prop} (h : F298 l_0 block_1 R w) : hF P 298 #[l_0, block_1] R w := hF_of (by kernel_rfl) (C298 h)
def F299 (l_0 : Value) (R : Value → World → Prop) : World → Prop :=
 hV P (eqG true .eql 218 l_0 (.pointer none)) fun t4 =>
 hIf t4 (R (.int .i64 0)) (hV P (hNil l_0) fun t6 =>
 hV P (fieldAt 270 t6 0) fun t7 =>
 hV P (fieldAt 268 t7 0) fun t8 =>
 hV P (loadAt 257 t8) fun t9 =>
 hF P 269 #[t9, (.int .i64 0)] fun t10 =>
 R t10)
def S299 : Nat → Scr := scrOf []
theorem E299 : (fun l_0 R w => den P S299 26 (bodyOf Go.Proofs.Tryz.f299) (retK P [.tmp 2] R) (frm0 [l_0]) w) = F299 := by kernel_rfl
theorem O299 : codeOk S299 Go.Proofs.Tryz.f299.ntmps (bodyOf Go.Proofs.Tryz.f299) = true := by kernel_rfl
theorem C299 {l_0 : Value} {w : World} {R : Value → World → Prop} (h : F299 l_0 R w) : Calls P 299 #[l_0] w (fun e w' => ∃ v, e = .returned v ∧ R v w') :=
  calls_of_den wide (scr := S299) (rs := [.tmp 2]) (args := [l_0]) (fn := Go.Proofs.Tryz.f299) 26 (by kernel_rfl) (by kernel_rfl) (by kernel_rfl) (by kernel_rfl) O299 (Eq.mpr (congrFun (congrFun (congrFun E299 l_0) R) w) h)
theorem H299 {l_0 : Value} {w : World} {R : Value → World → Prop} (h : F299 l_0 R w) : hF P 299 #[l_0] R w := hF_of (by kernel_rfl) (C299 h)
def F300 (l_0 block_1 : Value) (R : Value → World → Prop) : World → Prop :=
 hF P 298 #[l_0, block_1] fun t7 =>
 hGuard t7 true (hV P (hNil l_0) fun t10 =>
 hV P (fieldAt 270 t10 0) fun t11 =>
 hV P (fieldAt 268 t11 0) fun t12 =>
 hV P (loadAt 257 t12) fun t13 =>
 hF P 271 #[t13, block_1] fun t15 =>
 hV P (eqG true .eql 32 t15 (.int .i64 0)) fun t16 =>
 hPick t7 t16 (.bool false) fun t17 =>
 R t17) (hPick t7 undef (.bool false) fun t17 =>
 R t17)
def S300 : Nat → Scr := scrOf []
theorem E300 : (fun l_0 block_1 R w => den P S300 23 (bodyOf Go.Proofs.Tryz.f300) (retK P [.tmp 4] R) (frm0 [l_0, block_1]) w) = F300 := by kernel_rfl
theorem O300 : codeOk S300 Go.Proofs.Tryz.f300.ntmps (bodyOf Go.Proofs.Tryz.f300) = true := by kernel_rfl
theorem C300 {l_0 block_1 : Value} {w : World} {R : Value → World → Prop} (h : F300 l_0 block_1 R w) : Calls P 300 #[l_0, block_1] w (fun e w' => ∃ v, e = .returned v ∧ R v w') :=
  calls_of_den wide (scr := S300) (rs := [.tmp 4]) (args := [l_0, block_1]) (fn := Go.Proofs.Tryz.f300) 23 (by kernel_rfl) (by kernel_rfl) (by kernel_rfl) (by kernel_rfl) O300 (Eq.mpr (congrFun (congrFun (congrFun (congrFun E300 l_0) block_1) R) w) h)
theorem H300 {l_0 block_1 : Value} {w : World} {R : Value → World → Prop} (h : F300 l_0 block_1 R w) : hF P 300 #[l_0, block_1] R w := hF_of (by kernel_rfl) (C300 h)
def F301 (l_0 block_1 : Value) (R : Value → World → Prop) : World → Prop :=
 hF P 298 #[l_0, block_1] fun t7 =>
 hV P (Op.unary .not t7) fun t8 =>
 hIf t8 (R (.bool false)) (hV P (hNil l_0) fun t10 =>
 hV P (fieldAt 270 t10 0) fun t11 =>
 hV P (fieldAt 268 t11 0) fun t12 =>
 hV P (loadAt 257 t12) fun t13 =>
 hF P 272 #[t13, (.int .i64 0), block_1] fun t15 =>
 R (.bool true))
def S301 : Nat → Scr := scrOf []
theorem E301 : (fun l_0 block_1 R w => den P S301 26 (bodyOf Go.Proofs.Tryz.f301) (retK P [.tmp 4] R) (frm0 [l_0, block_1]) w) = F301 := by kernel_rfl
theorem O301 : codeOk S301 Go.Proofs.Tryz.f301.ntmps (bodyOf Go.Proofs.Tryz.f301) = true := by kernel_rfl
theorem C301 {l_0 block_1 : Value} {w : World} {R : Value → World → Prop} (h : F301 l_0 block_1 R w) : Calls P 301 #[l_0, block_1] w (fun e w' => ∃ v, e = .returned v ∧ R v w') :=
  calls_of_den wide (scr := S301) (rs := [.tmp 4]) (args := [l_0, block_1]) (fn := Go.Proofs.Tryz.f301) 26 (by kernel_rfl) (by kernel_rfl) (by kernel_rfl) (by kernel_rfl) O301 (Eq.mpr (congrFun (congrFun (congrFun (congrFun E301 l_0) block_1) R) w) h)
theorem H301 {l_0 block_1 : Value} {w : World} {R : Value → World → Prop} (h : F301 l_0 block_1 R w) : hF P 301 #[l_0, block_1] R w := hF_of (by kernel_rfl) (C301 h)
end Go.Gd
