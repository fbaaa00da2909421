/- PRINTED by a program of mine (hoas.py): the plain reading of the functions named, each with its equation and the way into it. PRINTED by a program of mine (hoas.py): the plain reading of the functions named, each with its equation and the way into it. -/
import Derived.Test.YtdgnnacppiaogaaGreatB2
set_option linter.unusedVariables false
set_option linter.unusedSimpArgs false
set_option maxRecDepth 100000
set_option linter.unusedVariables false
namespace Go.Gd
open Go.Instr
def F183 (p_0 l_1 : Value) (R : Value → World → Prop) : World → Prop :=
 hV P (eqG true .eql 207 p_0 (.pointer none)) fun t7 =>
 hIf t7 (R (.int .i64 7)) (hV P (hNil p_0) fun t11 =>
 hV P (fieldAt 255 t11 0) fun t12 =>
 hV P (loadAt 3 t12) fun t13 =>
 hF P 139 #[l_1, t13] fun t14 =>
 hV P (Op.unary .not t14) fun t15 =>
 hIf t15 (R (.int .i64 14)) (hDraw fun C1 =>
 pV P (hNil p_0) fun t22 =>
 pV P (fieldAt 255 t22 1) fun t23 =>
 mV P C1 (loadAt 22 t23) fun t24 =>
 hF P 58 #[l_1] fun t19 =>
 hAnd C1 <| hF P 213 #[l_1, t24] fun t25 =>
 pV P (hNil p_0) fun t26 =>
 pV P (fieldAt 255 t26 2) fun t27 =>
 hU P (storeAt 23 t27 t19) <|
 pV P (hNil p_0) fun t28 =>
 pV P (fieldAt 255 t28 3) fun t29 =>
 hU P (storeAt 253 t29 t25) <|
 R (.int .i64 0)))
def S183 : Nat → Scr := scrOf [(5, .take 0 (.take 1 (.take 2 (.take 4 (.take 5 (.take 6 (.take 7 (.take 8 (.alt 3 (.sink 9 (.take 10 (.take 11 (.sink 12 (.take 13 (.take 14 (.sink 15 (.done)))))))) (.nil))))))))))]
theorem E183 : (fun p_0 l_1 R w => den P S183 29 (bodyOf Go.Proofs.Tryz.f183) (retK P [.tmp 4] R) (frm0 [p_0, l_1]) w) = F183 := by kernel_rfl
theorem O183 : codeOk S183 Go.Proofs.Tryz.f183.ntmps (bodyOf Go.Proofs.Tryz.f183) = true := by kernel_rfl
theorem C183 {p_0 l_1 : Value} {w : World} {R : Value → World → Prop} (h : F183 p_0 l_1 R w) : Calls P 183 #[p_0, l_1] w (fun e w' => ∃ v, e = .returned v ∧ R v w') :=
  calls_of_den wide (scr := S183) (rs := [.tmp 4]) (args := [p_0, l_1]) (fn := Go.Proofs.Tryz.f183) 29 (by kernel_rfl) (by kernel_rfl) (by kernel_rfl) (by kernel_rfl) O183 (Eq.mpr (congrFun (congrFun (congrFun (congrFun E183 p_0) l_1) R) w) h)
theorem H183 {p_0 l_1 : Value} {w : World} {R : Value → World → Prop} (h : F183 p_0 l_1 R w) : hF P 183 #[p_0, l_1] R w := hF_of (by kernel_rfl) (C183 h)
def F184 (many_0 : Value) (R : Value → World → Prop) : World → Prop :=
 hV P (Builtin.min_ #[3, 3] 3 #[many_0, (.int .i64 40)]) fun t7 =>
 hV P (Builtin.max_ #[3, 3] 3 #[(.int .i64 1), t7]) fun t8 =>
 hV P (makeSlice 288 t8 t8) fun t9 =>
 hV P (build 293 #[(1, t9)]) fun t10 =>
 hV P (box 293 t10) fun t11 =>
 hLoop1 (.int .i64 0) fun t12_1 g2 next3 =>
 hV P (binOp .lss 3 t12_1 (.int .i64 64)) fun t13 =>
 hIf t13 (hV P (hNil t11) fun t17 =>
 hV P (fieldAt 293 t17 0) fun t18 =>
 hV P (indexAt 291 t18 t12_1) fun t19 =>
 hV P (fieldAt 290 t19 0) fun t20 =>
 hU P (storeAt 3 t20 (.int .i64 (-1))) <|
 hV P (binOp .add 3 t12_1 (.int .i64 1)) fun t21 =>
 next3 t21) (hV P (hNil t11) fun t23 =>
 hV P (fieldAt 293 t23 1) fun t24 =>
 hV P (loadAt 288 t24) fun t25 =>
 hV P (Builtin.len_ #[288] 3 #[t25]) fun t26 =>
 hLoop1 (.int .i64 0) fun t27_4 g5 next6 =>
 hV P (binOp .lss 3 t27_4 t26) fun t28 =>
 hIf t28 (hV P (hNil t11) fun t31 =>
 hV P (fieldAt 293 t31 1) fun t32 =>
 hV P (loadAt 288 t32) fun t33 =>
 hV P (build 295 #[(0, (.int .i64 (-1))), (1, (.int .i64 (-1)))]) fun t35 =>
 hV P (indexAt 288 t33 t27_4) fun t36 =>
 hU P (storeAt 295 t36 t35) <|
 hV P (binOp .add 3 t27_4 (.int .i64 1)) fun t37 =>
 next6 t37) (R t11))
def S184 : Nat → Scr := scrOf [(999999, .take 4 (.take 5 (.done)))]
theorem E184 : (fun many_0 R w => den P S184 33 (bodyOf Go.Proofs.Tryz.f184) (retK P [.tmp 2] R) (frm0 [many_0]) w) = F184 := by kernel_rfl
theorem O184 : codeOk S184 Go.Proofs.Tryz.f184.ntmps (bodyOf Go.Proofs.Tryz.f184) = true := by kernel_rfl
theorem C184 {many_0 : Value} {w : World} {R : Value → World → Prop} (h : F184 many_0 R w) : Calls P 184 #[many_0] w (fun e w' => ∃ v, e = .returned v ∧ R v w') :=
  calls_of_den wide (scr := S184) (rs := [.tmp 2]) (args := [many_0]) (fn := Go.Proofs.Tryz.f184) 33 (by kernel_rfl) (by kernel_rfl) (by kernel_rfl) (by kernel_rfl) O184 (Eq.mpr (congrFun (congrFun (congrFun E184 many_0) R) w) h)
theorem H184 {many_0 : Value} {w : World} {R : Value → World → Prop} (h : F184 many_0 R w) : hF P 184 #[many_0] R w := hF_of (by kernel_rfl) (C184 h)
end Go.Gd
set_option maxRecDepth 100000
set_option linter.unusedVariables false
namespace Go.Gd
open Go.Instr
def F265 (c_0 block_1 : Value) (R : Value → World → Prop) : World → Prop :=
 hV P (eqG true .eql 210 c_0 (.pointer none)) fun t8 =>
 hIf t8 (R (.bool false)) (hV P (hNil c_0) fun t11 =>
 hV P (fieldAt 263 t11 0) fun t12 =>
 hV P (fieldAt 261 t12 0) fun t13 =>
 hV P (loadAt 257 t13) fun t14 =>
 hF P 274 #[t14, block_1] fun t16 =>
 hV P (extract t16 0) fun t17 =>
 hV P (extract t16 1) fun t18 =>
 R t18)
def S265 : Nat → Scr := scrOf []
theorem E265 : (fun c_0 block_1 R w => den P S265 26 (bodyOf Go.Proofs.Tryz.f265) (retK P [.tmp 4] R) (frm0 [c_0, block_1]) w) = F265 := by kernel_rfl
theorem O265 : codeOk S265 Go.Proofs.Tryz.f265.ntmps (bodyOf Go.Proofs.Tryz.f265) = true := by kernel_rfl
theorem C265 {c_0 block_1 : Value} {w : World} {R : Value → World → Prop} (h : F265 c_0 block_1 R w) : Calls P 265 #[c_0, block_1] w (fun e w' => ∃ v, e = .returned v ∧ R v w') :=
  calls_of_den wide (scr := S265) (rs := [.tmp 4]) (args := [c_0, block_1]) (fn := Go.Proofs.Tryz.f265) 26 (by kernel_rfl) (by kernel_rfl) (by kernel_rfl) (by kernel_rfl) O265 (Eq.mpr (congrFun (congrFun (congrFun (congrFun E265 c_0) block_1) R) w) h)
theorem H265 {c_0 block_1 : Value} {w : World} {R : Value → World → Prop} (h : F265 c_0 block_1 R w) : hF P 265 #[c_0, block_1] R w := hF_of (by kernel_rfl) (C265 h)
def F267 (c_0 block_1 : Value) (R : Value → World → Prop) : World → Prop :=
 hF P 265 #[c_0, block_1] fun t7 =>
 hGuard t7 true (hV P (hNil c_0) fun t10 =>
 hV P (fieldAt 263 t10 0) fun t11 =>
 hV P (fieldAt 261 t11 0) fun t12 =>
 hV P (loadAt 257 t12) fun t13 =>
 hF P 271 #[t13, block_1] fun t15 =>
 hV P (eqG true .eql 32 t15 (.int .i64 0)) fun t16 =>
 hPick t7 t16 (.bool false) fun t17 =>
 R t17) (hPick t7 undef (.bool false) fun t17 =>
 R t17)
def S267 : Nat → Scr := scrOf []
theorem E267 : (fun c_0 block_1 R w => den P S267 23 (bodyOf Go.Proofs.Tryz.f267) (retK P [.tmp 4] R) (frm0 [c_0, block_1]) w) = F267 := by kernel_rfl
theorem O267 : codeOk S267 Go.Proofs.Tryz.f267.ntmps (bodyOf Go.Proofs.Tryz.f267) = true := by kernel_rfl
theorem C267 {c_0 block_1 : Value} {w : World} {R : Value → World → Prop} (h : F267 c_0 block_1 R w) : Calls P 267 #[c_0, block_1] w (fun e w' => ∃ v, e = .returned v ∧ R v w') :=
  calls_of_den wide (scr := S267) (rs := [.tmp 4]) (args := [c_0, block_1]) (fn := Go.Proofs.Tryz.f267) 23 (by kernel_rfl) (by kernel_rfl) (by kernel_rfl) (by kernel_rfl) O267 (Eq.mpr (congrFun (congrFun (congrFun (congrFun E267 c_0) block_1) R) w) h)
theorem H267 {c_0 block_1 : Value} {w : World} {R : Value → World → Prop} (h : F267 c_0 block_1 R w) : hF P 267 #[c_0, block_1] R w := hF_of (by kernel_rfl) (C267 h)
def F268 (c_0 block_1 : Value) (R : Value → World → Prop) : World → Prop :=
 hF P 265 #[c_0, block_1] fun t9 =>
 hV P (Op.unary .not t9) fun t10 =>
 hIf t10 (R (.bool false)) (hV P (hNil c_0) fun t13 =>
 hV P (fieldAt 263 t13 0) fun t14 =>
 hV P (fieldAt 261 t14 0) fun t15 =>
 hV P (loadAt 257 t15) fun t16 =>
 hF P 274 #[t16, block_1] fun t18 =>
 hV P (extract t18 0) fun t19 =>
 hV P (extract t18 1) fun t20 =>
 hV P (hNil c_0) fun t22 =>
 hV P (fieldAt 263 t22 0) fun t23 =>
 hV P (fieldAt 261 t23 0) fun t24 =>
 hV P (loadAt 257 t24) fun t25 =>
 hF P 272 #[t25, t19, block_1] fun t28 =>
 R (.bool true))
def S268 : Nat → Scr := scrOf []
theorem E268 : (fun c_0 block_1 R w => den P S268 26 (bodyOf Go.Proofs.Tryz.f268) (retK P [.tmp 4] R) (frm0 [c_0, block_1]) w) = F268 := by kernel_rfl
theorem O268 : codeOk S268 Go.Proofs.Tryz.f268.ntmps (bodyOf Go.Proofs.Tryz.f268) = true := by kernel_rfl
theorem C268 {c_0 block_1 : Value} {w : World} {R : Value → World → Prop} (h : F268 c_0 block_1 R w) : Calls P 268 #[c_0, block_1] w (fun e w' => ∃ v, e = .returned v ∧ R v w') :=
  calls_of_den wide (scr := S268) (rs := [.tmp 4]) (args := [c_0, block_1]) (fn := Go.Proofs.Tryz.f268) 26 (by kernel_rfl) (by kernel_rfl) (by kernel_rfl) (by kernel_rfl) O268 (Eq.mpr (congrFun (congrFun (congrFun (congrFun E268 c_0) block_1) R) w) h)
theorem H268 {c_0 block_1 : Value} {w : World} {R : Value → World → Prop} (h : F268 c_0 block_1 R w) : hF P 268 #[c_0, block_1] R w := hF_of (by kernel_rfl) (C268 h)
def F269 (s_0 list_1 : Value) (R : Value → World → Prop) : World → Prop :=
 hF P 275 #[s_0, list_1] fun t7 =>
 hV P (Op.unary .not t7) fun t8 =>
 hIf t8 (R (.int .i64 0)) (hV P (hNil s_0) fun t10 =>
 hV P (fieldAt 293 t10 1) fun t11 =>
 hV P (loadAt 288 t11) fun t12 =>
 hV P (indexAt 288 t12 list_1) fun t14 =>
 hV P (fieldAt 295 t14 2) fun t15 =>
 hV P (loadAt 3 t15) fun t16 =>
 R t16)
def S269 : Nat → Scr := scrOf []
theorem E269 : (fun s_0 list_1 R w => den P S269 26 (bodyOf Go.Proofs.Tryz.f269) (retK P [.tmp 4] R) (frm0 [s_0, list_1]) w) = F269 := by kernel_rfl
theorem O269 : codeOk S269 Go.Proofs.Tryz.f269.ntmps (bodyOf Go.Proofs.Tryz.f269) = true := by kernel_rfl
theorem C269 {s_0 list_1 : Value} {w : World} {R : Value → World → Prop} (h : F269 s_0 list_1 R w) : Calls P 269 #[s_0, list_1] w (fun e w' => ∃ v, e = .returned v ∧ R v w') :=
  calls_of_den wide (scr := S269) (rs := [.tmp 4]) (args := [s_0, list_1]) (fn := Go.Proofs.Tryz.f269) 26 (by kernel_rfl) (by kernel_rfl) (by kernel_rfl) (by kernel_rfl) O269 (Eq.mpr (congrFun (congrFun (congrFun (congrFun E269 s_0) list_1) R) w) h)
theorem H269 {s_0 list_1 : Value} {w : World} {R : Value → World → Prop} (h : F269 s_0 list_1 R w) : hF P 269 #[s_0, list_1] R w := hF_of (by kernel_rfl) (C269 h)
def F270 (c_0 r_1 block_2 : Value) (R : Value → World → Prop) : World → Prop :=
 hV P (hNil c_0) fun t11 =>
 hV P (fieldAt 263 t11 0) fun t12 =>
 hV P (fieldAt 261 t12 0) fun t13 =>
 hV P (loadAt 257 t13) fun t14 =>
 hF P 276 #[t14, r_1] fun t16 =>
 hV P (extract t16 0) fun t17 =>
 hV P (extract t16 1) fun t18 =>
 hV P (hNil c_0) fun t20 =>
 hV P (fieldAt 263 t20 1) fun t21 =>
 hV P (loadAt 207 t21) fun t22 =>
 hF P 262 #[t22, block_2] fun t24 =>
 hIf t24 (hV P (hNil c_0) fun t27 =>
 hV P (fieldAt 263 t27 0) fun t28 =>
 hV P (fieldAt 261 t28 0) fun t29 =>
 hV P (loadAt 257 t29) fun t30 =>
 hF P 277 #[t30, r_1] fun t32 =>
 hV P (extract t32 0) fun t33 =>
 hV P (extract t32 1) fun t34 =>
 R t33) (R t17)
def S270 : Nat → Scr := scrOf []
theorem E270 : (fun c_0 r_1 block_2 R w => den P S270 26 (bodyOf Go.Proofs.Tryz.f270) (retK P [.tmp 6] R) (frm0 [c_0, r_1, block_2]) w) = F270 := by kernel_rfl
theorem O270 : codeOk S270 Go.Proofs.Tryz.f270.ntmps (bodyOf Go.Proofs.Tryz.f270) = true := by kernel_rfl
theorem C270 {c_0 r_1 block_2 : Value} {w : World} {R : Value → World → Prop} (h : F270 c_0 r_1 block_2 R w) : Calls P 270 #[c_0, r_1, block_2] w (fun e w' => ∃ v, e = .returned v ∧ R v w') :=
  calls_of_den wide (scr := S270) (rs := [.tmp 6]) (args := [c_0, r_1, block_2]) (fn := Go.Proofs.Tryz.f270) 26 (by kernel_rfl) (by kernel_rfl) (by kernel_rfl) (by kernel_rfl) O270 (Eq.mpr (congrFun (congrFun (congrFun (congrFun (congrFun E270 c_0) r_1) block_2) R) w) h)
theorem H270 {c_0 r_1 block_2 : Value} {w : World} {R : Value → World → Prop} (h : F270 c_0 r_1 block_2 R w) : hF P 270 #[c_0, r_1, block_2] R w := hF_of (by kernel_rfl) (C270 h)
def F271 (s_0 block_1 : Value) (R : Value → World → Prop) : World → Prop :=
 hV P (eqG true .eql 257 s_0 (.pointer none)) fun t7 =>
 hIf t7 (R (.int .i64 7)) (hF P 278 #[s_0, block_1] fun t11 =>
 hV P (Op.unary .not t11) fun t12 =>
 hIf t12 (R (.int .i64 3)) (hV P (hNil s_0) fun t16 =>
 hV P (fieldAt 293 t16 0) fun t17 =>
 hV P (indexAt 291 t17 block_1) fun t18 =>
 hV P (fieldAt 290 t18 0) fun t19 =>
 hV P (loadAt 3 t19) fun t20 =>
 hV P (eqG true .eql 3 t20 (.int .i64 (-1))) fun t21 =>
 hIf t21 (R (.int .i64 5)) (hF P 279 #[s_0, block_1] fun t24 =>
 R (.int .i64 0))))
def S271 : Nat → Scr := scrOf []
theorem E271 : (fun s_0 block_1 R w => den P S271 31 (bodyOf Go.Proofs.Tryz.f271) (retK P [.tmp 4] R) (frm0 [s_0, block_1]) w) = F271 := by kernel_rfl
theorem O271 : codeOk S271 Go.Proofs.Tryz.f271.ntmps (bodyOf Go.Proofs.Tryz.f271) = true := by kernel_rfl
theorem C271 {s_0 block_1 : Value} {w : World} {R : Value → World → Prop} (h : F271 s_0 block_1 R w) : Calls P 271 #[s_0, block_1] w (fun e w' => ∃ v, e = .returned v ∧ R v w') :=
  calls_of_den wide (scr := S271) (rs := [.tmp 4]) (args := [s_0, block_1]) (fn := Go.Proofs.Tryz.f271) 31 (by kernel_rfl) (by kernel_rfl) (by kernel_rfl) (by kernel_rfl) O271 (Eq.mpr (congrFun (congrFun (congrFun (congrFun E271 s_0) block_1) R) w) h)
theorem H271 {s_0 block_1 : Value} {w : World} {R : Value → World → Prop} (h : F271 s_0 block_1 R w) : hF P 271 #[s_0, block_1] R w := hF_of (by kernel_rfl) (C271 h)
def F272 (s_0 list_1 block_2 : Value) (R : Value → World → Prop) : World → Prop :=
 hF P 280 #[s_0, list_1, block_2] fun t12 =>
 hV P (eqG true .neq 32 t12 (.int .i64 0)) fun t14 =>
 hIf t14 (R t12) (hV P (hNil s_0) fun t17 =>
 hV P (fieldAt 293 t17 1) fun t18 =>
 hV P (loadAt 288 t18) fun t19 =>
 hV P (indexAt 288 t19 list_1) fun t21 =>
 hDraw fun C1 =>
 pV P (hNil t21) fun t26 =>
 pV P (fieldAt 295 t26 0) fun t27 =>
 mV P C1 (loadAt 3 t27) fun t28 =>
 pV P (build 290 #[(0, list_1), (1, (.int .i64 (-1))), (2, t28)]) fun t29 =>
 pV P (hNil s_0) fun t30 =>
 pV P (fieldAt 293 t30 0) fun t31 =>
 pV P (indexAt 291 t31 block_2) fun t32 =>
 hU P (storeAt 290 t32 t29) <|
 hV P (hNil t21) fun t34 =>
 hV P (fieldAt 295 t34 0) fun t35 =>
 hV P (loadAt 3 t35) fun t36 =>
 hV P (eqG true .eql 3 t36 (.int .i64 (-1))) fun t37 =>
 hJ (hV P (hNil t21) fun t54 =>
 hV P (fieldAt 295 t54 0) fun t55 =>
 hU P (storeAt 3 t55 block_2) <|
 hV P (hNil t21) fun t57 =>
 hV P (fieldAt 295 t57 2) fun t58 =>
 hV P (loadAt 3 t58) fun t59 =>
 hV P (binOp .add 3 t59 (.int .i64 1)) fun t60 =>
 hV P (hNil t21) fun t61 =>
 hV P (fieldAt 295 t61 2) fun t62 =>
 hU P (storeAt 3 t62 t60) <|
 R (.int .i64 0)) fun J17 =>
 hIf t37 (hV P (hNil t21) fun t40 =>
 hV P (fieldAt 295 t40 1) fun t41 =>
 hU P (storeAt 3 t41 block_2) <|
 J17) (hDraw fun C2 =>
 pV P (hNil t21) fun t44 =>
 pV P (fieldAt 295 t44 0) fun t45 =>
 mV P C2 (loadAt 3 t45) fun t46 =>
 pV P (hNil s_0) fun t48 =>
 pV P (fieldAt 293 t48 0) fun t49 =>
 pV P (indexAt 291 t49 t46) fun t50 =>
 pV P (fieldAt 290 t50 1) fun t51 =>
 hU P (storeAt 3 t51 block_2) <|
 J17))
def S272 : Nat → Scr := scrOf [(5, .take 0 (.take 1 (.take 2 (.take 3 (.take 4 (.take 5 (.take 6 (.take 7 (.take 8 (.take 9 (.take 10 (.sink 11 (.done))))))))))))), (8, .take 0 (.take 1 (.take 2 (.take 3 (.take 4 (.take 5 (.take 6 (.take 7 (.take 8 (.take 9 (.sink 10 (.done))))))))))))]
theorem E272 : (fun s_0 list_1 block_2 R w => den P S272 29 (bodyOf Go.Proofs.Tryz.f272) (retK P [.tmp 6] R) (frm0 [s_0, list_1, block_2]) w) = F272 := by kernel_rfl
theorem O272 : codeOk S272 Go.Proofs.Tryz.f272.ntmps (bodyOf Go.Proofs.Tryz.f272) = true := by kernel_rfl
theorem C272 {s_0 list_1 block_2 : Value} {w : World} {R : Value → World → Prop} (h : F272 s_0 list_1 block_2 R w) : Calls P 272 #[s_0, list_1, block_2] w (fun e w' => ∃ v, e = .returned v ∧ R v w') :=
  calls_of_den wide (scr := S272) (rs := [.tmp 6]) (args := [s_0, list_1, block_2]) (fn := Go.Proofs.Tryz.f272) 29 (by kernel_rfl) (by kernel_rfl) (by kernel_rfl) (by kernel_rfl) O272 (Eq.mpr (congrFun (congrFun (congrFun (congrFun (congrFun E272 s_0) list_1) block_2) R) w) h)
theorem H272 {s_0 list_1 block_2 : Value} {w : World} {R : Value → World → Prop} (h : F272 s_0 list_1 block_2 R w) : hF P 272 #[s_0, list_1, block_2] R w := hF_of (by kernel_rfl) (C272 h)
def F273 (s_0 list_1 : Value) (R : Value → World → Prop) : World → Prop :=
 hF P 275 #[s_0, list_1] fun t9 =>
 hV P (Op.unary .not t9) fun t10 =>
 hIf t10 (R (.slice none 0 0)) (hV P (hNil s_0) fun t12 =>
 hV P (fieldAt 293 t12 1) fun t13 =>
 hV P (loadAt 288 t13) fun t14 =>
 hV P (indexAt 288 t14 list_1) fun t16 =>
 hV P (fieldAt 295 t16 0) fun t17 =>
 hV P (loadAt 3 t17) fun t18 =>
 hLoop2 t18 (.slice none 0 0) fun b_6_1 out_5_2 g3 next4 =>
 hV P (eqG true .neq 3 b_6_1 (.int .i64 (-1))) fun t20 =>
 hIf t20 (hV P (buildSlice 64 1 #[(0, b_6_1)]) fun t30 =>
 hV P (Builtin.append_ #[64, 64] 64 #[out_5_2, t30]) fun t31 =>
 hV P (hNil s_0) fun t23 =>
 hV P (fieldAt 293 t23 0) fun t24 =>
 hV P (indexAt 291 t24 b_6_1) fun t25 =>
 hV P (fieldAt 290 t25 2) fun t26 =>
 hV P (loadAt 3 t26) fun t27 =>
 next4 t27 t31) (R out_5_2))
def S273 : Nat → Scr := scrOf []
theorem E273 : (fun s_0 list_1 R w => den P S273 31 (bodyOf Go.Proofs.Tryz.f273) (retK P [.tmp 4] R) (frm0 [s_0, list_1]) w) = F273 := by kernel_rfl
theorem O273 : codeOk S273 Go.Proofs.Tryz.f273.ntmps (bodyOf Go.Proofs.Tryz.f273) = true := by kernel_rfl
theorem C273 {s_0 list_1 : Value} {w : World} {R : Value → World → Prop} (h : F273 s_0 list_1 R w) : Calls P 273 #[s_0, list_1] w (fun e w' => ∃ v, e = .returned v ∧ R v w') :=
  calls_of_den wide (scr := S273) (rs := [.tmp 4]) (args := [s_0, list_1]) (fn := Go.Proofs.Tryz.f273) 31 (by kernel_rfl) (by kernel_rfl) (by kernel_rfl) (by kernel_rfl) O273 (Eq.mpr (congrFun (congrFun (congrFun (congrFun E273 s_0) list_1) R) w) h)
theorem H273 {s_0 list_1 : Value} {w : World} {R : Value → World → Prop} (h : F273 s_0 list_1 R w) : hF P 273 #[s_0, list_1] R w := hF_of (by kernel_rfl) (C273 h)
def F274 (s_0 block_1 : Value) (R : Value → World → Prop) : World → Prop :=
 hF P 278 #[s_0, block_1] fun t8 =>
 hV P (Op.unary .not t8) fun t9 =>
 hJ (fun (j18_8 : Value) =>
 hPick t9 (.bool true) j18_8 fun t19 =>
 hIf t19 (R (.tuple #[(.int .i64 0), (.bool false)])) (hV P (hNil s_0) fun t22 =>
 hV P (fieldAt 293 t22 0) fun t23 =>
 hV P (indexAt 291 t23 block_1) fun t24 =>
 hV P (fieldAt 290 t24 0) fun t25 =>
 hV P (loadAt 3 t25) fun t26 =>
 R (.tuple #[t26, (.bool true)]))) fun J9 =>
 hGuard t9 false (hV P (hNil s_0) fun t13 =>
 hV P (fieldAt 293 t13 0) fun t14 =>
 hV P (indexAt 291 t14 block_1) fun t15 =>
 hV P (fieldAt 290 t15 0) fun t16 =>
 hV P (loadAt 3 t16) fun t17 =>
 hV P (eqG true .eql 3 t17 (.int .i64 (-1))) fun t18 =>
 J9 t18) (J9 undef)
def S274 : Nat → Scr := scrOf []
theorem E274 : (fun s_0 block_1 R w => den P S274 26 (bodyOf Go.Proofs.Tryz.f274) (retK P [.tmp 4, .tmp 5] R) (frm0 [s_0, block_1]) w) = F274 := by kernel_rfl
theorem O274 : codeOk S274 Go.Proofs.Tryz.f274.ntmps (bodyOf Go.Proofs.Tryz.f274) = true := by kernel_rfl
theorem C274 {s_0 block_1 : Value} {w : World} {R : Value → World → Prop} (h : F274 s_0 block_1 R w) : Calls P 274 #[s_0, block_1] w (fun e w' => ∃ v, e = .returned v ∧ R v w') :=
  calls_of_den wide (scr := S274) (rs := [.tmp 4, .tmp 5]) (args := [s_0, block_1]) (fn := Go.Proofs.Tryz.f274) 26 (by kernel_rfl) (by kernel_rfl) (by kernel_rfl) (by kernel_rfl) O274 (Eq.mpr (congrFun (congrFun (congrFun (congrFun E274 s_0) block_1) R) w) h)
theorem H274 {s_0 block_1 : Value} {w : World} {R : Value → World → Prop} (h : F274 s_0 block_1 R w) : hF P 274 #[s_0, block_1] R w := hF_of (by kernel_rfl) (C274 h)
def F275 (s_0 l_1 : Value) (R : Value → World → Prop) : World → Prop :=
 hV P (eqG true .neq 257 s_0 (.pointer none)) fun t6 =>
 hJ (fun (j9_2 : Value) =>
 hPick t6 j9_2 (.bool false) fun t10 =>
 hGuard t10 true (hV P (hNil s_0) fun t14 =>
 hV P (fieldAt 293 t14 1) fun t15 =>
 hV P (loadAt 288 t15) fun t16 =>
 hV P (Builtin.len_ #[288] 3 #[t16]) fun t17 =>
 hV P (binOp .lss 3 l_1 t17) fun t18 =>
 hPick t10 t18 (.bool false) fun t19 =>
 R t19) (hPick t10 undef (.bool false) fun t19 =>
 R t19)) fun J10 =>
 hGuard t6 true (hV P (binOp .geq 3 l_1 (.int .i64 0)) fun t9 =>
 J10 t9) (J10 undef)
def S275 : Nat → Scr := scrOf []
theorem E275 : (fun s_0 l_1 R w => den P S275 23 (bodyOf Go.Proofs.Tryz.f275) (retK P [.tmp 4] R) (frm0 [s_0, l_1]) w) = F275 := by kernel_rfl
theorem O275 : codeOk S275 Go.Proofs.Tryz.f275.ntmps (bodyOf Go.Proofs.Tryz.f275) = true := by kernel_rfl
theorem C275 {s_0 l_1 : Value} {w : World} {R : Value → World → Prop} (h : F275 s_0 l_1 R w) : Calls P 275 #[s_0, l_1] w (fun e w' => ∃ v, e = .returned v ∧ R v w') :=
  calls_of_den wide (scr := S275) (rs := [.tmp 4]) (args := [s_0, l_1]) (fn := Go.Proofs.Tryz.f275) 23 (by kernel_rfl) (by kernel_rfl) (by kernel_rfl) (by kernel_rfl) O275 (Eq.mpr (congrFun (congrFun (congrFun (congrFun E275 s_0) l_1) R) w) h)
theorem H275 {s_0 l_1 : Value} {w : World} {R : Value → World → Prop} (h : F275 s_0 l_1 R w) : hF P 275 #[s_0, l_1] R w := hF_of (by kernel_rfl) (C275 h)
def F276 (s_0 list_1 : Value) (R : Value → World → Prop) : World → Prop :=
 hF P 275 #[s_0, list_1] fun t8 =>
 hV P (Op.unary .not t8) fun t9 =>
 hJ (fun (j19_9 : Value) =>
 hPick t9 (.bool true) j19_9 fun t20 =>
 hIf t20 (R (.tuple #[(.int .i64 0), (.bool false)])) (hV P (hNil s_0) fun t22 =>
 hV P (fieldAt 293 t22 1) fun t23 =>
 hV P (loadAt 288 t23) fun t24 =>
 hV P (indexAt 288 t24 list_1) fun t26 =>
 hV P (fieldAt 295 t26 1) fun t27 =>
 hV P (loadAt 3 t27) fun t28 =>
 R (.tuple #[t28, (.bool true)]))) fun J10 =>
 hGuard t9 false (hV P (hNil s_0) fun t12 =>
 hV P (fieldAt 293 t12 1) fun t13 =>
 hV P (loadAt 288 t13) fun t14 =>
 hV P (indexAt 288 t14 list_1) fun t16 =>
 hV P (fieldAt 295 t16 2) fun t17 =>
 hV P (loadAt 3 t17) fun t18 =>
 hV P (eqG true .eql 3 t18 (.int .i64 0)) fun t19 =>
 J10 t19) (J10 undef)
def S276 : Nat → Scr := scrOf []
theorem E276 : (fun s_0 list_1 R w => den P S276 26 (bodyOf Go.Proofs.Tryz.f276) (retK P [.tmp 4, .tmp 5] R) (frm0 [s_0, list_1]) w) = F276 := by kernel_rfl
theorem O276 : codeOk S276 Go.Proofs.Tryz.f276.ntmps (bodyOf Go.Proofs.Tryz.f276) = true := by kernel_rfl
theorem C276 {s_0 list_1 : Value} {w : World} {R : Value → World → Prop} (h : F276 s_0 list_1 R w) : Calls P 276 #[s_0, list_1] w (fun e w' => ∃ v, e = .returned v ∧ R v w') :=
  calls_of_den wide (scr := S276) (rs := [.tmp 4, .tmp 5]) (args := [s_0, list_1]) (fn := Go.Proofs.Tryz.f276) 26 (by kernel_rfl) (by kernel_rfl) (by kernel_rfl) (by kernel_rfl) O276 (Eq.mpr (congrFun (congrFun (congrFun (congrFun E276 s_0) list_1) R) w) h)
theorem H276 {s_0 list_1 : Value} {w : World} {R : Value → World → Prop} (h : F276 s_0 list_1 R w) : hF P 276 #[s_0, list_1] R w := hF_of (by kernel_rfl) (C276 h)
def F277 (s_0 list_1 : Value) (R : Value → World → Prop) : World → Prop :=
 hF P 275 #[s_0, list_1] fun t8 =>
 hV P (Op.unary .not t8) fun t9 =>
 hJ (fun (j19_9 : Value) =>
 hPick t9 (.bool true) j19_9 fun t20 =>
 hIf t20 (R (.tuple #[(.int .i64 0), (.bool false)])) (hV P (hNil s_0) fun t22 =>
 hV P (fieldAt 293 t22 1) fun t23 =>
 hV P (loadAt 288 t23) fun t24 =>
 hV P (indexAt 288 t24 list_1) fun t26 =>
 hV P (fieldAt 295 t26 0) fun t27 =>
 hV P (loadAt 3 t27) fun t28 =>
 R (.tuple #[t28, (.bool true)]))) fun J10 =>
 hGuard t9 false (hV P (hNil s_0) fun t12 =>
 hV P (fieldAt 293 t12 1) fun t13 =>
 hV P (loadAt 288 t13) fun t14 =>
 hV P (indexAt 288 t14 list_1) fun t16 =>
 hV P (fieldAt 295 t16 2) fun t17 =>
 hV P (loadAt 3 t17) fun t18 =>
 hV P (eqG true .eql 3 t18 (.int .i64 0)) fun t19 =>
 J10 t19) (J10 undef)
def S277 : Nat → Scr := scrOf []
theorem E277 : (fun s_0 list_1 R w => den P S277 26 (bodyOf Go.Proofs.Tryz.f277) (retK P [.tmp 4, .tmp 5] R) (frm0 [s_0, list_1]) w) = F277 := by kernel_rfl
theorem O277 : codeOk S277 Go.Proofs.Tryz.f277.ntmps (bodyOf Go.Proofs.Tryz.f277) = true := by kernel_rfl
theorem C277 {s_0 list_1 : Value} {w : World} {R : Value → World → Prop} (h : F277 s_0 list_1 R w) : Calls P 277 #[s_0, list_1] w (fun e w' => ∃ v, e = .returned v ∧ R v w') :=
  calls_of_den wide (scr := S277) (rs := [.tmp 4, .tmp 5]) (args := [s_0, list_1]) (fn := Go.Proofs.Tryz.f277) 26 (by kernel_rfl) (by kernel_rfl) (by kernel_rfl) (by kernel_rfl) O277 (Eq.mpr (congrFun (congrFun (congrFun (congrFun E277 s_0) list_1) R) w) h)
theorem H277 {s_0 list_1 : Value} {w : World} {R : Value → World → Prop} (h : F277 s_0 list_1 R w) : hF P 277 #[s_0, list_1] R w := hF_of (by kernel_rfl) (C277 h)
def F278 (s_0 b_1 : Value) (R : Value → World → Prop) : World → Prop :=
 hV P (eqG true .neq 257 s_0 (.pointer none)) fun t6 =>
 hJ (fun (j9_2 : Value) =>
 hPick t6 j9_2 (.bool false) fun t10 =>
 hGuard t10 true (hV P (binOp .lss 3 b_1 (.int .i64 64)) fun t13 =>
 hPick t10 t13 (.bool false) fun t14 =>
 R t14) (hPick t10 undef (.bool false) fun t14 =>
 R t14)) fun J5 =>
 hGuard t6 true (hV P (binOp .geq 3 b_1 (.int .i64 0)) fun t9 =>
 J5 t9) (J5 undef)
def S278 : Nat → Scr := scrOf []
theorem E278 : (fun s_0 b_1 R w => den P S278 23 (bodyOf Go.Proofs.Tryz.f278) (retK P [.tmp 4] R) (frm0 [s_0, b_1]) w) = F278 := by kernel_rfl
theorem O278 : codeOk S278 Go.Proofs.Tryz.f278.ntmps (bodyOf Go.Proofs.Tryz.f278) = true := by kernel_rfl
theorem C278 {s_0 b_1 : Value} {w : World} {R : Value → World → Prop} (h : F278 s_0 b_1 R w) : Calls P 278 #[s_0, b_1] w (fun e w' => ∃ v, e = .returned v ∧ R v w') :=
  calls_of_den wide (scr := S278) (rs := [.tmp 4]) (args := [s_0, b_1]) (fn := Go.Proofs.Tryz.f278) 23 (by kernel_rfl) (by kernel_rfl) (by kernel_rfl) (by kernel_rfl) O278 (Eq.mpr (congrFun (congrFun (congrFun (congrFun E278 s_0) b_1) R) w) h)
theorem H278 {s_0 b_1 : Value} {w : World} {R : Value → World → Prop} (h : F278 s_0 b_1 R w) : hF P 278 #[s_0, b_1] R w := hF_of (by kernel_rfl) (C278 h)
def F279 (s_0 b_1 : Value) (R : Value → World → Prop) : World → Prop :=
 hV P (hNil s_0) fun t8 =>
 hV P (fieldAt 293 t8 0) fun t9 =>
 hV P (indexAt 291 t9 b_1) fun t10 =>
 hV P (loadAt 290 t10) fun t11 =>
 hV P (alloc 290 true (.tuple #[])) fun n_4 =>
 hU P (storeAt 290 n_4 t11) <|
 hDraw fun C1 =>
 pV P (hNil s_0) fun t13 =>
 pV P (fieldAt 293 t13 1) fun t14 =>
 mV P C1 (loadAt 288 t14) fun t15 =>
 pV P (fieldAt 290 n_4 0) fun t16 =>
 mV P C1 (loadAt 3 t16) fun t17 =>
 pV P (indexAt 288 t15 t17) fun t18 =>
 hV P (fieldAt 290 n_4 1) fun t19 =>
 hV P (loadAt 3 t19) fun t20 =>
 hV P (eqG true .eql 3 t20 (.int .i64 (-1))) fun t21 =>
 hJ (
 hV P (fieldAt 290 n_4 2) fun t36 =>
 hV P (loadAt 3 t36) fun t37 =>
 hV P (eqG true .eql 3 t37 (.int .i64 (-1))) fun t38 =>
 hJ (hV P (hNil t18) fun t54 =>
 hV P (fieldAt 295 t54 2) fun t55 =>
 hV P (loadAt 3 t55) fun t56 =>
 hV P (binOp .sub 3 t56 (.int .i64 1)) fun t57 =>
 hV P (hNil t18) fun t58 =>
 hV P (fieldAt 295 t58 2) fun t59 =>
 hU P (storeAt 3 t59 t57) <|
 hV P (hNil s_0) fun t62 =>
 hV P (fieldAt 293 t62 0) fun t63 =>
 hV P (indexAt 291 t63 b_1) fun t64 =>
 hV P (fieldAt 290 t64 0) fun t65 =>
 hU P (storeAt 3 t65 (.int .i64 (-1))) <|
 R (.tuple #[])) fun J32 =>
 hIf t38 (hV P (fieldAt 290 n_4 1) fun t40 =>
 hV P (loadAt 3 t40) fun t41 =>
 hV P (hNil t18) fun t42 =>
 hV P (fieldAt 295 t42 1) fun t43 =>
 hU P (storeAt 3 t43 t41) <|
 J32) (hDraw fun C17 =>
 pV P (fieldAt 290 n_4 2) fun t45 =>
 mV P C17 (loadAt 3 t45) fun t46 =>
 pV P (fieldAt 290 n_4 1) fun t47 =>
 mV P C17 (loadAt 3 t47) fun t48 =>
 pV P (hNil s_0) fun t49 =>
 pV P (fieldAt 293 t49 0) fun t50 =>
 pV P (indexAt 291 t50 t46) fun t51 =>
 pV P (fieldAt 290 t51 1) fun t52 =>
 hU P (storeAt 3 t52 t48) <|
 J32)) fun J33 =>
 hIf t21 (hV P (fieldAt 290 n_4 2) fun t23 =>
 hV P (loadAt 3 t23) fun t24 =>
 hV P (hNil t18) fun t25 =>
 hV P (fieldAt 295 t25 0) fun t26 =>
 hU P (storeAt 3 t26 t24) <|
 J33) (hDraw fun C2 =>
 pV P (fieldAt 290 n_4 1) fun t28 =>
 mV P C2 (loadAt 3 t28) fun t29 =>
 pV P (fieldAt 290 n_4 2) fun t30 =>
 mV P C2 (loadAt 3 t30) fun t31 =>
 pV P (hNil s_0) fun t32 =>
 pV P (fieldAt 293 t32 0) fun t33 =>
 pV P (indexAt 291 t33 t29) fun t34 =>
 pV P (fieldAt 290 t34 2) fun t35 =>
 hU P (storeAt 3 t35 t31) <|
 J33)
def S279 : Nat → Scr := scrOf [(1, .take 0 (.take 1 (.take 2 (.take 3 (.take 4 (.take 5 (.take 6 (.take 7 (.done))))))))), (4, .take 0 (.take 1 (.take 2 (.take 3 (.take 4 (.take 5 (.take 6 (.take 7 (.take 8 (.sink 9 (.done))))))))))), (7, .take 0 (.take 1 (.take 2 (.take 3 (.take 4 (.take 5 (.take 6 (.take 7 (.take 8 (.sink 9 (.done)))))))))))]
theorem E279 : (fun s_0 b_1 R w => den P S279 27 (bodyOf Go.Proofs.Tryz.f279) (retK P [] R) (frm0 [s_0, b_1]) w) = F279 := by kernel_rfl
theorem O279 : codeOk S279 Go.Proofs.Tryz.f279.ntmps (bodyOf Go.Proofs.Tryz.f279) = true := by kernel_rfl
theorem C279 {s_0 b_1 : Value} {w : World} {R : Value → World → Prop} (h : F279 s_0 b_1 R w) : Calls P 279 #[s_0, b_1] w (fun e w' => ∃ v, e = .returned v ∧ R v w') :=
  calls_of_den wide (scr := S279) (rs := []) (args := [s_0, b_1]) (fn := Go.Proofs.Tryz.f279) 27 (by kernel_rfl) (by kernel_rfl) (by kernel_rfl) (by kernel_rfl) O279 (Eq.mpr (congrFun (congrFun (congrFun (congrFun E279 s_0) b_1) R) w) h)
theorem H279 {s_0 b_1 : Value} {w : World} {R : Value → World → Prop} (h : F279 s_0 b_1 R w) : hF P 279 #[s_0, b_1] R w := hF_of (by kernel_rfl) (C279 h)
def F280 (s_0 l_1 b_2 : Value) (R : Value → World → Prop) : World → Prop :=
 hV P (eqG true .eql 257 s_0 (.pointer none)) fun t9 =>
 hIf t9 (R (.int .i64 7)) (hF P 275 #[s_0, l_1] fun t13 =>
 hV P (Op.unary .not t13) fun t14 =>
 hJ (fun (j19_4 : Value) =>
 hPick t14 (.bool true) j19_4 fun t20 =>
 hIf t20 (R (.int .i64 3)) (hV P (hNil s_0) fun t24 =>
 hV P (fieldAt 293 t24 0) fun t25 =>
 hV P (indexAt 291 t25 b_2) fun t26 =>
 hV P (fieldAt 290 t26 0) fun t27 =>
 hV P (loadAt 3 t27) fun t28 =>
 hV P (eqG true .neq 3 t28 (.int .i64 (-1))) fun t29 =>
 hIf t29 (hF P 279 #[s_0, b_2] fun t32 =>
 R (.int .i64 0)) (R (.int .i64 0)))) fun J20 =>
 hGuard t14 false (hF P 278 #[s_0, b_2] fun t18 =>
 hV P (Op.unary .not t18) fun t19 =>
 J20 t19) (J20 undef))
def S280 : Nat → Scr := scrOf []
theorem E280 : (fun s_0 l_1 b_2 R w => den P S280 30 (bodyOf Go.Proofs.Tryz.f280) (retK P [.tmp 6] R) (frm0 [s_0, l_1, b_2]) w) = F280 := by kernel_rfl
theorem O280 : codeOk S280 Go.Proofs.Tryz.f280.ntmps (bodyOf Go.Proofs.Tryz.f280) = true := by kernel_rfl
theorem C280 {s_0 l_1 b_2 : Value} {w : World} {R : Value → World → Prop} (h : F280 s_0 l_1 b_2 R w) : Calls P 280 #[s_0, l_1, b_2] w (fun e w' => ∃ v, e = .returned v ∧ R v w') :=
  calls_of_den wide (scr := S280) (rs := [.tmp 6]) (args := [s_0, l_1, b_2]) (fn := Go.Proofs.Tryz.f280) 30 (by kernel_rfl) (by kernel_rfl) (by kernel_rfl) (by kernel_rfl) O280 (Eq.mpr (congrFun (congrFun (congrFun (congrFun (congrFun E280 s_0) l_1) b_2) R) w) h)
theorem H280 {s_0 l_1 b_2 : Value} {w : World} {R : Value → World → Prop} (h : F280 s_0 l_1 b_2 R w) : hF P 280 #[s_0, l_1, b_2] R w := hF_of (by kernel_rfl) (C280 h)
def F281 (m_0 block_1 : Value) (R : Value → World → Prop) : World → Prop :=
 hV P (eqG true .eql 213 m_0 (.pointer none)) fun t11 =>
 hIf t11 (R (.tuple #[(.int .i64 0), (.bool false), (.int .i64 7)])) (hV P (binOp .lss 3 block_1 (.int .i64 0)) fun t14 =>
 hJ (fun (j17_2 : Value) =>
 hPick t14 (.bool true) j17_2 fun t18 =>
 hIf t18 (R (.tuple #[(.int .i64 0), (.bool false), (.int .i64 3)])) (hF P 286 #[m_0, block_1] fun t22 =>
 hIf t22 (R (.tuple #[(.int .i64 0), (.bool false), (.int .i64 0)])) (hV P (hNil m_0) fun t24 =>
 hV P (fieldAt 267 t24 2) fun t25 =>
 hV P (loadAt 3 t25) fun t26 =>
 hV P (binOp .add 3 t26 (.int .i64 1)) fun t27 =>
 hV P (hNil m_0) fun t28 =>
 hV P (fieldAt 267 t28 2) fun t29 =>
 hU P (storeAt 3 t29 t27) <|
 hDraw fun C4 =>
 pV P (hNil m_0) fun t33 =>
 pV P (fieldAt 267 t33 1) fun t34 =>
 pV P (fieldAt 217 t34 0) fun t35 =>
 mV P C4 (loadAt 3 t35) fun t36 =>
 hF P 284 #[m_0] fun t31 =>
 hAnd C4 <| pV P (eqG false .eql 3 t31 t36) fun t37 =>
 hJ (fun (j4_5 : Value) (j5_6 : Value) =>
 hV P (hNil m_0) fun t42 =>
 hV P (fieldAt 267 t42 0) fun t43 =>
 hV P (fieldAt 264 t43 0) fun t44 =>
 hV P (loadAt 257 t44) fun t45 =>
 hF P 274 #[t45, block_1] fun t47 =>
 hV P (extract t47 0) fun t48 =>
 hV P (extract t47 1) fun t49 =>
 hV P (Op.unary .not t49) fun t51 =>
 hJ (hDraw fun C14 =>
 pV P (hNil m_0) fun t59 =>
 pV P (fieldAt 267 t59 3) fun t60 =>
 pV P (indexAt 265 t60 block_1) fun t61 =>
 mV P C14 (loadAt 3 t61) fun t62 =>
 pV P (binOp .add 3 t62 (.int .i64 1)) fun t63 =>
 pV P (hNil m_0) fun t64 =>
 pV P (fieldAt 267 t64 3) fun t65 =>
 pV P (indexAt 265 t65 block_1) fun t66 =>
 hU P (storeAt 3 t66 t63) <|
 hF P 289 #[m_0, block_1] fun t69 =>
 hF P 287 #[m_0] fun t71 =>
 R (.tuple #[j4_5, j5_6, (.int .i64 0)])) fun J15 =>
 hIf t51 (hV P (hNil m_0) fun t54 =>
 hV P (fieldAt 267 t54 3) fun t55 =>
 hV P (indexAt 265 t55 block_1) fun t56 =>
 hU P (storeAt 3 t56 (.int .i64 0)) <|
 J15) (J15)) fun J16 =>
 hIf t37 (hF P 288 #[m_0] fun t39 =>
 J16 t39 (.bool true)) (J16 (.int .i64 0) (.bool false))))) fun J3 =>
 hGuard t14 false (hV P (binOp .geq 3 block_1 (.int .i64 64)) fun t17 =>
 J3 t17) (J3 undef))
def S281 : Nat → Scr := scrOf [(8, .take 0 (.take 2 (.take 3 (.take 4 (.take 5 (.take 6 (.alt 1 (.take 7 (.done)) (.nil)))))))), (13, .take 0 (.take 1 (.take 2 (.take 3 (.take 4 (.take 5 (.take 6 (.take 7 (.take 8 (.take 9 (.sink 10 (.done))))))))))))]
theorem E281 : (fun m_0 block_1 R w => den P S281 31 (bodyOf Go.Proofs.Tryz.f281) (retK P [.tmp 4, .tmp 5, .tmp 6] R) (frm0 [m_0, block_1]) w) = F281 := by kernel_rfl
theorem O281 : codeOk S281 Go.Proofs.Tryz.f281.ntmps (bodyOf Go.Proofs.Tryz.f281) = true := by kernel_rfl
theorem C281 {m_0 block_1 : Value} {w : World} {R : Value → World → Prop} (h : F281 m_0 block_1 R w) : Calls P 281 #[m_0, block_1] w (fun e w' => ∃ v, e = .returned v ∧ R v w') :=
  calls_of_den wide (scr := S281) (rs := [.tmp 4, .tmp 5, .tmp 6]) (args := [m_0, block_1]) (fn := Go.Proofs.Tryz.f281) 31 (by kernel_rfl) (by kernel_rfl) (by kernel_rfl) (by kernel_rfl) O281 (Eq.mpr (congrFun (congrFun (congrFun (congrFun E281 m_0) block_1) R) w) h)
theorem H281 {m_0 block_1 : Value} {w : World} {R : Value → World → Prop} (h : F281 m_0 block_1 R w) : hF P 281 #[m_0, block_1] R w := hF_of (by kernel_rfl) (C281 h)
def F282 (m_0 : Value) (R : Value → World → Prop) : World → Prop :=
 hV P (eqG true .eql 213 m_0 (.pointer none)) fun t6 =>
 hIf t6 (R (.slice none 0 0)) (hV P (hNil m_0) fun t8 =>
 hV P (fieldAt 267 t8 1) fun t9 =>
 hV P (fieldAt 217 t9 1) fun t10 =>
 hV P (loadAt 3 t10) fun t11 =>
 hV P (binOp .sub 3 t11 (.int .i64 1)) fun t12 =>
 hLoop2 t12 (.slice none 0 0) fun i_4_1 out_3_2 g3 next4 =>
 hV P (binOp .geq 3 i_4_1 (.int .i64 0)) fun t14 =>
 hIf t14 (hF P 290 #[m_0, i_4_1] fun t20 =>
 hV P (Builtin.append_ #[64, 64] 64 #[out_3_2, t20]) fun t21 =>
 hV P (binOp .sub 3 i_4_1 (.int .i64 1)) fun t16 =>
 next4 t16 t21) (R out_3_2))
def S282 : Nat → Scr := scrOf []
theorem E282 : (fun m_0 R w => den P S282 31 (bodyOf Go.Proofs.Tryz.f282) (retK P [.tmp 2] R) (frm0 [m_0]) w) = F282 := by kernel_rfl
theorem O282 : codeOk S282 Go.Proofs.Tryz.f282.ntmps (bodyOf Go.Proofs.Tryz.f282) = true := by kernel_rfl
theorem C282 {m_0 : Value} {w : World} {R : Value → World → Prop} (h : F282 m_0 R w) : Calls P 282 #[m_0] w (fun e w' => ∃ v, e = .returned v ∧ R v w') :=
  calls_of_den wide (scr := S282) (rs := [.tmp 2]) (args := [m_0]) (fn := Go.Proofs.Tryz.f282) 31 (by kernel_rfl) (by kernel_rfl) (by kernel_rfl) (by kernel_rfl) O282 (Eq.mpr (congrFun (congrFun (congrFun E282 m_0) R) w) h)
theorem H282 {m_0 : Value} {w : World} {R : Value → World → Prop} (h : F282 m_0 R w) : hF P 282 #[m_0] R w := hF_of (by kernel_rfl) (C282 h)
def F283 (m_0 block_1 : Value) (R : Value → World → Prop) : World → Prop :=
 hV P (eqG true .eql 213 m_0 (.pointer none)) fun t8 =>
 hIf t8 (R (.bool false)) (hV P (hNil m_0) fun t11 =>
 hV P (fieldAt 267 t11 0) fun t12 =>
 hV P (fieldAt 264 t12 0) fun t13 =>
 hV P (loadAt 257 t13) fun t14 =>
 hF P 274 #[t14, block_1] fun t16 =>
 hV P (extract t16 0) fun t17 =>
 hV P (extract t16 1) fun t18 =>
 hGuard t18 true (hF P 291 #[m_0] fun t23 =>
 hV P (binOp .lss 3 t17 t23) fun t24 =>
 hPick t18 t24 (.bool false) fun t25 =>
 R t25) (hPick t18 undef (.bool false) fun t25 =>
 R t25))
def S283 : Nat → Scr := scrOf []
theorem E283 : (fun m_0 block_1 R w => den P S283 26 (bodyOf Go.Proofs.Tryz.f283) (retK P [.tmp 4] R) (frm0 [m_0, block_1]) w) = F283 := by kernel_rfl
theorem O283 : codeOk S283 Go.Proofs.Tryz.f283.ntmps (bodyOf Go.Proofs.Tryz.f283) = true := by kernel_rfl
theorem C283 {m_0 block_1 : Value} {w : World} {R : Value → World → Prop} (h : F283 m_0 block_1 R w) : Calls P 283 #[m_0, block_1] w (fun e w' => ∃ v, e = .returned v ∧ R v w') :=
  calls_of_den wide (scr := S283) (rs := [.tmp 4]) (args := [m_0, block_1]) (fn := Go.Proofs.Tryz.f283) 26 (by kernel_rfl) (by kernel_rfl) (by kernel_rfl) (by kernel_rfl) O283 (Eq.mpr (congrFun (congrFun (congrFun (congrFun E283 m_0) block_1) R) w) h)
theorem H283 {m_0 block_1 : Value} {w : World} {R : Value → World → Prop} (h : F283 m_0 block_1 R w) : hF P 283 #[m_0, block_1] R w := hF_of (by kernel_rfl) (C283 h)
def F284 (m_0 : Value) (R : Value → World → Prop) : World → Prop :=
 hV P (eqG true .eql 213 m_0 (.pointer none)) fun t6 =>
 hIf t6 (R (.int .i64 0)) (hV P (hNil m_0) fun t8 =>
 hV P (fieldAt 267 t8 1) fun t9 =>
 hV P (fieldAt 217 t9 1) fun t10 =>
 hV P (loadAt 3 t10) fun t11 =>
 hLoop2 (.int .i64 0) (.int .i64 0) fun t12_1 n_3_2 g3 next4 =>
 hV P (binOp .lss 3 t12_1 t11) fun t13 =>
 hIf t13 (hV P (hNil m_0) fun t17 =>
 hV P (fieldAt 267 t17 0) fun t18 =>
 hV P (fieldAt 264 t18 0) fun t19 =>
 hV P (loadAt 257 t19) fun t20 =>
 hF P 269 #[t20, t12_1] fun t22 =>
 hV P (binOp .add 3 n_3_2 t22) fun t23 =>
 hV P (binOp .add 3 t12_1 (.int .i64 1)) fun t24 =>
 next4 t24 t23) (R n_3_2))
def S284 : Nat → Scr := scrOf [(999999, .take 4 (.done))]
theorem E284 : (fun m_0 R w => den P S284 33 (bodyOf Go.Proofs.Tryz.f284) (retK P [.tmp 2] R) (frm0 [m_0]) w) = F284 := by kernel_rfl
theorem O284 : codeOk S284 Go.Proofs.Tryz.f284.ntmps (bodyOf Go.Proofs.Tryz.f284) = true := by kernel_rfl
theorem C284 {m_0 : Value} {w : World} {R : Value → World → Prop} (h : F284 m_0 R w) : Calls P 284 #[m_0] w (fun e w' => ∃ v, e = .returned v ∧ R v w') :=
  calls_of_den wide (scr := S284) (rs := [.tmp 2]) (args := [m_0]) (fn := Go.Proofs.Tryz.f284) 33 (by kernel_rfl) (by kernel_rfl) (by kernel_rfl) (by kernel_rfl) O284 (Eq.mpr (congrFun (congrFun (congrFun E284 m_0) R) w) h)
theorem H284 {m_0 : Value} {w : World} {R : Value → World → Prop} (h : F284 m_0 R w) : hF P 284 #[m_0] R w := hF_of (by kernel_rfl) (C284 h)
def F285 (m_0 block_1 : Value) (R : Value → World → Prop) : World → Prop :=
 hF P 283 #[m_0, block_1] fun t7 =>
 hGuard t7 true (hV P (hNil m_0) fun t10 =>
 hV P (fieldAt 267 t10 0) fun t11 =>
 hV P (fieldAt 264 t11 0) fun t12 =>
 hV P (loadAt 257 t12) fun t13 =>
 hF P 271 #[t13, block_1] fun t15 =>
 hV P (eqG true .eql 32 t15 (.int .i64 0)) fun t16 =>
 hPick t7 t16 (.bool false) fun t17 =>
 R t17) (hPick t7 undef (.bool false) fun t17 =>
 R t17)
def S285 : Nat → Scr := scrOf []
theorem E285 : (fun m_0 block_1 R w => den P S285 23 (bodyOf Go.Proofs.Tryz.f285) (retK P [.tmp 4] R) (frm0 [m_0, block_1]) w) = F285 := by kernel_rfl
theorem O285 : codeOk S285 Go.Proofs.Tryz.f285.ntmps (bodyOf Go.Proofs.Tryz.f285) = true := by kernel_rfl
theorem C285 {m_0 block_1 : Value} {w : World} {R : Value → World → Prop} (h : F285 m_0 block_1 R w) : Calls P 285 #[m_0, block_1] w (fun e w' => ∃ v, e = .returned v ∧ R v w') :=
  calls_of_den wide (scr := S285) (rs := [.tmp 4]) (args := [m_0, block_1]) (fn := Go.Proofs.Tryz.f285) 23 (by kernel_rfl) (by kernel_rfl) (by kernel_rfl) (by kernel_rfl) O285 (Eq.mpr (congrFun (congrFun (congrFun (congrFun E285 m_0) block_1) R) w) h)
theorem H285 {m_0 block_1 : Value} {w : World} {R : Value → World → Prop} (h : F285 m_0 block_1 R w) : hF P 285 #[m_0, block_1] R w := hF_of (by kernel_rfl) (C285 h)
end Go.Gd
