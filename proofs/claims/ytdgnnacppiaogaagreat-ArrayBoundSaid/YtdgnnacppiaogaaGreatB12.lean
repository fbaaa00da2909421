/- PRINTED by a program of mine (hoas.py): the plain reading of the functions named, each with its equation and the way into it. -/
import Derived.Test.YtdgnnacppiaogaaGreatB2
set_option linter.unusedVariables false
set_option linter.unusedSimpArgs false
set_option maxRecDepth 100000
set_option linter.unusedVariables false
namespace Go.Gd
open Go.Instr
def F213 (l_0 caps_1 : Value) (R : Value → World → Prop) : World → Prop :=
 hV P (box 22 caps_1) fun caps_3 =>
 hV P (Builtin.len_ #[23] 3 #[l_0]) fun t17 =>
 hLoop2 (.int .i64 0) (.slice none 0 0) fun t18_1 f_5_2 g3 next4 =>
 hV P (binOp .lss 3 t18_1 t17) fun t19 =>
 hIf t19 (hV P (indexAt 23 l_0 t18_1) fun t20 =>
 hV P (loadAt 114 t20) fun t21 =>
 hV P (alloc 114 true (.tuple #[])) fun h_7 =>
 hU P (storeAt 114 h_7 t21) <|
 hV P (fieldAt 114 h_7 2) fun t23 =>
 hV P (loadAt 3 t23) fun t24 =>
 hV P (fieldAt 114 h_7 1) fun t25 =>
 hV P (loadAt 3 t25) fun t26 =>
 hV P (build 304 #[(0, t24), (1, t26)]) fun t27 =>
 hV P (buildSlice 302 1 #[(0, t27)]) fun t28 =>
 hV P (Builtin.append_ #[302, 302] 302 #[f_5_2, t28]) fun t29 =>
 hV P (binOp .add 3 t18_1 (.int .i64 1)) fun t30 =>
 next4 t30 t29) (hF P 221 #[f_5_2] fun t33 =>
 hV P (extract t33 0) fun t34 =>
 hV P (extract t33 1) fun t35 =>
 hV P (Builtin.len_ #[23] 3 #[l_0]) fun t37 =>
 hV P (makeSlice 253 t37 t37) fun t38 =>
 hV P (Builtin.len_ #[64] 3 #[t34]) fun t40 =>
 hLoop2 (.int .i64 0) undef fun t41_5 left_13_6 g7 next8 =>
 hV P (binOp .lss 3 t41_5 t40) fun t42 =>
 hIf t42 (hV P (indexAt 64 t34 t41_5) fun t43 =>
 hV P (loadAt 3 t43) fun t44 =>
 hV P (indexAt 23 l_0 t44) fun t47 =>
 hV P (fieldAt 114 t47 1) fun t48 =>
 hV P (loadAt 3 t48) fun t49 =>
 hLoop2 (.int .i64 0) t49 fun t50_9 left_13_10 g11 next12 =>
 hV P (binOp .lss 3 t50_9 (.int .i64 3)) fun t51 =>
 hIf t51 (hV P (indexAt 22 caps_3 t50_9) fun t55 =>
 hV P (loadAt 3 t55) fun t56 =>
 hV P (Builtin.min_ #[3, 3] 3 #[left_13_10, t56]) fun t57 =>
 hV P (indexAt 253 t38 t44) fun t62 =>
 hV P (fieldAt 298 t62 0) fun t63 =>
 hV P (indexAt 119 t63 t50_9) fun t64 =>
 hU P (storeAt 3 t64 t57) <|
 hV P (indexAt 22 caps_3 t50_9) fun t66 =>
 hV P (loadAt 3 t66) fun t67 =>
 hV P (binOp .sub 3 t67 t57) fun t69 =>
 hV P (indexAt 22 caps_3 t50_9) fun t70 =>
 hU P (storeAt 3 t70 t69) <|
 hV P (binOp .sub 3 left_13_10 t57) fun t73 =>
 hV P (binOp .add 3 t50_9 (.int .i64 1)) fun t74 =>
 next12 t74 t73) (hV P (indexAt 253 t38 t44) fun t78 =>
 hV P (fieldAt 298 t78 0) fun t79 =>
 hV P (indexAt 119 t79 (.int .i64 3)) fun t80 =>
 hU P (storeAt 3 t80 left_13_10) <|
 hV P (binOp .add 3 t41_5 (.int .i64 1)) fun t81 =>
 next8 t81 left_13_10)) (R t38))
def S213 : Nat → Scr := scrOf [(999999, .take 12 (.take 14 (.take 15 (.done))))]
theorem E213 : (fun l_0 caps_1 R w => den P S213 48 (bodyOf Go.Proofs.Tryz.f213) (retK P [.tmp 4] R) (frm0 [l_0, caps_1]) w) = F213 := by kernel_rfl
theorem O213 : codeOk S213 Go.Proofs.Tryz.f213.ntmps (bodyOf Go.Proofs.Tryz.f213) = true := by kernel_rfl
theorem C213 {l_0 caps_1 : Value} {w : World} {R : Value → World → Prop} (h : F213 l_0 caps_1 R w) : Calls P 213 #[l_0, caps_1] w (fun e w' => ∃ v, e = .returned v ∧ R v w') :=
  calls_of_den wide (scr := S213) (rs := [.tmp 4]) (args := [l_0, caps_1]) (fn := Go.Proofs.Tryz.f213) 48 (by kernel_rfl) (by kernel_rfl) (by kernel_rfl) (by kernel_rfl) O213 (Eq.mpr (congrFun (congrFun (congrFun (congrFun E213 l_0) caps_1) R) w) h)
theorem H213 {l_0 caps_1 : Value} {w : World} {R : Value → World → Prop} (h : F213 l_0 caps_1 R w) : hF P 213 #[l_0, caps_1] R w := hF_of (by kernel_rfl) (C213 h)
def F214 (s_0 : Value) (R : Value → World → Prop) : World → Prop :=
 hV P (eqG true .eql 253 s_0 (.slice none 0 0)) fun t4 =>
 hIf t4 (R (.slice none 0 0)) (hV P (buildSlice 253 0 #[]) fun t5 =>
 hV P (Builtin.append_ #[253, 253] 253 #[t5, s_0]) fun t7 =>
 R t7)
def S214 : Nat → Scr := scrOf []
theorem E214 : (fun s_0 R w => den P S214 26 (bodyOf Go.Proofs.Tryz.f214) (retK P [.tmp 2] R) (frm0 [s_0]) w) = F214 := by kernel_rfl
theorem O214 : codeOk S214 Go.Proofs.Tryz.f214.ntmps (bodyOf Go.Proofs.Tryz.f214) = true := by kernel_rfl
theorem C214 {s_0 : Value} {w : World} {R : Value → World → Prop} (h : F214 s_0 R w) : Calls P 214 #[s_0] w (fun e w' => ∃ v, e = .returned v ∧ R v w') :=
  calls_of_den wide (scr := S214) (rs := [.tmp 2]) (args := [s_0]) (fn := Go.Proofs.Tryz.f214) 26 (by kernel_rfl) (by kernel_rfl) (by kernel_rfl) (by kernel_rfl) O214 (Eq.mpr (congrFun (congrFun (congrFun E214 s_0) R) w) h)
theorem H214 {s_0 : Value} {w : World} {R : Value → World → Prop} (h : F214 s_0 R w) : hF P 214 #[s_0] R w := hF_of (by kernel_rfl) (C214 h)
def F215 (b_0 at_1 : Value) (R : Value → World → Prop) : World → Prop :=
 hV P (binOp .geq 3 at_1 (.int .i64 0)) fun t6 =>
 hGuard t6 true (hV P (Builtin.len_ #[35] 3 #[b_0]) fun t10 =>
 hV P (binOp .leq 3 at_1 t10) fun t11 =>
 hPick t6 t11 (.bool false) fun t12 =>
 R t12) (hPick t6 undef (.bool false) fun t12 =>
 R t12)
def S215 : Nat → Scr := scrOf []
theorem E215 : (fun b_0 at_1 R w => den P S215 23 (bodyOf Go.Proofs.Tryz.f215) (retK P [.tmp 4] R) (frm0 [b_0, at_1]) w) = F215 := by kernel_rfl
theorem O215 : codeOk S215 Go.Proofs.Tryz.f215.ntmps (bodyOf Go.Proofs.Tryz.f215) = true := by kernel_rfl
theorem C215 {b_0 at_1 : Value} {w : World} {R : Value → World → Prop} (h : F215 b_0 at_1 R w) : Calls P 215 #[b_0, at_1] w (fun e w' => ∃ v, e = .returned v ∧ R v w') :=
  calls_of_den wide (scr := S215) (rs := [.tmp 4]) (args := [b_0, at_1]) (fn := Go.Proofs.Tryz.f215) 23 (by kernel_rfl) (by kernel_rfl) (by kernel_rfl) (by kernel_rfl) O215 (Eq.mpr (congrFun (congrFun (congrFun (congrFun E215 b_0) at_1) R) w) h)
theorem H215 {b_0 at_1 : Value} {w : World} {R : Value → World → Prop} (h : F215 b_0 at_1 R w) : hF P 215 #[b_0, at_1] R w := hF_of (by kernel_rfl) (C215 h)
def F216 (p_0 block_1 tier_2 : Value) (R : Value → World → Prop) : World → Prop :=
 hF P 222 #[p_0, block_1] fun t12 =>
 hV P (extract t12 0) fun t13 =>
 hV P (extract t12 1) fun t14 =>
 hV P (Op.unary .not t14) fun t16 =>
 hJ (fun (j19_2 : Value) =>
 hPick t16 (.bool true) j19_2 fun t20 =>
 hJ (fun (j23_4 : Value) =>
 hPick t20 (.bool true) j23_4 fun t24 =>
 hIf t24 (R (.int .i64 0)) (hV P (hNil p_0) fun t26 =>
 hV P (fieldAt 255 t26 3) fun t27 =>
 hV P (loadAt 253 t27) fun t28 =>
 hV P (binOp .sub 3 tier_2 (.int .i64 1)) fun t31 =>
 hV P (indexAt 253 t28 t13) fun t32 =>
 hV P (fieldAt 298 t32 0) fun t33 =>
 hV P (indexAt 119 t33 t31) fun t34 =>
 hV P (loadAt 3 t34) fun t35 =>
 R t35)) fun J5 =>
 hGuard t20 false (hV P (binOp .gtr 3 tier_2 (.int .i64 3)) fun t23 =>
 J5 t23) (J5 undef)) fun J6 =>
 hGuard t16 false (hV P (binOp .lss 3 tier_2 (.int .i64 1)) fun t19 =>
 J6 t19) (J6 undef)
def S216 : Nat → Scr := scrOf []
theorem E216 : (fun p_0 block_1 tier_2 R w => den P S216 27 (bodyOf Go.Proofs.Tryz.f216) (retK P [.tmp 6] R) (frm0 [p_0, block_1, tier_2]) w) = F216 := by kernel_rfl
theorem O216 : codeOk S216 Go.Proofs.Tryz.f216.ntmps (bodyOf Go.Proofs.Tryz.f216) = true := by kernel_rfl
theorem C216 {p_0 block_1 tier_2 : Value} {w : World} {R : Value → World → Prop} (h : F216 p_0 block_1 tier_2 R w) : Calls P 216 #[p_0, block_1, tier_2] w (fun e w' => ∃ v, e = .returned v ∧ R v w') :=
  calls_of_den wide (scr := S216) (rs := [.tmp 6]) (args := [p_0, block_1, tier_2]) (fn := Go.Proofs.Tryz.f216) 27 (by kernel_rfl) (by kernel_rfl) (by kernel_rfl) (by kernel_rfl) O216 (Eq.mpr (congrFun (congrFun (congrFun (congrFun (congrFun E216 p_0) block_1) tier_2) R) w) h)
theorem H216 {p_0 block_1 tier_2 : Value} {w : World} {R : Value → World → Prop} (h : F216 p_0 block_1 tier_2 R w) : hF P 216 #[p_0, block_1, tier_2] R w := hF_of (by kernel_rfl) (C216 h)
def F221 (l_0 : Value) (R : Value → World → Prop) : World → Prop :=
 hV P (box 302 l_0) fun l_1 =>
 hV P (loadAt 302 l_1) fun t6 =>
 hF P 223 #[t6, (.func (.func 224) #[] #[])] fun t7 =>
 hIf t7 (R (.tuple #[(.slice none 0 0), (.int .i64 6)])) (hV P (loadAt 302 l_1) fun t8 =>
 hV P (Builtin.len_ #[302] 3 #[t8]) fun t9 =>
 hV P (binOp .gtr 3 t9 (.int .i64 1000)) fun t10 =>
 hIf t10 (R (.tuple #[(.slice none 0 0), (.int .i64 4)])) (hV P (loadAt 302 l_1) fun t11 =>
 hV P (Builtin.len_ #[302] 3 #[t11]) fun t12 =>
 hLoop2 (.int .i64 0) (.slice none 0 0) fun t13_1 out_4_2 g3 next4 =>
 hV P (binOp .lss 3 t13_1 t12) fun t14 =>
 hIf t14 (hV P (buildSlice 64 1 #[(0, t13_1)]) fun t18 =>
 hV P (Builtin.append_ #[64, 64] 64 #[out_4_2, t18]) fun t19 =>
 hV P (binOp .add 3 t13_1 (.int .i64 1)) fun t20 =>
 next4 t20 t19) (hV P (makeFunc (.func 227) #[] #[l_1]) fun t22 =>
 hF P 226 #[out_4_2, t22] fun t23 =>
 R (.tuple #[out_4_2, (.int .i64 0)]))))
def S221 : Nat → Scr := scrOf [(999999, .take 5 (.done))]
theorem E221 : (fun l_0 R w => den P S221 34 (bodyOf Go.Proofs.Tryz.f221) (retK P [.tmp 2, .tmp 3] R) (frm0 [l_0]) w) = F221 := by kernel_rfl
theorem O221 : codeOk S221 Go.Proofs.Tryz.f221.ntmps (bodyOf Go.Proofs.Tryz.f221) = true := by kernel_rfl
theorem C221 {l_0 : Value} {w : World} {R : Value → World → Prop} (h : F221 l_0 R w) : Calls P 221 #[l_0] w (fun e w' => ∃ v, e = .returned v ∧ R v w') :=
  calls_of_den wide (scr := S221) (rs := [.tmp 2, .tmp 3]) (args := [l_0]) (fn := Go.Proofs.Tryz.f221) 34 (by kernel_rfl) (by kernel_rfl) (by kernel_rfl) (by kernel_rfl) O221 (Eq.mpr (congrFun (congrFun (congrFun E221 l_0) R) w) h)
theorem H221 {l_0 : Value} {w : World} {R : Value → World → Prop} (h : F221 l_0 R w) : hF P 221 #[l_0] R w := hF_of (by kernel_rfl) (C221 h)
def F222 (p_0 block_1 : Value) (R : Value → World → Prop) : World → Prop :=
 hV P (box 3 block_1) fun block_3 =>
 hV P (eqG true .eql 207 p_0 (.pointer none)) fun t8 =>
 hIf t8 (R (.tuple #[(.int .i64 0), (.bool false)])) (hV P (hNil p_0) fun t10 =>
 hV P (fieldAt 255 t10 2) fun t11 =>
 hV P (loadAt 23 t11) fun t12 =>
 hV P (makeFunc (.func 230) #[] #[block_3]) fun t13 =>
 hF P 229 #[t12, t13] fun t14 =>
 hV P (Builtin.max_ #[3, 3] 3 #[t14, (.int .i64 0)]) fun t16 =>
 hV P (binOp .geq 3 t14 (.int .i64 0)) fun t18 =>
 R (.tuple #[t16, t18]))
def S222 : Nat → Scr := scrOf []
theorem E222 : (fun p_0 block_1 R w => den P S222 26 (bodyOf Go.Proofs.Tryz.f222) (retK P [.tmp 4, .tmp 5] R) (frm0 [p_0, block_1]) w) = F222 := by kernel_rfl
theorem O222 : codeOk S222 Go.Proofs.Tryz.f222.ntmps (bodyOf Go.Proofs.Tryz.f222) = true := by kernel_rfl
theorem C222 {p_0 block_1 : Value} {w : World} {R : Value → World → Prop} (h : F222 p_0 block_1 R w) : Calls P 222 #[p_0, block_1] w (fun e w' => ∃ v, e = .returned v ∧ R v w') :=
  calls_of_den wide (scr := S222) (rs := [.tmp 4, .tmp 5]) (args := [p_0, block_1]) (fn := Go.Proofs.Tryz.f222) 26 (by kernel_rfl) (by kernel_rfl) (by kernel_rfl) (by kernel_rfl) O222 (Eq.mpr (congrFun (congrFun (congrFun (congrFun E222 p_0) block_1) R) w) h)
theorem H222 {p_0 block_1 : Value} {w : World} {R : Value → World → Prop} (h : F222 p_0 block_1 R w) : hF P 222 #[p_0, block_1] R w := hF_of (by kernel_rfl) (C222 h)
def F223 (s_0 f_1 : Value) (R : Value → World → Prop) : World → Prop :=
 hF P 231 #[s_0, f_1] fun t7 =>
 hV P (binOp .geq 3 t7 (.int .i64 0)) fun t8 =>
 R t8
def S223 : Nat → Scr := scrOf []
theorem E223 : (fun s_0 f_1 R w => den P S223 23 (bodyOf Go.Proofs.Tryz.f223) (retK P [.tmp 4] R) (frm0 [s_0, f_1]) w) = F223 := by kernel_rfl
theorem O223 : codeOk S223 Go.Proofs.Tryz.f223.ntmps (bodyOf Go.Proofs.Tryz.f223) = true := by kernel_rfl
theorem C223 {s_0 f_1 : Value} {w : World} {R : Value → World → Prop} (h : F223 s_0 f_1 R w) : Calls P 223 #[s_0, f_1] w (fun e w' => ∃ v, e = .returned v ∧ R v w') :=
  calls_of_den wide (scr := S223) (rs := [.tmp 4]) (args := [s_0, f_1]) (fn := Go.Proofs.Tryz.f223) 23 (by kernel_rfl) (by kernel_rfl) (by kernel_rfl) (by kernel_rfl) O223 (Eq.mpr (congrFun (congrFun (congrFun (congrFun E223 s_0) f_1) R) w) h)
theorem H223 {s_0 f_1 : Value} {w : World} {R : Value → World → Prop} (h : F223 s_0 f_1 R w) : hF P 223 #[s_0, f_1] R w := hF_of (by kernel_rfl) (C223 h)
def F224 (f_0 : Value) (R : Value → World → Prop) : World → Prop :=
 hV P (box 304 f_0) fun f_1 =>
 hV P (loadAt 304 f_1) fun t3 =>
 hF P 225 #[t3] fun t4 =>
 hV P (Op.unary .not t4) fun t5 =>
 R t5
def S224 : Nat → Scr := scrOf []
theorem E224 : (fun f_0 R w => den P S224 23 (bodyOf Go.Proofs.Tryz.f224) (retK P [.tmp 2] R) (frm0 [f_0]) w) = F224 := by kernel_rfl
theorem O224 : codeOk S224 Go.Proofs.Tryz.f224.ntmps (bodyOf Go.Proofs.Tryz.f224) = true := by kernel_rfl
theorem C224 {f_0 : Value} {w : World} {R : Value → World → Prop} (h : F224 f_0 R w) : Calls P 224 #[f_0] w (fun e w' => ∃ v, e = .returned v ∧ R v w') :=
  calls_of_den wide (scr := S224) (rs := [.tmp 2]) (args := [f_0]) (fn := Go.Proofs.Tryz.f224) 23 (by kernel_rfl) (by kernel_rfl) (by kernel_rfl) (by kernel_rfl) O224 (Eq.mpr (congrFun (congrFun (congrFun E224 f_0) R) w) h)
theorem H224 {f_0 : Value} {w : World} {R : Value → World → Prop} (h : F224 f_0 R w) : hF P 224 #[f_0] R w := hF_of (by kernel_rfl) (C224 h)
end Go.Gd
